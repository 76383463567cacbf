/- Texts of this claim, put together: BunN. -/
import Derived.Test.YtenlngclocfnlaaGreatDoorPdA
import Derived.Lib.Builder
import Derived.Lib.AppendStr
import Derived.BigCall
import Derived.Shelf.Strings.Builder1
import Derived.Test.YtenlngclocfnlaaGreatDoorPdJ
import Derived.Laws.IdiomStrings
import Derived.Shelf.Strings.Split
import Derived.Shelf.Strings.Cut
import Derived.Test.YtenlngclocfnlaaGreatDoorPdF
import Derived.Test.YtenlngclocfnlaaGreatDoorPdGD
namespace Go.Proofs.YtenlngclocfnlaaGreatDoor
set_option linter.unusedVariables false
section
open Go.RowKit Go.Shelf
set_option maxRecDepth 100000
def u8s (l:List UInt8):List Value:=l.map fun b=>.int .u8 b.toNat
theorem infoBuilder:(Tryz.prog.info? 90).map (·.size)=some 2:=by kernel_rfl
theorem liesBuilder:liesAt Tryz.prog Tryz.prog.depth 90 (2/Tryz.prog.cellsOf 90) 0 90 1=true:=by kernel_rfl
theorem infoU8:(Tryz.prog.info? 5).map (fun i=>(i.zero,i.size,i.bytes))=some (some (.int .u8 0),1,1):=by kernel_rfl
def Bld (B b:Nat) (l:List UInt8) (w:World):Prop:=Lib.IsBuilder 90 5 B b (u8s l) w
theorem Bld.new (w:World):Bld w.heap.size w.heap.size [] (w.alloc (.cells #[.pointer none,.slice none 0 0] 90)):=Lib.fresh_isBuilder _ _ _
theorem check_new (b:Nat) (w:World) (h0:w.cell? ⟨b,0,none⟩=some (.pointer none)) (hsh:w.shape? b=some (90,2)) (hfz:w.frozen? ⟨b,0,none⟩=false):
  Calls Tryz.prog 97 #[.pointer (some ⟨b,0,none⟩)] w fun e w'=>e=.returned (.tuple #[])∧w'=w.setCell ⟨b,0,none⟩ (.pointer (some ⟨b,0,none⟩)):=by
 obtain ⟨j,hj,hjs⟩:=Option.map_eq_some_iff.1 infoBuilder;go_enter Tryz.func97,Tryz.ntmps97;go_wp2;rw[Lib.run_to_unsafe w ⟨b,0,none⟩ Tryz.underlying88 Tryz.underlying158 hj (by rw[hjs]; decide) hsh (Nat.zero_lt_succ 1)];simp only[Result.andThen];rw[Oper.upon_value];go_wp2;rw[run_callFunc_extern Tryz.func132 (by kernel_rfl) (by kernel_rfl) (by kernel_rfl) (e:=Extern.AbiNoEscape.same) (by kernel_rfl)];rw[Lib.run_noEscape];simp only[Result.andThen];rw[Oper.upon_value];go_wp2;rw[Lib.run_from_unsafe w ⟨b,0,none⟩ Tryz.underlying158 Tryz.underlying88 hj hsh liesBuilder];simp only[Result.andThen];rw[Oper.upon_value];go_wp2;go_end0;exact ⟨rfl,rfl⟩
theorem check_old (b:Nat) (w:World) (h0:w.cell? ⟨b,0,none⟩=some (.pointer (some ⟨b,0,none⟩))):
  Calls Tryz.prog 97 #[.pointer (some ⟨b,0,none⟩)] w fun e w'=>e=.returned (.tuple #[])∧w=w':=by
 obtain ⟨j,hj,hjs⟩:=Option.map_eq_some_iff.1 infoBuilder;go_enter Tryz.func97,Tryz.ntmps97;go_wp2;rw[Lib.run_neq_ptr_same w ⟨b,0,none⟩ Tryz.underlying88 hj];simp only[Result.andThen];rw[Oper.upon_value];go_wp2;go_end0;exact ⟨rfl,rfl⟩
theorem check_any {B b:Nat} {bs:List Value} {w:World} (h:Lib.IsBuilder 90 5 B b bs w):
  Calls Tryz.prog 97 #[.pointer (some ⟨b,0,none⟩)] w fun e w'=>e=.returned (.tuple #[])∧Lib.BuilderAt 90 5 B b (.pointer (some ⟨b,0,none⟩)) bs w'∧Below B w w':=by
 rcases h with h | h
 ·refine (check_new b w h.cell0 h.shape h.frozen0).mono ?_
  rintro e w' ⟨rfl,rfl⟩;exact ⟨rfl,h.used _,(Below.refl B w).setCell (p:=⟨b,0,none⟩) h.1 _⟩
 ·refine (check_old b w h.cell0).mono ?_
  rintro e w' ⟨rfl,rfl⟩;exact ⟨rfl,h,Below.refl B _⟩
set_option maxHeartbeats 2000000 in
theorem writeByte_any {B b:Nat} {l:List UInt8} {w:World} (c:UInt8) (h:Bld B b l w) (hl:l.length≤1000000000) (hB:B≤w.heap.size):
  Calls Tryz.prog 60 #[.pointer (some ⟨b,0,none⟩),.int .u8 c.toNat] w fun e w'=>e=.returned .nilIface∧Bld B b (l++[c]) w'∧Below B w w':=by
 obtain ⟨i0,hi,hz0,hz1,hz2⟩:=info_parts infoU8;have hC:=check_any h;have hu:(u8s l).length=l.length:=by simp[u8s]
 clear h;go_enter Tryz.func60,Tryz.ntmps60;go_wp2_with fail;refine hC.mono ?_;rintro e w1 ⟨rfl,h1,hb1⟩;obtain ⟨hBb,v,hbk,hown,hne⟩:=h1;have c0:w1.cell? ⟨b,0,none⟩=some (.pointer (some ⟨b,0,none⟩)):=by rw[Lib.cell_of_heap hbk]; rfl
 have c1:w1.cell? ⟨b,1,none⟩=some v:=by rw[Lib.cell_of_heap hbk]; rfl
 have hlt:b<w1.heap.size:=(Array.getElem?_eq_some_iff.1 hbk).1;have hs1:=hb1.size;clear hC;go_wp2_with (at_builtin; refine wpList_append_own _ rfl _ _ 22 rfl B 5 i0 (.int .u8 0) 1 1 Tryz.underlying22 hi hz0 hz1 hz2 rfl (by decide) _ _ _ rfl (hown.alloc _) ⟨w1.heap.size,0,none⟩ 1 1 [.int .u8 c.toNat] rfl rfl ?c1 ?c2 ?c3 ?c4 ?c5 ?_)
 case c1=>
  intro j u hj
  match j,hj with
  | 0,hj=>simp at hj; subst hj; simp[Addr.add]
 case c2=>intro u hu; simp at hu; subst hu; rfl
 case c3=>rw[hu]; unfold maxLen; omega
 case c4=>rw[hu]; omega
 case c5=>simp; omega
 intro v' w2 hown' hgrow _;have hb2:w2.heap[b]?=some (.cells #[.pointer (some ⟨b,0,none⟩),v] 90 (0,0)):=by
  rw[hgrow.block b (by simp; omega) (fun e=>hne e.symm),Lib.alloc_old w1 _ b hlt];exact hbk
 have d0:w2.cell? ⟨b,0,none⟩=some (.pointer (some ⟨b,0,none⟩)):=by rw[Lib.cell_of_heap hb2]; rfl
 have d1:w2.cell? ⟨b,1,none⟩=some v:=by rw[Lib.cell_of_heap hb2]; rfl
 have f1:w2.frozen? ⟨b,1,none⟩=false:=Lib.frozen_of_heap hb2 1;obtain ⟨g,cap,hv,_⟩:=own_shape hown';subst hv;have HG:=hdd (((hb1.alloc (by omega) _).grown hgrow (by simp; omega) (fun k hk=>(World.ownsRow.lt hown k hk).1)).setCell (p:=⟨b,1,none⟩) hBb (.slice g (l.length+1) cap));have HP:=hdd (Lib.BuilderAt.put (T:=90) (e:=5) hBb hb2 (bs':=u8s l++[.int .u8 c.toNat]) (by rw[List.length_append,hu]; exact hown') (by decide));clear hown' hgrow hown hbk c0 c1 hb1 hb2;go_wp2;go_ret;exact ⟨rfl,.inr (by rw[show u8s (l++[c])=u8s l++[.int .u8 c.toNat] by simp[u8s]]; exact HP.out),HG.out⟩
def textRen:Go.Shelf.Ren:=⟨fun | 169=>61 | n=>n,fun | 70=>88 | 9=>9 | 0=>0 | 72=>90 | 37=>22 | 127=>123 | 3=>3 | 5=>5 | n=>n,fun | n=>n⟩
theorem textLays:Lays.n169 Tryz.prog textRen:={
 mixed:=by kernel_rfl
 f169:=Tryz.func61.trans (congrArg some (by kernel_rfl))
 t0:=Tryz.underlying0
 a0:=Tryz.isAgg0
 z0:=Tryz.sizeOf0
 v0:=Tryz.zeroValue0
 t3:=Tryz.underlying3
 a3:=Tryz.isAgg3
 z3:=Tryz.sizeOf3
 v3:=Tryz.zeroValue3
 t9:=Tryz.underlying9
 a9:=Tryz.isAgg9
 z9:=Tryz.sizeOf9
 v9:=Tryz.zeroValue9
 t37:=Tryz.underlying22
 a37:=Tryz.isAgg22
 z37:=Tryz.sizeOf22
 v37:=Tryz.zeroValue22
 t70:=Tryz.underlying88
 a70:=Tryz.isAgg88
 z70:=Tryz.sizeOf88
 v70:=Tryz.zeroValue88
 t72:=Tryz.underlying90
 a72:=Tryz.isAgg90
 z72:=Tryz.sizeOf90
 v72:=Tryz.zeroValue90
 t127:=Tryz.underlying123
 a127:=Tryz.isAgg123
 z127:=Tryz.sizeOf123
 v127:=Tryz.zeroValue123 }
theorem textExtra:Builder.Extra Tryz.prog textRen:={
 sizeBuilder:=by kernel_rfl
 liesBuilder:=by kernel_rfl
 t5:=Tryz.underlying5
 a5:=Tryz.isAgg5
 z5:=Tryz.sizeOf5
 v5:=Tryz.zeroValue5
 infoByte:=by kernel_rfl
 cellsByte:=by kernel_rfl
 sizeByte:=by kernel_rfl
 neB5:=by decide }
theorem text_any {B b:Nat} {l:List UInt8} {w:World} (h:Bld B b l w) (hB:B≤w.heap.size):
  Calls Tryz.prog 61 #[.pointer (some ⟨b,0,none⟩)] w fun e w'=>e=.returned (.string ⟨l.toArray⟩)∧Below B w w':=by
 have e:Lib.byteCells l=u8s l:=by simp[Lib.byteCells,u8s]
 exact Any.Builder_String_any textLays textExtra B b l w (by rw[e]; exact h) hB
end
section
open Go.RowKit
set_option maxRecDepth 100000
def dgs (xs:List Int):List UInt8:=xs.map dg
def strV (l:List UInt8):Value:=.string ⟨l.toArray⟩
def allD (xs:List Int):Bool:=xs.all fun x=>inB x 0 9
theorem inB_of {n:Int} (h0:0≤n) (h1:n≤9):inB n 0 9=true:=inB_iff.2 ⟨h0,h1⟩
set_option maxHeartbeats 1000000 in
theorem digits_any {B:Nat} (v:Value) (xs:List Int) (w:World) (h:Ints B w v xs) (hd:allD xs=true) (hl:xs.length≤1000000):
  Calls Tryz.prog 56 #[v] w fun e w'=>e=.returned (strV (dgs xs))∧Below w.heap.size w w':=by
 have HX:=hdd h;obtain ⟨a,cap,rfl,_⟩:=h.opened;have HD:=hdd (List.all_eq_true.1 hd);have HB0:=hdd (Bld.new w);have HBW:=hdd (show Below w.heap.size w (w.alloc (.cells #[.pointer none,.slice none 0 0] 90)) from (Below.refl _ _).alloc (Nat.le_refl _) _);clear h hd;go_enter Tryz.func56,Tryz.ntmps56;go_wp2;go_loopw [8] (fun i wr=>∃ k:Nat,k≤xs.length∧i=.int .i64 k∧Bld w.heap.size w.heap.size (dgs (xs.take k)) wr∧Below w.heap.size w wr) (fun i _=>xs.length-(intOf i).toNat)
 case atStart=>exact ⟨0,Nat.zero_le _,rfl,HB0.out,HBW.out⟩
 case round=>
  obtain ⟨k,hk,rfl,hb,hw⟩:=hrel;obtain ⟨wk,rfl⟩:∃ x,x=wr:=⟨_,rfl⟩
  clear HB0 HBW
  by_cases hlt:k<xs.length
  ·obtain ⟨a',cap',e,_,_,hc⟩:=HX.out.opened
   obtain ⟨b,off,rfl,_,hcs⟩:=hc (by omega);injection e with e1 _ e3;subst e1 e3;have hx:=(Above.of_below (B:=0) hw).cell (Nat.zero_le _) (hcs k hlt);have hin:=HD.out xs[k] (List.getElem_mem hlt);have hln:(dgs (xs.take k)).length≤1000000000:=by simp[dgs]; omega
   have hW:=writeByte_any (dg xs[k]) hb hln hw.size;have HN:=hdd (show dgs (xs.take (k+1))=dgs (xs.take k)++[dg xs[k]] by unfold dgs; rw[List.take_succ_eq_append_getElem hlt,List.map_append]; rfl);have hdg:=dg_toNat hin;obtain ⟨h0,h9⟩:=inB_iff.1 hin;obtain ⟨y,hy⟩:∃ y,y=xs[k]:=⟨_,rfl⟩
   rw[←hy] at hx hW hdg h0 h9 HN;have hcv:((dg y).toNat:Int)=48+y:=by omega
   rw[hcv] at hW;have HB:=hdd hw;have hi0:(0:Int)≤(k:Int):=by omega
   have hi1:(k:Int)<(xs.length:Int):=by omega
   clear hc hcs hin hdg hcv hy hb hw hln;go_wp2_with fail;refine hW.mono ?_;rintro e w2 ⟨rfl,hb2,hw2⟩;have HB2:=hdd hb2;have HW2:=hdd (HB.out.trans hw2);clear hW hb2 hw2;go_wp2;go_roundw
   case rel=>exact ⟨k+1,by omega,by go_num,by rw[HN.out]; exact HB2.out,HW2.out⟩
   case measure=>simp[intOf]; omega
  ·have e:xs.take k=xs:=List.take_of_length_le (by omega)
   rw[e] at hb;have hT:=text_any hb hw.size;have HB:=hdd hw;clear hb e hw;go_wp2_with fail;refine hT.mono ?_;rintro e w2 ⟨rfl,hw2⟩;have HW2:=hdd (HB.out.trans hw2);clear hT hw2;go_wp2;go_ret;exact ⟨rfl,HW2.out⟩
theorem oneByte (w:World) (n:Int) (h0:0≤n) (h1:n≤9):
  (convert 22 9 (.slice (some ⟨w.heap.size,0,none⟩) 1 1)).run Tryz.prog (w.alloc (.cells #[.int .u8 (48+n)] 5))=.ok (.string ⟨[dg n].toArray⟩) (w.alloc (.cells #[.int .u8 (48+n)] 5)):=by
 refine run_convert_bytes_back _ _ _ 5 _ 1 [dg n] Tryz.underlying22 Tryz.underlying5 Tryz.underlying9 ?_;intro j hj;have hj0:j=0:=by simpa using hj
 subst hj0;have e:((dg n).toNat:Int)=48+n:=by have:=dg_toNat (inB_of h0 h1); omega
 simp only[List.getElem_cons_zero,e];simp[Addr.add]
theorem l1Number_any (n:Int) (w:World) (h0:0≤n) (h1:n≤9):
  Calls Tryz.prog 67 #[.int .i64 n] w fun e w'=>e=.returned (strV [dg n])∧Below w.heap.size w w':=by
 have hn:¬n<0:=by omega
 have hn2:n<10:=by omega
 have hcv:=oneByte w n h0 h1;have HB:=hdd (show Below w.heap.size w (w.alloc (.cells #[.int .u8 (48+n)] 5)) from (Below.refl _ _).alloc (Nat.le_refl _) _);go_enter Tryz.func67,Tryz.ntmps67;go_wp2;go_ret;exact ⟨rfl,HB.out⟩
set_option maxHeartbeats 1000000 in
theorem l15Code_any {B:Nat} (v:Value) (xs:List Int) (w:World) (h:Ints B w v xs) (hd:allD xs=true) (hl:xs.length≤1000000):
  Calls Tryz.prog 69 #[v] w fun e w'=>e=.returned (strV (dgs xs))∧Below w.heap.size w w':=by
 have HX:=hdd h;obtain ⟨a,cap,rfl,_⟩:=h.opened;have HD:=hdd (List.all_eq_true.1 hd);clear h hd;go_enter Tryz.func69,Tryz.ntmps69;go_wp2;go_loopw [3,4] (fun s i wr=>∃ k:Nat,k≤xs.length∧i=.int .i64 k∧s=strV (dgs (xs.take k))∧Below w.heap.size w wr) (fun _ i _=>xs.length-(intOf i).toNat)
 case atStart=>exact ⟨0,Nat.zero_le _,rfl,rfl,Below.refl _ _⟩
 case round=>
  obtain ⟨k,hk,rfl,rfl,hw⟩:=hrel;obtain ⟨wk,rfl⟩:∃ x,x=wr:=⟨_,rfl⟩
  by_cases hlt:k<xs.length
  ·obtain ⟨a',cap',e,_,_,hc⟩:=HX.out.opened
   obtain ⟨b,off,rfl,_,hcs⟩:=hc (by omega);injection e with e1 _ e3;subst e1 e3;have hx:=(Above.of_below (B:=0) hw).cell (Nat.zero_le _) (hcs k hlt);have hin:=HD.out xs[k] (List.getElem_mem hlt);obtain ⟨h0,h9⟩:=inB_iff.1 hin;have hN:=l1Number_any xs[k] wk h0 h9;have HN:=hdd (show dgs (xs.take (k+1))=dgs (xs.take k)++[dg xs[k]] by unfold dgs; rw[List.take_succ_eq_append_getElem hlt,List.map_append]; rfl);obtain ⟨y,hy⟩:∃ y,y=xs[k]:=⟨_,rfl⟩
   rw[←hy] at hx hN h0 h9 HN;have HB:=hdd hw;have hi0:(0:Int)≤(k:Int):=by omega
   have hi1:(k:Int)<(xs.length:Int):=by omega
   have hlk:(dgs (xs.take k)).length≤1000000:=by unfold dgs; simp; omega
   obtain ⟨L,hL⟩:∃ L,L=dgs (xs.take k):=⟨_,rfl⟩
   rw[←hL] at hlk HN ⊢;clear hc hcs hin hy hw hL;unfold strV at hN ⊢;go_wp2_with fail;refine hN.mono ?_;rintro e w2 ⟨rfl,hw2⟩;have HW2:=hdd (HB.out.trans (hw2.mono HB.out.size));clear hN hw2;go_wp2;go_roundw
   case rel=>exact ⟨k+1,by omega,by go_num,by rw[HN.out]; exact congrArg Value.string (ByteArray.mk_append_mk L [dg y]),HW2.out⟩
   case measure=>simp[intOf]; omega
  ·have e:xs.take k=xs:=List.take_of_length_le (by omega)
   rw[e];have HB:=hdd hw;clear e hw;unfold strV;go_wp2;go_ret;exact ⟨rfl,HB.out⟩
def RowOut (l:List UInt8) (w:World) (e:Ending) (w':World):Prop:=
 ∃ a cap,e=.returned (.tuple #[.slice a (rowX l).length cap,.bool (rowB l)])∧OwnI w.heap.size w' (.slice a (rowX l).length cap) (rowX l)∧Below w.heap.size w w'
theorem rowX_in (l:List UInt8):∀ y∈rowX l,In64 y:=by
 intro y hy;unfold rowX at hy
 split at hy
 ·obtain ⟨b,hb,rfl⟩:=List.mem_map.1 hy
  have:=b.toNat_lt;unfold ud In64; omega
 ·cases hy
theorem byte_at (l:List UInt8) (k:Nat) (h:k<l.length) (W:World):(Instr.index 9 (.string ⟨l.toArray⟩) (.int .i64 k)).run Tryz.prog W=.ok (.int .u8 (l[k].toNat:Int)) W:=by
 rw[run_index_string W 9 _ _ _ Tryz.underlying9];rw[dif_pos ⟨by omega,by simp only[ByteArray.size,List.size_toArray]; omega⟩]
 rfl
theorem take_all {l:List UInt8} {k:Nat} (h:k<l.length) (ha:(l.take k).all isD=true) (hb:isD l[k]=true):(l.take (k+1)).all isD=true∧(l.take (k+1)).map ud=(l.take k).map ud++[ud l[k]]:=by
 rw[List.take_succ_eq_append_getElem h,List.all_append,ha,List.map_append];simp[hb]
set_option maxHeartbeats 1000000 in
theorem l15Row_any (l:List UInt8) (w:World) (hl:l.length≤4000000):
  Calls Tryz.prog 83 #[strV l] w (RowOut l w):=by
 have HB0:=hdd (show Below w.heap.size w (w.alloc (.cells #[] 3)) from (Below.refl _ _).alloc (Nat.le_refl _) _);have HO0:=hdd (OwnI.lit w);unfold strV;go_enter Tryz.func83,Tryz.ntmps83;go_wp2;go_loopw [4,5] (fun s i wr=>∃ (k:Nat) (a:Option Addr) (cap:Nat),k≤l.length∧i=.int .i64 k∧s=.slice a k cap∧(l.take k).all isD=true∧OwnI w.heap.size wr (.slice a k cap) ((l.take k).map ud)∧Below w.heap.size w wr) (fun _ i _=>l.length-(intOf i).toNat)
 case atStart=>exact ⟨0,_,_,Nat.zero_le _,rfl,rfl,rfl,HO0.out,HB0.out⟩
 case round=>
  obtain ⟨k,a,cap,hk,rfl,rfl,hall,ho,hw⟩:=hrel;obtain ⟨wk,rfl⟩:∃ x,x=wr:=⟨_,rfl⟩
  clear HB0 HO0
  by_cases hlt:k<l.length
  ·have hi0:(0:Int)≤(k:Int):=by omega
   have hi1:(k:Int)<(l.length:Int):=by omega
   have hx:=byte_at l k hlt;have HW:=hdd hw
   rcases hin:isD l[k] with _ | _
   ·have HR:=hdd (row_bad ⟨l[k],List.getElem_mem hlt,hin⟩)
    have hc:¬(48≤l[k].toNat∧l[k].toNat≤57):=fun q=>by rw[isD_iff.2 q] at hin; cases hin
    obtain ⟨c,hcc⟩:∃ c,c=l[k].toNat:=⟨_,rfl⟩
    rw[←hcc] at hx hc;clear hin hcc hw ho
    by_cases h48:(c:Int)<48
    ·clear hc
     go_wp2;go_ret2;exact ⟨some ⟨wk.heap.size,0,none⟩,0,by rw[HR.out.1,HR.out.2]; rfl,by rw[HR.out.1]; exact (OwnI.lit wk).mono HW.out.size,HW.out.alloc HW.out.size _⟩
    ·have h57:(57:Int)<(c:Int):=by omega
     clear hc;go_wp2;go_ret2;exact ⟨some ⟨wk.heap.size,0,none⟩,0,by rw[HR.out.1,HR.out.2]; rfl,by rw[HR.out.1]; exact (OwnI.lit wk).mono HW.out.size,HW.out.alloc HW.out.size _⟩
   ·have HN:=hdd (take_all hlt hall hin)
    have hc:=isD_iff.1 hin;have hud:ud l[k]=(l[k].toNat:Int)-48:=rfl;obtain ⟨c,hcc⟩:∃ c,c=l[k].toNat:=⟨_,rfl⟩
    rw[←hcc] at hx hc hud;rw[hud] at HN;have h48:¬((c:Int)<48):=by omega
    have h57:¬((57:Int)<(c:Int)):=by omega
    have HO:=hdd ho;have HLEN:=hdd (show ((l.take k).map ud).length=k by simp; omega);clear hin hcc hw ho hud;go_wp2_with (at_builtin; refine wpList_push_int _ rfl (.tmp 24) (.tmp 30) rfl w.heap.size (.slice a k cap) ((l.take k).map ud) rfl (World.ownsRow.alloc HO.out _) ⟨wk.heap.size,0,none⟩ 1 ((c:Int)-48) rfl (by simp) (by rw[HLEN.out]; omega) (by have:=HW.out.size; simp; omega) ?_; intro a7 c7 w7 ho7 hg7; rw[HLEN.out] at ho7 ⊢; have HB7:=hdd ((HW.out.alloc HW.out.size _).grown hg7 (by have:=HW.out.size; simp; omega) (fun q hq=>(World.ownsRow.lt HO.out q hq).1)); have HO7:=hdd ho7; clear ho7 hg7);go_roundw
    case rel=>exact ⟨k+1,a7,c7,by omega,by go_num,rfl,HN.out.1,by rw[HN.out.2]; exact HO7.out,HB7.out⟩
    case measure=>simp[intOf]; omega
  ·have e:l.take k=l:=List.take_of_length_le (by omega)
   have hkl:k=l.length:=by omega
   rw[e] at hall ho;have HR:=hdd (row_good hall);have HO:=hdd ho;have HW:=hdd hw;subst hkl;clear e hall ho hw;go_wp2;go_ret2;refine ⟨a,cap,?_,?_,HW.out⟩
   ·rw[HR.out.1,HR.out.2,List.length_map]
    first | rfl | simp
   ·rw[HR.out.1,List.length_map]; exact HO.out
theorem bytes_made (l:List UInt8) (w:World):∃ cap w1,(convert 9 22 (.string ⟨l.toArray⟩)).run Tryz.prog w=.ok (.slice (some ⟨w.heap.size,0,none⟩) l.length cap) w1∧Below w.heap.size w w1∧w1.heap.size=w.heap.size+1 ∧
  ∀ k (h:k<l.length),w1.cell? ⟨w.heap.size,k,none⟩=some (.int .u8 (l[k].toNat:Int)):=by
 have h:=run_bytes_of_string (P:=Tryz.prog) w 9 22 5 ⟨l.toArray⟩ Tryz.underlying9 Tryz.underlying22 Tryz.underlying5;have hs:(⟨l.toArray⟩:ByteArray).size=l.length:=by simp[ByteArray.size]
 rw[hs] at h;refine ⟨_,_,h,(Below.refl _ w).drew.alloc (Nat.le_refl _) _,by simp,fun k hk=>?_⟩;have hh:=heap_alloc_new w.drew (.cells (bytesRow ⟨l.toArray⟩ (grownCap w l.length 0 5)) 5 ((bytesRow ⟨l.toArray⟩ (grownCap w l.length 0 5)).size,(bytesRow ⟨l.toArray⟩ (grownCap w l.length 0 5)).size+1));have hc:=cell_of_row _ _ k _ _ _ hh;refine hc.trans ?_;unfold bytesRow;rw[Array.getElem?_append_left (by simpa using hk)];simp[hk]
set_option maxHeartbeats 1000000 in
theorem digitsOf_any (l:List UInt8) (w:World) (hl:l.length≤4000000):
  Calls Tryz.prog 82 #[strV l] w (RowOut l w):=by
 obtain ⟨cp,w1,hcv,hb1,hs1,hcells⟩:=bytes_made l w;have HCE:=hdd hcells;have HB1:=hdd hb1;clear hcells hb1;unfold strV;go_enter Tryz.func82,Tryz.ntmps82;go_wp2;clear hcv;go_loopw [4,10] (fun s i wr=>∃ (k:Nat) (a:Option Addr) (cap:Nat),k≤l.length∧i=.int .i64 k∧s=.slice a k cap∧(l.take k).all isD=true∧OwnI w1.heap.size wr (.slice a k cap) ((l.take k).map ud)∧Below w1.heap.size w1 wr) (fun _ i _=>l.length-(intOf i).toNat)
 case atStart=>exact ⟨0,none,0,Nat.zero_le _,rfl,rfl,rfl,OwnI.empty _ _,Below.refl _ _⟩
 case round=>
  obtain ⟨k,a,cap,hk,rfl,rfl,hall,ho,hw⟩:=hrel;obtain ⟨wk,rfl⟩:∃ x,x=wr:=⟨_,rfl⟩
  have HW:=hdd hw
  by_cases hlt:k<l.length
  ·have hi0:(0:Int)≤(k:Int):=by omega
   have hi1:(k:Int)<(l.length:Int):=by omega
   have hx:=(hw.cell (p:=⟨w.heap.size,k,none⟩) (by simp; omega)).trans (HCE.out k hlt)
   rcases hin:isD l[k] with _ | _
   ·have HR:=hdd (row_bad ⟨l[k],List.getElem_mem hlt,hin⟩)
    have hc:¬(48≤l[k].toNat∧l[k].toNat≤57):=fun q=>by rw[isD_iff.2 q] at hin; cases hin
    obtain ⟨c,hcc⟩:∃ c,c=l[k].toNat:=⟨_,rfl⟩
    rw[←hcc] at hx hc;clear hin hcc hw ho
    by_cases h48:(c:Int)<48
    ·clear hc
     go_wp2;go_ret2;exact ⟨none,0,by rw[HR.out.1,HR.out.2]; rfl,by rw[HR.out.1]; exact OwnI.empty _ _,HB1.out.trans (HW.out.mono HB1.out.size)⟩
    ·have h57:(57:Int)<(c:Int):=by omega
     clear hc;go_wp2;go_ret2;exact ⟨none,0,by rw[HR.out.1,HR.out.2]; rfl,by rw[HR.out.1]; exact OwnI.empty _ _,HB1.out.trans (HW.out.mono HB1.out.size)⟩
   ·have HN:=hdd (take_all hlt hall hin)
    have hc:=isD_iff.1 hin;have hud:ud l[k]=(l[k].toNat:Int)-48:=rfl;obtain ⟨c,hcc⟩:∃ c,c=l[k].toNat:=⟨_,rfl⟩
    rw[←hcc] at hx hc hud;rw[hud] at HN;have h48:¬((c:Int)<48):=by omega
    have h57:¬((57:Int)<(c:Int)):=by omega
    have HO:=hdd ho;have HLEN:=hdd (show ((l.take k).map ud).length=k by simp; omega);clear hin hcc hw ho hud;go_wp2_with (at_builtin; refine wpList_push_int _ rfl (.tmp 20) (.tmp 24) rfl w1.heap.size (.slice a k cap) ((l.take k).map ud) rfl (World.ownsRow.alloc HO.out _) ⟨wk.heap.size,0,none⟩ 1 ((c:Int)-48) rfl (by simp) (by rw[HLEN.out]; omega) (by have:=HW.out.size; simp; omega) ?_; intro a7 c7 w7 ho7 hg7; rw[HLEN.out] at ho7 ⊢; have HB7:=hdd ((HW.out.alloc HW.out.size _).grown hg7 (by have:=HW.out.size; simp; omega) (fun q hq=>(World.ownsRow.lt HO.out q hq).1)); have HO7:=hdd ho7; clear ho7 hg7);go_roundw
    case rel=>exact ⟨k+1,a7,c7,by omega,by go_num,rfl,HN.out.1,by rw[HN.out.2]; exact HO7.out,HB7.out⟩
    case measure=>simp[intOf]; omega
  ·have e:l.take k=l:=List.take_of_length_le (by omega)
   have hkl:k=l.length:=by omega
   rw[e] at hall ho;have HR:=hdd (row_good hall);have HO:=hdd ho;subst hkl;clear e hall ho hw;go_wp2;go_ret2;refine ⟨a,cap,?_,?_,HB1.out.trans (HW.out.mono HB1.out.size)⟩
   ·rw[HR.out.1,HR.out.2,List.length_map]
    first | rfl | simp
   ·rw[HR.out.1,List.length_map]; exact HO.out.mono (by omega)
theorem numL_small {l:List UInt8} (h:l.all isD=true) (hl:l.length≤3):0≤l.foldl (fun n b=>10*n+ud b) 0∧l.foldl (fun n b=>10*n+ud b) 0≤999:=by
 match l,hl with
 | [],_=>simp
 | [a],_=>
  simp only[List.all_cons,List.all_nil,Bool.and_true] at h;have:=isD_iff.1 h;simp[ud]; omega
 | [a,b],_=>
  simp only[List.all_cons,List.all_nil,Bool.and_true,Bool.and_eq_true] at h;have:=isD_iff.1 h.1;have:=isD_iff.1 h.2;simp[ud]; omega
 | [a,b,c],_=>
  simp only[List.all_cons,List.all_nil,Bool.and_true,Bool.and_eq_true] at h;have:=isD_iff.1 h.1;have:=isD_iff.1 h.2.1;have:=isD_iff.1 h.2.2;simp[ud]; omega
 | _::_::_::_::_,hl=>simp at hl
theorem numL_bad1 {l:List UInt8} (h:¬(1≤l.length∧l.length≤3)):numL l=-1:=by
 unfold numL;rw[if_neg];simp only[Bool.and_eq_true,decide_eq_true_eq];intro q;exact h ⟨q.1.1.1,q.1.1.2⟩
theorem numL_bad2 {l:List UInt8} (h:1<l.length) (h0:l.head?=some 48):numL l=-1:=by
 unfold numL;rw[if_neg];simp[h,h0]
theorem numL_bad3 {l:List UInt8} (h:∃ b∈l,isD b=false):numL l=-1:=by
 obtain ⟨b,hb,he⟩:=h;have hn:l.all isD=false:=by
  rcases q:l.all isD with _ | _
  ·rfl
  ·have:=List.all_eq_true.1 q b hb
   rw[he] at this; cases this
 unfold numL;rw[hn];simp
theorem numL_good {l:List UInt8} (h:1≤l.length∧l.length≤3) (h0:¬(1<l.length∧l.head?=some 48)) (hd:l.all isD=true):numL l=l.foldl (fun n b=>10*n+ud b) 0:=by
 unfold numL;rw[if_pos];simp only[Bool.and_eq_true,decide_eq_true_eq,Bool.not_eq_true',Bool.and_eq_false_iff,decide_eq_false_iff_not,beq_eq_false_iff_ne];refine ⟨⟨⟨h.1,h.2⟩,?_⟩,hd⟩
 by_cases q:1<l.length
 ·exact .inr (fun e=>h0 ⟨q,e⟩)
 ·exact .inl q
theorem fold_next {l:List UInt8} {k:Nat} (h:k<l.length):(l.take (k+1)).foldl (fun n b=>10*n+ud b) 0=10*(l.take k).foldl (fun n b=>10*n+ud b) 0+ud l[k]:=by
 rw[List.take_succ_eq_append_getElem h,List.foldl_append]; rfl
set_option maxHeartbeats 1000000 in
theorem l1Digits_any (l:List UInt8) (w:World) (hl:l.length≤4000000):
  Calls Tryz.prog 84 #[strV l] w fun e w'=>e=.returned (.int .i64 (numL l))∧w=w':=by
 unfold strV;have hI:=l1In_any (l.length:Int) 1 3 w
 by_cases h13:1≤l.length∧l.length≤3
 ·have h0:0<l.length:=h13.1
  have hx0:∀ W:World,(Instr.index 9 (.string ⟨l.toArray⟩) (.int .i64 0)).run Tryz.prog W=.ok (.int .u8 (l[0].toNat:Int)) W:=byte_at l 0 h0;have hin:inB (l.length:Int) 1 3=true:=inB_iff.2 ⟨by omega,by omega⟩;rw[hin] at hI;have hhd:l.head?=some l[0]:=by rw[List.head?_eq_getElem?,List.getElem?_eq_getElem h0]
  clear hin
  by_cases hz:1<l.length∧l[0]=48
  ·have HR:=hdd (numL_bad2 hz.1 (by rw[hhd,hz.2]))
   have h1:(1:Int)<(l.length:Int):=by omega
   rw[hz.2,show ((48:UInt8).toNat:Int)=48 from rfl] at hx0;clear hz hhd;go_enter Tryz.func84,Tryz.ntmps84;go_wp2_with fail;refine hI.mono ?_;rintro e w2 ⟨rfl,rfl⟩;clear hI;go_wp2;go_ret;exact ⟨by rw[HR.out]; rfl,rfl⟩
  ·have HG:=hdd (show l.all isD=true→numL l=l.foldl (fun n b=>10*n+ud b) 0 from fun hd=>numL_good h13 (fun q=>hz ⟨q.1,by rw[hhd] at q; exact Option.some.inj q.2⟩) hd)
   have hloop:¬(1<(l.length:Int))∨((1<(l.length:Int))∧¬((l[0].toNat:Int)=48)):=by
    by_cases q:1<l.length
    ·exact .inr ⟨by omega,fun e=>hz ⟨q,by apply UInt8.toNat_inj.1; have:(48:UInt8).toNat=48:=rfl; omega⟩⟩
    ·exact .inl (by omega)
   obtain ⟨c0,hc0⟩:∃ c,c=l[0].toNat:=⟨_,rfl⟩
   rw[←hc0] at hx0 hloop;clear hz hhd hc0;have tail:True:=trivial;go_enter Tryz.func84,Tryz.ntmps84;go_wp2_with fail;refine hI.mono ?_;rintro e w2 ⟨rfl,rfl⟩;clear hI
   rcases hloop with hq | ⟨hq,hq2⟩
   all_goals
    go_wp2;clear hx0 hq;go_loop [3,4] (fun s i=>∃ k:Nat,k≤l.length∧i=.int .i64 k∧s=.int .i64 ((l.take k).foldl (fun n b=>10*n+ud b) 0)∧(l.take k).all isD=true) (fun _ i=>l.length-(intOf i).toNat)
    case atStart=>exact ⟨0,Nat.zero_le _,rfl,rfl,rfl⟩
    case round=>
     obtain ⟨k,hk,rfl,rfl,hall⟩:=hrel
     by_cases hlt:k<l.length
     ·have hi0:(0:Int)≤(k:Int):=by omega
      have hi1:(k:Int)<(l.length:Int):=by omega
      have hx:=byte_at l k hlt
      rcases hin:isD l[k] with _ | _
      ·have HR:=hdd (numL_bad3 ⟨l[k],List.getElem_mem hlt,hin⟩)
       have hc:¬(48≤l[k].toNat∧l[k].toNat≤57):=fun q=>by rw[isD_iff.2 q] at hin; cases hin
       obtain ⟨c,hcc⟩:∃ c,c=l[k].toNat:=⟨_,rfl⟩
       rw[←hcc] at hx hc;clear hin hcc
       by_cases h48:(c:Int)<48
       ·clear hc
        go_wp2;go_ret;exact ⟨by rw[HR.out]; rfl,rfl⟩
       ·have h57:(57:Int)<(c:Int):=by omega
        clear hc;go_wp2;go_ret;exact ⟨by rw[HR.out]; rfl,rfl⟩
      ·have HN:=hdd (take_all hlt hall hin)
       have HF:=hdd (fold_next hlt);have hsm:=numL_small (l:=l.take k) hall (by rw[List.length_take]; omega);have hc:=isD_iff.1 hin;have hud:ud l[k]=(l[k].toNat:Int)-48:=rfl;obtain ⟨c,hcc⟩:∃ c,c=l[k].toNat:=⟨_,rfl⟩
       rw[←hcc] at hx hc hud;rw[hud] at HF;obtain ⟨s,hs⟩:∃ s,s=(l.take k).foldl (fun n b=>10*n+ud b) 0:=⟨_,rfl⟩
       rw[←hs] at HF hsm ⊢;have h48:¬((c:Int)<48):=by omega
       have h57:¬((57:Int)<(c:Int)):=by omega
       clear hin hcc hud hs;go_wp2;go_round
       case rel=>exact ⟨k+1,by omega,by go_num,by rw[HF.out],HN.out.1⟩
       case measure=>simp[intOf]; omega
     ·have e:l.take k=l:=List.take_of_length_le (by omega)
      rw[e] at hall ⊢;have HR:=hdd (HG.out hall);clear e hall;go_wp2;go_ret;exact ⟨by rw[HR.out]; rfl,rfl⟩
 ·have hin:inB (l.length:Int) 1 3=false:=by
   rcases q:inB (l.length:Int) 1 3 with _ | _
   ·rfl
   ·have:=inB_iff.1 q; omega
  rw[hin] at hI;have HR:=hdd (numL_bad1 h13);clear hin h13;go_enter Tryz.func84,Tryz.ntmps84;go_wp2_with fail;refine hI.mono ?_;rintro e w2 ⟨rfl,rfl⟩;clear hI;go_wp2;go_ret;exact ⟨by rw[HR.out]; rfl,rfl⟩
end
section
open Go.RowKit Go.Shelf
set_option maxRecDepth 100000
def OwnS (B:Nat) (w:World) (v:Value) (us:List (List UInt8)):Prop:=w.ownsRow B 9 1 v us.length (us.map strV)
theorem infoStr:(Tryz.prog.info? 9).map (fun i=>(i.zero,i.size,i.bytes))=some (some (.string ⟨#[]⟩),1,16):=by kernel_rfl
theorem OwnS.lit (w:World):OwnS w.heap.size (w.alloc (.cells #[] 9)) (.slice (some ⟨w.heap.size,0,none⟩) 0 0) []:=
 World.ownsRow_made w #[] 0 (Nat.le_refl _) (by simp[maxLen]) rfl
def WordsOut (us:List (List UInt8)) (w:World) (e:Ending) (w':World):Prop:=
 ∃ g cap,e=.returned (.slice (some ⟨g,0,none⟩) us.length cap)∧us.length≤cap∧cap≤9223372036854775807∧(∀ k (h:k<us.length),w'.cell? ⟨g,k,none⟩=some (strV us[k]))∧w.heap.size≤g∧g<w'.heap.size∧Below w.heap.size w w'
theorem OwnS.out {w w':World} {v:Value} {us:List (List UInt8)} (h:OwnS w.heap.size w' v us) (hp:0<us.length) (hb:Below w.heap.size w w'):WordsOut us w (.returned v) w':=by
 obtain ⟨h0,h⟩:=h
 rcases h with ⟨rfl,h1⟩ | ⟨g,cap,cur,rfl,hB,hg,h1,h2,h3,h4⟩
 ·omega
 ·refine ⟨g,cap,rfl,h1,by simpa [maxLen] using h2,fun k hk=>?_,hB,(Array.getElem?_eq_some_iff.1 hg).1,hb⟩
  have hc:cur[k]?=(us.map strV)[k]?:=by
   rw[←h4,List.getElem?_take,if_pos (by omega),Array.getElem?_toList]
  rw[cell_of_row _ _ _ _ _ _ hg,hc];simp[hk]
theorem wpList_push_str (w:World) {ops:Array Oper} {rest:List Oper} {o:Oper} {a:Act} {Q:Exit→Act→World→Prop}
  (hg:o.guard=none) (s x:Operand) (hop:o.op=Op.call { callee:=Callee.builtin Builtin.append,args:=#[s,x],argTypes:=#[50,50] })
  (B:Nat) (v:Value) (us:List (List UInt8)) (hs:a.eval s=v) (hown:OwnS B w v us) (ad:Addr) (c:Nat) (X:ByteArray) (y:List UInt8) (hx:a.eval x=.slice (some ad) 1 c) (hc:w.cell? ad=some (.string X)) (hX:X=⟨y.toArray⟩)
  (hlen:us.length≤1099511627776) (hB:B≤w.heap.size)
  (hK:∀ a' cap' w',OwnS B w' (.slice a' (us.length+1) cap') (us++[y])→w.grownBy w' v.ownBlock→wpList Tryz.prog ops Q rest (a.put o.dst (.slice a' (us.length+1) cap')) w'):
  wpList Tryz.prog ops Q (o::rest) a w:=by
 obtain ⟨i0,hi,hz0,hz1,hz2⟩:=info_parts infoStr;subst hX;refine wpList_append_own w hg s x 50 hop B 9 i0 (.string ⟨#[]⟩) 1 16 Tryz.underlying50 hi hz0 hz1 hz2 rfl (by decide) v us.length (us.map strV) hs hown ad 1 c [strV y] hx rfl ?_ (by simp[Value.oneCell',strV]) (by unfold maxLen; omega) (by omega) hB ?_
 ·intro j u hj
  match j,hj with
  | 0,hj=>simp at hj; subst hj; simpa [Addr.add,strV] using hc
 ·intro v' w' h1 h2 _
  obtain ⟨a',cap',rfl,_⟩:=own_shape h1;refine hK a' cap' w' ?_ h2;unfold OwnS;rw[List.map_append]
  simpa using h1
theorem piece_next {l:List UInt8} {f k:Nat} (hf:f≤k) (h:k<l.length):(l.drop f).take (k+1-f)=(l.drop f).take (k-f)++[l[k]]:=by
 rw[show k+1-f=(k-f)+1 by omega,List.take_succ_eq_append_getElem (by rw[List.length_drop]; omega),List.getElem_drop]
 congr 3
 omega
theorem piece_cut {l:List UInt8} {f k:Nat} (hf:f≤k) (h:k<l.length):l.drop f=(l.drop f).take (k-f)++l[k]::l.drop (k+1):=by
 have h1:(l.drop f).drop (k-f)=l.drop k:=by rw[List.drop_drop]; congr 1; omega
 have h2:=List.take_append_drop (k-f) (l.drop f);rw[h1,List.drop_eq_getElem_cons h] at h2;exact h2.symm
theorem words_step {l:List UInt8} {c:UInt8} {us:List (List UInt8)} {f k:Nat} (hf:f≤k) (h:k<l.length) (hc:l[k]=c) (hw:words c l=us++words c (l.drop f)) (hn:∀ b∈(l.drop f).take (k-f),b≠c):
  words c l=(us++[(l.drop f).take (k-f)])++words c (l.drop (k+1)):=by
 rw[hw,piece_cut hf h,hc,words_app c _ _ hn,List.append_assoc]
 congr 1
 rw[←hc,←piece_cut hf h]
 rfl
set_option maxHeartbeats 1000000 in
theorem l1Cut_any (l:List UInt8) (c:UInt8) (w:World) (hl:l.length≤4000000):
  Calls Tryz.prog 71 #[strV l,.int .u8 c.toNat] w (WordsOut (words c l) w):=by
 have HB0:=hdd (show Below w.heap.size w (w.alloc (.cells #[] 9)) from (Below.refl _ _).alloc (Nat.le_refl _) _);have HO0:=hdd (OwnS.lit w);unfold strV;go_enter Tryz.func71,Tryz.ntmps71;go_wp2;go_loopw [5,6,7] (fun s fv i wr=>∃ (k f:Nat) (us:List (List UInt8)) (a:Option Addr) (cap:Nat),k≤l.length∧f≤k∧i=.int .i64 k∧fv=.int .i64 f∧s=.slice a us.length cap∧OwnS w.heap.size wr (.slice a us.length cap) us∧words c l=us++words c (l.drop f)∧(∀ b∈(l.drop f).take (k-f),b≠c)∧us.length≤k∧Below w.heap.size w wr) (fun _ _ i _=>l.length-(intOf i).toNat)
 case atStart=>exact ⟨0,0,[],_,_,Nat.zero_le _,Nat.le_refl _,rfl,rfl,rfl,HO0.out,rfl,by simp,Nat.le_refl _,HB0.out⟩
 case round=>
  obtain ⟨k,f,us,a,cap,hk,hf,rfl,rfl,rfl,ho,hws,hno,hus,hw⟩:=hrel;obtain ⟨wk,rfl⟩:∃ x,x=wr:=⟨_,rfl⟩
  clear HB0 HO0;have HW:=hdd hw;have HO:=hdd ho
  by_cases hlt:k<l.length
  ·have hi0:(0:Int)≤(k:Int):=by omega
   have hi1:(k:Int)<(l.length:Int):=by omega
   have hx:=byte_at l k hlt;have hf0:(0:Int)≤(f:Int):=by omega
   have hf1:(f:Int)≤(k:Int):=by omega
   have hk2:(k:Int)≤(l.length:Int):=by omega
   by_cases hc:l[k]=c
   ·have HN:=hdd (words_step hf hlt hc hws hno)
    rw[hc] at hx;clear hc hws hno hw ho;go_wp2_with (at_builtin; refine wpList_push_str _ rfl (.tmp 20) (.tmp 25) rfl w.heap.size (.slice a us.length cap) us rfl (World.ownsRow.alloc HO.out _) ⟨wk.heap.size,0,none⟩ 1 _ ((l.drop f).take (k-f)) rfl (by first | (simp; done) | (simp; rfl)) (ByteArray.extract_mk l f k) (by omega) (by have:=HW.out.size; simp; omega) ?_; intro a7 c7 w7 ho7 hg7; have HB7:=hdd ((HW.out.alloc HW.out.size _).grown hg7 (by have:=HW.out.size; simp; omega) (fun q hq=>(World.ownsRow.lt HO.out q hq).1)); have HO7:=hdd ho7; clear ho7 hg7);go_roundw
    case rel=>exact ⟨k+1,k+1,us++[(l.drop f).take (k-f)],a7,c7,by omega,Nat.le_refl _,by go_num,by go_num,by simp,by simpa using HO7.out,HN.out,by simp,by simp; omega,HB7.out⟩
    case measure=>simp[intOf]; omega
   ·have HN:=hdd (show ∀ b∈(l.drop f).take (k+1-f),b≠c from fun b hb=>by
     rw[piece_next hf hlt] at hb
     rcases List.mem_append.1 hb with q | q
     ·exact hno b q
     ·rw[List.mem_singleton.1 q]; exact hc)
    have hne:¬((l[k].toNat:Int)=(c.toNat:Int)):=fun e=>hc (UInt8.toNat_inj.1 (by omega))
    have HWS:=hdd hws;obtain ⟨x,hxx⟩:∃ x,x=l[k].toNat:=⟨_,rfl⟩
    rw[←hxx] at hx hne;clear hc hws hno hw ho hxx;go_wp2;go_roundw
    case rel=>exact ⟨k+1,f,us,a,cap,by omega,by omega,by go_num,rfl,rfl,HO.out,HWS.out,HN.out,by omega,HW.out⟩
    case measure=>simp[intOf]; omega
  ·have hkl:k=l.length:=by omega
   have e:(l.drop f).take (k-f)=l.drop f:=List.take_of_length_le (by rw[List.length_drop]; omega);rw[e] at hno;rw[words_one c _ hno] at hws;have HWS:=hdd hws;have hf0:(0:Int)≤(f:Int):=by omega
   have hf1:(f:Int)≤(l.length:Int):=by omega
   have HEX:=hdd (show (ByteArray.mk l.toArray).extract f (ByteArray.mk l.toArray).size=ByteArray.mk (l.drop f).toArray by
    rw[ByteArray.extract_mk];rw[List.take_of_length_le (by rw[List.length_drop]; simp[ByteArray.size])])
   clear hws hno hw ho e hkl;go_wp2_with (at_builtin; refine wpList_push_str _ rfl (.tmp 29) (.tmp 33) rfl w.heap.size (.slice a us.length cap) us rfl (World.ownsRow.alloc HO.out _) ⟨wk.heap.size,0,none⟩ 1 _ (l.drop f) rfl (by first | (simp; done) | (simp; rfl)) (by first | exact HEX.out | exact (by simpa using HEX.out)) (by omega) (by have:=HW.out.size; simp; omega) ?_; intro a7 c7 w7 ho7 hg7; have HB7:=hdd ((HW.out.alloc HW.out.size _).grown hg7 (by have:=HW.out.size; simp; omega) (fun q hq=>(World.ownsRow.lt HO.out q hq).1)); have HO7:=hdd (show OwnS w.heap.size w7 (.slice a7 (us.length+1) c7) (words c l) by rw[HWS.out]; exact ho7); clear ho7 hg7);go_ret;exact HO7.out.out (by rw[HWS.out]; simp) HB7.out
end
section
open Go.RowKit
set_option maxRecDepth 100000
def TextOut (l:List UInt8) (w:World) (e:Ending) (w':World):Prop:=e=.returned (strV l)∧Below w.heap.size w w'
theorem textOk_no {xs:List Int} {r n:Int} (h:∃ x∈xs,inB x 0 9=false):textOk xs r n=false:=by
 obtain ⟨x,hx,he⟩:=h
 rcases q:textOk xs r n with _ | _
 ·rfl
 ·have:=List.all_eq_true.1 (textOk_iff.1 q).2.1 x hx
  rw[he] at this; cases this
theorem textOk_split {xs:List Int} {r n:Int} (h:allD xs=true):textOk xs r n=(inB xs.length 1 3&&(inB r 0 9&&inB n 0 9)):=by
 unfold allD at h;unfold textOk;rw[h];simp[Bool.and_assoc]
theorem text_cat (L:List UInt8) (x y:UInt8):(ByteArray.mk #[103,117,101,115,115,32]++ByteArray.mk L.toArray++ByteArray.mk #[32]++ByteArray.mk #[x]++ByteArray.mk #[32]++ByteArray.mk #[y])=ByteArray.mk (wordGuess++32::(L++32::(x::32::[y]))).toArray:=by
 apply ByteArray.ext;simp[ByteArray.data_append,wordGuess]
theorem back_text {xs:List Int} {r n:Int}:textD ⟨true,xs,r,n⟩=if nothingB xs r n=true then wordBack else []:=rfl
set_option maxHeartbeats 4000000 in
theorem deedTextS_any {B:Nat} (b:Bool) (u:Value) (xs:List Int) (r n:Int) (w:World) (h:Ints B w u xs):
  Calls Tryz.prog 79 #[dV b u r n] w (TextOut (textD ⟨b,xs,r,n⟩) w):=by
 have HX:=hdd h;obtain ⟨a,cap,rfl,hcap,hmax,_⟩:=h.opened;clear h;obtain ⟨w1,hw1⟩:∃ w1,w1=w.alloc (.cells #[.bool b,.slice a xs.length cap,.int .i64 r,.int .i64 n] 41):=⟨_,rfl⟩
 have hb1:Below w.heap.size w w1:=by rw[hw1]; exact (Below.refl _ _).alloc (Nat.le_refl _) _
 have hz1:w1.heap[w.heap.size]?=some (.cells #[.bool b,.slice a xs.length cap,.int .i64 r,.int .i64 n] 41 (0,0)):=by rw[hw1]; exact heap_alloc_new w _
 have hs1:w1.heap.size=w.heap.size+1:=by rw[hw1]; simp
 have HB1:=hdd hb1;have HZ1:=hdd hz1;have c0:=cell_of_row _ _ 0 _ _ (0,0) hz1;have c1:=cell_of_row _ _ 1 _ _ (0,0) hz1;have c2:=cell_of_row _ _ 2 _ _ (0,0) hz1;have c3:=cell_of_row _ _ 3 _ _ (0,0) hz1;simp only[List.getElem?_toArray,List.getElem?_cons_zero,List.getElem?_cons_succ] at c0 c1 c2 c3;clear hb1 hz1;unfold dV
 cases b
 ·go_enter Tryz.func79,Tryz.ntmps79
  go_wp2;rw[←hw1];clear hw1 c0 c1 c2 c3;go_loopw [3] (fun i wr=>∃ k:Nat,k≤xs.length∧i=.int .i64 k∧allD (xs.take k)=true∧Below w1.heap.size w1 wr) (fun i _=>xs.length-(intOf i).toNat)
  case atStart=>exact ⟨0,Nat.zero_le _,rfl,rfl,Below.refl _ _⟩
  case round=>
   obtain ⟨k,hk,rfl,hall,hw⟩:=hrel;obtain ⟨wk,rfl⟩:∃ x,x=wr:=⟨_,rfl⟩
   have hz:=(hw.block w.heap.size (by omega)).trans HZ1.out;have c1:=cell_of_row _ _ 1 _ _ (0,0) hz;have c2:=cell_of_row _ _ 2 _ _ (0,0) hz;have c3:=cell_of_row _ _ 3 _ _ (0,0) hz;simp only[List.getElem?_toArray,List.getElem?_cons_zero,List.getElem?_cons_succ] at c1 c2 c3;have HW:=hdd hw
   by_cases hlt:k<xs.length
   ·obtain ⟨a',cap',e,_,_,hc⟩:=HX.out.opened
    obtain ⟨bb,off,rfl,_,hcs⟩:=hc (by omega);injection e with e1 _ e3;subst e1 e3;have hx:=(Above.of_below (B:=0) (HB1.out.trans (hw.mono HB1.out.size))).cell (Nat.zero_le _) (hcs k hlt);have HALL:=hdd hall;have HMEM:=hdd (List.getElem_mem hlt);have HTK:=hdd (show xs.take (k+1)=xs.take k++[xs[k]] from List.take_succ_eq_append_getElem hlt);obtain ⟨y,hy⟩:∃ y,y=xs[k]:=⟨_,rfl⟩
    rw[←hy] at hx HMEM HTK;have hI:=l1In_any y 0 9 wk;have hi0:(0:Int)≤(k:Int):=by omega
    have hi1:(k:Int)<(xs.length:Int):=by omega
    clear hc hcs hy hw hz hall
    rcases hin:inB y 0 9 with _ | _
    ·rw[hin] at hI
     have HR:=hdd (textOk_no (r:=r) (n:=n) ⟨y,HMEM.out,hin⟩);clear hin;go_wp2_with fail;refine hI.mono ?_;rintro e w2 ⟨rfl,rfl⟩;clear hI;go_wp2;go_ret;exact ⟨by rw[textD_bad HR.out]; rfl,HB1.out.trans (HW.out.mono HB1.out.size)⟩
    ·rw[hin] at hI
     have HR:=hdd hin;clear hin;go_wp2_with fail;refine hI.mono ?_;rintro e w2 ⟨rfl,rfl⟩;clear hI;go_wp2;go_roundw
     case rel=>exact ⟨k+1,by omega,by go_num,by unfold allD; rw[HTK.out,List.all_append]; have:=HALL.out; unfold allD at this; rw[this]; simp[HR.out],HW.out⟩
     case measure=>simp[intOf]; omega
   ·have e:xs.take k=xs:=List.take_of_length_le (by omega)
    rw[e] at hall;have HALL0:=hdd hall;have HALL:=hdd hall;clear hz e;have HT:=hdd (textOk_split (r:=r) (n:=n) hall);have hI1:=l1In_any (xs.length:Int) 1 3 wk;have hI2:=l1In_any r 0 9 wk;have hI3:=l1In_any n 0 9 wk;clear HALL
    rcases h1:inB (xs.length:Int) 1 3 with _ | _
    ·rw[h1] at hI1
     have HR:=hdd (show textOk xs r n=false by rw[HT.out,h1]; rfl);clear h1 hI2 hI3;go_wp2_with fail;refine hI1.mono ?_;rintro e w2 ⟨rfl,rfl⟩;clear hI1;go_wp2;go_ret;exact ⟨by rw[textD_bad HR.out]; rfl,HB1.out.trans (HW.out.mono HB1.out.size)⟩
    ·rcases h2:inB r 0 9 with _ | _
     ·rw[h1] at hI1
      rw[h2] at hI2;have HR:=hdd (show textOk xs r n=false by rw[HT.out,h1,h2]; rfl);clear h1 h2 hI3;go_wp2_with fail;refine hI1.mono ?_;rintro e w2 ⟨rfl,rfl⟩;clear hI1;go_wp2_with fail;refine hI2.mono ?_;rintro e w2 ⟨rfl,rfl⟩;clear hI2;go_wp2;go_ret;exact ⟨by rw[textD_bad HR.out]; rfl,HB1.out.trans (HW.out.mono HB1.out.size)⟩
     ·rcases h3:inB n 0 9 with _ | _
      ·rw[h1] at hI1
       rw[h2] at hI2;rw[h3] at hI3;have HR:=hdd (show textOk xs r n=false by rw[HT.out,h1,h2,h3]; rfl);clear h1 h2 h3;go_wp2_with fail;refine hI1.mono ?_;rintro e w2 ⟨rfl,rfl⟩;clear hI1;go_wp2_with fail;refine hI2.mono ?_;rintro e w2 ⟨rfl,rfl⟩;clear hI2;go_wp2_with fail;refine hI3.mono ?_;rintro e w2 ⟨rfl,rfl⟩;clear hI3;go_wp2;go_ret;exact ⟨by rw[textD_bad HR.out]; rfl,HB1.out.trans (HW.out.mono HB1.out.size)⟩
      ·have HR:=hdd (show textOk xs r n=true by rw[HT.out,h1,h2,h3]; rfl)
       have hlen:=inB_iff.1 h1;have hr:=inB_iff.1 h2;have hn:=inB_iff.1 h3;rw[h1] at hI1;rw[h2] at hI2;rw[h3] at hI3;have hzz:=hw.size;have hC:∀ z:GrownC wk,Calls Tryz.prog 69 #[.slice a xs.length cap] z.val (fun e w''=>e=.returned (.string ⟨(dgs xs).toArray⟩)∧∃ z':GrownC wk,w''=z'.val):=fun z=>
        (l15Code_any _ xs z.val (HX.out.below (HB1.out.trans ((HW.out.mono HB1.out.size).trans (z.ok.mono (by omega))))) HALL0.out (by omega)).mono (fun e w'' ⟨he,hbb⟩=>⟨he,⟨w'',z.ok.trans (hbb.mono z.ok.size)⟩,rfl⟩)
       have hN1:∀ z:GrownC wk,Calls Tryz.prog 67 #[.int .i64 r] z.val (fun e w''=>e=.returned (.string ⟨[dg r].toArray⟩)∧∃ z':GrownC wk,w''=z'.val):=fun z=>
        (l1Number_any r z.val hr.1 hr.2).mono (fun e w'' ⟨he,hbb⟩=>⟨he,⟨w'',z.ok.trans (hbb.mono z.ok.size)⟩,rfl⟩)
       have hN2:∀ z:GrownC wk,Calls Tryz.prog 67 #[.int .i64 n] z.val (fun e w''=>e=.returned (.string ⟨[dg n].toArray⟩)∧∃ z':GrownC wk,w''=z'.val):=fun z=>
        (l1Number_any n z.val hn.1 hn.2).mono (fun e w'' ⟨he,hbb⟩=>⟨he,⟨w'',z.ok.trans (hbb.mono z.ok.size)⟩,rfl⟩)
       have K1:∀ z:GrownC wk,z.val.cell? ⟨w.heap.size,1,none⟩=some (.slice a xs.length cap):=fun z=>(z.ok.cell (by simp; omega)).trans c1
       have K2:∀ z:GrownC wk,z.val.cell? ⟨w.heap.size,2,none⟩=some (.int .i64 r):=fun z=>(z.ok.cell (by simp; omega)).trans c2
       have K3:∀ z:GrownC wk,z.val.cell? ⟨w.heap.size,3,none⟩=some (.int .i64 n):=fun z=>(z.ok.cell (by simp; omega)).trans c3
       have hL3:(dgs xs).length≤3:=by unfold dgs; rw[List.length_map]; omega
       obtain ⟨L,hL⟩:∃ L,L=dgs xs:=⟨_,rfl⟩
       rw[←hL] at hC hL3;have HL:=hdd hL;clear h1 h2 h3 hr hn hL;go_wp2_with fail;refine hI1.mono ?_;rintro e w2 ⟨rfl,rfl⟩;clear hI1;go_wp2_with fail;refine hI2.mono ?_;rintro e w2 ⟨rfl,rfl⟩;clear hI2;go_wp2_with fail;refine hI3.mono ?_;rintro e w2 ⟨rfl,rfl⟩;clear hI3 c1 c2 c3;go_wp2_with fail;refine wp_region_grownC (by kernel_rfl) (by kernel_rfl) ?_
       repeat (first | go_big_quiet_skip | (go_big_quiet_want; go_big_quiet_op; first | go_big_quiet_on | go_big_quiet_call (first | (go_at_call 69; exact hC _) | (go_at_call 67; first | (with_reducible exact hN1 _) | (with_reducible exact hN2 _)))))
       refine wpQuiet_nil ?_;intro w8 hw8;obtain ⟨z8,rfl⟩:=hw8;have HB8:=hdd (HB1.out.trans ((HW.out.mono HB1.out.size).trans (z8.ok.mono (by omega))));clear hC hN1 hN2 K1 K2 K3;go_wp2;go_ret;exact ⟨by rw[textD_guess HR.out,text_cat,HL.out]; rfl,HB8.out⟩
 ·go_enter Tryz.func79,Tryz.ntmps79
  clear hw1 HB1 HZ1 c0 c1 c2 c3 hs1
  by_cases hx:xs=[]
  ·by_cases hr:r=0
   ·by_cases hn:n=0
    ·have HR:=hdd (show textD ⟨true,xs,r,n⟩=wordBack by rw[back_text,if_pos (show nothingB xs r n=true from decide_eq_true ⟨hx,hr,hn⟩)])
     subst hx hr hn;go_wp2;go_ret;exact ⟨by rw[HR.out]; rfl,(Below.refl _ _).alloc (Nat.le_refl _) _⟩
    ·have HR:=hdd (show textD ⟨true,xs,r,n⟩=[] by rw[back_text,if_neg (by simp[nothingB,hn])])
     have hn':(n != 0)=true:=by simp[hn]
     subst hx hr;go_wp2;go_ret;exact ⟨by rw[HR.out]; rfl,(Below.refl _ _).alloc (Nat.le_refl _) _⟩
   ·have HR:=hdd (show textD ⟨true,xs,r,n⟩=[] by rw[back_text,if_neg (by simp[nothingB,hr])])
    have hr':(r != 0)=true:=by simp[hr]
    subst hx;go_wp2;go_ret;exact ⟨by rw[HR.out]; rfl,(Below.refl _ _).alloc (Nat.le_refl _) _⟩
  ·have HR:=hdd (show textD ⟨true,xs,r,n⟩=[] by rw[back_text,if_neg (by simp[nothingB,hx])])
   have hl:(0:Int)<(xs.length:Int):=by have:=List.length_pos_iff.2 hx; omega
   have hl2:0<xs.length:=List.length_pos_iff.2 hx;go_wp2;go_ret;exact ⟨by rw[HR.out]; rfl,(Below.refl _ _).alloc (Nat.le_refl _) _⟩
end
end Go.Proofs.YtenlngclocfnlaaGreatDoor
