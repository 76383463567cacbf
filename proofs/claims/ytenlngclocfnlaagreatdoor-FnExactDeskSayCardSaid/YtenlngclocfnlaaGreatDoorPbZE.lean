/- Texts of this claim, put together: StrL, MarkP, LineS, SaysS. -/
import Derived.Test.YtenlngclocfnlaaGreatDoorPbZD
import Derived.Test.YtenlngclocfnlaaGreatDoorPbH
import Derived.Deep.RegionHeld3
import Derived.Deep.DeepCutAuto
import Derived.Test.YtenlngclocfnlaaGreatDoorPbL
import Derived.Test.YtenlngclocfnlaaGreatDoorPbM
import Derived.Test.YtenlngclocfnlaaGreatDoorPbZB
import Derived.Deep.CutRange
import Derived.Test.YtenlngclocfnlaaGreatDoorPbGD
namespace Go.Proofs.YtenlngclocfnlaaGreatDoor
open Go.RowKit Go.Shelf
set_option linter.unusedVariables false
set_option maxRecDepth 100000
def mtN (n:Nat) (s:List UInt8):List UInt8:=if n=0 then s else mtN (n/10) (dg ((n:Int)%10)::s)
termination_by n
decreasing_by omega
def markT (m:Int):List UInt8:=if m≤0 then [109,48] else 109::mtN m.toNat []
set_option maxHeartbeats 1000000 in
theorem markText_any (m:Int) (w:World) (h0:0≤m) (h1:m≤1099511627776):
  Calls Tryz.prog 78 #[.int .i64 m] w fun e w'=>e=.returned (.string ⟨(markT m).toArray⟩)∧Below w.heap.size w w':=by
 by_cases hz:m≤0
 ·have HE:=hdd (show markT m=[109,48] by unfold markT; rw[if_pos hz])
  go_enter Tryz.func78,Tryz.ntmps78
  go_wp2
  go_ret
  exact ⟨by rw[HE.out]; rfl,Below.refl _ _⟩
 ·have HE:=hdd (show markT m=109::mtN m.toNat [] by unfold markT; rw[if_neg hz])
  go_enter Tryz.func78,Tryz.ntmps78
  go_wp2
  go_loopw [0,3] (fun i s wr=>∃ (n:Nat) (l:List UInt8),i=.int .i64 n∧s=.string ⟨l.toArray⟩∧mtN n l=mtN m.toNat []∧l.length+n≤1099511627776∧Below w.heap.size w wr) (fun i _ _=>(intOf i).toNat)
  case atStart=>exact ⟨m.toNat,[],by congr 1; omega,rfl,rfl,by simp; omega,Below.refl _ _⟩
  case round=>
   obtain ⟨n,l,rfl,rfl,hn,hl,hb⟩:=hrel
   obtain ⟨wk,rfl⟩:∃ x,x=wr:=⟨_,rfl⟩
   have HB:=hdd hb
   by_cases hn0:0<n
   ·have hd0:0≤(n:Int)%10:=by omega
    have hd9:(n:Int)%10≤9:=by omega
    rw[mtN,if_neg (by omega)] at hn
    have HN:=hdd hn
    have hcv:=oneByte wk ((n:Int)%10) hd0 hd9
    have hrem:(n:Int).tmod 10=(n:Int)%10:=Int.tmod_eq_emod_of_nonneg (by omega)
    have hquo:(n:Int).tdiv 10=(n:Int)/10:=Int.tdiv_eq_ediv_of_nonneg (by omega)
    have HBA:=hdd (show Below w.heap.size w (wk.alloc (.cells #[.int .u8 (48+(n:Int)%10)] 5)) from hb.alloc hb.size _)
    clear hn hb
    go_wp2
    go_roundw
    case rel=>exact ⟨n/10,dg ((n:Int)%10)::l,by go_num,rfl,HN.out,by simp; omega,HBA.out⟩
    case measure=>simp[intOf]; omega
   ·have e:n=0:=by omega
    subst e
    rw[mtN,if_pos rfl] at hn
    have HN:=hdd hn
    clear hn hb
    go_wp2
    go_ret
    exact ⟨by rw[HE.out,←HN.out]; rfl,HB.out⟩
theorem OwnS.sl {B:Nat} {w:World} {v:Value} {us:List (List UInt8)} (h:OwnS B w v us):SL B w v (us.map strV):=by
 have:=h
 unfold OwnS at this
 rw[show us.length=(us.map strV).length by simp] at this
 exact sl_of_own this
theorem Kp.sl {lo:Nat} {wk w:World} {v:Value} {vs:List Value} (h:Kp lo wk w) (hr:SL lo wk v vs):SL lo w v vs:=hr.keep h.2
theorem Kp.ownS {lo:Nat} {wk w:World} {v:Value} {us:List (List UInt8)} (h:Kp lo wk w) (hr:OwnS lo wk v us):OwnS lo w v us:=owns_keep hr h.2
theorem OwnS.at {B:Nat} {w:World} {g n cap:Nat} {us:List (List UInt8)} (h:OwnS B w (.slice (some ⟨g,0,none⟩) n cap) us) (k:Nat) (hk:k<us.length):
  w.cell? ⟨g,k,none⟩=some (.string ⟨us[k].toArray⟩)∧w.frozen? ⟨g,k,none⟩=false:=by
 obtain ⟨a,cap',he,_⟩:=own_shape h
 injection he with _ e2 _
 subst e2
 refine ⟨?_,World.ownsRow.frozenAt h k⟩
 rw[World.ownsRow.cellAt h k (by omega),List.getElem?_map,List.getElem?_eq_getElem hk]
 rfl
theorem OwnS.set {B:Nat} {w:World} {g n cap:Nat} {us:List (List UInt8)} (h:OwnS B w (.slice (some ⟨g,0,none⟩) n cap) us) (k:Nat) (u:List UInt8):
  OwnS B (w.setCell ⟨g,k,none⟩ (.string ⟨u.toArray⟩)) (.slice (some ⟨g,0,none⟩) n cap) (us.set k u):=by
 obtain ⟨a,cap',he,_⟩:=own_shape h
 injection he with _ e2 _
 subst e2
 have:=(World.ownsRow.stored h k (strV u)).1
 unfold OwnS
 rw[List.length_set,show (us.set k u).map strV=(us.map strV).set k (strV u) by rw[List.map_set]]
 exact this
theorem own_zeros_str {w:World} {B n:Nat} {v:Value} (h:w.ownsRow B 9 1 v n (madeCells (Value.string ⟨#[]⟩).cells (n*1)).toList):OwnS B w v (List.replicate n []):=by
 unfold OwnS
 rw[List.length_replicate]
 have e:(List.replicate n ([]:List UInt8)).map strV=(madeCells (Value.string ⟨#[]⟩).cells (n*1)).toList:=by
  rw[Nat.mul_one,show (Value.string ⟨#[]⟩).cells=#[Value.string ⟨#[]⟩] from rfl,toList_madeCells_one]; simp[strV]
 rw[e]
 exact h
theorem wpList_make_strs (w:World) {ops:Array Oper} {rest:List Oper} {o:Oper} {a:Act} {Q:Exit→Act→World→Prop}
  (hg:o.guard=none) (l c:Operand) (hop:o.op=Op.makeSlice 50 l c)
  (L C:Int) (n:Nat) (hl:a.eval l=.int .i64 L) (hc:a.eval c=.int .i64 C) (hL:L=(n:Int)) (hC:C=(n:Int)) (b2:n≤1099511627776)
  (hK:∀ w',OwnS w.heap.size w' (.slice (some ⟨w.heap.size,0,none⟩) n n) (List.replicate n [])→Below w.heap.size w w'→w.heap.size<w'.heap.size →
   wpList Tryz.prog ops Q rest (a.put o.dst (.slice (some ⟨w.heap.size,0,none⟩) n n)) w'):
  wpList Tryz.prog ops Q (o::rest) a w:=by
 obtain ⟨i0,hi,hz0,hz1,hz2⟩:=info_parts infoStr
 refine wpList_make_full w hg l c 50 hop w.heap.size 9 i0 (.string ⟨#[]⟩) 1 Tryz.underlying50 hi hz0 hz1 .i64 .i64 L C n hl hc hL hC (by rw[hz2]; omega) (by unfold maxLen; omega) (Nat.le_refl _) ?_
 intro w' h1 h2
 refine hK w' (own_zeros_str h1) ((Below.refl _ w).grown h2 (Nat.le_refl _) (by simp)) ?_
 exact (World.ownsRow.lt h1 _ rfl).2
def FreshS (us:List (List UInt8)) (w:World) (e:Ending) (w':World):Prop:=∃ a cap,e=.returned (.slice a us.length cap)∧OwnS w.heap.size w' (.slice a us.length cap) us∧Below w.heap.size w w'
theorem toStringS_any {B:Nat} (v:Value) (us:List (List UInt8)) (w:World) (h:SL B w v (us.map strV)) (h2:us.length≤1099511627776):
  Calls Tryz.prog 34 #[v] w (FreshS us w):=by
 obtain ⟨a,cap,rfl,hcap,hmax,hcells⟩:=strs_opened h
 clear h
 go_enter Tryz.func34,Tryz.ntmps34
 go_wp2_with (at_make; refine wpList_make_strs _ rfl _ _ rfl _ _ us.length rfl rfl rfl rfl h2 ?_; intro w1 hown hb1 hs1)
 go_loopw [4] (fun i wr=>∃ k:Nat,k≤us.length∧i=.int .i64 k∧OwnS w.heap.size wr (.slice (some ⟨w.heap.size,0,none⟩) us.length us.length) (us.take k++List.replicate (us.length-k) [])∧Below w.heap.size w wr) (fun i _=>us.length-(intOf i).toNat)
 case atStart=>exact ⟨0,Nat.zero_le _,rfl,by simpa using hown,hb1⟩
 case round=>
  obtain ⟨k,hk,rfl,ho,hb⟩:=hrel
  clear hown hb1
  by_cases hlt:k<us.length
  ·obtain ⟨b,off,rfl,_,hc⟩:=hcells (by omega)
   have hck:=hc k hlt
   have hlt2:=World.block_lt_of_cell? w _ hck
   have hck2:wr.cell? ⟨b,off+k,none⟩=some (.string ⟨us[k].toArray⟩):=(hb.cell (by exact hlt2)).trans hck
   have hl:(us.take k++List.replicate (us.length-k) []).length=us.length:=by simp; omega
   obtain ⟨hc1,hf1⟩:=ho.at k (by omega)
   have HO:=hdd (ho.set k us[k])
   have HB:=hdd (hb.setCell (p:=⟨w.heap.size,k,none⟩) (Nat.le_refl _) (.string ⟨us[k].toArray⟩))
   have HC:=hdd (copy_step2 (z:=[]) hlt rfl)
   obtain ⟨u0,hu0⟩:∃ z,z=(Value.string ⟨((us.take k++List.replicate (us.length-k) [])[k]'(by omega)).toArray⟩):=⟨_,rfl⟩
   rw[←hu0] at hc1
   clear hl hc hcells hck ho hb hu0
   go_wp2
   go_roundw
   case rel=>exact ⟨k+1,by omega,by go_num,by rw[←HC.out]; exact HO.out,HB.out⟩
   case measure=>simp[intOf]; omega
  ·have e:k=us.length:=by omega
   have HO:=hdd (show OwnS w.heap.size wr (.slice (some ⟨w.heap.size,0,none⟩) us.length us.length) us by simpa [e] using ho)
   have HB:=hdd hb
   clear ho e hb
   go_wp2
   go_ret
   exact ⟨_,_,rfl,HO.out,HB.out⟩
theorem eqStringS_self {B C:Nat} (a b:Value) (us:List (List UInt8)) (w:World) (ha:SL B w a (us.map strV)) (hb:SL C w b (us.map strV)):
  Calls Tryz.prog 35 #[a,b] w fun e w'=>e=.returned (.bool true)∧Below w.heap.size w w':=by
 obtain ⟨a,cap,rfl,hcap,hmax,hcells⟩:=strs_opened ha
 obtain ⟨b,cap',rfl,hcap',hmax',hcells'⟩:=strs_opened hb
 clear ha hb
 have hl1:((us.length:Int) != (us.length:Int))=false:=by simp
 go_enter Tryz.func35,Tryz.ntmps35
 go_wp2
 go_loopw [5] (fun i wr=>∃ k q:Nat,k≤us.length∧i=.int .i64 k∧wr=w.drewN q) (fun i _=>us.length-(intOf i).toNat)
 case atStart=>exact ⟨0,0,Nat.zero_le _,rfl,rfl⟩
 case round=>
  obtain ⟨k,q,hk,rfl,rfl⟩:=hrel
  by_cases hlt:k<us.length
  ·obtain ⟨b1,o1,rfl,_,hc⟩:=hcells (by omega)
   obtain ⟨b2,o2,rfl,_,hc'⟩:=hcells' (by omega)
   have hck:=hc k hlt
   have hck':=hc' k hlt
   have hi0:(0:Int)≤(k:Int):=by omega
   have hi1:(k:Int)<(us.length:Int):=by omega
   obtain ⟨x,hx⟩:∃ x,x=us[k]:=⟨_,rfl⟩
   rw[←hx] at hck hck'
   have he1:(x != x)=false:=by simp
   clear hc hcells hc' hcells' hx
   go_wp2
   go_quiet (fail)
   go_wp2
   go_roundw
   case rel=>exact ⟨k+1,_,by omega,by go_num,rfl⟩
   case measure=>simp[intOf]; omega
  ·go_wp2
   go_ret
   exact ⟨rfl,(show Drawn w _ from ⟨_,rfl⟩).below⟩
def markUs (n:Nat) (m:Int):List (List UInt8):=(List.range n).map fun i:Nat=>markT (m+(i:Int))
@[simp] theorem markUs_length (n:Nat) (m:Int):(markUs n m).length=n:=by simp[markUs]
theorem markUs_get (n:Nat) (m:Int) (i:Nat) (h:i<(markUs n m).length):(markUs n m)[i]=markT (m+(i:Int)):=by simp[markUs]
theorem markUs_step {k:Nat} {us:List (List UInt8)} {m:Int} (h:k<us.length):(markUs k m++us.drop k).set k (markT (m+(k:Int)))=markUs (k+1) m++us.drop (k+1):=by
 rw[List.set_append_right _ _ (by simp)]
 have e:k-(markUs k m).length=0:=by simp
 rw[e,List.drop_eq_getElem_cons h,List.set_cons_zero]
 simp[markUs,List.range_succ]
theorem below_any {w w':World} (h:Below w.heap.size w w') (K:Option Nat):w.grownBy w' K:=⟨h.os,h.tape,h.output,h.size,fun k hk _=>h.block k hk⟩
def MarkedS (B:Nat) (v:Value) (n:Nat) (m:Int) (w:World) (e:Ending) (w':World):Prop:=
 e=.returned (.int .i64 (m+(n:Int)))∧OwnS B w' v (markUs n m)∧w.grownBy w' v.ownBlock
set_option maxHeartbeats 1000000 in
theorem markStringS_any {B:Nat} (v:Value) (us:List (List UInt8)) (m:Int) (w:World) (h:OwnS B w v us) (h0:0≤m) (h1:m≤10995116277) (h2:us.length≤10995116277):
  Calls Tryz.prog 36 #[v,.int .i64 m] w (MarkedS B v us.length m w):=by
 by_cases hz:us=[]
 ·subst hz
  obtain ⟨a,cap,rfl,_⟩:=own_shape h
  have HO:=hdd h
  clear h
  simp only[List.length_nil]
  go_enter Tryz.func36,Tryz.ntmps36
  go_wp2
  refine wp_loop_rounds 1 ?_; rw[rounds_succ]
  go_wp2
  go_ret
  exact ⟨ret_int (by simp),HO.out,World.grownBy.refl _ _⟩
 ·have hp:0<us.length:=List.length_pos_iff.2 hz
  obtain ⟨g,cap,rfl,hBg,hgs,hcap,hmax⟩:=own_head h hp
  unfold maxLen at hmax
  go_enter Tryz.func36,Tryz.ntmps36
  go_wp2
  go_loopw [1,5] (fun s i wr=>∃ k:Nat,k≤us.length∧i=.int .i64 k∧s=.int .i64 (m+(k:Int))∧OwnS B wr (.slice (some ⟨g,0,none⟩) us.length cap) (markUs k m++us.drop k)∧w.grownBy wr (some g)) (fun _ i _=>us.length-(intOf i).toNat)
  case atStart=>exact ⟨0,Nat.zero_le _,rfl,by simp,by simpa [markUs] using h,World.grownBy.refl _ _⟩
  case round=>
   obtain ⟨k,hk,rfl,rfl,ho,hb⟩:=hrel
   obtain ⟨wk,rfl⟩:∃ x,x=wr:=⟨_,rfl⟩
   clear h
   by_cases hlt:k<us.length
   ·have hM:=markText_any (m+(k:Int)) wk (by omega) (by omega)
    have HC:=hdd (markUs_step (m:=m) hlt)
    have HO:=hdd ho
    have HB:=hdd hb
    have hkl:k<(markUs k m++us.drop k).length:=by simp; omega
    clear ho hb
    go_wp2_with fail
    refine hM.mono ?_
    rintro e w2 ⟨rfl,hb2⟩
    have ho2:=HO.out.below hb2
    obtain ⟨hc1,hf1⟩:=ho2.at k hkl
    have HO2:=hdd (ho2.set k (markT (m+(k:Int))))
    have HB2:=hdd ((HB.out.andThen (below_any hb2 (some g)) (fun _ e=>.inr e)).andThen (grownBy_setCell w2 ⟨g,k,none⟩ (.string ⟨(markT (m+(k:Int))).toArray⟩)) (fun _ e=>by cases e; exact .inr rfl))
    obtain ⟨u0,hu0⟩:∃ z,z=(Value.string ⟨((markUs k m++us.drop k)[k]'hkl).toArray⟩):=⟨_,rfl⟩
    rw[←hu0] at hc1
    clear hM hb2 ho2 hu0 hkl
    go_wp2
    go_roundw
    case rel=>exact ⟨k+1,by omega,by go_num,by go_num,by rw[←HC.out]; exact HO2.out,HB2.out⟩
    case measure=>simp[intOf]; omega
   ·have e:k=us.length:=by omega
    have HO:=hdd (show OwnS B wk (.slice (some ⟨g,0,none⟩) us.length cap) (markUs us.length m) by simpa [e] using ho)
    have HB:=hdd hb
    have HE:=hdd e
    clear ho e hb
    go_wp2
    go_ret
    exact ⟨ret_int (by rw[HE.out]),HO.out,HB.out⟩
set_option maxHeartbeats 1000000 in
theorem heldStringS_mark {B:Nat} (v:Value) (n:Nat) (m:Int) (w:World) (h:SL B w v ((markUs n m).map strV)) (h0:0≤m) (h1:m≤10995116277) (h2:n≤10995116277):
  Calls Tryz.prog 37 #[v,.int .i64 m] w fun e w'=>e=.returned (.int .i64 (m+(n:Int)))∧Below w.heap.size w w':=by
 obtain ⟨a,cap,rfl,hcap,hmax,hcells⟩:=strs_opened h
 rw[markUs_length] at hcap
 simp only[markUs_length] at hcells
 rw[markUs_length]
 have HCE:=hdd hcells
 clear h hcells
 go_enter Tryz.func37,Tryz.ntmps37
 go_wp2
 go_loopw [1,5] (fun s i wr=>∃ k:Nat,k≤n∧i=.int .i64 k∧s=.int .i64 (m+(k:Int))∧Below w.heap.size w wr) (fun _ i _=>n-(intOf i).toNat)
 case atStart=>exact ⟨0,Nat.zero_le _,rfl,by simp,Below.refl _ _⟩
 case round=>
  obtain ⟨k,hk,rfl,rfl,hb⟩:=hrel
  obtain ⟨wk,rfl⟩:∃ x,x=wr:=⟨_,rfl⟩
  by_cases hlt:k<n
  ·obtain ⟨b,off,rfl,_,hc⟩:=HCE.out (by omega)
   have hck:=hc k hlt
   rw[markUs_get] at hck
   have hcc:=(Above.of_below (B:=0) hb).cell (Nat.zero_le _) hck
   have hlt2:=World.block_lt_of_cell? wk _ hcc
   have HM:=hdd (fun W=>markText_any (m+(k:Int)) W (by omega) (by omega))
   obtain ⟨x,hx⟩:∃ x,x=markT (m+(k:Int)):=⟨_,rfl⟩
   rw[←hx] at hcc HM
   have he1:(x != x)=false:=by simp
   have HB:=hdd hb
   have hi0:(0:Int)≤(k:Int):=by omega
   have hi1:(k:Int)<(n:Int):=by omega
   clear hc hck hb hx
   go_wp2
   go_region_held3 (fun w'=>w'.cell? ⟨b,off+k,none⟩=some (.string ⟨x.toArray⟩))
    (first
     | go_keep
     | (exact (hbA.cell (by simp; omega)).trans (by assumption)))
    (first
     | (go_at_call 78; refine (HM.out _).mono ?_; rintro e wA ⟨rfl,hbA⟩; have HKA:=hdd (show Below wk.heap.size wk wA from (below_drw _).trans hbA))
     | fail)
   have HB2:=hdd (HB.out.trans (HKA.out.mono HB.out.size))
   clear HKA
   go_wp2
   go_roundw
   case rel=>exact ⟨k+1,by omega,by go_num,by go_num,HB2.out⟩
   case measure=>simp[intOf]; omega
  ·have e:k=n:=by omega
   have HB:=hdd hb
   have HE:=hdd e
   clear e hb
   go_wp2
   go_ret
   exact ⟨ret_int (by rw[HE.out]),HB.out⟩
def bI (l:List UInt8):List Int:=l.map fun b=>(b.toNat:Int)
theorem szStringS_any {B:Nat} (v:Value) (us:List (List UInt8)) (l:Int) (w:World) (h:SL B w v (us.map strV)) (hmx:∀ u∈us,u.length≤9223372036854775807) (h0:0≤l) (h1:l≤1099511627776):
  Calls Tryz.prog 33 #[v,.int .i64 l] w fun e w'=>e=.returned (.int .i64 (szSS (us.map bI) l))∧w=w':=by
 obtain ⟨a,cap,rfl,hcap,hmax,hcells⟩:=strs_opened h
 clear h
 by_cases hle:(us.length:Int)≤l
 ·go_enter Tryz.func33,Tryz.ntmps33
  go_wp2
  go_loop [1,5] (fun s i=>∃ (k:Nat) (c:Int),k≤us.length∧i=.int .i64 k∧s=.int .i64 c∧szGo ((us.drop k).map bI) c=szSS (us.map bI) l∧0≤c∧c≤l) (fun _ i=>us.length-(intOf i).toNat)
  case atStart=>exact ⟨0,_,Nat.zero_le _,rfl,rfl,by simp[szSS,hle],by omega,by omega⟩
  case round=>
   obtain ⟨k,c,hk,rfl,rfl,ht,hc0,hc1⟩:=hrel
   by_cases hlt:k<us.length
   ·obtain ⟨b,off,rfl,_,hc⟩:=hcells (by omega)
    have hck:=hc k hlt
    have hxm:=hmx _ (List.getElem_mem hlt)
    rw[List.drop_eq_getElem_cons hlt,List.map_cons,szGo,show (bI us[k]).length=us[k].length by simp[bI]] at ht
    obtain ⟨x,hx⟩:∃ x,x=us[k]:=⟨_,rfl⟩
    rw[←hx] at ht hck hxm
    clear hc hcells hx
    by_cases hneg:(x.length:Int)≤c
    ·rw[if_pos hneg] at ht
     have HT:=hdd ht
     have hnn:¬(c-(x.length:Int)<0):=by omega
     have hwr:wrap64 (c-(x.length:Int))=c-(x.length:Int):=IntWalk.wrap64_in _ ⟨by omega,by omega⟩
     clear ht
     go_wp2
     go_round
     case rel=>exact ⟨k+1,_,by omega,by go_num,rfl,HT.out,by omega,by omega⟩
     case measure=>simp[intOf]; omega
    ·rw[if_neg hneg] at ht
     have HT:=hdd ht
     have hnn:c-(x.length:Int)<0:=by omega
     have hwr:wrap64 (c-(x.length:Int))=c-(x.length:Int):=IntWalk.wrap64_in _ ⟨by omega,by omega⟩
     clear ht
     go_wp2
     go_ret
     exact ⟨ret_int (by rw[←HT.out]),rfl⟩
   ·have e:us.drop k=[]:=List.drop_eq_nil_of_le (by omega)
    rw[e,List.map_nil,szGo] at ht
    have HT:=hdd ht
    clear ht e
    go_wp2
    go_ret
    exact ⟨ret_int (by rw[←HT.out]),rfl⟩
 ·have HS:=hdd (show szSS (us.map bI) l=-1 by unfold szSS; rw[List.length_map,if_neg hle])
  go_enter Tryz.func33,Tryz.ntmps33
  go_wp2
  go_ret
  exact ⟨ret_int (by rw[HS.out]),rfl⟩
end Go.Proofs.YtenlngclocfnlaaGreatDoor
namespace Go.Proofs.YtenlngclocfnlaaGreatDoor
open Go.RowKit
set_option linter.unusedVariables false
set_option maxRecDepth 100000
def LowP (P:Nat→Prop) (w:World) (v:Value) (n:Nat):Prop:=∀ g m cap,v=.slice (some ⟨g,0,none⟩) m cap→0<n→P g∧∀ i z j,i<n→w.cell? ⟨g,i*3,none⟩=some z→z.ownBlock=some j→P j
def MarkedP (B:Nat) (P:Nat→Prop) (v:Value) (gs:List Gs) (m:Int) (w:World) (e:Ending) (w':World):Prop:=
 e=.returned (.int .i64 (endK gs m))∧OwnG B w' v (markGs gs m)∧Below B w w'∧∀ b,¬P b→b<w.heap.size→w'.heap[b]?=w.heap[b]?
set_option maxHeartbeats 4000000 in
theorem markGuessS_capP {B:Nat} {P:Nat→Prop} (a:Option Addr) (capo cap2:Nat) (gs:List Gs) (m:Int) (w:World) (h:OwnG B w (.slice a gs.length capo) gs) (hlow:LowP P w (.slice a gs.length capo) gs.length) (hBw:B≤w.heap.size) (h0:0≤m) (h1:m+totG gs≤1099511627776):
  Calls Tryz.prog 76 #[.slice a gs.length cap2,.int .i64 m] w (MarkedP B P (.slice a gs.length capo) gs m w):=by
 by_cases hz:gs=[]
 ·subst hz
  have HO:=hdd h
  clear h hlow
  go_enter Tryz.func76,Tryz.ntmps76
  go_wp2
  refine wp_loop_rounds 1 ?_; rw[rounds_succ]
  go_wp2
  go_ret
  exact ⟨rfl,HO.out,Below.refl _ _,fun _ _ _=>rfl⟩
 ·have hp:0<gs.length:=List.length_pos_iff.2 hz
  obtain ⟨g,cap,e0,hBg,hgs,hcap,hmax,_,hat0⟩:=h.opened hp
  injection e0 with e0 e0b e0c
  subst e0 e0c
  clear e0b
  obtain ⟨hgC,hlw⟩:=hlow g _ _ rfl hp
  have HLW:=hdd hlw
  have HGP:=hdd hgC
  clear hgC
  have HO0:=hdd h
  clear hlow hlw hat0 hz h
  go_enter Tryz.func76,Tryz.ntmps76
  go_wp2
  go_loopw [1,5] (fun s i wr=>∃ k:Nat,k≤gs.length∧i=.int .i64 k∧s=.int .i64 (endK (gs.take k) m)∧OwnG B wr (.slice (some ⟨g,0,none⟩) gs.length capo) (markGs (gs.take k) m++gs.drop k)∧Below B w wr ∧
   (∀ b,¬P b→b<w.heap.size→wr.heap[b]?=w.heap[b]?)∧∀ i,i<gs.length→wr.cell? ⟨g,i*3,none⟩=w.cell? ⟨g,i*3,none⟩) (fun _ i _=>gs.length-(intOf i).toNat)
  case atStart=>exact ⟨0,Nat.zero_le _,rfl,by simp[endK],by simpa [markGs] using HO0.out,Below.refl _ _,fun _ _ _=>rfl,fun _ _=>rfl⟩
  case round=>
   obtain ⟨k,hk,rfl,rfl,ho,hb,hfar,hsame⟩:=hrel
   obtain ⟨wk,rfl⟩:∃ x,x=wr:=⟨_,rfl⟩
   clear HO0
   have hlen:(markGs (gs.take k) m++gs.drop k).length=gs.length:=by simp; omega
   by_cases hlt:k<gs.length
   ·obtain ⟨g9,cap9,e9,_,_,_,_,hfz,hat⟩:=ho.opened (by rw[hlen]; omega)
    injection e9 with e9 e9b e9c
    clear e9b e9c
    injection e9 with e9
    injection e9 with e9 _
    subst e9
    have hkl:k<(markGs (gs.take k) m++gs.drop k).length:=by rw[hlen]; exact hlt
    obtain ⟨u,z1,zu,z2,z3⟩:=hat k hkl
    rw[markGs_at hlt] at zu z2 z3
    have htn:=totG_next hlt
    have hem:endK (gs.take k) m=m+totG (gs.take k):=endK_tot _ _
    have hM:=markIntS_any u gs[k].code (endK (gs.take k) m) wk zu (by omega) (by omega) (by omega)
    have HT:=hdd (fun (w2:World) (ys:List Int) (hg:wk.grownBy w2 u.ownBlock) (hu:OwnI B w2 u ys)=>ho.turn k hkl z1 hg hu)
    have hju:∀ j,u.ownBlock=some j→P j∧B≤j:=fun j hj=>⟨HLW.out k u j hlt (by rw[←hsame k hlt]; exact z1) hj,(World.ownsRow.lt zu j hj).1⟩
    have hug:u.ownBlock≠some g:=by
     obtain ⟨ts,t1,_⟩:=ho
     have:=own_apart zu t1 (by decide)
     rcases this with q | q
     ·rw[q]; simp
     ·simpa [Value.ownBlock] using q
    have HNX:=hdd (endK_next hlt m)
    have HMN:=hdd (markGs_next hlt m)
    have HAT:=hdd (fun (h':k<(markGs (gs.take k) m++gs.drop k).length)=>markGs_at hlt m h')
    obtain ⟨au,cu,hus,_⟩:=own_shape zu
    obtain ⟨e,he⟩:∃ e,e=endK (gs.take k) m:=⟨_,rfl⟩
    rw[←he] at hM hem HNX HMN ⊢
    obtain ⟨n,hn⟩:∃ n,n=gs[k].code.length:=⟨_,rfl⟩
    rw[←hn] at hM hus htn HNX HMN
    subst hus
    have HB:=hdd hb
    have HFR:=hdd hfar
    have HSM:=hdd hsame
    have HJU:=hdd hju
    have HUG:=hdd hug
    have HLEN:=hdd hlen
    have hzk:=hb.size
    have hk3:(k:Int)<(gs.length:Int):=by omega
    have hk0:(0:Int)≤(k:Int):=by omega
    have he0:0≤e:=by omega
    have he1:e+n+2≤1099511627776:=by omega
    clear hfz hat zu hju hug hb hfar hsame ho he hn hlen hem htn
    go_wp2_with fail
    refine hM.mono ?_
    rintro e' w2 ⟨rfl,hu2,hg2⟩
    have hT:=HT.out w2 _ hg2 hu2
    have hlen2:((markGs (gs.take k) m++gs.drop k).set k ⟨markL n e,(markGs (gs.take k) m++gs.drop k)[k]'hkl |>.right,(markGs (gs.take k) m++gs.drop k)[k]'hkl |>.near⟩).length=gs.length:=by rw[List.length_set,HLEN.out]
    have htl:=hT.tail k (by rw[hlen2]; exact hlt) (e+n) (e+n+1)
    have hfin:(((markGs (gs.take k) m++gs.drop k).set k ⟨markL n e,(markGs (gs.take k) m++gs.drop k)[k]'hkl |>.right,(markGs (gs.take k) m++gs.drop k)[k]'hkl |>.near⟩).set k ⟨(((markGs (gs.take k) m++gs.drop k).set k ⟨markL n e,(markGs (gs.take k) m++gs.drop k)[k]'hkl |>.right,(markGs (gs.take k) m++gs.drop k)[k]'hkl |>.near⟩)[k]'(by rw[hlen2]; exact hlt)).code,e+n,e+n+1⟩)=markGs (gs.take (k+1)) m++gs.drop (k+1):=by
     rw[HMN.out,List.set_set]
     simp
    rw[hfin] at htl
    obtain ⟨g8,cap8,e8,_,_,_,_,hfz,hat⟩:=hT.opened (by rw[hlen2]; omega)
    injection e8 with e8 e8b e8c
    clear e8b e8c
    injection e8 with e8
    injection e8 with e8 _
    subst e8
    obtain ⟨u8,y1,_,y2,y3⟩:=hat k (by rw[hlen2]; exact hlt)
    obtain ⟨r8,hr8⟩:∃ r8,w2.cell? ⟨g,k*3+1,none⟩=some (.int .i64 r8):=⟨_,y2⟩
    obtain ⟨n8,hn8⟩:∃ n8,w2.cell? ⟨g,k*3+2,none⟩=some (.int .i64 n8):=⟨_,y3⟩
    have hc3:=set_seenG w2 g (k*3+1) (k*3+2) (.int .i64 (e+n)) _ hn8 (by omega)
    have hf1:=hfz (k*3+1)
    have hf2:=set_thawedG w2 g (k*3+1) (k*3+2) (.int .i64 (e+n)) (hfz _)
    have hsame2:∀ i,i<gs.length→((w2.setCell ⟨g,k*3+1,none⟩ (.int .i64 (e+n))).setCell ⟨g,k*3+2,none⟩ (.int .i64 (e+n+1))).cell? ⟨g,i*3,none⟩=w.cell? ⟨g,i*3,none⟩:=fun i hi=>by
     obtain ⟨ui,x1,_⟩:=hat i (by rw[hlen2]; exact hi)
     have x2:=set_seenG w2 g (k*3+1) (i*3) (.int .i64 (e+n)) _ x1 (by omega)
     have x3:=set_seenG _ g (k*3+2) (i*3) (.int .i64 (e+n+1)) _ x2 (by omega)
     rw[x3,←x1,←HSM.out i hi]
     exact World.cell?_of_block (hg2.block g (by have:=World.block_lt_of_cell? wk _ z1; exact this) (fun q=>HUG.out q.symm))
    have hb2:=HB.out.grown hg2 (by omega) (fun j hj=>(HJU.out j hj).2)
    have hz2:=hg2.size
    have HO2:=hdd htl.1
    have HB2:=hdd (hb2.grown htl.2 (by omega) (fun j hj=>by cases hj; exact hBg))
    have HFR2:=hdd (show ∀ b,¬P b→b<w.heap.size→((w2.setCell ⟨g,k*3+1,none⟩ (.int .i64 (e+n))).setCell ⟨g,k*3+2,none⟩ (.int .i64 (e+n+1))).heap[b]?=w.heap[b]? from fun b q1 q2=>by
     have hbw:b<wk.heap.size:=by
      have:=HFR.out b q1 q2
      rw[Array.getElem?_eq_getElem q2] at this
      exact (Array.getElem?_eq_some_iff.1 this).1
     rw[htl.2.block b (by omega) (fun q=>by injection q with q; subst q; exact q1 HGP.out),hg2.block b hbw (fun q=>q1 (HJU.out b q.symm).1)]
     exact HFR.out b q1 q2)
    have HS2:=hdd hsame2
    clear hM hT htl hfin hfz hat y1 y2 y3 hu2 hg2 hsame2 hb2
    go_wp2
    go_roundw
    case rel=>exact ⟨k+1,by omega,by go_num,by rw[HNX.out]; go_num,HO2.out,HB2.out,HFR2.out,HS2.out⟩
    case measure=>simp[intOf]; omega
   ·have e1:gs.take k=gs:=List.take_of_length_le (by omega)
    have e2:gs.drop k=[]:=List.drop_eq_nil_of_le (by omega)
    rw[e1,e2,List.append_nil] at ho
    rw[e1]
    have HO:=hdd ho
    have HB:=hdd hb
    have HFR:=hdd hfar
    clear e1 e2 ho hb hfar hsame hlen
    go_wp2
    go_ret
    exact ⟨rfl,HO.out,HB.out,HFR.out⟩
def StrAt (w:World) (j:Nat):Prop:=∃ cs fr,w.heap[j]?=some (.cells cs 9 fr)
theorem OwnG.lowP {B:Nat} {w0 w:World} {a:Option Addr} {capo:Nat} {gs:List Gs} (h:OwnG B w (.slice a gs.length capo) gs) (hlow:LowG w0.heap.size w (.slice a gs.length capo) gs.length):
  LowP (fun j=>j<w0.heap.size∧¬StrAt w j) w (.slice a gs.length capo) gs.length:=by
 intro g m cap hv hn
 obtain ⟨q1,q2⟩:=hlow g m cap hv hn
 obtain ⟨g1,c1,e1,_,_,_,_,_,hat⟩:=h.opened hn
 obtain ⟨ts,t1,_⟩:=h
 have e2:=hv
 rw[e1] at hv
 injection hv with hv _ _
 injection hv with hv
 injection hv with hv _
 subst hv
 refine ⟨⟨q1,fun ⟨cs,fr,hK⟩=>?_⟩,fun i z j hi hz hj=>⟨q2 i z j hi hz hj,fun ⟨cs,fr,hK⟩=>?_⟩⟩
 ·have:=own_other t1 hK (by decide)
  rw[e1] at this
  rcases this with q | q
  ·cases q
  ·exact q rfl
 ·obtain ⟨u,u1,u2,_⟩:=hat i hi
  rw[hz] at u1
  obtain rfl:=Option.some.inj u1
  rcases own_other u2 hK (by decide) with q | q
  ·rw[q] at hj; cases hj
  ·exact q hj
def MarkedQ (B:Nat) (wk:World) (v:Value) (gs:List Gs) (m:Int) (w:World) (e:Ending) (w':World):Prop:=
 e=.returned (.int .i64 (endK gs m))∧RG B w' v (markGs gs m)∧Below B w w'∧∀ b,(wk.heap.size≤b∨StrAt w b)→b<w.heap.size→w'.heap[b]?=w.heap[b]?
theorem markDesk_rgP {B:Nat} {wk:World} (p c:Int) (v:Value) (gs:List Gs) (m:Int) (w:World) (h:RG B wk v gs) (hA:Above B wk w) (hBw:B≤w.heap.size) (hsz:wk.heap.size≤w.heap.size) (h0:0≤m) (h1:m+totG gs≤1099511627776):
  Calls Tryz.prog 31 #[dkV p c v,.int .i64 m] w (MarkedQ B wk v gs m w):=by
 obtain ⟨a,cap,cap2,rfl,h2,h3,h4,h5⟩:=h
 have hb1:Below w.heap.size w (w.alloc (.cells #[.int .i64 p,.int .i64 c,.slice a gs.length cap2] 30)):=(Below.refl _ _).alloc (Nat.le_refl _) _
 have ho:=(h4.keep hA).below hb1
 have hlow:=ho.lowP (w0:=wk) (h4.low (fun b q1 q2=>(hb1.block b (by omega)).trans (hA b q1 q2)))
 have hM:=markGuessS_capP a cap cap2 gs m _ ho hlow (by simp; omega) h0 h1
 have HB1:=hdd hb1
 have HBW:=hdd hBw
 have H64:=hdd (markGs_in64 gs m h0 h1)
 unfold dkV
 clear h4 h5 hb1 ho hBw hA hlow
 go_enter Tryz.func31,Tryz.ntmps31
 go_wp2_with fail
 refine hM.mono ?_
 rintro e w2 ⟨rfl,ho2,hb2,hf2⟩
 have HO2:=hdd ho2
 have HB2:=hdd ((HB1.out.mono HBW.out).trans hb2)
 have HF2:=hdd (show ∀ b,(wk.heap.size≤b∨StrAt w b)→b<w.heap.size→w2.heap[b]?=w.heap[b]? from fun b q1 q2=>(hf2 b (fun ⟨x,y⟩=>by
  rcases q1 with q1 | ⟨cs,fr,q1⟩
  ·omega
  ·exact y ⟨cs,fr,(HB1.out.block b q2).trans q1⟩) (by simp; omega)).trans (HB1.out.block b q2))
 clear hM ho2 hb2 hf2
 go_wp2
 go_ret
 exact ⟨rfl,⟨a,cap,cap2,by rw[markGs_length],by rw[markGs_length]; exact h2,h3,by rw[markGs_length]; exact HO2.out,H64.out⟩,HB2.out,HF2.out⟩
theorem OwnS.stand {B:Nat} {w w':World} {v:Value} {us:List (List UInt8)} (h:OwnS B w v us) (hs:∀ b,StrAt w b→b<w.heap.size→w'.heap[b]?=w.heap[b]?):OwnS B w' v us:=by
 obtain ⟨h0,h⟩:=h
 refine ⟨h0,?_⟩
 rcases h with ⟨rfl,h1⟩ | ⟨g,cap,cur,rfl,hB,hg,h1,h2,h3,h4⟩
 ·exact .inl ⟨rfl,h1⟩
 ·exact .inr ⟨g,cap,cur,rfl,hB,(hs g ⟨cur,(0,0),hg⟩ (Array.getElem?_eq_some_iff.1 hg).1).trans hg,h1,h2,h3,h4⟩
end Go.Proofs.YtenlngclocfnlaaGreatDoor
namespace Go.Proofs.YtenlngclocfnlaaGreatDoor
open Go.RowKit
set_option linter.unusedVariables false
set_option maxRecDepth 100000
def DC (x y z:Value):Obj:=.cells #[x,y,z] 30 (0,0)
structure RelD (R:Nat) (x y z:Value) (W W':World):Prop where
 grown:W.grownBy W' (some R)
 box:(∃ x y z,At W R (DC x y z))→∃ x y z,At W' R (DC x y z)
 full:At W R (DC x y z)→At W' R (DC x y z)
theorem RelD.refl (R:Nat) (x y z:Value) (W:World):RelD R x y z W W:=⟨World.grownBy.refl _ _,fun h=>h,fun h=>h⟩
theorem RelD.trans {R:Nat} {x y z:Value} {a b c:World} (h:RelD R x y z a b) (h':RelD R x y z b c):RelD R x y z a c:=
 ⟨grownT h.grown h'.grown,fun q=>h'.box (h.box q),fun q=>h'.full (h.full q)⟩
theorem RelD.of {R:Nat} {x y z:Value} {W W':World} (h:Below W.heap.size W W'):RelD R x y z W W':=⟨grownR h,fun ⟨x,y,z,q⟩=>⟨x,y,z,q.below h⟩,fun q=>q.below h⟩
theorem RelD.store {R:Nat} {x y z x' y' z':Value} {W:World} (h:At W R (DC x' y' z')):
  RelD R x y z W (((W.setCell ⟨R,0,none⟩ x).setCell ⟨R,1,none⟩ y).setCell ⟨R,2,none⟩ z)∧At (((W.setCell ⟨R,0,none⟩ x).setCell ⟨R,1,none⟩ y).setCell ⟨R,2,none⟩ z) R (DC x y z):=by
 have q1:=heap_setCell_same _ _ 0 _ _ x h
 have q2:=heap_setCell_same _ _ 1 _ _ y q1
 have q3:At (((W.setCell ⟨R,0,none⟩ x).setCell ⟨R,1,none⟩ y).setCell ⟨R,2,none⟩ z) R (DC x y z):=heap_setCell_same _ _ 2 _ _ z q2
 exact ⟨⟨grownT (grownT (grownBy_setCell W ⟨R,0,none⟩ x) (grownBy_setCell (W.setCell ⟨R,0,none⟩ x) ⟨R,1,none⟩ y)) (grownBy_setCell ((W.setCell ⟨R,0,none⟩ x).setCell ⟨R,1,none⟩ y) ⟨R,2,none⟩ z),fun _=>⟨x,y,z,q3⟩,fun _=>q3⟩,q3⟩
theorem cell_grown {R G i:Nat} {W W':World} {v:Value} (hg:W.grownBy W' (some R)) (hne:G≠R) (h:W.cell? ⟨G,i,none⟩=some v):W'.cell? ⟨G,i,none⟩=some v:=by
 rw[World.cell?_of_block (w:=W) (hg.block G (World.block_lt_of_cell? W _ h) (fun e=>hne (by injection e)))]
 exact h
theorem WordsAt.grown {R g:Nat} {us:List (List UInt8)} {W W':World} (h:WordsAt g us W) (hg:W.grownBy W' (some R)) (hne:g≠R):WordsAt g us W':=⟨fun k hk=>cell_grown hg hne (h.cell k hk),h.len⟩
theorem line_out {w W:World} {R:Nat} {p c:Int} {gs:List Gs} {a3:Option Addr} {c3:Nat} (l:List UInt8) (h:At W R (DC (.int .i64 p) (.int .i64 c) (.slice a3 gs.length c3))) (ho:OwnG w.heap.size W (.slice a3 gs.length c3) gs) (hb:Below w.heap.size w W):
  SayOut p c gs l w (.returned (.tuple #[dkV p c (.slice a3 gs.length c3),strV l])) W:=by
 obtain ⟨q1,q2⟩:=ho.caps
 exact ⟨a3,c3,c3,rfl,q1,q2,ho,hb⟩
set_option maxHeartbeats 8000000 in
theorem lineS_deed {B:Nat} (p c:Int) (v:Value) (gs:List Gs) (l:List UInt8) (d:Dd) (w:World) (h:RG B w v gs) (hl:l.length≤2000000) (hd:readD l=some d) (hok:deskB p c gs=true) (hc:∀ g∈gs,g.code.length≤2000000):
  Calls Tryz.prog 21 #[dkV p c v,strV l] w (SayOut p c (doneG p c gs d).1 (if (doneG p c gs d).2=true then wOk else wNo) w):=by
 have HRG:=hdd h
 have HC:=hdd hc
 have hlen:=deskB_len hok
 obtain ⟨a,cap,rfl⟩:=h.shape
 obtain ⟨w1,hw1⟩:∃ w1,w1=(w.alloc (.cells #[.int .i64 p,.int .i64 c,.slice a gs.length cap] 30)).alloc (.cells #[.int .i64 0,.int .i64 0,.slice none 0 0] 30):=⟨_,rfl⟩
 have hb1:Below w.heap.size w w1:=by rw[hw1]; exact ((Below.refl _ _).alloc (Nat.le_refl _) _).alloc (by simp) _
 have hs1:w1.heap.size=w.heap.size+2:=by rw[hw1]; simp
 have hz0:At w1 w.heap.size (.cells #[.int .i64 p,.int .i64 c,.slice a gs.length cap] 30):=by
  rw[hw1]; exact (At.new w _).below ((Below.refl _ _).alloc (Nat.le_refl _) _)
 have hz1:At w1 (w.heap.size+1) (.cells #[.int .i64 0,.int .i64 0,.slice none 0 0] 30):=by
  rw[hw1]; have q:=At.new (w.alloc (.cells #[.int .i64 p,.int .i64 c,.slice a gs.length cap] 30)) (.cells #[.int .i64 0,.int .i64 0,.slice none 0 0] 30); rw[World.size_alloc] at q; exact q
 have hK:=deskOkS_any p c _ gs w1 (HRG.out.below hb1).toGL
 rw[hok] at hK
 have HB1:=hdd hb1
 have HS1:=hdd hs1
 have HZ0:=hdd hz0
 have HZ1:=hdd hz1
 obtain ⟨hd1,hd2⟩:=rd_some hd
 have hcode:=rd_code l
 rw[hd1] at hcode
 have HRD:=hdd (And.intro hd1 hd2)
 obtain ⟨b,ys,r,n⟩:=d
 simp only at hcode
 have hy3:=hcode.1
 have HY64:=hdd (show ∀ y∈ys,In64 y from fun y hy=>by have:=hcode.2 y hy; unfold In64; omega)
 have HDO:=hdd (fun W a2 k2 (q:RG B W (.slice a gs.length cap) gs) (hu:Ints 0 W (.slice a2 ys.length k2) ys)=>(deskDoS_any p c _ gs b _ ys r n W q.toGL hu hc (by omega)).mono (fun e w' (z:DoRes p c gs ⟨b,ys,r,n⟩ W e w')=>show DoOut p c (doneG p c gs ⟨b,ys,r,n⟩).1 (doneG p c gs ⟨b,ys,r,n⟩).2 W e w' by unfold DoRes at z; rwa [if_pos hok] at z))
 obtain ⟨gs',hgs'⟩:∃ z,z=(doneG p c gs ⟨b,ys,r,n⟩).1:=⟨_,rfl⟩
 obtain ⟨ok,hokk⟩:∃ z,z=(doneG p c gs ⟨b,ys,r,n⟩).2:=⟨_,rfl⟩
 rw[←hgs',←hokk] at HDO
 rw[←hgs',←hokk]
 obtain ⟨an,han⟩:∃ z,z=(if ok=true then wOk else wNo):=⟨_,rfl⟩
 rw[←han]
 have HAN:=hdd han
 clear hcode hgs' hokk han
 unfold dkV at hK
 unfold dkV strV
 obtain ⟨x0,x1,x2⟩:=hz0.three
 clear h hc hb1 hs1 hz0 hz1 hok hd hd1 hd2
 go_enter Tryz.func21,Tryz.ntmps21
 go_wp2_with fail
 rw[←hw1]
 clear hw1
 refine hK.mono ?_
 rintro e w2 ⟨rfl,hb2⟩
 have HB2:=hdd (HB1.out.trans (hb2.mono HB1.out.size))
 have HB12:=hdd hb2
 have hCP:=copS_any p c _ gs w2 (HRG.out.below HB2.out).toGL (by omega) HC.out
 unfold dkV at hCP
 clear hK hb2 x0 x1 x2
 obtain ⟨x0,x1,x2⟩:=(HZ0.out.below HB12.out).three
 go_wp2_with fail
 refine hCP.mono ?_
 rintro e w3 ⟨a3,c3,rfl,ho3,hb3⟩
 unfold dkV
 obtain ⟨w4,hw4⟩:∃ z,z=w3.alloc (.cells #[.int .i64 p,.int .i64 c,.slice a3 gs.length c3] 30):=⟨_,rfl⟩
 have hb34:Below w3.heap.size w3 w4:=by rw[hw4]; exact (Below.refl _ _).alloc (Nat.le_refl _) _
 have HZ6:=hdd (show At w4 w3.heap.size (.cells #[.int .i64 p,.int .i64 c,.slice a3 gs.length c3] 30) by rw[hw4]; exact At.new w3 _)
 have HB14:=hdd (HB12.out.trans ((hb3.trans (hb34.mono hb3.size)).mono HB12.out.size))
 have HB4:=hdd (HB1.out.trans (HB14.out.mono HB1.out.size))
 have HO4:=hdd (show OwnG w2.heap.size w4 (.slice a3 gs.length c3) gs from ho3.below hb34)
 have hI:=readDeedS_any l w4 (by omega)
 unfold ReadOut at hI
 rw[HRD.out.1,HRD.out.2] at hI
 simp only at hI
 unfold strV dV at hI
 have HG6:=hdd (show w.heap.size+1<w3.heap.size by have:=HS1.out; have:=HB12.out.size; have:=hb3.size; omega)
 have HR2:=hdd (show w.heap.size+1<w2.heap.size by have:=HS1.out; have:=HB12.out.size; omega)
 clear hCP ho3 hb3 hb34 x0 x1 x2
 go_wp2_with fail
 rw[←hw4]
 clear hw4
 refine hI.mono ?_
 rintro e w5 ⟨a5,k5,rfl,ho5,hb5⟩
 obtain ⟨w6,hw6⟩:∃ z,z=w5.alloc (.cells #[.bool b,.slice a5 ys.length k5,.int .i64 r,.int .i64 n] 41):=⟨_,rfl⟩
 have hb56:Below w5.heap.size w5 w6:=by rw[hw6]; exact (Below.refl _ _).alloc (Nat.le_refl _) _
 have HB46:=hdd (hb5.trans (hb56.mono hb5.size))
 have HB16:=hdd (HB14.out.trans (HB46.out.mono HB14.out.size))
 have HB6:=hdd (HB1.out.trans (HB16.out.mono HB1.out.size))
 have HZ7:=hdd (show At w6 w5.heap.size (.cells #[.bool b,.slice a5 ys.length k5,.int .i64 r,.int .i64 n] 41) by rw[hw6]; exact At.new w5 _)
 have HU6:=hdd (show Ints 0 w6 (.slice a5 ys.length k5) ys from ((ho5.below hb56).toInts HY64.out).mono (Nat.zero_le _))
 clear hI ho5 hb5 hb56
 go_upto_region 5 with fail
 rw[←hw6]
 clear hw6
 have hD:=HDO.out w6 a5 k5 (HRG.out.below HB6.out) HU6.out
 unfold dkV dV DoOut dkV at hD
 obtain ⟨x0,x1,x2⟩:=(HZ0.out.below HB16.out).three
 obtain ⟨y0,y1,y2,y3⟩:=HZ7.out.four
 go_wp2_with fail
 refine hD.mono ?_
 rintro e w7 ⟨a7,c7,k7,rfl,q1,q2,ho7,hb7⟩
 obtain ⟨w8,hw8⟩:∃ z,z=w7.alloc (.cells #[.int .i64 p,.int .i64 c,.slice a7 gs'.length k7] 30):=⟨_,rfl⟩
 have hb78:Below w7.heap.size w7 w8:=by rw[hw8]; exact (Below.refl _ _).alloc (Nat.le_refl _) _
 have HZ9:=hdd (show At w8 w7.heap.size (.cells #[.int .i64 p,.int .i64 c,.slice a7 gs'.length k7] 30) by rw[hw8]; exact At.new w7 _)
 have HB68:=hdd (hb7.trans (hb78.mono hb7.size))
 have HB8:=hdd (HB6.out.trans (HB68.out.mono HB6.out.size))
 have HR8:=hdd (HZ1.out.below (HB16.out.trans (HB68.out.mono HB16.out.size)))
 have HO8:=hdd (show OwnG w.heap.size w8 (.slice a7 gs'.length c7) gs' from (ho7.below hb78).mono HB6.out.size)
 clear hD ho7 hb7 hb78 x0 x1 x2 y0 y1 y2 y3
 go_upto_region 7 with fail
 rw[←hw8]
 clear hw8
 obtain ⟨x0,x1,x2⟩:=HZ9.out.three
 obtain ⟨r0,r1,r2,rf⟩:=zero_cells HR8.out
 cases ok
 ·have ha:=HAN.out
  rw[if_neg (by simp)] at ha
  subst ha
  clear HAN
  have HF:=hdd (say_ret (w:=w) (p:=p) (c:=c) wNo HR8.out (by omega) HO8.out HB8.out q1 q2)
  go_wp2
  ((try simp only[Exit.inBlock,Exit.then]); refine bodyPost_ret (results_cell_tmp rfl _ _ (w.heap.size+1) _ _ (0,0) _ rfl HF.out.2 Tryz.underlying30 rfl (by kernel_rfl)) rfl ?_)
  exact HF.out.1
 ·have ha:=HAN.out
  rw[if_pos rfl] at ha
  subst ha
  clear HAN
  have HF:=hdd (say_ret (w:=w) (p:=p) (c:=c) wOk HR8.out (by omega) HO8.out HB8.out q1 q2)
  go_wp2
  ((try simp only[Exit.inBlock,Exit.then]); refine bodyPost_ret (results_cell_tmp rfl _ _ (w.heap.size+1) _ _ (0,0) _ rfl HF.out.2 Tryz.underlying30 rfl (by kernel_rfl)) rfl ?_)
  exact HF.out.1
set_option maxHeartbeats 8000000 in
theorem lineS_fit {B:Nat} (p c:Int) (v:Value) (gs:List Gs) (l:List UInt8) (w:World) (h:RG B w v gs) (hl:l.length≤2000000) (hd:readD l=none) (hok:deskB p c gs=true) (hc:∀ g∈gs,g.code.length≤2000000) (b1:(l==[102,105,116])=true):
  Calls Tryz.prog 21 #[dkV p c v,strV l] w (SayOut p c gs (Lib.decDigits (fitL p c gs).length) w):=by
 have HRG:=hdd h
 have HC:=hdd hc
 have hlen:=deskB_len hok
 obtain ⟨a,cap,rfl⟩:=h.shape
 obtain ⟨w1,hw1⟩:∃ w1,w1=(w.alloc (.cells #[.int .i64 p,.int .i64 c,.slice a gs.length cap] 30)).alloc (.cells #[.int .i64 0,.int .i64 0,.slice none 0 0] 30):=⟨_,rfl⟩
 have hb1:Below w.heap.size w w1:=by rw[hw1]; exact ((Below.refl _ _).alloc (Nat.le_refl _) _).alloc (by simp) _
 have hs1:w1.heap.size=w.heap.size+2:=by rw[hw1]; simp
 have hz0:At w1 w.heap.size (.cells #[.int .i64 p,.int .i64 c,.slice a gs.length cap] 30):=by
  rw[hw1]; exact (At.new w _).below ((Below.refl _ _).alloc (Nat.le_refl _) _)
 have hz1:At w1 (w.heap.size+1) (.cells #[.int .i64 0,.int .i64 0,.slice none 0 0] 30):=by
  rw[hw1]; have q:=At.new (w.alloc (.cells #[.int .i64 p,.int .i64 c,.slice a gs.length cap] 30)) (.cells #[.int .i64 0,.int .i64 0,.slice none 0 0] 30); rw[World.size_alloc] at q; exact q
 have hK:=deskOkS_any p c _ gs w1 (HRG.out.below hb1).toGL
 rw[hok] at hK
 have HB1:=hdd hb1
 have HS1:=hdd hs1
 have HZ0:=hdd hz0
 have HZ1:=hdd hz1
 have HRD:=hdd (rd_none hd)
 have HF3:=hdd (fun W (q:RG B W (.slice a gs.length cap) gs)=>fitS_any p c _ gs W q.toGL)
 have HFL:=hdd (fitL_len p c gs)
 obtain ⟨L,hL⟩:∃ L,L=fitL p c gs:=⟨_,rfl⟩
 rw[←hL] at HF3 HFL ⊢
 have HT3:=hdd (fun W=>l1NumN L.length W (by have:=HFL.out; omega))
 obtain ⟨an,han⟩:∃ an,an=Lib.decDigits L.length:=⟨_,rfl⟩
 rw[←han] at HT3 ⊢
 unfold strV at HT3
 clear han hL
 unfold dkV at hK
 unfold dkV strV
 obtain ⟨x0,x1,x2⟩:=hz0.three
 clear h hc hb1 hs1 hz0 hz1 hok hd
 go_enter Tryz.func21,Tryz.ntmps21
 go_wp2_with fail
 rw[←hw1]
 clear hw1
 refine hK.mono ?_
 rintro e w2 ⟨rfl,hb2⟩
 have HB2:=hdd (HB1.out.trans (hb2.mono HB1.out.size))
 have HB12:=hdd hb2
 have hCP:=copS_any p c _ gs w2 (HRG.out.below HB2.out).toGL (by omega) HC.out
 unfold dkV at hCP
 clear hK hb2 x0 x1 x2
 obtain ⟨x0,x1,x2⟩:=(HZ0.out.below HB12.out).three
 go_wp2_with fail
 refine hCP.mono ?_
 rintro e w3 ⟨a3,c3,rfl,ho3,hb3⟩
 unfold dkV
 obtain ⟨w4,hw4⟩:∃ z,z=w3.alloc (.cells #[.int .i64 p,.int .i64 c,.slice a3 gs.length c3] 30):=⟨_,rfl⟩
 have hb34:Below w3.heap.size w3 w4:=by rw[hw4]; exact (Below.refl _ _).alloc (Nat.le_refl _) _
 have HZ6:=hdd (show At w4 w3.heap.size (.cells #[.int .i64 p,.int .i64 c,.slice a3 gs.length c3] 30) by rw[hw4]; exact At.new w3 _)
 have HB14:=hdd (HB12.out.trans ((hb3.trans (hb34.mono hb3.size)).mono HB12.out.size))
 have HB4:=hdd (HB1.out.trans (HB14.out.mono HB1.out.size))
 have HO4:=hdd (show OwnG w2.heap.size w4 (.slice a3 gs.length c3) gs from ho3.below hb34)
 have hI:=readDeedS_any l w4 (by omega)
 unfold ReadOut at hI
 rw[HRD.out.1,HRD.out.2] at hI
 simp only[List.length_nil] at hI
 unfold strV dV at hI
 have HG6:=hdd (show w.heap.size+1<w3.heap.size by have:=HS1.out; have:=HB12.out.size; have:=hb3.size; omega)
 have HR2:=hdd (show w.heap.size+1<w2.heap.size by have:=HS1.out; have:=HB12.out.size; omega)
 clear hCP ho3 hb3 hb34 x0 x1 x2
 go_wp2_with fail
 rw[←hw4]
 clear hw4
 refine hI.mono ?_
 rintro e w5 ⟨a5,k5,rfl,ho5,hb5⟩
 obtain ⟨w6,hw6⟩:∃ z,z=w5.alloc (.cells #[.bool false,.slice a5 0 k5,.int .i64 0,.int .i64 0] 41):=⟨_,rfl⟩
 have hb56:Below w5.heap.size w5 w6:=by rw[hw6]; exact (Below.refl _ _).alloc (Nat.le_refl _) _
 have HB46:=hdd (hb5.trans (hb56.mono hb5.size))
 have HB16:=hdd (HB14.out.trans (HB46.out.mono HB14.out.size))
 have HB6:=hdd (HB1.out.trans (HB16.out.mono HB1.out.size))
 clear hI ho5 hb5 hb56
 go_upto_region 5 with fail
 rw[←hw6]
 clear hw6
 obtain ⟨x0,x1,x2⟩:=(HZ0.out.below HB16.out).three
 skip
 have HC2:=hdd (HZ0.out.below HB16.out).three
 have HC6:=hdd (HZ6.out.below HB46.out).three
 have HBX:=hdd (HZ1.out.below HB16.out)
 have HBX6:=hdd HB6.out
 have HOX:=hdd (HO4.out.below HB46.out)
 have HRGW:=hdd (fun W (q:RelD (w.heap.size+1) (.int .i64 p) (.int .i64 c) (.slice a3 gs.length c3) w6 W)=>HRG.out.below (HBX6.out.grown q.grown HBX6.out.size (fun k hk=>by injection hk; omega)))
 clear x0 x1 x2
 go_wp2
 refine wp_region_invN (Rel:=RelD (w.heap.size+1) (.int .i64 p) (.int .i64 c) (.slice a3 gs.length c3)) 10 0 (fun a b c=>RelD.trans) (fun w=>RelD.of (Below.refl _ _).drew) (by kernel_rfl) (fun k=>(#[38,39,40,41,42,43,44,45,46,47,1000,5]:Array Nat).getD k 0) 74
  (fun k v W=>match k with
   | 0=>v=.agg #[.int .i64 p,.int .i64 c,.slice a3 gs.length c3]
   | 1=>v=.pointer (some ⟨w.heap.size,0,none⟩)
   | 2=>v=.int .i64 p
   | 3=>v=.pointer (some ⟨w.heap.size,1,none⟩)
   | 4=>v=.int .i64 c
   | 5=>v=.pointer (some ⟨w.heap.size,2,none⟩)
   | 6=>v=.slice a gs.length cap
   | 7=>∃ a4 c4,v=.slice a4 L.length c4
   | 8=>v=.int .i64 (L.length:Nat)
   | 9=>v=.string ⟨an.toArray⟩
   | 10=>At W (w.heap.size+1) (DC (.int .i64 p) (.int .i64 c) (.slice a3 gs.length c3))
   | 11=>v=.string ⟨an.toArray⟩
   | _=>False) ?sz ?chk ?mono ?step ?fin
 case sz=>rfl
 case chk=>kernel_rfl
 case mono=>
  intro k v W W' h hb
  match k,h with
  | 0,h=>exact h
  | 1,h=>exact h
  | 2,h=>exact h
  | 3,h=>exact h
  | 4,h=>exact h
  | 5,h=>exact h
  | 6,h=>exact h
  | 7,h=>exact h
  | 8,h=>exact h
  | 9,h=>exact h
  | 10,h=>exact hb.full h
  | 11,h=>exact h
 case step=>
  intro i o ho A W hW hA hD K hK
  match i,ho with
  | 0,ho=>
   simp only[List.getElem?_cons_zero,Option.some.injEq] at ho
   subst ho
   have e6:A.tmps.getD 6 undef=.pointer (some ⟨w3.heap.size,0,none⟩):=(hA 6 (by kernel_rfl)).trans rfl
   have e6':=gDq e6
   have HK:=hdd (show ∀ v W',RelD (w.heap.size+1) (.int .i64 p) (.int .i64 c) (.slice a3 gs.length c3) W W'→(v=.agg #[.int .i64 p,.int .i64 c,.slice a3 gs.length c3])→K (A.put (some 38) v) W' from fun v W' h1 h2=>hK.out v W' h1 h2 (fun q=>absurd q (by decide)))
   have HW:=hdd hW
   have y0:=cell_grown hW.grown (by have:=HG6.out; omega) HC6.out.1
   have y1:=cell_grown hW.grown (by have:=HG6.out; omega) HC6.out.2.1
   have y2:=cell_grown hW.grown (by have:=HG6.out; omega) HC6.out.2.2
   clear hA hD hK hW
   go_simp
   exact HK.out _ _ (RelD.refl _ _ _ _ _) rfl
  | 1,ho=>
   simp only[List.getElem?_cons_succ,List.getElem?_cons_zero,Option.some.injEq] at ho
   subst ho
   have e2:A.tmps.getD 2 undef=.pointer (some ⟨w.heap.size,0,none⟩):=(hA 2 (by kernel_rfl)).trans rfl
   have e2':=gDq e2
   have HK:=hdd (show ∀ v W',RelD (w.heap.size+1) (.int .i64 p) (.int .i64 c) (.slice a3 gs.length c3) W W'→(v=.pointer (some ⟨w.heap.size,0,none⟩))→K (A.put (some 39) v) W' from fun v W' h1 h2=>hK.out v W' h1 h2 (fun q=>absurd q (by decide)))
   have HW:=hdd hW
   clear hA hD hK hW
   go_simp
   exact HK.out _ _ (RelD.refl _ _ _ _ _) rfl
  | 2,ho=>
   simp only[List.getElem?_cons_succ,List.getElem?_cons_zero,Option.some.injEq] at ho
   subst ho
   have d1:A.tmps.getD 39 undef=.pointer (some ⟨w.heap.size,0,none⟩):=hD 1 (by decide) (by kernel_rfl)
   have HK:=hdd (show ∀ v W',RelD (w.heap.size+1) (.int .i64 p) (.int .i64 c) (.slice a3 gs.length c3) W W'→(v=.int .i64 p)→K (A.put (some 40) v) W' from fun v W' h1 h2=>hK.out v W' h1 h2 (fun q=>absurd q (by decide)))
   have HW:=hdd hW
   have y0:=cell_grown hW.grown (by omega) HC2.out.1
   clear hA hD hK hW
   have d1':=gDq d1
   go_simp
   exact HK.out _ _ (RelD.refl _ _ _ _ _) rfl
  | 3,ho=>
   simp only[List.getElem?_cons_succ,List.getElem?_cons_zero,Option.some.injEq] at ho
   subst ho
   have e2:A.tmps.getD 2 undef=.pointer (some ⟨w.heap.size,0,none⟩):=(hA 2 (by kernel_rfl)).trans rfl
   have e2':=gDq e2
   have HK:=hdd (show ∀ v W',RelD (w.heap.size+1) (.int .i64 p) (.int .i64 c) (.slice a3 gs.length c3) W W'→(v=.pointer (some ⟨w.heap.size,1,none⟩))→K (A.put (some 41) v) W' from fun v W' h1 h2=>hK.out v W' h1 h2 (fun q=>absurd q (by decide)))
   have HW:=hdd hW
   clear hA hD hK hW
   go_simp
   exact HK.out _ _ (RelD.refl _ _ _ _ _) rfl
  | 4,ho=>
   simp only[List.getElem?_cons_succ,List.getElem?_cons_zero,Option.some.injEq] at ho
   subst ho
   have d3:A.tmps.getD 41 undef=.pointer (some ⟨w.heap.size,1,none⟩):=hD 3 (by decide) (by kernel_rfl)
   have HK:=hdd (show ∀ v W',RelD (w.heap.size+1) (.int .i64 p) (.int .i64 c) (.slice a3 gs.length c3) W W'→(v=.int .i64 c)→K (A.put (some 42) v) W' from fun v W' h1 h2=>hK.out v W' h1 h2 (fun q=>absurd q (by decide)))
   have HW:=hdd hW
   have y0:=cell_grown hW.grown (by omega) HC2.out.2.1
   clear hA hD hK hW
   have d3':=gDq d3
   go_simp
   exact HK.out _ _ (RelD.refl _ _ _ _ _) rfl
  | 5,ho=>
   simp only[List.getElem?_cons_succ,List.getElem?_cons_zero,Option.some.injEq] at ho
   subst ho
   have e2:A.tmps.getD 2 undef=.pointer (some ⟨w.heap.size,0,none⟩):=(hA 2 (by kernel_rfl)).trans rfl
   have e2':=gDq e2
   have HK:=hdd (show ∀ v W',RelD (w.heap.size+1) (.int .i64 p) (.int .i64 c) (.slice a3 gs.length c3) W W'→(v=.pointer (some ⟨w.heap.size,2,none⟩))→K (A.put (some 43) v) W' from fun v W' h1 h2=>hK.out v W' h1 h2 (fun q=>absurd q (by decide)))
   have HW:=hdd hW
   clear hA hD hK hW
   go_simp
   exact HK.out _ _ (RelD.refl _ _ _ _ _) rfl
  | 6,ho=>
   simp only[List.getElem?_cons_succ,List.getElem?_cons_zero,Option.some.injEq] at ho
   subst ho
   have d5:A.tmps.getD 43 undef=.pointer (some ⟨w.heap.size,2,none⟩):=hD 5 (by decide) (by kernel_rfl)
   have HK:=hdd (show ∀ v W',RelD (w.heap.size+1) (.int .i64 p) (.int .i64 c) (.slice a3 gs.length c3) W W'→(v=.slice a gs.length cap)→K (A.put (some 44) v) W' from fun v W' h1 h2=>hK.out v W' h1 h2 (fun q=>absurd q (by decide)))
   have HW:=hdd hW
   have y0:=cell_grown hW.grown (by omega) HC2.out.2.2
   clear hA hD hK hW
   have d5':=gDq d5
   go_simp
   exact HK.out _ _ (RelD.refl _ _ _ _ _) rfl
  | 7,ho=>
   simp only[List.getElem?_cons_succ,List.getElem?_cons_zero,Option.some.injEq] at ho
   subst ho
   have d2:A.tmps.getD 40 undef=.int .i64 p:=hD 2 (by decide) (by kernel_rfl)
   have d4:A.tmps.getD 42 undef=.int .i64 c:=hD 4 (by decide) (by kernel_rfl)
   have d6:A.tmps.getD 44 undef=.slice a gs.length cap:=hD 6 (by decide) (by kernel_rfl)
   have HK:=hdd (show ∀ v W',RelD (w.heap.size+1) (.int .i64 p) (.int .i64 c) (.slice a3 gs.length c3) W W'→(∃ a4 c4,v=.slice a4 L.length c4)→K (A.put (some 45) v) W' from fun v W' h1 h2=>hK.out v W' h1 h2 (fun q=>absurd q (by decide)))
   have HW:=hdd hW
   clear hA hD hK hW
   have d2':=gDq d2
   have d4':=gDq d4
   have d6':=gDq d6
   go_simp
   refine (HF3.out W (HRGW.out W HW.out)).mono ?_
   rintro e W' ⟨a4,c4,rfl,_,hb⟩
   exact HK.out _ _ (RelD.of hb) ⟨a4,c4,rfl⟩
  | 8,ho=>
   simp only[List.getElem?_cons_succ,List.getElem?_cons_zero,Option.some.injEq] at ho
   subst ho
   have d7:∃ a4 c4,(A.tmps.getD 45 undef)=.slice a4 L.length c4:=hD 7 (by decide) (by kernel_rfl)
   have HK:=hdd (show ∀ v W',RelD (w.heap.size+1) (.int .i64 p) (.int .i64 c) (.slice a3 gs.length c3) W W'→(v=.int .i64 (L.length:Nat))→K (A.put (some 46) v) W' from fun v W' h1 h2=>hK.out v W' h1 h2 (fun q=>absurd q (by decide)))
   have HW:=hdd hW
   clear hA hD hK hW
   obtain ⟨v7,hv7⟩:∃ z,A.tmps.getD 45 undef=z:=⟨_,rfl⟩
   rw[hv7] at d7
   have hv7':=gDq hv7
   obtain ⟨a4,c4,rfl⟩:=d7
   go_simp
   exact HK.out _ _ (RelD.refl _ _ _ _ _) rfl
  | 9,ho=>
   simp only[List.getElem?_cons_succ,List.getElem?_cons_zero,Option.some.injEq] at ho
   subst ho
   have d8:A.tmps.getD 46 undef=.int .i64 (L.length:Nat):=hD 8 (by decide) (by kernel_rfl)
   have HK:=hdd (show ∀ v W',RelD (w.heap.size+1) (.int .i64 p) (.int .i64 c) (.slice a3 gs.length c3) W W'→(v=.string ⟨an.toArray⟩)→K (A.put (some 47) v) W' from fun v W' h1 h2=>hK.out v W' h1 h2 (fun q=>absurd q (by decide)))
   have HW:=hdd hW
   clear hA hD hK hW
   have d8':=gDq d8
   go_simp
   refine (HT3.out W).mono ?_
   rintro e W' ⟨rfl,hb⟩
   exact HK.out _ _ (RelD.of hb) rfl
  | 10,ho=>
   simp only[List.getElem?_cons_succ,List.getElem?_cons_zero,Option.some.injEq] at ho
   subst ho
   have e4:A.tmps.getD 4 undef=.pointer (some ⟨w.heap.size+1,0,none⟩):=(hA 4 (by kernel_rfl)).trans rfl
   have e4':=gDq e4
   have d0:A.tmps.getD 38 undef=.agg #[.int .i64 p,.int .i64 c,.slice a3 gs.length c3]:=hD 0 (by decide) (by kernel_rfl)
   have HK:=hdd (show ∀ W',RelD (w.heap.size+1) (.int .i64 p) (.int .i64 c) (.slice a3 gs.length c3) W W'→(At W' (w.heap.size+1) (DC (.int .i64 p) (.int .i64 c) (.slice a3 gs.length c3)))→K A W' from fun W' h1 h2=>hK.out _ W' h1 h2 (fun _=>rfl))
   have HW:=hdd hW
   obtain ⟨x',y',z',hat⟩:=hW.box ⟨_,_,_,HBX.out⟩
   obtain ⟨z0,z1,z2⟩:=At.three hat
   have hth:=At.thaw hat
   have HST:=hdd (RelD.store (x:=.int .i64 p) (y:=.int .i64 c) (z:=.slice a3 gs.length c3) hat)
   clear hat
   clear hA hD hK hW
   have d0':=gDq d0
   go_simp
   exact HK.out _ HST.out.1 HST.out.2
  | 11,ho=>
   simp only[List.getElem?_cons_succ,List.getElem?_cons_zero,Option.some.injEq] at ho
   subst ho
   have d9:A.tmps.getD 47 undef=.string ⟨an.toArray⟩:=hD 9 (by decide) (by kernel_rfl)
   have HK:=hdd (show ∀ v W',RelD (w.heap.size+1) (.int .i64 p) (.int .i64 c) (.slice a3 gs.length c3) W W'→(v=.string ⟨an.toArray⟩)→K (A.put (some 5) v) W' from fun v W' h1 h2=>hK.out v W' h1 h2 (fun q=>absurd q (by decide)))
   have HW:=hdd hW
   clear hA hD hK hW
   have d9':=gDq d9
   go_simp
   exact HK.out _ _ (RelD.refl _ _ _ _ _) rfl
  | n+12,ho=>
   simp at ho
 case fin=>
  intro vs W hW h hce
  have h0:vs 11=.string ⟨an.toArray⟩:=h 11 (by decide)
  have hat:At W (w.heap.size+1) (DC (.int .i64 p) (.int .i64 c) (.slice a3 gs.length c3)):=h 10 (by decide)
  have HAT:=hdd hat
  have HF:=hdd (line_out (w:=w) an hat ((HOX.out.keep (Above.of_grown hW.grown HR2.out)).mono HB2.out.size) (HBX6.out.grown hW.grown HBX6.out.size (fun k hk=>by injection hk; omega)))
  rw[invA_lit [none,none,none,none,none,some 11,none,none,none,none,none,none,none,none,none,none,none,none,none,none,none,none,none,none,none,none,none,none,none,none,none,none,none,none,none,none,none,none,some 0,some 1,some 2,some 3,some 4,some 5,some 6,some 7,some 8,some 9,none,none,none,none,none,none,none,none,none,none,none,none,none,none,none,none,none,none,none,none,none,none,none,none,none,none] (by kernel_rfl) rfl]
  simp only[List.zipWith_cons_cons,List.zipWith_nil_left]
  rw[h0]
  clear h h0 hW hat hce
  go_wp2
  ((try simp only[Exit.inBlock,Exit.then]); refine bodyPost_ret (results_cell_tmp rfl _ _ (w.heap.size+1) _ _ (0,0) _ rfl HAT.out Tryz.underlying30 rfl (by kernel_rfl)) rfl ?_)
  exact HF.out
set_option maxHeartbeats 8000000 in
theorem lineS_next {B:Nat} (p c:Int) (v:Value) (gs:List Gs) (l:List UInt8) (w:World) (h:RG B w v gs) (hl:l.length≤2000000) (hd:readD l=none) (hok:deskB p c gs=true) (hc:∀ g∈gs,g.code.length≤2000000) (b1:(l==[102,105,116])=false) (b2:(l==[110,101,120,116])=true):
  Calls Tryz.prog 21 #[dkV p c v,strV l] w (SayOut p c gs (dgs (nextL (fitL p c gs))) w):=by
 have HRG:=hdd h
 have HC:=hdd hc
 have hlen:=deskB_len hok
 obtain ⟨a,cap,rfl⟩:=h.shape
 obtain ⟨w1,hw1⟩:∃ w1,w1=(w.alloc (.cells #[.int .i64 p,.int .i64 c,.slice a gs.length cap] 30)).alloc (.cells #[.int .i64 0,.int .i64 0,.slice none 0 0] 30):=⟨_,rfl⟩
 have hb1:Below w.heap.size w w1:=by rw[hw1]; exact ((Below.refl _ _).alloc (Nat.le_refl _) _).alloc (by simp) _
 have hs1:w1.heap.size=w.heap.size+2:=by rw[hw1]; simp
 have hz0:At w1 w.heap.size (.cells #[.int .i64 p,.int .i64 c,.slice a gs.length cap] 30):=by
  rw[hw1]; exact (At.new w _).below ((Below.refl _ _).alloc (Nat.le_refl _) _)
 have hz1:At w1 (w.heap.size+1) (.cells #[.int .i64 0,.int .i64 0,.slice none 0 0] 30):=by
  rw[hw1]; have q:=At.new (w.alloc (.cells #[.int .i64 p,.int .i64 c,.slice a gs.length cap] 30)) (.cells #[.int .i64 0,.int .i64 0,.slice none 0 0] 30); rw[World.size_alloc] at q; exact q
 have hK:=deskOkS_any p c _ gs w1 (HRG.out.below hb1).toGL
 rw[hok] at hK
 have HB1:=hdd hb1
 have HS1:=hdd hs1
 have HZ0:=hdd hz0
 have HZ1:=hdd hz1
 have HRD:=hdd (rd_none hd)
 have HF3:=hdd (fun W (q:RG B W (.slice a gs.length cap) gs)=>nextS_any p c _ gs W q.toGL)
 have HD3:=hdd (next_digits hok)
 unfold NextOut at HF3
 obtain ⟨L,hL⟩:∃ L,L=nextL (fitL p c gs):=⟨_,rfl⟩
 rw[←hL] at HF3 HD3 ⊢
 obtain ⟨kb,hkb⟩:∃ kb,kb=decide (0<(fitL p c gs).length):=⟨_,rfl⟩
 rw[←hkb] at HF3
 obtain ⟨an,han⟩:∃ an,an=dgs L:=⟨_,rfl⟩
 have HAN:=hdd han
 rw[←han]
 clear han hL hkb
 unfold dkV at hK
 unfold dkV strV
 obtain ⟨x0,x1,x2⟩:=hz0.three
 clear h hc hb1 hs1 hz0 hz1 hok hd
 go_enter Tryz.func21,Tryz.ntmps21
 go_wp2_with fail
 rw[←hw1]
 clear hw1
 refine hK.mono ?_
 rintro e w2 ⟨rfl,hb2⟩
 have HB2:=hdd (HB1.out.trans (hb2.mono HB1.out.size))
 have HB12:=hdd hb2
 have hCP:=copS_any p c _ gs w2 (HRG.out.below HB2.out).toGL (by omega) HC.out
 unfold dkV at hCP
 clear hK hb2 x0 x1 x2
 obtain ⟨x0,x1,x2⟩:=(HZ0.out.below HB12.out).three
 go_wp2_with fail
 refine hCP.mono ?_
 rintro e w3 ⟨a3,c3,rfl,ho3,hb3⟩
 unfold dkV
 obtain ⟨w4,hw4⟩:∃ z,z=w3.alloc (.cells #[.int .i64 p,.int .i64 c,.slice a3 gs.length c3] 30):=⟨_,rfl⟩
 have hb34:Below w3.heap.size w3 w4:=by rw[hw4]; exact (Below.refl _ _).alloc (Nat.le_refl _) _
 have HZ6:=hdd (show At w4 w3.heap.size (.cells #[.int .i64 p,.int .i64 c,.slice a3 gs.length c3] 30) by rw[hw4]; exact At.new w3 _)
 have HB14:=hdd (HB12.out.trans ((hb3.trans (hb34.mono hb3.size)).mono HB12.out.size))
 have HB4:=hdd (HB1.out.trans (HB14.out.mono HB1.out.size))
 have HO4:=hdd (show OwnG w2.heap.size w4 (.slice a3 gs.length c3) gs from ho3.below hb34)
 have hI:=readDeedS_any l w4 (by omega)
 unfold ReadOut at hI
 rw[HRD.out.1,HRD.out.2] at hI
 simp only[List.length_nil] at hI
 unfold strV dV at hI
 have HG6:=hdd (show w.heap.size+1<w3.heap.size by have:=HS1.out; have:=HB12.out.size; have:=hb3.size; omega)
 have HR2:=hdd (show w.heap.size+1<w2.heap.size by have:=HS1.out; have:=HB12.out.size; omega)
 clear hCP ho3 hb3 hb34 x0 x1 x2
 go_wp2_with fail
 rw[←hw4]
 clear hw4
 refine hI.mono ?_
 rintro e w5 ⟨a5,k5,rfl,ho5,hb5⟩
 obtain ⟨w6,hw6⟩:∃ z,z=w5.alloc (.cells #[.bool false,.slice a5 0 k5,.int .i64 0,.int .i64 0] 41):=⟨_,rfl⟩
 have hb56:Below w5.heap.size w5 w6:=by rw[hw6]; exact (Below.refl _ _).alloc (Nat.le_refl _) _
 have HB46:=hdd (hb5.trans (hb56.mono hb5.size))
 have HB16:=hdd (HB14.out.trans (HB46.out.mono HB14.out.size))
 have HB6:=hdd (HB1.out.trans (HB16.out.mono HB1.out.size))
 clear hI ho5 hb5 hb56
 go_upto_region 5 with fail
 rw[←hw6]
 clear hw6
 obtain ⟨x0,x1,x2⟩:=(HZ0.out.below HB16.out).three
 have hT:=HF3.out w6 (HRG.out.below HB6.out)
 go_wp2_with fail
 refine hT.mono ?_
 rintro e w7 ⟨a7,c7,rfl,ho7,hb7⟩
 have HB7:=hdd (HB6.out.trans (hb7.mono HB6.out.size))
 have HB17:=hdd (HB16.out.trans (hb7.mono HB16.out.size))
 have HB47:=hdd (HB46.out.trans (hb7.mono HB46.out.size))
 have HI7:=hdd (ho7.toInts (allD_in HD3.out.1))
 have HB67:=hdd hb7
 have HIW:=hdd (fun W (q:RelD (w.heap.size+1) (.int .i64 p) (.int .i64 c) (.slice a3 gs.length c3) w7 W)=>show Ints (w.heap.size+2) W (.slice a7 L.length c7) L from (HI7.out.mono (show w.heap.size+2≤w6.heap.size by have:=HS1.out; have:=HB16.out.size; omega)).keep (Above.of_grown q.grown (by omega)))
 have HT3:=hdd (fun W (q:Ints (w.heap.size+2) W (.slice a7 L.length c7) L)=>l15Code_any _ L W q HD3.out.1 HD3.out.2)
 rw[←HAN.out] at HT3
 unfold strV at HT3
 clear hT ho7 hb7
 have HC2:=hdd (HZ0.out.below HB17.out).three
 have HC6:=hdd (HZ6.out.below HB47.out).three
 have HBX:=hdd (HZ1.out.below HB17.out)
 have HBX6:=hdd HB7.out
 have HOX:=hdd (HO4.out.below HB47.out)
 have HRGW:=hdd (fun W (q:RelD (w.heap.size+1) (.int .i64 p) (.int .i64 c) (.slice a3 gs.length c3) w7 W)=>HRG.out.below (HBX6.out.grown q.grown HBX6.out.size (fun k hk=>by injection hk; omega)))
 clear x0 x1 x2
 go_wp2
 refine wp_region_invN (Rel:=RelD (w.heap.size+1) (.int .i64 p) (.int .i64 c) (.slice a3 gs.length c3)) 3 0 (fun a b c=>RelD.trans) (fun w=>RelD.of (Below.refl _ _).drew) (by kernel_rfl) (fun k=>(#[60,61,62,1000,5]:Array Nat).getD k 0) 74
  (fun k v W=>match k with
   | 0=>v=.agg #[.int .i64 p,.int .i64 c,.slice a3 gs.length c3]
   | 1=>v=.slice a7 L.length c7
   | 2=>v=.string ⟨an.toArray⟩
   | 3=>At W (w.heap.size+1) (DC (.int .i64 p) (.int .i64 c) (.slice a3 gs.length c3))
   | 4=>v=.string ⟨an.toArray⟩
   | _=>False) ?sz ?chk ?mono ?step ?fin
 case sz=>rfl
 case chk=>kernel_rfl
 case mono=>
  intro k v W W' h hb
  match k,h with
  | 0,h=>exact h
  | 1,h=>exact h
  | 2,h=>exact h
  | 3,h=>exact hb.full h
  | 4,h=>exact h
 case step=>
  intro i o ho A W hW hA hD K hK
  match i,ho with
  | 0,ho=>
   simp only[List.getElem?_cons_zero,Option.some.injEq] at ho
   subst ho
   have e6:A.tmps.getD 6 undef=.pointer (some ⟨w3.heap.size,0,none⟩):=(hA 6 (by kernel_rfl)).trans rfl
   have e6':=gDq e6
   have HK:=hdd (show ∀ v W',RelD (w.heap.size+1) (.int .i64 p) (.int .i64 c) (.slice a3 gs.length c3) W W'→(v=.agg #[.int .i64 p,.int .i64 c,.slice a3 gs.length c3])→K (A.put (some 60) v) W' from fun v W' h1 h2=>hK.out v W' h1 h2 (fun q=>absurd q (by decide)))
   have HW:=hdd hW
   have y0:=cell_grown hW.grown (by have:=HG6.out; omega) HC6.out.1
   have y1:=cell_grown hW.grown (by have:=HG6.out; omega) HC6.out.2.1
   have y2:=cell_grown hW.grown (by have:=HG6.out; omega) HC6.out.2.2
   clear hA hD hK hW
   go_simp
   exact HK.out _ _ (RelD.refl _ _ _ _ _) rfl
  | 1,ho=>
   simp only[List.getElem?_cons_succ,List.getElem?_cons_zero,Option.some.injEq] at ho
   subst ho
   have e11:A.tmps.getD 11 undef=.slice a7 L.length c7:=(hA 11 (by kernel_rfl)).trans rfl
   have e11':=gDq e11
   have HK:=hdd (show ∀ v W',RelD (w.heap.size+1) (.int .i64 p) (.int .i64 c) (.slice a3 gs.length c3) W W'→(v=.slice a7 L.length c7)→K (A.put (some 61) v) W' from fun v W' h1 h2=>hK.out v W' h1 h2 (fun q=>absurd q (by decide)))
   have HW:=hdd hW
   clear hA hD hK hW
   go_simp
   exact HK.out _ _ (RelD.refl _ _ _ _ _) rfl
  | 2,ho=>
   simp only[List.getElem?_cons_succ,List.getElem?_cons_zero,Option.some.injEq] at ho
   subst ho
   have d1:A.tmps.getD 61 undef=.slice a7 L.length c7:=hD 1 (by decide) (by kernel_rfl)
   have HK:=hdd (show ∀ v W',RelD (w.heap.size+1) (.int .i64 p) (.int .i64 c) (.slice a3 gs.length c3) W W'→(v=.string ⟨an.toArray⟩)→K (A.put (some 62) v) W' from fun v W' h1 h2=>hK.out v W' h1 h2 (fun q=>absurd q (by decide)))
   have HW:=hdd hW
   clear hA hD hK hW
   have d1':=gDq d1
   go_simp
   refine (HT3.out W (HIW.out W HW.out)).mono ?_
   rintro e W' ⟨rfl,hb⟩
   exact HK.out _ _ (RelD.of hb) rfl
  | 3,ho=>
   simp only[List.getElem?_cons_succ,List.getElem?_cons_zero,Option.some.injEq] at ho
   subst ho
   have e4:A.tmps.getD 4 undef=.pointer (some ⟨w.heap.size+1,0,none⟩):=(hA 4 (by kernel_rfl)).trans rfl
   have e4':=gDq e4
   have d0:A.tmps.getD 60 undef=.agg #[.int .i64 p,.int .i64 c,.slice a3 gs.length c3]:=hD 0 (by decide) (by kernel_rfl)
   have HK:=hdd (show ∀ W',RelD (w.heap.size+1) (.int .i64 p) (.int .i64 c) (.slice a3 gs.length c3) W W'→(At W' (w.heap.size+1) (DC (.int .i64 p) (.int .i64 c) (.slice a3 gs.length c3)))→K A W' from fun W' h1 h2=>hK.out _ W' h1 h2 (fun _=>rfl))
   have HW:=hdd hW
   obtain ⟨x',y',z',hat⟩:=hW.box ⟨_,_,_,HBX.out⟩
   obtain ⟨z0,z1,z2⟩:=At.three hat
   have hth:=At.thaw hat
   have HST:=hdd (RelD.store (x:=.int .i64 p) (y:=.int .i64 c) (z:=.slice a3 gs.length c3) hat)
   clear hat
   clear hA hD hK hW
   have d0':=gDq d0
   go_simp
   exact HK.out _ HST.out.1 HST.out.2
  | 4,ho=>
   simp only[List.getElem?_cons_succ,List.getElem?_cons_zero,Option.some.injEq] at ho
   subst ho
   have d2:A.tmps.getD 62 undef=.string ⟨an.toArray⟩:=hD 2 (by decide) (by kernel_rfl)
   have HK:=hdd (show ∀ v W',RelD (w.heap.size+1) (.int .i64 p) (.int .i64 c) (.slice a3 gs.length c3) W W'→(v=.string ⟨an.toArray⟩)→K (A.put (some 5) v) W' from fun v W' h1 h2=>hK.out v W' h1 h2 (fun q=>absurd q (by decide)))
   have HW:=hdd hW
   clear hA hD hK hW
   have d2':=gDq d2
   go_simp
   exact HK.out _ _ (RelD.refl _ _ _ _ _) rfl
  | n+5,ho=>
   simp at ho
 case fin=>
  intro vs W hW h hce
  have h0:vs 4=.string ⟨an.toArray⟩:=h 4 (by decide)
  have hat:At W (w.heap.size+1) (DC (.int .i64 p) (.int .i64 c) (.slice a3 gs.length c3)):=h 3 (by decide)
  have HAT:=hdd hat
  have HF:=hdd (line_out (w:=w) an hat ((HOX.out.keep (Above.of_grown hW.grown HR2.out)).mono HB2.out.size) (HBX6.out.grown hW.grown HBX6.out.size (fun k hk=>by injection hk; omega)))
  rw[invA_lit [none,none,none,none,none,some 4,none,none,none,none,none,none,none,none,none,none,none,none,none,none,none,none,none,none,none,none,none,none,none,none,none,none,none,none,none,none,none,none,none,none,none,none,none,none,none,none,none,none,none,none,none,none,none,none,none,none,none,none,none,none,some 0,some 1,some 2,none,none,none,none,none,none,none,none,none,none,none] (by kernel_rfl) rfl]
  simp only[List.zipWith_cons_cons,List.zipWith_nil_left]
  rw[h0]
  clear h h0 hW hat hce
  go_wp2
  ((try simp only[Exit.inBlock,Exit.then]); refine bodyPost_ret (results_cell_tmp rfl _ _ (w.heap.size+1) _ _ (0,0) _ rfl HAT.out Tryz.underlying30 rfl (by kernel_rfl)) rfl ?_)
  exact HF.out
set_option maxHeartbeats 8000000 in
theorem lineS_made {B:Nat} (p c:Int) (v:Value) (gs:List Gs) (l:List UInt8) (w:World) (h:RG B w v gs) (hl:l.length≤2000000) (hd:readD l=none) (hok:deskB p c gs=true) (hc:∀ g∈gs,g.code.length≤2000000) (b1:(l==[102,105,116])=false) (b2:(l==[110,101,120,116])=false) (b3:(l==[109,97,100,101])=true):
  Calls Tryz.prog 21 #[dkV p c v,strV l] w (SayOut p c gs (Lib.decDigits gs.length) w):=by
 have HRG:=hdd h
 have HC:=hdd hc
 have hlen:=deskB_len hok
 obtain ⟨a,cap,rfl⟩:=h.shape
 obtain ⟨w1,hw1⟩:∃ w1,w1=(w.alloc (.cells #[.int .i64 p,.int .i64 c,.slice a gs.length cap] 30)).alloc (.cells #[.int .i64 0,.int .i64 0,.slice none 0 0] 30):=⟨_,rfl⟩
 have hb1:Below w.heap.size w w1:=by rw[hw1]; exact ((Below.refl _ _).alloc (Nat.le_refl _) _).alloc (by simp) _
 have hs1:w1.heap.size=w.heap.size+2:=by rw[hw1]; simp
 have hz0:At w1 w.heap.size (.cells #[.int .i64 p,.int .i64 c,.slice a gs.length cap] 30):=by
  rw[hw1]; exact (At.new w _).below ((Below.refl _ _).alloc (Nat.le_refl _) _)
 have hz1:At w1 (w.heap.size+1) (.cells #[.int .i64 0,.int .i64 0,.slice none 0 0] 30):=by
  rw[hw1]; have q:=At.new (w.alloc (.cells #[.int .i64 p,.int .i64 c,.slice a gs.length cap] 30)) (.cells #[.int .i64 0,.int .i64 0,.slice none 0 0] 30); rw[World.size_alloc] at q; exact q
 have hK:=deskOkS_any p c _ gs w1 (HRG.out.below hb1).toGL
 rw[hok] at hK
 have HB1:=hdd hb1
 have HS1:=hdd hs1
 have HZ0:=hdd hz0
 have HZ1:=hdd hz1
 have HRD:=hdd (rd_none hd)
 have HT3:=hdd (fun W=>l1NumN gs.length W (by omega))
 obtain ⟨an,han⟩:∃ an,an=Lib.decDigits gs.length:=⟨_,rfl⟩
 rw[←han] at HT3 ⊢
 unfold strV at HT3
 clear han
 unfold dkV at hK
 unfold dkV strV
 obtain ⟨x0,x1,x2⟩:=hz0.three
 clear h hc hb1 hs1 hz0 hz1 hok hd
 go_enter Tryz.func21,Tryz.ntmps21
 go_wp2_with fail
 rw[←hw1]
 clear hw1
 refine hK.mono ?_
 rintro e w2 ⟨rfl,hb2⟩
 have HB2:=hdd (HB1.out.trans (hb2.mono HB1.out.size))
 have HB12:=hdd hb2
 have hCP:=copS_any p c _ gs w2 (HRG.out.below HB2.out).toGL (by omega) HC.out
 unfold dkV at hCP
 clear hK hb2 x0 x1 x2
 obtain ⟨x0,x1,x2⟩:=(HZ0.out.below HB12.out).three
 go_wp2_with fail
 refine hCP.mono ?_
 rintro e w3 ⟨a3,c3,rfl,ho3,hb3⟩
 unfold dkV
 obtain ⟨w4,hw4⟩:∃ z,z=w3.alloc (.cells #[.int .i64 p,.int .i64 c,.slice a3 gs.length c3] 30):=⟨_,rfl⟩
 have hb34:Below w3.heap.size w3 w4:=by rw[hw4]; exact (Below.refl _ _).alloc (Nat.le_refl _) _
 have HZ6:=hdd (show At w4 w3.heap.size (.cells #[.int .i64 p,.int .i64 c,.slice a3 gs.length c3] 30) by rw[hw4]; exact At.new w3 _)
 have HB14:=hdd (HB12.out.trans ((hb3.trans (hb34.mono hb3.size)).mono HB12.out.size))
 have HB4:=hdd (HB1.out.trans (HB14.out.mono HB1.out.size))
 have HO4:=hdd (show OwnG w2.heap.size w4 (.slice a3 gs.length c3) gs from ho3.below hb34)
 have hI:=readDeedS_any l w4 (by omega)
 unfold ReadOut at hI
 rw[HRD.out.1,HRD.out.2] at hI
 simp only[List.length_nil] at hI
 unfold strV dV at hI
 have HG6:=hdd (show w.heap.size+1<w3.heap.size by have:=HS1.out; have:=HB12.out.size; have:=hb3.size; omega)
 have HR2:=hdd (show w.heap.size+1<w2.heap.size by have:=HS1.out; have:=HB12.out.size; omega)
 clear hCP ho3 hb3 hb34 x0 x1 x2
 go_wp2_with fail
 rw[←hw4]
 clear hw4
 refine hI.mono ?_
 rintro e w5 ⟨a5,k5,rfl,ho5,hb5⟩
 obtain ⟨w6,hw6⟩:∃ z,z=w5.alloc (.cells #[.bool false,.slice a5 0 k5,.int .i64 0,.int .i64 0] 41):=⟨_,rfl⟩
 have hb56:Below w5.heap.size w5 w6:=by rw[hw6]; exact (Below.refl _ _).alloc (Nat.le_refl _) _
 have HB46:=hdd (hb5.trans (hb56.mono hb5.size))
 have HB16:=hdd (HB14.out.trans (HB46.out.mono HB14.out.size))
 have HB6:=hdd (HB1.out.trans (HB16.out.mono HB1.out.size))
 clear hI ho5 hb5 hb56
 go_upto_region 5 with fail
 rw[←hw6]
 clear hw6
 obtain ⟨x0,x1,x2⟩:=(HZ0.out.below HB16.out).three
 skip
 have HC2:=hdd (HZ0.out.below HB16.out).three
 have HC6:=hdd (HZ6.out.below HB46.out).three
 have HBX:=hdd (HZ1.out.below HB16.out)
 have HBX6:=hdd HB6.out
 have HOX:=hdd (HO4.out.below HB46.out)
 have HRGW:=hdd (fun W (q:RelD (w.heap.size+1) (.int .i64 p) (.int .i64 c) (.slice a3 gs.length c3) w6 W)=>HRG.out.below (HBX6.out.grown q.grown HBX6.out.size (fun k hk=>by injection hk; omega)))
 clear x0 x1 x2
 go_wp2
 refine wp_region_invN (Rel:=RelD (w.heap.size+1) (.int .i64 p) (.int .i64 c) (.slice a3 gs.length c3)) 5 0 (fun a b c=>RelD.trans) (fun w=>RelD.of (Below.refl _ _).drew) (by kernel_rfl) (fun k=>(#[65,66,67,68,69,1000,5]:Array Nat).getD k 0) 74
  (fun k v W=>match k with
   | 0=>v=.agg #[.int .i64 p,.int .i64 c,.slice a3 gs.length c3]
   | 1=>v=.pointer (some ⟨w.heap.size,2,none⟩)
   | 2=>v=.slice a gs.length cap
   | 3=>v=.int .i64 (gs.length:Nat)
   | 4=>v=.string ⟨an.toArray⟩
   | 5=>At W (w.heap.size+1) (DC (.int .i64 p) (.int .i64 c) (.slice a3 gs.length c3))
   | 6=>v=.string ⟨an.toArray⟩
   | _=>False) ?sz ?chk ?mono ?step ?fin
 case sz=>rfl
 case chk=>kernel_rfl
 case mono=>
  intro k v W W' h hb
  match k,h with
  | 0,h=>exact h
  | 1,h=>exact h
  | 2,h=>exact h
  | 3,h=>exact h
  | 4,h=>exact h
  | 5,h=>exact hb.full h
  | 6,h=>exact h
 case step=>
  intro i o ho A W hW hA hD K hK
  match i,ho with
  | 0,ho=>
   simp only[List.getElem?_cons_zero,Option.some.injEq] at ho
   subst ho
   have e6:A.tmps.getD 6 undef=.pointer (some ⟨w3.heap.size,0,none⟩):=(hA 6 (by kernel_rfl)).trans rfl
   have e6':=gDq e6
   have HK:=hdd (show ∀ v W',RelD (w.heap.size+1) (.int .i64 p) (.int .i64 c) (.slice a3 gs.length c3) W W'→(v=.agg #[.int .i64 p,.int .i64 c,.slice a3 gs.length c3])→K (A.put (some 65) v) W' from fun v W' h1 h2=>hK.out v W' h1 h2 (fun q=>absurd q (by decide)))
   have HW:=hdd hW
   have y0:=cell_grown hW.grown (by have:=HG6.out; omega) HC6.out.1
   have y1:=cell_grown hW.grown (by have:=HG6.out; omega) HC6.out.2.1
   have y2:=cell_grown hW.grown (by have:=HG6.out; omega) HC6.out.2.2
   clear hA hD hK hW
   go_simp
   exact HK.out _ _ (RelD.refl _ _ _ _ _) rfl
  | 1,ho=>
   simp only[List.getElem?_cons_succ,List.getElem?_cons_zero,Option.some.injEq] at ho
   subst ho
   have e2:A.tmps.getD 2 undef=.pointer (some ⟨w.heap.size,0,none⟩):=(hA 2 (by kernel_rfl)).trans rfl
   have e2':=gDq e2
   have HK:=hdd (show ∀ v W',RelD (w.heap.size+1) (.int .i64 p) (.int .i64 c) (.slice a3 gs.length c3) W W'→(v=.pointer (some ⟨w.heap.size,2,none⟩))→K (A.put (some 66) v) W' from fun v W' h1 h2=>hK.out v W' h1 h2 (fun q=>absurd q (by decide)))
   have HW:=hdd hW
   clear hA hD hK hW
   go_simp
   exact HK.out _ _ (RelD.refl _ _ _ _ _) rfl
  | 2,ho=>
   simp only[List.getElem?_cons_succ,List.getElem?_cons_zero,Option.some.injEq] at ho
   subst ho
   have d1:A.tmps.getD 66 undef=.pointer (some ⟨w.heap.size,2,none⟩):=hD 1 (by decide) (by kernel_rfl)
   have HK:=hdd (show ∀ v W',RelD (w.heap.size+1) (.int .i64 p) (.int .i64 c) (.slice a3 gs.length c3) W W'→(v=.slice a gs.length cap)→K (A.put (some 67) v) W' from fun v W' h1 h2=>hK.out v W' h1 h2 (fun q=>absurd q (by decide)))
   have HW:=hdd hW
   have y0:=cell_grown hW.grown (by omega) HC2.out.2.2
   clear hA hD hK hW
   have d1':=gDq d1
   go_simp
   exact HK.out _ _ (RelD.refl _ _ _ _ _) rfl
  | 3,ho=>
   simp only[List.getElem?_cons_succ,List.getElem?_cons_zero,Option.some.injEq] at ho
   subst ho
   have d2:A.tmps.getD 67 undef=.slice a gs.length cap:=hD 2 (by decide) (by kernel_rfl)
   have HK:=hdd (show ∀ v W',RelD (w.heap.size+1) (.int .i64 p) (.int .i64 c) (.slice a3 gs.length c3) W W'→(v=.int .i64 (gs.length:Nat))→K (A.put (some 68) v) W' from fun v W' h1 h2=>hK.out v W' h1 h2 (fun q=>absurd q (by decide)))
   have HW:=hdd hW
   clear hA hD hK hW
   have d2':=gDq d2
   go_simp
   exact HK.out _ _ (RelD.refl _ _ _ _ _) rfl
  | 4,ho=>
   simp only[List.getElem?_cons_succ,List.getElem?_cons_zero,Option.some.injEq] at ho
   subst ho
   have d3:A.tmps.getD 68 undef=.int .i64 (gs.length:Nat):=hD 3 (by decide) (by kernel_rfl)
   have HK:=hdd (show ∀ v W',RelD (w.heap.size+1) (.int .i64 p) (.int .i64 c) (.slice a3 gs.length c3) W W'→(v=.string ⟨an.toArray⟩)→K (A.put (some 69) v) W' from fun v W' h1 h2=>hK.out v W' h1 h2 (fun q=>absurd q (by decide)))
   have HW:=hdd hW
   clear hA hD hK hW
   have d3':=gDq d3
   go_simp
   refine (HT3.out W).mono ?_
   rintro e W' ⟨rfl,hb⟩
   exact HK.out _ _ (RelD.of hb) rfl
  | 5,ho=>
   simp only[List.getElem?_cons_succ,List.getElem?_cons_zero,Option.some.injEq] at ho
   subst ho
   have e4:A.tmps.getD 4 undef=.pointer (some ⟨w.heap.size+1,0,none⟩):=(hA 4 (by kernel_rfl)).trans rfl
   have e4':=gDq e4
   have d0:A.tmps.getD 65 undef=.agg #[.int .i64 p,.int .i64 c,.slice a3 gs.length c3]:=hD 0 (by decide) (by kernel_rfl)
   have HK:=hdd (show ∀ W',RelD (w.heap.size+1) (.int .i64 p) (.int .i64 c) (.slice a3 gs.length c3) W W'→(At W' (w.heap.size+1) (DC (.int .i64 p) (.int .i64 c) (.slice a3 gs.length c3)))→K A W' from fun W' h1 h2=>hK.out _ W' h1 h2 (fun _=>rfl))
   have HW:=hdd hW
   obtain ⟨x',y',z',hat⟩:=hW.box ⟨_,_,_,HBX.out⟩
   obtain ⟨z0,z1,z2⟩:=At.three hat
   have hth:=At.thaw hat
   have HST:=hdd (RelD.store (x:=.int .i64 p) (y:=.int .i64 c) (z:=.slice a3 gs.length c3) hat)
   clear hat
   clear hA hD hK hW
   have d0':=gDq d0
   go_simp
   exact HK.out _ HST.out.1 HST.out.2
  | 6,ho=>
   simp only[List.getElem?_cons_succ,List.getElem?_cons_zero,Option.some.injEq] at ho
   subst ho
   have d4:A.tmps.getD 69 undef=.string ⟨an.toArray⟩:=hD 4 (by decide) (by kernel_rfl)
   have HK:=hdd (show ∀ v W',RelD (w.heap.size+1) (.int .i64 p) (.int .i64 c) (.slice a3 gs.length c3) W W'→(v=.string ⟨an.toArray⟩)→K (A.put (some 5) v) W' from fun v W' h1 h2=>hK.out v W' h1 h2 (fun q=>absurd q (by decide)))
   have HW:=hdd hW
   clear hA hD hK hW
   have d4':=gDq d4
   go_simp
   exact HK.out _ _ (RelD.refl _ _ _ _ _) rfl
  | n+7,ho=>
   simp at ho
 case fin=>
  intro vs W hW h hce
  have h0:vs 6=.string ⟨an.toArray⟩:=h 6 (by decide)
  have hat:At W (w.heap.size+1) (DC (.int .i64 p) (.int .i64 c) (.slice a3 gs.length c3)):=h 5 (by decide)
  have HAT:=hdd hat
  have HF:=hdd (line_out (w:=w) an hat ((HOX.out.keep (Above.of_grown hW.grown HR2.out)).mono HB2.out.size) (HBX6.out.grown hW.grown HBX6.out.size (fun k hk=>by injection hk; omega)))
  rw[invA_lit [none,none,none,none,none,some 6,none,none,none,none,none,none,none,none,none,none,none,none,none,none,none,none,none,none,none,none,none,none,none,none,none,none,none,none,none,none,none,none,none,none,none,none,none,none,none,none,none,none,none,none,none,none,none,none,none,none,none,none,none,none,none,none,none,none,none,some 0,some 1,some 2,some 3,some 4,none,none,none,none] (by kernel_rfl) rfl]
  simp only[List.zipWith_cons_cons,List.zipWith_nil_left]
  rw[h0]
  clear h h0 hW hat hce
  go_wp2
  ((try simp only[Exit.inBlock,Exit.then]); refine bodyPost_ret (results_cell_tmp rfl _ _ (w.heap.size+1) _ _ (0,0) _ rfl HAT.out Tryz.underlying30 rfl (by kernel_rfl)) rfl ?_)
  exact HF.out
set_option maxHeartbeats 8000000 in
theorem lineS_ask {B:Nat} {hf:Int→List Int} (hh:HuntsOk hf) (p c:Int) (v:Value) (gs:List Gs) (l:List UInt8) (w:World) (h:RG B w v gs) (hl:l.length≤2000000) (hd:readD l=none) (hok:deskB p c gs=true) (hc:∀ g∈gs,g.code.length≤2000000) (b1:(l==[102,105,116])=false) (b2:(l==[110,101,120,116])=false) (b3:(l==[109,97,100,101])=false):
  Calls Tryz.prog 21 #[dkV p c v,strV l] w (SayOut p c gs (askL hf (words 32 l)) w):=by
 have HRG:=hdd h
 have HC:=hdd hc
 have hlen:=deskB_len hok
 obtain ⟨a,cap,rfl⟩:=h.shape
 obtain ⟨w1,hw1⟩:∃ w1,w1=(w.alloc (.cells #[.int .i64 p,.int .i64 c,.slice a gs.length cap] 30)).alloc (.cells #[.int .i64 0,.int .i64 0,.slice none 0 0] 30):=⟨_,rfl⟩
 have hb1:Below w.heap.size w w1:=by rw[hw1]; exact ((Below.refl _ _).alloc (Nat.le_refl _) _).alloc (by simp) _
 have hs1:w1.heap.size=w.heap.size+2:=by rw[hw1]; simp
 have hz0:At w1 w.heap.size (.cells #[.int .i64 p,.int .i64 c,.slice a gs.length cap] 30):=by
  rw[hw1]; exact (At.new w _).below ((Below.refl _ _).alloc (Nat.le_refl _) _)
 have hz1:At w1 (w.heap.size+1) (.cells #[.int .i64 0,.int .i64 0,.slice none 0 0] 30):=by
  rw[hw1]; have q:=At.new (w.alloc (.cells #[.int .i64 p,.int .i64 c,.slice a gs.length cap] 30)) (.cells #[.int .i64 0,.int .i64 0,.slice none 0 0] 30); rw[World.size_alloc] at q; exact q
 have hK:=deskOkS_any p c _ gs w1 (HRG.out.below hb1).toGL
 rw[hok] at hK
 have HB1:=hdd hb1
 have HS1:=hdd hs1
 have HZ0:=hdd hz0
 have HZ1:=hdd hz1
 have HRD:=hdd (rd_none hd)
 have HCUT:=hdd (fun W=>l1Cut_any l 32 W (by omega))
 have HWL:=hdd (fun u (hu:u∈words 32 l)=>Nat.le_trans (words_le 32 l u hu) hl)
 have HT3:=hdd (fun g cap W (q:WordsAt g (words 32 l) W) h1 h2=>l15Ask_any hh (words 32 l) (words_ne 32 l) g cap W q h1 h2)
 unfold AskOut at HT3
 obtain ⟨an,han⟩:∃ an,an=askL hf (words 32 l):=⟨_,rfl⟩
 rw[←han] at HT3 ⊢
 obtain ⟨us,hus⟩:∃ us,us=words 32 l:=⟨_,rfl⟩
 rw[←hus] at HCUT HWL HT3
 rw[show ((32:UInt8).toNat:Int)=32 from rfl] at HCUT
 unfold strV at HCUT HT3
 clear han hus
 unfold dkV at hK
 unfold dkV strV
 obtain ⟨x0,x1,x2⟩:=hz0.three
 clear h hc hb1 hs1 hz0 hz1 hok hd
 go_enter Tryz.func21,Tryz.ntmps21
 go_wp2_with fail
 rw[←hw1]
 clear hw1
 refine hK.mono ?_
 rintro e w2 ⟨rfl,hb2⟩
 have HB2:=hdd (HB1.out.trans (hb2.mono HB1.out.size))
 have HB12:=hdd hb2
 have hCP:=copS_any p c _ gs w2 (HRG.out.below HB2.out).toGL (by omega) HC.out
 unfold dkV at hCP
 clear hK hb2 x0 x1 x2
 obtain ⟨x0,x1,x2⟩:=(HZ0.out.below HB12.out).three
 go_wp2_with fail
 refine hCP.mono ?_
 rintro e w3 ⟨a3,c3,rfl,ho3,hb3⟩
 unfold dkV
 obtain ⟨w4,hw4⟩:∃ z,z=w3.alloc (.cells #[.int .i64 p,.int .i64 c,.slice a3 gs.length c3] 30):=⟨_,rfl⟩
 have hb34:Below w3.heap.size w3 w4:=by rw[hw4]; exact (Below.refl _ _).alloc (Nat.le_refl _) _
 have HZ6:=hdd (show At w4 w3.heap.size (.cells #[.int .i64 p,.int .i64 c,.slice a3 gs.length c3] 30) by rw[hw4]; exact At.new w3 _)
 have HB14:=hdd (HB12.out.trans ((hb3.trans (hb34.mono hb3.size)).mono HB12.out.size))
 have HB4:=hdd (HB1.out.trans (HB14.out.mono HB1.out.size))
 have HO4:=hdd (show OwnG w2.heap.size w4 (.slice a3 gs.length c3) gs from ho3.below hb34)
 have hI:=readDeedS_any l w4 (by omega)
 unfold ReadOut at hI
 rw[HRD.out.1,HRD.out.2] at hI
 simp only[List.length_nil] at hI
 unfold strV dV at hI
 have HG6:=hdd (show w.heap.size+1<w3.heap.size by have:=HS1.out; have:=HB12.out.size; have:=hb3.size; omega)
 have HR2:=hdd (show w.heap.size+1<w2.heap.size by have:=HS1.out; have:=HB12.out.size; omega)
 clear hCP ho3 hb3 hb34 x0 x1 x2
 go_wp2_with fail
 rw[←hw4]
 clear hw4
 refine hI.mono ?_
 rintro e w5 ⟨a5,k5,rfl,ho5,hb5⟩
 obtain ⟨w6,hw6⟩:∃ z,z=w5.alloc (.cells #[.bool false,.slice a5 0 k5,.int .i64 0,.int .i64 0] 41):=⟨_,rfl⟩
 have hb56:Below w5.heap.size w5 w6:=by rw[hw6]; exact (Below.refl _ _).alloc (Nat.le_refl _) _
 have HB46:=hdd (hb5.trans (hb56.mono hb5.size))
 have HB16:=hdd (HB14.out.trans (HB46.out.mono HB14.out.size))
 have HB6:=hdd (HB1.out.trans (HB16.out.mono HB1.out.size))
 clear hI ho5 hb5 hb56
 go_upto_region 5 with fail
 rw[←hw6]
 clear hw6
 obtain ⟨x0,x1,x2⟩:=(HZ0.out.below HB16.out).three
 have HS6:=hdd (show w.heap.size+1<w6.heap.size by have:=HS1.out; have:=HB16.out.size; omega)
 have HC2:=hdd (HZ0.out.below HB16.out).three
 have HC6:=hdd (HZ6.out.below HB46.out).three
 have HBX:=hdd (HZ1.out.below HB16.out)
 have HBX6:=hdd HB6.out
 have HOX:=hdd (HO4.out.below HB46.out)
 have HRGW:=hdd (fun W (q:RelD (w.heap.size+1) (.int .i64 p) (.int .i64 c) (.slice a3 gs.length c3) w6 W)=>HRG.out.below (HBX6.out.grown q.grown HBX6.out.size (fun k hk=>by injection hk; omega)))
 clear x0 x1 x2
 go_wp2
 refine wp_region_invN (Rel:=RelD (w.heap.size+1) (.int .i64 p) (.int .i64 c) (.slice a3 gs.length c3)) 4 0 (fun a b c=>RelD.trans) (fun w=>RelD.of (Below.refl _ _).drew) (by kernel_rfl) (fun k=>(#[70,71,72,73,1000,5]:Array Nat).getD k 0) 74
  (fun k v W=>match k with
   | 0=>v=.agg #[.int .i64 p,.int .i64 c,.slice a3 gs.length c3]
   | 1=>v=.string ⟨l.toArray⟩
   | 2=>∃ g k,v=.slice (some ⟨g,0,none⟩) us.length k∧us.length≤k∧k≤9223372036854775807∧g≠w.heap.size+1∧WordsAt g us W
   | 3=>v=.string ⟨an.toArray⟩
   | 4=>At W (w.heap.size+1) (DC (.int .i64 p) (.int .i64 c) (.slice a3 gs.length c3))
   | 5=>v=.string ⟨an.toArray⟩
   | _=>False) ?sz ?chk ?mono ?step ?fin
 case sz=>rfl
 case chk=>kernel_rfl
 case mono=>
  intro k v W W' h hb
  match k,h with
  | 0,h=>exact h
  | 1,h=>exact h
  | 2,h=>exact (by obtain ⟨g,k,h1,h2,h3,h4,h5⟩:=h; exact ⟨g,k,h1,h2,h3,h4,h5.grown hb.grown h4⟩)
  | 3,h=>exact h
  | 4,h=>exact hb.full h
  | 5,h=>exact h
 case step=>
  intro i o ho A W hW hA hD K hK
  match i,ho with
  | 0,ho=>
   simp only[List.getElem?_cons_zero,Option.some.injEq] at ho
   subst ho
   have e6:A.tmps.getD 6 undef=.pointer (some ⟨w3.heap.size,0,none⟩):=(hA 6 (by kernel_rfl)).trans rfl
   have e6':=gDq e6
   have HK:=hdd (show ∀ v W',RelD (w.heap.size+1) (.int .i64 p) (.int .i64 c) (.slice a3 gs.length c3) W W'→(v=.agg #[.int .i64 p,.int .i64 c,.slice a3 gs.length c3])→K (A.put (some 70) v) W' from fun v W' h1 h2=>hK.out v W' h1 h2 (fun q=>absurd q (by decide)))
   have HW:=hdd hW
   have y0:=cell_grown hW.grown (by have:=HG6.out; omega) HC6.out.1
   have y1:=cell_grown hW.grown (by have:=HG6.out; omega) HC6.out.2.1
   have y2:=cell_grown hW.grown (by have:=HG6.out; omega) HC6.out.2.2
   clear hA hD hK hW
   go_simp
   exact HK.out _ _ (RelD.refl _ _ _ _ _) rfl
  | 1,ho=>
   simp only[List.getElem?_cons_succ,List.getElem?_cons_zero,Option.some.injEq] at ho
   subst ho
   have e1:A.tmps.getD 1 undef=.string ⟨l.toArray⟩:=(hA 1 (by kernel_rfl)).trans rfl
   have e1':=gDq e1
   have HK:=hdd (show ∀ v W',RelD (w.heap.size+1) (.int .i64 p) (.int .i64 c) (.slice a3 gs.length c3) W W'→(v=.string ⟨l.toArray⟩)→K (A.put (some 71) v) W' from fun v W' h1 h2=>hK.out v W' h1 h2 (fun q=>absurd q (by decide)))
   have HW:=hdd hW
   clear hA hD hK hW
   go_simp
   exact HK.out _ _ (RelD.refl _ _ _ _ _) rfl
  | 2,ho=>
   simp only[List.getElem?_cons_succ,List.getElem?_cons_zero,Option.some.injEq] at ho
   subst ho
   have d1:A.tmps.getD 71 undef=.string ⟨l.toArray⟩:=hD 1 (by decide) (by kernel_rfl)
   have HK:=hdd (show ∀ v W',RelD (w.heap.size+1) (.int .i64 p) (.int .i64 c) (.slice a3 gs.length c3) W W'→(∃ g k,v=.slice (some ⟨g,0,none⟩) us.length k∧us.length≤k∧k≤9223372036854775807∧g≠w.heap.size+1∧WordsAt g us W')→K (A.put (some 72) v) W' from fun v W' h1 h2=>hK.out v W' h1 h2 (fun q=>absurd q (by decide)))
   have HW:=hdd hW
   clear hA hD hK hW
   have d1':=gDq d1
   go_simp
   refine (HCUT.out W).mono ?_
   rintro e W' ⟨g,k,rfl,q1,q2,q3,q4,q5,hb⟩
   have hsz:=HW.out.grown.size
   exact HK.out _ _ (RelD.of hb) ⟨g,k,rfl,q1,q2,by have:=HS6.out; omega,⟨q3,HWL.out⟩⟩
  | 3,ho=>
   simp only[List.getElem?_cons_succ,List.getElem?_cons_zero,Option.some.injEq] at ho
   subst ho
   have d2:∃ g k,(A.tmps.getD 72 undef)=.slice (some ⟨g,0,none⟩) us.length k∧us.length≤k∧k≤9223372036854775807∧g≠w.heap.size+1∧WordsAt g us W:=hD 2 (by decide) (by kernel_rfl)
   have HK:=hdd (show ∀ v W',RelD (w.heap.size+1) (.int .i64 p) (.int .i64 c) (.slice a3 gs.length c3) W W'→(v=.string ⟨an.toArray⟩)→K (A.put (some 73) v) W' from fun v W' h1 h2=>hK.out v W' h1 h2 (fun q=>absurd q (by decide)))
   have HW:=hdd hW
   clear hA hD hK hW
   obtain ⟨v2,hv2⟩:∃ z,A.tmps.getD 72 undef=z:=⟨_,rfl⟩
   rw[hv2] at d2
   have hv2':=gDq hv2
   obtain ⟨g,k,rfl,q1,q2,_,q3⟩:=d2
   have hT:=HT3.out g k W q3 q1 q2
   go_simp
   refine hT.mono ?_
   rintro e W' ⟨rfl,hb⟩
   exact HK.out _ _ (RelD.of hb) rfl
  | 4,ho=>
   simp only[List.getElem?_cons_succ,List.getElem?_cons_zero,Option.some.injEq] at ho
   subst ho
   have e4:A.tmps.getD 4 undef=.pointer (some ⟨w.heap.size+1,0,none⟩):=(hA 4 (by kernel_rfl)).trans rfl
   have e4':=gDq e4
   have d0:A.tmps.getD 70 undef=.agg #[.int .i64 p,.int .i64 c,.slice a3 gs.length c3]:=hD 0 (by decide) (by kernel_rfl)
   have HK:=hdd (show ∀ W',RelD (w.heap.size+1) (.int .i64 p) (.int .i64 c) (.slice a3 gs.length c3) W W'→(At W' (w.heap.size+1) (DC (.int .i64 p) (.int .i64 c) (.slice a3 gs.length c3)))→K A W' from fun W' h1 h2=>hK.out _ W' h1 h2 (fun _=>rfl))
   have HW:=hdd hW
   obtain ⟨x',y',z',hat⟩:=hW.box ⟨_,_,_,HBX.out⟩
   obtain ⟨z0,z1,z2⟩:=At.three hat
   have hth:=At.thaw hat
   have HST:=hdd (RelD.store (x:=.int .i64 p) (y:=.int .i64 c) (z:=.slice a3 gs.length c3) hat)
   clear hat
   clear hA hD hK hW
   have d0':=gDq d0
   go_simp
   exact HK.out _ HST.out.1 HST.out.2
  | 5,ho=>
   simp only[List.getElem?_cons_succ,List.getElem?_cons_zero,Option.some.injEq] at ho
   subst ho
   have d3:A.tmps.getD 73 undef=.string ⟨an.toArray⟩:=hD 3 (by decide) (by kernel_rfl)
   have HK:=hdd (show ∀ v W',RelD (w.heap.size+1) (.int .i64 p) (.int .i64 c) (.slice a3 gs.length c3) W W'→(v=.string ⟨an.toArray⟩)→K (A.put (some 5) v) W' from fun v W' h1 h2=>hK.out v W' h1 h2 (fun q=>absurd q (by decide)))
   have HW:=hdd hW
   clear hA hD hK hW
   have d3':=gDq d3
   go_simp
   exact HK.out _ _ (RelD.refl _ _ _ _ _) rfl
  | n+6,ho=>
   simp at ho
 case fin=>
  intro vs W hW h hce
  have h0:vs 5=.string ⟨an.toArray⟩:=h 5 (by decide)
  have hat:At W (w.heap.size+1) (DC (.int .i64 p) (.int .i64 c) (.slice a3 gs.length c3)):=h 4 (by decide)
  have HAT:=hdd hat
  have HF:=hdd (line_out (w:=w) an hat ((HOX.out.keep (Above.of_grown hW.grown HR2.out)).mono HB2.out.size) (HBX6.out.grown hW.grown HBX6.out.size (fun k hk=>by injection hk; omega)))
  rw[invA_lit [none,none,none,none,none,some 5,none,none,none,none,none,none,none,none,none,none,none,none,none,none,none,none,none,none,none,none,none,none,none,none,none,none,none,none,none,none,none,none,none,none,none,none,none,none,none,none,none,none,none,none,none,none,none,none,none,none,none,none,none,none,none,none,none,none,none,none,none,none,none,none,some 0,some 1,some 2,some 3] (by kernel_rfl) rfl]
  simp only[List.zipWith_cons_cons,List.zipWith_nil_left]
  rw[h0]
  clear h h0 hW hat hce
  go_wp2
  ((try simp only[Exit.inBlock,Exit.then]); refine bodyPost_ret (results_cell_tmp rfl _ _ (w.heap.size+1) _ _ (0,0) _ rfl HAT.out Tryz.underlying30 rfl (by kernel_rfl)) rfl ?_)
  exact HF.out
set_option maxHeartbeats 4000000 in
theorem lineS_no {B:Nat} (p c:Int) (v:Value) (gs:List Gs) (l:List UInt8) (w:World) (h:RG B w v gs) (hok:deskB p c gs=false):
  Calls Tryz.prog 21 #[dkV p c v,strV l] w (SayOut 0 0 [] [] w):=by
 have HRG:=hdd h
 obtain ⟨a,cap,rfl⟩:=h.shape
 obtain ⟨w1,hw1⟩:∃ w1,w1=(w.alloc (.cells #[.int .i64 p,.int .i64 c,.slice a gs.length cap] 30)).alloc (.cells #[.int .i64 0,.int .i64 0,.slice none 0 0] 30):=⟨_,rfl⟩
 have hb1:Below w.heap.size w w1:=by rw[hw1]; exact ((Below.refl _ _).alloc (Nat.le_refl _) _).alloc (by simp) _
 have hz0:At w1 w.heap.size (.cells #[.int .i64 p,.int .i64 c,.slice a gs.length cap] 30):=by
  rw[hw1]; exact (At.new w _).below ((Below.refl _ _).alloc (Nat.le_refl _) _)
 have hz1:At w1 (w.heap.size+1) (.cells #[.int .i64 0,.int .i64 0,.slice none 0 0] 30):=by
  rw[hw1]; have q:=At.new (w.alloc (.cells #[.int .i64 p,.int .i64 c,.slice a gs.length cap] 30)) (.cells #[.int .i64 0,.int .i64 0,.slice none 0 0] 30); rw[World.size_alloc] at q; exact q
 have hK:=deskOkS_any p c _ gs w1 (HRG.out.below hb1).toGL
 rw[hok] at hK
 have HB1:=hdd hb1
 have HZ1:=hdd hz1
 unfold dkV at hK
 unfold dkV strV
 obtain ⟨x0,x1,x2⟩:=hz0.three
 clear h hb1 hz0 hz1 hok
 go_enter Tryz.func21,Tryz.ntmps21
 go_wp2_with fail
 rw[←hw1]
 clear hw1
 refine hK.mono ?_
 rintro e w2 ⟨rfl,hb2⟩
 have HB2:=hdd (HB1.out.trans (hb2.mono HB1.out.size))
 have HR4:=hdd (HZ1.out.below hb2)
 clear hK hb2 x0 x1 x2
 obtain ⟨r0,r1,r2,rf⟩:=zero_cells HR4.out
 have HF:=hdd (say_ret (w:=w) (p:=0) (c:=0) (gs:=[]) (a4:=none) (c4:=0) (cap2:=0) [] HR4.out (by omega) (OwnG.empty _ _) HB2.out (Nat.le_refl _) (by omega))
 go_wp2
 ((try simp only[Exit.inBlock,Exit.then]); refine bodyPost_ret (results_cell_tmp rfl _ _ (w.heap.size+1) _ _ (0,0) _ rfl HF.out.2 Tryz.underlying30 rfl (by kernel_rfl)) rfl ?_)
 exact HF.out.1
theorem lineS_any {B:Nat} {hf:Int→List Int} (hh:HuntsOk hf) (p c:Int) (v:Value) (gs:List Gs) (l:List UInt8) (w:World) (h:RG B w v gs) (hl:l.length≤2000000) (hc:∀ g∈gs,g.code.length≤2000000):
  Calls Tryz.prog 21 #[dkV p c v,strV l] w (LineOut hf p c gs l w):=by
 cases hok:deskB p c gs
 ·exact (lineS_no p c v gs l w h hok).mono fun e w' q=>LineOut.no hok q
 suffices hs:Calls Tryz.prog 21 #[dkV p c v,strV l] w (SayOut p c (lineG p c gs l) (lineA hf p c gs l) w) from hs.mono fun e w' q=>LineOut.yes hok q
 rcases hd:readD l with _ | d
 ·rw[(line_none (hf:=hf) hd).1,(line_none hd).2]
  unfold ansN
  by_cases h1:l=wFit
  ·rw[if_pos h1]; exact lineS_fit p c v gs l w h hl hd hok hc (by rw[h1]; rfl)
  rw[if_neg h1]
  have b1:(l==[102,105,116])=false:=by simpa [wFit] using h1
  by_cases h2:l=wNext
  ·rw[if_pos h2]; exact lineS_next p c v gs l w h hl hd hok hc b1 (by rw[h2]; rfl)
  rw[if_neg h2]
  have b2:(l==[110,101,120,116])=false:=by simpa [wNext] using h2
  by_cases h3:l=wMade
  ·rw[if_pos h3]; exact lineS_made p c v gs l w h hl hd hok hc b1 b2 (by rw[h3]; rfl)
  rw[if_neg h3]
  exact lineS_ask hh p c v gs l w h hl hd hok hc b1 b2 (by simpa [wMade] using h3)
 ·rw[(line_some (hf:=hf) hd).1,(line_some hd).2]
  exact lineS_deed p c v gs l d w h hl hd hok hc
end Go.Proofs.YtenlngclocfnlaaGreatDoor
namespace Go.Proofs.YtenlngclocfnlaaGreatDoor
open Go.RowKit
set_option linter.unusedVariables false
set_option maxRecDepth 100000
def DeskV (B:Nat) (p c:Int) (gs:List Gs) (v:Value) (W:World):Prop:=
 ∃ a c4 cc,v=.agg #[.int .i64 p,.int .i64 c,.slice a gs.length cc]∧gs.length≤cc∧cc≤9223372036854775807∧OwnG B W (.slice a gs.length c4) gs
theorem DeskV.below {B:Nat} {p c:Int} {gs:List Gs} {v:Value} {W W':World} (h:DeskV B p c gs v W) (hb:Below W.heap.size W W'):DeskV B p c gs v W':=by
 obtain ⟨a,c4,cc,h1,h2,h3,h4⟩:=h
 exact ⟨a,c4,cc,h1,h2,h3,h4.below hb⟩
def FullD (B:Nat) (p c:Int) (gs:List Gs) (G:Nat) (W:World):Prop:=∃ x y z,At W G (DC x y z)∧DeskV B p c gs (.agg #[x,y,z]) W
structure RelN (S B:Nat) (p c:Int) (gs:List Gs) (W W':World):Prop where
 below:Below S W W'
 desk:∀ x,DeskV B p c gs x W→DeskV B p c gs x W'
 box:∀ G,(∃ x y z,At W G (DC x y z))→∃ x y z,At W' G (DC x y z)
 full:∀ G,FullD B p c gs G W→FullD B p c gs G W'
theorem RelN.refl (S B:Nat) (p c:Int) (gs:List Gs) (W:World):RelN S B p c gs W W:=⟨Below.refl _ _,fun _ h=>h,fun _ h=>h,fun _ h=>h⟩
theorem RelN.trans {S B:Nat} {p c:Int} {gs:List Gs} {a b d:World} (h:RelN S B p c gs a b) (h':RelN S B p c gs b d):RelN S B p c gs a d:=
 ⟨h.below.trans h'.below,fun x q=>h'.desk x (h.desk x q),fun G q=>h'.box G (h.box G q),fun G q=>h'.full G (h.full G q)⟩
theorem RelN.of {S B:Nat} {p c:Int} {gs:List Gs} {W W':World} (h:Below W.heap.size W W') (hS:S≤W.heap.size):RelN S B p c gs W W':=
 ⟨h.mono hS,fun x q=>q.below h,fun G ⟨x,y,z,q⟩=>⟨x,y,z,q.below h⟩,fun G ⟨x,y,z,q1,q2⟩=>⟨x,y,z,q1.below h,q2.below h⟩⟩
theorem DeskV.put {B G:Nat} {p c:Int} {gs:List Gs} {v x y z x' y' z':Value} {W:World} (h:DeskV B p c gs v W) (hG:At W G (DC x' y' z')):
  DeskV B p c gs v (((W.setCell ⟨G,0,none⟩ x).setCell ⟨G,1,none⟩ y).setCell ⟨G,2,none⟩ z):=by
 obtain ⟨a,c4,cc,h1,h2,h3,h4⟩:=h
 have q1:=heap_setCell_same _ _ 0 _ _ x hG
 have q2:=heap_setCell_same _ _ 1 _ _ y q1
 exact ⟨a,c4,cc,h1,h2,h3,((h4.other hG).other q1).other q2⟩
theorem RelN.store {S B G:Nat} {p c:Int} {gs:List Gs} {x y z x' y' z':Value} {W:World} (h:At W G (DC x' y' z')) (hG:S≤G) (hd:DeskV B p c gs (.agg #[x,y,z]) W):
  RelN S B p c gs W (((W.setCell ⟨G,0,none⟩ x).setCell ⟨G,1,none⟩ y).setCell ⟨G,2,none⟩ z)∧FullD B p c gs G (((W.setCell ⟨G,0,none⟩ x).setCell ⟨G,1,none⟩ y).setCell ⟨G,2,none⟩ z):=by
 have q1:=heap_setCell_same _ _ 0 _ _ x h
 have q2:=heap_setCell_same _ _ 1 _ _ y q1
 have q3:At (((W.setCell ⟨G,0,none⟩ x).setCell ⟨G,1,none⟩ y).setCell ⟨G,2,none⟩ z) G (DC x y z):=heap_setCell_same _ _ 2 _ _ z q2
 have hg:=grownT (grownT (grownBy_setCell W ⟨G,0,none⟩ x) (grownBy_setCell (W.setCell ⟨G,0,none⟩ x) ⟨G,1,none⟩ y)) (grownBy_setCell ((W.setCell ⟨G,0,none⟩ x).setCell ⟨G,1,none⟩ y) ⟨G,2,none⟩ z)
 have other:∀ k,k<W.heap.size→k≠G→(((W.setCell ⟨G,0,none⟩ x).setCell ⟨G,1,none⟩ y).setCell ⟨G,2,none⟩ z).heap[k]?=W.heap[k]?:=fun k hk hne=>hg.block k hk (fun e=>hne (by injection e))
 refine ⟨⟨(((Below.refl _ _).setCell (p:=⟨G,0,none⟩) hG _).setCell (p:=⟨G,1,none⟩) hG _).setCell (p:=⟨G,2,none⟩) hG _,fun v q=>q.put h,fun G' q=>?_,fun G' q=>?_⟩,⟨x,y,z,q3,hd.put h⟩⟩
 ·by_cases e:G'=G
  ·subst e; exact ⟨x,y,z,q3⟩
  ·obtain ⟨a,b,d,hq⟩:=q
   exact ⟨a,b,d,(other G' hq.lt e).trans hq⟩
 ·by_cases e:G'=G
  ·subst e; exact ⟨x,y,z,q3,hd.put h⟩
  ·obtain ⟨a,b,d,hq,hv⟩:=q
   exact ⟨a,b,d,(other G' hq.lt e).trans hq,hv.put h⟩
def MadeV (W:World) (B:Nat) (p c:Int) (gs:List Gs) (s:Value) (wx:World):Prop:=∃ G,s=.pointer (some ⟨G,0,none⟩)∧FullD B p c gs G wx∧Below W.heap.size W wx∧G<wx.heap.size
set_option maxHeartbeats 8000000 in
theorem deskSayS_any {B C:Nat} {hf:Int→List Int} (hh:HuntsOk hf) (p c:Int) (v:Value) (gs:List Gs) (vl:Value) (ls:List (List UInt8)) (w:World) (h:RG B w v gs) (hl:SL C w vl (ls.map strV)) (hc:∀ g∈gs,g.code.length≤2000000) (hlen:∀ l∈ls,l.length≤2000000):
  Calls Tryz.prog 26 #[dkV p c v,vl] w (SaysRes hf p c gs ls w):=by
 have HRG:=hdd h
 have H64:=hdd h.i64
 obtain ⟨a,cap,rfl⟩:=h.shape
 obtain ⟨al,capl,rfl,hcapl,hmaxl,hcells⟩:=strs_opened hl
 have HCE:=hdd hcells
 have HC:=hdd hc
 have HLN:=hdd hlen
 obtain ⟨w1,hw1⟩:∃ w1,w1=((w.alloc (.cells #[.int .i64 p,.int .i64 c,.slice a gs.length cap] 30)).alloc (.cells #[.int .i64 0,.int .i64 0,.slice none 0 0] 30)).alloc (.cells #[] 9):=⟨_,rfl⟩
 have hb1:Below w.heap.size w w1:=by rw[hw1]; exact (((Below.refl _ _).alloc (Nat.le_refl _) _).alloc (by simp) _).alloc (by simp; omega) _
 have hz0:At w1 w.heap.size (.cells #[.int .i64 p,.int .i64 c,.slice a gs.length cap] 30):=by rw[hw1]; exact ((At.new w _).below ((Below.refl _ _).alloc (Nat.le_refl _) _)).below ((Below.refl _ _).alloc (Nat.le_refl _) _)
 have hz1:At w1 (w.heap.size+1) (.cells #[.int .i64 0,.int .i64 0,.slice none 0 0] 30):=by rw[hw1]; have q:=At.new (w.alloc (.cells #[.int .i64 p,.int .i64 c,.slice a gs.length cap] 30)) (.cells #[.int .i64 0,.int .i64 0,.slice none 0 0] 30); rw[World.size_alloc] at q; exact q.below ((Below.refl _ _).alloc (Nat.le_refl _) _)
 have hs0:OwnS w.heap.size w1 (.slice (some ⟨w.heap.size+1+1,0,none⟩) 0 0) []:=by
  rw[hw1]
  have q:=OwnS.lit ((w.alloc (.cells #[.int .i64 p,.int .i64 c,.slice a gs.length cap] 30)).alloc (.cells #[.int .i64 0,.int .i64 0,.slice none 0 0] 30))
  rw[World.size_alloc,World.size_alloc] at q
  exact q.mono (by omega)
 have hT:=deskOkS_any p c _ gs w1 (h.toGL.below hb1)
 have HB:=hdd hb1
 have HA0:=hdd hz0
 have HA1:=hdd hz1
 have HS0:=hdd hs0
 have HY:=hdd (fun (e:Ending) (w':World) (q:sayB p c gs ls=true)=>SaysRes.yes (hf:=hf) (w:=w) (e:=e) (w':=w') q)
 have HNO:=hdd (fun (e:Ending) (w':World) (q:sayB p c gs ls=false)=>SaysRes.no (hf:=hf) (w:=w) (e:=e) (w':=w') q)
 obtain ⟨t,ht⟩:∃ t,t=deskB p c gs:=⟨_,rfl⟩
 have HT:=hdd ht
 rw[←ht] at hT
 unfold dkV at hT
 unfold dkV
 clear h hc hb1 hz0 hz1 ht hcells hlen hl hs0
 go_enter Tryz.func26,Tryz.ntmps26
 go_wp2_with fail
 rw[←hw1]
 clear hw1
 refine hT.mono ?_
 rintro e w2 ⟨rfl,hb2⟩
 replace HA0:=hdd (HA0.out.below hb2)
 replace HA1:=hdd (HA1.out.below hb2)
 replace HB:=hdd (HB.out.trans (hb2.mono HB.out.size))
 have HS2:=hdd (HS0.out.below hb2)
 clear hT hb2 HS0
 obtain ⟨e0,e1,e2⟩:=HA0.out.three
 obtain ⟨r0,r1,r2,rf⟩:=zero_cells HA1.out
 have hz0:=HA0.out.lt
 have hz1:=HA1.out.lt
 cases t
 ·have HF:=hdd (says_ret (w:=w) (p:=0) (c:=0) (gs:=[]) (v:=.slice none 0 0) (us:=[]) HA1.out (by omega) ((OwnG.empty _ _).rg (fun g hg=>by cases hg)) HS2.out HB.out)
  go_wp2
  ((try simp only[Exit.inBlock,Exit.then]); refine bodyPost_ret (results_cell_tmp rfl _ _ (w.heap.size+1) _ _ (0,0) _ rfl HF.out.2 Tryz.underlying30 rfl (by kernel_rfl)) rfl ?_)
  exact HNO.out _ _ (by unfold sayB; rw[←HT.out]; rfl) HF.out.1
 ·by_cases hlong:40<(ls.length:Int)
  ·have HF:=hdd (says_ret (w:=w) (p:=0) (c:=0) (gs:=[]) (v:=.slice none 0 0) (us:=[]) HA1.out (by omega) ((OwnG.empty _ _).rg (fun g hg=>by cases hg)) HS2.out HB.out)
   have HRB:=hdd (show sayB p c gs ls=false by unfold sayB; rw[decide_eq_false (by omega)]; simp)
   go_wp2
   ((try simp only[Exit.inBlock,Exit.then]); refine bodyPost_ret (results_cell_tmp rfl _ _ (w.heap.size+1) _ _ (0,0) _ rfl HF.out.2 Tryz.underlying30 rfl (by kernel_rfl)) rfl ?_)
   exact HNO.out _ _ HRB.out HF.out.1
  ·have HRB:=hdd (show sayB p c gs ls=true by unfold sayB; rw[←HT.out,decide_eq_true (by omega)]; rfl)
   have hdl:=deskB_len HT.out.symm
   have hT:=copS_any p c _ gs w2 (HRG.out.below HB.out).toGL (by omega) HC.out
   unfold dkV at hT
   have HKP:=hdd (say_keeps (hf:=hf) HT.out.symm H64.out HC.out ls)
   have HNEXT:=hdd (fun k (hk:k<ls.length)=>say_next (hf:=hf) (p:=p) (c:=c) (gs:=gs) hk)
   go_wp2_with fail
   refine hT.mono ?_
   rintro e w3 ⟨a3,c3,rfl,ho3,hb3⟩
   unfold dkV
   have hbb:=HB.out.trans (hb3.mono HB.out.size)
   obtain ⟨D,hD⟩:∃ D,D=w3.heap.size:=⟨_,rfl⟩
   obtain ⟨W0,hW0⟩:∃ z,z=w3.alloc (.cells #[.int .i64 p,.int .i64 c,.slice a3 gs.length c3] 30):=⟨_,rfl⟩
   have hba:Below w3.heap.size w3 W0:=by rw[hW0]; exact (Below.refl _ _).alloc (Nat.le_refl _) _
   have HW3:=hdd (show RunW w D (w.heap.size+1) p c (.slice a3 gs.length c3) gs W0 from ⟨by rw[hW0,hD]; exact At.new _ _,(HA1.out.below hb3).below hba,((ho3.rg H64.out).mono HB.out.size).below hba,hbb.trans (hba.mono hbb.size),by rw[hD]; exact hbb.size,by omega,by have:=hb3.size; omega⟩)
   have HS3:=hdd ((HS2.out.below hb3).below hba)
   have hDR:D≠w.heap.size+1:=by have:=hb3.size; omega
   clear hT ho3 hb3 hbb hba HA0 HA1 e0 e1 e2 r0 r1 r2 rf HS2 hz0 hz1
   go_upto_region 5 with fail
   rw[←hW0,←hD]
   clear hW0 hD HB
   go_wp2
   go_loopw [6,8] (fun s i wr=>∃ (k:Nat) (v':Value) (ao:Option Addr) (co:Nat),k≤ls.length∧i=.int .i64 k∧s=.slice ao k co∧OwnS w.heap.size wr (.slice ao k co) (sayL hf p c gs (ls.take k)).2∧RunW w D (w.heap.size+1) p c v' (sayL hf p c gs (ls.take k)).1 wr) (fun _ i _=>ls.length-(intOf i).toNat)
   case atStart=>exact ⟨0,_,_,_,Nat.zero_le _,rfl,rfl,HS3.out,HW3.out⟩
   case round=>
    obtain ⟨kj,v',ao,co,hk,rfl,rfl,hos,hW⟩:=hrel
    obtain ⟨wk,rfl⟩:∃ x,x=wr:=⟨_,rfl⟩
    clear HW3 HS3
    obtain ⟨hdk,h64,hcd,hal⟩:=HKP.out kj hk
    by_cases hlt:kj<ls.length
    ·have hnx:=HNEXT.out kj hlt
     obtain ⟨gk,hgk⟩:∃ z,z=(sayL hf p c gs (ls.take kj)).1:=⟨_,rfl⟩
     obtain ⟨uk,huk⟩:∃ z,z=(sayL hf p c gs (ls.take kj)).2:=⟨_,rfl⟩
     unfold sayF at hnx
     rw[←hgk] at hnx h64 hcd hdk hW
     rw[←huk] at hnx hal hos
     obtain ⟨b,off,rfl,_,hcs⟩:=HCE.out (by omega)
     have hb:=hW.2.2.2.1
     have q0:=(Above.of_below (B:=0) hb).cell (Nat.zero_le _) (hcs kj hlt)
     have hxl:=HLN.out _ (List.getElem_mem hlt)
     obtain ⟨x,hx⟩:∃ x,x=ls[kj]:=⟨_,rfl⟩
     rw[←hx] at q0 hxl hnx
     obtain ⟨ak,ck,hvk⟩:=hW.2.2.1.shape
     subst hvk
     have HQ0:=hdd (And.intro q0 (World.block_lt_of_cell? wk _ q0))
     obtain ⟨y0,y1,y2⟩:=hW.1.three
     have HX:=hdd (And.intro y0 (And.intro y1 (And.intro y2 (And.intro hW.1.lt trivial))))
     have HD:=hdd (show ∀ W,RG w.heap.size W (.slice ak gk.length ck) gk→Calls Tryz.prog 21 #[.agg #[.int .i64 p,.int .i64 c,.slice ak gk.length ck],.string ⟨x.toArray⟩] W (SayOut p c (lineG p c gk x) (lineA hf p c gk x) W) from
      fun W r1=>(lineS_any hh p c _ gk x W r1 hxl hcd).mono (fun e w' q=>by unfold LineOut at q; rwa [if_pos hdk] at q))
     have H6:=hdd (line_i64 (p:=p) (c:=c) x h64)
     have HNX:=hdd hnx
     obtain ⟨g2,hg2⟩:∃ z,z=lineG p c gk x:=⟨_,rfl⟩
     obtain ⟨an,han⟩:∃ z,z=lineA hf p c gk x:=⟨_,rfl⟩
     rw[←hg2,←han] at HD HNX
     rw[←hg2] at H6
     have HW:=hdd hW
     have HAL:=hdd hal
     have HOS:=hdd hos
     have HSZ:=hdd hb.size
     have hi0:(0:Int)≤(kj:Int):=by omega
     have hi1:(kj:Int)<(ls.length:Int):=by omega
     have hk9:kj≤1000:=by omega
     have HRW:=hdd (fun W (q:RelN wk.heap.size w.heap.size p c g2 wk W)=>show RG w.heap.size W (.slice ak gk.length ck) gk from hW.2.2.1.below q.below)
     clear hnx h64 hcd hdk hgk huk hcs hb hx hg2 han hW hxl hal hos q0 y0 y1 y2
     go_upto_region 8 with fail
     go_cut [9,10] from 24 to 43 (fun s t wx=>t=.string ⟨an.toArray⟩∧MadeV wk w.heap.size p c g2 s wx)
     case first=>
      refine wp_region_invN (Rel:=RelN wk.heap.size w.heap.size p c g2) 10 9 (fun a b c=>RelN.trans) (fun w=>⟨(Below.refl _ _).drew,fun _ q=>q.below (Below.refl _ _).drew,fun _ q=>q,fun _ ⟨x,y,z,q1,q2⟩=>⟨x,y,z,q1,q2.below (Below.refl _ _).drew⟩⟩) (by kernel_rfl) (fun k=>(#[31,32,33,34,35,36,30,37,38,9,1000,10]:Array Nat).getD k 0) 46
       (fun k v W=>match k with
        | 0=>v=.agg #[.int .i64 p,.int .i64 c,.slice ak gk.length ck]
        | 1=>v=.slice (some ⟨b,off,none⟩) ls.length capl
        | 2=>v=.int .i64 (kj:Nat)
        | 3=>v=.pointer (some ⟨b,off+kj,none⟩)
        | 4=>v=.string ⟨x.toArray⟩
        | 5=>∃ d,v=.tuple #[d,.string ⟨an.toArray⟩]∧DeskV w.heap.size p c g2 d W
        | 6=>∃ d,v=.tuple #[d,.string ⟨an.toArray⟩]∧DeskV w.heap.size p c g2 d W
        | 7=>DeskV w.heap.size p c g2 v W
        | 8=>v=.string ⟨an.toArray⟩
        | 9=>∃ G,v=.pointer (some ⟨G,0,none⟩)∧wk.heap.size≤G∧∃ x y z,At W G (DC x y z)
        | 10=>∃ G,v=.pointer (some ⟨G,0,none⟩)∧FullD w.heap.size p c g2 G W
        | 11=>v=.string ⟨an.toArray⟩
        | _=>False) ?sz ?chk ?mono ?step ?fin
      case sz=>rfl
      case chk=>kernel_rfl
      case mono=>
       intro k v W W' h hb
       match k,h with
       | 0,h=>exact h
       | 1,h=>exact h
       | 2,h=>exact h
       | 3,h=>exact h
       | 4,h=>exact h
       | 5,h=>exact (by obtain ⟨d,h1,h2⟩:=h; exact ⟨d,h1,hb.desk d h2⟩)
       | 6,h=>exact (by obtain ⟨d,h1,h2⟩:=h; exact ⟨d,h1,hb.desk d h2⟩)
       | 7,h=>exact hb.desk _ h
       | 8,h=>exact h
       | 9,h=>exact (by obtain ⟨G,h1,h2,h3⟩:=h; exact ⟨G,h1,h2,hb.box G h3⟩)
       | 10,h=>exact (by obtain ⟨G,h1,h2⟩:=h; exact ⟨G,h1,hb.full G h2⟩)
       | 11,h=>exact h
      case step=>
       intro i o ho A W hW hA hD K hK
       match i,ho with
       | 0,ho=>
        simp only[List.getElem?_cons_zero,Option.some.injEq] at ho
        subst ho
        have e7:A.tmps.getD 7 undef=.pointer (some ⟨D,0,none⟩):=(hA 7 (by kernel_rfl)).trans rfl
        have e7':=gDq e7
        have HK:=hdd (show ∀ v W',RelN wk.heap.size w.heap.size p c g2 W W'→(v=.agg #[.int .i64 p,.int .i64 c,.slice ak gk.length ck])→K (A.put (some 31) v) W' from fun v W' h1 h2=>hK.out v W' h1 h2 (fun q=>absurd q (by decide)))
        have HW:=hdd hW
        have y0:=(hW.below.cell HX.out.2.2.2.1).trans HX.out.1
        have y1:=(hW.below.cell HX.out.2.2.2.1).trans HX.out.2.1
        have y2:=(hW.below.cell HX.out.2.2.2.1).trans HX.out.2.2.1
        clear hA hD hK hW
        go_simp
        exact HK.out _ _ (RelN.refl _ _ _ _ _ _) rfl
       | 1,ho=>
        simp only[List.getElem?_cons_succ,List.getElem?_cons_zero,Option.some.injEq] at ho
        subst ho
        have e1:A.tmps.getD 1 undef=.slice (some ⟨b,off,none⟩) ls.length capl:=(hA 1 (by kernel_rfl)).trans rfl
        have e1':=gDq e1
        have HK:=hdd (show ∀ v W',RelN wk.heap.size w.heap.size p c g2 W W'→(v=.slice (some ⟨b,off,none⟩) ls.length capl)→K (A.put (some 32) v) W' from fun v W' h1 h2=>hK.out v W' h1 h2 (fun q=>absurd q (by decide)))
        have HW:=hdd hW
        clear hA hD hK hW
        go_simp
        exact HK.out _ _ (RelN.refl _ _ _ _ _ _) rfl
       | 2,ho=>
        simp only[List.getElem?_cons_succ,List.getElem?_cons_zero,Option.some.injEq] at ho
        subst ho
        have e8:A.tmps.getD 8 undef=.int .i64 (kj:Nat):=(hA 8 (by kernel_rfl)).trans rfl
        have e8':=gDq e8
        have HK:=hdd (show ∀ v W',RelN wk.heap.size w.heap.size p c g2 W W'→(v=.int .i64 (kj:Nat))→K (A.put (some 33) v) W' from fun v W' h1 h2=>hK.out v W' h1 h2 (fun q=>absurd q (by decide)))
        have HW:=hdd hW
        clear hA hD hK hW
        go_simp
        exact HK.out _ _ (RelN.refl _ _ _ _ _ _) rfl
       | 3,ho=>
        simp only[List.getElem?_cons_succ,List.getElem?_cons_zero,Option.some.injEq] at ho
        subst ho
        have d1:A.tmps.getD 32 undef=.slice (some ⟨b,off,none⟩) ls.length capl:=hD 1 (by decide) (by kernel_rfl)
        have d2:A.tmps.getD 33 undef=.int .i64 (kj:Nat):=hD 2 (by decide) (by kernel_rfl)
        have HK:=hdd (show ∀ v W',RelN wk.heap.size w.heap.size p c g2 W W'→(v=.pointer (some ⟨b,off+kj,none⟩))→K (A.put (some 34) v) W' from fun v W' h1 h2=>hK.out v W' h1 h2 (fun q=>absurd q (by decide)))
        have HW:=hdd hW
        clear hA hD hK hW
        have d1':=gDq d1
        have d2':=gDq d2
        go_simp
        exact HK.out _ _ (RelN.refl _ _ _ _ _ _) rfl
       | 4,ho=>
        simp only[List.getElem?_cons_succ,List.getElem?_cons_zero,Option.some.injEq] at ho
        subst ho
        have d3:A.tmps.getD 34 undef=.pointer (some ⟨b,off+kj,none⟩):=hD 3 (by decide) (by kernel_rfl)
        have HK:=hdd (show ∀ v W',RelN wk.heap.size w.heap.size p c g2 W W'→(v=.string ⟨x.toArray⟩)→K (A.put (some 35) v) W' from fun v W' h1 h2=>hK.out v W' h1 h2 (fun q=>absurd q (by decide)))
        have HW:=hdd hW
        have hcc:=(hW.below.cell HQ0.out.2).trans HQ0.out.1
        clear hA hD hK hW
        have d3':=gDq d3
        go_simp
        exact HK.out _ _ (RelN.refl _ _ _ _ _ _) rfl
       | 5,ho=>
        simp only[List.getElem?_cons_succ,List.getElem?_cons_zero,Option.some.injEq] at ho
        subst ho
        have d0:A.tmps.getD 31 undef=.agg #[.int .i64 p,.int .i64 c,.slice ak gk.length ck]:=hD 0 (by decide) (by kernel_rfl)
        have d4:A.tmps.getD 35 undef=.string ⟨x.toArray⟩:=hD 4 (by decide) (by kernel_rfl)
        have HK:=hdd (show ∀ v W',RelN wk.heap.size w.heap.size p c g2 W W'→(∃ d,v=.tuple #[d,.string ⟨an.toArray⟩]∧DeskV w.heap.size p c g2 d W')→K (A.put (some 36) v) W' from fun v W' h1 h2=>hK.out v W' h1 h2 (fun q=>absurd q (by decide)))
        have HW:=hdd hW
        clear hA hD hK hW
        have d0':=gDq d0
        have d4':=gDq d4
        go_simp
        refine (HD.out W (HRW.out W HW.out)).mono ?_
        rintro e W' ⟨a4,c4,cc4,rfl,r1,r2,ho4,hb4⟩
        exact HK.out _ _ (RelN.of hb4 HW.out.below.size) ⟨_,rfl,a4,c4,cc4,rfl,r1,r2,ho4.mono (Nat.le_trans HSZ.out HW.out.below.size)⟩
       | 6,ho=>
        simp only[List.getElem?_cons_succ,List.getElem?_cons_zero,Option.some.injEq] at ho
        subst ho
        have d5:∃ d,(A.tmps.getD 36 undef)=.tuple #[d,.string ⟨an.toArray⟩]∧DeskV w.heap.size p c g2 d W:=hD 5 (by decide) (by kernel_rfl)
        have HK:=hdd (show ∀ v W',RelN wk.heap.size w.heap.size p c g2 W W'→(∃ d,v=.tuple #[d,.string ⟨an.toArray⟩]∧DeskV w.heap.size p c g2 d W')→K (A.put (some 30) v) W' from fun v W' h1 h2=>hK.out v W' h1 h2 (fun q=>absurd q (by decide)))
        have HW:=hdd hW
        clear hA hD hK hW
        obtain ⟨v5,hv5⟩:∃ z,A.tmps.getD 36 undef=z:=⟨_,rfl⟩
        rw[hv5] at d5
        have hv5':=gDq hv5
        obtain ⟨dd,rfl,hdd2⟩:=d5
        have HDD:=hdd hdd2
        clear hdd2
        go_simp
        exact HK.out _ _ (RelN.refl _ _ _ _ _ _) ⟨_,rfl,HDD.out⟩
       | 7,ho=>
        simp only[List.getElem?_cons_succ,List.getElem?_cons_zero,Option.some.injEq] at ho
        subst ho
        have d6:∃ d,(A.tmps.getD 30 undef)=.tuple #[d,.string ⟨an.toArray⟩]∧DeskV w.heap.size p c g2 d W:=hD 6 (by decide) (by kernel_rfl)
        have HK:=hdd (show ∀ v W',RelN wk.heap.size w.heap.size p c g2 W W'→(DeskV w.heap.size p c g2 v W')→K (A.put (some 37) v) W' from fun v W' h1 h2=>hK.out v W' h1 h2 (fun q=>absurd q (by decide)))
        have HW:=hdd hW
        clear hA hD hK hW
        obtain ⟨v6,hv6⟩:∃ z,A.tmps.getD 30 undef=z:=⟨_,rfl⟩
        rw[hv6] at d6
        have hv6':=gDq hv6
        obtain ⟨dd,rfl,hdd2⟩:=d6
        have HDD:=hdd hdd2
        clear hdd2
        go_simp
        exact HK.out _ _ (RelN.refl _ _ _ _ _ _) HDD.out
       | 8,ho=>
        simp only[List.getElem?_cons_succ,List.getElem?_cons_zero,Option.some.injEq] at ho
        subst ho
        have d6:∃ d,(A.tmps.getD 30 undef)=.tuple #[d,.string ⟨an.toArray⟩]∧DeskV w.heap.size p c g2 d W:=hD 6 (by decide) (by kernel_rfl)
        have HK:=hdd (show ∀ v W',RelN wk.heap.size w.heap.size p c g2 W W'→(v=.string ⟨an.toArray⟩)→K (A.put (some 38) v) W' from fun v W' h1 h2=>hK.out v W' h1 h2 (fun q=>absurd q (by decide)))
        have HW:=hdd hW
        clear hA hD hK hW
        obtain ⟨v6,hv6⟩:∃ z,A.tmps.getD 30 undef=z:=⟨_,rfl⟩
        rw[hv6] at d6
        have hv6':=gDq hv6
        obtain ⟨dd,rfl,hdd2⟩:=d6
        clear hdd2
        go_simp
        exact HK.out _ _ (RelN.refl _ _ _ _ _ _) rfl
       | 9,ho=>
        simp only[List.getElem?_cons_succ,List.getElem?_cons_zero,Option.some.injEq] at ho
        subst ho
        have HK:=hdd (show ∀ v W',RelN wk.heap.size w.heap.size p c g2 W W'→(∃ G,v=.pointer (some ⟨G,0,none⟩)∧wk.heap.size≤G∧∃ x y z,At W' G (DC x y z))→K (A.put (some 9) v) W' from fun v W' h1 h2=>hK.out v W' h1 h2 (fun q=>absurd q (by decide)))
        have HW:=hdd hW
        have hsz:=hW.below.size
        clear hA hD hK hW
        go_simp
        exact HK.out _ _ (RelN.of ((Below.refl _ _).alloc (Nat.le_refl _) _) hsz) ⟨_,rfl,hsz,_,_,_,At.new W _⟩
       | 10,ho=>
        simp only[List.getElem?_cons_succ,List.getElem?_cons_zero,Option.some.injEq] at ho
        subst ho
        have d7:DeskV w.heap.size p c g2 (A.tmps.getD 37 undef) W:=hD 7 (by decide) (by kernel_rfl)
        have d9:∃ G,(A.tmps.getD 9 undef)=.pointer (some ⟨G,0,none⟩)∧wk.heap.size≤G∧∃ x y z,At W G (DC x y z):=hD 9 (by decide) (by kernel_rfl)
        have HK:=hdd (show ∀ W',RelN wk.heap.size w.heap.size p c g2 W W'→(∃ G,(A.tmps.getD 9 undef)=.pointer (some ⟨G,0,none⟩)∧FullD w.heap.size p c g2 G W')→K A W' from fun W' h1 h2=>hK.out _ W' h1 h2 (fun _=>rfl))
        have HW:=hdd hW
        clear hA hD hK hW
        obtain ⟨v7,hv7⟩:∃ z,A.tmps.getD 37 undef=z:=⟨_,rfl⟩
        rw[hv7] at d7
        have hv7':=gDq hv7
        obtain ⟨v9,hv9⟩:∃ z,A.tmps.getD 9 undef=z:=⟨_,rfl⟩
        rw[hv9] at d9 HK
        have hv9':=gDq hv9
        obtain ⟨G,rfl,hG,x',y',z',hat⟩:=d9
        have hd7:=d7
        obtain ⟨a4,c4,cc4,rfl,_⟩:=d7
        obtain ⟨x0,x1,x2⟩:=At.three hat
        have hth:=At.thaw hat
        have HST:=hdd (RelN.store (S:=wk.heap.size) hat hG hd7)
        clear hat hd7
        go_simp
        exact HK.out _ HST.out.1 ⟨G,rfl,HST.out.2⟩
       | 11,ho=>
        simp only[List.getElem?_cons_succ,List.getElem?_cons_zero,Option.some.injEq] at ho
        subst ho
        have d8:A.tmps.getD 38 undef=.string ⟨an.toArray⟩:=hD 8 (by decide) (by kernel_rfl)
        have HK:=hdd (show ∀ v W',RelN wk.heap.size w.heap.size p c g2 W W'→(v=.string ⟨an.toArray⟩)→K (A.put (some 10) v) W' from fun v W' h1 h2=>hK.out v W' h1 h2 (fun q=>absurd q (by decide)))
        have HW:=hdd hW
        clear hA hD hK hW
        have d8':=gDq d8
        go_simp
        exact HK.out _ _ (RelN.refl _ _ _ _ _ _) rfl
       | n+12,ho=>
        simp at ho
      case fin=>
       intro vs W hW h hce
       obtain ⟨G,h9,hG,_⟩:=(show ∃ G,vs 9=.pointer (some ⟨G,0,none⟩)∧wk.heap.size≤G∧∃ x y z,At W G (DC x y z) from h 9 (by decide))
       obtain ⟨G',h10,hat⟩:=(show ∃ G,vs 10=.pointer (some ⟨G,0,none⟩)∧FullD w.heap.size p c g2 G W from h 10 (by decide))
       have h11:vs 11=.string ⟨an.toArray⟩:=h 11 (by decide)
       rw[h9,h10] at hce
       injection hce with hce
       injection hce with hce
       injection hce with hce _ _
       subst hce
       have HM:=hdd (show MadeV wk w.heap.size p c g2 (.pointer (some ⟨G',0,none⟩)) W from ⟨G',rfl,hat,hW.below,by obtain ⟨x,y,z,q,_⟩:=hat; exact q.lt⟩)
       rw[invA_lit [none,none,none,none,none,none,none,none,none,some 9,some 11,none,none,none,none,none,none,none,none,none,none,none,none,none,none,none,none,none,none,none,some 6,some 0,some 1,some 2,some 3,some 4,some 5,some 7,some 8,none,none,none,none,none,none,none] (by kernel_rfl) rfl]
       simp only[List.zipWith_cons_cons,List.zipWith_nil_left]
       rw[h9,h11]
       clear h h9 h10 h11 hW hat
       go_wp2_with fail
       go_meet
       exact ⟨rfl,HM.out⟩
     case rest=>
      obtain ⟨rfl,G,rfl,⟨gx,gy,gz,hat,hdv⟩,hb4,hGl⟩:=hcut
      obtain ⟨w4,rfl⟩:∃ z,z=wc:=⟨_,rfl⟩
      obtain ⟨a4,c4,cc4,he,r1,r2,ho4⟩:=hdv
      injection he with he
      simp only[Array.mk.injEq,List.cons.injEq,and_true] at he
      obtain ⟨rfl,rfl,rfl⟩:=he
      have HW4:=hdd (HW.out.below hb4)
      have HR4:=hdd (show RG w.heap.size w4 (.slice a4 g2.length cc4) g2 from ho4.rgcap r1 r2 H6.out)
      have HP:=hdd (RunW.put (p:=p) (c:=c) HW4.out.1 HW4.out.2.1 HW4.out.2.2.2.1 HW4.out.2.2.2.2.1 HW4.out.2.2.2.2.2.1 HW4.out.2.2.2.2.2.2 HR4.out)
      have HOP:=hdd ((HOS.out.below hb4).put3 (x:=.int .i64 p) (y:=.int .i64 c) (z:=.slice a4 g2.length cc4) HW4.out.1)
      obtain ⟨u0,u1,u2⟩:=At.three hat
      obtain ⟨x0,x1,x2⟩:=HW4.out.1.three
      have xf:=HW4.out.1.thaw
      clear ho4 hb4 hat
      go_upto_region 10 with fail
      obtain ⟨wp,hwp⟩:∃ z,z=((w4.setCell ⟨D,0,none⟩ (.int .i64 p)).setCell ⟨D,1,none⟩ (.int .i64 c)).setCell ⟨D,2,none⟩ (.slice a4 g2.length cc4):=⟨_,rfl⟩
      rw[←hwp] at HP HOP ⊢
      clear hwp x0 x1 x2 xf u0 u1 u2
      have HPA:=hdd (fun o=>HP.out.below ((Below.refl _ wp).alloc (Nat.le_refl _) o))
      have HOA:=hdd (fun o=>HOP.out.below ((Below.refl _ wp).alloc (Nat.le_refl _) o))
      go_wp2_with (at_builtin; refine wpList_push_str _ rfl (.tmp 40) (.tmp 42) rfl w.heap.size (.slice ao kj co) uk rfl (HOA.out _) ⟨wp.heap.size,0,none⟩ 1 ⟨an.toArray⟩ an rfl (by simp) rfl (by rw[HAL.out]; omega) (by have:=HP.out.2.2.2.1.size; simp; omega) ?_; intro a7 c7 w7 ho7 hg7; rw[HAL.out] at ho7 ⊢; have HO7:=hdd ho7; have HW7:=hdd ((HPA.out _).grownS (HOA.out _) (Nat.le_refl _) hg7); clear ho7 hg7)
      go_roundw
      case rel=>exact ⟨kj+1,_,a7,c7,by omega,by go_num,rfl,by rw[HNX.out]; exact HO7.out,by rw[HNX.out]; exact HW7.out⟩
      case measure=>simp[intOf]; omega
    ·have hkl:kj=ls.length:=by omega
     have e:ls.take kj=ls:=List.take_of_length_le (by omega)
     rw[e] at hW hos hal
     obtain ⟨ak,ck,hvk⟩:=hW.2.2.1.shape
     subst hvk
     rw[←hal] at hos ⊢
     have HF:=hdd (says_ret (p:=p) (c:=c) hW.2.1 (by omega) hW.2.2.1 hos hW.2.2.2.1)
     obtain ⟨x0,x1,x2⟩:=hW.1.three
     obtain ⟨r0,r1,r2,rf⟩:=zero_cells hW.2.1
     obtain ⟨G,hG⟩:∃ z,z=(sayL hf p c gs ls).1:=⟨_,rfl⟩
     obtain ⟨U,hU⟩:∃ z,z=(sayL hf p c gs ls).2:=⟨_,rfl⟩
     rw[←hU] at HF hal ⊢
     rw[←hG] at HF x2
     have HGM:=hdd (And.intro hG hU)
     have hi1:¬((U.length:Int)<(ls.length:Int)):=by omega
     clear hW e hG hU hal hos hdk h64 hcd hkl hk hlt
     go_wp2
     ((try simp only[Exit.inBlock,Exit.then]); refine bodyPost_ret (results_cell_tmp rfl _ _ (w.heap.size+1) _ _ (0,0) _ rfl HF.out.2 Tryz.underlying30 rfl (by kernel_rfl)) rfl ?_)
     exact HY.out _ _ HRB.out (by rw[←HGM.out.1,←HGM.out.2]; exact HF.out.1)
end Go.Proofs.YtenlngclocfnlaaGreatDoor
