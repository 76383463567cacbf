/- Texts of this claim, put together: SayPlain, SayMore, LineS, SaysS, DrawSay2. -/
import Derived.Test.YtenlngclocfnlaaGreatDoorPdZB
import Derived.Test.YtenlngclocfnlaaGreatDoorPdL
import Derived.Test.YtenlngclocfnlaaGreatDoorPdM
import Derived.Test.YtenlngclocfnlaaGreatDoorPdZ
import Derived.Deep.CutRange
import Derived.Test.YtenlngclocfnlaaGreatDoorPdGD
namespace Go.Proofs.YtenlngclocfnlaaGreatDoor
set_option linter.unusedVariables false
section
open Go.RowKit
set_option maxRecDepth 100000
theorem sameTexts_self {B C:Nat} (a b:Value) (us:List (List UInt8)) (w:World) (ha:SL B w a (us.map strV)) (hb:SL C w b (us.map strV)):
  Calls Tryz.prog 27 #[a,b] w fun e w'=>e=.returned (.bool true)∧Below w.heap.size w w':=by
 obtain ⟨a,cap,rfl,hcap,hmax,hcells⟩:=strs_opened ha;obtain ⟨b,cap',rfl,hcap',hmax',hcells'⟩:=strs_opened hb;clear ha hb;have hl1:((us.length:Int) != (us.length:Int))=false:=by simp
 go_enter Tryz.func27,Tryz.ntmps27;go_wp2;go_loopw [5] (fun i wr=>∃ k q:Nat,k≤us.length∧i=.int .i64 k∧wr=w.drewN q) (fun i _=>us.length-(intOf i).toNat)
 case atStart=>exact ⟨0,0,Nat.zero_le _,rfl,rfl⟩
 case round=>
  obtain ⟨k,q,hk,rfl,rfl⟩:=hrel
  by_cases hlt:k<us.length
  ·obtain ⟨b1,o1,rfl,_,hc⟩:=hcells (by omega)
   obtain ⟨b2,o2,rfl,_,hc'⟩:=hcells' (by omega);have hck:=hc k hlt;have hck':=hc' k hlt;have hi0:(0:Int)≤(k:Int):=by omega
   have hi1:(k:Int)<(us.length:Int):=by omega
   obtain ⟨x,hx⟩:∃ x,x=us[k]:=⟨_,rfl⟩
   rw[←hx] at hck hck';have he1:(x != x)=false:=by simp
   clear hc hcells hc' hcells' hx;go_wp2;go_quiet (fail);go_wp2;go_roundw
   case rel=>exact ⟨k+1,_,by omega,by go_num,rfl⟩
   case measure=>simp[intOf]; omega
  ·go_wp2
   go_ret;exact ⟨rfl,(show Drawn w _ from ⟨_,rfl⟩).below⟩
theorem say_from (hf:Int→List Int) (p c:Int):∀ (ls:List (List UInt8)) (g:List Gs) (u:List (List UInt8)),ls.foldl (sayF hf p c) (g,u)=((sayL hf p c g ls).1,u++(sayL hf p c g ls).2)
 | [],g,u=>by simp[sayL]
 | l::t,g,u=>by
  have h1:=say_from hf p c t (lineG p c g l) (u++[lineA hf p c g l]);have h2:=say_from hf p c t (lineG p c g l) ([]++[lineA hf p c g l]);unfold sayL;simp only[List.foldl_cons,sayF];rw[h1,h2];simp
theorem say_app (hf:Int→List Int) (p c:Int) (gs:List Gs) (xs ys:List (List UInt8)):
  (sayL hf p c gs (xs++ys)).1=(sayL hf p c (sayL hf p c gs xs).1 ys).1∧(sayL hf p c gs (xs++ys)).2=(sayL hf p c gs xs).2++(sayL hf p c (sayL hf p c gs xs).1 ys).2:=by
 have h:=say_from hf p c ys (sayL hf p c gs xs).1 (sayL hf p c gs xs).2;have e:sayL hf p c gs (xs++ys)=ys.foldl (sayF hf p c) (sayL hf p c gs xs):=by unfold sayL; rw[List.foldl_append]
 rw[e,show sayL hf p c gs xs=((sayL hf p c gs xs).1,(sayL hf p c gs xs).2) from rfl,h];exact ⟨rfl,rfl⟩
theorem dec_zero {n:Nat} (h:Lib.decDigits n=[48]):n=0:=by
 rw[Lib.decDigits] at h
 split at h
 ·rename_i q
  simp at h;have:=congrArg UInt8.toNat h;simp at this;omega
 ·rename_i q
  have:=congrArg List.length h;simp at this;exact absurd this (dec_ne _)
theorem line_ne {hf:Int→List Int} {p c:Int} {gs:List Gs} (l:List UInt8) (h:deskB p c gs=true):lineA hf p c gs l≠[]:=by
 rcases hd:readD l with _ | d
 ·rw[(line_none hd).2]
  unfold ansN
  split
  ·exact dec_ne _
  ·split
   ·obtain ⟨hc,hn⟩:=next_code h
    intro e;have:=congrArg List.length e;have h2:=hn.2.1;have h3:=hc.1.1;simp only[dgs,List.length_map,List.length_nil] at this;omega
   ·split
    ·exact dec_ne _
    ·exact askL_ne _ _
 ·rw[(line_some hd).2]
  split <;> decide
theorem line_fit {hf:Int→List Int} {p c:Int} {gs:List Gs} (h:deskB p c gs=true):lineG p c gs [102,105,116]=gs∧lineA hf p c gs [102,105,116]≠[48]:=by
 obtain ⟨h1,h2⟩:=line_none (hf:=hf) (p:=p) (c:=c) (gs:=gs) (show readD [102,105,116]=none by decide);refine ⟨h1,?_⟩;rw[h2];unfold ansN;rw[if_pos (by decide)];intro e;have:=dec_zero e;obtain ⟨x,hx⟩:=deskB_iff.1 h;have hp:0<(fitL p c gs).length:=List.length_pos_iff_exists_mem.2 ⟨x,hx⟩;omega
theorem line_next {hf:Int→List Int} {p c:Int} {gs:List Gs} (h:deskB p c gs=true):lineG p c gs [110,101,120,116]=gs∧((lineA hf p c gs [110,101,120,116]).length:Int)=p:=by
 obtain ⟨h1,h2⟩:=line_none (hf:=hf) (p:=p) (c:=c) (gs:=gs) (show readD [110,101,120,116]=none by decide);refine ⟨h1,?_⟩;rw[h2];unfold ansN;rw[if_neg (by decide),if_pos (by decide)];have:=(next_code h).2.2.1
 simpa [dgs] using this
theorem says_ne {hf:Int→List Int} {p c:Int} {gs:List Gs} (h:deskB p c gs=true) (h64:In64G gs) (hc:∀ g∈gs,g.code.length≤2000000) (ls:List (List UInt8)):
  ∀ k,k≤ls.length→∀ u∈(sayL hf p c gs (ls.take k)).2,u≠[]:=by
 intro k
 induction k with
 | zero=>intro _ u hu; simp[sayL] at hu
 | succ k ih=>
  intro hk u hu;rw[say_next (by omega)] at hu;unfold sayF at hu
  rcases List.mem_append.1 hu with hu | hu
  ·exact ih (by omega) u hu
  ·rw[List.mem_singleton.1 hu]
   exact line_ne _ (say_keeps (hf:=hf) h h64 hc ls k (by omega)).1
theorem SL.sub {B:Nat} {w:World} {g n cap:Nat} {vs:List Value} (h:SL B w (.slice (some ⟨g,0,none⟩) n cap) vs) (j k cap':Nat) (hk:j+k≤vs.length) (hc:k≤cap') (hm:cap'≤9223372036854775807):
  SL B w (.slice (some ⟨g,j,none⟩) k cap') ((vs.drop j).take k):=by
 obtain ⟨a,cap0,h1,h2,h3,h4⟩:=h;injection h1 with e1 e2 e3;subst e1;have hl:((vs.drop j).take k).length=k:=by simp; omega
 refine ⟨some ⟨g,j,none⟩,cap',by rw[hl],by omega,hm,fun hp=>?_⟩;obtain ⟨b,off,e,hb,hcs⟩:=h4 (by omega);injection e with e;injection e with e1 e2 _;subst e1 e2;refine ⟨g,j,rfl,hb,fun i hi=>?_⟩;have hi':j+i<vs.length:=by omega
 have:=hcs (j+i) hi';rw[List.getElem_take,List.getElem_drop];rw[Nat.zero_add] at this;exact this
theorem OwnS.addr {B:Nat} {w:World} {a:Option Addr} {n cap:Nat} {us:List (List UInt8)} (h:OwnS B w (.slice a n cap) us):(a=none∧cap=0)∨∃ g,a=some ⟨g,0,none⟩:=by
 obtain ⟨_,h1⟩:=h
 rcases h1 with ⟨e,_⟩ | ⟨g,cap,cur,e,_⟩
 ·injection e with e1 e2 e3
  exact .inl ⟨e1,e3⟩
 ·injection e with e1 e2 e3
  exact .inr ⟨g,e1⟩
theorem OwnS.parts {B:Nat} {w:World} {g n cap:Nat} {us:List (List UInt8)} (h:OwnS B w (.slice (some ⟨g,0,none⟩) n cap) us) (k:Nat) (hk:k≤us.length):
  SL B w (.slice (some ⟨g,0,none⟩) k cap) ((us.take k).map strV)∧SL B w (.slice (some ⟨g,k,none⟩) (us.length-k) (cap-k)) ((us.drop k).map strV):=by
 have hs:=h.sl;obtain ⟨_,_,e,h2,h3,_⟩:=id hs;injection e with e1 e2 e3;subst e3;rw[List.length_map] at h2;refine ⟨?_,?_⟩
 ·have:=hs.sub 0 k cap (by simp; omega) (by omega) h3
  rwa [List.drop_zero,←List.map_take] at this
 ·have:=hs.sub k (us.length-k) (cap-k) (by simp; omega) (by omega) (by omega)
  rwa [←List.map_drop,List.take_of_length_le (by simp)] at this
theorem sayB_iff {p c:Int} {gs:List Gs} {ls:List (List UInt8)}:sayB p c gs ls=true↔deskB p c gs=true∧ls.length≤40:=by
 unfold sayB;rw[Bool.and_eq_true,decide_eq_true_iff];exact ⟨fun h=>⟨h.1,by omega⟩,fun h=>⟨h.1,by omega⟩⟩
def MadeT (w:World) (p c:Int) (gs:List Gs) (us:List (List UInt8)) (s t:Value) (wx:World):Prop:=
 Made w p c gs s wx∧∃ b e,t=.slice b us.length e∧OwnS w.heap.size wx (.slice b us.length e) us
theorem MadeT.late {w wC:World} {p c:Int} {gs:List Gs} {us:List (List UInt8)} {a b:Option Addr} {cap e:Nat} (hb:Below w.heap.size w wC) (hr:RG w.heap.size wC (.slice a gs.length cap) gs) (hs:OwnS w.heap.size wC (.slice b us.length e) us):
  MadeT w p c gs us (.pointer (some ⟨wC.heap.size,0,none⟩)) (.slice b us.length e) (wC.alloc (.cells #[.int .i64 p,.int .i64 c,.slice a gs.length cap] 30)):=
 ⟨Made.late hb hr,b,e,rfl,hs.below ((Below.refl _ _).alloc (Nat.le_refl _) _)⟩
theorem MadeT.early {w wC:World} {p c:Int} {gs:List Gs} {us:List (List UInt8)} {a b:Option Addr} {cap e g:Nat} (hb:Below w.heap.size w wC) (hr:RG w.heap.size wC (.slice a gs.length cap) gs) (hs:OwnS w.heap.size wC (.slice b us.length e) us) (hg:w.heap.size≤g)
  (hz:At wC g (.cells #[.int .i64 0,.int .i64 0,.slice none 0 0] 30)):
  MadeT w p c gs us (.pointer (some ⟨g,0,none⟩)) (.slice b us.length e) (((wC.setCell ⟨g,0,none⟩ (.int .i64 p)).setCell ⟨g,1,none⟩ (.int .i64 c)).setCell ⟨g,2,none⟩ (.slice a gs.length cap)):=
 ⟨Made.early hb hr hg hz,b,e,rfl,hs.put3 hz⟩
theorem run_append_strs_nil (w:World) (ty:TypeId) {B:Nat} {v:Value} {n:Nat} {xs:List Value} (hown:w.ownsRow B 9 1 v n xs) (c:Nat):
  (Builtin.append_ #[50,50] ty #[v,.slice none 0 c]).run Tryz.prog w=.ok v w:=by
 obtain ⟨i0,hi,hz0,hz1,hz2⟩:=info_parts infoStr;have ht:=Tryz.underlying50
 rcases hown.2 with ⟨rfl,rfl⟩ | ⟨g,cap,cur,rfl,_,_,hnc,_⟩
 ·simp[Builtin.append_,run_underlying ht,sizeOf,typeInfo,hi,Builtin.lenOf,Builtin.firstCells]
 ·simp[Builtin.append_,run_underlying ht,sizeOf,typeInfo,hi,Builtin.lenOf,Builtin.firstCells,hnc,storeCells]
theorem wpList_wanted {P:Program} {w:World} {ops:Array Oper} {rest:List Oper} {o:Oper} {a:Act} {Q:Exit→Act→World→Prop} (h:Region.wanted o (yielded ops a.tmps)=true)
  (hw:wpList P ops Q ({ o with guard:=none }::rest) a w):wpList P ops Q (o::rest) a w:=by
 unfold wpList at hw ⊢;rw[if_pos h];rw[if_pos (show Region.wanted { o with guard:=none } (yielded ops a.tmps)=true from rfl)] at hw;exact hw
theorem wpList_push_strs (w:World) {ops:Array Oper} {rest:List Oper} {o:Oper} {a:Act} {Q:Exit→Act→World→Prop}
  (hg:o.guard=none) (s x:Operand) (hop:o.op=Op.call { callee:=Callee.builtin Builtin.append,args:=#[s,x],argTypes:=#[50,50] })
  (B C:Nat) (v:Value) (xs:List (List UInt8)) (hs:a.eval s=v) (hown:OwnS B w v xs) (u:Value) (ys:List (List UInt8)) (hx:a.eval x=u) (hu:SL C w u (ys.map strV))
  (hlen:xs.length+ys.length≤1099511627776) (hB:B≤w.heap.size)
  (hK:∀ a' cap' w',OwnS B w' (.slice a' (xs.length+ys.length) cap') (xs++ys)→w.grownBy w' v.ownBlock→wpList Tryz.prog ops Q rest (a.put o.dst (.slice a' (xs.length+ys.length) cap')) w'):
  wpList Tryz.prog ops Q (o::rest) a w:=by
 obtain ⟨i0,hi,hz0,hz1,hz2⟩:=info_parts infoStr;obtain ⟨au,cu,rfl,hcu,hmu,hcells⟩:=strs_opened hu
 rcases au with _ | ad
 ·have hy:ys=[]:=by
   apply List.eq_nil_of_length_eq_zero
   rcases Nat.eq_zero_or_pos ys.length with h0 | h0
   ·exact h0
   ·obtain ⟨g,off,h,_⟩:=hcells h0
    cases h
  subst hy;obtain ⟨av,cv,rfl,_⟩:=own_shape hown;refine wpList_plain hg fun K hK'=>?_
  unfold Oper.wp execOp;simp only[hop,resolve,invoke,builtin,Sem.run_bind,Sem.run_pure,Result.andThen_ok,List.map_toArray,List.map_cons,List.map_nil,hs,hx];have:=run_append_strs_nil w o.type hown cu;simp only[List.length_nil] at this ⊢;rw[this];refine hK' _ _ ?_;have:=hK av cv w (by simpa using hown) (World.grownBy.refl w _)
  simpa using this
 ·refine wpList_append_own w hg s x 50 hop B 9 i0 (.string ⟨#[]⟩) 1 16 Tryz.underlying50 hi hz0 hz1 hz2 rfl (by decide) v xs.length (xs.map strV) hs hown ad ys.length cu (ys.map strV) hx (by simp) ?_ (by intro u hu; obtain ⟨y,_,rfl⟩:=List.mem_map.1 hu; simp[Value.oneCell',strV]) (by unfold maxLen; omega) (by omega) hB ?_
  ·intro j u hj
   have hlt:j<ys.length:=by
    have:=(List.getElem?_eq_some_iff.1 hj).1
    rwa [List.length_map] at this
   have:(ys.map strV)[j]?=some (strV ys[j]):=by rw[List.getElem?_map,List.getElem?_eq_getElem hlt]; rfl
   rw[this] at hj;obtain rfl:=Option.some.inj hj;obtain ⟨b,off,he,_,hc⟩:=hcells (by omega);injection he with he;subst he;have:=hc j hlt
   by_cases h0:j=0
   ·subst h0; simp[Addr.add,strV]
   ·simp[Addr.add,h0,strV,this]
  ·intro v' w' h1 h2 _
   obtain ⟨a',cap',rfl,_⟩:=own_shape h1;refine hK a' cap' w' ?_ h2;unfold OwnS;rw[List.map_append]
   simpa using h1
def DC (x y z:Value):Obj:=.cells #[x,y,z] 30 (0,0)
structure RelD (R:Nat) (x y z:Value) (W W':World):Prop where
 grown:W.grownBy W' (some R)
 box:(∃ x y z,At W R (DC x y z))→∃ x y z,At W' R (DC x y z)
 full:At W R (DC x y z)→At W' R (DC x y z)
theorem RelD.refl (R:Nat) (x y z:Value) (W:World):RelD R x y z W W:=⟨World.grownBy.refl _ _,fun h=>h,fun h=>h⟩
theorem RelD.trans {R:Nat} {x y z:Value} {a b c:World} (h:RelD R x y z a b) (h':RelD R x y z b c):RelD R x y z a c:=
 ⟨grownT h.grown h'.grown,fun q=>h'.box (h.box q),fun q=>h'.full (h.full q)⟩
theorem RelD.of {R:Nat} {x y z:Value} {W W':World} (h:Below W.heap.size W W'):RelD R x y z W W':=⟨grownR h,fun ⟨x,y,z,q⟩=>⟨x,y,z,q.below h⟩,fun q=>q.below h⟩
theorem RelD.store {R:Nat} {x y z x' y' z':Value} {W:World} (h:At W R (DC x' y' z')):
  RelD R x y z W (((W.setCell ⟨R,0,none⟩ x).setCell ⟨R,1,none⟩ y).setCell ⟨R,2,none⟩ z)∧At (((W.setCell ⟨R,0,none⟩ x).setCell ⟨R,1,none⟩ y).setCell ⟨R,2,none⟩ z) R (DC x y z):=by
 have q1:=heap_setCell_same _ _ 0 _ _ x h;have q2:=heap_setCell_same _ _ 1 _ _ y q1;have q3:At (((W.setCell ⟨R,0,none⟩ x).setCell ⟨R,1,none⟩ y).setCell ⟨R,2,none⟩ z) R (DC x y z):=heap_setCell_same _ _ 2 _ _ z q2;exact ⟨⟨grownT (grownT (grownBy_setCell W ⟨R,0,none⟩ x) (grownBy_setCell (W.setCell ⟨R,0,none⟩ x) ⟨R,1,none⟩ y)) (grownBy_setCell ((W.setCell ⟨R,0,none⟩ x).setCell ⟨R,1,none⟩ y) ⟨R,2,none⟩ z),fun _=>⟨x,y,z,q3⟩,fun _=>q3⟩,q3⟩
theorem cell_grown {R G i:Nat} {W W':World} {v:Value} (hg:W.grownBy W' (some R)) (hne:G≠R) (h:W.cell? ⟨G,i,none⟩=some v):W'.cell? ⟨G,i,none⟩=some v:=by
 rw[World.cell?_of_block (w:=W) (hg.block G (World.block_lt_of_cell? W _ h) (fun e=>hne (by injection e)))];exact h
theorem WordsAt.grown {R g:Nat} {us:List (List UInt8)} {W W':World} (h:WordsAt g us W) (hg:W.grownBy W' (some R)) (hne:g≠R):WordsAt g us W':=⟨fun k hk=>cell_grown hg hne (h.cell k hk),h.len⟩
theorem line_out {w W:World} {R:Nat} {p c:Int} {gs:List Gs} {a3:Option Addr} {c3:Nat} (l:List UInt8) (h:At W R (DC (.int .i64 p) (.int .i64 c) (.slice a3 gs.length c3))) (ho:OwnG w.heap.size W (.slice a3 gs.length c3) gs) (hb:Below w.heap.size w W):
  SayOut p c gs l w (.returned (.tuple #[dkV p c (.slice a3 gs.length c3),strV l])) W:=by
 obtain ⟨q1,q2⟩:=ho.caps;exact ⟨a3,c3,c3,rfl,q1,q2,ho,hb⟩
set_option maxHeartbeats 8000000 in
theorem lineS_deed {B:Nat} (p c:Int) (v:Value) (gs:List Gs) (l:List UInt8) (d:Dd) (w:World) (h:RG B w v gs) (hl:l.length≤2000000) (hd:readD l=some d) (hok:deskB p c gs=true) (hc:∀ g∈gs,g.code.length≤2000000):
  Calls Tryz.prog 21 #[dkV p c v,strV l] w (SayOut p c (doneG p c gs d).1 (if (doneG p c gs d).2=true then wOk else wNo) w):=by
 have HRG:=hdd h;have HC:=hdd hc;have hlen:=deskB_len hok;obtain ⟨a,cap,rfl⟩:=h.shape;obtain ⟨w1,hw1⟩:∃ w1,w1=(w.alloc (.cells #[.int .i64 p,.int .i64 c,.slice a gs.length cap] 30)).alloc (.cells #[.int .i64 0,.int .i64 0,.slice none 0 0] 30):=⟨_,rfl⟩
 have hb1:Below w.heap.size w w1:=by rw[hw1]; exact ((Below.refl _ _).alloc (Nat.le_refl _) _).alloc (by simp) _
 have hs1:w1.heap.size=w.heap.size+2:=by rw[hw1]; simp
 have hz0:At w1 w.heap.size (.cells #[.int .i64 p,.int .i64 c,.slice a gs.length cap] 30):=by
  rw[hw1]; exact (At.new w _).below ((Below.refl _ _).alloc (Nat.le_refl _) _)
 have hz1:At w1 (w.heap.size+1) (.cells #[.int .i64 0,.int .i64 0,.slice none 0 0] 30):=by
  rw[hw1]; have q:=At.new (w.alloc (.cells #[.int .i64 p,.int .i64 c,.slice a gs.length cap] 30)) (.cells #[.int .i64 0,.int .i64 0,.slice none 0 0] 30); rw[World.size_alloc] at q; exact q
 have hK:=deskOkS_any p c _ gs w1 (HRG.out.below hb1).toGL;rw[hok] at hK;have HB1:=hdd hb1;have HS1:=hdd hs1;have HZ0:=hdd hz0;have HZ1:=hdd hz1;obtain ⟨hd1,hd2⟩:=rd_some hd;have hcode:=rd_code l;rw[hd1] at hcode;have HRD:=hdd (And.intro hd1 hd2);obtain ⟨b,ys,r,n⟩:=d;simp only at hcode;have hy3:=hcode.1;have HY64:=hdd (show ∀ y∈ys,In64 y from fun y hy=>by have:=hcode.2 y hy; unfold In64; omega);have HDO:=hdd (fun W a2 k2 (q:RG B W (.slice a gs.length cap) gs) (hu:Ints 0 W (.slice a2 ys.length k2) ys)=>(deskDoS_any p c _ gs b _ ys r n W q.toGL hu hc (by omega)).mono (fun e w' (z:DoRes p c gs ⟨b,ys,r,n⟩ W e w')=>show DoOut p c (doneG p c gs ⟨b,ys,r,n⟩).1 (doneG p c gs ⟨b,ys,r,n⟩).2 W e w' by unfold DoRes at z; rwa [if_pos hok] at z));obtain ⟨gs',hgs'⟩:∃ z,z=(doneG p c gs ⟨b,ys,r,n⟩).1:=⟨_,rfl⟩
 obtain ⟨ok,hokk⟩:∃ z,z=(doneG p c gs ⟨b,ys,r,n⟩).2:=⟨_,rfl⟩
 rw[←hgs',←hokk] at HDO;rw[←hgs',←hokk];obtain ⟨an,han⟩:∃ z,z=(if ok=true then wOk else wNo):=⟨_,rfl⟩
 rw[←han];have HAN:=hdd han;clear hcode hgs' hokk han;unfold dkV at hK;unfold dkV strV;obtain ⟨x0,x1,x2⟩:=hz0.three;clear h hc hb1 hs1 hz0 hz1 hok hd hd1 hd2;go_enter Tryz.func21,Tryz.ntmps21;go_wp2_with fail;rw[←hw1];clear hw1;refine hK.mono ?_;rintro e w2 ⟨rfl,hb2⟩;have HB2:=hdd (HB1.out.trans (hb2.mono HB1.out.size));have HB12:=hdd hb2;have hCP:=copS_any p c _ gs w2 (HRG.out.below HB2.out).toGL (by omega) HC.out;unfold dkV at hCP;clear hK hb2 x0 x1 x2;obtain ⟨x0,x1,x2⟩:=(HZ0.out.below HB12.out).three;go_wp2_with fail;refine hCP.mono ?_;rintro e w3 ⟨a3,c3,rfl,ho3,hb3⟩;unfold dkV;obtain ⟨w4,hw4⟩:∃ z,z=w3.alloc (.cells #[.int .i64 p,.int .i64 c,.slice a3 gs.length c3] 30):=⟨_,rfl⟩
 have hb34:Below w3.heap.size w3 w4:=by rw[hw4]; exact (Below.refl _ _).alloc (Nat.le_refl _) _
 have HZ6:=hdd (show At w4 w3.heap.size (.cells #[.int .i64 p,.int .i64 c,.slice a3 gs.length c3] 30) by rw[hw4]; exact At.new w3 _);have HB14:=hdd (HB12.out.trans ((hb3.trans (hb34.mono hb3.size)).mono HB12.out.size));have HB4:=hdd (HB1.out.trans (HB14.out.mono HB1.out.size));have HO4:=hdd (show OwnG w2.heap.size w4 (.slice a3 gs.length c3) gs from ho3.below hb34);have hI:=readDeedS_any l w4 (by omega);unfold ReadOut at hI;rw[HRD.out.1,HRD.out.2] at hI;simp only at hI;unfold strV dV at hI;have HG6:=hdd (show w.heap.size+1<w3.heap.size by have:=HS1.out; have:=HB12.out.size; have:=hb3.size; omega);have HR2:=hdd (show w.heap.size+1<w2.heap.size by have:=HS1.out; have:=HB12.out.size; omega);clear hCP ho3 hb3 hb34 x0 x1 x2;go_wp2_with fail;rw[←hw4];clear hw4;refine hI.mono ?_;rintro e w5 ⟨a5,k5,rfl,ho5,hb5⟩;obtain ⟨w6,hw6⟩:∃ z,z=w5.alloc (.cells #[.bool b,.slice a5 ys.length k5,.int .i64 r,.int .i64 n] 41):=⟨_,rfl⟩
 have hb56:Below w5.heap.size w5 w6:=by rw[hw6]; exact (Below.refl _ _).alloc (Nat.le_refl _) _
 have HB46:=hdd (hb5.trans (hb56.mono hb5.size));have HB16:=hdd (HB14.out.trans (HB46.out.mono HB14.out.size));have HB6:=hdd (HB1.out.trans (HB16.out.mono HB1.out.size));have HZ7:=hdd (show At w6 w5.heap.size (.cells #[.bool b,.slice a5 ys.length k5,.int .i64 r,.int .i64 n] 41) by rw[hw6]; exact At.new w5 _);have HU6:=hdd (show Ints 0 w6 (.slice a5 ys.length k5) ys from ((ho5.below hb56).toInts HY64.out).mono (Nat.zero_le _));clear hI ho5 hb5 hb56;go_upto_region 5 with fail;rw[←hw6];clear hw6;have hD:=HDO.out w6 a5 k5 (HRG.out.below HB6.out) HU6.out;unfold dkV dV DoOut dkV at hD;obtain ⟨x0,x1,x2⟩:=(HZ0.out.below HB16.out).three;obtain ⟨y0,y1,y2,y3⟩:=HZ7.out.four;go_wp2_with fail;refine hD.mono ?_;rintro e w7 ⟨a7,c7,k7,rfl,q1,q2,ho7,hb7⟩;obtain ⟨w8,hw8⟩:∃ z,z=w7.alloc (.cells #[.int .i64 p,.int .i64 c,.slice a7 gs'.length k7] 30):=⟨_,rfl⟩
 have hb78:Below w7.heap.size w7 w8:=by rw[hw8]; exact (Below.refl _ _).alloc (Nat.le_refl _) _
 have HZ9:=hdd (show At w8 w7.heap.size (.cells #[.int .i64 p,.int .i64 c,.slice a7 gs'.length k7] 30) by rw[hw8]; exact At.new w7 _);have HB68:=hdd (hb7.trans (hb78.mono hb7.size));have HB8:=hdd (HB6.out.trans (HB68.out.mono HB6.out.size));have HR8:=hdd (HZ1.out.below (HB16.out.trans (HB68.out.mono HB16.out.size)));have HO8:=hdd (show OwnG w.heap.size w8 (.slice a7 gs'.length c7) gs' from (ho7.below hb78).mono HB6.out.size);clear hD ho7 hb7 hb78 x0 x1 x2 y0 y1 y2 y3;go_upto_region 7 with fail;rw[←hw8];clear hw8;obtain ⟨x0,x1,x2⟩:=HZ9.out.three;obtain ⟨r0,r1,r2,rf⟩:=zero_cells HR8.out
 cases ok
 ·have ha:=HAN.out
  rw[if_neg (by simp)] at ha;subst ha;clear HAN;have HF:=hdd (say_ret (w:=w) (p:=p) (c:=c) wNo HR8.out (by omega) HO8.out HB8.out q1 q2);go_wp2
  ((try simp only[Exit.inBlock,Exit.then]); refine bodyPost_ret (results_cell_tmp rfl _ _ (w.heap.size+1) _ _ (0,0) _ rfl HF.out.2 Tryz.underlying30 rfl (by kernel_rfl)) rfl ?_)
  exact HF.out.1
 ·have ha:=HAN.out
  rw[if_pos rfl] at ha;subst ha;clear HAN;have HF:=hdd (say_ret (w:=w) (p:=p) (c:=c) wOk HR8.out (by omega) HO8.out HB8.out q1 q2);go_wp2
  ((try simp only[Exit.inBlock,Exit.then]); refine bodyPost_ret (results_cell_tmp rfl _ _ (w.heap.size+1) _ _ (0,0) _ rfl HF.out.2 Tryz.underlying30 rfl (by kernel_rfl)) rfl ?_)
  exact HF.out.1
set_option maxHeartbeats 8000000 in
theorem lineS_fit {B:Nat} (p c:Int) (v:Value) (gs:List Gs) (l:List UInt8) (w:World) (h:RG B w v gs) (hl:l.length≤2000000) (hd:readD l=none) (hok:deskB p c gs=true) (hc:∀ g∈gs,g.code.length≤2000000) (b1:(l==[102,105,116])=true):
  Calls Tryz.prog 21 #[dkV p c v,strV l] w (SayOut p c gs (Lib.decDigits (fitL p c gs).length) w):=by
 have HRG:=hdd h;have HC:=hdd hc;have hlen:=deskB_len hok;obtain ⟨a,cap,rfl⟩:=h.shape;obtain ⟨w1,hw1⟩:∃ w1,w1=(w.alloc (.cells #[.int .i64 p,.int .i64 c,.slice a gs.length cap] 30)).alloc (.cells #[.int .i64 0,.int .i64 0,.slice none 0 0] 30):=⟨_,rfl⟩
 have hb1:Below w.heap.size w w1:=by rw[hw1]; exact ((Below.refl _ _).alloc (Nat.le_refl _) _).alloc (by simp) _
 have hs1:w1.heap.size=w.heap.size+2:=by rw[hw1]; simp
 have hz0:At w1 w.heap.size (.cells #[.int .i64 p,.int .i64 c,.slice a gs.length cap] 30):=by
  rw[hw1]; exact (At.new w _).below ((Below.refl _ _).alloc (Nat.le_refl _) _)
 have hz1:At w1 (w.heap.size+1) (.cells #[.int .i64 0,.int .i64 0,.slice none 0 0] 30):=by
  rw[hw1]; have q:=At.new (w.alloc (.cells #[.int .i64 p,.int .i64 c,.slice a gs.length cap] 30)) (.cells #[.int .i64 0,.int .i64 0,.slice none 0 0] 30); rw[World.size_alloc] at q; exact q
 have hK:=deskOkS_any p c _ gs w1 (HRG.out.below hb1).toGL;rw[hok] at hK;have HB1:=hdd hb1;have HS1:=hdd hs1;have HZ0:=hdd hz0;have HZ1:=hdd hz1;have HRD:=hdd (rd_none hd);have HF3:=hdd (fun W (q:RG B W (.slice a gs.length cap) gs)=>fitS_any p c _ gs W q.toGL);have HFL:=hdd (fitL_len p c gs);obtain ⟨L,hL⟩:∃ L,L=fitL p c gs:=⟨_,rfl⟩
 rw[←hL] at HF3 HFL ⊢;have HT3:=hdd (fun W=>l1NumN L.length W (by have:=HFL.out; omega));obtain ⟨an,han⟩:∃ an,an=Lib.decDigits L.length:=⟨_,rfl⟩
 rw[←han] at HT3 ⊢;unfold strV at HT3;clear han hL;unfold dkV at hK;unfold dkV strV;obtain ⟨x0,x1,x2⟩:=hz0.three;clear h hc hb1 hs1 hz0 hz1 hok hd;go_enter Tryz.func21,Tryz.ntmps21;go_wp2_with fail;rw[←hw1];clear hw1;refine hK.mono ?_;rintro e w2 ⟨rfl,hb2⟩;have HB2:=hdd (HB1.out.trans (hb2.mono HB1.out.size));have HB12:=hdd hb2;have hCP:=copS_any p c _ gs w2 (HRG.out.below HB2.out).toGL (by omega) HC.out;unfold dkV at hCP;clear hK hb2 x0 x1 x2;obtain ⟨x0,x1,x2⟩:=(HZ0.out.below HB12.out).three;go_wp2_with fail;refine hCP.mono ?_;rintro e w3 ⟨a3,c3,rfl,ho3,hb3⟩;unfold dkV;obtain ⟨w4,hw4⟩:∃ z,z=w3.alloc (.cells #[.int .i64 p,.int .i64 c,.slice a3 gs.length c3] 30):=⟨_,rfl⟩
 have hb34:Below w3.heap.size w3 w4:=by rw[hw4]; exact (Below.refl _ _).alloc (Nat.le_refl _) _
 have HZ6:=hdd (show At w4 w3.heap.size (.cells #[.int .i64 p,.int .i64 c,.slice a3 gs.length c3] 30) by rw[hw4]; exact At.new w3 _);have HB14:=hdd (HB12.out.trans ((hb3.trans (hb34.mono hb3.size)).mono HB12.out.size));have HB4:=hdd (HB1.out.trans (HB14.out.mono HB1.out.size));have HO4:=hdd (show OwnG w2.heap.size w4 (.slice a3 gs.length c3) gs from ho3.below hb34);have hI:=readDeedS_any l w4 (by omega);unfold ReadOut at hI;rw[HRD.out.1,HRD.out.2] at hI;simp only[List.length_nil] at hI;unfold strV dV at hI;have HG6:=hdd (show w.heap.size+1<w3.heap.size by have:=HS1.out; have:=HB12.out.size; have:=hb3.size; omega);have HR2:=hdd (show w.heap.size+1<w2.heap.size by have:=HS1.out; have:=HB12.out.size; omega);clear hCP ho3 hb3 hb34 x0 x1 x2;go_wp2_with fail;rw[←hw4];clear hw4;refine hI.mono ?_;rintro e w5 ⟨a5,k5,rfl,ho5,hb5⟩;obtain ⟨w6,hw6⟩:∃ z,z=w5.alloc (.cells #[.bool false,.slice a5 0 k5,.int .i64 0,.int .i64 0] 41):=⟨_,rfl⟩
 have hb56:Below w5.heap.size w5 w6:=by rw[hw6]; exact (Below.refl _ _).alloc (Nat.le_refl _) _
 have HB46:=hdd (hb5.trans (hb56.mono hb5.size));have HB16:=hdd (HB14.out.trans (HB46.out.mono HB14.out.size));have HB6:=hdd (HB1.out.trans (HB16.out.mono HB1.out.size));clear hI ho5 hb5 hb56;go_upto_region 5 with fail;rw[←hw6];clear hw6;obtain ⟨x0,x1,x2⟩:=(HZ0.out.below HB16.out).three
 skip
 have HC2:=hdd (HZ0.out.below HB16.out).three;have HC6:=hdd (HZ6.out.below HB46.out).three;have HBX:=hdd (HZ1.out.below HB16.out);have HBX6:=hdd HB6.out;have HOX:=hdd (HO4.out.below HB46.out);have HRGW:=hdd (fun W (q:RelD (w.heap.size+1) (.int .i64 p) (.int .i64 c) (.slice a3 gs.length c3) w6 W)=>HRG.out.below (HBX6.out.grown q.grown HBX6.out.size (fun k hk=>by injection hk; omega)));clear x0 x1 x2;go_wp2;refine wp_region_invN (Rel:=RelD (w.heap.size+1) (.int .i64 p) (.int .i64 c) (.slice a3 gs.length c3)) 10 0 (fun a b c=>RelD.trans) (fun w=>RelD.of (Below.refl _ _).drew) (by kernel_rfl) (fun k=>(#[38,39,40,41,42,43,44,45,46,47,1000,5]:Array Nat).getD k 0) 74
  (fun k v W=>match k with
   | 0=>v=.agg #[.int .i64 p,.int .i64 c,.slice a3 gs.length c3]
   | 1=>v=.pointer (some ⟨w.heap.size,0,none⟩)
   | 2=>v=.int .i64 p
   | 3=>v=.pointer (some ⟨w.heap.size,1,none⟩)
   | 4=>v=.int .i64 c
   | 5=>v=.pointer (some ⟨w.heap.size,2,none⟩)
   | 6=>v=.slice a gs.length cap
   | 7=>∃ a4 c4,v=.slice a4 L.length c4
   | 8=>v=.int .i64 (L.length:Nat)
   | 9=>v=.string ⟨an.toArray⟩
   | 10=>At W (w.heap.size+1) (DC (.int .i64 p) (.int .i64 c) (.slice a3 gs.length c3))
   | 11=>v=.string ⟨an.toArray⟩
   | _=>False) ?sz ?chk ?mono ?step ?fin
 case sz=>rfl
 case chk=>kernel_rfl
 case mono=>
  intro k v W W' h hb
  match k,h with
  | 0,h=>exact h
  | 1,h=>exact h
  | 2,h=>exact h
  | 3,h=>exact h
  | 4,h=>exact h
  | 5,h=>exact h
  | 6,h=>exact h
  | 7,h=>exact h
  | 8,h=>exact h
  | 9,h=>exact h
  | 10,h=>exact hb.full h
  | 11,h=>exact h
 case step=>
  intro i o ho A W hW hA hD K hK
  match i,ho with
  | 0,ho=>
   obtain rfl:=Option.some.inj ho;have e6:A.tmps.getD 6 undef=.pointer (some ⟨w3.heap.size,0,none⟩):=(hA 6 (by kernel_rfl)).trans rfl;have e6':=gDq e6;have HK:=hdd (show ∀ v W',RelD (w.heap.size+1) (.int .i64 p) (.int .i64 c) (.slice a3 gs.length c3) W W'→(v=.agg #[.int .i64 p,.int .i64 c,.slice a3 gs.length c3])→K (A.put (some 38) v) W' from fun v W' h1 h2=>hK.out v W' h1 h2 (fun q=>absurd q (by decide)));have HW:=hdd hW;have y0:=cell_grown hW.grown (by have:=HG6.out; omega) HC6.out.1;have y1:=cell_grown hW.grown (by have:=HG6.out; omega) HC6.out.2.1;have y2:=cell_grown hW.grown (by have:=HG6.out; omega) HC6.out.2.2;clear hA hD hK hW;go_simp;exact HK.out _ _ (RelD.refl _ _ _ _ _) rfl
  | 1,ho=>
   obtain rfl:=Option.some.inj ho;have e2:A.tmps.getD 2 undef=.pointer (some ⟨w.heap.size,0,none⟩):=(hA 2 (by kernel_rfl)).trans rfl;have e2':=gDq e2;have HK:=hdd (show ∀ v W',RelD (w.heap.size+1) (.int .i64 p) (.int .i64 c) (.slice a3 gs.length c3) W W'→(v=.pointer (some ⟨w.heap.size,0,none⟩))→K (A.put (some 39) v) W' from fun v W' h1 h2=>hK.out v W' h1 h2 (fun q=>absurd q (by decide)));have HW:=hdd hW;clear hA hD hK hW;go_simp;exact HK.out _ _ (RelD.refl _ _ _ _ _) rfl
  | 2,ho=>
   obtain rfl:=Option.some.inj ho;have d1:A.tmps.getD 39 undef=.pointer (some ⟨w.heap.size,0,none⟩):=hD 1 (by decide) (by kernel_rfl);have HK:=hdd (show ∀ v W',RelD (w.heap.size+1) (.int .i64 p) (.int .i64 c) (.slice a3 gs.length c3) W W'→(v=.int .i64 p)→K (A.put (some 40) v) W' from fun v W' h1 h2=>hK.out v W' h1 h2 (fun q=>absurd q (by decide)));have HW:=hdd hW;have y0:=cell_grown hW.grown (by omega) HC2.out.1;clear hA hD hK hW;have d1':=gDq d1;go_simp;exact HK.out _ _ (RelD.refl _ _ _ _ _) rfl
  | 3,ho=>
   obtain rfl:=Option.some.inj ho;have e2:A.tmps.getD 2 undef=.pointer (some ⟨w.heap.size,0,none⟩):=(hA 2 (by kernel_rfl)).trans rfl;have e2':=gDq e2;have HK:=hdd (show ∀ v W',RelD (w.heap.size+1) (.int .i64 p) (.int .i64 c) (.slice a3 gs.length c3) W W'→(v=.pointer (some ⟨w.heap.size,1,none⟩))→K (A.put (some 41) v) W' from fun v W' h1 h2=>hK.out v W' h1 h2 (fun q=>absurd q (by decide)));have HW:=hdd hW;clear hA hD hK hW;go_simp;exact HK.out _ _ (RelD.refl _ _ _ _ _) rfl
  | 4,ho=>
   obtain rfl:=Option.some.inj ho;have d3:A.tmps.getD 41 undef=.pointer (some ⟨w.heap.size,1,none⟩):=hD 3 (by decide) (by kernel_rfl);have HK:=hdd (show ∀ v W',RelD (w.heap.size+1) (.int .i64 p) (.int .i64 c) (.slice a3 gs.length c3) W W'→(v=.int .i64 c)→K (A.put (some 42) v) W' from fun v W' h1 h2=>hK.out v W' h1 h2 (fun q=>absurd q (by decide)));have HW:=hdd hW;have y0:=cell_grown hW.grown (by omega) HC2.out.2.1;clear hA hD hK hW;have d3':=gDq d3;go_simp;exact HK.out _ _ (RelD.refl _ _ _ _ _) rfl
  | 5,ho=>
   obtain rfl:=Option.some.inj ho;have e2:A.tmps.getD 2 undef=.pointer (some ⟨w.heap.size,0,none⟩):=(hA 2 (by kernel_rfl)).trans rfl;have e2':=gDq e2;have HK:=hdd (show ∀ v W',RelD (w.heap.size+1) (.int .i64 p) (.int .i64 c) (.slice a3 gs.length c3) W W'→(v=.pointer (some ⟨w.heap.size,2,none⟩))→K (A.put (some 43) v) W' from fun v W' h1 h2=>hK.out v W' h1 h2 (fun q=>absurd q (by decide)));have HW:=hdd hW;clear hA hD hK hW;go_simp;exact HK.out _ _ (RelD.refl _ _ _ _ _) rfl
  | 6,ho=>
   obtain rfl:=Option.some.inj ho;have d5:A.tmps.getD 43 undef=.pointer (some ⟨w.heap.size,2,none⟩):=hD 5 (by decide) (by kernel_rfl);have HK:=hdd (show ∀ v W',RelD (w.heap.size+1) (.int .i64 p) (.int .i64 c) (.slice a3 gs.length c3) W W'→(v=.slice a gs.length cap)→K (A.put (some 44) v) W' from fun v W' h1 h2=>hK.out v W' h1 h2 (fun q=>absurd q (by decide)));have HW:=hdd hW;have y0:=cell_grown hW.grown (by omega) HC2.out.2.2;clear hA hD hK hW;have d5':=gDq d5;go_simp;exact HK.out _ _ (RelD.refl _ _ _ _ _) rfl
  | 7,ho=>
   obtain rfl:=Option.some.inj ho;have d2:A.tmps.getD 40 undef=.int .i64 p:=hD 2 (by decide) (by kernel_rfl);have d4:A.tmps.getD 42 undef=.int .i64 c:=hD 4 (by decide) (by kernel_rfl);have d6:A.tmps.getD 44 undef=.slice a gs.length cap:=hD 6 (by decide) (by kernel_rfl);have HK:=hdd (show ∀ v W',RelD (w.heap.size+1) (.int .i64 p) (.int .i64 c) (.slice a3 gs.length c3) W W'→(∃ a4 c4,v=.slice a4 L.length c4)→K (A.put (some 45) v) W' from fun v W' h1 h2=>hK.out v W' h1 h2 (fun q=>absurd q (by decide)));have HW:=hdd hW;clear hA hD hK hW;have d2':=gDq d2;have d4':=gDq d4;have d6':=gDq d6;go_simp;refine (HF3.out W (HRGW.out W HW.out)).mono ?_;rintro e W' ⟨a4,c4,rfl,_,hb⟩;exact HK.out _ _ (RelD.of hb) ⟨a4,c4,rfl⟩
  | 8,ho=>
   obtain rfl:=Option.some.inj ho;have d7:∃ a4 c4,(A.tmps.getD 45 undef)=.slice a4 L.length c4:=hD 7 (by decide) (by kernel_rfl);have HK:=hdd (show ∀ v W',RelD (w.heap.size+1) (.int .i64 p) (.int .i64 c) (.slice a3 gs.length c3) W W'→(v=.int .i64 (L.length:Nat))→K (A.put (some 46) v) W' from fun v W' h1 h2=>hK.out v W' h1 h2 (fun q=>absurd q (by decide)));have HW:=hdd hW;clear hA hD hK hW;obtain ⟨v7,hv7⟩:∃ z,A.tmps.getD 45 undef=z:=⟨_,rfl⟩
   rw[hv7] at d7;have hv7':=gDq hv7;obtain ⟨a4,c4,rfl⟩:=d7;go_simp;exact HK.out _ _ (RelD.refl _ _ _ _ _) rfl
  | 9,ho=>
   obtain rfl:=Option.some.inj ho;have d8:A.tmps.getD 46 undef=.int .i64 (L.length:Nat):=hD 8 (by decide) (by kernel_rfl);have HK:=hdd (show ∀ v W',RelD (w.heap.size+1) (.int .i64 p) (.int .i64 c) (.slice a3 gs.length c3) W W'→(v=.string ⟨an.toArray⟩)→K (A.put (some 47) v) W' from fun v W' h1 h2=>hK.out v W' h1 h2 (fun q=>absurd q (by decide)));have HW:=hdd hW;clear hA hD hK hW;have d8':=gDq d8;go_simp;refine (HT3.out W).mono ?_;rintro e W' ⟨rfl,hb⟩;exact HK.out _ _ (RelD.of hb) rfl
  | 10,ho=>
   obtain rfl:=Option.some.inj ho;have e4:A.tmps.getD 4 undef=.pointer (some ⟨w.heap.size+1,0,none⟩):=(hA 4 (by kernel_rfl)).trans rfl;have e4':=gDq e4;have d0:A.tmps.getD 38 undef=.agg #[.int .i64 p,.int .i64 c,.slice a3 gs.length c3]:=hD 0 (by decide) (by kernel_rfl);have HK:=hdd (show ∀ W',RelD (w.heap.size+1) (.int .i64 p) (.int .i64 c) (.slice a3 gs.length c3) W W'→(At W' (w.heap.size+1) (DC (.int .i64 p) (.int .i64 c) (.slice a3 gs.length c3)))→K A W' from fun W' h1 h2=>hK.out _ W' h1 h2 (fun _=>rfl));have HW:=hdd hW;obtain ⟨x',y',z',hat⟩:=hW.box ⟨_,_,_,HBX.out⟩;obtain ⟨z0,z1,z2⟩:=At.three hat;have hth:=At.thaw hat;have HST:=hdd (RelD.store (x:=.int .i64 p) (y:=.int .i64 c) (z:=.slice a3 gs.length c3) hat);clear hat;clear hA hD hK hW;have d0':=gDq d0;go_simp;exact HK.out _ HST.out.1 HST.out.2
  | 11,ho=>
   obtain rfl:=Option.some.inj ho;have d9:A.tmps.getD 47 undef=.string ⟨an.toArray⟩:=hD 9 (by decide) (by kernel_rfl);have HK:=hdd (show ∀ v W',RelD (w.heap.size+1) (.int .i64 p) (.int .i64 c) (.slice a3 gs.length c3) W W'→(v=.string ⟨an.toArray⟩)→K (A.put (some 5) v) W' from fun v W' h1 h2=>hK.out v W' h1 h2 (fun q=>absurd q (by decide)));have HW:=hdd hW;clear hA hD hK hW;have d9':=gDq d9;go_simp;exact HK.out _ _ (RelD.refl _ _ _ _ _) rfl
  | n+12,ho=>
   simp at ho
 case fin=>
  intro vs W hW h hce;have h0:vs 11=.string ⟨an.toArray⟩:=h 11 (by decide);have hat:At W (w.heap.size+1) (DC (.int .i64 p) (.int .i64 c) (.slice a3 gs.length c3)):=h 10 (by decide);have HAT:=hdd hat;have HF:=hdd (line_out (w:=w) an hat ((HOX.out.keep (Above.of_grown hW.grown HR2.out)).mono HB2.out.size) (HBX6.out.grown hW.grown HBX6.out.size (fun k hk=>by injection hk; omega)));rw[invA_lit [none,none,none,none,none,some 11,none,none,none,none,none,none,none,none,none,none,none,none,none,none,none,none,none,none,none,none,none,none,none,none,none,none,none,none,none,none,none,none,some 0,some 1,some 2,some 3,some 4,some 5,some 6,some 7,some 8,some 9,none,none,none,none,none,none,none,none,none,none,none,none,none,none,none,none,none,none,none,none,none,none,none,none,none,none] (by kernel_rfl) rfl];simp only[List.zipWith_cons_cons,List.zipWith_nil_left];rw[h0];clear h h0 hW hat hce;go_wp2
  ((try simp only[Exit.inBlock,Exit.then]); refine bodyPost_ret (results_cell_tmp rfl _ _ (w.heap.size+1) _ _ (0,0) _ rfl HAT.out Tryz.underlying30 rfl (by kernel_rfl)) rfl ?_)
  exact HF.out
set_option maxHeartbeats 8000000 in
theorem lineS_next {B:Nat} (p c:Int) (v:Value) (gs:List Gs) (l:List UInt8) (w:World) (h:RG B w v gs) (hl:l.length≤2000000) (hd:readD l=none) (hok:deskB p c gs=true) (hc:∀ g∈gs,g.code.length≤2000000) (b1:(l==[102,105,116])=false) (b2:(l==[110,101,120,116])=true):
  Calls Tryz.prog 21 #[dkV p c v,strV l] w (SayOut p c gs (dgs (nextL (fitL p c gs))) w):=by
 have HRG:=hdd h;have HC:=hdd hc;have hlen:=deskB_len hok;obtain ⟨a,cap,rfl⟩:=h.shape;obtain ⟨w1,hw1⟩:∃ w1,w1=(w.alloc (.cells #[.int .i64 p,.int .i64 c,.slice a gs.length cap] 30)).alloc (.cells #[.int .i64 0,.int .i64 0,.slice none 0 0] 30):=⟨_,rfl⟩
 have hb1:Below w.heap.size w w1:=by rw[hw1]; exact ((Below.refl _ _).alloc (Nat.le_refl _) _).alloc (by simp) _
 have hs1:w1.heap.size=w.heap.size+2:=by rw[hw1]; simp
 have hz0:At w1 w.heap.size (.cells #[.int .i64 p,.int .i64 c,.slice a gs.length cap] 30):=by
  rw[hw1]; exact (At.new w _).below ((Below.refl _ _).alloc (Nat.le_refl _) _)
 have hz1:At w1 (w.heap.size+1) (.cells #[.int .i64 0,.int .i64 0,.slice none 0 0] 30):=by
  rw[hw1]; have q:=At.new (w.alloc (.cells #[.int .i64 p,.int .i64 c,.slice a gs.length cap] 30)) (.cells #[.int .i64 0,.int .i64 0,.slice none 0 0] 30); rw[World.size_alloc] at q; exact q
 have hK:=deskOkS_any p c _ gs w1 (HRG.out.below hb1).toGL;rw[hok] at hK;have HB1:=hdd hb1;have HS1:=hdd hs1;have HZ0:=hdd hz0;have HZ1:=hdd hz1;have HRD:=hdd (rd_none hd);have HF3:=hdd (fun W (q:RG B W (.slice a gs.length cap) gs)=>nextS_any p c _ gs W q.toGL);have HD3:=hdd (next_digits hok);unfold NextOut at HF3;obtain ⟨L,hL⟩:∃ L,L=nextL (fitL p c gs):=⟨_,rfl⟩
 rw[←hL] at HF3 HD3 ⊢;obtain ⟨kb,hkb⟩:∃ kb,kb=decide (0<(fitL p c gs).length):=⟨_,rfl⟩
 rw[←hkb] at HF3;obtain ⟨an,han⟩:∃ an,an=dgs L:=⟨_,rfl⟩
 have HAN:=hdd han;rw[←han];clear han hL hkb;unfold dkV at hK;unfold dkV strV;obtain ⟨x0,x1,x2⟩:=hz0.three;clear h hc hb1 hs1 hz0 hz1 hok hd;go_enter Tryz.func21,Tryz.ntmps21;go_wp2_with fail;rw[←hw1];clear hw1;refine hK.mono ?_;rintro e w2 ⟨rfl,hb2⟩;have HB2:=hdd (HB1.out.trans (hb2.mono HB1.out.size));have HB12:=hdd hb2;have hCP:=copS_any p c _ gs w2 (HRG.out.below HB2.out).toGL (by omega) HC.out;unfold dkV at hCP;clear hK hb2 x0 x1 x2;obtain ⟨x0,x1,x2⟩:=(HZ0.out.below HB12.out).three;go_wp2_with fail;refine hCP.mono ?_;rintro e w3 ⟨a3,c3,rfl,ho3,hb3⟩;unfold dkV;obtain ⟨w4,hw4⟩:∃ z,z=w3.alloc (.cells #[.int .i64 p,.int .i64 c,.slice a3 gs.length c3] 30):=⟨_,rfl⟩
 have hb34:Below w3.heap.size w3 w4:=by rw[hw4]; exact (Below.refl _ _).alloc (Nat.le_refl _) _
 have HZ6:=hdd (show At w4 w3.heap.size (.cells #[.int .i64 p,.int .i64 c,.slice a3 gs.length c3] 30) by rw[hw4]; exact At.new w3 _);have HB14:=hdd (HB12.out.trans ((hb3.trans (hb34.mono hb3.size)).mono HB12.out.size));have HB4:=hdd (HB1.out.trans (HB14.out.mono HB1.out.size));have HO4:=hdd (show OwnG w2.heap.size w4 (.slice a3 gs.length c3) gs from ho3.below hb34);have hI:=readDeedS_any l w4 (by omega);unfold ReadOut at hI;rw[HRD.out.1,HRD.out.2] at hI;simp only[List.length_nil] at hI;unfold strV dV at hI;have HG6:=hdd (show w.heap.size+1<w3.heap.size by have:=HS1.out; have:=HB12.out.size; have:=hb3.size; omega);have HR2:=hdd (show w.heap.size+1<w2.heap.size by have:=HS1.out; have:=HB12.out.size; omega);clear hCP ho3 hb3 hb34 x0 x1 x2;go_wp2_with fail;rw[←hw4];clear hw4;refine hI.mono ?_;rintro e w5 ⟨a5,k5,rfl,ho5,hb5⟩;obtain ⟨w6,hw6⟩:∃ z,z=w5.alloc (.cells #[.bool false,.slice a5 0 k5,.int .i64 0,.int .i64 0] 41):=⟨_,rfl⟩
 have hb56:Below w5.heap.size w5 w6:=by rw[hw6]; exact (Below.refl _ _).alloc (Nat.le_refl _) _
 have HB46:=hdd (hb5.trans (hb56.mono hb5.size));have HB16:=hdd (HB14.out.trans (HB46.out.mono HB14.out.size));have HB6:=hdd (HB1.out.trans (HB16.out.mono HB1.out.size));clear hI ho5 hb5 hb56;go_upto_region 5 with fail;rw[←hw6];clear hw6;obtain ⟨x0,x1,x2⟩:=(HZ0.out.below HB16.out).three;have hT:=HF3.out w6 (HRG.out.below HB6.out);go_wp2_with fail;refine hT.mono ?_;rintro e w7 ⟨a7,c7,rfl,ho7,hb7⟩;have HB7:=hdd (HB6.out.trans (hb7.mono HB6.out.size));have HB17:=hdd (HB16.out.trans (hb7.mono HB16.out.size));have HB47:=hdd (HB46.out.trans (hb7.mono HB46.out.size));have HI7:=hdd (ho7.toInts (allD_in HD3.out.1));have HB67:=hdd hb7;have HIW:=hdd (fun W (q:RelD (w.heap.size+1) (.int .i64 p) (.int .i64 c) (.slice a3 gs.length c3) w7 W)=>show Ints (w.heap.size+2) W (.slice a7 L.length c7) L from (HI7.out.mono (show w.heap.size+2≤w6.heap.size by have:=HS1.out; have:=HB16.out.size; omega)).keep (Above.of_grown q.grown (by omega)));have HT3:=hdd (fun W (q:Ints (w.heap.size+2) W (.slice a7 L.length c7) L)=>l15Code_any _ L W q HD3.out.1 HD3.out.2);rw[←HAN.out] at HT3;unfold strV at HT3;clear hT ho7 hb7;have HC2:=hdd (HZ0.out.below HB17.out).three;have HC6:=hdd (HZ6.out.below HB47.out).three;have HBX:=hdd (HZ1.out.below HB17.out);have HBX6:=hdd HB7.out;have HOX:=hdd (HO4.out.below HB47.out);have HRGW:=hdd (fun W (q:RelD (w.heap.size+1) (.int .i64 p) (.int .i64 c) (.slice a3 gs.length c3) w7 W)=>HRG.out.below (HBX6.out.grown q.grown HBX6.out.size (fun k hk=>by injection hk; omega)));clear x0 x1 x2;go_wp2;refine wp_region_invN (Rel:=RelD (w.heap.size+1) (.int .i64 p) (.int .i64 c) (.slice a3 gs.length c3)) 3 0 (fun a b c=>RelD.trans) (fun w=>RelD.of (Below.refl _ _).drew) (by kernel_rfl) (fun k=>(#[60,61,62,1000,5]:Array Nat).getD k 0) 74
  (fun k v W=>match k with
   | 0=>v=.agg #[.int .i64 p,.int .i64 c,.slice a3 gs.length c3]
   | 1=>v=.slice a7 L.length c7
   | 2=>v=.string ⟨an.toArray⟩
   | 3=>At W (w.heap.size+1) (DC (.int .i64 p) (.int .i64 c) (.slice a3 gs.length c3))
   | 4=>v=.string ⟨an.toArray⟩
   | _=>False) ?sz ?chk ?mono ?step ?fin
 case sz=>rfl
 case chk=>kernel_rfl
 case mono=>
  intro k v W W' h hb
  match k,h with
  | 0,h=>exact h
  | 1,h=>exact h
  | 2,h=>exact h
  | 3,h=>exact hb.full h
  | 4,h=>exact h
 case step=>
  intro i o ho A W hW hA hD K hK
  match i,ho with
  | 0,ho=>
   obtain rfl:=Option.some.inj ho;have e6:A.tmps.getD 6 undef=.pointer (some ⟨w3.heap.size,0,none⟩):=(hA 6 (by kernel_rfl)).trans rfl;have e6':=gDq e6;have HK:=hdd (show ∀ v W',RelD (w.heap.size+1) (.int .i64 p) (.int .i64 c) (.slice a3 gs.length c3) W W'→(v=.agg #[.int .i64 p,.int .i64 c,.slice a3 gs.length c3])→K (A.put (some 60) v) W' from fun v W' h1 h2=>hK.out v W' h1 h2 (fun q=>absurd q (by decide)));have HW:=hdd hW;have y0:=cell_grown hW.grown (by have:=HG6.out; omega) HC6.out.1;have y1:=cell_grown hW.grown (by have:=HG6.out; omega) HC6.out.2.1;have y2:=cell_grown hW.grown (by have:=HG6.out; omega) HC6.out.2.2;clear hA hD hK hW;go_simp;exact HK.out _ _ (RelD.refl _ _ _ _ _) rfl
  | 1,ho=>
   obtain rfl:=Option.some.inj ho;have e11:A.tmps.getD 11 undef=.slice a7 L.length c7:=(hA 11 (by kernel_rfl)).trans rfl;have e11':=gDq e11;have HK:=hdd (show ∀ v W',RelD (w.heap.size+1) (.int .i64 p) (.int .i64 c) (.slice a3 gs.length c3) W W'→(v=.slice a7 L.length c7)→K (A.put (some 61) v) W' from fun v W' h1 h2=>hK.out v W' h1 h2 (fun q=>absurd q (by decide)));have HW:=hdd hW;clear hA hD hK hW;go_simp;exact HK.out _ _ (RelD.refl _ _ _ _ _) rfl
  | 2,ho=>
   obtain rfl:=Option.some.inj ho;have d1:A.tmps.getD 61 undef=.slice a7 L.length c7:=hD 1 (by decide) (by kernel_rfl);have HK:=hdd (show ∀ v W',RelD (w.heap.size+1) (.int .i64 p) (.int .i64 c) (.slice a3 gs.length c3) W W'→(v=.string ⟨an.toArray⟩)→K (A.put (some 62) v) W' from fun v W' h1 h2=>hK.out v W' h1 h2 (fun q=>absurd q (by decide)));have HW:=hdd hW;clear hA hD hK hW;have d1':=gDq d1;go_simp;refine (HT3.out W (HIW.out W HW.out)).mono ?_;rintro e W' ⟨rfl,hb⟩;exact HK.out _ _ (RelD.of hb) rfl
  | 3,ho=>
   obtain rfl:=Option.some.inj ho;have e4:A.tmps.getD 4 undef=.pointer (some ⟨w.heap.size+1,0,none⟩):=(hA 4 (by kernel_rfl)).trans rfl;have e4':=gDq e4;have d0:A.tmps.getD 60 undef=.agg #[.int .i64 p,.int .i64 c,.slice a3 gs.length c3]:=hD 0 (by decide) (by kernel_rfl);have HK:=hdd (show ∀ W',RelD (w.heap.size+1) (.int .i64 p) (.int .i64 c) (.slice a3 gs.length c3) W W'→(At W' (w.heap.size+1) (DC (.int .i64 p) (.int .i64 c) (.slice a3 gs.length c3)))→K A W' from fun W' h1 h2=>hK.out _ W' h1 h2 (fun _=>rfl));have HW:=hdd hW;obtain ⟨x',y',z',hat⟩:=hW.box ⟨_,_,_,HBX.out⟩;obtain ⟨z0,z1,z2⟩:=At.three hat;have hth:=At.thaw hat;have HST:=hdd (RelD.store (x:=.int .i64 p) (y:=.int .i64 c) (z:=.slice a3 gs.length c3) hat);clear hat;clear hA hD hK hW;have d0':=gDq d0;go_simp;exact HK.out _ HST.out.1 HST.out.2
  | 4,ho=>
   obtain rfl:=Option.some.inj ho;have d2:A.tmps.getD 62 undef=.string ⟨an.toArray⟩:=hD 2 (by decide) (by kernel_rfl);have HK:=hdd (show ∀ v W',RelD (w.heap.size+1) (.int .i64 p) (.int .i64 c) (.slice a3 gs.length c3) W W'→(v=.string ⟨an.toArray⟩)→K (A.put (some 5) v) W' from fun v W' h1 h2=>hK.out v W' h1 h2 (fun q=>absurd q (by decide)));have HW:=hdd hW;clear hA hD hK hW;have d2':=gDq d2;go_simp;exact HK.out _ _ (RelD.refl _ _ _ _ _) rfl
  | n+5,ho=>
   simp at ho
 case fin=>
  intro vs W hW h hce;have h0:vs 4=.string ⟨an.toArray⟩:=h 4 (by decide);have hat:At W (w.heap.size+1) (DC (.int .i64 p) (.int .i64 c) (.slice a3 gs.length c3)):=h 3 (by decide);have HAT:=hdd hat;have HF:=hdd (line_out (w:=w) an hat ((HOX.out.keep (Above.of_grown hW.grown HR2.out)).mono HB2.out.size) (HBX6.out.grown hW.grown HBX6.out.size (fun k hk=>by injection hk; omega)));rw[invA_lit [none,none,none,none,none,some 4,none,none,none,none,none,none,none,none,none,none,none,none,none,none,none,none,none,none,none,none,none,none,none,none,none,none,none,none,none,none,none,none,none,none,none,none,none,none,none,none,none,none,none,none,none,none,none,none,none,none,none,none,none,none,some 0,some 1,some 2,none,none,none,none,none,none,none,none,none,none,none] (by kernel_rfl) rfl];simp only[List.zipWith_cons_cons,List.zipWith_nil_left];rw[h0];clear h h0 hW hat hce;go_wp2
  ((try simp only[Exit.inBlock,Exit.then]); refine bodyPost_ret (results_cell_tmp rfl _ _ (w.heap.size+1) _ _ (0,0) _ rfl HAT.out Tryz.underlying30 rfl (by kernel_rfl)) rfl ?_)
  exact HF.out
set_option maxHeartbeats 8000000 in
theorem lineS_made {B:Nat} (p c:Int) (v:Value) (gs:List Gs) (l:List UInt8) (w:World) (h:RG B w v gs) (hl:l.length≤2000000) (hd:readD l=none) (hok:deskB p c gs=true) (hc:∀ g∈gs,g.code.length≤2000000) (b1:(l==[102,105,116])=false) (b2:(l==[110,101,120,116])=false) (b3:(l==[109,97,100,101])=true):
  Calls Tryz.prog 21 #[dkV p c v,strV l] w (SayOut p c gs (Lib.decDigits gs.length) w):=by
 have HRG:=hdd h;have HC:=hdd hc;have hlen:=deskB_len hok;obtain ⟨a,cap,rfl⟩:=h.shape;obtain ⟨w1,hw1⟩:∃ w1,w1=(w.alloc (.cells #[.int .i64 p,.int .i64 c,.slice a gs.length cap] 30)).alloc (.cells #[.int .i64 0,.int .i64 0,.slice none 0 0] 30):=⟨_,rfl⟩
 have hb1:Below w.heap.size w w1:=by rw[hw1]; exact ((Below.refl _ _).alloc (Nat.le_refl _) _).alloc (by simp) _
 have hs1:w1.heap.size=w.heap.size+2:=by rw[hw1]; simp
 have hz0:At w1 w.heap.size (.cells #[.int .i64 p,.int .i64 c,.slice a gs.length cap] 30):=by
  rw[hw1]; exact (At.new w _).below ((Below.refl _ _).alloc (Nat.le_refl _) _)
 have hz1:At w1 (w.heap.size+1) (.cells #[.int .i64 0,.int .i64 0,.slice none 0 0] 30):=by
  rw[hw1]; have q:=At.new (w.alloc (.cells #[.int .i64 p,.int .i64 c,.slice a gs.length cap] 30)) (.cells #[.int .i64 0,.int .i64 0,.slice none 0 0] 30); rw[World.size_alloc] at q; exact q
 have hK:=deskOkS_any p c _ gs w1 (HRG.out.below hb1).toGL;rw[hok] at hK;have HB1:=hdd hb1;have HS1:=hdd hs1;have HZ0:=hdd hz0;have HZ1:=hdd hz1;have HRD:=hdd (rd_none hd);have HT3:=hdd (fun W=>l1NumN gs.length W (by omega));obtain ⟨an,han⟩:∃ an,an=Lib.decDigits gs.length:=⟨_,rfl⟩
 rw[←han] at HT3 ⊢;unfold strV at HT3;clear han;unfold dkV at hK;unfold dkV strV;obtain ⟨x0,x1,x2⟩:=hz0.three;clear h hc hb1 hs1 hz0 hz1 hok hd;go_enter Tryz.func21,Tryz.ntmps21;go_wp2_with fail;rw[←hw1];clear hw1;refine hK.mono ?_;rintro e w2 ⟨rfl,hb2⟩;have HB2:=hdd (HB1.out.trans (hb2.mono HB1.out.size));have HB12:=hdd hb2;have hCP:=copS_any p c _ gs w2 (HRG.out.below HB2.out).toGL (by omega) HC.out;unfold dkV at hCP;clear hK hb2 x0 x1 x2;obtain ⟨x0,x1,x2⟩:=(HZ0.out.below HB12.out).three;go_wp2_with fail;refine hCP.mono ?_;rintro e w3 ⟨a3,c3,rfl,ho3,hb3⟩;unfold dkV;obtain ⟨w4,hw4⟩:∃ z,z=w3.alloc (.cells #[.int .i64 p,.int .i64 c,.slice a3 gs.length c3] 30):=⟨_,rfl⟩
 have hb34:Below w3.heap.size w3 w4:=by rw[hw4]; exact (Below.refl _ _).alloc (Nat.le_refl _) _
 have HZ6:=hdd (show At w4 w3.heap.size (.cells #[.int .i64 p,.int .i64 c,.slice a3 gs.length c3] 30) by rw[hw4]; exact At.new w3 _);have HB14:=hdd (HB12.out.trans ((hb3.trans (hb34.mono hb3.size)).mono HB12.out.size));have HB4:=hdd (HB1.out.trans (HB14.out.mono HB1.out.size));have HO4:=hdd (show OwnG w2.heap.size w4 (.slice a3 gs.length c3) gs from ho3.below hb34);have hI:=readDeedS_any l w4 (by omega);unfold ReadOut at hI;rw[HRD.out.1,HRD.out.2] at hI;simp only[List.length_nil] at hI;unfold strV dV at hI;have HG6:=hdd (show w.heap.size+1<w3.heap.size by have:=HS1.out; have:=HB12.out.size; have:=hb3.size; omega);have HR2:=hdd (show w.heap.size+1<w2.heap.size by have:=HS1.out; have:=HB12.out.size; omega);clear hCP ho3 hb3 hb34 x0 x1 x2;go_wp2_with fail;rw[←hw4];clear hw4;refine hI.mono ?_;rintro e w5 ⟨a5,k5,rfl,ho5,hb5⟩;obtain ⟨w6,hw6⟩:∃ z,z=w5.alloc (.cells #[.bool false,.slice a5 0 k5,.int .i64 0,.int .i64 0] 41):=⟨_,rfl⟩
 have hb56:Below w5.heap.size w5 w6:=by rw[hw6]; exact (Below.refl _ _).alloc (Nat.le_refl _) _
 have HB46:=hdd (hb5.trans (hb56.mono hb5.size));have HB16:=hdd (HB14.out.trans (HB46.out.mono HB14.out.size));have HB6:=hdd (HB1.out.trans (HB16.out.mono HB1.out.size));clear hI ho5 hb5 hb56;go_upto_region 5 with fail;rw[←hw6];clear hw6;obtain ⟨x0,x1,x2⟩:=(HZ0.out.below HB16.out).three
 skip
 have HC2:=hdd (HZ0.out.below HB16.out).three;have HC6:=hdd (HZ6.out.below HB46.out).three;have HBX:=hdd (HZ1.out.below HB16.out);have HBX6:=hdd HB6.out;have HOX:=hdd (HO4.out.below HB46.out);have HRGW:=hdd (fun W (q:RelD (w.heap.size+1) (.int .i64 p) (.int .i64 c) (.slice a3 gs.length c3) w6 W)=>HRG.out.below (HBX6.out.grown q.grown HBX6.out.size (fun k hk=>by injection hk; omega)));clear x0 x1 x2;go_wp2;refine wp_region_invN (Rel:=RelD (w.heap.size+1) (.int .i64 p) (.int .i64 c) (.slice a3 gs.length c3)) 5 0 (fun a b c=>RelD.trans) (fun w=>RelD.of (Below.refl _ _).drew) (by kernel_rfl) (fun k=>(#[65,66,67,68,69,1000,5]:Array Nat).getD k 0) 74
  (fun k v W=>match k with
   | 0=>v=.agg #[.int .i64 p,.int .i64 c,.slice a3 gs.length c3]
   | 1=>v=.pointer (some ⟨w.heap.size,2,none⟩)
   | 2=>v=.slice a gs.length cap
   | 3=>v=.int .i64 (gs.length:Nat)
   | 4=>v=.string ⟨an.toArray⟩
   | 5=>At W (w.heap.size+1) (DC (.int .i64 p) (.int .i64 c) (.slice a3 gs.length c3))
   | 6=>v=.string ⟨an.toArray⟩
   | _=>False) ?sz ?chk ?mono ?step ?fin
 case sz=>rfl
 case chk=>kernel_rfl
 case mono=>
  intro k v W W' h hb
  match k,h with
  | 0,h=>exact h
  | 1,h=>exact h
  | 2,h=>exact h
  | 3,h=>exact h
  | 4,h=>exact h
  | 5,h=>exact hb.full h
  | 6,h=>exact h
 case step=>
  intro i o ho A W hW hA hD K hK
  match i,ho with
  | 0,ho=>
   obtain rfl:=Option.some.inj ho;have e6:A.tmps.getD 6 undef=.pointer (some ⟨w3.heap.size,0,none⟩):=(hA 6 (by kernel_rfl)).trans rfl;have e6':=gDq e6;have HK:=hdd (show ∀ v W',RelD (w.heap.size+1) (.int .i64 p) (.int .i64 c) (.slice a3 gs.length c3) W W'→(v=.agg #[.int .i64 p,.int .i64 c,.slice a3 gs.length c3])→K (A.put (some 65) v) W' from fun v W' h1 h2=>hK.out v W' h1 h2 (fun q=>absurd q (by decide)));have HW:=hdd hW;have y0:=cell_grown hW.grown (by have:=HG6.out; omega) HC6.out.1;have y1:=cell_grown hW.grown (by have:=HG6.out; omega) HC6.out.2.1;have y2:=cell_grown hW.grown (by have:=HG6.out; omega) HC6.out.2.2;clear hA hD hK hW;go_simp;exact HK.out _ _ (RelD.refl _ _ _ _ _) rfl
  | 1,ho=>
   obtain rfl:=Option.some.inj ho;have e2:A.tmps.getD 2 undef=.pointer (some ⟨w.heap.size,0,none⟩):=(hA 2 (by kernel_rfl)).trans rfl;have e2':=gDq e2;have HK:=hdd (show ∀ v W',RelD (w.heap.size+1) (.int .i64 p) (.int .i64 c) (.slice a3 gs.length c3) W W'→(v=.pointer (some ⟨w.heap.size,2,none⟩))→K (A.put (some 66) v) W' from fun v W' h1 h2=>hK.out v W' h1 h2 (fun q=>absurd q (by decide)));have HW:=hdd hW;clear hA hD hK hW;go_simp;exact HK.out _ _ (RelD.refl _ _ _ _ _) rfl
  | 2,ho=>
   obtain rfl:=Option.some.inj ho;have d1:A.tmps.getD 66 undef=.pointer (some ⟨w.heap.size,2,none⟩):=hD 1 (by decide) (by kernel_rfl);have HK:=hdd (show ∀ v W',RelD (w.heap.size+1) (.int .i64 p) (.int .i64 c) (.slice a3 gs.length c3) W W'→(v=.slice a gs.length cap)→K (A.put (some 67) v) W' from fun v W' h1 h2=>hK.out v W' h1 h2 (fun q=>absurd q (by decide)));have HW:=hdd hW;have y0:=cell_grown hW.grown (by omega) HC2.out.2.2;clear hA hD hK hW;have d1':=gDq d1;go_simp;exact HK.out _ _ (RelD.refl _ _ _ _ _) rfl
  | 3,ho=>
   obtain rfl:=Option.some.inj ho;have d2:A.tmps.getD 67 undef=.slice a gs.length cap:=hD 2 (by decide) (by kernel_rfl);have HK:=hdd (show ∀ v W',RelD (w.heap.size+1) (.int .i64 p) (.int .i64 c) (.slice a3 gs.length c3) W W'→(v=.int .i64 (gs.length:Nat))→K (A.put (some 68) v) W' from fun v W' h1 h2=>hK.out v W' h1 h2 (fun q=>absurd q (by decide)));have HW:=hdd hW;clear hA hD hK hW;have d2':=gDq d2;go_simp;exact HK.out _ _ (RelD.refl _ _ _ _ _) rfl
  | 4,ho=>
   obtain rfl:=Option.some.inj ho;have d3:A.tmps.getD 68 undef=.int .i64 (gs.length:Nat):=hD 3 (by decide) (by kernel_rfl);have HK:=hdd (show ∀ v W',RelD (w.heap.size+1) (.int .i64 p) (.int .i64 c) (.slice a3 gs.length c3) W W'→(v=.string ⟨an.toArray⟩)→K (A.put (some 69) v) W' from fun v W' h1 h2=>hK.out v W' h1 h2 (fun q=>absurd q (by decide)));have HW:=hdd hW;clear hA hD hK hW;have d3':=gDq d3;go_simp;refine (HT3.out W).mono ?_;rintro e W' ⟨rfl,hb⟩;exact HK.out _ _ (RelD.of hb) rfl
  | 5,ho=>
   obtain rfl:=Option.some.inj ho;have e4:A.tmps.getD 4 undef=.pointer (some ⟨w.heap.size+1,0,none⟩):=(hA 4 (by kernel_rfl)).trans rfl;have e4':=gDq e4;have d0:A.tmps.getD 65 undef=.agg #[.int .i64 p,.int .i64 c,.slice a3 gs.length c3]:=hD 0 (by decide) (by kernel_rfl);have HK:=hdd (show ∀ W',RelD (w.heap.size+1) (.int .i64 p) (.int .i64 c) (.slice a3 gs.length c3) W W'→(At W' (w.heap.size+1) (DC (.int .i64 p) (.int .i64 c) (.slice a3 gs.length c3)))→K A W' from fun W' h1 h2=>hK.out _ W' h1 h2 (fun _=>rfl));have HW:=hdd hW;obtain ⟨x',y',z',hat⟩:=hW.box ⟨_,_,_,HBX.out⟩;obtain ⟨z0,z1,z2⟩:=At.three hat;have hth:=At.thaw hat;have HST:=hdd (RelD.store (x:=.int .i64 p) (y:=.int .i64 c) (z:=.slice a3 gs.length c3) hat);clear hat;clear hA hD hK hW;have d0':=gDq d0;go_simp;exact HK.out _ HST.out.1 HST.out.2
  | 6,ho=>
   obtain rfl:=Option.some.inj ho;have d4:A.tmps.getD 69 undef=.string ⟨an.toArray⟩:=hD 4 (by decide) (by kernel_rfl);have HK:=hdd (show ∀ v W',RelD (w.heap.size+1) (.int .i64 p) (.int .i64 c) (.slice a3 gs.length c3) W W'→(v=.string ⟨an.toArray⟩)→K (A.put (some 5) v) W' from fun v W' h1 h2=>hK.out v W' h1 h2 (fun q=>absurd q (by decide)));have HW:=hdd hW;clear hA hD hK hW;have d4':=gDq d4;go_simp;exact HK.out _ _ (RelD.refl _ _ _ _ _) rfl
  | n+7,ho=>
   simp at ho
 case fin=>
  intro vs W hW h hce;have h0:vs 6=.string ⟨an.toArray⟩:=h 6 (by decide);have hat:At W (w.heap.size+1) (DC (.int .i64 p) (.int .i64 c) (.slice a3 gs.length c3)):=h 5 (by decide);have HAT:=hdd hat;have HF:=hdd (line_out (w:=w) an hat ((HOX.out.keep (Above.of_grown hW.grown HR2.out)).mono HB2.out.size) (HBX6.out.grown hW.grown HBX6.out.size (fun k hk=>by injection hk; omega)));rw[invA_lit [none,none,none,none,none,some 6,none,none,none,none,none,none,none,none,none,none,none,none,none,none,none,none,none,none,none,none,none,none,none,none,none,none,none,none,none,none,none,none,none,none,none,none,none,none,none,none,none,none,none,none,none,none,none,none,none,none,none,none,none,none,none,none,none,none,none,some 0,some 1,some 2,some 3,some 4,none,none,none,none] (by kernel_rfl) rfl];simp only[List.zipWith_cons_cons,List.zipWith_nil_left];rw[h0];clear h h0 hW hat hce;go_wp2
  ((try simp only[Exit.inBlock,Exit.then]); refine bodyPost_ret (results_cell_tmp rfl _ _ (w.heap.size+1) _ _ (0,0) _ rfl HAT.out Tryz.underlying30 rfl (by kernel_rfl)) rfl ?_)
  exact HF.out
set_option maxHeartbeats 8000000 in
theorem lineS_ask {B:Nat} {hf:Int→List Int} (hh:HuntsOk hf) (p c:Int) (v:Value) (gs:List Gs) (l:List UInt8) (w:World) (h:RG B w v gs) (hl:l.length≤2000000) (hd:readD l=none) (hok:deskB p c gs=true) (hc:∀ g∈gs,g.code.length≤2000000) (b1:(l==[102,105,116])=false) (b2:(l==[110,101,120,116])=false) (b3:(l==[109,97,100,101])=false):
  Calls Tryz.prog 21 #[dkV p c v,strV l] w (SayOut p c gs (askL hf (words 32 l)) w):=by
 have HRG:=hdd h;have HC:=hdd hc;have hlen:=deskB_len hok;obtain ⟨a,cap,rfl⟩:=h.shape;obtain ⟨w1,hw1⟩:∃ w1,w1=(w.alloc (.cells #[.int .i64 p,.int .i64 c,.slice a gs.length cap] 30)).alloc (.cells #[.int .i64 0,.int .i64 0,.slice none 0 0] 30):=⟨_,rfl⟩
 have hb1:Below w.heap.size w w1:=by rw[hw1]; exact ((Below.refl _ _).alloc (Nat.le_refl _) _).alloc (by simp) _
 have hs1:w1.heap.size=w.heap.size+2:=by rw[hw1]; simp
 have hz0:At w1 w.heap.size (.cells #[.int .i64 p,.int .i64 c,.slice a gs.length cap] 30):=by
  rw[hw1]; exact (At.new w _).below ((Below.refl _ _).alloc (Nat.le_refl _) _)
 have hz1:At w1 (w.heap.size+1) (.cells #[.int .i64 0,.int .i64 0,.slice none 0 0] 30):=by
  rw[hw1]; have q:=At.new (w.alloc (.cells #[.int .i64 p,.int .i64 c,.slice a gs.length cap] 30)) (.cells #[.int .i64 0,.int .i64 0,.slice none 0 0] 30); rw[World.size_alloc] at q; exact q
 have hK:=deskOkS_any p c _ gs w1 (HRG.out.below hb1).toGL;rw[hok] at hK;have HB1:=hdd hb1;have HS1:=hdd hs1;have HZ0:=hdd hz0;have HZ1:=hdd hz1;have HRD:=hdd (rd_none hd);have HCUT:=hdd (fun W=>l1Cut_any l 32 W (by omega));have HWL:=hdd (fun u (hu:u∈words 32 l)=>Nat.le_trans (words_le 32 l u hu) hl);have HT3:=hdd (fun g cap W (q:WordsAt g (words 32 l) W) h1 h2=>l15Ask_any hh (words 32 l) (words_ne 32 l) g cap W q h1 h2);unfold AskOut at HT3;obtain ⟨an,han⟩:∃ an,an=askL hf (words 32 l):=⟨_,rfl⟩
 rw[←han] at HT3 ⊢;obtain ⟨us,hus⟩:∃ us,us=words 32 l:=⟨_,rfl⟩
 rw[←hus] at HCUT HWL HT3;rw[show ((32:UInt8).toNat:Int)=32 from rfl] at HCUT;unfold strV at HCUT HT3;clear han hus;unfold dkV at hK;unfold dkV strV;obtain ⟨x0,x1,x2⟩:=hz0.three;clear h hc hb1 hs1 hz0 hz1 hok hd;go_enter Tryz.func21,Tryz.ntmps21;go_wp2_with fail;rw[←hw1];clear hw1;refine hK.mono ?_;rintro e w2 ⟨rfl,hb2⟩;have HB2:=hdd (HB1.out.trans (hb2.mono HB1.out.size));have HB12:=hdd hb2;have hCP:=copS_any p c _ gs w2 (HRG.out.below HB2.out).toGL (by omega) HC.out;unfold dkV at hCP;clear hK hb2 x0 x1 x2;obtain ⟨x0,x1,x2⟩:=(HZ0.out.below HB12.out).three;go_wp2_with fail;refine hCP.mono ?_;rintro e w3 ⟨a3,c3,rfl,ho3,hb3⟩;unfold dkV;obtain ⟨w4,hw4⟩:∃ z,z=w3.alloc (.cells #[.int .i64 p,.int .i64 c,.slice a3 gs.length c3] 30):=⟨_,rfl⟩
 have hb34:Below w3.heap.size w3 w4:=by rw[hw4]; exact (Below.refl _ _).alloc (Nat.le_refl _) _
 have HZ6:=hdd (show At w4 w3.heap.size (.cells #[.int .i64 p,.int .i64 c,.slice a3 gs.length c3] 30) by rw[hw4]; exact At.new w3 _);have HB14:=hdd (HB12.out.trans ((hb3.trans (hb34.mono hb3.size)).mono HB12.out.size));have HB4:=hdd (HB1.out.trans (HB14.out.mono HB1.out.size));have HO4:=hdd (show OwnG w2.heap.size w4 (.slice a3 gs.length c3) gs from ho3.below hb34);have hI:=readDeedS_any l w4 (by omega);unfold ReadOut at hI;rw[HRD.out.1,HRD.out.2] at hI;simp only[List.length_nil] at hI;unfold strV dV at hI;have HG6:=hdd (show w.heap.size+1<w3.heap.size by have:=HS1.out; have:=HB12.out.size; have:=hb3.size; omega);have HR2:=hdd (show w.heap.size+1<w2.heap.size by have:=HS1.out; have:=HB12.out.size; omega);clear hCP ho3 hb3 hb34 x0 x1 x2;go_wp2_with fail;rw[←hw4];clear hw4;refine hI.mono ?_;rintro e w5 ⟨a5,k5,rfl,ho5,hb5⟩;obtain ⟨w6,hw6⟩:∃ z,z=w5.alloc (.cells #[.bool false,.slice a5 0 k5,.int .i64 0,.int .i64 0] 41):=⟨_,rfl⟩
 have hb56:Below w5.heap.size w5 w6:=by rw[hw6]; exact (Below.refl _ _).alloc (Nat.le_refl _) _
 have HB46:=hdd (hb5.trans (hb56.mono hb5.size));have HB16:=hdd (HB14.out.trans (HB46.out.mono HB14.out.size));have HB6:=hdd (HB1.out.trans (HB16.out.mono HB1.out.size));clear hI ho5 hb5 hb56;go_upto_region 5 with fail;rw[←hw6];clear hw6;obtain ⟨x0,x1,x2⟩:=(HZ0.out.below HB16.out).three;have HS6:=hdd (show w.heap.size+1<w6.heap.size by have:=HS1.out; have:=HB16.out.size; omega);have HC2:=hdd (HZ0.out.below HB16.out).three;have HC6:=hdd (HZ6.out.below HB46.out).three;have HBX:=hdd (HZ1.out.below HB16.out);have HBX6:=hdd HB6.out;have HOX:=hdd (HO4.out.below HB46.out);have HRGW:=hdd (fun W (q:RelD (w.heap.size+1) (.int .i64 p) (.int .i64 c) (.slice a3 gs.length c3) w6 W)=>HRG.out.below (HBX6.out.grown q.grown HBX6.out.size (fun k hk=>by injection hk; omega)));clear x0 x1 x2;go_wp2;refine wp_region_invN (Rel:=RelD (w.heap.size+1) (.int .i64 p) (.int .i64 c) (.slice a3 gs.length c3)) 4 0 (fun a b c=>RelD.trans) (fun w=>RelD.of (Below.refl _ _).drew) (by kernel_rfl) (fun k=>(#[70,71,72,73,1000,5]:Array Nat).getD k 0) 74
  (fun k v W=>match k with
   | 0=>v=.agg #[.int .i64 p,.int .i64 c,.slice a3 gs.length c3]
   | 1=>v=.string ⟨l.toArray⟩
   | 2=>∃ g k,v=.slice (some ⟨g,0,none⟩) us.length k∧us.length≤k∧k≤9223372036854775807∧g≠w.heap.size+1∧WordsAt g us W
   | 3=>v=.string ⟨an.toArray⟩
   | 4=>At W (w.heap.size+1) (DC (.int .i64 p) (.int .i64 c) (.slice a3 gs.length c3))
   | 5=>v=.string ⟨an.toArray⟩
   | _=>False) ?sz ?chk ?mono ?step ?fin
 case sz=>rfl
 case chk=>kernel_rfl
 case mono=>
  intro k v W W' h hb
  match k,h with
  | 0,h=>exact h
  | 1,h=>exact h
  | 2,h=>exact (by obtain ⟨g,k,h1,h2,h3,h4,h5⟩:=h; exact ⟨g,k,h1,h2,h3,h4,h5.grown hb.grown h4⟩)
  | 3,h=>exact h
  | 4,h=>exact hb.full h
  | 5,h=>exact h
 case step=>
  intro i o ho A W hW hA hD K hK
  match i,ho with
  | 0,ho=>
   obtain rfl:=Option.some.inj ho;have e6:A.tmps.getD 6 undef=.pointer (some ⟨w3.heap.size,0,none⟩):=(hA 6 (by kernel_rfl)).trans rfl;have e6':=gDq e6;have HK:=hdd (show ∀ v W',RelD (w.heap.size+1) (.int .i64 p) (.int .i64 c) (.slice a3 gs.length c3) W W'→(v=.agg #[.int .i64 p,.int .i64 c,.slice a3 gs.length c3])→K (A.put (some 70) v) W' from fun v W' h1 h2=>hK.out v W' h1 h2 (fun q=>absurd q (by decide)));have HW:=hdd hW;have y0:=cell_grown hW.grown (by have:=HG6.out; omega) HC6.out.1;have y1:=cell_grown hW.grown (by have:=HG6.out; omega) HC6.out.2.1;have y2:=cell_grown hW.grown (by have:=HG6.out; omega) HC6.out.2.2;clear hA hD hK hW;go_simp;exact HK.out _ _ (RelD.refl _ _ _ _ _) rfl
  | 1,ho=>
   obtain rfl:=Option.some.inj ho;have e1:A.tmps.getD 1 undef=.string ⟨l.toArray⟩:=(hA 1 (by kernel_rfl)).trans rfl;have e1':=gDq e1;have HK:=hdd (show ∀ v W',RelD (w.heap.size+1) (.int .i64 p) (.int .i64 c) (.slice a3 gs.length c3) W W'→(v=.string ⟨l.toArray⟩)→K (A.put (some 71) v) W' from fun v W' h1 h2=>hK.out v W' h1 h2 (fun q=>absurd q (by decide)));have HW:=hdd hW;clear hA hD hK hW;go_simp;exact HK.out _ _ (RelD.refl _ _ _ _ _) rfl
  | 2,ho=>
   obtain rfl:=Option.some.inj ho;have d1:A.tmps.getD 71 undef=.string ⟨l.toArray⟩:=hD 1 (by decide) (by kernel_rfl);have HK:=hdd (show ∀ v W',RelD (w.heap.size+1) (.int .i64 p) (.int .i64 c) (.slice a3 gs.length c3) W W'→(∃ g k,v=.slice (some ⟨g,0,none⟩) us.length k∧us.length≤k∧k≤9223372036854775807∧g≠w.heap.size+1∧WordsAt g us W')→K (A.put (some 72) v) W' from fun v W' h1 h2=>hK.out v W' h1 h2 (fun q=>absurd q (by decide)));have HW:=hdd hW;clear hA hD hK hW;have d1':=gDq d1;go_simp;refine (HCUT.out W).mono ?_;rintro e W' ⟨g,k,rfl,q1,q2,q3,q4,q5,hb⟩;have hsz:=HW.out.grown.size;exact HK.out _ _ (RelD.of hb) ⟨g,k,rfl,q1,q2,by have:=HS6.out; omega,⟨q3,HWL.out⟩⟩
  | 3,ho=>
   obtain rfl:=Option.some.inj ho;have d2:∃ g k,(A.tmps.getD 72 undef)=.slice (some ⟨g,0,none⟩) us.length k∧us.length≤k∧k≤9223372036854775807∧g≠w.heap.size+1∧WordsAt g us W:=hD 2 (by decide) (by kernel_rfl);have HK:=hdd (show ∀ v W',RelD (w.heap.size+1) (.int .i64 p) (.int .i64 c) (.slice a3 gs.length c3) W W'→(v=.string ⟨an.toArray⟩)→K (A.put (some 73) v) W' from fun v W' h1 h2=>hK.out v W' h1 h2 (fun q=>absurd q (by decide)));have HW:=hdd hW;clear hA hD hK hW;obtain ⟨v2,hv2⟩:∃ z,A.tmps.getD 72 undef=z:=⟨_,rfl⟩
   rw[hv2] at d2;have hv2':=gDq hv2;obtain ⟨g,k,rfl,q1,q2,_,q3⟩:=d2;have hT:=HT3.out g k W q3 q1 q2;go_simp;refine hT.mono ?_;rintro e W' ⟨rfl,hb⟩;exact HK.out _ _ (RelD.of hb) rfl
  | 4,ho=>
   obtain rfl:=Option.some.inj ho;have e4:A.tmps.getD 4 undef=.pointer (some ⟨w.heap.size+1,0,none⟩):=(hA 4 (by kernel_rfl)).trans rfl;have e4':=gDq e4;have d0:A.tmps.getD 70 undef=.agg #[.int .i64 p,.int .i64 c,.slice a3 gs.length c3]:=hD 0 (by decide) (by kernel_rfl);have HK:=hdd (show ∀ W',RelD (w.heap.size+1) (.int .i64 p) (.int .i64 c) (.slice a3 gs.length c3) W W'→(At W' (w.heap.size+1) (DC (.int .i64 p) (.int .i64 c) (.slice a3 gs.length c3)))→K A W' from fun W' h1 h2=>hK.out _ W' h1 h2 (fun _=>rfl));have HW:=hdd hW;obtain ⟨x',y',z',hat⟩:=hW.box ⟨_,_,_,HBX.out⟩;obtain ⟨z0,z1,z2⟩:=At.three hat;have hth:=At.thaw hat;have HST:=hdd (RelD.store (x:=.int .i64 p) (y:=.int .i64 c) (z:=.slice a3 gs.length c3) hat);clear hat;clear hA hD hK hW;have d0':=gDq d0;go_simp;exact HK.out _ HST.out.1 HST.out.2
  | 5,ho=>
   obtain rfl:=Option.some.inj ho;have d3:A.tmps.getD 73 undef=.string ⟨an.toArray⟩:=hD 3 (by decide) (by kernel_rfl);have HK:=hdd (show ∀ v W',RelD (w.heap.size+1) (.int .i64 p) (.int .i64 c) (.slice a3 gs.length c3) W W'→(v=.string ⟨an.toArray⟩)→K (A.put (some 5) v) W' from fun v W' h1 h2=>hK.out v W' h1 h2 (fun q=>absurd q (by decide)));have HW:=hdd hW;clear hA hD hK hW;have d3':=gDq d3;go_simp;exact HK.out _ _ (RelD.refl _ _ _ _ _) rfl
  | n+6,ho=>
   simp at ho
 case fin=>
  intro vs W hW h hce;have h0:vs 5=.string ⟨an.toArray⟩:=h 5 (by decide);have hat:At W (w.heap.size+1) (DC (.int .i64 p) (.int .i64 c) (.slice a3 gs.length c3)):=h 4 (by decide);have HAT:=hdd hat;have HF:=hdd (line_out (w:=w) an hat ((HOX.out.keep (Above.of_grown hW.grown HR2.out)).mono HB2.out.size) (HBX6.out.grown hW.grown HBX6.out.size (fun k hk=>by injection hk; omega)));rw[invA_lit [none,none,none,none,none,some 5,none,none,none,none,none,none,none,none,none,none,none,none,none,none,none,none,none,none,none,none,none,none,none,none,none,none,none,none,none,none,none,none,none,none,none,none,none,none,none,none,none,none,none,none,none,none,none,none,none,none,none,none,none,none,none,none,none,none,none,none,none,none,none,none,some 0,some 1,some 2,some 3] (by kernel_rfl) rfl];simp only[List.zipWith_cons_cons,List.zipWith_nil_left];rw[h0];clear h h0 hW hat hce;go_wp2
  ((try simp only[Exit.inBlock,Exit.then]); refine bodyPost_ret (results_cell_tmp rfl _ _ (w.heap.size+1) _ _ (0,0) _ rfl HAT.out Tryz.underlying30 rfl (by kernel_rfl)) rfl ?_)
  exact HF.out
set_option maxHeartbeats 4000000 in
theorem lineS_no {B:Nat} (p c:Int) (v:Value) (gs:List Gs) (l:List UInt8) (w:World) (h:RG B w v gs) (hok:deskB p c gs=false):
  Calls Tryz.prog 21 #[dkV p c v,strV l] w (SayOut 0 0 [] [] w):=by
 have HRG:=hdd h;obtain ⟨a,cap,rfl⟩:=h.shape;obtain ⟨w1,hw1⟩:∃ w1,w1=(w.alloc (.cells #[.int .i64 p,.int .i64 c,.slice a gs.length cap] 30)).alloc (.cells #[.int .i64 0,.int .i64 0,.slice none 0 0] 30):=⟨_,rfl⟩
 have hb1:Below w.heap.size w w1:=by rw[hw1]; exact ((Below.refl _ _).alloc (Nat.le_refl _) _).alloc (by simp) _
 have hz0:At w1 w.heap.size (.cells #[.int .i64 p,.int .i64 c,.slice a gs.length cap] 30):=by
  rw[hw1]; exact (At.new w _).below ((Below.refl _ _).alloc (Nat.le_refl _) _)
 have hz1:At w1 (w.heap.size+1) (.cells #[.int .i64 0,.int .i64 0,.slice none 0 0] 30):=by
  rw[hw1]; have q:=At.new (w.alloc (.cells #[.int .i64 p,.int .i64 c,.slice a gs.length cap] 30)) (.cells #[.int .i64 0,.int .i64 0,.slice none 0 0] 30); rw[World.size_alloc] at q; exact q
 have hK:=deskOkS_any p c _ gs w1 (HRG.out.below hb1).toGL;rw[hok] at hK;have HB1:=hdd hb1;have HZ1:=hdd hz1;unfold dkV at hK;unfold dkV strV;obtain ⟨x0,x1,x2⟩:=hz0.three;clear h hb1 hz0 hz1 hok;go_enter Tryz.func21,Tryz.ntmps21;go_wp2_with fail;rw[←hw1];clear hw1;refine hK.mono ?_;rintro e w2 ⟨rfl,hb2⟩;have HB2:=hdd (HB1.out.trans (hb2.mono HB1.out.size));have HR4:=hdd (HZ1.out.below hb2);clear hK hb2 x0 x1 x2;obtain ⟨r0,r1,r2,rf⟩:=zero_cells HR4.out;have HF:=hdd (say_ret (w:=w) (p:=0) (c:=0) (gs:=[]) (a4:=none) (c4:=0) (cap2:=0) [] HR4.out (by omega) (OwnG.empty _ _) HB2.out (Nat.le_refl _) (by omega));go_wp2
 ((try simp only[Exit.inBlock,Exit.then]); refine bodyPost_ret (results_cell_tmp rfl _ _ (w.heap.size+1) _ _ (0,0) _ rfl HF.out.2 Tryz.underlying30 rfl (by kernel_rfl)) rfl ?_)
 exact HF.out.1
theorem lineS_any {B:Nat} {hf:Int→List Int} (hh:HuntsOk hf) (p c:Int) (v:Value) (gs:List Gs) (l:List UInt8) (w:World) (h:RG B w v gs) (hl:l.length≤2000000) (hc:∀ g∈gs,g.code.length≤2000000):
  Calls Tryz.prog 21 #[dkV p c v,strV l] w (LineOut hf p c gs l w):=by
 cases hok:deskB p c gs
 ·exact (lineS_no p c v gs l w h hok).mono fun e w' q=>LineOut.no hok q
 suffices hs:Calls Tryz.prog 21 #[dkV p c v,strV l] w (SayOut p c (lineG p c gs l) (lineA hf p c gs l) w) from hs.mono fun e w' q=>LineOut.yes hok q
 rcases hd:readD l with _ | d
 ·rw[(line_none (hf:=hf) hd).1,(line_none hd).2]
  unfold ansN
  by_cases h1:l=wFit
  ·rw[if_pos h1]; exact lineS_fit p c v gs l w h hl hd hok hc (by rw[h1]; rfl)
  rw[if_neg h1];have b1:(l==[102,105,116])=false:=by simpa [wFit] using h1
  by_cases h2:l=wNext
  ·rw[if_pos h2]; exact lineS_next p c v gs l w h hl hd hok hc b1 (by rw[h2]; rfl)
  rw[if_neg h2];have b2:(l==[110,101,120,116])=false:=by simpa [wNext] using h2
  by_cases h3:l=wMade
  ·rw[if_pos h3]; exact lineS_made p c v gs l w h hl hd hok hc b1 b2 (by rw[h3]; rfl)
  rw[if_neg h3];exact lineS_ask hh p c v gs l w h hl hd hok hc b1 b2 (by simpa [wMade] using h3)
 ·rw[(line_some (hf:=hf) hd).1,(line_some hd).2]
  exact lineS_deed p c v gs l d w h hl hd hok hc
def DeskV (B:Nat) (p c:Int) (gs:List Gs) (v:Value) (W:World):Prop:=
 ∃ a c4 cc,v=.agg #[.int .i64 p,.int .i64 c,.slice a gs.length cc]∧gs.length≤cc∧cc≤9223372036854775807∧OwnG B W (.slice a gs.length c4) gs
theorem DeskV.below {B:Nat} {p c:Int} {gs:List Gs} {v:Value} {W W':World} (h:DeskV B p c gs v W) (hb:Below W.heap.size W W'):DeskV B p c gs v W':=by
 obtain ⟨a,c4,cc,h1,h2,h3,h4⟩:=h;exact ⟨a,c4,cc,h1,h2,h3,h4.below hb⟩
def FullD (B:Nat) (p c:Int) (gs:List Gs) (G:Nat) (W:World):Prop:=∃ x y z,At W G (DC x y z)∧DeskV B p c gs (.agg #[x,y,z]) W
structure RelN (S B:Nat) (p c:Int) (gs:List Gs) (W W':World):Prop where
 below:Below S W W'
 desk:∀ x,DeskV B p c gs x W→DeskV B p c gs x W'
 box:∀ G,(∃ x y z,At W G (DC x y z))→∃ x y z,At W' G (DC x y z)
 full:∀ G,FullD B p c gs G W→FullD B p c gs G W'
theorem RelN.refl (S B:Nat) (p c:Int) (gs:List Gs) (W:World):RelN S B p c gs W W:=⟨Below.refl _ _,fun _ h=>h,fun _ h=>h,fun _ h=>h⟩
theorem RelN.trans {S B:Nat} {p c:Int} {gs:List Gs} {a b d:World} (h:RelN S B p c gs a b) (h':RelN S B p c gs b d):RelN S B p c gs a d:=
 ⟨h.below.trans h'.below,fun x q=>h'.desk x (h.desk x q),fun G q=>h'.box G (h.box G q),fun G q=>h'.full G (h.full G q)⟩
theorem RelN.of {S B:Nat} {p c:Int} {gs:List Gs} {W W':World} (h:Below W.heap.size W W') (hS:S≤W.heap.size):RelN S B p c gs W W':=
 ⟨h.mono hS,fun x q=>q.below h,fun G ⟨x,y,z,q⟩=>⟨x,y,z,q.below h⟩,fun G ⟨x,y,z,q1,q2⟩=>⟨x,y,z,q1.below h,q2.below h⟩⟩
theorem DeskV.put {B G:Nat} {p c:Int} {gs:List Gs} {v x y z x' y' z':Value} {W:World} (h:DeskV B p c gs v W) (hG:At W G (DC x' y' z')):
  DeskV B p c gs v (((W.setCell ⟨G,0,none⟩ x).setCell ⟨G,1,none⟩ y).setCell ⟨G,2,none⟩ z):=by
 obtain ⟨a,c4,cc,h1,h2,h3,h4⟩:=h;have q1:=heap_setCell_same _ _ 0 _ _ x hG;have q2:=heap_setCell_same _ _ 1 _ _ y q1;exact ⟨a,c4,cc,h1,h2,h3,((h4.other hG).other q1).other q2⟩
theorem RelN.store {S B G:Nat} {p c:Int} {gs:List Gs} {x y z x' y' z':Value} {W:World} (h:At W G (DC x' y' z')) (hG:S≤G) (hd:DeskV B p c gs (.agg #[x,y,z]) W):
  RelN S B p c gs W (((W.setCell ⟨G,0,none⟩ x).setCell ⟨G,1,none⟩ y).setCell ⟨G,2,none⟩ z)∧FullD B p c gs G (((W.setCell ⟨G,0,none⟩ x).setCell ⟨G,1,none⟩ y).setCell ⟨G,2,none⟩ z):=by
 have q1:=heap_setCell_same _ _ 0 _ _ x h;have q2:=heap_setCell_same _ _ 1 _ _ y q1;have q3:At (((W.setCell ⟨G,0,none⟩ x).setCell ⟨G,1,none⟩ y).setCell ⟨G,2,none⟩ z) G (DC x y z):=heap_setCell_same _ _ 2 _ _ z q2;have hg:=grownT (grownT (grownBy_setCell W ⟨G,0,none⟩ x) (grownBy_setCell (W.setCell ⟨G,0,none⟩ x) ⟨G,1,none⟩ y)) (grownBy_setCell ((W.setCell ⟨G,0,none⟩ x).setCell ⟨G,1,none⟩ y) ⟨G,2,none⟩ z);have other:∀ k,k<W.heap.size→k≠G→(((W.setCell ⟨G,0,none⟩ x).setCell ⟨G,1,none⟩ y).setCell ⟨G,2,none⟩ z).heap[k]?=W.heap[k]?:=fun k hk hne=>hg.block k hk (fun e=>hne (by injection e))
 refine ⟨⟨(((Below.refl _ _).setCell (p:=⟨G,0,none⟩) hG _).setCell (p:=⟨G,1,none⟩) hG _).setCell (p:=⟨G,2,none⟩) hG _,fun v q=>q.put h,fun G' q=>?_,fun G' q=>?_⟩,⟨x,y,z,q3,hd.put h⟩⟩
 ·by_cases e:G'=G
  ·subst e; exact ⟨x,y,z,q3⟩
  ·obtain ⟨a,b,d,hq⟩:=q
   exact ⟨a,b,d,(other G' hq.lt e).trans hq⟩
 ·by_cases e:G'=G
  ·subst e; exact ⟨x,y,z,q3,hd.put h⟩
  ·obtain ⟨a,b,d,hq,hv⟩:=q
   exact ⟨a,b,d,(other G' hq.lt e).trans hq,hv.put h⟩
def MadeV (W:World) (B:Nat) (p c:Int) (gs:List Gs) (s:Value) (wx:World):Prop:=∃ G,s=.pointer (some ⟨G,0,none⟩)∧FullD B p c gs G wx∧Below W.heap.size W wx∧G<wx.heap.size
set_option maxHeartbeats 8000000 in
theorem deskSayS_any {B C:Nat} {hf:Int→List Int} (hh:HuntsOk hf) (p c:Int) (v:Value) (gs:List Gs) (vl:Value) (ls:List (List UInt8)) (w:World) (h:RG B w v gs) (hl:SL C w vl (ls.map strV)) (hc:∀ g∈gs,g.code.length≤2000000) (hlen:∀ l∈ls,l.length≤2000000):
  Calls Tryz.prog 26 #[dkV p c v,vl] w (SaysRes hf p c gs ls w):=by
 have HRG:=hdd h;have H64:=hdd h.i64;obtain ⟨a,cap,rfl⟩:=h.shape;obtain ⟨al,capl,rfl,hcapl,hmaxl,hcells⟩:=strs_opened hl;have HCE:=hdd hcells;have HC:=hdd hc;have HLN:=hdd hlen;obtain ⟨w1,hw1⟩:∃ w1,w1=((w.alloc (.cells #[.int .i64 p,.int .i64 c,.slice a gs.length cap] 30)).alloc (.cells #[.int .i64 0,.int .i64 0,.slice none 0 0] 30)).alloc (.cells #[] 9):=⟨_,rfl⟩
 have hb1:Below w.heap.size w w1:=by rw[hw1]; exact (((Below.refl _ _).alloc (Nat.le_refl _) _).alloc (by simp) _).alloc (by simp; omega) _
 have hz0:At w1 w.heap.size (.cells #[.int .i64 p,.int .i64 c,.slice a gs.length cap] 30):=by rw[hw1]; exact ((At.new w _).below ((Below.refl _ _).alloc (Nat.le_refl _) _)).below ((Below.refl _ _).alloc (Nat.le_refl _) _)
 have hz1:At w1 (w.heap.size+1) (.cells #[.int .i64 0,.int .i64 0,.slice none 0 0] 30):=by rw[hw1]; have q:=At.new (w.alloc (.cells #[.int .i64 p,.int .i64 c,.slice a gs.length cap] 30)) (.cells #[.int .i64 0,.int .i64 0,.slice none 0 0] 30); rw[World.size_alloc] at q; exact q.below ((Below.refl _ _).alloc (Nat.le_refl _) _)
 have hs0:OwnS w.heap.size w1 (.slice (some ⟨w.heap.size+1+1,0,none⟩) 0 0) []:=by
  rw[hw1];have q:=OwnS.lit ((w.alloc (.cells #[.int .i64 p,.int .i64 c,.slice a gs.length cap] 30)).alloc (.cells #[.int .i64 0,.int .i64 0,.slice none 0 0] 30));rw[World.size_alloc,World.size_alloc] at q;exact q.mono (by omega)
 have hT:=deskOkS_any p c _ gs w1 (h.toGL.below hb1);have HB:=hdd hb1;have HA0:=hdd hz0;have HA1:=hdd hz1;have HS0:=hdd hs0;have HY:=hdd (fun (e:Ending) (w':World) (q:sayB p c gs ls=true)=>SaysRes.yes (hf:=hf) (w:=w) (e:=e) (w':=w') q);have HNO:=hdd (fun (e:Ending) (w':World) (q:sayB p c gs ls=false)=>SaysRes.no (hf:=hf) (w:=w) (e:=e) (w':=w') q);obtain ⟨t,ht⟩:∃ t,t=deskB p c gs:=⟨_,rfl⟩
 have HT:=hdd ht;rw[←ht] at hT;unfold dkV at hT;unfold dkV;clear h hc hb1 hz0 hz1 ht hcells hlen hl hs0;go_enter Tryz.func26,Tryz.ntmps26;go_wp2_with fail;rw[←hw1];clear hw1;refine hT.mono ?_;rintro e w2 ⟨rfl,hb2⟩;replace HA0:=hdd (HA0.out.below hb2);replace HA1:=hdd (HA1.out.below hb2);replace HB:=hdd (HB.out.trans (hb2.mono HB.out.size));have HS2:=hdd (HS0.out.below hb2);clear hT hb2 HS0;obtain ⟨e0,e1,e2⟩:=HA0.out.three;obtain ⟨r0,r1,r2,rf⟩:=zero_cells HA1.out;have hz0:=HA0.out.lt;have hz1:=HA1.out.lt
 cases t
 ·have HF:=hdd (says_ret (w:=w) (p:=0) (c:=0) (gs:=[]) (v:=.slice none 0 0) (us:=[]) HA1.out (by omega) ((OwnG.empty _ _).rg (fun g hg=>by cases hg)) HS2.out HB.out)
  go_wp2
  ((try simp only[Exit.inBlock,Exit.then]); refine bodyPost_ret (results_cell_tmp rfl _ _ (w.heap.size+1) _ _ (0,0) _ rfl HF.out.2 Tryz.underlying30 rfl (by kernel_rfl)) rfl ?_)
  exact HNO.out _ _ (by unfold sayB; rw[←HT.out]; rfl) HF.out.1
 ·by_cases hlong:40<(ls.length:Int)
  ·have HF:=hdd (says_ret (w:=w) (p:=0) (c:=0) (gs:=[]) (v:=.slice none 0 0) (us:=[]) HA1.out (by omega) ((OwnG.empty _ _).rg (fun g hg=>by cases hg)) HS2.out HB.out)
   have HRB:=hdd (show sayB p c gs ls=false by unfold sayB; rw[decide_eq_false (by omega)]; simp);go_wp2
   ((try simp only[Exit.inBlock,Exit.then]); refine bodyPost_ret (results_cell_tmp rfl _ _ (w.heap.size+1) _ _ (0,0) _ rfl HF.out.2 Tryz.underlying30 rfl (by kernel_rfl)) rfl ?_)
   exact HNO.out _ _ HRB.out HF.out.1
  ·have HRB:=hdd (show sayB p c gs ls=true by unfold sayB; rw[←HT.out,decide_eq_true (by omega)]; rfl)
   have hdl:=deskB_len HT.out.symm;have hT:=copS_any p c _ gs w2 (HRG.out.below HB.out).toGL (by omega) HC.out;unfold dkV at hT;have HKP:=hdd (say_keeps (hf:=hf) HT.out.symm H64.out HC.out ls);have HNEXT:=hdd (fun k (hk:k<ls.length)=>say_next (hf:=hf) (p:=p) (c:=c) (gs:=gs) hk);go_wp2_with fail;refine hT.mono ?_;rintro e w3 ⟨a3,c3,rfl,ho3,hb3⟩;unfold dkV;have hbb:=HB.out.trans (hb3.mono HB.out.size);obtain ⟨D,hD⟩:∃ D,D=w3.heap.size:=⟨_,rfl⟩
   obtain ⟨W0,hW0⟩:∃ z,z=w3.alloc (.cells #[.int .i64 p,.int .i64 c,.slice a3 gs.length c3] 30):=⟨_,rfl⟩
   have hba:Below w3.heap.size w3 W0:=by rw[hW0]; exact (Below.refl _ _).alloc (Nat.le_refl _) _
   have HW3:=hdd (show RunW w D (w.heap.size+1) p c (.slice a3 gs.length c3) gs W0 from ⟨by rw[hW0,hD]; exact At.new _ _,(HA1.out.below hb3).below hba,((ho3.rg H64.out).mono HB.out.size).below hba,hbb.trans (hba.mono hbb.size),by rw[hD]; exact hbb.size,by omega,by have:=hb3.size; omega⟩);have HS3:=hdd ((HS2.out.below hb3).below hba);have hDR:D≠w.heap.size+1:=by have:=hb3.size; omega
   clear hT ho3 hb3 hbb hba HA0 HA1 e0 e1 e2 r0 r1 r2 rf HS2 hz0 hz1;go_upto_region 5 with fail;rw[←hW0,←hD];clear hW0 hD HB;go_wp2;go_loopw [6,8] (fun s i wr=>∃ (k:Nat) (v':Value) (ao:Option Addr) (co:Nat),k≤ls.length∧i=.int .i64 k∧s=.slice ao k co∧OwnS w.heap.size wr (.slice ao k co) (sayL hf p c gs (ls.take k)).2∧RunW w D (w.heap.size+1) p c v' (sayL hf p c gs (ls.take k)).1 wr) (fun _ i _=>ls.length-(intOf i).toNat)
   case atStart=>exact ⟨0,_,_,_,Nat.zero_le _,rfl,rfl,HS3.out,HW3.out⟩
   case round=>
    obtain ⟨kj,v',ao,co,hk,rfl,rfl,hos,hW⟩:=hrel;obtain ⟨wk,rfl⟩:∃ x,x=wr:=⟨_,rfl⟩
    clear HW3 HS3;obtain ⟨hdk,h64,hcd,hal⟩:=HKP.out kj hk
    by_cases hlt:kj<ls.length
    ·have hnx:=HNEXT.out kj hlt
     obtain ⟨gk,hgk⟩:∃ z,z=(sayL hf p c gs (ls.take kj)).1:=⟨_,rfl⟩
     obtain ⟨uk,huk⟩:∃ z,z=(sayL hf p c gs (ls.take kj)).2:=⟨_,rfl⟩
     unfold sayF at hnx;rw[←hgk] at hnx h64 hcd hdk hW;rw[←huk] at hnx hal hos;obtain ⟨b,off,rfl,_,hcs⟩:=HCE.out (by omega);have hb:=hW.2.2.2.1;have q0:=(Above.of_below (B:=0) hb).cell (Nat.zero_le _) (hcs kj hlt);have hxl:=HLN.out _ (List.getElem_mem hlt);obtain ⟨x,hx⟩:∃ x,x=ls[kj]:=⟨_,rfl⟩
     rw[←hx] at q0 hxl hnx;obtain ⟨ak,ck,hvk⟩:=hW.2.2.1.shape;subst hvk;have HQ0:=hdd (And.intro q0 (World.block_lt_of_cell? wk _ q0));obtain ⟨y0,y1,y2⟩:=hW.1.three;have HX:=hdd (And.intro y0 (And.intro y1 (And.intro y2 (And.intro hW.1.lt trivial))));have HD:=hdd (show ∀ W,RG w.heap.size W (.slice ak gk.length ck) gk→Calls Tryz.prog 21 #[.agg #[.int .i64 p,.int .i64 c,.slice ak gk.length ck],.string ⟨x.toArray⟩] W (SayOut p c (lineG p c gk x) (lineA hf p c gk x) W) from
      fun W r1=>(lineS_any hh p c _ gk x W r1 hxl hcd).mono (fun e w' q=>by unfold LineOut at q; rwa [if_pos hdk] at q))
     have H6:=hdd (line_i64 (p:=p) (c:=c) x h64);have HNX:=hdd hnx;obtain ⟨g2,hg2⟩:∃ z,z=lineG p c gk x:=⟨_,rfl⟩
     obtain ⟨an,han⟩:∃ z,z=lineA hf p c gk x:=⟨_,rfl⟩
     rw[←hg2,←han] at HD HNX;rw[←hg2] at H6;have HW:=hdd hW;have HAL:=hdd hal;have HOS:=hdd hos;have HSZ:=hdd hb.size;have hi0:(0:Int)≤(kj:Int):=by omega
     have hi1:(kj:Int)<(ls.length:Int):=by omega
     have hk9:kj≤1000:=by omega
     have HRW:=hdd (fun W (q:RelN wk.heap.size w.heap.size p c g2 wk W)=>show RG w.heap.size W (.slice ak gk.length ck) gk from hW.2.2.1.below q.below);clear hnx h64 hcd hdk hgk huk hcs hb hx hg2 han hW hxl hal hos q0 y0 y1 y2;go_upto_region 8 with fail;go_cut [9,10] from 24 to 43 (fun s t wx=>t=.string ⟨an.toArray⟩∧MadeV wk w.heap.size p c g2 s wx)
     case first=>
      refine wp_region_invN (Rel:=RelN wk.heap.size w.heap.size p c g2) 10 9 (fun a b c=>RelN.trans) (fun w=>⟨(Below.refl _ _).drew,fun _ q=>q.below (Below.refl _ _).drew,fun _ q=>q,fun _ ⟨x,y,z,q1,q2⟩=>⟨x,y,z,q1,q2.below (Below.refl _ _).drew⟩⟩) (by kernel_rfl) (fun k=>(#[31,32,33,34,35,36,30,37,38,9,1000,10]:Array Nat).getD k 0) 46
       (fun k v W=>match k with
        | 0=>v=.agg #[.int .i64 p,.int .i64 c,.slice ak gk.length ck]
        | 1=>v=.slice (some ⟨b,off,none⟩) ls.length capl
        | 2=>v=.int .i64 (kj:Nat)
        | 3=>v=.pointer (some ⟨b,off+kj,none⟩)
        | 4=>v=.string ⟨x.toArray⟩
        | 5=>∃ d,v=.tuple #[d,.string ⟨an.toArray⟩]∧DeskV w.heap.size p c g2 d W
        | 6=>∃ d,v=.tuple #[d,.string ⟨an.toArray⟩]∧DeskV w.heap.size p c g2 d W
        | 7=>DeskV w.heap.size p c g2 v W
        | 8=>v=.string ⟨an.toArray⟩
        | 9=>∃ G,v=.pointer (some ⟨G,0,none⟩)∧wk.heap.size≤G∧∃ x y z,At W G (DC x y z)
        | 10=>∃ G,v=.pointer (some ⟨G,0,none⟩)∧FullD w.heap.size p c g2 G W
        | 11=>v=.string ⟨an.toArray⟩
        | _=>False) ?sz ?chk ?mono ?step ?fin
      case sz=>rfl
      case chk=>kernel_rfl
      case mono=>
       intro k v W W' h hb
       match k,h with
       | 0,h=>exact h
       | 1,h=>exact h
       | 2,h=>exact h
       | 3,h=>exact h
       | 4,h=>exact h
       | 5,h=>exact (by obtain ⟨d,h1,h2⟩:=h; exact ⟨d,h1,hb.desk d h2⟩)
       | 6,h=>exact (by obtain ⟨d,h1,h2⟩:=h; exact ⟨d,h1,hb.desk d h2⟩)
       | 7,h=>exact hb.desk _ h
       | 8,h=>exact h
       | 9,h=>exact (by obtain ⟨G,h1,h2,h3⟩:=h; exact ⟨G,h1,h2,hb.box G h3⟩)
       | 10,h=>exact (by obtain ⟨G,h1,h2⟩:=h; exact ⟨G,h1,hb.full G h2⟩)
       | 11,h=>exact h
      case step=>
       intro i o ho A W hW hA hD K hK
       match i,ho with
       | 0,ho=>
        obtain rfl:=Option.some.inj ho;have e7:A.tmps.getD 7 undef=.pointer (some ⟨D,0,none⟩):=(hA 7 (by kernel_rfl)).trans rfl;have e7':=gDq e7;have HK:=hdd (show ∀ v W',RelN wk.heap.size w.heap.size p c g2 W W'→(v=.agg #[.int .i64 p,.int .i64 c,.slice ak gk.length ck])→K (A.put (some 31) v) W' from fun v W' h1 h2=>hK.out v W' h1 h2 (fun q=>absurd q (by decide)));have HW:=hdd hW;have y0:=(hW.below.cell HX.out.2.2.2.1).trans HX.out.1;have y1:=(hW.below.cell HX.out.2.2.2.1).trans HX.out.2.1;have y2:=(hW.below.cell HX.out.2.2.2.1).trans HX.out.2.2.1;clear hA hD hK hW;go_simp;exact HK.out _ _ (RelN.refl _ _ _ _ _ _) rfl
       | 1,ho=>
        obtain rfl:=Option.some.inj ho;have e1:A.tmps.getD 1 undef=.slice (some ⟨b,off,none⟩) ls.length capl:=(hA 1 (by kernel_rfl)).trans rfl;have e1':=gDq e1;have HK:=hdd (show ∀ v W',RelN wk.heap.size w.heap.size p c g2 W W'→(v=.slice (some ⟨b,off,none⟩) ls.length capl)→K (A.put (some 32) v) W' from fun v W' h1 h2=>hK.out v W' h1 h2 (fun q=>absurd q (by decide)));have HW:=hdd hW;clear hA hD hK hW;go_simp;exact HK.out _ _ (RelN.refl _ _ _ _ _ _) rfl
       | 2,ho=>
        obtain rfl:=Option.some.inj ho;have e8:A.tmps.getD 8 undef=.int .i64 (kj:Nat):=(hA 8 (by kernel_rfl)).trans rfl;have e8':=gDq e8;have HK:=hdd (show ∀ v W',RelN wk.heap.size w.heap.size p c g2 W W'→(v=.int .i64 (kj:Nat))→K (A.put (some 33) v) W' from fun v W' h1 h2=>hK.out v W' h1 h2 (fun q=>absurd q (by decide)));have HW:=hdd hW;clear hA hD hK hW;go_simp;exact HK.out _ _ (RelN.refl _ _ _ _ _ _) rfl
       | 3,ho=>
        obtain rfl:=Option.some.inj ho;have d1:A.tmps.getD 32 undef=.slice (some ⟨b,off,none⟩) ls.length capl:=hD 1 (by decide) (by kernel_rfl);have d2:A.tmps.getD 33 undef=.int .i64 (kj:Nat):=hD 2 (by decide) (by kernel_rfl);have HK:=hdd (show ∀ v W',RelN wk.heap.size w.heap.size p c g2 W W'→(v=.pointer (some ⟨b,off+kj,none⟩))→K (A.put (some 34) v) W' from fun v W' h1 h2=>hK.out v W' h1 h2 (fun q=>absurd q (by decide)));have HW:=hdd hW;clear hA hD hK hW;have d1':=gDq d1;have d2':=gDq d2;go_simp;exact HK.out _ _ (RelN.refl _ _ _ _ _ _) rfl
       | 4,ho=>
        obtain rfl:=Option.some.inj ho;have d3:A.tmps.getD 34 undef=.pointer (some ⟨b,off+kj,none⟩):=hD 3 (by decide) (by kernel_rfl);have HK:=hdd (show ∀ v W',RelN wk.heap.size w.heap.size p c g2 W W'→(v=.string ⟨x.toArray⟩)→K (A.put (some 35) v) W' from fun v W' h1 h2=>hK.out v W' h1 h2 (fun q=>absurd q (by decide)));have HW:=hdd hW;have hcc:=(hW.below.cell HQ0.out.2).trans HQ0.out.1;clear hA hD hK hW;have d3':=gDq d3;go_simp;exact HK.out _ _ (RelN.refl _ _ _ _ _ _) rfl
       | 5,ho=>
        obtain rfl:=Option.some.inj ho;have d0:A.tmps.getD 31 undef=.agg #[.int .i64 p,.int .i64 c,.slice ak gk.length ck]:=hD 0 (by decide) (by kernel_rfl);have d4:A.tmps.getD 35 undef=.string ⟨x.toArray⟩:=hD 4 (by decide) (by kernel_rfl);have HK:=hdd (show ∀ v W',RelN wk.heap.size w.heap.size p c g2 W W'→(∃ d,v=.tuple #[d,.string ⟨an.toArray⟩]∧DeskV w.heap.size p c g2 d W')→K (A.put (some 36) v) W' from fun v W' h1 h2=>hK.out v W' h1 h2 (fun q=>absurd q (by decide)));have HW:=hdd hW;clear hA hD hK hW;have d0':=gDq d0;have d4':=gDq d4;go_simp;refine (HD.out W (HRW.out W HW.out)).mono ?_;rintro e W' ⟨a4,c4,cc4,rfl,r1,r2,ho4,hb4⟩;exact HK.out _ _ (RelN.of hb4 HW.out.below.size) ⟨_,rfl,a4,c4,cc4,rfl,r1,r2,ho4.mono (Nat.le_trans HSZ.out HW.out.below.size)⟩
       | 6,ho=>
        obtain rfl:=Option.some.inj ho;have d5:∃ d,(A.tmps.getD 36 undef)=.tuple #[d,.string ⟨an.toArray⟩]∧DeskV w.heap.size p c g2 d W:=hD 5 (by decide) (by kernel_rfl);have HK:=hdd (show ∀ v W',RelN wk.heap.size w.heap.size p c g2 W W'→(∃ d,v=.tuple #[d,.string ⟨an.toArray⟩]∧DeskV w.heap.size p c g2 d W')→K (A.put (some 30) v) W' from fun v W' h1 h2=>hK.out v W' h1 h2 (fun q=>absurd q (by decide)));have HW:=hdd hW;clear hA hD hK hW;obtain ⟨v5,hv5⟩:∃ z,A.tmps.getD 36 undef=z:=⟨_,rfl⟩
        rw[hv5] at d5;have hv5':=gDq hv5;obtain ⟨dd,rfl,hdd2⟩:=d5;have HDD:=hdd hdd2;clear hdd2;go_simp;exact HK.out _ _ (RelN.refl _ _ _ _ _ _) ⟨_,rfl,HDD.out⟩
       | 7,ho=>
        obtain rfl:=Option.some.inj ho;have d6:∃ d,(A.tmps.getD 30 undef)=.tuple #[d,.string ⟨an.toArray⟩]∧DeskV w.heap.size p c g2 d W:=hD 6 (by decide) (by kernel_rfl);have HK:=hdd (show ∀ v W',RelN wk.heap.size w.heap.size p c g2 W W'→(DeskV w.heap.size p c g2 v W')→K (A.put (some 37) v) W' from fun v W' h1 h2=>hK.out v W' h1 h2 (fun q=>absurd q (by decide)));have HW:=hdd hW;clear hA hD hK hW;obtain ⟨v6,hv6⟩:∃ z,A.tmps.getD 30 undef=z:=⟨_,rfl⟩
        rw[hv6] at d6;have hv6':=gDq hv6;obtain ⟨dd,rfl,hdd2⟩:=d6;have HDD:=hdd hdd2;clear hdd2;go_simp;exact HK.out _ _ (RelN.refl _ _ _ _ _ _) HDD.out
       | 8,ho=>
        obtain rfl:=Option.some.inj ho;have d6:∃ d,(A.tmps.getD 30 undef)=.tuple #[d,.string ⟨an.toArray⟩]∧DeskV w.heap.size p c g2 d W:=hD 6 (by decide) (by kernel_rfl);have HK:=hdd (show ∀ v W',RelN wk.heap.size w.heap.size p c g2 W W'→(v=.string ⟨an.toArray⟩)→K (A.put (some 38) v) W' from fun v W' h1 h2=>hK.out v W' h1 h2 (fun q=>absurd q (by decide)));have HW:=hdd hW;clear hA hD hK hW;obtain ⟨v6,hv6⟩:∃ z,A.tmps.getD 30 undef=z:=⟨_,rfl⟩
        rw[hv6] at d6;have hv6':=gDq hv6;obtain ⟨dd,rfl,hdd2⟩:=d6;clear hdd2;go_simp;exact HK.out _ _ (RelN.refl _ _ _ _ _ _) rfl
       | 9,ho=>
        obtain rfl:=Option.some.inj ho;have HK:=hdd (show ∀ v W',RelN wk.heap.size w.heap.size p c g2 W W'→(∃ G,v=.pointer (some ⟨G,0,none⟩)∧wk.heap.size≤G∧∃ x y z,At W' G (DC x y z))→K (A.put (some 9) v) W' from fun v W' h1 h2=>hK.out v W' h1 h2 (fun q=>absurd q (by decide)));have HW:=hdd hW;have hsz:=hW.below.size;clear hA hD hK hW;go_simp;exact HK.out _ _ (RelN.of ((Below.refl _ _).alloc (Nat.le_refl _) _) hsz) ⟨_,rfl,hsz,_,_,_,At.new W _⟩
       | 10,ho=>
        obtain rfl:=Option.some.inj ho;have d7:DeskV w.heap.size p c g2 (A.tmps.getD 37 undef) W:=hD 7 (by decide) (by kernel_rfl);have d9:∃ G,(A.tmps.getD 9 undef)=.pointer (some ⟨G,0,none⟩)∧wk.heap.size≤G∧∃ x y z,At W G (DC x y z):=hD 9 (by decide) (by kernel_rfl);have HK:=hdd (show ∀ W',RelN wk.heap.size w.heap.size p c g2 W W'→(∃ G,(A.tmps.getD 9 undef)=.pointer (some ⟨G,0,none⟩)∧FullD w.heap.size p c g2 G W')→K A W' from fun W' h1 h2=>hK.out _ W' h1 h2 (fun _=>rfl));have HW:=hdd hW;clear hA hD hK hW;obtain ⟨v7,hv7⟩:∃ z,A.tmps.getD 37 undef=z:=⟨_,rfl⟩
        rw[hv7] at d7;have hv7':=gDq hv7;obtain ⟨v9,hv9⟩:∃ z,A.tmps.getD 9 undef=z:=⟨_,rfl⟩
        rw[hv9] at d9 HK;have hv9':=gDq hv9;obtain ⟨G,rfl,hG,x',y',z',hat⟩:=d9;have hd7:=d7;obtain ⟨a4,c4,cc4,rfl,_⟩:=d7;obtain ⟨x0,x1,x2⟩:=At.three hat;have hth:=At.thaw hat;have HST:=hdd (RelN.store (S:=wk.heap.size) hat hG hd7);clear hat hd7;go_simp;exact HK.out _ HST.out.1 ⟨G,rfl,HST.out.2⟩
       | 11,ho=>
        obtain rfl:=Option.some.inj ho;have d8:A.tmps.getD 38 undef=.string ⟨an.toArray⟩:=hD 8 (by decide) (by kernel_rfl);have HK:=hdd (show ∀ v W',RelN wk.heap.size w.heap.size p c g2 W W'→(v=.string ⟨an.toArray⟩)→K (A.put (some 10) v) W' from fun v W' h1 h2=>hK.out v W' h1 h2 (fun q=>absurd q (by decide)));have HW:=hdd hW;clear hA hD hK hW;have d8':=gDq d8;go_simp;exact HK.out _ _ (RelN.refl _ _ _ _ _ _) rfl
       | n+12,ho=>
        simp at ho
      case fin=>
       intro vs W hW h hce;obtain ⟨G,h9,hG,_⟩:=(show ∃ G,vs 9=.pointer (some ⟨G,0,none⟩)∧wk.heap.size≤G∧∃ x y z,At W G (DC x y z) from h 9 (by decide))
       obtain ⟨G',h10,hat⟩:=(show ∃ G,vs 10=.pointer (some ⟨G,0,none⟩)∧FullD w.heap.size p c g2 G W from h 10 (by decide))
       have h11:vs 11=.string ⟨an.toArray⟩:=h 11 (by decide);rw[h9,h10] at hce;injection hce with hce;injection hce with hce;injection hce with hce _ _;subst hce;have HM:=hdd (show MadeV wk w.heap.size p c g2 (.pointer (some ⟨G',0,none⟩)) W from ⟨G',rfl,hat,hW.below,by obtain ⟨x,y,z,q,_⟩:=hat; exact q.lt⟩);rw[invA_lit [none,none,none,none,none,none,none,none,none,some 9,some 11,none,none,none,none,none,none,none,none,none,none,none,none,none,none,none,none,none,none,none,some 6,some 0,some 1,some 2,some 3,some 4,some 5,some 7,some 8,none,none,none,none,none,none,none] (by kernel_rfl) rfl];simp only[List.zipWith_cons_cons,List.zipWith_nil_left];rw[h9,h11];clear h h9 h10 h11 hW hat;go_wp2_with fail;go_meet;exact ⟨rfl,HM.out⟩
     case rest=>
      obtain ⟨rfl,G,rfl,⟨gx,gy,gz,hat,hdv⟩,hb4,hGl⟩:=hcut;obtain ⟨w4,rfl⟩:∃ z,z=wc:=⟨_,rfl⟩
      obtain ⟨a4,c4,cc4,he,r1,r2,ho4⟩:=hdv;injection he with he;simp only[Array.mk.injEq,List.cons.injEq,and_true] at he;obtain ⟨rfl,rfl,rfl⟩:=he;have HW4:=hdd (HW.out.below hb4);have HR4:=hdd (show RG w.heap.size w4 (.slice a4 g2.length cc4) g2 from ho4.rgcap r1 r2 H6.out);have HP:=hdd (RunW.put (p:=p) (c:=c) HW4.out.1 HW4.out.2.1 HW4.out.2.2.2.1 HW4.out.2.2.2.2.1 HW4.out.2.2.2.2.2.1 HW4.out.2.2.2.2.2.2 HR4.out);have HOP:=hdd ((HOS.out.below hb4).put3 (x:=.int .i64 p) (y:=.int .i64 c) (z:=.slice a4 g2.length cc4) HW4.out.1);obtain ⟨u0,u1,u2⟩:=At.three hat;obtain ⟨x0,x1,x2⟩:=HW4.out.1.three;have xf:=HW4.out.1.thaw;clear ho4 hb4 hat;go_upto_region 10 with fail;obtain ⟨wp,hwp⟩:∃ z,z=((w4.setCell ⟨D,0,none⟩ (.int .i64 p)).setCell ⟨D,1,none⟩ (.int .i64 c)).setCell ⟨D,2,none⟩ (.slice a4 g2.length cc4):=⟨_,rfl⟩
      rw[←hwp] at HP HOP ⊢;clear hwp x0 x1 x2 xf u0 u1 u2;have HPA:=hdd (fun o=>HP.out.below ((Below.refl _ wp).alloc (Nat.le_refl _) o));have HOA:=hdd (fun o=>HOP.out.below ((Below.refl _ wp).alloc (Nat.le_refl _) o));go_wp2_with (at_builtin; refine wpList_push_str _ rfl (.tmp 40) (.tmp 42) rfl w.heap.size (.slice ao kj co) uk rfl (HOA.out _) ⟨wp.heap.size,0,none⟩ 1 ⟨an.toArray⟩ an rfl (by simp) rfl (by rw[HAL.out]; omega) (by have:=HP.out.2.2.2.1.size; simp; omega) ?_; intro a7 c7 w7 ho7 hg7; rw[HAL.out] at ho7 ⊢; have HO7:=hdd ho7; have HW7:=hdd ((HPA.out _).grownS (HOA.out _) (Nat.le_refl _) hg7); clear ho7 hg7);go_roundw
      case rel=>exact ⟨kj+1,_,a7,c7,by omega,by go_num,rfl,by rw[HNX.out]; exact HO7.out,by rw[HNX.out]; exact HW7.out⟩
      case measure=>simp[intOf]; omega
    ·have hkl:kj=ls.length:=by omega
     have e:ls.take kj=ls:=List.take_of_length_le (by omega);rw[e] at hW hos hal;obtain ⟨ak,ck,hvk⟩:=hW.2.2.1.shape;subst hvk;rw[←hal] at hos ⊢;have HF:=hdd (says_ret (p:=p) (c:=c) hW.2.1 (by omega) hW.2.2.1 hos hW.2.2.2.1);obtain ⟨x0,x1,x2⟩:=hW.1.three;obtain ⟨r0,r1,r2,rf⟩:=zero_cells hW.2.1;obtain ⟨G,hG⟩:∃ z,z=(sayL hf p c gs ls).1:=⟨_,rfl⟩
     obtain ⟨U,hU⟩:∃ z,z=(sayL hf p c gs ls).2:=⟨_,rfl⟩
     rw[←hU] at HF hal ⊢;rw[←hG] at HF x2;have HGM:=hdd (And.intro hG hU);have hi1:¬((U.length:Int)<(ls.length:Int)):=by omega
     clear hW e hG hU hal hos hdk h64 hcd hkl hk hlt;go_wp2
     ((try simp only[Exit.inBlock,Exit.then]); refine bodyPost_ret (results_cell_tmp rfl _ _ (w.heap.size+1) _ _ (0,0) _ rfl HF.out.2 Tryz.underlying30 rfl (by kernel_rfl)) rfl ?_)
     exact HY.out _ _ HRB.out (by rw[←HGM.out.1,←HGM.out.2]; exact HF.out.1)
def DlDrawn (w:World) (e:Ending) (w':World):Prop:=
 ∃ (x c:Int) (gs:List Gs) (a1:Option Addr) (c1:Nat) (l:List UInt8),e=.returned (.tuple #[dkV x c (.slice a1 gs.length c1),.string ⟨l.toArray⟩]) ∧
  OwnG w.heap.size w' (.slice a1 gs.length c1) gs∧In64G gs∧gs.length≤5∧(∀ g∈gs,g.code.length≤10)∧l.length≤100∧Below w.heap.size w w'
theorem dl_fin {w w4:World} {x c:Int} {gs:List Gs} {l:List UInt8} {a1:Option Addr} {c1:Nat} (hR:w4.heap[w.heap.size]?=some (.cells #[.int .i64 0,.int .i64 0,.slice none 0 0] 30 (0,0)))
  (ho:OwnG w.heap.size w4 (.slice a1 gs.length c1) gs) (h64:In64G gs) (hl:gs.length≤5) (hcl:∀ g∈gs,g.code.length≤10) (hll:l.length≤100) (hb:Below w.heap.size w w4):
  DlDrawn w (.returned (.tuple #[dkV x c (.slice a1 gs.length c1),.string ⟨l.toArray⟩])) (((w4.setCell ⟨w.heap.size,0,none⟩ (.int .i64 x)).setCell ⟨w.heap.size,1,none⟩ (.int .i64 c)).setCell ⟨w.heap.size,2,none⟩ (.slice a1 gs.length c1)) ∧
   (((w4.setCell ⟨w.heap.size,0,none⟩ (.int .i64 x)).setCell ⟨w.heap.size,1,none⟩ (.int .i64 c)).setCell ⟨w.heap.size,2,none⟩ (.slice a1 gs.length c1)).heap[w.heap.size]?=some (.cells #[.int .i64 x,.int .i64 c,.slice a1 gs.length c1] 30 (0,0)):=by
 have q1:=heap_setCell_same _ _ 0 _ _ (.int .i64 x) hR;have q2:=heap_setCell_same _ _ 1 _ _ (.int .i64 c) q1;have q3:=heap_setCell_same _ _ 2 _ _ (.slice a1 gs.length c1) q2;exact ⟨⟨x,c,gs,a1,c1,l,rfl,((ho.otherD hR (by decide) (by decide)).otherD q1 (by decide) (by decide)).otherD q2 (by decide) (by decide),h64,hl,hcl,hll,
  ((hb.setCell (p:=⟨w.heap.size,0,none⟩) (by simp) _).setCell (p:=⟨w.heap.size,1,none⟩) (by simp) _).setCell (p:=⟨w.heap.size,2,none⟩) (by simp) _⟩,q3⟩
set_option maxHeartbeats 4000000 in
theorem drawDeskLine_any {B:Nat} (v:Value) (bs:List Int) (w:World) (h:Bytes B w v bs):
  Calls Tryz.prog 20 #[v] w (DlDrawn w):=by
 obtain ⟨a0,cap0,rfl,_⟩:=id h.1;rw[List.length_map] at h ⊢;obtain ⟨w1,hw1⟩:∃ w1,w1=w.alloc (.cells #[.int .i64 0,.int .i64 0,.slice none 0 0] 30):=⟨_,rfl⟩
 have hb1:Below w.heap.size w w1:=by rw[hw1]; exact (Below.refl _ _).alloc (Nat.le_refl _) _
 have hs1:w1.heap.size=w.heap.size+1:=by rw[hw1]; simp
 have hr1:w1.heap[w.heap.size]?=some (.cells #[.int .i64 0,.int .i64 0,.slice none 0 0] 30 (0,0)):=by rw[hw1]; exact heap_alloc_new w _
 have hO:=open_any _ bs w1 (h.below hb1);have HB1:=hdd hb1;have HR1:=hdd hr1;have HS1:=hdd hs1;clear h hb1 hr1 hs1;go_enter Tryz.func20,Tryz.ntmps20;go_wp2_with fail;rw[←hw1];clear hw1;refine hO.mono ?_;rintro e w2 ⟨a,cap,bs1,rfl,hR2,hb2⟩;have hz1:w.heap.size+1=w1.heap.size:=HS1.out.symm;have HB2:=hdd (HB1.out.trans (hb2.mono HB1.out.size));have HR2:=hdd ((hb2.block _ (Array.getElem?_eq_some_iff.1 HR1.out).1).trans HR1.out);have hz2:=hb2.size;have hG:=desk_any 12 w2 _ a cap bs1 0 hR2 (by omega) (by omega) (by omega);have hK2:=hR2.lt;clear hO hb2 hR2;go_wp2_with fail;refine hG.mono ?_;rintro e w3 ⟨x,c,gs,a',c',rfl,ho,h64,hl5,hx0,hx4,hc0,hc4,hcl,⟨p3,hR3,hp3⟩,hg3⟩;have HDK:=hdd (fun v=>show dkV x c v=.agg #[.int .i64 x,.int .i64 c,v] from rfl);rw[HDK.out];have hz3:=hg3.size;have HR3:=hdd ((hg3.block _ (Array.getElem?_eq_some_iff.1 HR2.out).1 (by simp; omega)).trans HR2.out);have HB3:=hdd (HB2.out.grown hg3 HB2.out.size (fun j hj=>by cases hj; omega));have HO3:=hdd ho;have H64:=hdd h64;have HCL:=hdd hcl;have HRD:=hdd (And.intro hR3 hp3);clear hG ho h64 hcl hR3 hg3 hp3;go_wp2;obtain ⟨wq,hwq⟩:∃ z,z=w3.alloc (.cells #[.int .i64 x,.int .i64 c,.slice a' gs.length c'] 30):=⟨_,rfl⟩
 have hbq:Below w3.heap.size w3 wq:=by rw[hwq]; exact (Below.refl _ _).alloc (Nat.le_refl _) _
 have hgq:wq.heap[w3.heap.size]?=some (.cells #[.int .i64 x,.int .i64 c,.slice a' gs.length c'] 30 (0,0)):=by rw[hwq]; exact heap_alloc_new w3 _
 rw[←hwq];obtain ⟨T,hT⟩:∃ z,z=w3.heap.size:=⟨_,rfl⟩
 rw[←hT] at hgq ⊢;have HRQ:=hdd ((hbq.block _ (Array.getElem?_eq_some_iff.1 HR3.out).1).trans HR3.out);have HOQ:=hdd (HO3.out.below hbq);have HBQ:=hdd (HB3.out.trans (hbq.mono HB3.out.size));obtain ⟨p3,hR3,hp3⟩:∃ p3,Rd wq w1.heap.size a cap bs1 p3∧p3≤0+110:=⟨_,HRD.out.1.below hbq,HRD.out.2⟩
 have hzT:T<wq.heap.size:=(Array.getElem?_eq_some_iff.1 hgq).1;have hTw:w1.heap.size<T:=by omega
 obtain ⟨t0,t1,t2⟩:=three_of hgq;have hn0:¬(w.heap.size=T):=by omega
 obtain ⟨z0,z1,z2,zf⟩:=zero_cellsD HRQ.out;have hzR:w.heap.size<wq.heap.size:=(Array.getElem?_eq_some_iff.1 HRQ.out).1;have hD:=line20_any x c a' gs.length c' wq.drew _ a cap bs1 p3 (hR3.drewN 1) (by omega) hx0 hx4 hc0 hc4;rw[HDK.out] at hD;clear hwq hgq hbq HR3 HO3 HB3 HRD hR3 hT;go_region_held3 (fun w'=>w'.cell? ⟨T,0,none⟩=some (.int .i64 x)∧w'.cell? ⟨T,1,none⟩=some (.int .i64 c)∧w'.cell? ⟨T,2,none⟩=some (.slice a' gs.length c'))
  (first
   | go_keep
   | (go_split_ands; exact ⟨(hg5.cell_far _ (by simp; omega) (by simp; omega)).trans (by assumption),(hg5.cell_far _ (by simp; omega) (by simp; omega)).trans (by assumption),(hg5.cell_far _ (by simp; omega) (by simp; omega)).trans (by assumption)⟩))
  (first
   | (go_at_call 64; refine hD.mono ?_; rintro e w5 ⟨l,rfl,hll,_,hg5⟩; have hg5':wq.grownBy w5 (some w1.heap.size):=(grown_of_below (Below.refl _ wq).drew).andThen hg5 (fun _ e=>by cases e; exact .inr rfl); have HR5:=hdd ((hg5'.block _ (Array.getElem?_eq_some_iff.1 HRQ.out).1 (by simp; omega)).trans HRQ.out); have HO5:=hdd (show OwnG w2.heap.size w5 _ _ from HOQ.out.keep (Above.of_grown hg5' (by omega))); have HB5:=hdd (HBQ.out.grown hg5' HBQ.out.size (fun j hj=>by cases hj; omega)); have hz5:=hg5'.size; obtain ⟨y0,y1,y2,yf⟩:=zero_cellsD HR5.out)
   | fail)
 have HF:=hdd (dl_fin (x:=x) (c:=c) HR5.out (HO5.out.mono (by omega)) H64.out hl5 HCL.out hll HB5.out);go_wp2
 ((try simp only[Exit.inBlock,Exit.then]); refine bodyPost_ret (results_cell_tmp rfl _ _ w.heap.size _ _ (0,0) _ rfl HF.out.2 Tryz.underlying30 rfl (by kernel_rfl)) rfl ?_)
 exact HF.out.1
def DsayDrawn (w:World) (e:Ending) (w':World):Prop:=
 ∃ (x c:Int) (gs:List Gs) (a1:Option Addr) (c1:Nat) (ls:List (List UInt8)) (a2:Option Addr) (c2:Nat),e=.returned (.tuple #[dkV x c (.slice a1 gs.length c1),.slice a2 ls.length c2]) ∧
  OwnG w.heap.size w' (.slice a1 gs.length c1) gs∧In64G gs∧gs.length≤5∧(∀ g∈gs,g.code.length≤10)∧OwnS w.heap.size w' (.slice a2 ls.length c2) ls∧ls.length≤41∧(∀ l∈ls,l.length≤100)∧Below w.heap.size w w'
theorem dsay_fin {w w4:World} {x c:Int} {gs:List Gs} {ls:List (List UInt8)} {a1 a2:Option Addr} {c1 c2:Nat} (hR:w4.heap[w.heap.size]?=some (.cells #[.int .i64 0,.int .i64 0,.slice none 0 0] 30 (0,0)))
  (ho:OwnG w.heap.size w4 (.slice a1 gs.length c1) gs) (h64:In64G gs) (hl:gs.length≤5) (hcl:∀ g∈gs,g.code.length≤10) (hs:OwnS w.heap.size w4 (.slice a2 ls.length c2) ls) (hll:ls.length≤41) (hlc:∀ l∈ls,l.length≤100) (hb:Below w.heap.size w w4):
  DsayDrawn w (.returned (.tuple #[dkV x c (.slice a1 gs.length c1),.slice a2 ls.length c2])) (((w4.setCell ⟨w.heap.size,0,none⟩ (.int .i64 x)).setCell ⟨w.heap.size,1,none⟩ (.int .i64 c)).setCell ⟨w.heap.size,2,none⟩ (.slice a1 gs.length c1)) ∧
   (((w4.setCell ⟨w.heap.size,0,none⟩ (.int .i64 x)).setCell ⟨w.heap.size,1,none⟩ (.int .i64 c)).setCell ⟨w.heap.size,2,none⟩ (.slice a1 gs.length c1)).heap[w.heap.size]?=some (.cells #[.int .i64 x,.int .i64 c,.slice a1 gs.length c1] 30 (0,0)):=by
 have q1:=heap_setCell_same _ _ 0 _ _ (.int .i64 x) hR;have q2:=heap_setCell_same _ _ 1 _ _ (.int .i64 c) q1;have q3:=heap_setCell_same _ _ 2 _ _ (.slice a1 gs.length c1) q2;exact ⟨⟨x,c,gs,a1,c1,ls,a2,c2,rfl,((ho.otherD hR (by decide) (by decide)).otherD q1 (by decide) (by decide)).otherD q2 (by decide) (by decide),h64,hl,hcl,((hs.other hR).other q1).other q2,hll,hlc,
  ((hb.setCell (p:=⟨w.heap.size,0,none⟩) (by simp) _).setCell (p:=⟨w.heap.size,1,none⟩) (by simp) _).setCell (p:=⟨w.heap.size,2,none⟩) (by simp) _⟩,q3⟩
def LsW (wq:World) (K:Nat) (a:Option Addr) (cap:Nat) (bs:List Int) (q:Int) (ao:Option Addr) (k co:Nat) (us:List (List UInt8)) (wi:World):Prop:=
 us.length=k∧OwnS wq.heap.size wi (.slice ao k co) us∧(∀ u∈us,u.length≤100)∧LnW wq K a cap bs q wi
theorem LsW.push {wq wi w7:World} {K:Nat} {a:Option Addr} {cap:Nat} {bs:List Int} {q:Int} {ao:Option Addr} {k co:Nat} {us:List (List UInt8)} (h:LsW wq K a cap bs q ao k co us wi) (hK:K<wq.heap.size) {o:Obj} {l:List UInt8} (hl:l.length≤100) {a7:Option Addr} {c7:Nat}
  (ho:OwnS wq.heap.size w7 (.slice a7 (k+1) c7) (us++[l])) (hg:(wi.alloc o).grownBy w7 (Value.slice ao k co).ownBlock):LsW wq K a cap bs q a7 (k+1) c7 (us++[l]) w7:=by
 obtain ⟨h1,h2,h3,⟨p,h4,h5⟩,h6⟩:=h;have hblk:∀ j,(Value.slice ao k co).ownBlock=some j→wq.heap.size≤j:=fun j hj=>(World.ownsRow.lt h2 j hj).1
 refine ⟨by simp[h1],ho,fun u hu=>?_,⟨p,rd_grown (h4.below ((Below.refl _ _).alloc (Nat.le_refl _) o)) hg (fun j hj=>by have:=hblk j hj; omega),h5⟩,
  (h6.andThen (World.grownBy_alloc wi o none) (fun _ e=>by cases e)).andThen hg (fun j hj=>.inl (by have:=hblk j hj; omega))⟩
 rcases List.mem_append.1 hu with hu | hu
 ·exact h3 u hu
 ·rw[List.mem_singleton.1 hu]; exact hl
theorem OwnS.keepW {B:Nat} {w w':World} {v:Value} {us:List (List UInt8)} (h:OwnS B w v us) (hA:Above B w w'):OwnS B w' v us:=owns_keep h hA
theorem Above.mono {B B':Nat} {w w':World} (h:Above B w w') (hB:B≤B'):Above B' w w':=fun b q1 q2=>h b (by omega) q2
set_option maxHeartbeats 4000000 in
theorem drawDeskSay_any {B:Nat} (v:Value) (bs:List Int) (w:World) (h:Bytes B w v bs):
  Calls Tryz.prog 24 #[v] w (DsayDrawn w):=by
 obtain ⟨a0,cap0,rfl,_⟩:=id h.1;rw[List.length_map] at h ⊢;obtain ⟨w1,hw1⟩:∃ w1,w1=w.alloc (.cells #[.int .i64 0,.int .i64 0,.slice none 0 0] 30):=⟨_,rfl⟩
 have hb1:Below w.heap.size w w1:=by rw[hw1]; exact (Below.refl _ _).alloc (Nat.le_refl _) _
 have hs1:w1.heap.size=w.heap.size+1:=by rw[hw1]; simp
 have hr1:w1.heap[w.heap.size]?=some (.cells #[.int .i64 0,.int .i64 0,.slice none 0 0] 30 (0,0)):=by rw[hw1]; exact heap_alloc_new w _
 have hO:=open_any _ bs w1 (h.below hb1);have HB1:=hdd hb1;have HR1:=hdd hr1;have HS1:=hdd hs1;clear h hb1 hr1 hs1;go_enter Tryz.func24,Tryz.ntmps24;go_wp2_with fail;rw[←hw1];clear hw1;refine hO.mono ?_;rintro e w2 ⟨a,cap,bs1,rfl,hR2,hb2⟩;have hz1:w.heap.size+1=w1.heap.size:=HS1.out.symm;have HB2:=hdd (HB1.out.trans (hb2.mono HB1.out.size));have HR2:=hdd ((hb2.block _ (Array.getElem?_eq_some_iff.1 HR1.out).1).trans HR1.out);have hz2:=hb2.size;have hG:=desk_any 12 w2 _ a cap bs1 0 hR2 (by omega) (by omega) (by omega);have hK2:=hR2.lt;clear hO hb2 hR2;go_wp2_with fail;refine hG.mono ?_;rintro e w3 ⟨x,c,gs,a',c',rfl,ho,h64,hl5,hx0,hx4,hc0,hc4,hcl,⟨p3,hR3,hp3⟩,hg3⟩;have HDK:=hdd (fun v=>show dkV x c v=.agg #[.int .i64 x,.int .i64 c,v] from rfl);rw[HDK.out];have hz3:=hg3.size;have HR3:=hdd ((hg3.block _ (Array.getElem?_eq_some_iff.1 HR2.out).1 (by simp; omega)).trans HR2.out);have HB3:=hdd (HB2.out.grown hg3 HB2.out.size (fun j hj=>by cases hj; omega));have HO3:=hdd ho;have H64:=hdd h64;have HCL:=hdd hcl;have HRD:=hdd (And.intro hR3 hp3);clear hG ho h64 hcl hR3 hg3 hp3;obtain ⟨wq,hwq⟩:∃ z,z=w3.alloc (.cells #[.int .i64 x,.int .i64 c,.slice a' gs.length c'] 30):=⟨_,rfl⟩
 have hbq:Below w3.heap.size w3 wq:=by rw[hwq]; exact (Below.refl _ _).alloc (Nat.le_refl _) _
 have hgq:wq.heap[w3.heap.size]?=some (.cells #[.int .i64 x,.int .i64 c,.slice a' gs.length c'] 30 (0,0)):=by rw[hwq]; exact heap_alloc_new w3 _
 have hsq:wq.heap.size=w3.heap.size+1:=by rw[hwq]; simp
 obtain ⟨T,hT⟩:∃ z,z=w3.heap.size:=⟨_,rfl⟩
 rw[←hT] at hgq hsq;have HGQ:=hdd hgq;have HRQ:=hdd ((hbq.block _ (Array.getElem?_eq_some_iff.1 HR3.out).1).trans HR3.out);have HOQ:=hdd (HO3.out.below hbq);have HBQ:=hdd (HB3.out.trans (hbq.mono HB3.out.size));obtain ⟨p3,hR3,hp3⟩:∃ p3,Rd wq w1.heap.size a cap bs1 p3∧p3≤0+110:=⟨_,HRD.out.1.below hbq,HRD.out.2⟩
 obtain ⟨wl,hwl⟩:∃ z,z=wq.alloc (.cells #[] 9):=⟨_,rfl⟩
 have hbl:Below wq.heap.size wq wl:=by rw[hwl]; exact (Below.refl _ _).alloc (Nat.le_refl _) _
 have hol:OwnS wq.heap.size wl (.slice (some ⟨wq.heap.size,0,none⟩) 0 0) []:=by rw[hwl]; exact OwnS.lit wq
 have hWl:LnW wq w1.heap.size a cap bs1 p3 wl:=⟨⟨p3,hR3.below hbl,by omega⟩,below_anyL hbl _⟩
 have hP:=hWl.pick (n:=7) (by omega) (by unfold In64; omega);have HOL:=hdd hol;have hzT:T<wq.heap.size:=by omega
 have hTw:w1.heap.size<T:=by omega
 have hKq:w1.heap.size<wq.heap.size:=by omega
 clear hgq hbq HR3 HO3 HB3 HRD hR3 hbl hol hWl;go_wp2_with fail;rw[←hwq,←hwl,←hT,show T+1=wq.heap.size from hsq.symm];clear hwq hwl hT;refine hP.mono ?_;rintro e w4 ⟨kk,rfl,hk0,hk1,hW4,hA4⟩;have hk1:=hk1 (by omega);have HW4:=hdd (show LsW wq w1.heap.size a cap bs1 (p3+1) (some ⟨wq.heap.size,0,none⟩) 0 0 [] w4 from ⟨rfl,HOL.out.keepW (hA4.mono (by omega)),fun u hu=>(by cases hu),hW4⟩);clear hP hW4 hA4 HOL;go_wp2;go_loopw [6,7] (fun lv kv wi=>∃ (k:Nat) (ao:Option Addr) (co:Nat) (us:List (List UInt8)),k≤6∧(k:Int)≤kk∧kv=.int .i64 (kk-k)∧lv=.slice ao k co∧LsW wq w1.heap.size a cap bs1 (p3+1+100*k) ao k co us wi) (fun _ kv _=>(intOf kv).toNat)
 case atStart=>exact ⟨0,_,0,[],by omega,by omega,by simp,rfl,by have q:=HW4.out; rw[hsq] at q; simpa using q⟩
 case round=>
  obtain ⟨k,ao,co,us,hk6,hkk,rfl,rfl,hul,hou,huc,hW⟩:=hrel;obtain ⟨wk,rfl⟩:∃ x,x=wr:=⟨_,rfl⟩
  clear HW4;have hgk:=(hW.2.block T hzT (by simp; omega)).trans HGQ.out;obtain ⟨t0,t1,t2⟩:=three_of hgk;have hzk:=hW.size;obtain ⟨⟨p9,hR9,hp9⟩,hg9⟩:=id hW
  by_cases hlt:0<kk-(k:Int)
  ·have hL:=line20_any x c a' gs.length c' wk _ a cap bs1 p9 hR9 (by omega) hx0 hx4 hc0 hc4
   rw[HDK.out] at hL;have HUL:=hdd hul;have HOU:=hdd hou;have HUC:=hdd huc;have HG9:=hdd hg9;clear hul hou huc hW hR9 hg9 hgk;go_wp2_with fail;refine hL.mono ?_;rintro e w5 ⟨l,rfl,hll,⟨⟨p5,hR5,hp5⟩,hg5⟩⟩;have hz5:=hg5.size;have HL5:=hdd (show LsW wq w1.heap.size a cap bs1 (p3+1+100*(k+1:Nat)) ao k co us w5 from ⟨HUL.out,HOU.out.keepW (Above.of_grown hg5 (by omega)),HUC.out,⟨⟨p5,hR5,by omega⟩,grown_trans HG9.out hg5⟩⟩);clear hL hR5 hg5 t0 t1 t2;go_wp2_with (at_builtin; refine wpList_push_str _ rfl (.tmp 19) (.tmp 23) rfl wq.heap.size (.slice ao k co) us rfl (World.ownsRow.alloc HL5.out.2.1 _) ⟨w5.heap.size,0,none⟩ 1 ⟨l.toArray⟩ l rfl (by simp) rfl (by rw[HUL.out]; omega) (by simp; omega) ?_; intro a7 c7 w7 ho7 hg7; rw[HUL.out] at ho7 ⊢; have HW7:=hdd (HL5.out.push hKq hll ho7 hg7); clear ho7 hg7);go_roundw
   case rel=>exact ⟨k+1,a7,c7,us++[l],by omega,by omega,by congr 1; go_num,rfl,HW7.out⟩
   case measure=>simp[intOf]; omega
  ·have hO:=odd_any 30 wk _ a cap bs1 p9 hR9 (by omega) (by unfold In64; omega)
   have HG9:=hdd hg9;have HOU:=hdd hou;have HUC:=hdd huc;have HUL:=hdd hul;clear hW hR9 hg9 hgk t0 t1 t2 hou huc hul;go_wp2_with fail;refine hO.mono ?_;rintro e w5 ⟨b,rfl,⟨p5,hR5,hp5⟩,hg5⟩;have hz5:=hg5.size;have hG5:=grown_trans HG9.out hg5;have hg5T:=(hG5.block T hzT (by simp; omega)).trans HGQ.out;have HR5:=hdd ((hG5.block _ (Array.getElem?_eq_some_iff.1 HRQ.out).1 (by simp; omega)).trans HRQ.out);have HO5:=hdd (show OwnG w2.heap.size w5 _ _ from HOQ.out.keep (Above.of_grown hG5 (by omega)));have HB5:=hdd (HBQ.out.grown hG5 HBQ.out.size (fun j hj=>by cases hj; omega));have HS5:=hdd (HOU.out.keepW (Above.of_grown hg5 (by omega)));have HG5:=hdd hg5T;have hq2:w.heap.size≤wq.heap.size:=by have:=HBQ.out.size; omega
   obtain ⟨y0,y1,y2,yf⟩:=zero_cellsD HR5.out;have hzR:w.heap.size<w5.heap.size:=(Array.getElem?_eq_some_iff.1 HR5.out).1;have hzT5:T<w5.heap.size:=by omega
   have hn0:¬(w.heap.size=T):=by omega
   clear hO hR5 hg5 hG5 hg5T
   cases b
   ·obtain ⟨t0,t1,t2⟩:=three_of HG5.out
    have HF:=hdd (dsay_fin (x:=x) (c:=c) (a2:=ao) (c2:=co) HR5.out (HO5.out.mono (by omega)) H64.out hl5 HCL.out (show OwnS w.heap.size w5 (.slice ao us.length co) us by rw[HUL.out]; exact HS5.out.mono hq2) (by rw[HUL.out]; omega) HUC.out HB5.out);rw[HUL.out] at HF;go_wp2
    ((try simp only[Exit.inBlock,Exit.then]); refine bodyPost_ret (results_cell_tmp rfl _ _ w.heap.size _ _ (0,0) _ rfl HF.out.2 Tryz.underlying30 rfl (by kernel_rfl)) rfl ?_)
    exact HF.out.1
   ·clear y0 y1 y2 yf
    go_wp2_with (at_make; refine wpList_make_strs _ rfl _ _ rfl _ _ 41 rfl rfl rfl rfl (by omega) ?_; intro w6 ho6 hb6 hs6; have HR6:=hdd ((hb6.block _ (Array.getElem?_eq_some_iff.1 HR5.out).1).trans HR5.out); have HG6:=hdd ((hb6.block _ hzT5).trans HG5.out); obtain ⟨t0,t1,t2⟩:=three_of HG6.out; obtain ⟨y0,y1,y2,yf⟩:=zero_cellsD HR6.out; have hzR6:w.heap.size<w6.heap.size:=(Array.getElem?_eq_some_iff.1 HR6.out).1; have hzT6:T<w6.heap.size:=(Array.getElem?_eq_some_iff.1 HG6.out).1; have HF:=hdd (dsay_fin (x:=x) (c:=c) (ls:=List.replicate 41 []) (a2:=some ⟨w5.heap.size,0,none⟩) (c2:=41) HR6.out ((HO5.out.below hb6).mono (by omega)) H64.out hl5 HCL.out (show OwnS w.heap.size w6 _ _ from ho6.mono (by omega)) (by simp) (fun u hu=>by rw[List.eq_of_mem_replicate hu]; simp) (HB5.out.trans (hb6.mono HB5.out.size))); rw[List.length_replicate] at HF; clear ho6 hb6 hs6)
    ((try simp only[Exit.inBlock,Exit.then]); refine bodyPost_ret (results_cell_tmp rfl _ _ w.heap.size _ _ (0,0) _ rfl HF.out.2 Tryz.underlying30 rfl (by kernel_rfl)) rfl ?_)
    exact HF.out.1
end
end Go.Proofs.YtenlngclocfnlaaGreatDoor
