/- Texts of this claim, put together: BunA, BunB, BunF, InRow, Alive, Least. -/
import Derived.Test.YtenlngclocfnlaaGreatDoorRows
import Derived.WalkKit
import Derived.WalkSpells
import Derived.WalkLawsBesides
import Derived.Below
import Derived.BigQuiet
import Derived.Lib.Hide
import Derived.Deep.QuietTactic
import Derived.Laws.OwnMore
import Derived.OneCell
import Derived.Maps.AppendAt
import Derived.Laws.BitsAllLaws
import Derived.Test.YtenlngclocfnlaaGreatDoorPdO
import Derived.Test.YtenlngclocfnlaaGreatDoorPdGD
namespace Go.Proofs.YtenlngclocfnlaaGreatDoor
set_option linter.unusedVariables false
section
open Go.RowKit
def In64 (n:Int):Prop:=-9223372036854775808≤n∧n≤9223372036854775807
def ints (xs:List Int):List Value:=xs.map (Value.int .i64)
@[simp] theorem ints_length (xs:List Int):(ints xs).length=xs.length:=by simp[ints]
@[simp] theorem ints_get (xs:List Int) (i:Nat) (h:i<(ints xs).length):(ints xs)[i]=.int .i64 (xs[i]'(by simpa using h)):=by simp[ints]
theorem ints_append (xs ys:List Int):ints (xs++ys)=ints xs++ints ys:=by simp[ints]
theorem ints_set (xs:List Int) (k:Nat) (n:Int):(ints xs).set k (.int .i64 n)=ints (xs.set k n):=by simp[ints,List.map_set]
def SL (B:Nat) (w:World) (v:Value) (vs:List Value):Prop:=
 ∃ a cap,v=.slice a vs.length cap∧vs.length≤cap∧cap≤9223372036854775807 ∧
  (0<vs.length→∃ b off,a=some ⟨b,off,none⟩∧B≤b∧∀ i (h:i<vs.length),w.cell? ⟨b,off+i,none⟩=some vs[i])
def Above (B:Nat) (w w':World):Prop:=∀ b,B≤b→b<w.heap.size→w'.heap[b]?=w.heap[b]?
theorem Above.refl (B:Nat) (w:World):Above B w w:=fun _ _ _=>rfl
theorem Above.of_below {B:Nat} {w w':World} (h:Below w.heap.size w w'):Above B w w':=fun b _ hb=>h.block b hb
theorem Above.of_grown {B:Nat} {w w':World} {K:Nat} (h:w.grownBy w' (some K)) (hK:K<B):Above B w w':=fun b h1 h2=>h.block b h2 (by simp; omega)
theorem Above.cell {B:Nat} {w w':World} (h:Above B w w') {p:Addr} {u:Value} (hp:B≤p.block) (hc:w.cell? p=some u):w'.cell? p=some u:=by
 rw[World.cell?_of_block (w:=w) (h p.block hp (World.block_lt_of_cell? w p hc))];exact hc
theorem SL.nil (B:Nat) (w:World):SL B w (.slice none 0 0) []:=⟨none,0,rfl,by simp,by simp,by simp⟩
theorem SL.keep {B:Nat} {w w':World} {v:Value} {vs:List Value} (h:SL B w v vs) (hs:Above B w w'):SL B w' v vs:=by
 obtain ⟨a,cap,h1,h2,h3,h4⟩:=h;refine ⟨a,cap,h1,h2,h3,fun hp=>?_⟩;obtain ⟨b,off,h5,hb,h6⟩:=h4 hp;exact ⟨b,off,h5,hb,fun i hi=>hs.cell (by exact hb) (h6 i hi)⟩
theorem SL.below {B:Nat} {w w':World} {v:Value} {vs:List Value} (h:SL B w v vs) (hb:Below w.heap.size w w'):SL B w' v vs:=h.keep (.of_below hb)
theorem SL.mono {B B':Nat} {w:World} {v:Value} {vs:List Value} (h:SL B w v vs) (hb:B'≤B):SL B' w v vs:=by
 obtain ⟨a,cap,h1,h2,h3,h4⟩:=h;refine ⟨a,cap,h1,h2,h3,fun hp=>?_⟩;obtain ⟨b,off,h5,hb,h6⟩:=h4 hp;exact ⟨b,off,h5,by omega,h6⟩
def Ints (B:Nat) (w:World) (v:Value) (xs:List Int):Prop:=SL B w v (ints xs)∧∀ x∈xs,In64 x
theorem Ints.nil (B:Nat) (w:World):Ints B w (.slice none 0 0) []:=⟨SL.nil B w,by simp⟩
theorem Ints.keep {B:Nat} {w w':World} {v:Value} {xs:List Int} (h:Ints B w v xs) (hs:Above B w w'):Ints B w' v xs:=⟨h.1.keep hs,h.2⟩
theorem Ints.below {B:Nat} {w w':World} {v:Value} {xs:List Int} (h:Ints B w v xs) (hb:Below w.heap.size w w'):Ints B w' v xs:=⟨h.1.below hb,h.2⟩
theorem Ints.mono {B B':Nat} {w:World} {v:Value} {xs:List Int} (h:Ints B w v xs) (hb:B'≤B):Ints B' w v xs:=⟨h.1.mono hb,h.2⟩
theorem Ints.opened {B:Nat} {w:World} {v:Value} {xs:List Int} (h:Ints B w v xs):
  ∃ a cap,v=.slice a xs.length cap∧xs.length≤cap∧cap≤9223372036854775807 ∧
   (0<xs.length→∃ b off,a=some ⟨b,off,none⟩∧B≤b∧∀ i (h:i<xs.length),w.cell? ⟨b,off+i,none⟩=some (.int .i64 xs[i])):=by
 obtain ⟨⟨a,cap,h1,h2,h3,h4⟩,_⟩:=h;simp only[ints_length] at h1 h2 h4;refine ⟨a,cap,h1,h2,h3,fun hp=>?_⟩;obtain ⟨b,off,h5,hb,h6⟩:=h4 hp;exact ⟨b,off,h5,hb,fun i hi=>by simpa using h6 i hi⟩
def Rows2 (B:Nat) (w:World) (v:Value) (xss:List (List Int)):Prop:=
 ∃ vs,SL B w v vs∧vs.length=xss.length∧∀ i (h:i<vs.length) (h':i<xss.length),Ints B w vs[i] xss[i]
theorem Rows2.keep {B:Nat} {w w':World} {v:Value} {xss:List (List Int)} (h:Rows2 B w v xss) (hs:Above B w w'):Rows2 B w' v xss:=by
 obtain ⟨vs,h1,h2,h3⟩:=h;exact ⟨vs,h1.keep hs,h2,fun i h h'=>(h3 i h h').keep hs⟩
theorem Rows2.below {B:Nat} {w w':World} {v:Value} {xss:List (List Int)} (h:Rows2 B w v xss) (hb:Below w.heap.size w w'):Rows2 B w' v xss:=h.keep (.of_below hb)
theorem Rows2.opened {B:Nat} {w:World} {v:Value} {xss:List (List Int)} (h:Rows2 B w v xss):
  ∃ a cap,v=.slice a xss.length cap∧xss.length≤cap∧cap≤9223372036854775807∧∃ V:Nat→Value,
   (0<xss.length→∃ b off,a=some ⟨b,off,none⟩∧B≤b∧∀ i,i<xss.length→w.cell? ⟨b,off+i,none⟩=some (V i)) ∧
   ∀ i (h:i<xss.length),Ints B w (V i) xss[i]:=by
 obtain ⟨vs,⟨a,cap,h1,h2,h3,h4⟩,hl,hr⟩:=h;rw[hl] at h1 h2;refine ⟨a,cap,h1,h2,h3,fun i=>vs.getD i undef,fun hp=>?_,fun i hi=>?_⟩
 ·obtain ⟨b,off,h5,hb,h6⟩:=h4 (by omega)
  refine ⟨b,off,h5,hb,fun i hi=>?_⟩;have hi':i<vs.length:=by omega
  rw[h6 i hi'];simp[List.getD,List.getElem?_eq_getElem hi']
 ·have hi':i<vs.length:=by omega
  have:=hr i hi' hi
  simpa [List.getD,List.getElem?_eq_getElem hi'] using this
theorem ret_int {k:IntKind} {a b:Int} (h:a=b):Ending.returned (.int k a)=.returned (.int k b):=by rw[h]
theorem ret_bool {a b:Bool} (h:a=b):Ending.returned (.bool a)=.returned (.bool b):=by rw[h]
theorem infoInt:(Tryz.prog.info? 3).map (fun i=>(i.zero,i.size,i.bytes))=some (some (.int .i64 0),1,8):=by kernel_rfl
theorem infoInts:(Tryz.prog.info? 37).map (fun i=>(i.zero,i.size,i.bytes))=some (some (.slice none 0 0),1,24):=by kernel_rfl
def OwnI (B:Nat) (w:World) (v:Value) (xs:List Int):Prop:=w.ownsRow B 3 1 v xs.length (ints xs)
def OwnII (B:Nat) (w:World) (v:Value) (xss:List (List Int)):Prop:=
 ∃ vs,w.ownsRow B 37 1 v vs.length vs∧vs.length=xss.length∧(∀ i (h:i<vs.length) (h':i<xss.length),OwnI B w vs[i] xss[i]) ∧
  ∀ i j (hi:i<vs.length) (hj:j<vs.length),i≠j→vs[i].ownBlock=none∨vs[i].ownBlock≠vs[j].ownBlock
theorem sl_of_own {B:Nat} {w:World} {e:TypeId} {v:Value} {vs:List Value} (h:w.ownsRow B e 1 v vs.length vs):SL B w v vs:=by
 obtain ⟨_,h⟩:=h
 rcases h with ⟨rfl,h0⟩ | ⟨g,cap,cur,rfl,hb,hg,h1,h2,h3,h4⟩
 ·exact ⟨none,0,by rw[h0],by omega,by omega,by omega⟩
 ·refine ⟨_,cap,rfl,h1,h2,fun _=>⟨g,0,rfl,hb,fun i hi=>?_⟩⟩
  rw[Nat.zero_add,cell_of_row w g i cur e (0,0) hg];have:vs[i]?=some vs[i]:=List.getElem?_eq_getElem hi;rw[←this,←h4,List.getElem?_take,if_pos (by omega)];simp
theorem OwnI.toInts {B:Nat} {w:World} {v:Value} {xs:List Int} (h:OwnI B w v xs) (hr:∀ x∈xs,In64 x):Ints B w v xs:=
 ⟨sl_of_own (by rw[ints_length]; exact h),hr⟩
theorem OwnII.rows {B:Nat} {w:World} {v:Value} {xss:List (List Int)} (h:OwnII B w v xss) (hr:∀ xs∈xss,∀ x∈xs,In64 x):Rows2 B w v xss:=by
 obtain ⟨vs,h1,h2,h3,_⟩:=h;exact ⟨vs,sl_of_own h1,h2,fun i hi hi'=>(h3 i hi hi').toInts (hr _ (List.getElem_mem _))⟩
theorem owns_keep {B:Nat} {w w':World} {e:TypeId} {size:Nat} {v:Value} {n:Nat} {vs:List Value} (h:w.ownsRow B e size v n vs) (hs:Above B w w'):w'.ownsRow B e size v n vs:=by
 refine ⟨h.1,?_⟩
 rcases h.2 with h2 | ⟨g,cap,cur,hv,hb,hg,r⟩
 ·exact .inl h2
 ·exact .inr ⟨g,cap,cur,hv,hb,by rw[hs g hb (Array.getElem?_eq_some_iff.1 hg).1]; exact hg,r⟩
theorem owns_mono {B B':Nat} {w:World} {e:TypeId} {size:Nat} {v:Value} {n:Nat} {vs:List Value} (h:w.ownsRow B e size v n vs) (hB:B'≤B):w.ownsRow B' e size v n vs:=by
 refine ⟨h.1,?_⟩
 rcases h.2 with h2 | ⟨g,cap,cur,hv,hb,hg,r⟩
 ·exact .inl h2
 ·exact .inr ⟨g,cap,cur,hv,by omega,hg,r⟩
theorem OwnI.keep {B:Nat} {w w':World} {v:Value} {xs:List Int} (h:OwnI B w v xs) (hs:Above B w w'):OwnI B w' v xs:=owns_keep h hs
theorem OwnII.keep {B:Nat} {w w':World} {v:Value} {xss:List (List Int)} (h:OwnII B w v xss) (hs:Above B w w'):OwnII B w' v xss:=by
 obtain ⟨vs,h1,h2,h3,h4⟩:=h;exact ⟨vs,owns_keep h1 hs,h2,fun i hi hi'=>owns_keep (h3 i hi hi') hs,h4⟩
theorem OwnII.mono {B B':Nat} {w:World} {v:Value} {xss:List (List Int)} (h:OwnII B w v xss) (hB:B'≤B):OwnII B' w v xss:=by
 obtain ⟨vs,h1,h2,h3,h4⟩:=h;exact ⟨vs,owns_mono h1 hB,h2,fun i hi hi'=>owns_mono (h3 i hi hi') hB,h4⟩
theorem own_apart {w:World} {B B':Nat} {e e':TypeId} {s s':Nat} {v v':Value} {n n':Nat} {xs xs':List Value}
  (h:w.ownsRow B e s v n xs) (h':w.ownsRow B' e' s' v' n' xs') (he:e≠e'):v.ownBlock=none∨v.ownBlock≠v'.ownBlock:=by
 rcases h.2 with ⟨rfl,_⟩ | ⟨g,cap,cur,rfl,_,hg,_⟩
 ·left; rfl
 ·right
  rcases h'.2 with ⟨rfl,_⟩ | ⟨g',cap',cur',rfl,_,hg',_⟩
  ·simp[Value.ownBlock]
  ·simp only[Value.ownBlock,ne_eq,Option.some.injEq]
   rintro rfl;rw[hg] at hg';simp at hg';exact he hg'.2
theorem grownBy_setCell (w:World) (p:Addr) (u:Value):w.grownBy (w.setCell p u) (some p.block):=
 ⟨rfl,rfl,rfl,by simp[World.setCell],fun k _ hk=>Below.heap_setCell w p u k (by simpa using hk)⟩
theorem keep_cf {w w':World} {p:Addr} {u:Value} (hb:Below w.heap.size w w') (hc:w.cell? p=some u) (hf:w.frozen? p=false):w'.cell? p=some u∧w'.frozen? p=false:=
 have h:=World.block_lt_of_cell? w p hc
 ⟨(hb.cell h).trans hc,(hb.frozen h).trans hf⟩
theorem own_head {w:World} {B:Nat} {e:TypeId} {s:Nat} {v:Value} {n:Nat} {xs:List Value} (h:w.ownsRow B e s v n xs) (hn:0<n):
  ∃ g cap,v=.slice (some ⟨g,0,none⟩) n cap∧B≤g∧g<w.heap.size∧n≤cap∧cap≤maxLen:=by
 rcases h.2 with h | ⟨g,cap,cur,rfl,hb,hg,h1,h2,_⟩
 ·omega
 ·exact ⟨g,cap,rfl,hb,(Array.getElem?_eq_some_iff.1 hg).1,h1,h2⟩
theorem own_shape {w:World} {B:Nat} {e:TypeId} {s:Nat} {v:Value} {n:Nat} {xs:List Value} (h:w.ownsRow B e s v n xs):
  ∃ a cap,v=.slice a n cap∧n≤cap∧cap≤maxLen:=by
 rcases h.2 with ⟨rfl,rfl⟩ | ⟨g,cap,cur,rfl,hb,hg,h1,h2,_⟩
 ·exact ⟨none,0,rfl,by omega,by simp[maxLen]⟩
 ·exact ⟨_,cap,rfl,h1,h2⟩
theorem OwnI.opened {B:Nat} {w:World} {v:Value} {xs:List Int} (h:OwnI B w v xs):
  ∃ a cap,v=.slice a xs.length cap∧xs.length≤cap∧cap≤9223372036854775807 ∧
   (0<xs.length→∃ g,a=some ⟨g,0,none⟩∧B≤g∧(∀ i (h:i<xs.length),w.cell? ⟨g,i,none⟩=some (.int .i64 xs[i]))∧∀ i,w.frozen? ⟨g,i,none⟩=false):=by
 obtain ⟨a,cap,rfl,h1,h2⟩:=own_shape h;refine ⟨a,cap,rfl,h1,by simpa [maxLen] using h2,fun hn=>?_⟩;obtain ⟨g,cap',he,hb,_⟩:=own_head h hn;injection he with e1 _ e3;subst e1 e3;refine ⟨g,rfl,hb,fun i hi=>?_,fun i=>World.ownsRow.frozenAt h i⟩;have h':w.ownsRow B 3 1 (.slice (some ⟨g,0,none⟩) xs.length cap) xs.length (ints xs):=h;rw[World.ownsRow.cellAt h' i (by omega),List.getElem?_eq_getElem (by simpa using hi),ints_get]
theorem OwnI.at {B:Nat} {w:World} {g n cap:Nat} {xs:List Int} (h:OwnI B w (.slice (some ⟨g,0,none⟩) n cap) xs) (k:Nat) (hk:k<xs.length):
  (∃ u,w.cell? ⟨g,k,none⟩=some (.int .i64 u))∧w.frozen? ⟨g,k,none⟩=false:=by
 obtain ⟨a,cap',he,_,_,hd⟩:=h.opened;injection he with e1 _ _;subst e1;obtain ⟨g',hg,_,hc,hf⟩:=hd (by omega);injection hg with hg;injection hg with hg _ _;subst hg;exact ⟨⟨_,hc k hk⟩,hf k⟩
theorem OwnI.set {B:Nat} {w:World} {g n cap:Nat} {xs:List Int} (h:OwnI B w (.slice (some ⟨g,0,none⟩) n cap) xs) (k:Nat) (u:Int):
  OwnI B (w.setCell ⟨g,k,none⟩ (.int .i64 u)) (.slice (some ⟨g,0,none⟩) n cap) (xs.set k u):=by
 obtain ⟨a,cap',he,_⟩:=own_shape h;injection he with _ e2 _;subst e2;have:=(World.ownsRow.stored h k (.int .i64 u)).1;unfold OwnI;rw[List.length_set,←ints_set];exact this
theorem own_zeros_int {w:World} {B n:Nat} {v:Value} (h:w.ownsRow B 3 1 v n (madeCells (Value.int .i64 0).cells (n*1)).toList):OwnI B w v (List.replicate n 0):=by
 unfold OwnI;rw[List.length_replicate];have e:ints (List.replicate n 0)=(madeCells (Value.int .i64 0).cells (n*1)).toList:=by
  rw[Nat.mul_one,show (Value.int .i64 0).cells=#[Value.int .i64 0] from rfl,toList_madeCells_one]; simp[ints]
 rw[e];exact h
theorem wpList_make_ints (w:World) {ops:Array Oper} {rest:List Oper} {o:Oper} {a:Act} {Q:Exit→Act→World→Prop}
  (hg:o.guard=none) (l c:Operand) (hop:o.op=Op.makeSlice 37 l c)
  (L C:Int) (n:Nat) (hl:a.eval l=.int .i64 L) (hc:a.eval c=.int .i64 C) (hL:L=(n:Int)) (hC:C=(n:Int)) (b2:n≤1099511627776)
  (hK:∀ w',OwnI w.heap.size w' (.slice (some ⟨w.heap.size,0,none⟩) n n) (List.replicate n 0)→Below w.heap.size w w'→w.heap.size<w'.heap.size →
   wpList Tryz.prog ops Q rest (a.put o.dst (.slice (some ⟨w.heap.size,0,none⟩) n n)) w'):
  wpList Tryz.prog ops Q (o::rest) a w:=by
 obtain ⟨i0,hi,hz0,hz1,hz2⟩:=info_parts infoInt;refine wpList_make_full w hg l c 37 hop w.heap.size 3 i0 (.int .i64 0) 1 Tryz.underlying37 hi hz0 hz1 .i64 .i64 L C n hl hc hL hC (by rw[hz2]; omega) (by unfold maxLen; omega) (Nat.le_refl _) ?_;intro w' h1 h2;refine hK w' (own_zeros_int h1) ((Below.refl _ w).grown h2 (Nat.le_refl _) (by simp)) ?_;exact (World.ownsRow.lt h1 _ rfl).2
theorem OwnII.opened {B:Nat} {w:World} {v:Value} {xss:List (List Int)} (h:OwnII B w v xss):
  ∃ a cap,v=.slice a xss.length cap∧xss.length≤cap∧cap≤9223372036854775807∧∃ V:Nat→Value,
   (0<xss.length→∃ g,a=some ⟨g,0,none⟩∧B≤g∧(∀ i,i<xss.length→w.cell? ⟨g,i,none⟩=some (V i))∧∀ i,w.frozen? ⟨g,i,none⟩=false) ∧
   ∀ i (h:i<xss.length),OwnI B w (V i) xss[i]:=by
 obtain ⟨vs,h1,h2,h3,h4⟩:=h;obtain ⟨a,cap,rfl,h5,h6⟩:=own_shape h1;refine ⟨a,cap,by rw[h2],by omega,by simpa [maxLen] using h6,fun i=>vs.getD i undef,fun hn=>?_,fun i hi=>?_⟩
 ·obtain ⟨g,cap',he,hb,_⟩:=own_head h1 (by omega)
  injection he with e1 _ e3;subst e1 e3;refine ⟨g,rfl,hb,fun i hi=>?_,fun i=>World.ownsRow.frozenAt h1 i⟩;rw[World.ownsRow.cellAt h1 i (by omega)];simp[List.getD,List.getElem?_eq_getElem (show i<vs.length by omega)]
 ·have:=h3 i (by omega) hi
  simpa [List.getD,List.getElem?_eq_getElem (show i<vs.length by omega)] using this
theorem OwnII.setRow {B:Nat} {w:World} {g n cap:Nat} {xss:List (List Int)} (h:OwnII B w (.slice (some ⟨g,0,none⟩) n cap) xss) (k:Nat) {r:Value} {xs:List Int}
  (hr:OwnI B w r xs) (hf:∀ i u,i<xss.length→w.cell? ⟨g,i,none⟩=some u→u.ownBlock=none∨r.ownBlock=none∨u.ownBlock≠r.ownBlock):
  OwnII B (w.setCell ⟨g,k,none⟩ r) (.slice (some ⟨g,0,none⟩) n cap) (xss.set k xs):=by
 obtain ⟨vs,h1,h2,h3,h4⟩:=h;obtain ⟨a,cap',he,_⟩:=own_shape h1;injection he with _ e2 _;subst e2;have hst:=(World.ownsRow.stored h1 k r).1;have hcell:∀ i (hi:i<vs.length),w.cell? ⟨g,i,none⟩=some vs[i]:=fun i hi=>by
  rw[World.ownsRow.cellAt h1 i (by omega),List.getElem?_eq_getElem hi]
 have hkeep:∀ u ys,OwnI B w u ys→OwnI B (w.setCell ⟨g,k,none⟩ r) u ys:=fun u ys hu=>by
  refine World.ownsRow.kept hu (grownBy_setCell w ⟨g,k,none⟩ r) ?_;have:=own_apart hu h1 (by decide)
  simpa [Value.ownBlock] using this
 refine ⟨vs.set k r,by rw[List.length_set]; exact hst,by simpa using h2,fun i hi hi'=>?_,fun i j hi hj hij=>?_⟩
 ·rw[List.getElem_set,List.getElem_set]
  split
  ·exact hkeep _ _ hr
  ·exact hkeep _ _ (h3 i (by simpa using hi) (by simpa using hi'))
 ·simp only[List.length_set] at hi hj
  rw[List.getElem_set,List.getElem_set]
  split
  ·split
   ·omega
   ·have:=hf j _ (by omega) (hcell j hj)
    rcases this with h | h | h
    ·rw[h]; by_cases e:r.ownBlock=none
     ·exact .inl e
     ·exact .inr e
    ·exact .inl h
    ·exact .inr (fun e=>h e.symm)
  ·split
   ·have:=hf i _ (by omega) (hcell i hi)
    rcases this with h | h | h
    ·exact .inl h
    ·rw[h]; by_cases e:vs[i].ownBlock=none
     ·exact .inl e
     ·exact .inr e
    ·exact .inr h
   ·exact h4 i j hi hj hij
theorem OwnII.turnRow {B:Nat} {w w':World} {v:Value} {xss:List (List Int)} {vs:List Value} {k:Nat} {xs:List Int}
  (h1:w.ownsRow B 37 1 v vs.length vs) (h2:vs.length=xss.length) (h3:∀ i (h:i<vs.length) (h':i<xss.length),OwnI B w vs[i] xss[i])
  (h4:∀ i j (hi:i<vs.length) (hj:j<vs.length),i≠j→vs[i].ownBlock=none∨vs[i].ownBlock≠vs[j].ownBlock) (hk:k<vs.length)
  (hg:w.grownBy w' vs[k].ownBlock) (hr:OwnI B w' vs[k] xs):
  w'.ownsRow B 37 1 v vs.length vs∧vs.length=(xss.set k xs).length∧∀ i (h:i<vs.length) (h':i<(xss.set k xs).length),OwnI B w' vs[i] (xss.set k xs)[i]:=by
 refine ⟨World.ownsRow.kept h1 hg ?_,by simpa using h2,fun i hi hi'=>?_⟩
 ·exact own_apart h1 (h3 k hk (by omega)) (by decide)
 ·rw[List.getElem_set]
  split
  ·rename_i e; subst e; exact hr
  ·rename_i e
   exact World.ownsRow.kept (h3 i hi (by simpa using hi')) hg (h4 i k hi hk (fun e'=>e e'.symm))
theorem owns_below {B:Nat} {w w':World} {e:TypeId} {size:Nat} {v:Value} {n:Nat} {vs:List Value} (h:w.ownsRow B e size v n vs) (hb:Below w.heap.size w w'):w'.ownsRow B e size v n vs:=owns_keep h (.of_below hb)
theorem OwnI.below {B:Nat} {w w':World} {v:Value} {xs:List Int} (h:OwnI B w v xs) (hb:Below w.heap.size w w'):OwnI B w' v xs:=owns_below h hb
theorem OwnI.mono {B B':Nat} {w:World} {v:Value} {xs:List Int} (h:OwnI B w v xs) (hB:B'≤B):OwnI B' w v xs:=owns_mono h hB
theorem OwnII.below {B:Nat} {w w':World} {v:Value} {xss:List (List Int)} (h:OwnII B w v xss) (hb:Below w.heap.size w w'):OwnII B w' v xss:=h.keep (.of_below hb)
theorem OwnII.setFresh {B:Nat} {w w2:World} {g n cap:Nat} {xss:List (List Int)} (h:OwnII B w (.slice (some ⟨g,0,none⟩) n cap) xss) (hb:Below w.heap.size w w2) (hB:B≤w.heap.size)
  (k:Nat) {r:Value} {xs:List Int} (hr:OwnI w.heap.size w2 r xs):
  OwnII B (w2.setCell ⟨g,k,none⟩ r) (.slice (some ⟨g,0,none⟩) n cap) (xss.set k xs):=by
 refine (h.below hb).setRow k (hr.mono hB) ?_;intro i u hix hu
 by_cases hn:r.ownBlock=none
 ·exact .inr (.inl hn)
 obtain ⟨m,hm⟩:=Option.ne_none_iff_exists'.1 hn;have h2:=(World.ownsRow.lt hr m hm).1;obtain ⟨vs,h3,h4,h5,_⟩:=h;obtain ⟨a,cap',he,_⟩:=own_shape h3;injection he with _ e2 _;subst e2;have hi:i<vs.length:=by omega
 have hc:w.cell? ⟨g,i,none⟩=some vs[i]:=by rw[World.ownsRow.cellAt h3 i (by omega),List.getElem?_eq_getElem hi]
 have hc2:=(Above.of_below (B:=0) hb).cell (Nat.zero_le _) hc;rw[hu] at hc2;injection hc2 with hc2;subst hc2
 by_cases hn':vs[i].ownBlock=none
 ·exact .inl hn'
 ·obtain ⟨m',hm'⟩:=Option.ne_none_iff_exists'.1 hn'
  have:=(World.ownsRow.lt (h5 i hi (by omega)) m' hm').2;exact .inr (.inr (by rw[hm,hm']; simp; omega))
theorem OwnI.empty (B:Nat) (w:World):OwnI B w (.slice none 0 0) []:=World.ownsRow_nil w B 3 1
theorem OwnII.empty (B:Nat) (w:World):OwnII B w (.slice none 0 0) []:=⟨[],World.ownsRow_nil w B 37 1,rfl,by simp,by simp⟩
theorem OwnII.lit (w:World):OwnII w.heap.size (w.alloc (.cells #[] 37)) (.slice (some ⟨w.heap.size,0,none⟩) 0 0) []:=
 ⟨[],World.ownsRow_made w #[] 0 (Nat.le_refl _) (by simp[maxLen]) rfl,rfl,by simp,by simp⟩
theorem OwnI.lit (w:World):OwnI w.heap.size (w.alloc (.cells #[] 3)) (.slice (some ⟨w.heap.size,0,none⟩) 0 0) []:=
 World.ownsRow_made w #[] 0 (Nat.le_refl _) (by simp[maxLen]) rfl
theorem own_nils {w:World} {B n:Nat} {v:Value} (h:w.ownsRow B 37 1 v n (madeCells (Value.slice none 0 0).cells (n*1)).toList):OwnII B w v (List.replicate n []):=by
 rw[Nat.mul_one,show (Value.slice none 0 0).cells=#[Value.slice none 0 0] from rfl,toList_madeCells_one] at h;refine ⟨List.replicate n (.slice none 0 0),by simpa using h,by simp,fun i hi hi'=>?_,fun i j hi hj _=>?_⟩
 ·simp only[List.getElem_replicate]
  exact OwnI.empty B w
 ·left
  simp[Value.ownBlock]
theorem wpList_make_rows (w:World) {ops:Array Oper} {rest:List Oper} {o:Oper} {a:Act} {Q:Exit→Act→World→Prop}
  (hg:o.guard=none) (l c:Operand) (hop:o.op=Op.makeSlice 79 l c)
  (L C:Int) (n:Nat) (hl:a.eval l=.int .i64 L) (hc:a.eval c=.int .i64 C) (hL:L=(n:Int)) (hC:C=(n:Int)) (b2:n≤1099511627776)
  (hK:∀ w',OwnII w.heap.size w' (.slice (some ⟨w.heap.size,0,none⟩) n n) (List.replicate n [])→Below w.heap.size w w'→w.heap.size<w'.heap.size →
   wpList Tryz.prog ops Q rest (a.put o.dst (.slice (some ⟨w.heap.size,0,none⟩) n n)) w'):
  wpList Tryz.prog ops Q (o::rest) a w:=by
 obtain ⟨i0,hi,hz0,hz1,hz2⟩:=info_parts infoInts;refine wpList_make_full w hg l c 79 hop w.heap.size 37 i0 (.slice none 0 0) 1 Tryz.underlying79 hi hz0 hz1 .i64 .i64 L C n hl hc hL hC (by rw[hz2]; omega) (by unfold maxLen; omega) (Nat.le_refl _) ?_;intro w' h1 h2;refine hK w' (own_nils h1) ((Below.refl _ w).grown h2 (Nat.le_refl _) (by simp)) ?_;exact (World.ownsRow.lt h1 _ rfl).2
theorem OwnII.at {B:Nat} {w:World} {g n cap:Nat} {xss:List (List Int)} (h:OwnII B w (.slice (some ⟨g,0,none⟩) n cap) xss) (k:Nat) (hk:k<xss.length):
  (∃ u,w.cell? ⟨g,k,none⟩=some u∧OwnI B w u xss[k])∧w.frozen? ⟨g,k,none⟩=false:=by
 obtain ⟨a,cap',he,_,_,V,hd,hV⟩:=h.opened;injection he with e1 _ _;subst e1;obtain ⟨g',hg,_,hc,hf⟩:=hd (by omega);injection hg with hg;injection hg with hg _ _;subst hg;exact ⟨⟨_,hc k hk,hV k hk⟩,hf k⟩
theorem OwnII.elem {B:Nat} {w:World} {g n cap:Nat} {xss:List (List Int)} (h:OwnII B w (.slice (some ⟨g,0,none⟩) n cap) xss) (i:Nat) (hi:i<xss.length) (hp:0<xss[i].length):
  ∃ g' cap',w.cell? ⟨g,i,none⟩=some (.slice (some ⟨g',0,none⟩) xss[i].length cap')∧B≤g'∧xss[i].length≤cap'∧cap'≤9223372036854775807∧(∀ k (h:k<xss[i].length),w.cell? ⟨g',k,none⟩=some (.int .i64 xss[i][k])) ∧
   (∀ k,w.frozen? ⟨g',k,none⟩=false)∧∀ k x,OwnII B (w.setCell ⟨g',k,none⟩ (.int .i64 x)) (.slice (some ⟨g,0,none⟩) n cap) (xss.set i (xss[i].set k x)):=by
 obtain ⟨vs,h1,h2,h3,h4⟩:=h;obtain ⟨a,cap',he,_⟩:=own_shape h1;injection he with _ e2 _;subst e2;have hi':i<vs.length:=by omega
 have hr:=h3 i hi' hi;obtain ⟨g',cap',hv,hB,_,hc1,hc2⟩:=own_head hr hp;obtain ⟨a,cap'',he,_,_,hd⟩:=hr.opened;have hc:w.cell? ⟨g,i,none⟩=some vs[i]:=by rw[World.ownsRow.cellAt h1 i (by omega),List.getElem?_eq_getElem hi']
 rw[hv] at he;injection he with e1 _ _;subst e1;obtain ⟨g'',hg,_,hcell,hfr⟩:=hd hp;injection hg with hg;injection hg with hg _ _;subst hg;refine ⟨g',cap',by rw[hc,hv],hB,hc1,by simpa [maxLen] using hc2,hcell,hfr,fun k x=>?_⟩;have hr':=hr;rw[hv] at hr';have hst:=hr'.set k x;rw[←hv] at hst;have:=OwnII.turnRow h1 h2 h3 h4 hi' (by rw[hv]; exact grownBy_setCell w ⟨g',k,none⟩ (.int .i64 x)) hst;exact ⟨vs,this.1,this.2.1,this.2.2,h4⟩
theorem wpList_push_int (w:World) {ops:Array Oper} {rest:List Oper} {o:Oper} {a:Act} {Q:Exit→Act→World→Prop}
  (hg:o.guard=none) (s x:Operand) (hop:o.op=Op.call { callee:=Callee.builtin Builtin.append,args:=#[s,x],argTypes:=#[37,37] })
  (B:Nat) (v:Value) (xs:List Int) (hs:a.eval s=v) (hown:OwnI B w v xs) (ad:Addr) (c:Nat) (n:Int) (hx:a.eval x=.slice (some ad) 1 c) (hc:w.cell? ad=some (.int .i64 n))
  (hlen:xs.length≤1099511627776) (hB:B≤w.heap.size)
  (hK:∀ a' cap' w',OwnI B w' (.slice a' (xs.length+1) cap') (xs++[n])→w.grownBy w' v.ownBlock→wpList Tryz.prog ops Q rest (a.put o.dst (.slice a' (xs.length+1) cap')) w'):
  wpList Tryz.prog ops Q (o::rest) a w:=by
 obtain ⟨i0,hi,hz0,hz1,hz2⟩:=info_parts infoInt;refine wpList_append_own w hg s x 37 hop B 3 i0 (.int .i64 0) 1 8 Tryz.underlying37 hi hz0 hz1 hz2 rfl (by decide) v xs.length (ints xs) hs hown ad 1 c [.int .i64 n] hx rfl ?_ (by simp[Value.oneCell']) (by unfold maxLen; omega) (by omega) hB ?_
 ·intro j u hj
  match j,hj with
  | 0,hj=>simp at hj; subst hj; simpa [Addr.add] using hc
 ·intro v' w' h1 h2 _
  obtain ⟨a',cap',rfl,_⟩:=own_shape h1;refine hK a' cap' w' ?_ h2;unfold OwnI;rw[ints_append]
  simpa [ints] using h1
theorem wpList_push_row (w:World) {ops:Array Oper} {rest:List Oper} {o:Oper} {a:Act} {Q:Exit→Act→World→Prop}
  (hg:o.guard=none) (s x:Operand) (hop:o.op=Op.call { callee:=Callee.builtin Builtin.append,args:=#[s,x],argTypes:=#[79,79] })
  (B:Nat) (v:Value) (xss:List (List Int)) (hs:a.eval s=v) (hown:OwnII B w v xss) (ad:Addr) (c:Nat) (r:Value) (xs:List Int) (hx:a.eval x=.slice (some ad) 1 c) (hc:w.cell? ad=some r)
  (hr:OwnI B w r xs) (hd:∀ vs:List Value,w.ownsRow B 37 1 v vs.length vs→∀ i (h:i<vs.length),r.ownBlock=none∨vs[i].ownBlock=none∨vs[i].ownBlock≠r.ownBlock)
  (hlen:xss.length≤1099511627776) (hB:B≤w.heap.size)
  (hK:∀ a' cap' w',OwnII B w' (.slice a' (xss.length+1) cap') (xss++[xs])→w.grownBy w' v.ownBlock→wpList Tryz.prog ops Q rest (a.put o.dst (.slice a' (xss.length+1) cap')) w'):
  wpList Tryz.prog ops Q (o::rest) a w:=by
 obtain ⟨i0,hi,hz0,hz1,hz2⟩:=info_parts infoInts;obtain ⟨vs,h1,h2,h3,h4⟩:=hown;have hone:r.oneCell'=true:=by
  obtain ⟨_,_,rfl,_⟩:=own_shape hr
  rfl
 refine wpList_append_own w hg s x 79 hop B 37 i0 (.slice none 0 0) 1 24 Tryz.underlying79 hi hz0 hz1 hz2 rfl (by decide) v vs.length vs hs h1 ad 1 c [r] hx rfl ?_ (by simp[hone]) (by unfold maxLen; omega) (by omega) hB ?_
 ·intro j u hj
  match j,hj with
  | 0,hj=>simp at hj; subst hj; simpa [Addr.add] using hc
 ·intro v' w' h5 h6 _
  have hap:∀ u ys,OwnI B w u ys→OwnI B w' u ys:=fun u ys hu=>World.ownsRow.kept hu h6 (own_apart hu h1 (by decide))
  obtain ⟨a',cap',rfl,_⟩:=own_shape h5;rw[h2] at h5 ⊢;refine hK a' cap' w' ⟨vs++[r],by simpa [h2] using h5,by simp[h2],fun i hi' hi''=>?_,fun i j hi' hj' hij=>?_⟩ h6
  ·by_cases hlt:i<vs.length
   ·rw[List.getElem_append_left hlt,List.getElem_append_left (by omega)]
    exact hap _ _ (h3 i hlt (by omega))
   ·have e:i=vs.length:=by simp at hi'; omega
    subst e;have:=hap _ _ hr
    simpa [h2] using this
  ·simp only[List.length_append,List.length_cons,List.length_nil] at hi' hj'
   by_cases h7:i<vs.length
   ·rw[List.getElem_append_left h7]
    by_cases h8:j<vs.length
    ·rw[List.getElem_append_left h8]; exact h4 i j h7 h8 hij
    ·have e:j=vs.length:=by omega
     subst e;rw[List.getElem_append_right (Nat.le_refl _)];simp only[Nat.sub_self,List.getElem_cons_zero]
     rcases hd vs h1 i h7 with h | h | h
     ·rw[h]; by_cases e:vs[i].ownBlock=none
      ·exact .inl e
      ·exact .inr e
     ·exact .inl h
     ·exact .inr h
   ·have e:i=vs.length:=by omega
    subst e;rw[List.getElem_append_right (Nat.le_refl _),List.getElem_append_left (show j<vs.length by omega)];simp only[Nat.sub_self,List.getElem_cons_zero]
    rcases hd vs h1 j (by omega) with h | h | h
    ·exact .inl h
    ·rw[h]; by_cases e:r.ownBlock=none
     ·exact .inl e
     ·exact .inr e
    ·exact .inr (fun e=>h e.symm)
theorem rows_old {B:Nat} {w w2:World} {v:Value} {xss:List (List Int)} (h:OwnII B w v xss) (hb:Below w.heap.size w w2) {r:Value} {xs:List Int} (hr:OwnI w.heap.size w2 r xs):
  ∀ vs:List Value,w2.ownsRow B 37 1 v vs.length vs→∀ i (h:i<vs.length),r.ownBlock=none∨vs[i].ownBlock=none∨vs[i].ownBlock≠r.ownBlock:=by
 intro vs hvs i hi;obtain ⟨vs',h1,h2,h3,_⟩:=h;have e:vs=vs':=by
  have h1':=owns_below h1 hb
  rcases h1'.2 with ⟨rfl,h0⟩ | ⟨g,cap,cur,rfl,_,hg,_,_,_,ht⟩
  ·rcases hvs.2 with ⟨_,h0'⟩ | ⟨_,_,_,he,_⟩
   ·rw[List.eq_nil_of_length_eq_zero h0,List.eq_nil_of_length_eq_zero h0']
   ·simp at he
  ·rcases hvs.2 with ⟨he,_⟩ | ⟨g2,cap2,cur2,he,_,hg2,_,_,_,ht2⟩
   ·simp at he
   ·injection he with e1 e2 _
    injection e1 with e1;injection e1 with e1 _ _;subst e1;rw[hg] at hg2;simp only[Option.some.injEq,Obj.cells.injEq] at hg2;rw[←ht,←ht2,hg2.1,e2]
 subst e
 by_cases hn:r.ownBlock=none
 ·exact .inl hn
 obtain ⟨m,hm⟩:=Option.ne_none_iff_exists'.1 hn
 by_cases hn':vs[i].ownBlock=none
 ·exact .inr (.inl hn')
 obtain ⟨m',hm'⟩:=Option.ne_none_iff_exists'.1 hn';have h4:=(World.ownsRow.lt hr m hm).1;have h5:=(World.ownsRow.lt (h3 i hi (by omega)) m' hm').2;exact .inr (.inr (by rw[hm,hm']; simp; omega))
theorem wpList_push_new (wr W3:World) {ops:Array Oper} {rest:List Oper} {o:Oper} {a:Act} {Q:Exit→Act→World→Prop}
  (hg:o.guard=none) (s x:Operand) (hop:o.op=Op.call { callee:=Callee.builtin Builtin.append,args:=#[s,x],argTypes:=#[79,79] })
  (B:Nat) (v:Value) (xss:List (List Int)) (hs:a.eval s=v) (hown:OwnII B wr v xss) (hb:Below wr.heap.size wr W3) (N:Nat) (hN:W3.heap.size=N) (r:Value) (xs:List Int) (hx:a.eval x=.slice (some ⟨N,0,none⟩) 1 1)
  (hr:OwnI wr.heap.size W3 r xs) (hlen:xss.length≤1099511627776) (hB:B≤wr.heap.size)
  (hK:∀ a' cap' w',OwnII B w' (.slice a' (xss.length+1) cap') (xss++[xs])→Below B wr w'→wpList Tryz.prog ops Q rest (a.put o.dst (.slice a' (xss.length+1) cap')) w'):
  wpList Tryz.prog ops Q (o::rest) a (W3.alloc (.cells #[r] 37)):=by
 have hsz:=hb.size;have hb4:Below wr.heap.size wr (W3.alloc (.cells #[r] 37)):=hb.alloc hsz _;have hr4:OwnI wr.heap.size (W3.alloc (.cells #[r] 37)) r xs:=World.ownsRow.alloc hr _;have hn4:(W3.alloc (.cells #[r] 37)).heap.size=W3.heap.size+1:=by simp
 refine wpList_push_row _ hg s x hop B v xss hs (hown.below hb4) ⟨N,0,none⟩ 1 r xs hx ?_ (hr4.mono hB) (rows_old hown hb4 hr4) hlen (by omega) ?_
 ·subst hN
  exact cell_of_one (heap_alloc_new W3 _)
 ·intro a' cap' w' h1 h2
  refine hK a' cap' w' h1 ((hb4.mono hB).grown h2 (by omega) ?_);intro k hk;obtain ⟨vs,h3,_⟩:=hown;exact (World.ownsRow.lt h3 k hk).1
def Quiet (v:Value) (w:World) (e:Ending) (w':World):Prop:=e=.returned v∧∃ q,w'=w.drewN q
def Drawn (w wr:World):Prop:=∃ q,wr=w.drewN q
theorem Drawn.refl (w:World):Drawn w w:=⟨0,rfl⟩
theorem Drawn.more {w wr:World} (h:Drawn w wr) (n:Nat):Drawn w (wr.drewN n):=by
 obtain ⟨q,rfl⟩:=h;exact ⟨q+n,by simp⟩
theorem Drawn.below {w wr:World} (h:Drawn w wr):Below w.heap.size w wr:=by
 obtain ⟨q,rfl⟩:=h;exact below_drewN (Below.refl _ _) _
theorem Drawn.cell {w wr:World} (h:Drawn w wr) {p:Addr} {u:Value} (hc:w.cell? p=some u):wr.cell? p=some u:=by
 obtain ⟨q,rfl⟩:=h;exact hc
theorem Drawn.trans {a b c:World} (h:Drawn a b) (h':Drawn b c):Drawn a c:=by
 obtain ⟨q,rfl⟩:=h';exact h.more q
def inB (n lo hi:Int):Bool:=decide (lo≤n∧n≤hi)
theorem in_any (n lo hi:Int) (w:World):
  Calls Tryz.prog 54 #[.int .i64 n,.int .i64 lo,.int .i64 hi] w fun e w'=>e=.returned (.bool (inB n lo hi))∧w=w':=by
 by_cases h1:lo≤n <;> by_cases h2:n≤hi <;>
 ·go_enter Tryz.func54,Tryz.ntmps54
  go_wp2;go_ret;exact ⟨ret_bool (by simp[inB,h1,h2]),rfl⟩
theorem l1In_any (n lo hi:Int) (w:World):
  Calls Tryz.prog 88 #[.int .i64 n,.int .i64 lo,.int .i64 hi] w fun e w'=>e=.returned (.bool (inB n lo hi))∧w=w':=by
 by_cases h1:lo≤n <;> by_cases h2:n≤hi <;>
 ·go_enter Tryz.func88,Tryz.ntmps88
  go_wp2;go_ret;exact ⟨ret_bool (by simp[inB,h1,h2]),rfl⟩
def sum64 (l:List Int):Int:=l.foldl (fun a x=>wrap64 (a+x)) 0
theorem sum64_snoc (xs:List Int) (k:Nat) (h:k<xs.length):sum64 (xs.take (k+1))=wrap64 (sum64 (xs.take k)+xs[k]):=by
 unfold sum64;rw[List.take_succ_eq_append_getElem h,List.foldl_append]; rfl
theorem total_any {B:Nat} (v:Value) (xs:List Int) (w:World) (h:Ints B w v xs):
  Calls Tryz.prog 198 #[v] w fun e w'=>e=.returned (.int .i64 (sum64 xs))∧w=w':=by
 obtain ⟨a,cap,rfl,hcap,hmax,hcells⟩:=h.opened;clear h;go_enter Tryz.func198,Tryz.ntmps198;go_wp2;go_loop [3,8] (fun s i=>∃ k:Nat,k≤xs.length∧i=.int .i64 k∧s=.int .i64 (sum64 (xs.take k))) (fun _ i=>xs.length-(intOf i).toNat)
 case atStart=>exact ⟨0,Nat.zero_le _,rfl,rfl⟩
 case round=>
  obtain ⟨k,hk,rfl,rfl⟩:=hrel
  by_cases hlt:k<xs.length
  ·obtain ⟨b,off,rfl,_,hc⟩:=hcells (by omega)
   have hck:=hc k hlt;have H:=hdd (sum64_snoc xs k hlt);clear hc hcells;go_wp2;go_round
   case rel=>exact ⟨k+1,by omega,by go_num,by rw[H.out]⟩
   case measure=>simp[intOf]; omega
  ·go_wp2
   go_ret;rw[List.take_of_length_le (by omega)];exact ⟨rfl,rfl⟩
theorem l1Sum_any {B:Nat} (v:Value) (xs:List Int) (w:World) (h:Ints B w v xs):
  Calls Tryz.prog 138 #[v] w fun e w'=>e=.returned (.int .i64 (sum64 xs))∧w=w':=by
 obtain ⟨a,cap,rfl,hcap,hmax,hcells⟩:=h.opened;clear h;go_enter Tryz.func138,Tryz.ntmps138;go_wp2;go_loop [3,4] (fun s i=>∃ k:Nat,k≤xs.length∧i=.int .i64 k∧s=.int .i64 (sum64 (xs.take k))) (fun _ i=>xs.length-(intOf i).toNat)
 case atStart=>exact ⟨0,Nat.zero_le _,rfl,rfl⟩
 case round=>
  obtain ⟨k,hk,rfl,rfl⟩:=hrel
  by_cases hlt:k<xs.length
  ·obtain ⟨b,off,rfl,_,hc⟩:=hcells (by omega)
   have hck:=hc k hlt;have H:=hdd (sum64_snoc xs k hlt);clear hc hcells;go_wp2;go_round
   case rel=>exact ⟨k+1,by omega,by go_num,by rw[H.out]⟩
   case measure=>simp[intOf]; omega
  ·go_wp2
   go_ret;rw[List.take_of_length_le (by omega)];exact ⟨rfl,rfl⟩
theorem take_eq_succ {α:Type} {xs ys:List α} {k:Nat} (hx:k<xs.length) (hy:k<ys.length) (h:xs.take k=ys.take k) (he:xs[k]=ys[k]):xs.take (k+1)=ys.take (k+1):=by
 rw[List.take_succ_eq_append_getElem hx,List.take_succ_eq_append_getElem hy,h,he]
theorem ne_of_get {α:Type} {xs ys:List α} {k:Nat} (hx:k<xs.length) (hy:k<ys.length) (h:¬xs[k]=ys[k]):¬xs=ys:=by
 intro e; subst e; exact h rfl
def markL (n:Nat) (k:Int):List Int:=(List.range n).map fun i:Nat=>k+(i:Int)
@[simp] theorem markL_length (n:Nat) (k:Int):(markL n k).length=n:=by simp[markL]
def FreshI (xs:List Int) (w:World) (e:Ending) (w':World):Prop:=∃ a cap,e=.returned (.slice a xs.length cap)∧OwnI w.heap.size w' (.slice a xs.length cap) xs∧Below w.heap.size w w'
theorem copy_step {xs:List Int} {k n:Nat} (h:k<xs.length) (hn:n=xs.length):(xs.take k++List.replicate (n-k) 0).set k xs[k]=xs.take (k+1)++List.replicate (n-(k+1)) 0:=by
 subst hn;rw[List.take_succ_eq_append_getElem h,List.set_append_right _ _ (by rw[List.length_take]; omega)];have e:k-(xs.take k).length=0:=by rw[List.length_take]; omega
 rw[e,show xs.length-k=(xs.length-(k+1))+1 from by omega,List.replicate_succ,List.set_cons_zero,List.append_assoc]
 rfl
def FreshII (xss:List (List Int)) (w:World) (e:Ending) (w':World):Prop:=∃ a cap,e=.returned (.slice a xss.length cap)∧OwnII w.heap.size w' (.slice a xss.length cap) xss∧Below w.heap.size w w'
theorem copy_step2 {α:Type} {xs:List α} {z:α} {k n:Nat} (h:k<xs.length) (hn:n=xs.length):(xs.take k++List.replicate (n-k) z).set k xs[k]=xs.take (k+1)++List.replicate (n-(k+1)) z:=by
 subst hn;rw[List.take_succ_eq_append_getElem h,List.set_append_right _ _ (by rw[List.length_take]; omega)];have e:k-(xs.take k).length=0:=by rw[List.length_take]; omega
 rw[e,show xs.length-k=(xs.length-(k+1))+1 from by omega,List.replicate_succ,List.set_cons_zero,List.append_assoc]
 rfl
theorem wrap_nat64 (a:Nat) (ha:a<9223372036854775808):IntKind.i64.wrap (a:Int)=a:=by
 rw[IntKind.wrap_i64]; omega
theorem i64_and_nat (a b:Nat) (ha:a<9223372036854775808) (hb:b<9223372036854775808):bits .and .i64 (a:Int) (b:Int)=((a &&& b:Nat):Int):=by
 have hx:a &&& b<2^63:=Nat.and_lt_two_pow _ (by omega)
 show IntKind.i64.wrap ((BitVec.ofInt 64 (a:Int) &&& BitVec.ofInt 64 (b:Int)).toNat:Int)=_
 rw[BitVec.toNat_and,ofInt_u64 a (by omega),ofInt_u64 b (by omega),wrap_nat64 _ (by omega)]
theorem i64_or_nat (a b:Nat) (ha:a<9223372036854775808) (hb:b<9223372036854775808):bits .or .i64 (a:Int) (b:Int)=((a ||| b:Nat):Int):=by
 have hx:a ||| b<2^63:=Nat.or_lt_two_pow (by omega) (by omega)
 show IntKind.i64.wrap ((BitVec.ofInt 64 (a:Int) ||| BitVec.ofInt 64 (b:Int)).toNat:Int)=_
 rw[BitVec.toNat_or,ofInt_u64 a (by omega),ofInt_u64 b (by omega),wrap_nat64 _ (by omega)]
theorem i64_xor_nat (a b:Nat) (ha:a<9223372036854775808) (hb:b<9223372036854775808):bits .xor .i64 (a:Int) (b:Int)=((a ^^^ b:Nat):Int):=by
 have hx:a ^^^ b<2^63:=Nat.xor_lt_two_pow (by omega) (by omega)
 show IntKind.i64.wrap ((BitVec.ofInt 64 (a:Int) ^^^ BitVec.ofInt 64 (b:Int)).toNat:Int)=_
 rw[BitVec.toNat_xor,ofInt_u64 a (by omega),ofInt_u64 b (by omega),wrap_nat64 _ (by omega)]
def bitN (L k:Nat):Bool:=L/2^k%2==1
theorem shr_cast (L k:Nat):(L:Int)/2^k=((L/2^k:Nat):Int):=by simp
theorem bit_mod (L k:Nat):((L:Int)/2^k%2==1)=bitN L k:=by
 rw[shr_cast];unfold bitN
 generalize L/2^k=m
 rw[Bool.eq_iff_iff,beq_iff_eq,beq_iff_eq]; omega
def lotN (f:Nat→Bool):Nat→Nat
 | 0=>0
 | n+1=>lotN f n+if f n then 2^n else 0
theorem lotN_lt (f:Nat→Bool) (n:Nat):lotN f n<2^n:=by
 induction n with
 | zero=>simp[lotN]
 | succ n ih=>rw[lotN,Nat.pow_succ]; split <;> omega
theorem lotN_hit {f:Nat→Bool} {k:Nat} (h:f k=true):lotN f (k+1)=lotN f k+2^k:=by simp[lotN,h]
theorem lotN_miss {f:Nat→Bool} {k:Nat} (h:f k=false):lotN f (k+1)=lotN f k:=by simp[lotN,h]
theorem pow_small {k:Nat} (hk:k≤60):2^k≤1152921504606846976:=by
 have h:2^k≤2^60:=Nat.pow_le_pow_right (by omega) hk;have e:(2:Nat)^60=1152921504606846976:=by decide
 rwa [e] at h
theorem shl_cast {k:Nat} (hk:k≤60):wrap64 ((2:Int)^k)=((2^k:Nat):Int):=by
 have:=pow_small hk;have e:(2:Int)^k=((2^k:Nat):Int):=by simp
 rw[e]
 generalize 2^k=m at *
 exact IntWalk.wrap64_in _ ⟨by omega,by omega⟩
theorem add_hit {f:Nat→Bool} {k:Nat} (hk:k≤60) (h:f k=true):wrap64 ((lotN f k:Nat)+wrap64 ((2:Int)^k))=(lotN f (k+1):Nat):=by
 have h1:=lotN_lt f k;have h2:=pow_small hk;rw[shl_cast hk,lotN_hit h,IntWalk.wrap64_in _ ⟨by omega,by omega⟩];omega
end
section
def allL (c:Nat):Nat→List (List Int)
 | 0=>[[]]
 | k+1=>(allL c k).flatMap fun x=>(List.range c).map fun (n:Nat)=>x++[(n:Int)]
def fillL (c:Nat) (pre:List Int):Nat→List (List Int)
 | 0=>[pre]
 | k+1=>(List.range c).flatMap fun (n:Nat)=>fillL c (pre++[(n:Int)]) k
theorem allL_front (c:Nat):∀ k,allL c (k+1)=(List.range c).flatMap fun (n:Nat)=>(allL c k).map fun x=>(n:Int)::x
 | 0=>by
  simp only[allL,List.flatMap_cons,List.flatMap_nil,List.append_nil,List.nil_append,List.map_cons,List.map_nil]
  induction (List.range c) with
  | nil=>rfl
  | cons n r ih=>simp[List.flatMap_cons,ih]
 | k+1=>by
  have e:allL c (k+1+1)=(allL c (k+1)).flatMap fun x=>(List.range c).map fun (n:Nat)=>x++[(n:Int)]:=rfl
  have ih:=allL_front c k;have e2:allL c (k+1+1)=((List.range c).flatMap fun (n:Nat)=>(allL c k).map fun x=>(n:Int)::x).flatMap fun x=>(List.range c).map fun (n:Nat)=>x++[(n:Int)]:=by rw[e,ih]
  rw[e2,List.flatMap_assoc]
  congr 1
  funext n
  have e3:allL c (k+1)=(allL c k).flatMap fun x=>(List.range c).map fun (n:Nat)=>x++[(n:Int)]:=rfl
  rw[e3]
  induction allL c k with
  | nil=>rfl
  | cons x r ih=>
   simp only[List.map_cons,List.flatMap_cons,List.map_append,ih,List.map_map]
   rfl
theorem fill_all (c:Nat):∀ k pre,fillL c pre k=(allL c k).map fun x=>pre++x
 | 0,pre=>by simp[fillL,allL]
 | k+1,pre=>by
  rw[fillL,allL_front,List.map_flatMap]
  congr 1
  funext n
  rw[fill_all c k,List.map_map]
  congr 1
  funext x
  simp
theorem fill_nil (c k:Nat):fillL c [] k=allL c k:=by rw[fill_all]; simp
theorem allL_row {c k:Nat} {x:List Int} (h:x∈allL c k):x.length=k∧∀ y∈x,0≤y∧y<c:=by
 induction k generalizing x with
 | zero=>simp[allL] at h; subst h; simp
 | succ k ih=>
  rw[allL,List.mem_flatMap] at h;obtain ⟨a,ha,h⟩:=h;obtain ⟨n,hn,rfl⟩:=List.mem_map.1 h;have:=ih ha;refine ⟨by simp[this.1],fun y hy=>?_⟩
  rcases List.mem_append.1 hy with hy | hy
  ·exact this.2 y hy
  ·simp at hy hn; omega
theorem allL_mem {c k:Nat} {x:List Int} (hl:x.length=k) (hx:∀ y∈x,0≤y∧y<c):x∈allL c k:=by
 induction k generalizing x with
 | zero=>rw[List.length_eq_zero_iff] at hl; subst hl; simp[allL]
 | succ k ih=>
  cases x with
  | nil=>simp at hl
  | cons a r=>
   rw[allL_front,List.mem_flatMap];have ha:=hx a (by simp);refine ⟨a.toNat,by simp; omega,List.mem_map.2 ⟨r,ih (by simpa using hl) (fun y hy=>hx y (by simp[hy])),?_⟩⟩
   congr 1
   omega
def cntC (x:List Int) (c:Int):Nat:=x.count c
def rightN (x y:List Int):Nat→Nat
 | 0=>0
 | k+1=>rightN x y k+if x.getD k 0=y.getD k 0 then 1 else 0
def bothN (x y:List Int):Nat→Nat
 | 0=>0
 | c+1=>bothN x y c+min (cntC x c) (cntC y c)
theorem both_more {x y:List Int} {c:Nat} (hx:∀ z∈x,0≤z∧z<c):∀ d,bothN x y (c+d)=bothN x y c
 | 0=>rfl
 | d+1=>by
  rw[←Nat.add_assoc,bothN,both_more hx d];have:cntC x ((c+d:Nat):Int)=0:=by
   unfold cntC;rw[List.count_eq_zero];intro h;have:=hx _ h;omega
  rw[this]; simp
structure Gs where
 code:List Int
 right:Int
 near:Int
def sumN (f:Nat→Nat):Nat→Nat
 | 0=>0
 | c+1=>sumN f c+f c
theorem sumN_le {f g:Nat→Nat}:∀ {c:Nat},(∀ i,i<c→f i≤g i)→sumN f c≤sumN g c
 | 0,_=>Nat.le_refl _
 | c+1,h=>Nat.add_le_add (sumN_le fun i hi=>h i (by omega)) (h c (by omega))
theorem sumN_one {f g:Nat→Nat} {a:Nat}:∀ {c:Nat},(∀ i,i<c→f i+(if i=a then 1 else 0)≤g i)→a<c→sumN f c+1≤sumN g c
 | 0,_,h=>by omega
 | c+1,h,ha=>by
  have h1:=h c (by omega)
  by_cases e:c=a
  ·have:sumN f c≤sumN g c:=sumN_le fun i hi=>by have:=h i (by omega); rw[if_neg (by omega)] at this; omega
   rw[if_pos e] at h1;simp only[sumN]; omega
  ·have:=sumN_one (c:=c) (fun i hi=>h i (by omega)) (by omega)
   rw[if_neg e] at h1;simp only[sumN]; omega
theorem sumN_up {f g:Nat→Nat} {a:Nat}:∀ {c:Nat},(∀ i,i<c→g i≤f i+(if i=a then 1 else 0))→sumN g c≤sumN f c+1
 | 0,_=>by simp[sumN]
 | c+1,h=>by
  have h1:=h c (by omega)
  by_cases e:c=a
  ·have:sumN g c≤sumN f c:=sumN_le fun i hi=>by have:=h i (by omega); rw[if_neg (by omega)] at this; omega
   rw[if_pos e] at h1;simp only[sumN]; omega
  ·have:=sumN_up (c:=c) (fun i hi=>h i (by omega))
   rw[if_neg e] at h1;simp only[sumN]; omega
theorem both_sum (x y:List Int):∀ c,bothN x y c=sumN (fun i=>min (cntC x i) (cntC y i)) c
 | 0=>rfl
 | c+1=>by rw[bothN,both_sum x y c]; rfl
theorem cnt_cons (a:Int) (x:List Int) (i:Nat):cntC (a::x) i=cntC x i+if (i:Int)=a then 1 else 0:=by
 unfold cntC;rw[List.count_cons]
 by_cases e:(i:Int)=a
 ·simp[e]
 ·rw[if_neg e,if_neg (by simp; exact fun h=>e h.symm)]
theorem right_cons (a b:Int) (x y:List Int):∀ k,rightN (a::x) (b::y) (k+1)=rightN x y k+if a=b then 1 else 0
 | 0=>by simp[rightN]
 | k+1=>by
  rw[rightN,right_cons a b x y k,rightN];simp only[List.getD_cons_succ];omega
theorem right_both {c:Nat}:∀ {x y:List Int},x.length=y.length→(∀ z∈x,0≤z∧z<c)→rightN x y x.length≤bothN x y c
 | [],y,_,_=>by simp[rightN]
 | a::x,[],h,_=>by simp at h
 | a::x,b::y,h,hx=>by
  have ih:=right_both (c:=c) (x:=x) (y:=y) (by simpa using h) (fun z hz=>hx z (by simp[hz]));have ha:=hx a (by simp);rw[both_sum] at ih ⊢;rw[List.length_cons,right_cons]
  by_cases e:a=b
  ·subst e
   rw[if_pos rfl];have:=sumN_one (f:=fun i=>min (cntC x i) (cntC y i)) (g:=fun i=>min (cntC (a::x) i) (cntC (a::y) i)) (a:=a.toNat) (c:=c) (fun i hi=>by
    simp only[cnt_cons]
    by_cases e:i=a.toNat
    ·rw[if_pos e,if_pos (by omega)]; omega
    ·rw[if_neg e,if_neg (by omega)]; omega) (by omega)
   omega
  ·rw[if_neg e]
   have:sumN (fun i=>min (cntC x i) (cntC y i)) c≤sumN (fun i=>min (cntC (a::x) i) (cntC (b::y) i)) c:=sumN_le fun i hi=>by
    simp only[cnt_cons]; omega
   omega
theorem both_len {y:List Int} {c:Nat}:∀ {x:List Int},bothN x y c≤x.length
 | []=>by
  rw[both_sum];have:sumN (fun i=>min (cntC [] i) (cntC y i)) c≤sumN (fun _=>0) c:=sumN_le fun i _=>by simp[cntC]
  have h0:∀ c,sumN (fun _=>0) c=0:=fun c=>by induction c with | zero=>rfl | succ c ih=>simp[sumN,ih]
  rw[h0] at this
  simpa using this
 | a::x=>by
  have ih:=both_len (c:=c) (y:=y) (x:=x);rw[both_sum] at ih ⊢;have:=sumN_up (f:=fun i=>min (cntC x i) (cntC y i)) (g:=fun i=>min (cntC (a::x) i) (cntC y i)) (a:=a.toNat) (c:=c) (fun i hi=>by
   simp only[cnt_cons]
   by_cases e:(i:Int)=a
   ·rw[if_pos e,if_pos (by omega)]; omega
   ·rw[if_neg e]; omega)
  simp only[List.length_cons];omega
theorem right_le (x y:List Int):∀ k,rightN x y k≤k
 | 0=>Nat.le_refl _
 | k+1=>by have:=right_le x y k; simp only[rightN]; split <;> omega
def rightZ (x y:List Int):Int:=(rightN x y x.length:Nat)
def nearZ (x y:List Int):Int:=(bothN x y 5:Nat)-(rightN x y x.length:Nat)
def ansZ (x y:List Int):Int×Int:=(rightZ x y,nearZ x y)
def codesB (p c:Int):Bool:=decide ((1≤p∧p≤3)∧1≤c∧c≤5)
def inRow (c:Int) (x:List Int):Bool:=x.all fun y=>decide (0≤y∧y≤c-1)
def codeOkB (p c:Int) (x:List Int):Bool:=codesB p c&&(decide ((x.length:Int)=p)&&inRow c x)
def codesP (p c:Int):Prop:=(1≤p∧p≤3)∧1≤c∧c≤5
theorem codesB_iff {p c:Int}:codesB p c=true↔codesP p c:=by unfold codesB codesP; simp
def CodeP (p c:Int) (x:List Int):Prop:=codesP p c∧(x.length:Int)=p∧∀ y∈x,0≤y∧y≤c-1
theorem codeOkB_iff {p c:Int} {x:List Int}:codeOkB p c x=true↔CodeP p c x:=by
 unfold codeOkB CodeP inRow;rw[Bool.and_eq_true,Bool.and_eq_true,codesB_iff,List.all_eq_true];simp
theorem ans_bounds {p c:Int} {x y:List Int} (hx:CodeP p c x) (hy:CodeP p c y):0≤rightZ x y∧rightZ x y≤p∧0≤nearZ x y∧nearZ x y≤p:=by
 obtain ⟨⟨_,h1,h2⟩,h3,h4⟩:=hx;obtain ⟨_,h5,h6⟩:=hy;have a:=right_both (c:=5) (x:=x) (y:=y) (by omega) (fun z hz=>by have:=h4 z hz; omega);have b:=both_len (y:=y) (c:=5) (x:=x);unfold rightZ nearZ;omega
theorem both_five {p c:Int} {x y:List Int} (hx:CodeP p c x):bothN x y 5=bothN x y c.toNat:=by
 obtain ⟨⟨_,h1,h2⟩,h3,h4⟩:=hx;have:=both_more (x:=x) (y:=y) (c:=c.toNat) (fun z hz=>by have:=h4 z hz; omega) (5-c.toNat);rw[←this]; congr 1; omega
def fitsB (x:List Int) (gs:List Gs):Bool:=gs.all fun g=>decide (rightZ x g.code=g.right∧nearZ x g.code=g.near)
def guessOkB (p c:Int) (g:Gs):Bool:=codeOkB p c g.code&&decide (0≤g.right∧0≤g.near)
def guessesB (p c:Int) (gs:List Gs):Bool:=codesB p c&&(decide (gs.length≤9)&&gs.all (guessOkB p c))
def allP (p c:Int):List (List Int):=allL c.toNat p.toNat
theorem allP_mem {p c:Int} (h:codesP p c) {x:List Int}:x∈allP p c↔CodeP p c x:=by
 obtain ⟨⟨h0,h1⟩,h2,h3⟩:=h
 constructor
 ·intro hx
  obtain ⟨h4,h5⟩:=allL_row hx;exact ⟨⟨⟨h0,h1⟩,h2,h3⟩,by omega,fun y hy=>by have:=h5 y hy; omega⟩
 ·rintro ⟨_,h4,h5⟩
  exact allL_mem (by omega) (fun y hy=>by have:=h5 y hy; omega)
def fitL (p c:Int) (gs:List Gs):List (List Int):=if guessesB p c gs=true then (allP p c).filter (fun x=>fitsB x gs) else []
theorem fitL_mem {p c:Int} {gs:List Gs} {x:List Int}:x∈fitL p c gs↔guessesB p c gs=true∧CodeP p c x∧fitsB x gs=true:=by
 unfold fitL
 split
 ·rename_i h
  have hc:codesP p c:=by unfold guessesB at h; rw[Bool.and_eq_true] at h; exact codesB_iff.1 h.1
  rw[List.mem_filter,allP_mem hc];simp[h]
 ·rename_i h
  simp[h]
theorem allL_length (c:Nat):∀ k,(allL c k).length=c^k
 | 0=>rfl
 | k+1=>by
  rw[allL,Nat.pow_succ,←allL_length c k]
  induction allL c k with
  | nil=>simp
  | cons a r ih=>rw[List.flatMap_cons,List.length_append,ih,List.length_map,List.length_range,List.length_cons,Nat.succ_mul]; omega
theorem fitL_len (p c:Int) (gs:List Gs):(fitL p c gs).length≤125:=by
 unfold fitL
 split
 ·rename_i h
  have hc:codesP p c:=by unfold guessesB at h; rw[Bool.and_eq_true] at h; exact codesB_iff.1 h.1
  refine Nat.le_trans (List.length_filter_le _ _) ?_;unfold allP;rw[allL_length];obtain ⟨⟨h0,h1⟩,h2,h3⟩:=hc;have:c.toNat^p.toNat≤5^p.toNat:=Nat.pow_le_pow_left (by omega) _;have:5^p.toNat≤5^3:=Nat.pow_le_pow_right (by omega) (by omega);omega
 ·simp
def worstK (ws:List (Int×Int)):Nat→Nat
 | 0=>0
 | k+1=>max (worstK ws k) ((ws.take (k+1)).count (ws.getD k (0,0)))
def worstN (left:List (List Int)) (g:List Int):Nat:=worstK (left.map fun x=>ansZ x g) left.length
theorem worstK_le (ws:List (Int×Int)):∀ k,worstK ws k≤k
 | 0=>Nat.le_refl _
 | k+1=>by
  have:=worstK_le ws k;have h2:(ws.take (k+1)).count (ws.getD k (0,0))≤k+1:=Nat.le_trans List.count_le_length (by simp; omega);simp only[worstK]; omega
def bestK (left:List (List Int)):Nat→List Int×Int
 | 0=>([],-1)
 | k+1=>if (bestK left k).2<0∨(worstN left (left.getD k []):Int)<(bestK left k).2 then (left.getD k [],(worstN left (left.getD k []):Int)) else bestK left k
def nextL (left:List (List Int)):List Int:=(bestK left left.length).1
theorem bestK_pos (left:List (List Int)):∀ k,0<k→0≤(bestK left k).2
 | 0,h=>by omega
 | k+1,_=>by
  simp only[bestK]
  split
  ·simp
  ·rename_i h; omega
theorem bestK_mem (left:List (List Int)):∀ k,0<k→k≤left.length→(bestK left k).1∈left∧(bestK left k).2=worstN left (bestK left k).1
 | 0,h,_=>by omega
 | k+1,_,hk=>by
  have hm:left.getD k []∈left:=by
   rw[List.getD,List.getElem?_eq_getElem (by omega:k<left.length)];exact List.getElem_mem _
  by_cases h:(bestK left k).2<0∨(worstN left (left.getD k []):Int)<(bestK left k).2
  ·simp only[bestK]
   rw[if_pos h];exact ⟨hm,rfl⟩
  ·simp only[bestK]
   rw[if_neg h]
   by_cases h0:k=0
   ·subst h0; simp[bestK] at h
   ·exact bestK_mem left k (by omega) (by omega)
theorem nextL_mem {left:List (List Int)} (h:0<left.length):nextL left∈left:=(bestK_mem left _ h (Nat.le_refl _)).1
theorem bestK_one (left:List (List Int)):bestK left 1=(left.getD 0 [],(worstN left (left.getD 0 []):Int)):=by simp[bestK]
end
section
open Go.RowKit
set_option maxRecDepth 100000
theorem l1In_yes (n lo hi:Int) (w:World) (h:lo≤n∧n≤hi):
  Calls Tryz.prog 88 #[.int .i64 n,.int .i64 lo,.int .i64 hi] w fun e w'=>e=.returned (.bool true)∧w=w':=by
 have q:=l1In_any n lo hi w;rw[show inB n lo hi=true from decide_eq_true h] at q;exact q
theorem l1In_no (n lo hi:Int) (w:World) (h:¬(lo≤n∧n≤hi)):
  Calls Tryz.prog 88 #[.int .i64 n,.int .i64 lo,.int .i64 hi] w fun e w'=>e=.returned (.bool false)∧w=w':=by
 have q:=l1In_any n lo hi w;rw[show inB n lo hi=false from decide_eq_false h] at q;exact q
theorem codesB_no {p c:Int} (h:¬codesP p c) (xs:List Int):codeOkB p c xs=false:=by
 unfold codeOkB;rw[show codesB p c=false from by rw[←Bool.not_eq_true,codesB_iff]; exact h]
 rfl
theorem codeOkB_row {p c:Int} (h:codesP p c) (xs:List Int) (hx:∀ y∈xs,0≤y∧y≤c-1):codeOkB p c xs=((xs.length:Int)==p):=by
 unfold codeOkB inRow;rw[codesB_iff.2 h,List.all_eq_true.2 (fun y hy=>decide_eq_true (hx y hy))];simp only[Bool.true_and,Bool.and_true]
 by_cases e:(xs.length:Int)=p <;> simp[e]
theorem codeOkB_bad {p c:Int} {xs:List Int} {k:Nat} (hk:k<xs.length) (h:¬(0≤xs[k]∧xs[k]≤c-1)):codeOkB p c xs=false:=by
 rw[←Bool.not_eq_true,codeOkB_iff];exact fun q=>h (q.2.2 _ (List.getElem_mem hk))
set_option maxHeartbeats 1000000 in
theorem codeOkS_any {B:Nat} (p c:Int) (v:Value) (xs:List Int) (w:World) (h:Ints B w v xs):
  Calls Tryz.prog 87 #[.int .i64 p,.int .i64 c,v] w fun e w'=>e=.returned (.bool (codeOkB p c xs))∧w=w':=by
 obtain ⟨a,cap,rfl,hcap,hmax,hcells⟩:=h.opened;clear h
 by_cases hp:codesP p c
 ·have HP:=hdd hp
  obtain ⟨⟨hp1,hp2⟩,hp3,hp4⟩:=hp;go_enter Tryz.func87,Tryz.ntmps87;go_wp2;go_loop [7] (fun i=>∃ k:Nat,k≤xs.length∧i=.int .i64 k∧∀ j (hj:j<k) (hl:j<xs.length),0≤xs[j]∧xs[j]≤c-1) (fun i=>xs.length-(intOf i).toNat)
  case atStart=>exact ⟨0,Nat.zero_le _,rfl,by omega⟩
  case round=>
   obtain ⟨k,hk,rfl,ht⟩:=hrel;have HT:=hdd ht;clear ht
   by_cases hlt:k<xs.length
   ·obtain ⟨b,off,rfl,_,hc⟩:=hcells (by omega)
    have hck:=hc k hlt;clear hc hcells
    by_cases hin:0≤xs[k]∧xs[k]≤c-1
    ·have HI:=hdd hin
     have hI:=l1In_yes xs[k] 0 (c-1) w hin;clear hin;go_wp2_with fail;refine hI.mono ?_;rintro e w2 ⟨rfl,rfl⟩;clear hI;go_wp2;go_round
     case rel=>exact ⟨k+1,by omega,by go_num,fun j hj hl=>by
      by_cases e:j=k
      ·subst e; exact HI.out
      ·exact HT.out j (by omega) hl⟩
     case measure=>simp[intOf]; omega
    ·have HI:=hdd (codeOkB_bad (p:=p) hlt hin)
     have hI:=l1In_no xs[k] 0 (c-1) w hin;clear hin;go_wp2_with fail;refine hI.mono ?_;rintro e w2 ⟨rfl,rfl⟩;clear hI;go_wp2;go_ret;exact ⟨ret_bool (by rw[HI.out]),rfl⟩
   ·have HR:=hdd (codeOkB_row HP.out xs (fun y hy=>by
     obtain ⟨j,hj,rfl⟩:=List.getElem_of_mem hy;exact HT.out j (by omega) hj))
    have h1:=l1In_yes p 1 3 w ⟨hp1,hp2⟩;have h2:=l1In_yes c 1 5 w ⟨hp3,hp4⟩;clear hcells
    cases he:((xs.length:Int)==p)
    ·have HR2:=hdd (HR.out.trans he)
     clear HR;go_wp2_with fail;refine h1.mono ?_;rintro e w2 ⟨rfl,rfl⟩;clear h1;go_wp2_with fail;refine h2.mono ?_;rintro e w2 ⟨rfl,rfl⟩;clear h2;go_wp2;go_ret;exact ⟨ret_bool (by rw[HR2.out]),rfl⟩
    ·have HR2:=hdd (HR.out.trans he)
     clear HR;go_wp2_with fail;refine h1.mono ?_;rintro e w2 ⟨rfl,rfl⟩;clear h1;go_wp2_with fail;refine h2.mono ?_;rintro e w2 ⟨rfl,rfl⟩;clear h2;go_wp2;go_ret;exact ⟨ret_bool (by rw[HR2.out]),rfl⟩
 ·have HN:=hdd (codesB_no hp xs)
  have HP:=hdd hp;clear hp;go_enter Tryz.func87,Tryz.ntmps87;go_wp2;go_loop [7] (fun i=>∃ k:Nat,k≤xs.length∧i=.int .i64 k) (fun i=>xs.length-(intOf i).toNat)
  case atStart=>exact ⟨0,Nat.zero_le _,rfl⟩
  case round=>
   obtain ⟨k,hk,rfl⟩:=hrel
   by_cases hlt:k<xs.length
   ·obtain ⟨b,off,rfl,_,hc⟩:=hcells (by omega)
    have hck:=hc k hlt;clear hc hcells;have hI:=l1In_any xs[k] 0 (wrap64 (c-1)) w
    cases hin:inB xs[k] 0 (wrap64 (c-1))
    ·rw[hin] at hI
     clear hin;go_wp2_with fail;refine hI.mono ?_;rintro e w2 ⟨rfl,rfl⟩;clear hI;go_wp2;go_ret;exact ⟨ret_bool (by rw[HN.out]),rfl⟩
    ·rw[hin] at hI
     clear hin;go_wp2_with fail;refine hI.mono ?_;rintro e w2 ⟨rfl,rfl⟩;clear hI;go_wp2;go_round
     case rel=>exact ⟨k+1,by omega,by go_num⟩
     case measure=>simp[intOf]; omega
   ·clear hcells
    by_cases hp1:1≤p∧p≤3
    ·have h1:=l1In_yes p 1 3 w hp1
     have h2:=l1In_no c 1 5 w (fun q=>HP.out ⟨hp1,q⟩);clear hp1;go_wp2_with fail;refine h1.mono ?_;rintro e w2 ⟨rfl,rfl⟩;clear h1;go_wp2_with fail;refine h2.mono ?_;rintro e w2 ⟨rfl,rfl⟩;clear h2;go_wp2;go_ret;exact ⟨ret_bool (by rw[HN.out]),rfl⟩
    ·have h1:=l1In_no p 1 3 w hp1
     clear hp1;go_wp2_with fail;refine h1.mono ?_;rintro e w2 ⟨rfl,rfl⟩;clear h1;go_wp2;go_ret;exact ⟨ret_bool (by rw[HN.out]),rfl⟩
def cntK (x:List Int) (c:Int) (k:Nat):Nat:=(x.take k).count c
theorem cntK_full {x:List Int} (c:Int) {k:Nat} (h:x.length≤k):cntK x c k=cntC x c:=by unfold cntK cntC; rw[List.take_of_length_le h]
theorem cntK_hit {x:List Int} {c:Int} {k:Nat} (h:k<x.length) (e:x[k]=c):cntK x c (k+1)=cntK x c k+1:=by
 unfold cntK;rw[List.take_succ_eq_append_getElem h,List.count_append,e];simp
theorem cntK_miss {x:List Int} {c:Int} {k:Nat} (h:k<x.length) (e:¬x[k]=c):cntK x c (k+1)=cntK x c k:=by
 unfold cntK;rw[List.take_succ_eq_append_getElem h,List.count_append];simp[e]
theorem cntK_le (x:List Int) (c:Int) (k:Nat):cntK x c k≤k:=Nat.le_trans List.count_le_length (by simp; omega)
theorem rightN_hit {x y:List Int} {k:Nat} (h:k<x.length) (h':k<y.length) (e:x[k]=y[k]):rightN x y (k+1)=rightN x y k+1:=by
 simp[rightN,List.getD,List.getElem?_eq_getElem h,List.getElem?_eq_getElem h',e]
theorem rightN_miss {x y:List Int} {k:Nat} (h:k<x.length) (h':k<y.length) (e:¬x[k]=y[k]):rightN x y (k+1)=rightN x y k:=by
 simp[rightN,List.getD,List.getElem?_eq_getElem h,List.getElem?_eq_getElem h',e]
set_option maxHeartbeats 2000000 in
theorem answerS_ok {B C:Nat} (n:Nat) (c:Nat) (u v:Value) (x y:List Int) (w:World) (hx:Ints B w u x) (hy:Ints C w v y) (hcx:CodeP n c x) (hcy:CodeP n c y):
  Calls Tryz.prog 125 #[.int .i64 n,.int .i64 c,u,v] w (Quiet (.tuple #[.int .i64 (rightZ x y),.int .i64 (nearZ x y)]) w):=by
 have hOx:=codeOkS_any n c u x w hx;have hOy:=codeOkS_any n c v y w hy;rw[codeOkB_iff.2 hcx] at hOx;rw[codeOkB_iff.2 hcy] at hOy;obtain ⟨a,cap,rfl,hcap,hmax,hcells⟩:=hx.opened;obtain ⟨b,cap',rfl,hcap',hmax',hcells'⟩:=hy.opened;have hnl:n=x.length:=by have:=hcx.2.1; omega
 have hly:y.length=x.length:=by have:=hcy.2.1; omega
 have hn3:n≤3:=by have:=hcx.1; unfold codesP at this; omega
 have hc5:c≤5:=by have:=hcx.1; unfold codesP at this; omega
 have HE:=hdd (both_five (y:=y) hcx);have HLY:=hdd hly;subst hnl;clear hx hy hcx hcy hly;go_enter Tryz.func125,Tryz.ntmps125;go_wp2_with fail;refine hOx.mono ?_;rintro e w2 ⟨rfl,rfl⟩;clear hOx;go_wp2_with fail;refine hOy.mono ?_;rintro e w2 ⟨rfl,rfl⟩;clear hOy;go_wp2;go_loopw [10,12] (fun s i wr=>∃ k q:Nat,k≤x.length∧i=.int .i64 k∧s=.int .i64 (rightN x y k:Nat)∧wr=w.drewN q) (fun _ i _=>x.length-(intOf i).toNat)
 case atStart=>exact ⟨0,0,Nat.zero_le _,rfl,rfl,rfl⟩
 case round=>
  obtain ⟨k,q,hk,rfl,rfl,rfl⟩:=hrel;have hR:=right_le x y k
  by_cases hlt:k<x.length
  ·have hly:=HLY.out
   obtain ⟨b1,o1,rfl,_,hc⟩:=hcells (by omega);obtain ⟨b2,o2,rfl,_,hc'⟩:=hcells' (by omega);have hk1:k<x.length:=by omega
   have hk2:k<y.length:=by omega
   have hck:=hc k hk1;have hck':=hc' k hk2;have hi0:(0:Int)≤(k:Int):=by omega
   have hi1:(k:Int)<(x.length:Int):=by omega
   have hi2:(k:Int)<(y.length:Int):=by omega
   clear hc hcells hc' hcells' hly
   by_cases he:x[k]=y[k]
   ·have he1:(x[k]==y[k])=true:=by simpa using he
    have HS:=hdd (rightN_hit hk1 hk2 he);clear he;go_wp2;go_quiet (fail);go_wp2;go_roundw
    case rel=>exact ⟨k+1,_,by omega,by go_num,by rw[HS.out]; go_num,rfl⟩
    case measure=>simp[intOf]; omega
   ·have he1:(x[k]==y[k])=false:=by simpa using he
    have HS:=hdd (rightN_miss hk1 hk2 he);clear he;go_wp2;go_quiet (fail);go_wp2;go_roundw
    case rel=>exact ⟨k+1,_,by omega,by go_num,by rw[HS.out],rfl⟩
    case measure=>simp[intOf]; omega
  ·have e:k=x.length:=by omega
   subst e;go_wp2;go_loopw [11,13] (fun s i wr=>∃ j q:Nat,j≤c∧i=.int .i64 j∧s=.int .i64 (bothN x y j:Nat)∧wr=w.drewN q) (fun _ i _=>c-(intOf i).toNat)
   case atStart=>exact ⟨0,q,Nat.zero_le _,rfl,rfl,rfl⟩
   case round=>
    obtain ⟨j,q2,hj,rfl,rfl,rfl⟩:=hrel;have hB:bothN x y j≤x.length:=both_len
    by_cases hjc:j<c
    ·go_wp2
     go_loopw [14,15,16] (fun s t i wr=>∃ m q:Nat,m≤x.length∧i=.int .i64 m∧s=.int .i64 (cntK x j m:Nat)∧t=.int .i64 (cntK y j m:Nat)∧wr=w.drewN q) (fun _ _ i _=>x.length-(intOf i).toNat)
     case atStart=>exact ⟨0,q2,Nat.zero_le _,rfl,rfl,rfl,rfl⟩
     case round=>
      obtain ⟨m,q3,hm,rfl,rfl,rfl,rfl⟩:=hrel;have hC1:=cntK_le x j m;have hC2:=cntK_le y j m
      by_cases hmk:m<x.length
      ·have hly:=HLY.out
       obtain ⟨b1,o1,rfl,_,hc⟩:=hcells (by omega);obtain ⟨b2,o2,rfl,_,hc'⟩:=hcells' (by omega);have hk1:m<x.length:=by omega
       have hk2:m<y.length:=by omega
       have hck:=hc m hk1;have hck':=hc' m hk2;have hi0:(0:Int)≤(m:Int):=by omega
       have hi1:(m:Int)<(x.length:Int):=by omega
       have hi2:(m:Int)<(y.length:Int):=by omega
       clear hc hcells hc' hcells' hly
       by_cases he:x[m]=(j:Int) <;> by_cases he2:y[m]=(j:Int)
       ·have he1:(x[m]==(j:Int))=true:=by simpa using he
        have he3:(y[m]==(j:Int))=true:=by simpa using he2
        have HS:=hdd (cntK_hit hk1 he);have HS2:=hdd (cntK_hit hk2 he2);clear he he2;go_wp2;go_roundw
        case rel=>exact ⟨m+1,_,by omega,by go_num,by rw[HS.out]; go_num,by rw[HS2.out]; go_num,rfl⟩
        case measure=>simp[intOf]; omega
       ·have he1:(x[m]==(j:Int))=true:=by simpa using he
        have he3:(y[m]==(j:Int))=false:=by simpa using he2
        have HS:=hdd (cntK_hit hk1 he);have HS2:=hdd (cntK_miss hk2 he2);clear he he2;go_wp2;go_roundw
        case rel=>exact ⟨m+1,_,by omega,by go_num,by rw[HS.out]; go_num,by rw[HS2.out],rfl⟩
        case measure=>simp[intOf]; omega
       ·have he1:(x[m]==(j:Int))=false:=by simpa using he
        have he3:(y[m]==(j:Int))=true:=by simpa using he2
        have HS:=hdd (cntK_miss hk1 he);have HS2:=hdd (cntK_hit hk2 he2);clear he he2;go_wp2;go_roundw
        case rel=>exact ⟨m+1,_,by omega,by go_num,by rw[HS.out],by rw[HS2.out]; go_num,rfl⟩
        case measure=>simp[intOf]; omega
       ·have he1:(x[m]==(j:Int))=false:=by simpa using he
        have he3:(y[m]==(j:Int))=false:=by simpa using he2
        have HS:=hdd (cntK_miss hk1 he);have HS2:=hdd (cntK_miss hk2 he2);clear he he2;go_wp2;go_roundw
        case rel=>exact ⟨m+1,_,by omega,by go_num,by rw[HS.out],by rw[HS2.out],rfl⟩
        case measure=>simp[intOf]; omega
      ·have e1:cntK x j m=cntC x j:=cntK_full _ (by omega)
       have e2:cntK y j m=cntC y j:=cntK_full _ (by rw[HLY.out]; omega);rw[e1] at hC1 ⊢;rw[e2] at hC2 ⊢;have HS:=hdd (show bothN x y (j+1)=bothN x y j+min (cntC x j) (cntC y j) from rfl);clear e1 e2 hcells hcells'
       rcases Nat.lt_or_ge (cntC y j) (cntC x j) with hmn | hmn
       ·have hm1:((cntC y j:Nat):Int)<(cntC x j:Nat):=by omega
        go_wp2;go_roundw
        case rel=>exact ⟨j+1,_,by omega,by go_num,by rw[HS.out,Nat.min_eq_right (by omega)]; go_num,rfl⟩
        case measure=>simp[intOf]; omega
       ·have hm1:¬((cntC y j:Nat):Int)<(cntC x j:Nat):=by omega
        go_wp2;go_roundw
        case rel=>exact ⟨j+1,_,by omega,by go_num,by rw[HS.out,Nat.min_eq_left (by omega)]; go_num,rfl⟩
        case measure=>simp[intOf]; omega
    ·have e:j=c:=by omega
     subst e;clear hcells hcells';go_wp2;go_ret2;refine ⟨?_,q2,rfl⟩;unfold rightZ nearZ;rw[HE.out]
     rfl
def GL (B:Nat) (w:World) (v:Value) (gs:List Gs):Prop:=
 ∃ a cap,∃ V:Nat→Value,v=.slice a gs.length cap∧gs.length≤cap∧cap≤9223372036854775807 ∧
  (0<gs.length→∃ b off,a=some ⟨b,off,none⟩∧B≤b∧∀ i (h:i<gs.length),
   w.cell? ⟨b,off+i*3,none⟩=some (V i)∧w.cell? ⟨b,off+i*3+1,none⟩=some (.int .i64 gs[i].right)∧w.cell? ⟨b,off+i*3+2,none⟩=some (.int .i64 gs[i].near)) ∧
  ∀ i (h:i<gs.length),Ints B w (V i) gs[i].code
theorem GL.nil (B:Nat) (w:World):GL B w (.slice none 0 0) []:=⟨none,0,fun _=>undef,rfl,by simp,by simp,by simp,by simp⟩
theorem GL.keep {B:Nat} {w w':World} {v:Value} {gs:List Gs} (h:GL B w v gs) (hs:Above B w w'):GL B w' v gs:=by
 obtain ⟨a,cap,V,h1,h2,h3,h4,h5⟩:=h;refine ⟨a,cap,V,h1,h2,h3,fun hp=>?_,fun i hi=>(h5 i hi).keep hs⟩;obtain ⟨b,off,h6,hb,h7⟩:=h4 hp;exact ⟨b,off,h6,hb,fun i hi=>⟨hs.cell (by exact hb) (h7 i hi).1,hs.cell (by exact hb) (h7 i hi).2.1,hs.cell (by exact hb) (h7 i hi).2.2⟩⟩
theorem GL.below {B:Nat} {w w':World} {v:Value} {gs:List Gs} (h:GL B w v gs) (hb:Below w.heap.size w w'):GL B w' v gs:=h.keep (.of_below hb)
theorem all_step {p c:Int} {gs:List Gs} {k:Nat} (hk:k<gs.length) (h:(gs.take k).all (guessOkB p c)=true) (hg:guessOkB p c gs[k]=true):(gs.take (k+1)).all (guessOkB p c)=true:=by
 rw[List.take_succ_eq_append_getElem hk,List.all_append,h];simp[hg]
theorem all_bad {p c:Int} {gs:List Gs} {k:Nat} (hk:k<gs.length) (hg:guessOkB p c gs[k]=false):guessesB p c gs=false:=by
 rw[←Bool.not_eq_true];intro h;unfold guessesB at h;rw[Bool.and_eq_true,Bool.and_eq_true,List.all_eq_true] at h;have:=h.2.2 _ (List.getElem_mem hk);rw[hg] at this
 cases this
theorem all_end {p c:Int} {gs:List Gs} (h:gs.all (guessOkB p c)=true):guessesB p c gs=(codesB p c&&decide ((gs.length:Int)≤9)):=by
 unfold guessesB;rw[h,Bool.and_true]
 congr 1
 rw[decide_eq_decide];omega
theorem guessOk_code {p c:Int} {g:Gs} (h:codeOkB p c g.code=false):guessOkB p c g=false:=by unfold guessOkB; rw[h]; rfl
theorem guessOk_right {p c:Int} {g:Gs} (h:g.right<0):guessOkB p c g=false:=by unfold guessOkB; rw[decide_eq_false (by omega)]; simp
theorem guessOk_near {p c:Int} {g:Gs} (h:g.near<0):guessOkB p c g=false:=by unfold guessOkB; rw[decide_eq_false (by omega)]; simp
theorem guessOk_yes {p c:Int} {g:Gs} (h:codeOkB p c g.code=true) (h1:¬g.right<0) (h2:¬g.near<0):guessOkB p c g=true:=by unfold guessOkB; rw[h,decide_eq_true (by omega)]; rfl
set_option maxHeartbeats 2000000 in
theorem guessesS_any {B:Nat} (p c:Int) (v:Value) (gs:List Gs) (w:World) (h:GL B w v gs):
  Calls Tryz.prog 50 #[.int .i64 p,.int .i64 c,v] w fun e w'=>e=.returned (.bool (guessesB p c gs))∧w=w':=by
 obtain ⟨a,cap,V,rfl,hcap,hmax,hcells,hV⟩:=h;go_enter Tryz.func50,Tryz.ntmps50;go_wp2;go_loop [7] (fun i=>∃ k:Nat,k≤gs.length∧i=.int .i64 k∧(gs.take k).all (guessOkB p c)=true) (fun i=>gs.length-(intOf i).toNat)
 case atStart=>exact ⟨0,Nat.zero_le _,rfl,rfl⟩
 case round=>
  obtain ⟨k,hk,rfl,ht⟩:=hrel;have HT:=hdd ht;clear ht
  by_cases hlt:k<gs.length
  ·obtain ⟨b,off,rfl,_,hc⟩:=hcells (by omega)
   obtain ⟨c1,c2,c3⟩:=hc k hlt;have hO:=codeOkS_any p c (V k) gs[k].code w (hV k hlt);clear hc hcells hV;have HY:=hdd (@guessOk_yes p c gs[k]);have HN1:=hdd (@guessOk_code p c gs[k]);have HN2:=hdd (@guessOk_right p c gs[k]);have HN3:=hdd (@guessOk_near p c gs[k]);have HB:=hdd (@all_bad p c gs k hlt);have HS:=hdd (@all_step p c gs k hlt HT.out);obtain ⟨g,hg⟩:∃ g,g=gs[k]:=⟨_,rfl⟩
   rw[←hg] at c2 c3 hO HY HN1 HN2 HN3 HB HS;clear hg
   cases ho:codeOkB p c g.code
   ·rw[ho] at hO
    have HR:=hdd (HB.out (HN1.out ho));clear ho;go_wp2_with fail;refine hO.mono ?_;rintro e w2 ⟨rfl,rfl⟩;clear hO;go_wp2;go_ret;exact ⟨ret_bool (by rw[HR.out]),rfl⟩
   ·rw[ho] at hO
    by_cases hr:g.right<0
    ·have HR:=hdd (HB.out (HN2.out hr))
     clear ho;go_wp2_with fail;refine hO.mono ?_;rintro e w2 ⟨rfl,rfl⟩;clear hO;go_wp2;go_ret;exact ⟨ret_bool (by rw[HR.out]),rfl⟩
    ·by_cases hn:g.near<0
     ·have HR:=hdd (HB.out (HN3.out hn))
      clear ho;go_wp2_with fail;refine hO.mono ?_;rintro e w2 ⟨rfl,rfl⟩;clear hO;go_wp2;go_ret;exact ⟨ret_bool (by rw[HR.out]),rfl⟩
     ·have HR:=hdd (HS.out (HY.out ho hr hn))
      clear ho;go_wp2_with fail;refine hO.mono ?_;rintro e w2 ⟨rfl,rfl⟩;clear hO;go_wp2;go_round
      case rel=>exact ⟨k+1,by omega,by go_num,HR.out⟩
      case measure=>simp[intOf]; omega
  ·have HR:=hdd (all_end (p:=p) (c:=c) (gs:=gs) (by have:=HT.out; rwa [List.take_of_length_le (by omega)] at this))
   clear hcells hV
   by_cases h1:1≤p∧p≤3
   ·have q1:=l1In_yes p 1 3 w h1
    by_cases h2:1≤c∧c≤5
    ·have q2:=l1In_yes c 1 5 w h2
     have HR2:=hdd (HR.out.trans (by rw[codesB_iff.2 ⟨h1,h2⟩,Bool.true_and]));clear h1 h2 HR
     cases hd:decide ((gs.length:Int)≤9)
     ·have HD:=hdd hd
      go_wp2_with fail;refine q1.mono ?_;rintro e w2 ⟨rfl,rfl⟩;clear q1;go_wp2_with fail;refine q2.mono ?_;rintro e w2 ⟨rfl,rfl⟩;clear q2;go_wp2;go_ret;exact ⟨ret_bool (by rw[HR2.out,HD.out]),rfl⟩
     ·have HD:=hdd hd
      go_wp2_with fail;refine q1.mono ?_;rintro e w2 ⟨rfl,rfl⟩;clear q1;go_wp2_with fail;refine q2.mono ?_;rintro e w2 ⟨rfl,rfl⟩;clear q2;go_wp2;go_ret;exact ⟨ret_bool (by rw[HR2.out,HD.out]),rfl⟩
    ·have q2:=l1In_no c 1 5 w h2
     have HR2:=hdd (HR.out.trans (by rw[show codesB p c=false from by rw[←Bool.not_eq_true,codesB_iff]; exact fun q=>h2 q.2]; rfl:_=false));clear h1 h2 HR;go_wp2_with fail;refine q1.mono ?_;rintro e w2 ⟨rfl,rfl⟩;clear q1;go_wp2_with fail;refine q2.mono ?_;rintro e w2 ⟨rfl,rfl⟩;clear q2;go_wp2;go_ret;exact ⟨ret_bool (by rw[HR2.out]),rfl⟩
   ·have q1:=l1In_no p 1 3 w h1
    have HR2:=hdd (HR.out.trans (by rw[show codesB p c=false from by rw[←Bool.not_eq_true,codesB_iff]; exact fun q=>h1 q.1]; rfl:_=false));clear h1 HR;go_wp2_with fail;refine q1.mono ?_;rintro e w2 ⟨rfl,rfl⟩;clear q1;go_wp2;go_ret;exact ⟨ret_bool (by rw[HR2.out]),rfl⟩
theorem guess_code {p c:Int} {gs:List Gs} (h:guessesB p c gs=true) {i:Nat} (hi:i<gs.length):CodeP p c gs[i].code:=by
 unfold guessesB at h;rw[Bool.and_eq_true,Bool.and_eq_true,List.all_eq_true] at h;have:=h.2.2 _ (List.getElem_mem hi);unfold guessOkB at this;rw[Bool.and_eq_true] at this;exact codeOkB_iff.1 this.1
theorem guesses_codes {p c:Int} {gs:List Gs} (h:guessesB p c gs=true):codesP p c:=by unfold guessesB at h; rw[Bool.and_eq_true] at h; exact codesB_iff.1 h.1
theorem fits_step {x:List Int} {gs:List Gs} {k:Nat} (hk:k<gs.length) (h:fitsB x (gs.take k)=true) (h1:rightZ x gs[k].code=gs[k].right) (h2:nearZ x gs[k].code=gs[k].near):fitsB x (gs.take (k+1))=true:=by
 unfold fitsB at h ⊢;rw[List.take_succ_eq_append_getElem hk,List.all_append,h];simp[h1,h2]
theorem fits_bad {x:List Int} {gs:List Gs} {k:Nat} (hk:k<gs.length) (h:¬(rightZ x gs[k].code=gs[k].right∧nearZ x gs[k].code=gs[k].near)):fitsB x gs=false:=by
 rw[←Bool.not_eq_true];intro hf;unfold fitsB at hf;rw[List.all_eq_true] at hf;have:=hf _ (List.getElem_mem hk);rw[decide_eq_true_eq] at this;exact h this
set_option maxHeartbeats 2000000 in
theorem fitsS_any {B C:Nat} (n c:Nat) (v u:Value) (gs:List Gs) (x:List Int) (w:World) (h:GL B w v gs) (hx:Ints C w u x) (hg:guessesB n c gs=true) (hcx:CodeP n c x):
  Calls Tryz.prog 90 #[.int .i64 n,.int .i64 c,v,u] w (Quiet (.bool (fitsB x gs)) w):=by
 obtain ⟨a,cap,V,rfl,hcap,hmax,hcells,hV⟩:=h;have HG:=hdd hg;have HCX:=hdd hcx;clear hg hcx;go_enter Tryz.func90,Tryz.ntmps90;go_wp2;go_loopw [9] (fun i wr=>∃ k q:Nat,k≤gs.length∧i=.int .i64 k∧fitsB x (gs.take k)=true∧wr=w.drewN q) (fun i _=>gs.length-(intOf i).toNat)
 case atStart=>exact ⟨0,0,Nat.zero_le _,rfl,rfl,rfl⟩
 case round=>
  obtain ⟨k,q,hk,rfl,ht,rfl⟩:=hrel;have HT:=hdd ht;clear ht
  by_cases hlt:k<gs.length
  ·obtain ⟨b,off,rfl,_,hc⟩:=hcells (by omega)
   obtain ⟨c1,c2,c3⟩:=hc k hlt;have hA:=answerS_ok n c u (V k) x gs[k].code (w.drewN q) hx (hV k hlt) HCX.out (guess_code HG.out hlt);have HS:=hdd (@fits_step x gs k hlt HT.out);have HB:=hdd (@fits_bad x gs k hlt);clear hc hcells hV hx;obtain ⟨g,hgg⟩:∃ g,g=gs[k]:=⟨_,rfl⟩
   rw[←hgg] at c2 c3 hA HS HB;clear hgg;obtain ⟨r1,hr1⟩:∃ r1,r1=rightZ x g.code:=⟨_,rfl⟩
   obtain ⟨r2,hr2⟩:∃ r2,r2=nearZ x g.code:=⟨_,rfl⟩
   rw[←hr1,←hr2] at hA HS HB;clear hr1 hr2
   by_cases e1:r1=g.right
   ·have f1:(r1 != g.right)=false:=by simpa using e1
    by_cases e2:r2=g.near
    ·have f2:(r2 != g.near)=false:=by simpa using e2
     have HR:=hdd (HS.out e1 e2);clear e1 e2 HS HB;go_wp2_with fail;refine hA.mono ?_;rintro e w2 ⟨rfl,nq,rfl⟩;clear hA;go_wp2;go_roundw
     case rel=>exact ⟨k+1,q+nq,by omega,by go_num,HR.out,by simp⟩
     case measure=>simp[intOf]; omega
    ·have f2:(r2 != g.near)=true:=by simpa using e2
     have HR:=hdd (HB.out (fun q=>e2 q.2));clear e1 e2 HS HB;go_wp2_with fail;refine hA.mono ?_;rintro e w2 ⟨rfl,nq,rfl⟩;clear hA;go_wp2;go_ret;exact ⟨ret_bool (by rw[HR.out]),q+nq,by simp⟩
   ·have f1:(r1 != g.right)=true:=by simpa using e1
    have HR:=hdd (HB.out (fun q=>e1 q.1));clear e1 HS HB;go_wp2_with fail;refine hA.mono ?_;rintro e w2 ⟨rfl,nq,rfl⟩;clear hA;go_wp2;go_ret;exact ⟨ret_bool (by rw[HR.out]),q+nq,by simp⟩
  ·have HR:=hdd (show fitsB x gs=true from by have:=HT.out; rwa [List.take_of_length_le (by omega)] at this)
   clear hcells hV;go_wp2;go_ret;exact ⟨ret_bool (by rw[HR.out]),_,rfl⟩
def OwnR (B:Nat) (w:World) (v:Value) (xss:List (List Int)):Prop:=
 ∃ vs,w.ownsRow B 37 1 v vs.length vs∧vs.length=xss.length∧∀ i (h:i<vs.length) (h':i<xss.length),OwnI B w vs[i] xss[i]
theorem OwnII.toR {B:Nat} {w:World} {v:Value} {xss:List (List Int)} (h:OwnII B w v xss):OwnR B w v xss:=by
 obtain ⟨vs,h1,h2,h3,_⟩:=h;exact ⟨vs,h1,h2,h3⟩
theorem OwnR.rows {B:Nat} {w:World} {v:Value} {xss:List (List Int)} (h:OwnR B w v xss) (hr:∀ xs∈xss,∀ x∈xs,In64 x):Rows2 B w v xss:=by
 obtain ⟨vs,h1,h2,h3⟩:=h;exact ⟨vs,sl_of_own h1,h2,fun i hi hi'=>(h3 i hi hi').toInts (hr _ (List.getElem_mem _))⟩
theorem OwnR.keep {B:Nat} {w w':World} {v:Value} {xss:List (List Int)} (h:OwnR B w v xss) (hs:Above B w w'):OwnR B w' v xss:=by
 obtain ⟨vs,h1,h2,h3⟩:=h;exact ⟨vs,owns_keep h1 hs,h2,fun i hi hi'=>owns_keep (h3 i hi hi') hs⟩
theorem OwnR.below {B:Nat} {w w':World} {v:Value} {xss:List (List Int)} (h:OwnR B w v xss) (hb:Below w.heap.size w w'):OwnR B w' v xss:=h.keep (.of_below hb)
theorem OwnR.mono {B B':Nat} {w:World} {v:Value} {xss:List (List Int)} (h:OwnR B w v xss) (hB:B'≤B):OwnR B' w v xss:=by
 obtain ⟨vs,h1,h2,h3⟩:=h;exact ⟨vs,owns_mono h1 hB,h2,fun i hi hi'=>owns_mono (h3 i hi hi') hB⟩
theorem OwnR.alloc {B:Nat} {w:World} {v:Value} {xss:List (List Int)} (h:OwnR B w v xss) (o:Obj):OwnR B (w.alloc o) v xss:=by
 obtain ⟨vs,h1,h2,h3⟩:=h;exact ⟨vs,World.ownsRow.alloc h1 o,h2,fun i hi hi'=>World.ownsRow.alloc (h3 i hi hi') o⟩
theorem OwnR.empty (B:Nat) (w:World):OwnR B w (.slice none 0 0) []:=(OwnII.empty B w).toR
theorem OwnR.shape {B:Nat} {w:World} {v:Value} {xss:List (List Int)} (h:OwnR B w v xss):∃ a cap,v=.slice a xss.length cap∧xss.length≤cap∧cap≤9223372036854775807:=by
 obtain ⟨vs,h1,h2,h3⟩:=h;obtain ⟨a,cap,rfl,h4,h5⟩:=own_shape h1;exact ⟨a,cap,by rw[h2],by omega,by simpa [maxLen] using h5⟩
theorem OwnR.at {B:Nat} {w:World} {a:Option Addr} {n cap:Nat} {xss:List (List Int)} (h:OwnR B w (.slice a n cap) xss) (k:Nat) (hk:k<xss.length):
  ∃ g u,a=some ⟨g,0,none⟩∧B≤g∧w.cell? ⟨g,k,none⟩=some u∧OwnI B w u xss[k]:=by
 obtain ⟨vs,h1,h2,h3⟩:=h;obtain ⟨g,cap',he,hB,_⟩:=own_head h1 (by omega);injection he with e1 e2 e3;subst e1 e2;refine ⟨g,vs[k]'(by omega),rfl,hB,?_,h3 k (by omega) hk⟩;rw[World.ownsRow.cellAt h1 k (by omega),List.getElem?_eq_getElem (show k<vs.length by omega)]
theorem wpList_push_r (w:World) {ops:Array Oper} {rest:List Oper} {o:Oper} {a:Act} {Q:Exit→Act→World→Prop}
  (hg:o.guard=none) (s x:Operand) (hop:o.op=Op.call { callee:=Callee.builtin Builtin.append,args:=#[s,x],argTypes:=#[79,79] })
  (B:Nat) (v:Value) (xss:List (List Int)) (hs:a.eval s=v) (hown:OwnR B w v xss) (ad:Addr) (c:Nat) (r:Value) (xs:List Int) (hx:a.eval x=.slice (some ad) 1 c) (hc:w.cell? ad=some r)
  (hr:OwnI B w r xs) (hlen:xss.length≤1099511627776) (hB:B≤w.heap.size)
  (hK:∀ a' cap' w',OwnR B w' (.slice a' (xss.length+1) cap') (xss++[xs])→w.grownBy w' v.ownBlock→((Value.slice a' (xss.length+1) cap').ownBlock=v.ownBlock∨(Value.slice a' (xss.length+1) cap').ownBlock=some w.heap.size)→wpList Tryz.prog ops Q rest (a.put o.dst (.slice a' (xss.length+1) cap')) w'):
  wpList Tryz.prog ops Q (o::rest) a w:=by
 obtain ⟨i0,hi,hz0,hz1,hz2⟩:=info_parts infoInts;obtain ⟨vs,h1,h2,h3⟩:=hown;have hone:r.oneCell'=true:=by
  obtain ⟨_,_,rfl,_⟩:=own_shape hr
  rfl
 refine wpList_append_own_at w hg s x 79 hop B 37 i0 (.slice none 0 0) 1 24 Tryz.underlying79 hi hz0 hz1 hz2 rfl (by decide) v vs.length vs hs h1 ad 1 c [r] hx rfl ?_ (by simp[hone]) (by unfold maxLen; omega) (by omega) hB ?_
 ·intro j u hj
  match j,hj with
  | 0,hj=>simp at hj; subst hj; simpa [Addr.add] using hc
 ·intro v' w' h5 h6 _ h7
  have hap:∀ u ys,OwnI B w u ys→OwnI B w' u ys:=fun u ys hu=>World.ownsRow.kept hu h6 (own_apart hu h1 (by decide))
  obtain ⟨a',cap',rfl,_⟩:=own_shape h5;rw[h2] at h5 h7 ⊢;refine hK a' cap' w' ⟨vs++[r],by simpa [h2] using h5,by simp[h2],fun i hi' hi''=>?_⟩ h6 h7
  by_cases hlt:i<vs.length
  ·rw[List.getElem_append_left hlt,List.getElem_append_left (by omega)]
   exact hap _ _ (h3 i hlt (by omega))
  ·have e:i=vs.length:=by simp at hi'; omega
   subst e;have:=hap _ _ hr
   simpa [h2] using this
theorem OwnR.lt {B:Nat} {w:World} {v:Value} {xss:List (List Int)} (h:OwnR B w v xss) (k:Nat) (hk:v.ownBlock=some k):B≤k∧k<w.heap.size:=by
 obtain ⟨vs,h1,_⟩:=h;exact World.ownsRow.lt h1 k hk
theorem wpList_push_rnew (wr W3:World) {ops:Array Oper} {rest:List Oper} {o:Oper} {a:Act} {Q:Exit→Act→World→Prop}
  (hg:o.guard=none) (s x:Operand) (hop:o.op=Op.call { callee:=Callee.builtin Builtin.append,args:=#[s,x],argTypes:=#[79,79] })
  (B:Nat) (v:Value) (xss:List (List Int)) (hs:a.eval s=v) (hown:OwnR B wr v xss) (hb:Below wr.heap.size wr W3) (N:Nat) (hN:W3.heap.size=N) (r:Value) (xs:List Int) (hx:a.eval x=.slice (some ⟨N,0,none⟩) 1 1)
  (hr:OwnI wr.heap.size W3 r xs) (hlen:xss.length≤1099511627776) (hB:B≤wr.heap.size)
  (hK:∀ a' cap' w',OwnR B w' (.slice a' (xss.length+1) cap') (xss++[xs])→Below B wr w'→wpList Tryz.prog ops Q rest (a.put o.dst (.slice a' (xss.length+1) cap')) w'):
  wpList Tryz.prog ops Q (o::rest) a (W3.alloc (.cells #[r] 37)):=by
 have hsz:=hb.size;have hb4:Below wr.heap.size wr (W3.alloc (.cells #[r] 37)):=hb.alloc hsz _;have hr4:OwnI wr.heap.size (W3.alloc (.cells #[r] 37)) r xs:=World.ownsRow.alloc hr _;refine wpList_push_r _ hg s x hop B v xss hs (hown.below hb4) ⟨N,0,none⟩ 1 r xs hx ?_ (hr4.mono hB) hlen (by simp; omega) ?_
 ·subst hN
  exact cell_of_one (heap_alloc_new W3 _)
 ·intro a' cap' w' h1 h2 _
  refine hK a' cap' w' h1 ((hb4.mono hB).grown h2 (by simp; omega) ?_);intro k hk;exact (hown.lt k hk).1
theorem run_append_ints_nil (w:World) (ty:TypeId) {B:Nat} {v:Value} {n:Nat} {xs:List Value} (hown:w.ownsRow B 3 1 v n xs) (c:Nat):
  (Builtin.append_ #[37,37] ty #[v,.slice none 0 c]).run Tryz.prog w=.ok v w:=by
 obtain ⟨i0,hi,hz0,hz1,hz2⟩:=info_parts infoInt;have ht:=Tryz.underlying37
 rcases hown.2 with ⟨rfl,rfl⟩ | ⟨g,cap,cur,rfl,_,_,hnc,_⟩
 ·simp[Builtin.append_,run_underlying ht,sizeOf,typeInfo,hi,Builtin.lenOf,Builtin.firstCells]
 ·simp[Builtin.append_,run_underlying ht,sizeOf,typeInfo,hi,Builtin.lenOf,Builtin.firstCells,hnc,storeCells]
theorem wpList_push_all (w:World) {ops:Array Oper} {rest:List Oper} {o:Oper} {a:Act} {Q:Exit→Act→World→Prop}
  (hg:o.guard=none) (s x:Operand) (hop:o.op=Op.call { callee:=Callee.builtin Builtin.append,args:=#[s,x],argTypes:=#[37,37] })
  (B C:Nat) (v:Value) (xs:List Int) (hs:a.eval s=v) (hown:OwnI B w v xs) (u:Value) (ys:List Int) (hx:a.eval x=u) (hu:OwnI C w u ys)
  (hlen:xs.length+ys.length≤1099511627776) (hB:B≤w.heap.size)
  (hK:∀ a' cap' w',OwnI B w' (.slice a' (xs.length+ys.length) cap') (xs++ys)→w.grownBy w' v.ownBlock→wpList Tryz.prog ops Q rest (a.put o.dst (.slice a' (xs.length+ys.length) cap')) w'):
  wpList Tryz.prog ops Q (o::rest) a w:=by
 obtain ⟨i0,hi,hz0,hz1,hz2⟩:=info_parts infoInt;obtain ⟨au,cu,rfl,hcu,hmu,hcells⟩:=hu.opened
 rcases au with _ | ad
 ·have hy:ys=[]:=by
   apply List.eq_nil_of_length_eq_zero
   rcases Nat.eq_zero_or_pos ys.length with h0 | h0
   ·exact h0
   ·obtain ⟨g,h,_⟩:=hcells h0
    cases h
  subst hy;obtain ⟨av,cv,rfl,_⟩:=own_shape hown;refine wpList_plain hg fun K hK'=>?_
  unfold Oper.wp execOp;simp only[hop,resolve,invoke,builtin,Sem.run_bind,Sem.run_pure,Result.andThen_ok,List.map_toArray,List.map_cons,List.map_nil,hs,hx];have:=run_append_ints_nil w o.type hown cu;simp only[List.length_nil] at this ⊢;rw[this];refine hK' _ _ ?_;have:=hK av cv w (by simpa using hown) (World.grownBy.refl w _)
  simpa using this
 ·refine wpList_append_own w hg s x 37 hop B 3 i0 (.int .i64 0) 1 8 Tryz.underlying37 hi hz0 hz1 hz2 rfl (by decide) v xs.length (ints xs) hs hown ad ys.length cu (ints ys) hx (by simp) ?_ (by intro u hu; obtain ⟨y,_,rfl⟩:=List.mem_map.1 hu; simp[Value.oneCell']) (by unfold maxLen; omega) (by omega) hB ?_
  ·intro j u hj
   have hlt:j<ys.length:=by
    have:=(List.getElem?_eq_some_iff.1 hj).1
    simpa using this
   have:(ints ys)[j]?=some (.int .i64 ys[j]):=by rw[List.getElem?_eq_getElem (by simpa using hlt)]; simp
   rw[this] at hj;obtain rfl:=Option.some.inj hj;obtain ⟨g,he,_,hc,_⟩:=hcells (by omega);injection he with he;subst he;have:=hc j hlt
   by_cases h0:j=0
   ·subst h0; simpa [Addr.add] using this
   ·simpa [Addr.add,h0] using this
  ·intro v' w' h1 h2 _
   obtain ⟨a',cap',rfl,_⟩:=own_shape h1;refine hK a' cap' w' ?_ h2;unfold OwnI;rw[ints_append]
   simpa [ints] using h1
def gV (v:Value) (r n:Int):Value:=.agg #[v,.int .i64 r,.int .i64 n]
def dV (b:Bool) (v:Value) (r n:Int):Value:=.agg #[.bool b,v,.int .i64 r,.int .i64 n]
def nothingB (xs:List Int) (r n:Int):Bool:=decide (xs=[]∧r=0∧n=0)
theorem nothing_any (a:Option Addr) (cap:Nat) (xs:List Int) (r n:Int) (w:World) (hl:xs.length≤9223372036854775807):
  Calls Tryz.prog 53 #[gV (.slice a xs.length cap) r n] w fun e w'=>e=.returned (.bool (nothingB xs r n))∧Below w.heap.size w w':=by
 unfold gV;have hb:∀ o,Below w.heap.size w (w.alloc o):=fun o=>(Below.refl _ _).alloc (Nat.le_refl _) _
 by_cases hx:xs=[]
 ·have hx1:((xs.length:Int)==0)=true:=by rw[hx]; rfl
  by_cases hr:r=0
  ·have hr1:(r==0)=true:=by rw[hr]; rfl
   by_cases hn:n=0
   ·have HR:=hdd (show nothingB xs r n=true from decide_eq_true ⟨hx,hr,hn⟩)
    have hn1:(n==0)=true:=by rw[hn]; rfl
    clear hx hr hn;go_enter Tryz.func53,Tryz.ntmps53;go_wp2;go_ret;exact ⟨ret_bool (by rw[HR.out]),hb _⟩
   ·have HR:=hdd (show nothingB xs r n=false from decide_eq_false (fun h=>hn h.2.2))
    have hn1:(n==0)=false:=by simpa using hn
    clear hx hr hn;go_enter Tryz.func53,Tryz.ntmps53;go_wp2;go_ret;exact ⟨ret_bool (by rw[HR.out]),hb _⟩
  ·have HR:=hdd (show nothingB xs r n=false from decide_eq_false (fun h=>hr h.2.1))
   have hr1:(r==0)=false:=by simpa using hr
   clear hx hr;go_enter Tryz.func53,Tryz.ntmps53;go_wp2;go_ret;exact ⟨ret_bool (by rw[HR.out]),hb _⟩
 ·have HR:=hdd (show nothingB xs r n=false from decide_eq_false (fun h=>hx h.1))
  have hx1:((xs.length:Int)==0)=false:=by
   rw[beq_eq_false_iff_ne];intro e;exact hx (List.eq_nil_of_length_eq_zero (by omega))
  clear hx;go_enter Tryz.func53,Tryz.ntmps53;go_wp2;go_ret;exact ⟨ret_bool (by rw[HR.out]),hb _⟩
def GuessOut (xs:List Int) (r n:Int) (w:World) (e:Ending) (w':World):Prop:=
 ∃ a cap,e=.returned (gV (.slice a xs.length cap) r n)∧OwnI w.heap.size w' (.slice a xs.length cap) xs∧Below w.heap.size w w'
end
section
open Go.RowKit
def adjI (n:Nat) (ring:Bool) (i k:Nat):Int:=if k+1=i∨i+1=k∨(ring=true∧(k+(n-1)=i∨i+(n-1)=k)) then 1 else 0
def rowR (n:Nat) (ring:Bool) (i:Nat):List Int:=(List.range n).map (adjI n ring i)
def lineR (n:Nat) (ring:Bool):List (List Int):=(List.range n).map (rowR n ring)
@[simp] theorem rowR_length (n:Nat) (ring:Bool) (i:Nat):(rowR n ring i).length=n:=by simp[rowR]
@[simp] theorem lineR_length (n:Nat) (ring:Bool):(lineR n ring).length=n:=by simp[lineR]
theorem lineR_get (n:Nat) (ring:Bool) (i:Nat) (h:i<(lineR n ring).length):(lineR n ring)[i]=rowR n ring i:=by simp[lineR]
theorem rowR_get (n:Nat) (ring:Bool) (i k:Nat) (h:k<(rowR n ring i).length):(rowR n ring i)[k]=adjI n ring i k:=by simp[rowR]
def inRowR (boxes:Int):List (List Int):=if 1≤boxes∧boxes≤6 then lineR boxes.toNat false else []
def rowP (n:Nat) (ring:Bool) (i j:Nat):List Int:=(rowR n ring i).take j++List.replicate (n-j) 0
@[simp] theorem rowP_length {n:Nat} {ring:Bool} {i j:Nat} (h:j≤n):(rowP n ring i j).length=n:=by simp[rowP]; omega
theorem rowP_zero (n:Nat) (ring:Bool) (i:Nat):rowP n ring i 0=List.replicate n 0:=by simp[rowP]
theorem rowP_full (n:Nat) (ring:Bool) (i:Nat):rowP n ring i n=rowR n ring i:=by simp[rowP,List.take_of_length_le]
theorem rowP_hit {n:Nat} {ring:Bool} {i j:Nat} (h:j<n) (ha:adjI n ring i j=1):(rowP n ring i j).set j 1=rowP n ring i (j+1):=by
 have e:=copy_step (xs:=rowR n ring i) (k:=j) (n:=n) (by simpa using h) (by simp);rw[rowR_get,ha] at e;exact e
theorem rowP_miss {n:Nat} {ring:Bool} {i j:Nat} (h:j<n) (ha:adjI n ring i j=0):rowP n ring i j=rowP n ring i (j+1):=by
 have e:=copy_step (xs:=rowR n ring i) (k:=j) (n:=n) (by simpa using h) (by simp);rw[rowR_get,ha] at e;unfold rowP;rw[←e,List.set_append_right _ _ (by simp; omega)];have e0:j-(List.take j (rowR n ring i)).length=0:=by simp; omega
 rw[e0];obtain ⟨m,hm⟩:∃ m,n-j=m+1:=⟨n-j-1,by omega⟩
 rw[hm,List.replicate_succ,List.set_cons_zero]
def lineP (n:Nat) (ring:Bool) (i j:Nat):List (List Int):=((lineR n ring).take i++List.replicate (n-i) []).set i (rowP n ring i j)
def lineQ (n:Nat) (ring:Bool) (i:Nat):List (List Int):=(lineR n ring).take i++List.replicate (n-i) []
@[simp] theorem lineQ_length {n:Nat} {ring:Bool} {i:Nat} (h:i≤n):(lineQ n ring i).length=n:=by simp[lineQ]; omega
@[simp] theorem lineP_length {n:Nat} {ring:Bool} {i j:Nat} (h:i≤n):(lineP n ring i j).length=n:=by simp[lineP]; omega
theorem lineP_get {n:Nat} {ring:Bool} {i j:Nat} (h:i<n) (h':i<(lineP n ring i j).length):(lineP n ring i j)[i]=rowP n ring i j:=by simp[lineP]
theorem lineP_full {n:Nat} {ring:Bool} {i:Nat} (h:i<n):lineP n ring i n=lineQ n ring (i+1):=by
 unfold lineP lineQ;rw[rowP_full,←lineR_get n ring i (by simpa using h)];exact copy_step2 (by simpa using h) (by simp)
theorem lineP_set {n:Nat} {ring:Bool} {i j:Nat} (h:i<n) (x:List Int) (hx:x=rowP n ring i (j+1)):(lineP n ring i j).set i x=lineP n ring i (j+1):=by
 subst hx;simp[lineP]
theorem lineP_miss {n:Nat} {ring:Bool} {i j:Nat} (h:i<n) (hj:j<n) (ha:adjI n ring i j=0):lineP n ring i j=lineP n ring i (j+1):=by
 unfold lineP;rw[rowP_miss hj ha]
set_option maxHeartbeats 1000000 in
theorem line_any (n:Nat) (ring:Bool) (w:World) (h0:1≤n) (h1:n≤6) (h2:ring=true→3≤n):
  Calls Tryz.prog 206 #[.int .i64 n,.bool ring] w (FreshII (lineR n ring) w):=by
 go_enter Tryz.func206,Tryz.ntmps206;go_wp2_with (at_make; refine wpList_make_rows _ rfl _ _ rfl _ _ n rfl rfl rfl rfl (by omega) ?_; intro w1 hown hb1 hs1);go_loopw [13] (fun c wr=>∃ i:Nat,i≤n∧c=.int .i64 i∧OwnII w.heap.size wr (.slice (some ⟨w.heap.size,0,none⟩) n n) (lineQ n ring i)∧Below w.heap.size w wr) (fun c _=>n-(intOf c).toNat)
 case atStart=>exact ⟨0,Nat.zero_le _,rfl,by simpa [lineQ] using hown,hb1⟩
 case round=>
  obtain ⟨i,hi,rfl,ho,hb⟩:=hrel;clear hown hb1
  by_cases hlt:i<n
  ·obtain ⟨⟨u0,hc0,_⟩,hf0⟩:=ho.at i (by rw[lineQ_length hi]; exact hlt)
   have hsz:=hb.size;have HO:=hdd ho;have HB:=hdd hb;clear ho hb;go_wp2_with (at_make; refine wpList_make_ints _ rfl _ _ rfl _ _ n rfl rfl rfl rfl (by omega) ?_; intro w2 hr2 hb2 hs2; obtain ⟨hcx,hfx⟩:=keep_cf hb2 hc0 hf0; have HR:=hdd hr2; have HB2:=hdd hb2; clear hr2 hb2);have hW:OwnII w.heap.size (w2.setCell ⟨w.heap.size,i,none⟩ (.slice (some ⟨wr.heap.size,0,none⟩) n n)) (.slice (some ⟨w.heap.size,0,none⟩) n n) (lineP n ring i 0):=by
    have:=HO.out.setFresh HB2.out hsz i HR.out;unfold lineP; rw[rowP_zero]; exact this
   have hWB:Below w.heap.size w (w2.setCell ⟨w.heap.size,i,none⟩ (.slice (some ⟨wr.heap.size,0,none⟩) n n)):=(HB.out.trans (HB2.out.mono hsz)).setCell (p:=⟨w.heap.size,i,none⟩) (Nat.le_refl _) _;obtain ⟨wo,hwo⟩:∃ wo:World,wo=w2.setCell ⟨w.heap.size,i,none⟩ (.slice (some ⟨wr.heap.size,0,none⟩) n n):=⟨_,rfl⟩
   rw[←hwo] at hW hWB ⊢;clear hwo hcx hfx hc0 hf0 HO HB HR HB2 hs2 hs1;go_loopw [26] (fun c wi=>∃ j:Nat,j≤n∧c=.int .i64 j∧OwnII w.heap.size wi (.slice (some ⟨w.heap.size,0,none⟩) n n) (lineP n ring i j)∧Below w.heap.size w wi) (fun c _=>n-(intOf c).toNat)
   case atStart=>exact ⟨0,Nat.zero_le _,rfl,hW,hWB⟩
   case round=>
    obtain ⟨j,hj,rfl,ho,hb⟩:=hrel;clear hW hWB
    by_cases hjn:j<n
    ·have hlen:(lineP n ring i j).length=n:=lineP_length hi
     have hrow:(lineP n ring i j)[i]'(by omega)=rowP n ring i j:=lineP_get hlt (by omega);obtain ⟨g',cap',hc1,hB1,hcap1,hcap2,hcell,hfr,hset⟩:=ho.elem i (by omega) (by rw[hrow,rowP_length hj]; omega);rw[hrow,rowP_length hj] at hc1;have hck:=hcell j (by rw[hrow,rowP_length hj]; exact hjn);have hfk:=hfr j;have hlen2:((lineP n ring i j)[i]'(by omega)).length=n:=by rw[hrow,rowP_length hj]
     rw[hlen2] at hcap1;have HO:=hdd ho;have HB:=hdd hb;obtain ⟨e0,he0⟩:∃ e0,e0=((lineP n ring i j)[i]'(by omega))[j]'(by omega):=⟨_,rfl⟩
     rw[←he0] at hck;have hst:=hset j 1;rw[hrow] at hst;have HS:=hdd hst;have HL:=hdd hlen;clear ho hb hcell hfr hset he0 hlen hrow hlen2 hst;have hcase:(adjI n ring i j=1∧((j:Int)-i=1∨(i:Int)-j=1))∨(¬((j:Int)-i=1∨(i:Int)-j=1)∧ring=false∧adjI n ring i j=0) ∨
       (¬((j:Int)-i=1∨(i:Int)-j=1)∧ring=true∧((j:Int)-i=n-1∨(i:Int)-j=n-1)∧adjI n ring i j=1) ∨
       (¬((j:Int)-i=1∨(i:Int)-j=1)∧ring=true∧¬((j:Int)-i=n-1∨(i:Int)-j=n-1)∧adjI n ring i j=0):=by
      unfold adjI
      by_cases q1:(j:Int)-i=1∨(i:Int)-j=1
      ·left; exact ⟨if_pos (by omega),q1⟩
      ·right
       cases hr:ring
       ·left; exact ⟨q1,rfl,if_neg (by simp; omega)⟩
       ·right
        have:=h2 hr
        by_cases q2:(j:Int)-i=n-1∨(i:Int)-j=n-1
        ·left; exact ⟨q1,rfl,q2,if_pos (by right; right; exact ⟨rfl,by omega⟩)⟩
        ·right; exact ⟨q1,rfl,q2,if_neg (by simp; omega)⟩
     rcases Nat.lt_or_ge i j with hij | hij
     ·rcases hcase with ⟨ha,hq⟩ | ⟨hq,hr,ha⟩ | ⟨hq,hr,hq2,ha⟩ | ⟨hq,hr,hq2,ha⟩
      ·have hm1:(((j:Int)-(i:Int))==1)=true:=by rw[beq_iff_eq]; omega
       have HA:=hdd ha;clear ha hq;go_wp2;go_roundw
       case rel=>exact ⟨j+1,by omega,by go_num,by rw[←lineP_set hlt _ (rowP_hit hjn HA.out)]; exact HS.out,HB.out.setCell (by exact hB1) _⟩
       case measure=>simp[intOf]; omega
      ·have hm1:(((j:Int)-(i:Int))==1)=false:=by rw[beq_eq_false_iff_ne]; omega
       have HA:=hdd ha;subst hr;clear ha hq;go_wp2;go_roundw
       case rel=>exact ⟨j+1,by omega,by go_num,by rw[←lineP_miss hlt hjn HA.out]; exact HO.out,HB.out⟩
       case measure=>simp[intOf]; omega
      ·have hm1:(((j:Int)-(i:Int))==1)=false:=by rw[beq_eq_false_iff_ne]; omega
       have hm2:(((j:Int)-(i:Int))==(n:Int)-1)=true:=by rw[beq_iff_eq]; omega
       have HA:=hdd ha;subst hr;clear ha hq hq2;go_wp2;go_roundw
       case rel=>exact ⟨j+1,by omega,by go_num,by rw[←lineP_set hlt _ (rowP_hit hjn HA.out)]; exact HS.out,HB.out.setCell (by exact hB1) _⟩
       case measure=>simp[intOf]; omega
      ·have hm1:(((j:Int)-(i:Int))==1)=false:=by rw[beq_eq_false_iff_ne]; omega
       have hm2:(((j:Int)-(i:Int))==(n:Int)-1)=false:=by rw[beq_eq_false_iff_ne]; omega
       have HA:=hdd ha;subst hr;clear ha hq hq2;go_wp2;go_roundw
       case rel=>exact ⟨j+1,by omega,by go_num,by rw[←lineP_miss hlt hjn HA.out]; exact HO.out,HB.out⟩
       case measure=>simp[intOf]; omega
     ·rcases hcase with ⟨ha,hq⟩ | ⟨hq,hr,ha⟩ | ⟨hq,hr,hq2,ha⟩ | ⟨hq,hr,hq2,ha⟩
      ·have hm1:(((i:Int)-(j:Int))==1)=true:=by rw[beq_iff_eq]; omega
       have HA:=hdd ha;clear ha hq;go_wp2;go_roundw
       case rel=>exact ⟨j+1,by omega,by go_num,by rw[←lineP_set hlt _ (rowP_hit hjn HA.out)]; exact HS.out,HB.out.setCell (by exact hB1) _⟩
       case measure=>simp[intOf]; omega
      ·have hm1:(((i:Int)-(j:Int))==1)=false:=by rw[beq_eq_false_iff_ne]; omega
       have HA:=hdd ha;subst hr;clear ha hq;go_wp2;go_roundw
       case rel=>exact ⟨j+1,by omega,by go_num,by rw[←lineP_miss hlt hjn HA.out]; exact HO.out,HB.out⟩
       case measure=>simp[intOf]; omega
      ·have hm1:(((i:Int)-(j:Int))==1)=false:=by rw[beq_eq_false_iff_ne]; omega
       have hm2:(((i:Int)-(j:Int))==(n:Int)-1)=true:=by rw[beq_iff_eq]; omega
       have HA:=hdd ha;subst hr;clear ha hq hq2;go_wp2;go_roundw
       case rel=>exact ⟨j+1,by omega,by go_num,by rw[←lineP_set hlt _ (rowP_hit hjn HA.out)]; exact HS.out,HB.out.setCell (by exact hB1) _⟩
       case measure=>simp[intOf]; omega
      ·have hm1:(((i:Int)-(j:Int))==1)=false:=by rw[beq_eq_false_iff_ne]; omega
       have hm2:(((i:Int)-(j:Int))==(n:Int)-1)=false:=by rw[beq_eq_false_iff_ne]; omega
       have HA:=hdd ha;subst hr;clear ha hq hq2;go_wp2;go_roundw
       case rel=>exact ⟨j+1,by omega,by go_num,by rw[←lineP_miss hlt hjn HA.out]; exact HO.out,HB.out⟩
       case measure=>simp[intOf]; omega
    ·have e:j=n:=by omega
     subst e;have HO:=hdd (show OwnII w.heap.size wr (.slice (some ⟨w.heap.size,0,none⟩) j j) (lineQ j ring (i+1)) by rw[←lineP_full hlt]; exact ho);have HB:=hdd hb;clear ho hb;go_wp2;go_roundw
     case rel=>exact ⟨i+1,by omega,by go_num,HO.out,HB.out⟩
     case measure=>simp[intOf]; omega
  ·have e:i=n:=by omega
   subst e;have HO:=hdd (show OwnII w.heap.size wr (.slice (some ⟨w.heap.size,0,none⟩) i i) (lineR i ring) by have:=ho; unfold lineQ at this; rwa [Nat.sub_self,List.replicate_zero,List.append_nil,List.take_of_length_le (by simp)] at this);have HB:=hdd hb;clear ho hb;go_wp2;go_ret;exact ⟨_,_,by rw[lineR_length]; rfl,by rw[lineR_length]; exact HO.out,HB.out⟩
theorem implInRow_any (boxes:Int) (w:World):Calls Tryz.prog 175 #[.int .i64 boxes] w (FreshII (inRowR boxes) w):=by
 by_cases h:1≤boxes∧boxes≤6
 ·obtain ⟨n,rfl⟩:=Int.eq_ofNat_of_zero_le (show 0≤boxes by omega)
  have hI:inB (n:Int) 1 6=true:=by simp[inB]; omega
  have hL:=line_any n false w (by omega) (by omega) (by simp);have HE:=hdd (show inRowR (n:Int)=lineR n false by unfold inRowR; rw[if_pos h]; simp);clear h;go_enter Tryz.func175,Tryz.ntmps175;go_wp2_with (first | (go_at_call 54; refine (in_any _ _ _ _).mono ?_; rintro e w' ⟨rfl,rfl⟩) | (go_at_call 206; refine hL.mono ?_; rintro e w2 ⟨ua,uc,rfl,hu,hb⟩; have HU:=hdd hu; have HB:=hdd hb; clear hu hb));go_ret;exact ⟨ua,uc,by rw[HE.out,lineR_length]; rfl,by rw[HE.out]; exact HU.out,HB.out⟩
 ·have hI:inB boxes 1 6=false:=by simp[inB]; omega
  have HE:=hdd (show inRowR boxes=[] by unfold inRowR; rw[if_neg h]);clear h;go_enter Tryz.func175,Tryz.ntmps175;go_wp2_with (first | (go_at_call 54; refine (in_any _ _ _ _).mono ?_; rintro e w' ⟨rfl,rfl⟩));go_ret;exact ⟨none,0,by rw[HE.out]; rfl,by rw[HE.out]; exact OwnII.empty _ _,Below.refl _ _⟩
def rowS (n k:Nat):List Int:=if k+1<n then (if 0<k then (List.replicate n 0).set (k-1) 1 else List.replicate n 0).set (k+1) 1 else (if 0<k then (List.replicate n 0).set (k-1) 1 else List.replicate n 0)
theorem rowS_eq {n k:Nat} (h:k<n):rowS n k=rowR n false k:=by
 apply List.ext_getElem
 ·unfold rowS; split <;> split <;> simp
 ·intro j h1 h2
  rw[rowR_get];unfold rowS adjI
  split <;> split <;> simp[List.getElem_set] <;> (try split) <;> (try split) <;> (try split) <;> (try omega) <;> simp_all <;> omega
theorem rows_snoc {n k:Nat} (h:k<n):(lineR n false).take k++[rowS n k]=(lineR n false).take (k+1):=by
 rw[List.take_succ_eq_append_getElem (by simpa using h),lineR_get,rowS_eq h]
set_option maxHeartbeats 1000000 in
theorem specInRow_any (boxes:Int) (w:World):Calls Tryz.prog 110 #[.int .i64 boxes] w (FreshII (inRowR boxes) w):=by
 by_cases h:1≤boxes∧boxes≤6
 ·obtain ⟨n,rfl⟩:=Int.eq_ofNat_of_zero_le (show 0≤boxes by omega)
  have hI:inB (n:Int) 1 6=true:=by simp[inB]; omega
  have HE:=hdd (show inRowR (n:Int)=lineR n false by unfold inRowR; rw[if_pos h]; simp);have h6:n≤6:=by omega
  have h1:1≤n:=by omega
  clear h;go_enter Tryz.func110,Tryz.ntmps110;go_wp2;go_loopw [3,4] (fun o c wr=>∃ (k:Nat) (a:Option Addr) (cap:Nat),k≤n∧c=.int .i64 k∧o=.slice a k cap∧OwnII w.heap.size wr (.slice a k cap) ((lineR n false).take k)∧Below w.heap.size w wr) (fun _ c _=>n-(intOf c).toNat)
  case atStart=>exact ⟨0,_,0,Nat.zero_le _,rfl,rfl,OwnII.lit w,(Below.refl _ _).alloc (Nat.le_refl _) _⟩
  case round=>
   obtain ⟨k,a,cap,hk,rfl,rfl,ho,hb⟩:=hrel
   by_cases hlt:k<n
   ·have hsz:=hb.size
    have hlk:((lineR n false).take k).length=k:=by simp; omega
    have HO:=hdd ho;have HB:=hdd hb;have HL:=hdd hlk;have HS:=hdd (rows_snoc hlt);clear ho hb hlk
    by_cases hp:0<k <;> by_cases hn:k+1<n
    ·go_wp2_with (first
      | (go_at_call 88; refine (l1In_any _ _ _ _).mono ?_; rintro e w' ⟨rfl,rfl⟩)
      | (at_make; refine wpList_make_ints _ rfl _ _ rfl _ _ n rfl rfl rfl rfl (by omega) ?_; intro w2 hr2 hb2 hs2; obtain ⟨⟨u1,hc1⟩,hf1⟩:=hr2.at (k-1) (by simp; omega); obtain ⟨⟨u2,hc2⟩,hf2⟩:=hr2.at (k+1) (by simp; omega); have HR:=hdd hr2; have HB2:=hdd hb2; clear hr2 hb2)
      | (at_builtin; refine wpList_push_new wr _ rfl (.tmp 32) (.tmp 34) rfl w.heap.size (.slice a k cap) ((lineR n false).take k) rfl HO.out ((HB2.out.setCell (p:=⟨wr.heap.size,k-1,none⟩) (Nat.le_refl _) (.int .i64 1)).setCell (p:=⟨wr.heap.size,k+1,none⟩) (Nat.le_refl _) (.int .i64 1)) w2.heap.size (by simp) (.slice (some ⟨wr.heap.size,0,none⟩) n n) _ rfl (show OwnI wr.heap.size _ _ (rowS n k) by unfold rowS; rw[if_pos hn,if_pos hp]; exact ((HR.out.set (k-1) 1).set (k+1) 1)) (by have:=HL.out; omega) hsz ?_; intro a' cap' w4 ho4 hb4; rw[HL.out] at ho4 ⊢; have HO4:=hdd ho4; have HB4:=hdd hb4; clear ho4 hb4))
     go_roundw
     case rel=>exact ⟨k+1,_,_,by omega,by go_num,rfl,by rw[←HS.out]; exact HO4.out,HB.out.trans HB4.out⟩
     case measure=>simp[intOf]; omega
    ·go_wp2_with (first
      | (go_at_call 88; refine (l1In_any _ _ _ _).mono ?_; rintro e w' ⟨rfl,rfl⟩)
      | (at_make; refine wpList_make_ints _ rfl _ _ rfl _ _ n rfl rfl rfl rfl (by omega) ?_; intro w2 hr2 hb2 hs2; obtain ⟨⟨u1,hc1⟩,hf1⟩:=hr2.at (k-1) (by simp; omega); have HR:=hdd hr2; have HB2:=hdd hb2; clear hr2 hb2)
      | (at_builtin; refine wpList_push_new wr _ rfl (.tmp 32) (.tmp 34) rfl w.heap.size (.slice a k cap) ((lineR n false).take k) rfl HO.out (HB2.out.setCell (p:=⟨wr.heap.size,k-1,none⟩) (Nat.le_refl _) (.int .i64 1)) w2.heap.size (by simp) (.slice (some ⟨wr.heap.size,0,none⟩) n n) _ rfl (show OwnI wr.heap.size _ _ (rowS n k) by unfold rowS; rw[if_neg hn,if_pos hp]; exact (HR.out.set (k-1) 1)) (by have:=HL.out; omega) hsz ?_; intro a' cap' w4 ho4 hb4; rw[HL.out] at ho4 ⊢; have HO4:=hdd ho4; have HB4:=hdd hb4; clear ho4 hb4))
     go_roundw
     case rel=>exact ⟨k+1,_,_,by omega,by go_num,rfl,by rw[←HS.out]; exact HO4.out,HB.out.trans HB4.out⟩
     case measure=>simp[intOf]; omega
    ·go_wp2_with (first
      | (go_at_call 88; refine (l1In_any _ _ _ _).mono ?_; rintro e w' ⟨rfl,rfl⟩)
      | (at_make; refine wpList_make_ints _ rfl _ _ rfl _ _ n rfl rfl rfl rfl (by omega) ?_; intro w2 hr2 hb2 hs2; obtain ⟨⟨u2,hc2⟩,hf2⟩:=hr2.at (k+1) (by simp; omega); have HR:=hdd hr2; have HB2:=hdd hb2; clear hr2 hb2)
      | (at_builtin; refine wpList_push_new wr _ rfl (.tmp 32) (.tmp 34) rfl w.heap.size (.slice a k cap) ((lineR n false).take k) rfl HO.out (HB2.out.setCell (p:=⟨wr.heap.size,k+1,none⟩) (Nat.le_refl _) (.int .i64 1)) w2.heap.size (by simp) (.slice (some ⟨wr.heap.size,0,none⟩) n n) _ rfl (show OwnI wr.heap.size _ _ (rowS n k) by unfold rowS; rw[if_pos hn,if_neg hp]; exact (HR.out.set (k+1) 1)) (by have:=HL.out; omega) hsz ?_; intro a' cap' w4 ho4 hb4; rw[HL.out] at ho4 ⊢; have HO4:=hdd ho4; have HB4:=hdd hb4; clear ho4 hb4))
     go_roundw
     case rel=>exact ⟨k+1,_,_,by omega,by go_num,rfl,by rw[←HS.out]; exact HO4.out,HB.out.trans HB4.out⟩
     case measure=>simp[intOf]; omega
    ·go_wp2_with (first
      | (go_at_call 88; refine (l1In_any _ _ _ _).mono ?_; rintro e w' ⟨rfl,rfl⟩)
      | (at_make; refine wpList_make_ints _ rfl _ _ rfl _ _ n rfl rfl rfl rfl (by omega) ?_; intro w2 hr2 hb2 hs2; have HR:=hdd hr2; have HB2:=hdd hb2; clear hr2 hb2)
      | (at_builtin; refine wpList_push_new wr _ rfl (.tmp 32) (.tmp 34) rfl w.heap.size (.slice a k cap) ((lineR n false).take k) rfl HO.out HB2.out w2.heap.size (by simp) (.slice (some ⟨wr.heap.size,0,none⟩) n n) _ rfl (show OwnI wr.heap.size _ _ (rowS n k) by unfold rowS; rw[if_neg hn,if_neg hp]; exact HR.out) (by have:=HL.out; omega) hsz ?_; intro a' cap' w4 ho4 hb4; rw[HL.out] at ho4 ⊢; have HO4:=hdd ho4; have HB4:=hdd hb4; clear ho4 hb4))
     go_roundw
     case rel=>exact ⟨k+1,_,_,by omega,by go_num,rfl,by rw[←HS.out]; exact HO4.out,HB.out.trans HB4.out⟩
     case measure=>simp[intOf]; omega
   ·have e:k=n:=by omega
    subst e;have HO:=hdd (show OwnII w.heap.size wr (.slice a k cap) (lineR k false) by rwa [List.take_of_length_le (by simp)] at ho);have HB:=hdd hb;clear ho hb;go_wp2_with (first | (go_at_call 88; refine (l1In_any _ _ _ _).mono ?_; rintro e w' ⟨rfl,rfl⟩));go_ret;exact ⟨a,cap,by rw[HE.out,lineR_length]; rfl,by rw[HE.out,lineR_length]; exact HO.out,HB.out⟩
 ·have hI:inB boxes 1 6=false:=by simp[inB]; omega
  have HE:=hdd (show inRowR boxes=[] by unfold inRowR; rw[if_neg h]);have HO:=hdd (OwnII.lit w);clear h
  by_cases hp:(0:Int)<boxes
  all_goals
   go_enter Tryz.func110,Tryz.ntmps110;go_wp2;refine wp_loop_rounds 1 ?_; rw[rounds_succ];go_wp2_with (first | (go_at_call 88; refine (l1In_any _ _ _ _).mono ?_; rintro e w' ⟨rfl,rfl⟩));go_ret;exact ⟨_,0,by rw[HE.out]; rfl,by rw[HE.out]; exact HO.out,(Below.refl _ _).alloc (Nat.le_refl _) _⟩
theorem least_any (t r:Int) (w:World) (h:(t=8∧r=3)∨(t=9∧r=4)):
  Calls Tryz.prog 63 #[.int .i64 t] w fun e w'=>e=.returned (.int .i64 r)∧w=w':=by
 have hin:inB t 1 1000000=true:=by rcases h with ⟨rfl,_⟩ | ⟨rfl,_⟩ <;> rfl
 go_enter Tryz.func63,Tryz.ntmps63;go_wp2_with fail;refine (in_any _ _ _ _).mono ?_;rintro e w1 ⟨rfl,rfl⟩;rw[hin];go_wp2;go_loop [3] (fun n=>∃ k:Int,0≤k∧k≤r∧n=.int .i64 k) (fun n=>5-(intOf n).toNat)
 case atStart=>exact ⟨0,by omega,by omega,rfl⟩
 case round=>
  obtain ⟨k,h0,hk,rfl⟩:=hrel
  rcases h with ⟨rfl,rfl⟩ | ⟨rfl,rfl⟩
  ·have hc:k=0∨k=1∨k=2∨k=3:=by omega
   rcases hc with rfl | rfl | rfl | rfl
   ·go_wp2
    go_round
    case rel=>exact ⟨1,by omega,by omega,rfl⟩
    case measure=>decide
   ·go_wp2
    go_round
    case rel=>exact ⟨2,by omega,by omega,rfl⟩
    case measure=>decide
   ·go_wp2
    go_round
    case rel=>exact ⟨3,by omega,by omega,rfl⟩
    case measure=>decide
   ·go_wp2
    go_ret;exact ⟨rfl,rfl⟩
  ·have hc:k=0∨k=1∨k=2∨k=3∨k=4:=by omega
   rcases hc with rfl | rfl | rfl | rfl | rfl
   ·go_wp2
    go_round
    case rel=>exact ⟨1,by omega,by omega,rfl⟩
    case measure=>decide
   ·go_wp2
    go_round
    case rel=>exact ⟨2,by omega,by omega,rfl⟩
    case measure=>decide
   ·go_wp2
    go_round
    case rel=>exact ⟨3,by omega,by omega,rfl⟩
    case measure=>decide
   ·go_wp2
    go_round
    case rel=>exact ⟨4,by omega,by omega,rfl⟩
    case measure=>decide
   ·go_wp2
    go_ret;exact ⟨rfl,rfl⟩
theorem alive_any (w:World):Calls Tryz.prog 19 #[] w fun e w'=>e=.returned (.bool true)∧w=w':=by
 go_enter Tryz.func19,Tryz.ntmps19;go_wp2_with fail;refine (least_any 8 3 _ (.inl ⟨rfl,rfl⟩)).mono ?_;rintro e w1 ⟨rfl,rfl⟩;go_wp2_with fail;refine (least_any 9 4 _ (.inr ⟨rfl,rfl⟩)).mono ?_;rintro e w1 ⟨rfl,rfl⟩;go_wp2;go_ret;exact ⟨rfl,rfl⟩
theorem leastI_any (t:Int) (w:World):
  Calls Tryz.prog 63 #[.int .i64 t] w fun e w'=>e=.returned (.int .i64 (leastQ t))∧w=w':=by
 have HQ:=hdd (show leastQ t=if 1≤t∧t≤1000000 then leastA t 20 0 else -1 from rfl);obtain ⟨r,hr⟩:∃ r,r=leastQ t:=⟨_,rfl⟩
 rw[←hr] at HQ ⊢;clear hr;have hI:=in_any t 1 1000000 w
 by_cases hin:1≤t∧t≤1000000
 ·have HR:=hdd (show r=leastA t 20 0 by rw[HQ.out,if_pos hin])
  rw[show inB t 1 1000000=true from by simp[inB,hin]] at hI;have h6:=hin.2;clear hin HQ;go_enter Tryz.func63,Tryz.ntmps63;go_wp2_with fail;refine hI.mono ?_;rintro e w1 ⟨rfl,rfl⟩;clear hI;go_wp2;go_loop [3] (fun n=>∃ k:Nat,k≤20∧n=.int .i64 k∧r=leastA t (20-k) k) (fun n=>21-(intOf n).toNat)
  case atStart=>exact ⟨0,by omega,rfl,HR.out⟩
  case round=>
   obtain ⟨k,hk,rfl,he⟩:=hrel;have HE:=hdd he;clear he HR;obtain ⟨p1,p2⟩:=pow_lt k hk;have hk0:(0:Int)≤(k:Int):=by omega
   have hk64:(k:Int)<64:=by omega
   have hwr:wrap64 (2^k)=2^k:=by unfold wrap64; omega
   by_cases hlt:(2:Int)^k<t
   ·have hk20:k<20:=by
     rcases Nat.lt_or_ge k 20 with q | q
     ·exact q
     ·have:k=20:=by omega
      subst this;have:(2:Int)^20=1048576:=by decide
      omega
    have HN:=hdd (show r=leastA t (20-(k+1)) (k+1) by
     rw[HE.out,show 20-k=(20-(k+1))+1 by omega,leastA_more hlt])
    clear HE;go_wp2;go_round
    case rel=>exact ⟨k+1,by omega,by go_num,HN.out⟩
    case measure=>simp[intOf]; omega
   ·have HN:=hdd (show r=(k:Int) by rw[HE.out,leastA_stop hlt])
    clear HE;go_wp2;go_ret;exact ⟨by rw[HN.out]; rfl,rfl⟩
 ·have HR:=hdd (show r=-1 by rw[HQ.out,if_neg hin])
  rw[show inB t 1 1000000=false from by simp only[inB,decide_eq_false_iff_not]; exact hin] at hI;clear hin HQ;go_enter Tryz.func63,Tryz.ntmps63;go_wp2_with fail;refine hI.mono ?_;rintro e w1 ⟨rfl,rfl⟩;clear hI;go_wp2;go_ret;exact ⟨by rw[HR.out]; rfl,rfl⟩
theorem leastS_any (t:Int) (w:World):
  Calls Tryz.prog 104 #[.int .i64 t] w fun e w'=>e=.returned (.int .i64 (leastQ t))∧w=w':=by
 have HQ:=hdd (show leastQ t=if 1≤t∧t≤1000000 then leastA t 20 0 else -1 from rfl);obtain ⟨r,hr⟩:∃ r,r=leastQ t:=⟨_,rfl⟩
 rw[←hr] at HQ ⊢;clear hr;have hI:=l1In_any t 1 1000000 w
 by_cases hin:1≤t∧t≤1000000
 ·have HR:=hdd (show r=leastA t 20 0 by rw[HQ.out,if_pos hin])
  rw[show inB t 1 1000000=true from by simp[inB,hin]] at hI;have h6:=hin.2;clear hin HQ;go_enter Tryz.func104,Tryz.ntmps104;go_wp2_with fail;refine hI.mono ?_;rintro e w1 ⟨rfl,rfl⟩;clear hI;go_wp2;go_loop [3,4] (fun n v=>∃ (k:Nat) (x:Int),k≤20∧n=.int .i64 k∧v=.int .i64 x∧Hid (x=2^k)∧r=leastA t (20-k) k) (fun n _=>21-(intOf n).toNat)
  case atStart=>exact ⟨0,1,by omega,rfl,rfl,hdd rfl,HR.out⟩
  case round=>
   obtain ⟨k,x,hk,rfl,rfl,hx,he⟩:=hrel;have HE:=hdd he;clear he HR;have hxp:1≤x∧x≤1048576:=by rw[hx.out]; exact pow_lt k hk
   obtain ⟨p1,p2⟩:=hxp
   by_cases hlt:x<t
   ·have hk20:k<20:=by
     rcases Nat.lt_or_ge k 20 with q | q
     ·exact q
     ·have:k=20:=by omega
      subst this;have h1:=hx.out;have:(2:Int)^20=1048576:=by decide
      omega
    have HN:=hdd (show r=leastA t (20-(k+1)) (k+1) by
     rw[HE.out,show 20-k=(20-(k+1))+1 by omega,leastA_more (by rw[←hx.out]; exact hlt)])
    have HX:=hdd (show 2*x=2^(k+1) by rw[hx.out,Int.pow_succ]; omega);clear HE hx;go_wp2;go_round
    case rel=>exact ⟨k+1,2*x,by omega,by go_num,by go_num,HX,HN.out⟩
    case measure=>simp[intOf]; omega
   ·have HN:=hdd (show r=(k:Int) by rw[HE.out,leastA_stop (by rw[←hx.out]; exact hlt)])
    clear HE hx;go_wp2;go_ret;exact ⟨by rw[HN.out]; rfl,rfl⟩
 ·have HR:=hdd (show r=-1 by rw[HQ.out,if_neg hin])
  rw[show inB t 1 1000000=false from by simp only[inB,decide_eq_false_iff_not]; exact hin] at hI;clear hin HQ;go_enter Tryz.func104,Tryz.ntmps104;go_wp2_with fail;refine hI.mono ?_;rintro e w1 ⟨rfl,rfl⟩;clear hI;go_wp2;go_ret;exact ⟨by rw[HR.out]; rfl,rfl⟩
end
end Go.Proofs.YtenlngclocfnlaaGreatDoor
