/- Texts of this claim, put together: BunG, BunH, DrawDesk, LieS5, LieS6, LieS7, LieWin, BunI. -/
import Derived.Test.YtenlngclocfnlaaGreatDoorPbA
import Derived.WideKeyEntry
import Derived.Test.YtenlngclocfnlaaGreatDoorPbB
import Derived.Test.YtenlngclocfnlaaGreatDoorPbG
import Derived.Deep.AppendLies
import Derived.Deep.RegionLaw
import Derived.Test.YtenlngclocfnlaaGreatDoorPbF
import Derived.Test.YtenlngclocfnlaaGreatDoorPbE
import Derived.Test.YtenlngclocfnlaaGreatDoorPbW
import Derived.Test.YtenlngclocfnlaaGreatDoorPbO
import Derived.Deep.RegionWith
import Derived.Test.YtenlngclocfnlaaGreatDoorPbGD
namespace Go.Proofs.YtenlngclocfnlaaGreatDoor
open Go.RowKit
set_option linter.unusedVariables false
end Go.Proofs.YtenlngclocfnlaaGreatDoor
namespace Go.Proofs.YtenlngclocfnlaaGreatDoor
open Go.RowKit
set_option linter.unusedVariables false
set_option maxRecDepth 100000
end Go.Proofs.YtenlngclocfnlaaGreatDoor
namespace Go.Proofs.YtenlngclocfnlaaGreatDoor
open Go.RowKit
set_option linter.unusedVariables false
set_option maxRecDepth 100000
end Go.Proofs.YtenlngclocfnlaaGreatDoor
namespace Go.Proofs.YtenlngclocfnlaaGreatDoor
open Go.RowKit
set_option linter.unusedVariables false
set_option maxRecDepth 100000
def tC (t:Value×Int×Int):List Value:=[t.1,.int .i64 t.2.1,.int .i64 t.2.2]
def cellsT (ts:List (Value×Int×Int)):List Value:=ts.flatMap tC
theorem cellsT_cons (t:Value×Int×Int) (ts:List (Value×Int×Int)):cellsT (t::ts)=tC t++cellsT ts:=rfl
theorem cellsT_append (ts us:List (Value×Int×Int)):cellsT (ts++us)=cellsT ts++cellsT us:=by simp[cellsT]
theorem cellsT_length:∀ ts:List (Value×Int×Int),(cellsT ts).length=ts.length*3
 | []=>rfl
 | t::ts=>by rw[cellsT_cons,List.length_append,cellsT_length ts]; simp[tC]; omega
theorem cellsT_get:∀ (ts:List (Value×Int×Int)) (k:Nat) (hk:k<ts.length),(cellsT ts)[k*3]?=some ts[k].1∧(cellsT ts)[k*3+1]?=some (.int .i64 ts[k].2.1)∧(cellsT ts)[k*3+2]?=some (.int .i64 ts[k].2.2)
 | [],k,hk=>by simp at hk
 | t::ts,0,_=>by simp[cellsT_cons,tC]
 | t::ts,k+1,hk=>by
  have h:=cellsT_get ts k (by simpa using hk)
  rw[cellsT_cons]
  have e:(tC t).length=3:=rfl
  rw[List.getElem?_append_right (by rw[e]; omega),List.getElem?_append_right (by rw[e]; omega),List.getElem?_append_right (by rw[e]; omega),e,
   show (k+1)*3-3=k*3 by omega,show (k+1)*3+1-3=k*3+1 by omega,show (k+1)*3+2-3=k*3+2 by omega]
  exact h
theorem setT:∀ (ts:List (Value×Int×Int)) (k:Nat) (hk:k<ts.length) (t:Value×Int×Int),(((cellsT ts).set (k*3) t.1).set (k*3+1) (.int .i64 t.2.1)).set (k*3+2) (.int .i64 t.2.2)=cellsT (ts.set k t)
 | [],k,hk,_=>by simp at hk
 | a::ts,0,_,t=>by simp[cellsT_cons,tC]
 | a::ts,k+1,hk,t=>by
  have h:=setT ts k (by simpa using hk) t
  have e:(tC a).length=3:=rfl
  rw[List.set_cons_succ,cellsT_cons,cellsT_cons,←h]
  rw[List.set_append_right _ _ (by rw[e]; omega),List.set_append_right _ _ (by rw[e]; omega),List.set_append_right _ _ (by rw[e]; omega),e,
   show (k+1)*3-3=k*3 by omega,show (k+1)*3+1-3=k*3+1 by omega,show (k+1)*3+2-3=k*3+2 by omega]
def OwnT (B:Nat) (w:World) (v:Value) (ts:List (Value×Int×Int)):Prop:=w.ownsRow B 39 3 v ts.length (cellsT ts)
theorem OwnT.opened {B:Nat} {w:World} {v:Value} {ts:List (Value×Int×Int)} (h:OwnT B w v ts):
  ∃ a cap,v=.slice a ts.length cap∧ts.length≤cap∧cap≤9223372036854775807 ∧
   (0<ts.length→∃ g,a=some ⟨g,0,none⟩∧B≤g∧g<w.heap.size∧(∀ k (h:k<ts.length),w.cell? ⟨g,k*3,none⟩=some ts[k].1∧w.cell? ⟨g,k*3+1,none⟩=some (.int .i64 ts[k].2.1)∧w.cell? ⟨g,k*3+2,none⟩=some (.int .i64 ts[k].2.2))∧∀ j,w.frozen? ⟨g,j,none⟩=false):=by
 have hfull:=h
 obtain ⟨h0,h⟩:=h
 rcases h with ⟨rfl,h1⟩ | ⟨g,cap,cur,rfl,hb,hg,h1,h2,h3,h4⟩
 ·exact ⟨none,0,by rw[h1],by omega,by omega,by omega⟩
 ·refine ⟨_,cap,rfl,h1,h2,fun _=>⟨g,rfl,hb,(Array.getElem?_eq_some_iff.1 hg).1,fun k hk=>?_,fun j=>World.ownsRow.frozenAt hfull j⟩⟩
  have hc:∀ j,j<ts.length*3→cur[j]?=(cellsT ts)[j]?:=fun j hj=>by
   rw[←h4,List.getElem?_take,if_pos hj,Array.getElem?_toList]
  obtain ⟨q1,q2,q3⟩:=cellsT_get ts k hk
  rw[cell_of_row _ _ _ _ _ _ hg,cell_of_row _ _ _ _ _ _ hg,cell_of_row _ _ _ _ _ _ hg,hc _ (by omega),hc _ (by omega),hc _ (by omega)]
  exact ⟨q1,q2,q3⟩
theorem OwnT.put {B:Nat} {w:World} {g n cap:Nat} {ts:List (Value×Int×Int)} (h:OwnT B w (.slice (some ⟨g,0,none⟩) n cap) ts) (k:Nat) (hk:k<ts.length) (t:Value×Int×Int):
  OwnT B (((w.setCell ⟨g,k*3,none⟩ t.1).setCell ⟨g,k*3+1,none⟩ (.int .i64 t.2.1)).setCell ⟨g,k*3+2,none⟩ (.int .i64 t.2.2)) (.slice (some ⟨g,0,none⟩) n cap) (ts.set k t) ∧
  w.grownBy (((w.setCell ⟨g,k*3,none⟩ t.1).setCell ⟨g,k*3+1,none⟩ (.int .i64 t.2.1)).setCell ⟨g,k*3+2,none⟩ (.int .i64 t.2.2)) (some g):=by
 obtain ⟨_,_,he,_⟩:=h.opened
 injection he with _ e2 _
 unfold OwnT at h ⊢
 rw[←e2] at h
 have h1:=World.ownsRow.stored h (k*3) t.1
 have h2:=World.ownsRow.stored h1.1 (k*3+1) (.int .i64 t.2.1)
 have h3:=World.ownsRow.stored h2.1 (k*3+2) (.int .i64 t.2.2)
 rw[setT ts k hk t] at h3
 refine ⟨?_,(h1.2.andThen h2.2 (fun _ e=>by cases e; exact .inr rfl)).andThen h3.2 (fun _ e=>by cases e; exact .inr rfl)⟩
 rw[List.length_set,←e2]
 exact h3.1
def OwnG (B:Nat) (w:World) (v:Value) (gs:List Gs):Prop:=
 ∃ ts,OwnT B w v ts∧ts.length=gs.length∧(∀ i (h:i<ts.length) (h':i<gs.length),OwnI B w ts[i].1 gs[i].code∧ts[i].2.1=gs[i].right∧ts[i].2.2=gs[i].near) ∧
  ∀ i j (hi:i<ts.length) (hj:j<ts.length),i≠j→ts[i].1.ownBlock=none∨ts[i].1.ownBlock≠ts[j].1.ownBlock
theorem OwnG.empty (B:Nat) (w:World):OwnG B w (.slice none 0 0) []:=⟨[],World.ownsRow_nil w B _ 3,rfl,by simp,by simp⟩
theorem OwnG.keep {B:Nat} {w w':World} {v:Value} {gs:List Gs} (h:OwnG B w v gs) (hs:Above B w w'):OwnG B w' v gs:=by
 obtain ⟨ts,h1,h2,h3,h4⟩:=h
 exact ⟨ts,owns_keep h1 hs,h2,fun i hi hi'=>⟨owns_keep (h3 i hi hi').1 hs,(h3 i hi hi').2⟩,h4⟩
theorem OwnG.below {B:Nat} {w w':World} {v:Value} {gs:List Gs} (h:OwnG B w v gs) (hb:Below w.heap.size w w'):OwnG B w' v gs:=h.keep (.of_below hb)
theorem OwnG.mono {B B':Nat} {w:World} {v:Value} {gs:List Gs} (h:OwnG B w v gs) (hB:B'≤B):OwnG B' w v gs:=by
 obtain ⟨ts,h1,h2,h3,h4⟩:=h
 exact ⟨ts,owns_mono h1 hB,h2,fun i hi hi'=>⟨owns_mono (h3 i hi hi').1 hB,(h3 i hi hi').2⟩,h4⟩
theorem OwnG.alloc {B:Nat} {w:World} {v:Value} {gs:List Gs} (h:OwnG B w v gs) (o:Obj):OwnG B (w.alloc o) v gs:=h.below ((Below.refl _ _).alloc (Nat.le_refl _) _)
theorem OwnG.shape {B:Nat} {w:World} {v:Value} {gs:List Gs} (h:OwnG B w v gs):∃ a cap,v=.slice a gs.length cap∧gs.length≤cap∧cap≤9223372036854775807:=by
 obtain ⟨ts,h1,h2,_⟩:=h
 obtain ⟨a,cap,e,h3,h4,_⟩:=h1.opened
 exact ⟨a,cap,by rw[e,h2],by omega,h4⟩
theorem OwnG.lt {B:Nat} {w:World} {v:Value} {gs:List Gs} (h:OwnG B w v gs) (k:Nat) (hk:v.ownBlock=some k):B≤k∧k<w.heap.size:=by
 obtain ⟨ts,h1,_⟩:=h
 exact World.ownsRow.lt h1 k hk
def In64G (gs:List Gs):Prop:=∀ g∈gs,∀ y∈g.code,In64 y
theorem OwnG.toGL {B:Nat} {w:World} {v:Value} {gs:List Gs} (h:OwnG B w v gs) (hr:In64G gs):GL B w v gs:=by
 obtain ⟨ts,h1,h2,h3,_⟩:=h
 obtain ⟨a,cap,e,h4,h5,h6⟩:=h1.opened
 refine ⟨a,cap,fun i=>(ts.getD i (undef,0,0)).1,by rw[e,h2],by omega,h5,fun hp=>?_,fun i hi=>?_⟩
 ·obtain ⟨g,rfl,hB,_,hc,_⟩:=h6 (by omega)
  refine ⟨g,0,rfl,hB,fun i hi=>?_⟩
  obtain ⟨c1,c2,c3⟩:=hc i (by omega)
  obtain ⟨_,e1,e2⟩:=h3 i (by omega) hi
  rw[Nat.zero_add,c1,c2,c3,e1,e2]
  simp[List.getD,List.getElem?_eq_getElem (show i<ts.length by omega)]
 ·have:=(h3 i (by omega) hi).1
  simp only[List.getD,List.getElem?_eq_getElem (show i<ts.length by omega),Option.getD_some]
  exact this.toInts (hr _ (List.getElem_mem hi))
theorem OwnG.opened {B:Nat} {w:World} {v:Value} {gs:List Gs} (h:OwnG B w v gs) (hp:0<gs.length):
  ∃ g cap,v=.slice (some ⟨g,0,none⟩) gs.length cap∧B≤g∧g<w.heap.size∧gs.length≤cap∧cap≤9223372036854775807∧(∀ j,w.frozen? ⟨g,j,none⟩=false) ∧
   ∀ k (h:k<gs.length),∃ u,w.cell? ⟨g,k*3,none⟩=some u∧OwnI B w u gs[k].code∧w.cell? ⟨g,k*3+1,none⟩=some (.int .i64 gs[k].right)∧w.cell? ⟨g,k*3+2,none⟩=some (.int .i64 gs[k].near):=by
 obtain ⟨ts,h1,h2,h3,_⟩:=h
 obtain ⟨a,cap,e,h4,h5,h6⟩:=h1.opened
 obtain ⟨g,rfl,hB,hlt,hc,hf⟩:=h6 (by omega)
 refine ⟨g,cap,by rw[e,h2],hB,hlt,by omega,h5,hf,fun k hk=>?_⟩
 obtain ⟨c1,c2,c3⟩:=hc k (by omega)
 obtain ⟨q,e1,e2⟩:=h3 k (by omega) hk
 exact ⟨ts[k].1,c1,q,by rw[c2,e1],by rw[c3,e2]⟩
theorem OwnG.put {B:Nat} {w:World} {g n cap:Nat} {gs:List Gs} (h:OwnG B w (.slice (some ⟨g,0,none⟩) n cap) gs) (k:Nat) (hk:k<gs.length) {u:Value} {x:Gs} (hu:OwnI B w u x.code)
  (hd:∀ i z,i<gs.length→i≠k→w.cell? ⟨g,i*3,none⟩=some z→z.ownBlock=none∨u.ownBlock=none∨z.ownBlock≠u.ownBlock):
  OwnG B (((w.setCell ⟨g,k*3,none⟩ u).setCell ⟨g,k*3+1,none⟩ (.int .i64 x.right)).setCell ⟨g,k*3+2,none⟩ (.int .i64 x.near)) (.slice (some ⟨g,0,none⟩) n cap) (gs.set k x) ∧
  w.grownBy (((w.setCell ⟨g,k*3,none⟩ u).setCell ⟨g,k*3+1,none⟩ (.int .i64 x.right)).setCell ⟨g,k*3+2,none⟩ (.int .i64 x.near)) (some g):=by
 obtain ⟨ts,h1,h2,h3,h4⟩:=h
 have hput:=h1.put k (by omega) (u,x.right,x.near)
 obtain ⟨a,cap',e,_,_,h6⟩:=h1.opened
 obtain ⟨g',e',_,_,hc,_⟩:=h6 (by omega)
 injection e with e1 _ _
 rw[e'] at e1
 injection e1 with e1
 injection e1 with e1 _
 subst e1
 have hkeep:∀ z ys,OwnI B w z ys→OwnI B (((w.setCell ⟨g,k*3,none⟩ u).setCell ⟨g,k*3+1,none⟩ (.int .i64 x.right)).setCell ⟨g,k*3+2,none⟩ (.int .i64 x.near)) z ys:=fun z ys hz=>by
  refine World.ownsRow.kept hz hput.2 ?_
  have:=own_apart hz h1 (by decide)
  simpa [Value.ownBlock] using this
 refine ⟨⟨ts.set k (u,x.right,x.near),hput.1,by simpa using h2,fun i hi hi'=>?_,fun i j hi hj hij=>?_⟩,hput.2⟩
 ·rw[List.getElem_set,List.getElem_set]
  split
  ·exact ⟨hkeep _ _ hu,rfl,rfl⟩
  ·have:=h3 i (by simpa using hi) (by simpa using hi')
   exact ⟨hkeep _ _ this.1,this.2⟩
 ·simp only[List.length_set] at hi hj
  rw[List.getElem_set,List.getElem_set]
  split
  ·split
   ·omega
   ·have:=hd j _ (by omega) (by omega) (hc j hj).1
    rcases this with h | h | h
    ·by_cases e:u.ownBlock=none
     ·exact .inl e
     ·right; simp only; rw[h]; exact e
    ·exact .inl h
    ·exact .inr (fun e=>h e.symm)
  ·split
   ·have:=hd i _ (by omega) (by omega) (hc i hi).1
    rcases this with h | h | h
    ·exact .inl h
    ·by_cases e:ts[i].1.ownBlock=none
     ·exact .inl e
     ·right; simp only; rw[h]; exact e
    ·exact .inr h
   ·exact h4 i j hi hj hij
theorem OwnG.turn {B:Nat} {w w':World} {g n cap:Nat} {gs:List Gs} (h:OwnG B w (.slice (some ⟨g,0,none⟩) n cap) gs) (k:Nat) (hk:k<gs.length) {u:Value} {ys:List Int} (hc:w.cell? ⟨g,k*3,none⟩=some u)
  (hg:w.grownBy w' u.ownBlock) (hu:OwnI B w' u ys):OwnG B w' (.slice (some ⟨g,0,none⟩) n cap) (gs.set k ⟨ys,gs[k].right,gs[k].near⟩):=by
 obtain ⟨ts,h1,h2,h3,h4⟩:=h
 obtain ⟨a,cap',e,_,_,h6⟩:=h1.opened
 obtain ⟨g',e',_,_,hcs,_⟩:=h6 (by omega)
 injection e with e1 _ _
 rw[e'] at e1
 injection e1 with e1
 injection e1 with e1 _
 subst e1
 have hkt:k<ts.length:=by omega
 have huk:u=ts[k].1:=by
  have:=(hcs k hkt).1
  rw[hc] at this
  exact Option.some.inj this
 subst huk
 refine ⟨ts,World.ownsRow.kept h1 hg (own_apart h1 (h3 k hkt hk).1 (by decide)),by simpa using h2,fun i hi hi'=>?_,h4⟩
 rw[List.getElem_set]
 split
 ·rename_i e; subst e
  exact ⟨hu,(h3 k hkt hk).2⟩
 ·rename_i e
  have:=h3 i hi (by simpa using hi')
  exact ⟨World.ownsRow.kept this.1 hg (h4 i k hi hkt (fun e'=>e e'.symm)),this.2⟩
theorem OwnG.tail {B:Nat} {w:World} {g n cap:Nat} {gs:List Gs} (h:OwnG B w (.slice (some ⟨g,0,none⟩) n cap) gs) (k:Nat) (hk:k<gs.length) (r m:Int):
  OwnG B ((w.setCell ⟨g,k*3+1,none⟩ (.int .i64 r)).setCell ⟨g,k*3+2,none⟩ (.int .i64 m)) (.slice (some ⟨g,0,none⟩) n cap) (gs.set k ⟨gs[k].code,r,m⟩) ∧
  w.grownBy ((w.setCell ⟨g,k*3+1,none⟩ (.int .i64 r)).setCell ⟨g,k*3+2,none⟩ (.int .i64 m)) (some g):=by
 obtain ⟨ts,h1,h2,h3,h4⟩:=h
 have hkt:k<ts.length:=by omega
 obtain ⟨a,cap',e,_⟩:=h1.opened
 injection e with _ e2 _
 unfold OwnT at h1
 rw[←e2] at h1
 have q1:=World.ownsRow.stored h1 (k*3+1) (.int .i64 r)
 have q2:=World.ownsRow.stored q1.1 (k*3+2) (.int .i64 m)
 have hs:((cellsT ts).set (k*3+1) (.int .i64 r)).set (k*3+2) (.int .i64 m)=cellsT (ts.set k (ts[k].1,r,m)):=by
  rw[←setT ts k hkt (ts[k].1,r,m)]
  congr 2
  have:=(cellsT_get ts k hkt).1
  exact (WideElems.set_self _ _ _ this).symm
 rw[hs] at q2
 have hg:=q1.2.andThen q2.2 (fun _ e=>by cases e; exact .inr rfl)
 have hkeep:∀ z ys,OwnI B w z ys→OwnI B ((w.setCell ⟨g,k*3+1,none⟩ (.int .i64 r)).setCell ⟨g,k*3+2,none⟩ (.int .i64 m)) z ys:=fun z ys hz=>by
  refine World.ownsRow.kept hz hg ?_
  have:=own_apart hz h1 (by decide)
  simpa [Value.ownBlock] using this
 refine ⟨⟨ts.set k (ts[k].1,r,m),?_,by simpa using h2,fun i hi hi'=>?_,fun i j hi hj hij=>?_⟩,hg⟩
 ·unfold OwnT
  rw[List.length_set,←e2]
  exact q2.1
 ·rw[List.getElem_set,List.getElem_set]
  split
  ·rename_i e; subst e
   exact ⟨hkeep _ _ (h3 k hkt hk).1,rfl,rfl⟩
  ·have:=h3 i (by simpa using hi) (by simpa using hi')
   exact ⟨hkeep _ _ this.1,this.2⟩
 ·simp only[List.length_set] at hi hj
  have e:∀ i (hi:i<ts.length),((ts.set k (ts[k].1,r,m))[i]'(by simpa using hi)).1=ts[i].1:=fun i hi=>by
   rw[List.getElem_set]
   split
   ·rename_i e; subst e; rfl
   ·rfl
  rw[e i hi,e j hj]
  exact h4 i j hi hj hij
theorem infoGuess:(Tryz.prog.info? 39).map (fun i=>(i.zero,i.size,i.bytes))=some (some (.agg #[.slice none 0 0,.int .i64 0,.int .i64 0]),3,40):=by kernel_rfl
theorem wpList_push_g (w:World) {ops:Array Oper} {rest:List Oper} {o:Oper} {a:Act} {Q:Exit→Act→World→Prop}
  (hg:o.guard=none) (s x:Operand) (hop:o.op=Op.call { callee:=Callee.builtin Builtin.append,args:=#[s,x],argTypes:=#[28,28] })
  (B:Nat) (v:Value) (gs:List Gs) (hs:a.eval s=v) (hown:OwnG B w v gs) (N:Nat) (c:Nat) (u:Value) (y:Gs) (hx:a.eval x=.slice (some ⟨N,0,none⟩) 1 c)
  (hc:w.cell? ⟨N,0,none⟩=some u∧w.cell? ⟨N,1,none⟩=some (.int .i64 y.right)∧w.cell? ⟨N,2,none⟩=some (.int .i64 y.near)) (hu:OwnI B w u y.code)
  (hd:∀ ts:List (Value×Int×Int),OwnT B w v ts→∀ i (h:i<ts.length),u.ownBlock=none∨ts[i].1.ownBlock=none∨ts[i].1.ownBlock≠u.ownBlock)
  (hlen:gs.length≤1000000) (hB:B≤w.heap.size)
  (hK:∀ a' cap' w',OwnG B w' (.slice a' (gs.length+1) cap') (gs++[y])→w.grownBy w' v.ownBlock→wpList Tryz.prog ops Q rest (a.put o.dst (.slice a' (gs.length+1) cap')) w'):
  wpList Tryz.prog ops Q (o::rest) a w:=by
 obtain ⟨i0,hi,hz0,hz1,hz2⟩:=info_parts infoGuess
 obtain ⟨ts,h1,h2,h3,h4⟩:=hown
 have hone:u.oneCell'=true:=by
  obtain ⟨_,_,rfl,_⟩:=own_shape hu
  rfl
 refine wpList_append_own w hg s x 28 hop B 39 i0 (.agg #[.slice none 0 0,.int .i64 0,.int .i64 0]) 3 40 Tryz.underlying28 hi hz0 hz1 hz2 rfl (by decide) v ts.length (cellsT ts) hs h1 ⟨N,0,none⟩ 1 c [u,.int .i64 y.right,.int .i64 y.near] hx rfl ?_ ?_ (by unfold maxLen; omega) (by omega) hB ?_
 ·intro j z hj
  match j,hj with
  | 0,hj=>simp at hj; subst hj; simpa [Addr.add] using hc.1
  | 1,hj=>simp at hj; subst hj; simpa [Addr.add] using hc.2.1
  | 2,hj=>simp at hj; subst hj; simpa [Addr.add] using hc.2.2
 ·intro z hz
  simp only[List.mem_cons,List.mem_nil_iff,or_false] at hz
  rcases hz with rfl | rfl | rfl
  ·exact hone
  ·rfl
  ·rfl
 ·intro v' w' h5 h6 _
  have hap:∀ z ys,OwnI B w z ys→OwnI B w' z ys:=fun z ys hz=>World.ownsRow.kept hz h6 (own_apart hz h1 (by decide))
  obtain ⟨a',cap',rfl,_⟩:=own_shape h5
  rw[h2] at h5 ⊢
  refine hK a' cap' w' ⟨ts++[(u,y.right,y.near)],?_,by simp[h2],fun i hi' hi''=>?_,fun i j hi' hj' hij=>?_⟩ h6
  ·unfold OwnT
   rw[cellsT_append]
   simpa [h2,cellsT,tC] using h5
  ·by_cases hlt:i<ts.length
   ·rw[List.getElem_append_left hlt,List.getElem_append_left (by omega)]
    have:=h3 i hlt (by omega)
    exact ⟨hap _ _ this.1,this.2⟩
   ·have e:i=ts.length:=by simp at hi'; omega
    subst e
    have:=hap _ _ hu
    simp only[List.getElem_append_right (Nat.le_refl _),Nat.sub_self,List.getElem_cons_zero]
    have e2:(gs++[y])[ts.length]'hi''=y:=by simp[h2]
    rw[e2]
    exact ⟨this,rfl,rfl⟩
  ·simp only[List.length_append,List.length_cons,List.length_nil] at hi' hj'
   by_cases h7:i<ts.length
   ·rw[List.getElem_append_left h7]
    by_cases h8:j<ts.length
    ·rw[List.getElem_append_left h8]; exact h4 i j h7 h8 hij
    ·have e:j=ts.length:=by omega
     subst e
     rw[List.getElem_append_right (Nat.le_refl _)]
     simp only[Nat.sub_self,List.getElem_cons_zero]
     rcases hd ts h1 i h7 with h | h | h
     ·rw[h]; by_cases e:ts[i].1.ownBlock=none
      ·exact .inl e
      ·exact .inr e
     ·exact .inl h
     ·exact .inr h
   ·have e:i=ts.length:=by omega
    subst e
    rw[List.getElem_append_right (Nat.le_refl _),List.getElem_append_left (show j<ts.length by omega)]
    simp only[Nat.sub_self,List.getElem_cons_zero]
    rcases hd ts h1 j (by omega) with h | h | h
    ·exact .inl h
    ·rw[h]; by_cases e:u.ownBlock=none
     ·exact .inl e
     ·exact .inr e
    ·exact .inr (fun e=>h e.symm)
theorem guess_old {B:Nat} {w w2:World} {v:Value} {gs:List Gs} (h:OwnG B w v gs) (hb:Below w.heap.size w w2) {u:Value} {x:List Int} (hu:OwnI w.heap.size w2 u x):
  ∀ ts:List (Value×Int×Int),OwnT B w2 v ts→∀ i (h:i<ts.length),u.ownBlock=none∨ts[i].1.ownBlock=none∨ts[i].1.ownBlock≠u.ownBlock:=by
 intro ts hts i hi
 obtain ⟨ts',h1,h2,h3,_⟩:=h
 have e:ts[i].1=(ts'.getD i (undef,0,0)).1∧i<ts'.length:=by
  have h1':OwnT B w2 v ts':=owns_below h1 hb
  obtain ⟨a,cap,e1,_,_,q1⟩:=hts.opened
  obtain ⟨a',cap',e1',_,_,q2⟩:=h1'.opened
  rw[e1] at e1'
  injection e1' with f1 f2 f3
  have hi':i<ts'.length:=by omega
  obtain ⟨g,rfl,_,_,c1,_⟩:=q1 (by omega)
  obtain ⟨g',f4,_,_,c2,_⟩:=q2 (by omega)
  rw[f4] at f1
  injection f1 with f1
  injection f1 with f1 _
  subst f1
  have a1:=(c1 i hi).1
  have a2:=(c2 i hi').1
  rw[a1] at a2
  exact ⟨by rw[Option.some.inj a2]; simp[List.getD,List.getElem?_eq_getElem hi'],hi'⟩
 obtain ⟨e,hi'⟩:=e
 have e':(ts'.getD i (undef,0,0)).1=ts'[i].1:=by simp[List.getD,List.getElem?_eq_getElem hi']
 rw[e,e']
 by_cases hn:u.ownBlock=none
 ·exact .inl hn
 obtain ⟨m,hm⟩:=Option.ne_none_iff_exists'.1 hn
 by_cases hn':ts'[i].1.ownBlock=none
 ·exact .inr (.inl hn')
 obtain ⟨m',hm'⟩:=Option.ne_none_iff_exists'.1 hn'
 have h4:=(World.ownsRow.lt hu m hm).1
 have h5:=(World.ownsRow.lt (h3 i hi' (by omega)).1 m' hm').2
 exact .inr (.inr (by rw[hm,hm']; simp; omega))
end Go.Proofs.YtenlngclocfnlaaGreatDoor
namespace Go.Proofs.YtenlngclocfnlaaGreatDoor
open Go.RowKit
set_option linter.unusedVariables false
set_option maxRecDepth 100000
end Go.Proofs.YtenlngclocfnlaaGreatDoor
namespace Go.Proofs.YtenlngclocfnlaaGreatDoor
open Go.RowKit
set_option linter.unusedVariables false
set_option maxRecDepth 100000
end Go.Proofs.YtenlngclocfnlaaGreatDoor
namespace Go.Proofs.YtenlngclocfnlaaGreatDoor
open Go.RowKit
set_option linter.unusedVariables false
set_option maxRecDepth 100000
end Go.Proofs.YtenlngclocfnlaaGreatDoor
namespace Go.Proofs.YtenlngclocfnlaaGreatDoor
open Go.RowKit
set_option linter.unusedVariables false
set_option maxRecDepth 100000
theorem OwnG.pushed {B:Nat} {w:World} {v:Value} {gs:List Gs} (h:OwnG B w v gs) {u:Value} {y:Gs} (hu:OwnI B w u y.code)
  (hd:∀ ts:List (Value×Int×Int),OwnT B w v ts→∀ i (h:i<ts.length),u.ownBlock=none∨ts[i].1.ownBlock=none∨ts[i].1.ownBlock≠u.ownBlock):
  ∃ ts:List (Value×Int×Int),w.ownsRow B 39 3 v gs.length (cellsT ts)∧ts.length=gs.length ∧
   ∀ w' v',w'.ownsRow B 39 3 v' (gs.length+1) (cellsT ts++[u,.int .i64 y.right,.int .i64 y.near])→w.grownBy w' v.ownBlock→OwnG B w' v' (gs++[y]):=by
 obtain ⟨ts,h1,h2,h3,h4⟩:=h
 refine ⟨ts,by rw[←h2]; exact h1,h2,fun w' v' h5 h6=>?_⟩
 have hap:∀ z ys,OwnI B w z ys→OwnI B w' z ys:=fun z ys hz=>World.ownsRow.kept hz h6 (own_apart hz h1 (by decide))
 refine ⟨ts++[(u,y.right,y.near)],?_,by simp[h2],fun i hi' hi''=>?_,fun i j hi' hj' hij=>?_⟩
 ·unfold OwnT
  rw[cellsT_append]
  simpa [h2,cellsT,tC] using h5
 ·by_cases hlt:i<ts.length
  ·rw[List.getElem_append_left hlt,List.getElem_append_left (by omega)]
   have:=h3 i hlt (by omega)
   exact ⟨hap _ _ this.1,this.2⟩
  ·have e:i=ts.length:=by simp at hi'; omega
   subst e
   have:=hap _ _ hu
   simp only[List.getElem_append_right (Nat.le_refl _),Nat.sub_self,List.getElem_cons_zero]
   have e2:(gs++[y])[ts.length]'hi''=y:=by simp[h2]
   rw[e2]
   exact ⟨this,rfl,rfl⟩
 ·simp only[List.length_append,List.length_cons,List.length_nil] at hi' hj'
  by_cases h7:i<ts.length
  ·rw[List.getElem_append_left h7]
   by_cases h8:j<ts.length
   ·rw[List.getElem_append_left h8]; exact h4 i j h7 h8 hij
   ·have e:j=ts.length:=by omega
    subst e
    rw[List.getElem_append_right (Nat.le_refl _)]
    simp only[Nat.sub_self,List.getElem_cons_zero]
    rcases hd ts h1 i h7 with h | h | h
    ·rw[h]; by_cases e:ts[i].1.ownBlock=none
     ·exact .inl e
     ·exact .inr e
    ·exact .inl h
    ·exact .inr h
  ·have e:i=ts.length:=by omega
   subst e
   rw[List.getElem_append_right (Nat.le_refl _),List.getElem_append_left (show j<ts.length by omega)]
   simp only[Nat.sub_self,List.getElem_cons_zero]
   rcases hd ts h1 j (by omega) with h | h | h
   ·exact .inl h
   ·rw[h]; by_cases e:u.ownBlock=none
    ·exact .inl e
    ·exact .inr e
   ·exact .inr (fun e=>h e.symm)
theorem OwnG.take {B:Nat} {w:World} {g n cap:Nat} {gs:List Gs} (h:OwnG B w (.slice (some ⟨g,0,none⟩) n cap) gs) (k:Nat) (hk:k≤gs.length):OwnG B w (.slice (some ⟨g,0,none⟩) k cap) (gs.take k):=by
 obtain ⟨ts,⟨h1,h1'⟩,h2,h3,h4⟩:=h
 have hct:∀ (ts:List (Value×Int×Int)) k,(cellsT ts).take (k*3)=cellsT (ts.take k):=by
  intro ts
  induction ts with
  | nil=>intro k; simp[cellsT]
  | cons t ts ih=>
   intro k
   cases k with
   | zero=>simp[cellsT]
   | succ k=>
    rw[cellsT_cons,List.take_succ_cons,cellsT_cons,←ih k,Nat.succ_mul,Nat.add_comm]
    have e:(tC t).length=3:=rfl
    rw[←e,List.take_length_add_append]
 refine ⟨ts.take k,⟨by rw[cellsT_length],?_⟩,by simp[h2],fun i hi hi'=>?_,fun i j hi hj hij=>?_⟩
 ·rcases h1' with ⟨e,_⟩ | ⟨g',cap',cur,e,hb,hg,q1,q2,q3,q4⟩
  ·cases e
  ·injection e with e1 e2 e3
   injection e1 with e1
   injection e1 with e1 _ _
   subst e1 e3
   refine .inr ⟨g,cap,cur,?_,hb,hg,?_,q2,q3,?_⟩
   ·congr 1; simp <;> omega
   ·simp <;> omega
   ·rw[←hct,←q4,List.take_take]
    congr 1
    simp <;> omega
 ·simp only[List.getElem_take]
  exact h3 i (by simp at hi; omega) (by simp at hi'; omega)
 ·simp only[List.getElem_take]
  exact h4 i j (by simp at hi; omega) (by simp at hj; omega) hij
end Go.Proofs.YtenlngclocfnlaaGreatDoor
namespace Go.Proofs.YtenlngclocfnlaaGreatDoor
open Go.RowKit
set_option linter.unusedVariables false
set_option maxRecDepth 100000
theorem run_push_any {B C:Nat} (w:World) (ty:TypeId) (v:Value) (xs:List Int) (hown:OwnI B w v xs) (u:Value) (ys:List Int) (hu:Ints C w u ys) (hlen:xs.length+ys.length≤1099511627776) (hB:B≤w.heap.size):
  ∃ a' cap' w',(Builtin.append_ #[37,37] ty #[v,u]).run Tryz.prog w=.ok (.slice a' (xs.length+ys.length) cap') w'∧OwnI B w' (.slice a' (xs.length+ys.length) cap') (xs++ys)∧w.grownBy w' v.ownBlock:=by
 obtain ⟨a,cap,rfl,hcap,hmax,hcells⟩:=hu.opened
 obtain ⟨i0,hi,hz0,hz1,hz2⟩:=info_parts infoInt
 cases a with
 | none=>
  have hz:ys=[]:=by
   cases ys with
   | nil=>rfl
   | cons y t=>
    obtain ⟨b,off,e,_⟩:=hcells (by simp)
    cases e
  subst hz
  obtain ⟨av,cv,hv,_⟩:=own_shape hown
  have:=run_append_ints_nil w ty hown cap
  refine ⟨av,cv,w,?_,?_,World.grownBy.refl w _⟩
  ·simp only[List.length_nil,Nat.add_zero]
   rw[this,hv]
  ·rw[List.append_nil]
   simp only[List.length_nil,Nat.add_zero]
   rw[←hv]; exact hown
 | some ad=>
  have hnews:∀ j u,(ints ys)[j]?=some u→w.cell? (ad.add j)=some u:=fun j u hj=>by
   have hlt:j<ys.length:=by
    have:=(List.getElem?_eq_some_iff.1 hj).1
    simpa using this
   have:(ints ys)[j]?=some (.int .i64 ys[j]):=by rw[List.getElem?_eq_getElem (by simpa using hlt)]; simp
   rw[this] at hj
   obtain rfl:=Option.some.inj hj
   obtain ⟨b,off,e,_,hc⟩:=hcells (by omega)
   injection e with e
   subst e
   have hq:=hc j hlt
   by_cases h0:j=0
   ·subst h0; simpa [Addr.add] using hq
   ·simpa [Addr.add,h0] using hq
  obtain ⟨v',w',hrun,h5,h6,_,_⟩:=run_append_own_at (P:=Tryz.prog) w B 37 ty 3 i0 (.int .i64 0) 1 8 Tryz.underlying37 hi hz0 hz1 hz2 rfl (by decide) v xs.length (ints xs) hown ad ys.length cap (ints ys) (by simp) hnews (by intro u hu; obtain ⟨y,_,rfl⟩:=List.mem_map.1 hu; simp[Value.oneCell']) (by unfold maxLen; omega) (by omega) hB
  obtain ⟨a',cap',rfl,_⟩:=own_shape h5
  refine ⟨a',cap',w',hrun,?_,h6⟩
  unfold OwnI
  rw[ints_append]
  simpa [ints] using h5
theorem step_push_any {ops:Array Oper} {o:Oper} {a:Act} {K:Act→World→Prop} {Q:Exit→Act→World→Prop} {E:Prop} {B C:Nat} (w:World) (hgd:o.guard=none) (s x:Operand)
  (hop:o.op=Op.call { callee:=Callee.builtin Builtin.append,args:=#[s,x],argTypes:=#[37,37] }) (v:Value) (xs:List Int) (hs:a.eval s=v) (hown:OwnI B w v xs) (u:Value) (ys:List Int) (hx:a.eval x=u) (hu:Ints C w u ys)
  (hlen:xs.length+ys.length≤1099511627776) (hB:B≤w.heap.size)
  (h:∀ a' cap' w',OwnI B w' (.slice a' (xs.length+ys.length) cap') (xs++ys)→w.grownBy w' v.ownBlock→K (a.put o.dst (.slice a' (xs.length+ys.length) cap')) w'):
  if Region.wanted o (yielded ops a.tmps)=true then Oper.wp Tryz.prog o a w K Q else E:=by
 have hw:Region.wanted o (yielded ops a.tmps)=true:=by simp[Region.wanted,hgd]
 rw[if_pos hw]
 obtain ⟨a',cap',w',hrun,h1,h2⟩:=run_push_any w o.type v xs hown u ys hu hlen hB
 unfold Oper.wp
 simp[execOp,hop,resolve,invoke,builtin,hs,hx,hrun,Result.andThen]
 exact h a' cap' w' h1 h2
theorem step_push_g {ops:Array Oper} {o:Oper} {a:Act} {K:Act→World→Prop} {Q:Exit→Act→World→Prop} {E:Prop} {B:Nat} (w:World) (hgd:o.guard=none) (s x:Operand)
  (hop:o.op=Op.call { callee:=Callee.builtin Builtin.append,args:=#[s,x],argTypes:=#[28,28] }) (v:Value) (gs:List Gs) (hs:a.eval s=v) (hown:OwnG B w v gs) (N c:Nat) (u:Value) (y:Gs) (hx:a.eval x=.slice (some ⟨N,0,none⟩) 1 c)
  (hc:w.heap[N]?=some (.cells #[u,.int .i64 y.right,.int .i64 y.near] 39 (0,0))) (hu:OwnI B w u y.code)
  (hd:∀ ts:List (Value×Int×Int),OwnT B w v ts→∀ i (h:i<ts.length),u.ownBlock=none∨ts[i].1.ownBlock=none∨ts[i].1.ownBlock≠u.ownBlock)
  (hlen:gs.length≤1000000) (hB:B≤w.heap.size)
  (h:∀ a' cap' w',OwnG B w' (.slice a' (gs.length+1) cap') (gs++[y])→w.grownBy w' v.ownBlock→K (a.put o.dst (.slice a' (gs.length+1) cap')) w'):
  if Region.wanted o (yielded ops a.tmps)=true then Oper.wp Tryz.prog o a w K Q else E:=by
 obtain ⟨i0,hi,hz0,hz1,hz2⟩:=info_parts infoGuess
 obtain ⟨ts,t1,t2,t3⟩:=hown.pushed hu hd
 have hone:u.oneCell'=true:=by
  obtain ⟨_,_,rfl,_⟩:=own_shape hu
  rfl
 refine step_append_lies w hgd s x 28 hop B 39 i0 (.agg #[.slice none 0 0,.int .i64 0,.int .i64 0]) 3 40 Tryz.underlying28 hi hz0 hz1 hz2 rfl (by decide) v gs.length (cellsT ts) hs t1 ⟨N,0,none⟩ 1 c [u,.int .i64 y.right,.int .i64 y.near] hx rfl (fun j z hj=>World.news_of_block hc j z (by simpa using hj)) ?_ (by omega) (by unfold maxLen; omega) (by omega) hB _ rfl ?_
 ·intro z hz
  simp only[List.mem_cons,List.mem_nil_iff,or_false] at hz
  rcases hz with rfl | rfl | rfl
  ·exact hone
  ·rfl
  ·rfl
 ·intro g cap' w' h1 h2 _ _
  exact h _ cap' w' (t3 w' _ h1 h2) h2
end Go.Proofs.YtenlngclocfnlaaGreatDoor
namespace Go.Proofs.YtenlngclocfnlaaGreatDoor
open Go.RowKit
set_option linter.unusedVariables false
set_option maxRecDepth 100000
def FreshG (gs:List Gs) (w:World) (e:Ending) (w':World):Prop:=∃ a cap,e=.returned (.slice a gs.length cap)∧OwnG w.heap.size w' (.slice a gs.length cap) gs∧Below w.heap.size w w'
theorem cells_nils (n:Nat):(madeCells #[Value.slice none 0 0,.int .i64 0,.int .i64 0] (n*3)).toList=cellsT (List.replicate n (.slice none 0 0,0,0)):=by
 have hl:(cellsT (List.replicate n (Value.slice none 0 0,(0:Int),(0:Int)))).length=n*3:=by rw[cellsT_length]; simp
 refine List.ext_getElem (by rw[hl]; simp[madeCells]) fun i h1 h2=>?_
 have hi:i<n*3:=by rw[hl] at h2; exact h2
 obtain ⟨q1,q2,q3⟩:=cellsT_get (List.replicate n (Value.slice none 0 0,(0:Int),(0:Int))) (i/3) (by simp; omega)
 have hm:i%3=0∨i%3=1∨i%3=2:=by omega
 have hg:=List.getElem?_eq_getElem h2
 rcases hm with m | m | m
 ·rw[show i/3*3=i by omega,hg] at q1
  rw[Option.some.inj q1]
  simp[madeCells,m]
 ·rw[show i/3*3+1=i by omega,hg] at q2
  rw[Option.some.inj q2]
  simp[madeCells,m]
 ·rw[show i/3*3+2=i by omega,hg] at q3
  rw[Option.some.inj q3]
  simp[madeCells,m]
theorem own_nilsG {w:World} {B n:Nat} {v:Value} (h:w.ownsRow B 39 3 v n (madeCells (Value.agg #[.slice none 0 0,.int .i64 0,.int .i64 0]).cells (n*3)).toList):OwnG B w v (List.replicate n ⟨[],0,0⟩):=by
 rw[show (Value.agg #[.slice none 0 0,.int .i64 0,.int .i64 0]).cells=#[.slice none 0 0,.int .i64 0,.int .i64 0] from rfl,cells_nils] at h
 refine ⟨List.replicate n (.slice none 0 0,0,0),?_,by simp,fun i hi hi'=>?_,fun i j hi hj _=>?_⟩
 ·unfold OwnT
  simpa using h
 ·simp only[List.getElem_replicate]
  exact ⟨OwnI.empty B w,trivial,trivial⟩
 ·left
  simp[Value.ownBlock]
theorem wpList_make_guesses (w:World) {ops:Array Oper} {rest:List Oper} {o:Oper} {a:Act} {Q:Exit→Act→World→Prop}
  (hg:o.guard=none) (l c:Operand) (hop:o.op=Op.makeSlice 28 l c)
  (L C:Int) (n:Nat) (hl:a.eval l=.int .i64 L) (hc:a.eval c=.int .i64 C) (hL:L=(n:Int)) (hC:C=(n:Int)) (b2:n≤10000000000)
  (hK:∀ w',OwnG w.heap.size w' (.slice (some ⟨w.heap.size,0,none⟩) n n) (List.replicate n ⟨[],0,0⟩)→Below w.heap.size w w'→w.heap.size<w'.heap.size →
   wpList Tryz.prog ops Q rest (a.put o.dst (.slice (some ⟨w.heap.size,0,none⟩) n n)) w'):
  wpList Tryz.prog ops Q (o::rest) a w:=by
 obtain ⟨i0,hi,hz0,hz1,hz2⟩:=info_parts infoGuess
 refine wpList_make_full w hg l c 28 hop w.heap.size 39 i0 (.agg #[.slice none 0 0,.int .i64 0,.int .i64 0]) 3 Tryz.underlying28 hi hz0 hz1 .i64 .i64 L C n hl hc hL hC (by rw[hz2]; omega) (by unfold maxLen; omega) (Nat.le_refl _) ?_
 intro w' h1 h2
 refine hK w' (own_nilsG h1) ((Below.refl _ w).grown h2 (Nat.le_refl _) (by simp)) ?_
 exact (World.ownsRow.lt h1 _ rfl).2
theorem fill_step {gs:List Gs} {z:Gs} {k n:Nat} (h:k<gs.length) (hn:n=gs.length):(gs.take k++List.replicate (n-k) z).set k gs[k]=gs.take (k+1)++List.replicate (n-(k+1)) z:=by
 subst hn
 rw[List.take_succ_eq_append_getElem h,List.set_append_right _ _ (by rw[List.length_take]; omega)]
 have e:k-(gs.take k).length=0:=by rw[List.length_take]; omega
 rw[e,show gs.length-k=(gs.length-(k+1))+1 from by omega,List.replicate_succ,List.set_cons_zero,List.append_assoc]
 rfl
theorem set_seenG (w:World) (g i j:Nat) (u u0:Value) (h:w.cell? ⟨g,j,none⟩=some u0) (hn:i≠j):(w.setCell ⟨g,i,none⟩ u).cell? ⟨g,j,none⟩=some u0:=by
 have hg:=World.block_lt_of_cell? w _ h
 simp only[World.cell?,World.setCell] at h ⊢
 rw[Array.getElem?_modify]
 simp only[if_true]
 cases hb:w.heap[g]? with
 | none=>rw[hb] at h; simp at h
 | some o=>
  rw[hb] at h
  cases o with
  | cells cs t fr=>simpa [Array.getElem?_setIfInBounds,hn] using h
  | _=>simp at h ⊢
theorem set_thawedG (w:World) (g i j:Nat) (u:Value) (h:w.frozen? ⟨g,j,none⟩=false):(w.setCell ⟨g,i,none⟩ u).frozen? ⟨g,j,none⟩=false:=by
 simp only[World.frozen?,World.setCell] at h ⊢
 rw[Array.getElem?_modify]
 simp only[if_true]
 cases hb:w.heap[g]? with
 | none=>simp
 | some o=>
  rw[hb] at h
  cases o with
  | cells cs t fr=>simpa using h
  | _=>simp at h ⊢
theorem OwnG.apartNew {B:Nat} {w w2:World} {g n cap:Nat} {gs:List Gs} (h:OwnG B w (.slice (some ⟨g,0,none⟩) n cap) gs) (hb:Below w.heap.size w w2) {u:Value} {x:List Int} (hu:OwnI w.heap.size w2 u x) (k:Nat):
  ∀ i z,i<gs.length→i≠k→w2.cell? ⟨g,i*3,none⟩=some z→z.ownBlock=none∨u.ownBlock=none∨z.ownBlock≠u.ownBlock:=by
 intro i z hi _ hz
 obtain ⟨ts,h1,h2,h3,h4⟩:=h.below hb
 obtain ⟨a,cap',e,_,_,h6⟩:=h1.opened
 obtain ⟨g',e',_,_,hcs,_⟩:=h6 (by omega)
 injection e with e1 _ _
 rw[e'] at e1
 injection e1 with e1
 injection e1 with e1 _
 subst e1
 have:=(hcs i (by omega)).1
 rw[hz] at this
 have hzz:z=ts[i].1:=Option.some.inj this
 have:=guess_old h hb hu ts h1 i (by omega)
 rw[←hzz] at this
 rcases this with q | q | q
 ·exact .inr (.inl q)
 ·exact .inl q
 ·exact .inr (.inr q)
set_option maxHeartbeats 2000000 in
theorem toGuessS_any {B:Nat} (v:Value) (gs:List Gs) (w:World) (h:GL B w v gs) (hl:gs.length≤2000000) (hc:∀ g∈gs,g.code.length≤1099511627776):
  Calls Tryz.prog 74 #[v] w (FreshG gs w):=by
 obtain ⟨a,cap,V,rfl,hcap,hmax,hcells,hV⟩:=h
 go_enter Tryz.func74,Tryz.ntmps74
 go_wp2_with (at_make; refine wpList_make_guesses _ rfl _ _ rfl _ _ gs.length rfl rfl rfl rfl (by omega) ?_; intro w1 hown hb1 hs1; have HOWN:=hdd hown; have HB1:=hdd hb1; clear hown hb1)
 go_loopw [4] (fun i wr=>∃ k:Nat,k≤gs.length∧i=.int .i64 k∧OwnG w.heap.size wr (.slice (some ⟨w.heap.size,0,none⟩) gs.length gs.length) (gs.take k++List.replicate (gs.length-k) ⟨[],0,0⟩)∧Below w.heap.size w wr) (fun i _=>gs.length-(intOf i).toNat)
 case atStart=>exact ⟨0,Nat.zero_le _,rfl,by simpa using HOWN.out,HB1.out⟩
 case round=>
  obtain ⟨k,hk,rfl,ho,hb⟩:=hrel
  obtain ⟨wk,rfl⟩:∃ x,x=wr:=⟨_,rfl⟩
  clear HOWN HB1
  by_cases hlt:k<gs.length
  ·obtain ⟨b,off,rfl,_,hcs⟩:=hcells (by omega)
   obtain ⟨c1,c2,c3⟩:=hcs k hlt
   have d1:=(Above.of_below (B:=0) hb).cell (Nat.zero_le _) c1
   have d2:=(Above.of_below (B:=0) hb).cell (Nat.zero_le _) c2
   have d3:=(Above.of_below (B:=0) hb).cell (Nat.zero_le _) c3
   obtain ⟨av,cv,hvv,_⟩:=(hV k hlt).opened
   have hT:=toGuess_any (V k) gs[k].code gs[k].right gs[k].near wk ((hV k hlt).below hb) (hc _ (List.getElem_mem hlt))
   have HST:=hdd (fill_step (z:=⟨[],0,0⟩) hlt rfl)
   have hlen:(gs.take k++List.replicate (gs.length-k) (⟨[],0,0⟩:Gs)).length=gs.length:=by simp; omega
   have HLE:=hdd hlen
   obtain ⟨x,hx⟩:∃ x,x=gs[k]:=⟨_,rfl⟩
   rw[←hx] at d2 d3 hT HST
   rw[hvv] at d1 hT
   rw[←hx] at d1 hT
   unfold gV at hT
   have HO:=hdd ho
   have HB:=hdd hb
   have hzk:=hb.size
   have hi0:(0:Int)≤(k:Int):=by omega
   have hi1:(k:Int)<(gs.length:Int):=by omega
   clear hcs hcells hV hvv hx ho hb c1 c2 c3 hlen
   go_wp2_with fail
   refine hT.mono ?_
   rintro e w3 ⟨a3,c3',rfl,ho3,hb3⟩
   unfold gV
   obtain ⟨g9,cap9,e9,_,_,_,_,hfz,hat⟩:=(HO.out.below hb3).opened (by rw[HLE.out]; omega)
   injection e9 with e9 e9b e9c
   clear e9b e9c
   injection e9 with e9
   injection e9 with e9 _
   subst e9
   obtain ⟨z,z1,_,z2,z3⟩:=hat k (by rw[HLE.out]; exact hlt)
   have hput:=(HO.out.below hb3).put k (by rw[HLE.out]; exact hlt) (x:=x) (ho3.mono hzk) (HO.out.apartNew hb3 ho3 k)
   rw[HST.out] at hput
   have hc2:=set_seenG w3 w.heap.size (k*3) (k*3+1) (.slice a3 x.code.length c3') _ z2 (by omega)
   have hc3:=set_seenG (w3.setCell ⟨w.heap.size,k*3,none⟩ (.slice a3 x.code.length c3')) w.heap.size (k*3+1) (k*3+2) (.int .i64 x.right) _ (set_seenG w3 w.heap.size (k*3) (k*3+2) (.slice a3 x.code.length c3') _ z3 (by omega)) (by omega)
   have hf1:=hfz (k*3)
   have hf2:=set_thawedG w3 w.heap.size (k*3) (k*3+1) (.slice a3 x.code.length c3') (hfz _)
   have hf3:=set_thawedG (w3.setCell ⟨w.heap.size,k*3,none⟩ (.slice a3 x.code.length c3')) w.heap.size (k*3+1) (k*3+2) (.int .i64 x.right) (set_thawedG w3 w.heap.size (k*3) (k*3+2) (.slice a3 x.code.length c3') (hfz _))
   have HP:=hdd hput.1
   have HB3:=hdd ((HB.out.trans (hb3.mono hzk)).grown hput.2 (Nat.le_trans hzk hb3.size) (fun q hq=>by cases hq; exact Nat.le_refl _))
   clear hT ho3 hb3 hfz hat hput z2 z3
   go_wp2
   go_roundw
   case rel=>exact ⟨k+1,by omega,by go_num,HP.out,HB3.out⟩
   case measure=>simp[intOf]; omega
  ·have e:gs.take k++List.replicate (gs.length-k) (⟨[],0,0⟩:Gs)=gs:=by rw[List.take_of_length_le (by omega),show gs.length-k=0 by omega]; simp
   rw[e] at ho
   have HO:=hdd ho
   have HB:=hdd hb
   have HC:=hdd hc
   clear e ho hb hcells hV hc
   go_wp2
   go_ret
   exact ⟨_,_,rfl,HO.out,HB.out⟩
end Go.Proofs.YtenlngclocfnlaaGreatDoor
namespace Go.Proofs.YtenlngclocfnlaaGreatDoor
open Go.RowKit
set_option linter.unusedVariables false
set_option maxRecDepth 100000
def markGs:List Gs→Int→List Gs
 | [],_=>[]
 | g::gs,k=>⟨markL g.code.length k,k+g.code.length,k+g.code.length+1⟩::markGs gs (k+g.code.length+2)
def endK:List Gs→Int→Int
 | [],k=>k
 | g::gs,k=>endK gs (k+g.code.length+2)
def totG:List Gs→Nat
 | []=>0
 | g::gs=>g.code.length+2+totG gs
theorem endK_tot:∀ (gs:List Gs) (k:Int),endK gs k=k+totG gs
 | [],k=>by simp[endK,totG]
 | g::gs,k=>by rw[endK,endK_tot gs]; simp only[totG]; push_cast; omega
theorem endK_app:∀ (a b:List Gs) (k:Int),endK (a++b) k=endK b (endK a k)
 | [],b,k=>rfl
 | g::a,b,k=>by simp only[List.cons_append,endK]; exact endK_app a b _
theorem markGs_app:∀ (a b:List Gs) (k:Int),markGs (a++b) k=markGs a k++markGs b (endK a k)
 | [],b,k=>rfl
 | g::a,b,k=>by simp only[List.cons_append,markGs,endK]; rw[markGs_app a b]
@[simp] theorem markGs_length:∀ (gs:List Gs) (k:Int),(markGs gs k).length=gs.length
 | [],_=>rfl
 | g::gs,k=>by simp[markGs,markGs_length gs]
theorem endK_next {gs:List Gs} {k:Nat} (h:k<gs.length) (m:Int):endK (gs.take (k+1)) m=endK (gs.take k) m+gs[k].code.length+2:=by
 rw[List.take_succ_eq_append_getElem h,endK_app]; rfl
theorem markGs_next {gs:List Gs} {k:Nat} (h:k<gs.length) (m:Int):markGs (gs.take (k+1)) m++gs.drop (k+1) =
  (markGs (gs.take k) m++gs.drop k).set k ⟨markL gs[k].code.length (endK (gs.take k) m),endK (gs.take k) m+gs[k].code.length,endK (gs.take k) m+gs[k].code.length+1⟩:=by
 rw[List.take_succ_eq_append_getElem h,markGs_app,List.set_append_right _ _ (by simp; omega)]
 have e:k-(markGs (gs.take k) m).length=0:=by simp; omega
 rw[e,List.drop_eq_getElem_cons h,List.set_cons_zero]
 simp[markGs]
theorem markGs_at {gs:List Gs} {k:Nat} (h:k<gs.length) (m:Int) (h':k<(markGs (gs.take k) m++gs.drop k).length):(markGs (gs.take k) m++gs.drop k)[k]=gs[k]:=by
 rw[List.getElem_append_right (by simp; omega)]
 simp only[List.getElem_drop]
 congr 1
 simp; omega
theorem totG_take_le:∀ (gs:List Gs) (k:Nat),totG (gs.take k)≤totG gs
 | [],k=>by simp[totG]
 | g::gs,0=>by simp[totG]
 | g::gs,k+1=>by simp only[List.take_succ_cons,totG]; have:=totG_take_le gs k; omega
theorem totG_next {gs:List Gs} {k:Nat} (h:k<gs.length):totG (gs.take k)+gs[k].code.length+2≤totG gs:=by
 have h1:=totG_take_le gs (k+1)
 have h2:=endK_next h 0
 rw[endK_tot,endK_tot] at h2
 omega
def MarkedG (B C:Nat) (v:Value) (gs:List Gs) (m:Int) (w:World) (e:Ending) (w':World):Prop:=
 e=.returned (.int .i64 (endK gs m))∧OwnG B w' v (markGs gs m)∧Below B w w'∧∀ b,C≤b→b<w.heap.size→w'.heap[b]?=w.heap[b]?
def LowG (C:Nat) (w:World) (v:Value) (n:Nat):Prop:=∀ g m cap,v=.slice (some ⟨g,0,none⟩) m cap→0<n→g<C∧∀ i z j,i<n→w.cell? ⟨g,i*3,none⟩=some z→z.ownBlock=some j→j<C
theorem OwnG.low {B:Nat} {w0 w:World} {v:Value} {gs:List Gs} (h:OwnG B w0 v gs) (hA:Above B w0 w):LowG w0.heap.size w v gs.length:=by
 intro g m cap hv hn
 have h':=h.keep hA
 obtain ⟨g1,c1,e1,hB,hlt,_,_,_,hat⟩:=h.opened hn
 obtain ⟨g2,c2,e2,_,_,_,_,_,hat2⟩:=h'.opened hn
 rw[hv] at e1 e2
 injection e1 with e1 _ _
 injection e1 with e1
 injection e1 with e1 _
 subst e1
 injection e2 with e2 _ _
 injection e2 with e2
 injection e2 with e2 _
 subst e2
 refine ⟨hlt,fun i z j hi hz hj=>?_⟩
 obtain ⟨u,q1,q2,_⟩:=hat i hi
 have:=hA.cell (p:=⟨g,i*3,none⟩) hB q1
 rw[hz] at this
 have e:z=u:=Option.some.inj this
 subst e
 exact (World.ownsRow.lt q2 j hj).2
set_option maxHeartbeats 4000000 in
theorem markGuessS_any {B C:Nat} (v:Value) (gs:List Gs) (m:Int) (w:World) (h:OwnG B w v gs) (hlow:LowG C w v gs.length) (hBw:B≤w.heap.size) (h0:0≤m) (h1:m+totG gs≤1099511627776):
  Calls Tryz.prog 76 #[v,.int .i64 m] w (MarkedG B C v gs m w):=by
 by_cases hz:gs=[]
 ·subst hz
  have HO:=hdd h
  obtain ⟨a,cap,rfl,_⟩:=h.shape
  clear h hlow
  go_enter Tryz.func76,Tryz.ntmps76
  go_wp2
  refine wp_loop_rounds 1 ?_; rw[rounds_succ]
  go_wp2
  go_ret
  exact ⟨rfl,HO.out,Below.refl _ _,fun _ _ _=>rfl⟩
 ·have hp:0<gs.length:=List.length_pos_iff.2 hz
  obtain ⟨g,cap,rfl,hBg,hgs,hcap,hmax,_,hat0⟩:=h.opened hp
  obtain ⟨hgC,hlw⟩:=hlow g _ cap rfl hp
  have HLW:=hdd hlw
  have HO0:=hdd h
  clear hlow hlw hat0 hz h
  go_enter Tryz.func76,Tryz.ntmps76
  go_wp2
  go_loopw [1,5] (fun s i wr=>∃ k:Nat,k≤gs.length∧i=.int .i64 k∧s=.int .i64 (endK (gs.take k) m)∧OwnG B wr (.slice (some ⟨g,0,none⟩) gs.length cap) (markGs (gs.take k) m++gs.drop k)∧Below B w wr ∧
   (∀ b,C≤b→b<w.heap.size→wr.heap[b]?=w.heap[b]?)∧∀ i,i<gs.length→wr.cell? ⟨g,i*3,none⟩=w.cell? ⟨g,i*3,none⟩) (fun _ i _=>gs.length-(intOf i).toNat)
  case atStart=>exact ⟨0,Nat.zero_le _,rfl,by simp[endK],by simpa [markGs] using HO0.out,Below.refl _ _,fun _ _ _=>rfl,fun _ _=>rfl⟩
  case round=>
   obtain ⟨k,hk,rfl,rfl,ho,hb,hfar,hsame⟩:=hrel
   obtain ⟨wk,rfl⟩:∃ x,x=wr:=⟨_,rfl⟩
   clear HO0
   have hlen:(markGs (gs.take k) m++gs.drop k).length=gs.length:=by simp; omega
   by_cases hlt:k<gs.length
   ·obtain ⟨g9,cap9,e9,_,_,_,_,hfz,hat⟩:=ho.opened (by rw[hlen]; omega)
    injection e9 with e9 e9b e9c
    clear e9b e9c
    injection e9 with e9
    injection e9 with e9 _
    subst e9
    have hkl:k<(markGs (gs.take k) m++gs.drop k).length:=by rw[hlen]; exact hlt
    obtain ⟨u,z1,zu,z2,z3⟩:=hat k hkl
    rw[markGs_at hlt] at zu z2 z3
    have htn:=totG_next hlt
    have hem:endK (gs.take k) m=m+totG (gs.take k):=endK_tot _ _
    have hM:=markIntS_any u gs[k].code (endK (gs.take k) m) wk zu (by omega) (by omega) (by omega)
    have HT:=hdd (fun (w2:World) (ys:List Int) (hg:wk.grownBy w2 u.ownBlock) (hu:OwnI B w2 u ys)=>ho.turn k hkl z1 hg hu)
    have hju:∀ j,u.ownBlock=some j→j<C∧B≤j:=fun j hj=>⟨HLW.out k u j hlt (by rw[←hsame k hlt]; exact z1) hj,(World.ownsRow.lt zu j hj).1⟩
    have hug:u.ownBlock≠some g:=by
     obtain ⟨ts,t1,_⟩:=ho
     have:=own_apart zu t1 (by decide)
     rcases this with q | q
     ·rw[q]; simp
     ·simpa [Value.ownBlock] using q
    have HNX:=hdd (endK_next hlt m)
    have HMN:=hdd (markGs_next hlt m)
    have HAT:=hdd (fun (h':k<(markGs (gs.take k) m++gs.drop k).length)=>markGs_at hlt m h')
    obtain ⟨au,cu,hus,_⟩:=own_shape zu
    obtain ⟨e,he⟩:∃ e,e=endK (gs.take k) m:=⟨_,rfl⟩
    rw[←he] at hM hem HNX HMN ⊢
    obtain ⟨n,hn⟩:∃ n,n=gs[k].code.length:=⟨_,rfl⟩
    rw[←hn] at hM hus htn HNX HMN
    subst hus
    have HB:=hdd hb
    have HFR:=hdd hfar
    have HSM:=hdd hsame
    have HJU:=hdd hju
    have HUG:=hdd hug
    have HLEN:=hdd hlen
    have hzk:=hb.size
    have hk3:(k:Int)<(gs.length:Int):=by omega
    have hk0:(0:Int)≤(k:Int):=by omega
    have he0:0≤e:=by omega
    have he1:e+n+2≤1099511627776:=by omega
    clear hfz hat zu hju hug hb hfar hsame ho he hn hlen hem htn
    go_wp2_with fail
    refine hM.mono ?_
    rintro e' w2 ⟨rfl,hu2,hg2⟩
    have hT:=HT.out w2 _ hg2 hu2
    have hlen2:((markGs (gs.take k) m++gs.drop k).set k ⟨markL n e,(markGs (gs.take k) m++gs.drop k)[k]'hkl |>.right,(markGs (gs.take k) m++gs.drop k)[k]'hkl |>.near⟩).length=gs.length:=by rw[List.length_set,HLEN.out]
    have htl:=hT.tail k (by rw[hlen2]; exact hlt) (e+n) (e+n+1)
    have hfin:(((markGs (gs.take k) m++gs.drop k).set k ⟨markL n e,(markGs (gs.take k) m++gs.drop k)[k]'hkl |>.right,(markGs (gs.take k) m++gs.drop k)[k]'hkl |>.near⟩).set k ⟨(((markGs (gs.take k) m++gs.drop k).set k ⟨markL n e,(markGs (gs.take k) m++gs.drop k)[k]'hkl |>.right,(markGs (gs.take k) m++gs.drop k)[k]'hkl |>.near⟩)[k]'(by rw[hlen2]; exact hlt)).code,e+n,e+n+1⟩)=markGs (gs.take (k+1)) m++gs.drop (k+1):=by
     rw[HMN.out,List.set_set]
     simp
    rw[hfin] at htl
    obtain ⟨g8,cap8,e8,_,_,_,_,hfz,hat⟩:=hT.opened (by rw[hlen2]; omega)
    injection e8 with e8 e8b e8c
    clear e8b e8c
    injection e8 with e8
    injection e8 with e8 _
    subst e8
    obtain ⟨u8,y1,_,y2,y3⟩:=hat k (by rw[hlen2]; exact hlt)
    obtain ⟨r8,hr8⟩:∃ r8,w2.cell? ⟨g,k*3+1,none⟩=some (.int .i64 r8):=⟨_,y2⟩
    obtain ⟨n8,hn8⟩:∃ n8,w2.cell? ⟨g,k*3+2,none⟩=some (.int .i64 n8):=⟨_,y3⟩
    have hc3:=set_seenG w2 g (k*3+1) (k*3+2) (.int .i64 (e+n)) _ hn8 (by omega)
    have hf1:=hfz (k*3+1)
    have hf2:=set_thawedG w2 g (k*3+1) (k*3+2) (.int .i64 (e+n)) (hfz _)
    have hsame2:∀ i,i<gs.length→((w2.setCell ⟨g,k*3+1,none⟩ (.int .i64 (e+n))).setCell ⟨g,k*3+2,none⟩ (.int .i64 (e+n+1))).cell? ⟨g,i*3,none⟩=w.cell? ⟨g,i*3,none⟩:=fun i hi=>by
     obtain ⟨ui,x1,_⟩:=hat i (by rw[hlen2]; exact hi)
     have x2:=set_seenG w2 g (k*3+1) (i*3) (.int .i64 (e+n)) _ x1 (by omega)
     have x3:=set_seenG _ g (k*3+2) (i*3) (.int .i64 (e+n+1)) _ x2 (by omega)
     rw[x3,←x1,←HSM.out i hi]
     exact World.cell?_of_block (hg2.block g (by have:=World.block_lt_of_cell? wk _ z1; exact this) (fun q=>HUG.out q.symm))
    have hb2:=HB.out.grown hg2 (by omega) (fun j hj=>(HJU.out j hj).2)
    have hz2:=hg2.size
    have HO2:=hdd htl.1
    have HB2:=hdd (hb2.grown htl.2 (by omega) (fun j hj=>by cases hj; exact hBg))
    have HFR2:=hdd (show ∀ b,C≤b→b<w.heap.size→((w2.setCell ⟨g,k*3+1,none⟩ (.int .i64 (e+n))).setCell ⟨g,k*3+2,none⟩ (.int .i64 (e+n+1))).heap[b]?=w.heap[b]? from fun b q1 q2=>by
     have hbw:b<wk.heap.size:=by
      have:=HFR.out b q1 q2
      rw[Array.getElem?_eq_getElem q2] at this
      exact (Array.getElem?_eq_some_iff.1 this).1
     rw[htl.2.block b (by omega) (fun q=>by injection q with q; omega),hg2.block b hbw (fun q=>by have:=(HJU.out b q.symm).1; omega)]
     exact HFR.out b q1 q2)
    have HS2:=hdd hsame2
    clear hM hT htl hfin hfz hat y1 y2 y3 hu2 hg2 hsame2 hb2
    go_wp2
    go_roundw
    case rel=>exact ⟨k+1,by omega,by go_num,by rw[HNX.out]; go_num,HO2.out,HB2.out,HFR2.out,HS2.out⟩
    case measure=>simp[intOf]; omega
   ·have e1:gs.take k=gs:=List.take_of_length_le (by omega)
    have e2:gs.drop k=[]:=List.drop_eq_nil_of_le (by omega)
    rw[e1,e2,List.append_nil] at ho
    rw[e1]
    have HO:=hdd ho
    have HB:=hdd hb
    have HFR:=hdd hfar
    clear e1 e2 ho hb hfar hsame hlen
    go_wp2
    go_ret
    exact ⟨rfl,HO.out,HB.out,HFR.out⟩
end Go.Proofs.YtenlngclocfnlaaGreatDoor
namespace Go.Proofs.YtenlngclocfnlaaGreatDoor
open Go.RowKit Go.Shelf
set_option linter.unusedVariables false
set_option maxRecDepth 100000
theorem markGs_get {gs:List Gs} {k:Nat} (h:k<gs.length) (m:Int) (h':k<(markGs gs m).length):(markGs gs m)[k]=⟨markL gs[k].code.length (endK (gs.take k) m),endK (gs.take k) m+gs[k].code.length,endK (gs.take k) m+gs[k].code.length+1⟩:=by
 have e:markGs gs m=markGs (gs.take k) m++markGs (gs.drop k) (endK (gs.take k) m):=by rw[←markGs_app,List.take_append_drop]
 rw[List.getElem_of_eq e,List.getElem_append_right (by rw[markGs_length,List.length_take]; omega)]
 have h2:=List.drop_eq_getElem_cons h
 have e2:markGs (gs.drop k) (endK (gs.take k) m)=⟨markL gs[k].code.length (endK (gs.take k) m),endK (gs.take k) m+gs[k].code.length,endK (gs.take k) m+gs[k].code.length+1⟩::markGs (gs.drop (k+1)) (endK (gs.take k) m+gs[k].code.length+2):=by rw[h2]; rfl
 rw[List.getElem_of_eq e2]
 have e3:k-(markGs (gs.take k) m).length=0:=by simp; omega
 simp only[e3,List.getElem_cons_zero]
theorem markGs_in64 (gs:List Gs) (m:Int) (h0:0≤m) (h1:m+totG gs≤1099511627776):In64G (markGs gs m):=by
 intro x hx y hy
 obtain ⟨k,hk,rfl⟩:=List.getElem_of_mem hx
 have hk':k<gs.length:=by simpa using hk
 rw[markGs_get hk'] at hy
 have:=totG_next hk'
 have:=endK_tot (gs.take k) m
 simp only[markL,List.mem_map,List.mem_range] at hy
 obtain ⟨j,hj,rfl⟩:=hy
 unfold In64
 omega
theorem heldGuessS_any {B:Nat} (v:Value) (gs:List Gs) (m:Int) (w:World) (h:GL B w v (markGs gs m)) (h0:0≤m) (h1:m+totG gs≤1099511627776):
  Calls Tryz.prog 77 #[v,.int .i64 m] w fun e w'=>e=.returned (.int .i64 (endK gs m))∧w=w':=by
 obtain ⟨a,cap,V,rfl,hcap,hmax,hcells,hV⟩:=h
 have HG:=hdd (fun (k:Nat) (hk:k<gs.length) (h':k<(markGs gs m).length)=>markGs_get hk m h')
 simp only[markGs_length] at hcap hcells hV ⊢
 go_enter Tryz.func77,Tryz.ntmps77
 go_wp2
 go_loop [1,5] (fun s i=>∃ (k:Nat),k≤gs.length∧i=.int .i64 k∧s=.int .i64 (endK (gs.take k) m)) (fun _ i=>gs.length-(intOf i).toNat)
 case atStart=>exact ⟨0,Nat.zero_le _,rfl,rfl⟩
 case round=>
  obtain ⟨k,hk,rfl,rfl⟩:=hrel
  by_cases hlt:k<gs.length
  ·obtain ⟨b,off,rfl,_,hc⟩:=hcells (by omega)
   obtain ⟨c1,c2,c3⟩:=hc k hlt
   have hVk:=hV k hlt
   rw[HG.out k hlt] at c2 c3 hVk
   have htn:=totG_next hlt
   have hem:=endK_tot (gs.take k) m
   have HNX:=hdd (endK_next hlt m)
   obtain ⟨e,he⟩:∃ e,e=endK (gs.take k) m:=⟨_,rfl⟩
   rw[←he] at c2 c3 hVk hem HNX ⊢
   obtain ⟨n,hn⟩:∃ n,n=gs[k].code.length:=⟨_,rfl⟩
   simp only[←hn] at c2 c3 hVk htn
   rw[←hn] at HNX
   have hH:=heldIntS_any (V k) (markL n e) e w hVk (by omega) (by omega) (by simp; omega)
   rw[heldL_mark] at hH
   have he0:0≤e:=by omega
   have he1:e+n+2≤1099511627776:=by omega
   have hnn:¬(e+(n:Int)<0):=by omega
   obtain ⟨av,cv,hvv,_⟩:=hVk.opened
   rw[show (markL n e).length=n by simp] at hvv
   rw[hvv] at c1 hH
   clear hcells hc hV hVk hvv hem htn he hn
   go_wp2_with fail
   refine hH.mono ?_
   rintro e2 w2 ⟨rfl,rfl⟩
   clear hH
   go_wp2
   go_round
   case rel=>exact ⟨k+1,by omega,by go_num,by rw[HNX.out]; go_num⟩
   case measure=>simp[intOf]; omega
  ·have e:gs.take k=gs:=List.take_of_length_le (by omega)
   rw[e]
   clear e
   go_wp2
   go_ret
   exact ⟨rfl,rfl⟩
theorem szGuessS_any {B:Nat} (v:Value) (gs:List Gs) (l:Int) (w:World) (h:GL B w v gs) (h0:0≤l) (h1:l≤1099511627776):
  Calls Tryz.prog 73 #[v,.int .i64 l] w fun e w'=>e=.returned (.int .i64 (szSS (gs.map Gs.code) l))∧Below w.heap.size w w':=by
 obtain ⟨a,cap,V,rfl,hcap,hmax,hcells,hV⟩:=h
 by_cases hle:(gs.length:Int)≤l
 ·have HS:=hdd (show szGo (gs.map Gs.code) (l-(gs.length:Int))=szSS (gs.map Gs.code) l by unfold szSS; rw[List.length_map,if_pos hle])
  have hd:¬(l-(gs.length:Int)<0):=by omega
  go_enter Tryz.func73,Tryz.ntmps73
  go_wp2
  go_loopw [1,5] (fun s i wr=>∃ (k:Nat) (c:Int),k≤gs.length∧i=.int .i64 k∧s=.int .i64 c∧szGo ((gs.drop k).map Gs.code) c=szSS (gs.map Gs.code) l∧0≤c∧c≤l∧Below w.heap.size w wr) (fun _ i _=>gs.length-(intOf i).toNat)
  case atStart=>exact ⟨0,_,Nat.zero_le _,rfl,rfl,by rw[←HS.out]; simp,by omega,by omega,Below.refl _ _⟩
  case round=>
   obtain ⟨k,c,hk,rfl,rfl,ht,hc0,hc1,hb⟩:=hrel
   obtain ⟨wk,rfl⟩:∃ x,x=wr:=⟨_,rfl⟩
   clear hd
   by_cases hlt:k<gs.length
   ·obtain ⟨b,off,rfl,_,hc⟩:=hcells (by omega)
    obtain ⟨c1,c2,c3⟩:=hc k hlt
    have d1:=(Above.of_below (B:=0) hb).cell (Nat.zero_le _) c1
    have d2:=(Above.of_below (B:=0) hb).cell (Nat.zero_le _) c2
    have d3:=(Above.of_below (B:=0) hb).cell (Nat.zero_le _) c3
    obtain ⟨av,cv,hvv,_⟩:=(hV k hlt).opened
    have hH:=szGuess_any (V k) gs[k].code gs[k].right gs[k].near c wk ((hV k hlt).below hb) hc0 (by omega)
    rw[List.drop_eq_getElem_cons hlt,List.map_cons,szGo] at ht
    rw[hvv] at d1 hH
    unfold gV at hH
    unfold szR at hH
    obtain ⟨n,hn⟩:∃ n,n=gs[k].code.length:=⟨_,rfl⟩
    obtain ⟨r,hr⟩:∃ r,r=gs[k].right:=⟨_,rfl⟩
    obtain ⟨nr,hnr⟩:∃ nr,nr=gs[k].near:=⟨_,rfl⟩
    rw[←hn] at hH ht d1
    rw[←hr] at hH d2
    rw[←hnr] at hH d3
    have hzk:=hb.size
    have HB:=hdd hb
    clear hc hcells hV hvv c1 c2 c3 hn hr hnr hb
    by_cases hneg:(n:Int)≤c
    ·rw[if_pos hneg] at ht hH
     have HT:=hdd ht
     have hnn:¬(c-(n:Int)<0):=by omega
     clear ht
     go_wp2_with fail
     refine hH.mono ?_
     rintro e w2 ⟨rfl,hb2⟩
     have HB2:=hdd (HB.out.trans (hb2.mono hzk))
     clear hH hb2
     go_wp2
     go_roundw
     case rel=>exact ⟨k+1,_,by omega,by go_num,rfl,HT.out,by omega,by omega,HB2.out⟩
     case measure=>simp[intOf]; omega
    ·rw[if_neg hneg] at ht hH
     have HT:=hdd ht
     clear ht
     go_wp2_with fail
     refine hH.mono ?_
     rintro e w2 ⟨rfl,hb2⟩
     have HB2:=hdd (HB.out.trans (hb2.mono hzk))
     clear hH hb2
     go_wp2
     go_ret
     exact ⟨ret_int (by rw[←HT.out]),HB2.out⟩
   ·have e:gs.drop k=[]:=List.drop_eq_nil_of_le (by omega)
    rw[e,List.map_nil,szGo] at ht
    have HT:=hdd ht
    have HB:=hdd hb
    clear ht e hb
    go_wp2
    go_ret
    exact ⟨ret_int (by rw[←HT.out]),HB.out⟩
 ·have HS:=hdd (show szSS (gs.map Gs.code) l=-1 by unfold szSS; rw[List.length_map,if_neg hle])
  have hd:l-(gs.length:Int)<0:=by omega
  go_enter Tryz.func73,Tryz.ntmps73
  go_wp2
  go_ret
  exact ⟨ret_int (by rw[HS.out]),Below.refl _ _⟩
set_option maxHeartbeats 2000000 in
theorem eqGuessS_self {B C:Nat} (v v':Value) (gs:List Gs) (w:World) (h:GL B w v gs) (h':GL C w v' gs):
  Calls Tryz.prog 75 #[v,v'] w fun e w'=>e=.returned (.bool true)∧Below w.heap.size w w':=by
 obtain ⟨a,cap,V,rfl,hcap,hmax,hcells,hV⟩:=h
 obtain ⟨a',cap',V',rfl,hcap',hmax',hcells',hV'⟩:=h'
 go_enter Tryz.func75,Tryz.ntmps75
 go_wp2
 go_loopw [5] (fun i wr=>∃ k:Nat,k≤gs.length∧i=.int .i64 k∧Below w.heap.size w wr) (fun i _=>gs.length-(intOf i).toNat)
 case atStart=>exact ⟨0,Nat.zero_le _,rfl,Below.refl _ _⟩
 case round=>
  obtain ⟨k,hk,rfl,hb⟩:=hrel
  obtain ⟨wk,rfl⟩:∃ x,x=wr:=⟨_,rfl⟩
  by_cases hlt:k<gs.length
  ·obtain ⟨b,off,rfl,_,hc⟩:=hcells (by omega)
   obtain ⟨b',off',rfl,_,hc'⟩:=hcells' (by omega)
   obtain ⟨c1,c2,c3⟩:=hc k hlt
   obtain ⟨e1,e2,e3⟩:=hc' k hlt
   obtain ⟨av,cv,hvv,_⟩:=(hV k hlt).opened
   obtain ⟨av',cv',hvv',_⟩:=(hV' k hlt).opened
   have hVk:=hV k hlt
   have hVk':=hV' k hlt
   obtain ⟨x,hx⟩:∃ x,x=gs[k]:=⟨_,rfl⟩
   rw[←hx] at c2 c3 e2 e3 hvv hvv' hVk hVk'
   rw[hvv] at c1 hVk
   rw[hvv'] at e1 hVk'
   have K1:∀ z:GrownC wk,z.val.cell? ⟨b,off+k*3,none⟩=some (.slice av x.code.length cv):=fun z=>(Above.of_below (B:=0) (hb.trans (z.ok.mono hb.size))).cell (Nat.zero_le _) c1
   have K2:∀ z:GrownC wk,z.val.cell? ⟨b,off+k*3+1,none⟩=some (.int .i64 x.right):=fun z=>(Above.of_below (B:=0) (hb.trans (z.ok.mono hb.size))).cell (Nat.zero_le _) c2
   have K3:∀ z:GrownC wk,z.val.cell? ⟨b,off+k*3+2,none⟩=some (.int .i64 x.near):=fun z=>(Above.of_below (B:=0) (hb.trans (z.ok.mono hb.size))).cell (Nat.zero_le _) c3
   have L1:∀ z:GrownC wk,z.val.cell? ⟨b',off'+k*3,none⟩=some (.slice av' x.code.length cv'):=fun z=>(Above.of_below (B:=0) (hb.trans (z.ok.mono hb.size))).cell (Nat.zero_le _) e1
   have L2:∀ z:GrownC wk,z.val.cell? ⟨b',off'+k*3+1,none⟩=some (.int .i64 x.right):=fun z=>(Above.of_below (B:=0) (hb.trans (z.ok.mono hb.size))).cell (Nat.zero_le _) e2
   have L3:∀ z:GrownC wk,z.val.cell? ⟨b',off'+k*3+2,none⟩=some (.int .i64 x.near):=fun z=>(Above.of_below (B:=0) (hb.trans (z.ok.mono hb.size))).cell (Nat.zero_le _) e3
   have hC:∀ z:GrownC wk,Calls Tryz.prog 118 #[.agg #[.slice av x.code.length cv,.int .i64 x.right,.int .i64 x.near],.agg #[.slice av' x.code.length cv',.int .i64 x.right,.int .i64 x.near]] z.val (fun e w''=>e=.returned (.bool true)∧∃ z':GrownC wk,w''=z'.val):=fun z=>
    (eqGuess_any _ _ x.code x.code x.right x.near x.right x.near z.val (hVk.below (hb.trans (z.ok.mono hb.size))) (hVk'.below (hb.trans (z.ok.mono hb.size)))).mono (fun e w'' ⟨he,hbb⟩=>⟨by rw[he]; simp,⟨w'',z.ok.trans (hbb.mono z.ok.size)⟩,rfl⟩)
   have HB:=hdd hb
   have hk0:(0:Int)≤(k:Int):=by omega
   have hk1:(k:Int)<(gs.length:Int):=by omega
   clear hc hc' hcells hcells' hV hV' hvv hvv' hVk hVk' hx hb c1 c2 c3 e1 e2 e3
   go_wp2
   refine wp_region_grownC (by kernel_rfl) (by kernel_rfl) ?_
   repeat (first | go_big_quiet_skip | (go_big_quiet_want; go_big_quiet_op; first | go_big_quiet_on | go_big_quiet_call ((go_at_call 118; exact hC _))))
   refine wpQuiet_nil ?_
   intro w8 hw8
   obtain ⟨z8,hz8⟩:=hw8
   have HB8:=hdd (HB.out.trans (z8.ok.mono HB.out.size))
   rw[←hz8] at HB8
   clear hz8
   go_wp2
   go_roundw
   case rel=>exact ⟨k+1,by omega,by go_num,HB8.out⟩
   case measure=>simp[intOf]; omega
  ·have HB:=hdd hb
   clear hcells hcells' hV hV' hb
   go_wp2
   go_ret
   exact ⟨rfl,HB.out⟩
end Go.Proofs.YtenlngclocfnlaaGreatDoor
namespace Go.Proofs.YtenlngclocfnlaaGreatDoor
open Go.RowKit Go.Shelf
set_option linter.unusedVariables false
set_option maxRecDepth 100000
theorem szDesk_any {B:Nat} (p c:Int) (v:Value) (gs:List Gs) (l:Int) (w:World) (h:GL B w v gs) (h0:0≤l) (h1:l≤1099511627776):
  Calls Tryz.prog 28 #[dkV p c v,.int .i64 l] w fun e w'=>e=.returned (.int .i64 (szSS (gs.map Gs.code) l))∧Below w.heap.size w w':=by
 have hsh:∃ a cap,v=.slice a gs.length cap:=by obtain ⟨a,cap,_,hv,_⟩:=h; exact ⟨a,cap,hv⟩
 obtain ⟨a,cap,rfl⟩:=hsh
 have hb1:Below w.heap.size w (w.alloc (.cells #[.int .i64 p,.int .i64 c,.slice a gs.length cap] 57)):=(Below.refl _ _).alloc (Nat.le_refl _) _
 have hS:=szGuessS_any _ gs l _ (h.below hb1) h0 h1
 have hge:=szSS_ge (gs.map Gs.code) l h0
 have HB1:=hdd hb1
 unfold dkV
 obtain ⟨r,hr⟩:∃ r,r=szSS (gs.map Gs.code) l:=⟨_,rfl⟩
 rw[←hr] at hS hge ⊢
 clear h hb1 hr
 by_cases hn:r<0
 ·obtain rfl:r=-1:=by omega
  go_enter Tryz.func28,Tryz.ntmps28
  go_wp2_with fail
  refine hS.mono ?_
  rintro e w2 ⟨rfl,hb2⟩
  have HB2:=hdd (HB1.out.trans (hb2.mono HB1.out.size))
  clear hS hb2
  go_wp2
  go_ret
  exact ⟨rfl,HB2.out⟩
 ·go_enter Tryz.func28,Tryz.ntmps28
  go_wp2_with fail
  refine hS.mono ?_
  rintro e w2 ⟨rfl,hb2⟩
  have HB2:=hdd (HB1.out.trans (hb2.mono HB1.out.size))
  clear hS hb2
  go_wp2
  go_ret
  exact ⟨rfl,HB2.out⟩
theorem eqDesk_self {B C:Nat} (p c:Int) (v v':Value) (gs:List Gs) (w:World) (h:GL B w v gs) (h':GL C w v' gs):
  Calls Tryz.prog 30 #[dkV p c v,dkV p c v'] w fun e w'=>e=.returned (.bool true)∧Below w.heap.size w w':=by
 have hsh:∃ a cap,v=.slice a gs.length cap:=by obtain ⟨a,cap,_,hv,_⟩:=h; exact ⟨a,cap,hv⟩
 obtain ⟨a,cap,rfl⟩:=hsh
 have hsh:∃ a cap,v'=.slice a gs.length cap:=by obtain ⟨a,cap,_,hv,_⟩:=h'; exact ⟨a,cap,hv⟩
 obtain ⟨a',cap',rfl⟩:=hsh
 have hb1:Below w.heap.size w ((w.alloc (.cells #[.int .i64 p,.int .i64 c,.slice a gs.length cap] 30)).alloc (.cells #[.int .i64 p,.int .i64 c,.slice a' gs.length cap'] 30)):=((Below.refl _ _).alloc (Nat.le_refl _) _).alloc (by simp) _
 have hE:=eqGuessS_self _ _ gs _ (h.below hb1) (h'.below hb1)
 have HB1:=hdd hb1
 have e1:(p != p)=false:=by simp
 have e2:(c != c)=false:=by simp
 unfold dkV
 clear h h' hb1
 go_enter Tryz.func30,Tryz.ntmps30
 go_wp2_with fail
 refine hE.mono ?_
 rintro e w2 ⟨rfl,hb2⟩
 have HB2:=hdd (HB1.out.trans (hb2.mono HB1.out.size))
 clear hE hb2
 go_wp2
 go_ret
 exact ⟨rfl,HB2.out⟩
theorem heldDesk_any {B:Nat} (p c:Int) (v:Value) (gs:List Gs) (m:Int) (w:World) (h:GL B w v (markGs gs m)) (h0:0≤m) (h1:m+totG gs≤1099511627776):
  Calls Tryz.prog 32 #[dkV p c v,.int .i64 m] w fun e w'=>e=.returned (.int .i64 (endK gs m))∧Below w.heap.size w w':=by
 have hsh:∃ a n cap,v=.slice a n cap:=by obtain ⟨a,cap,_,hv,_⟩:=h; exact ⟨a,_,cap,hv⟩
 obtain ⟨a,n,cap,rfl⟩:=hsh
 have hb1:Below w.heap.size w (w.alloc (.cells #[.int .i64 p,.int .i64 c,.slice a n cap] 30)):=(Below.refl _ _).alloc (Nat.le_refl _) _
 have hE:=heldGuessS_any _ gs m _ (h.below hb1) h0 h1
 have HB1:=hdd hb1
 have hnn:¬endK gs m<0:=by rw[endK_tot]; omega
 unfold dkV
 obtain ⟨r,hr⟩:∃ r,r=endK gs m:=⟨_,rfl⟩
 rw[←hr] at hE hnn ⊢
 clear h hb1 hr
 go_enter Tryz.func32,Tryz.ntmps32
 go_wp2_with fail
 refine hE.mono ?_
 rintro e w2 ⟨rfl,rfl⟩
 clear hE
 go_wp2
 go_ret
 exact ⟨rfl,HB1.out⟩
theorem markDesk_any {B C:Nat} (p c:Int) (v:Value) (gs:List Gs) (m:Int) (w:World) (h:OwnG B w v gs) (hlow:LowG C w v gs.length) (hBw:B≤w.heap.size) (h0:0≤m) (h1:m+totG gs≤1099511627776):
  Calls Tryz.prog 31 #[dkV p c v,.int .i64 m] w (MarkedG B C v gs m w):=by
 obtain ⟨a,cap,rfl,_⟩:=h.shape
 have hb1:Below w.heap.size w (w.alloc (.cells #[.int .i64 p,.int .i64 c,.slice a gs.length cap] 30)):=(Below.refl _ _).alloc (Nat.le_refl _) _
 have hlow1:LowG C (w.alloc (.cells #[.int .i64 p,.int .i64 c,.slice a gs.length cap] 30)) (.slice a gs.length cap) gs.length:=by
  intro g m cap' e hp
  obtain ⟨q1,q2⟩:=hlow g m cap' e hp
  refine ⟨q1,fun i z j hi hz hj=>?_⟩
  obtain ⟨g',cap9,e9,_,_,_,_,_,hat⟩:=h.opened hp
  rw[e] at e9
  injection e9 with e9 _ _
  injection e9 with e9
  injection e9 with e9 _
  subst e9
  obtain ⟨u,u1,u2,_⟩:=hat i hi
  have:=(Above.of_below (B:=0) hb1).cell (Nat.zero_le _) u1
  rw[hz] at this
  obtain rfl:=Option.some.inj this
  exact q2 i _ j hi u1 hj
 have hM:=markGuessS_any _ gs m _ (h.below hb1) hlow1 (by simp; omega) h0 h1
 have HB1:=hdd hb1
 have HBW:=hdd hBw
 unfold dkV
 clear h hb1 hlow1 hlow hBw
 go_enter Tryz.func31,Tryz.ntmps31
 go_wp2_with fail
 refine hM.mono ?_
 rintro e w2 ⟨rfl,ho2,hb2,hf2⟩
 have HO2:=hdd ho2
 have HB2:=hdd ((HB1.out.mono HBW.out).trans hb2)
 have HF2:=hdd (show ∀ b,C≤b→b<w.heap.size→w2.heap[b]?=w.heap[b]? from fun b q1 q2=>by rw[hf2 b q1 (by simp; omega)]; exact HB1.out.block b q2)
 clear hM ho2 hb2 hf2
 go_wp2
 go_ret
 exact ⟨rfl,HO2.out,HB2.out,HF2.out⟩
end Go.Proofs.YtenlngclocfnlaaGreatDoor
namespace Go.Proofs.YtenlngclocfnlaaGreatDoor
open Go.RowKit
set_option linter.unusedVariables false
set_option maxRecDepth 100000
def DeskOut (p c:Int) (gs:List Gs) (w:World) (e:Ending) (w':World):Prop:=
 ∃ a cap,e=.returned (dkV p c (.slice a gs.length cap))∧OwnG w.heap.size w' (.slice a gs.length cap) gs∧Below w.heap.size w w'
set_option maxHeartbeats 1000000 in
theorem toDesk_any {B:Nat} (p c:Int) (v:Value) (gs:List Gs) (w:World) (h:GL B w v gs) (hl:gs.length≤2000000) (hc:∀ g∈gs,g.code.length≤1099511627776):
  Calls Tryz.prog 29 #[dkV p c v] w (DeskOut p c gs w):=by
 have hsh:∃ a cap,v=.slice a gs.length cap:=by obtain ⟨a,cap,_,hv,_⟩:=h; exact ⟨a,cap,hv⟩
 obtain ⟨a,cap,rfl⟩:=hsh
 obtain ⟨w1,hw1⟩:∃ w1,w1=((w.alloc (.cells #[.int .i64 p,.int .i64 c,.slice a gs.length cap] 57)).alloc (.cells #[.int .i64 0,.int .i64 0,.slice none 0 0] 30)).alloc (.cells #[.int .i64 p,.int .i64 c,.slice none 0 0] 30):=⟨_,rfl⟩
 have hb1:Below w.heap.size w w1:=by rw[hw1]; exact (((Below.refl _ _).alloc (Nat.le_refl _) _).alloc (by simp) _).alloc (by simp; omega) _
 have hs1:w1.heap.size=w.heap.size+3:=by rw[hw1]; simp
 have hT:=toGuessS_any _ gs w1 (h.below hb1) hl hc
 rw[hw1] at hT
 have HB1:=hdd hb1
 have HW1:=hdd hw1
 have HS1:=hdd hs1
 unfold dkV
 clear h hb1 hs1 hw1 hl hc
 go_enter Tryz.func29,Tryz.ntmps29
 go_wp2_with fail
 refine hT.mono ?_
 rintro e w2 ⟨a2,c2,rfl,ho2,hb2⟩
 rw[←HW1.out] at ho2 hb2
 have hg1:w2.heap[w.heap.size+1]?=some (.cells #[.int .i64 0,.int .i64 0,.slice none 0 0] 30 (0,0)):=by
  rw[hb2.block _ (by have:=HS1.out; omega),HW1.out,haoM _ _ (by simp; try omega)]; have q:=@Go.heap_alloc_new (w.alloc (.cells #[.int .i64 p,.int .i64 c,.slice a gs.length cap] 57)) (.cells #[.int .i64 0,.int .i64 0,.slice none 0 0] 30); rw[World.size_alloc] at q; exact q
 have hg2:w2.heap[w.heap.size+2]?=some (.cells #[.int .i64 p,.int .i64 c,.slice none 0 0] 30 (0,0)):=by
  rw[hb2.block _ (by have:=HS1.out; omega),HW1.out]; have q:=@Go.heap_alloc_new ((w.alloc (.cells #[.int .i64 p,.int .i64 c,.slice a gs.length cap] 57)).alloc (.cells #[.int .i64 0,.int .i64 0,.slice none 0 0] 30)) (.cells #[.int .i64 p,.int .i64 c,.slice none 0 0] 30); rw[World.size_alloc,World.size_alloc] at q; exact q
 have d0:=cell_of_row _ _ 0 _ _ (0,0) hg1
 have d1:=cell_of_row _ _ 1 _ _ (0,0) hg1
 have d2:=cell_of_row _ _ 2 _ _ (0,0) hg1
 have e0:=cell_of_row _ _ 0 _ _ (0,0) hg2
 have e1:=cell_of_row _ _ 1 _ _ (0,0) hg2
 have e2:=cell_of_row _ _ 2 _ _ (0,0) hg2
 have k1:∀ j,w2.frozen? ⟨w.heap.size+1,j,none⟩=false:=fun j=>frozen_of_row _ _ j _ _ hg1
 have k2:∀ j,w2.frozen? ⟨w.heap.size+2,j,none⟩=false:=fun j=>frozen_of_row _ _ j _ _ hg2
 simp at d0 d1 d2 e0 e1 e2
 clear hT
 go_wp2
 have HO2:=hdd ho2
 have HB2:=hdd (HB1.out.trans (hb2.mono HB1.out.size))
 have hs1:=HS1.out
 have q3:(w2.setCell ⟨w.heap.size+1+1,2,none⟩ (.slice a2 gs.length c2)).heap[w.heap.size+1]?=some (.cells #[.int .i64 0,.int .i64 0,.slice none 0 0] 30 (0,0)):=by
  rw[heap_setCell_other _ _ _ _ (by simp)]; exact hg1
 have q6:=heap_setCell_same _ _ 2 _ _ (.slice a2 gs.length c2) (heap_setCell_same _ _ 1 _ _ (.int .i64 c) (heap_setCell_same _ _ 0 _ _ (.int .i64 p) q3))
 ((try simp only[Exit.inBlock,Exit.then]); refine bodyPost_ret (results_cell_row rfl _ _ (w.heap.size+1) _ _ (0,0) _ rfl q6 Tryz.underlying30 rfl (by kernel_rfl)) rfl ?_)
 refine ⟨a2,c2,rfl,(HO2.out.keep (fun b hb hlt=>?_)).mono (by omega),?_⟩
 ·rw[heap_setCell_other _ _ _ _ (by simp; omega),heap_setCell_other _ _ _ _ (by simp; omega),heap_setCell_other _ _ _ _ (by simp; omega),heap_setCell_other _ _ _ _ (by simp; omega)]
 ·exact (((HB2.out.setCell (p:=⟨w.heap.size+1+1,2,none⟩) (by simp; omega) _).setCell (p:=⟨w.heap.size+1,0,none⟩) (by simp) _).setCell (p:=⟨w.heap.size+1,1,none⟩) (by simp) _).setCell (p:=⟨w.heap.size+1,2,none⟩) (by simp) _
end Go.Proofs.YtenlngclocfnlaaGreatDoor
namespace Go.Proofs.YtenlngclocfnlaaGreatDoor
open Go.RowKit
set_option linter.unusedVariables false
set_option maxRecDepth 100000
theorem own_other {B D:Nat} {w:World} {e t:TypeId} {size n:Nat} {v:Value} {xs:List Value} {cs:Array Value} {fr:Nat×Nat} (h:w.ownsRow B e size v n xs) (hD:w.heap[D]?=some (.cells cs t fr)) (hne:e≠t):v.ownBlock=none∨v.ownBlock≠some D:=by
 rcases h.2 with ⟨rfl,_⟩ | ⟨g,cap,cur,rfl,_,hg,_⟩
 ·exact .inl rfl
 ·refine .inr fun e1=>?_
  have e2:g=D:=by simpa [Value.ownBlock] using e1
  subst e2
  rw[hD] at hg
  injection hg with hg
  injection hg with _ hg _
  exact hne hg.symm
theorem OwnG.other {B D j:Nat} {w:World} {v z:Value} {gs:List Gs} {cs:Array Value} {fr:Nat×Nat} (h:OwnG B w v gs) (hD:w.heap[D]?=some (.cells cs 30 fr)):OwnG B (w.setCell ⟨D,j,none⟩ z) v gs:=by
 obtain ⟨ts,h1,h2,h3,h4⟩:=h
 have hs:=grownBy_setCell w ⟨D,j,none⟩ z
 exact ⟨ts,World.ownsRow.kept h1 hs (own_other h1 hD (by decide)),h2,fun i hi hi'=>⟨World.ownsRow.kept (h3 i hi hi').1 hs (own_other (h3 i hi hi').1 hD (by decide)),(h3 i hi hi').2⟩,h4⟩
end Go.Proofs.YtenlngclocfnlaaGreatDoor
namespace Go.Proofs.YtenlngclocfnlaaGreatDoor
open Go.RowKit
set_option linter.unusedVariables false
set_option maxRecDepth 100000
theorem OwnI.litOne (w:World) (y:Int):OwnI w.heap.size (w.alloc (.cells #[.int .i64 y] 3)) (.slice (some ⟨w.heap.size,0,none⟩) 1 1) [y]:=
 World.ownsRow_lit w #[.int .i64 y] 1 (Nat.le_refl _) (by simp[maxLen]) rfl
theorem small_in2 {x:Int} (h:0≤x∧x≤10):In64 x:=by unfold In64; omega
theorem fresh_at {xs:List Int} {w w1:World} {e:Ending} {w':World} (h:FreshI xs w1 e w') (hb:Below w.heap.size w w1):FreshI xs w e w':=by
 obtain ⟨a,c,h1,h2,h3⟩:=h
 exact ⟨a,c,h1,h2.mono hb.size,hb.trans (h3.mono hb.size)⟩
set_option maxHeartbeats 8000000 in
theorem afterNoS_any {B:Nat} (v u:Value) (row x:List Int) (w:World) (h:Ints B w v row) (hu:Ints B w u x) (hok:askOk row x) (hk:knownB row=true):
  Calls Tryz.prog 180 #[v,u] w (FreshI (confL row (othL row x)) w):=by
 have hsm:=known_small hk
 have hl3:=hsm.1.2
 have hxl:=askOk_len hok
 have HYES:=hdd (fun W z (hb:Below w.heap.size w W) (hz:Ints 0 W z (othL row x))=>afterYesS_any v z row (othL row x) W ((h.below hb).mono (Nat.zero_le _)) hz (oth_ok hok) hk)
 have HSP:=hdd (fun W (hb:Below w.heap.size w W)=>splitS_any v u row x W (h.below hb) (hu.below hb) hok hk)
 obtain ⟨a,cap,rfl,_,_,hcells⟩:=h.opened
 obtain ⟨a2,cap2,rfl,_,_,hcells2⟩:=hu.opened
 rw[hxl] at HSP ⊢
 have hw0:Below w.heap.size w (w.alloc (.cells #[] 3)):=(Below.refl _ _).alloc (Nat.le_refl _) _
 have HW0:=hdd hw0
 have HLIT:=hdd (OwnI.lit w)
 have HCE:=hdd hcells
 have HCE2:=hdd hcells2
 have HG:=hdd (oth_get hok)
 have HOM:=hdd (ask_small hsm (oth_ok hok)).2
 have HXM:=hdd (ask_small hsm hok).2
 have HRM:=hdd hsm.2
 have HXL:=hdd hxl
 have HCL:=hdd (oth_len hok)
 obtain ⟨C,hC⟩:∃ C,C=othL row x:=⟨_,rfl⟩
 rw[←hC] at HG HCL HYES HOM ⊢
 clear h hu hcells hcells2 hxl hok hk hsm hw0 hC
 go_enter Tryz.func180,Tryz.ntmps180
 go_wp2
 go_loopw [5,6] (fun s i wi=>∃ (k:Nat) (ao:Option Addr) (co:Nat),k≤row.length∧i=.int .i64 k∧s=.slice ao k co∧OwnI w.heap.size wi (.slice ao k co) (C.take k)∧Below w.heap.size w wi) (fun _ i _=>row.length-(intOf i).toNat)
 case atStart=>exact ⟨0,_,0,by omega,rfl,rfl,by simpa using HLIT.out,HW0.out⟩
 case round=>
  obtain ⟨k,ao,co,hk,rfl,rfl,ho,hb⟩:=hrel
  obtain ⟨wk,rfl⟩:∃ z,z=wr:=⟨_,rfl⟩
  have HB:=hdd hb
  have HO:=hdd ho
  by_cases hlt:k<row.length
  ·have hk0:(0:Int)≤(k:Int):=by omega
   have hk1:(k:Int)<(row.length:Int):=by omega
   have hk5:(k:Int)≤5:=by omega
   have hT:=HSP.out wk hb
   clear ho hb
   go_wp2_with fail
   refine hT.mono ?_
   rintro e w1 ⟨rfl,hb1⟩
   clear hT
   have hB1:=HB.out.trans (hb1.mono HB.out.size)
   have HB1:=hdd hB1
   have HO1:=hdd (HO.out.below hb1)
   have hxlt:k<x.length:=by rw[HXL.out]; exact hlt
   have hclt:k<C.length:=by rw[HCL.out]; exact hlt
   obtain ⟨b,off,rfl,_,hc⟩:=HCE.out (by omega)
   obtain ⟨b2,off2,rfl,_,hc2⟩:=HCE2.out (by omega)
   have hck:=(Above.of_below (B:=0) hB1).cell (Nat.zero_le _) (hc k hlt)
   have hck2:=(Above.of_below (B:=0) hB1).cell (Nat.zero_le _) (hc2 k hxlt)
   have hg:=HG.out k hclt
   rw[getD_is hlt,getD_is hxlt] at hg
   have hry:=HRM.out row[k] (List.getElem_mem hlt)
   have hqy:=HXM.out x[k] (List.getElem_mem hxlt)
   have hTT:=(show C.take (k+1)=C.take k++[C[k]] from List.take_succ_eq_append_getElem hclt)
   obtain ⟨cv,hcv⟩:∃ c,c=C[k]:=⟨_,rfl⟩
   rw[←hcv] at hTT hg
   have HT:=hdd hTT
   obtain ⟨r,hrr⟩:∃ z,z=row[k]:=⟨_,rfl⟩
   rw[←hrr] at hck hry hg
   obtain ⟨p,hpp⟩:∃ z,z=x[k]:=⟨_,rfl⟩
   rw[←hpp] at hck2 hqy hg
   have HG2:=hdd hg
   have HL:=hdd (show (C.take k).length=k by simp; omega)
   obtain ⟨r0,r1⟩:=hry
   obtain ⟨p0,p1⟩:=hqy
   have hwr:IntKind.i64.wrap (r-p)=r-p:=IntWalk.i64_in _ (by omega)
   have HLO:=hdd (show Ints 0 (w1.alloc (.cells #[.int .i64 (r-p)] 3)) (.slice (some ⟨w1.heap.size,0,none⟩) 1 1) [r-p] from ((OwnI.litOne w1 (r-p)).toInts (by intro z hz; simp at hz; subst hz; unfold In64; omega)).mono (Nat.zero_le _))
   clear hcv hTT hb1 hB1 hc hc2 hg hrr hpp hxlt hclt
   go_wp2
   go_region_law (refine step_push_any _ (by rfl) (.tmp 19) (.tmp 29) (by rfl) (.slice ao k co) (C.take k) (by rfl) (show OwnI w.heap.size (w1.alloc (.cells #[.int .i64 (r-p)] 3)).drew (.slice ao k co) (C.take k) from (show OwnI w.heap.size (w1.alloc (.cells #[.int .i64 (r-p)] 3)) (.slice ao k co) (C.take k) from World.ownsRow.alloc HO1.out _)) (.slice (some ⟨w1.heap.size,0,none⟩) 1 1) [r-p] (by rfl) (show Ints 0 (w1.alloc (.cells #[.int .i64 (r-p)] 3)).drew (.slice (some ⟨w1.heap.size,0,none⟩) 1 1) [r-p] from HLO.out) (by rw[HL.out]; simp; omega) (by have:=HB1.out.size; simp; omega) ?_; intro a7 c7 w7 ho7 hg7; rw[HL.out] at ho7 ⊢; have HB7:=hdd (((HB1.out.alloc HB1.out.size (.cells #[.int .i64 (r-p)] 3)).drew).grown hg7 (by have:=HB1.out.size; simp; omega) (fun j hj=>(World.ownsRow.lt HO1.out j hj).1)); have HO7:=hdd (show OwnI w.heap.size w7 (.slice a7 (k+1) c7) (C.take (k+1)) by rw[HT.out,HG2.out]; exact ho7); clear ho7 hg7)
   all_goals go_wp2
   all_goals go_roundw
   all_goals first | exact ⟨k+1,a7,c7,by omega,by go_num,rfl,HO7.out,HB7.out⟩ | (simp[intOf]; omega)
  ·have hkl:k=C.length:=by rw[HCL.out]; omega
   have hT:=HYES.out wk (.slice ao k co) hb (by
    have e:OwnI w.heap.size wk (.slice ao k co) C:=by
     rw[hkl,List.take_length] at ho; rw[hkl]; exact ho
    exact (e.toInts fun y hy=>small_in2 (HOM.out y hy)).mono (Nat.zero_le _))
   have HT:=hdd hT
   have hk1:¬((k:Int)<(row.length:Int)):=by omega
   clear ho hb hkl hT
   go_wp2_with fail
   refine HT.out.mono ?_
   rintro e w2 hf
   obtain ⟨a3,c3,rfl,ho3,hb3⟩:=fresh_at hf HB.out
   have HO3:=hdd ho3
   have HB3:=hdd hb3
   clear ho3 hb3 hf
   go_wp2
   go_ret
   exact ⟨a3,c3,rfl,HO3.out,HB3.out⟩
end Go.Proofs.YtenlngclocfnlaaGreatDoor
namespace Go.Proofs.YtenlngclocfnlaaGreatDoor
open Go.RowKit
set_option linter.unusedVariables false
set_option maxRecDepth 100000
theorem foundS_any (w:World):Calls Tryz.prog 134 #[] w fun e w'=>∃ g,e=.returned (.slice (some ⟨g,0,none⟩) 13310 13310)∧OwnI w.heap.size w' (.slice (some ⟨g,0,none⟩) 13310 13310) (List.replicate 13310 0)∧Below w.heap.size w w':=by
 obtain ⟨N,hN⟩:∃ N:Nat,N=13310:=⟨_,rfl⟩
 have HN:=hdd hN
 obtain ⟨zs,hz⟩:∃ zs,zs=List.replicate 13310 (0:Int):=⟨_,rfl⟩
 have HZ:=hdd hz
 rw[←hz]
 clear hN hz
 go_enter Tryz.func134,Tryz.ntmps134
 go_wp2_with (at_make; refine wpList_make_ints _ rfl _ _ rfl _ _ 13310 rfl rfl rfl rfl (by omega) ?_; intro w3 hr3 hb3 hs3)
 have HO:=hdd (show OwnI w.heap.size w3 (.slice (some ⟨w.heap.size,0,none⟩) 13310 13310) zs by rw[HZ.out]; exact hr3)
 have HB:=hdd hb3
 clear hr3 hb3 hs3
 go_wp2
 go_ret
 exact ⟨_,rfl,HO.out,HB.out⟩
end Go.Proofs.YtenlngclocfnlaaGreatDoor
namespace Go.Proofs.YtenlngclocfnlaaGreatDoor
open Go.RowKit
set_option linter.unusedVariables false
set_option maxRecDepth 100000
theorem wpList_push_u {B C:Nat} (w:World) {ops:Array Oper} {rest:List Oper} {o:Oper} {a:Act} {Q:Exit→Act→World→Prop}
  (hg:o.guard=none) (s x:Operand) (hop:o.op=Op.call { callee:=Callee.builtin Builtin.append,args:=#[s,x],argTypes:=#[37,37] })
  (v:Value) (xs:List Int) (hs:a.eval s=v) (hown:OwnI B w v xs) (u:Value) (ys:List Int) (hx:a.eval x=u) (hu:Ints C w u ys)
  (hlen:xs.length+ys.length≤1099511627776) (hB:B≤w.heap.size)
  (h:∀ a' cap' w',OwnI B w' (.slice a' (xs.length+ys.length) cap') (xs++ys)→w.grownBy w' v.ownBlock→wpList Tryz.prog ops Q rest (a.put o.dst (.slice a' (xs.length+ys.length) cap')) w'):
  wpList Tryz.prog ops Q (o::rest) a w:=by
 refine wpList_plain hg fun K hK=>?_
 obtain ⟨a',cap',w',hrun,h1,h2⟩:=run_push_any w o.type v xs hown u ys hu hlen hB
 unfold Oper.wp
 simp[execOp,hop,resolve,invoke,builtin,hs,hx,hrun,Result.andThen]
 exact hK _ _ (h a' cap' w' h1 h2)
def qsTo (row:List Int):Nat→List (List Int)
 | 0=>[[]]
 | k+1=>(qsTo row k).flatMap fun p=>(List.range (row.getD k 0+1).toNat).map fun (q:Nat)=>p++[(q:Int)]
def qsMid (row:List Int) (k n q:Nat):List (List Int):=((qsTo row k).take n).flatMap (fun p=>(List.range (row.getD k 0+1).toNat).map fun (q:Nat)=>p++[(q:Int)])++(List.range q).map fun (j:Nat)=>(qsTo row k).getD n []++[(j:Int)]
theorem qsMid_next (row:List Int) (k n q:Nat):qsMid row k n (q+1)=qsMid row k n q++[(qsTo row k).getD n []++[(q:Int)]]:=by
 simp[qsMid,List.range_succ]
theorem qsMid_row {row:List Int} {k n:Nat} (hn:n<(qsTo row k).length):qsMid row k n (row.getD k 0+1).toNat=qsMid row k (n+1) 0:=by
 simp only[qsMid,List.range_zero,List.map_nil,List.append_nil]
 rw[List.take_succ_eq_append_getElem hn,List.flatMap_append]
 simp[List.getD,List.getElem?_eq_getElem hn]
theorem qsMid_end (row:List Int) (k:Nat):qsMid row k (qsTo row k).length 0=qsTo row (k+1):=by
 simp[qsMid,qsTo]
theorem qsTo_mem (row:List Int):∀ k,k≤row.length→∀ p,p∈qsTo row k↔askOk (row.take k) p:=by
 intro k
 induction k with
 | zero=>
  intro _ p
  cases p <;> simp[qsTo,askOk]
 | succ k ih=>
  intro hk p
  have key:∀ (r:List Int) (a:Int) (p:List Int),askOk (r++[a]) p↔∃ p' x,p=p'++[x]∧askOk r p'∧0≤x∧x≤a:=by
   intro r
   induction r with
   | nil=>
    intro a p
    constructor
    ·intro h
     cases p with
     | nil=>simp[askOk] at h
     | cons y q=>cases q with
      | nil=>exact ⟨[],y,rfl,trivial,h.1,h.2.1⟩
      | cons z q=>simp[askOk] at h
    ·rintro ⟨p',x,rfl,h1,h2,h3⟩
     cases p' with
     | nil=>exact ⟨h2,h3,trivial⟩
     | cons z q=>simp[askOk] at h1
   | cons b r ihr=>
    intro a p
    constructor
    ·intro h
     cases p with
     | nil=>simp[askOk] at h
     | cons y q=>
      obtain ⟨p',x,rfl,h4,h5⟩:=(ihr a q).1 h.2.2
      exact ⟨y::p',x,rfl,⟨h.1,h.2.1,h4⟩,h5⟩
    ·rintro ⟨p',x,rfl,h1,h2⟩
     cases p' with
     | nil=>simp[askOk] at h1
     | cons y q=>exact ⟨h1.1,h1.2.1,(ihr a _).2 ⟨q,x,rfl,h1.2.2,h2⟩⟩
  have hk':k<row.length:=by omega
  rw[List.take_succ_eq_append_getElem hk',key]
  have e:row.getD k 0=row[k]:=by simp[List.getD,List.getElem?_eq_getElem hk']
  simp only[qsTo,List.mem_flatMap,List.mem_map,List.mem_range,e]
  constructor
  ·rintro ⟨p',h1,q,h2,rfl⟩
   exact ⟨p',q,rfl,(ih (by omega) p').1 h1,by omega,by omega⟩
  ·rintro ⟨p',x,rfl,h1,h2,h3⟩
   exact ⟨p',(ih (by omega) p').2 h1,x.toNat,by omega,by rw[Int.toNat_of_nonneg h2]⟩
theorem qsTo_len {row:List Int} (h:smallR row):∀ k,k≤3→(qsTo row k).length≤11^k:=by
 intro k
 induction k with
 | zero=>simp[qsTo]
 | succ k ih=>
  intro hk
  have h1:=ih (by omega)
  have hx:row.getD k 0≤10:=by
   by_cases hj:k<row.length
   ·rw[show row.getD k 0=row[k] by simp[List.getD,List.getElem?_eq_getElem hj]]
    exact (h.2 _ (List.getElem_mem hj)).2
   ·rw[show row.getD k 0=0 by simp[List.getD,List.getElem?_eq_none (by omega:row.length≤k)]]; omega
  have key:∀ (l:List (List Int)),(l.flatMap fun p=>(List.range (row.getD k 0+1).toNat).map fun (q:Nat)=>p++[(q:Int)]).length≤11*l.length:=by
   intro l
   induction l with
   | nil=>simp
   | cons a l ihl=>
    rw[List.flatMap_cons,List.length_append,List.length_map,List.length_range,List.length_cons]
    omega
  have h2:=key (qsTo row k)
  rw[Nat.pow_succ]
  simp only[qsTo]
  omega
theorem ask_small2 {row:List Int} (h:smallR row) {k:Nat} (hk:k≤row.length) {p:List Int} (hok:askOk (row.take k) p):∀ y∈p,0≤y∧y≤10:=fun y hy=>by
 obtain ⟨j,hj,rfl⟩:=List.getElem_of_mem hy
 have hl:=askOk_len hok
 have h1:=askOk_get hok j (by omega) hj
 have hjr:j<row.length:=by simp at hl; omega
 have h2:=h.2 row[j] (List.getElem_mem hjr)
 rw[List.getElem_take] at h1
 omega
theorem qsMid_len (row:List Int) (k n q:Nat) (hQ:(qsTo row k).length≤1331) (hn:n≤(qsTo row k).length) (hq:q≤11) (h:smallR row):(qsMid row k n q).length≤20000:=by
 have hx:row.getD k 0≤10:=by
  by_cases hj:k<row.length
  ·rw[getD_is hj]; exact (h.2 _ (List.getElem_mem hj)).2
  ·rw[show row.getD k 0=0 by simp[List.getD,List.getElem?_eq_none (by omega:row.length≤k)]]; omega
 have key:∀ (l:List (List Int)),(l.flatMap fun p=>(List.range (row.getD k 0+1).toNat).map fun (q:Nat)=>p++[(q:Int)]).length≤11*l.length:=by
  intro l
  induction l with
  | nil=>simp
  | cons a l ihl=>
   rw[List.flatMap_cons,List.length_append,List.length_map,List.length_range,List.length_cons]
   omega
 have h2:=key ((qsTo row k).take n)
 have h3:((qsTo row k).take n).length≤1331:=by simp; omega
 unfold qsMid
 rw[List.length_append,List.length_map,List.length_range]
 omega
theorem OwnII.oneEmpty (w:World):OwnII w.heap.size ((w.alloc (.cells #[] 3)).alloc (.cells #[.slice (some ⟨w.heap.size,0,none⟩) 0 0] 37)) (.slice (some ⟨w.heap.size+1,0,none⟩) 1 1) [[]]:=by
 have h1:OwnI w.heap.size ((w.alloc (.cells #[] 3)).alloc (.cells #[.slice (some ⟨w.heap.size,0,none⟩) 0 0] 37)) (.slice (some ⟨w.heap.size,0,none⟩) 0 0) []:=World.ownsRow.alloc (OwnI.lit w) _
 have h2:=World.ownsRow_lit (w.alloc (.cells #[] 3)) (e:=37) #[.slice (some ⟨w.heap.size,0,none⟩) 0 0] 1 (show w.heap.size≤(w.alloc (.cells #[] 3)).heap.size by simp) (by simp[maxLen]) (show (#[Value.slice (some ⟨w.heap.size,0,none⟩) 0 0]:Array Value).size=1*1 from rfl)
 rw[show (w.alloc (.cells #[] 3)).heap.size=w.heap.size+1 by simp] at h2
 refine ⟨[.slice (some ⟨w.heap.size,0,none⟩) 0 0],h2,rfl,fun i hi hi'=>?_,fun i j hi hj hij=>?_⟩
 ·have:i=0:=by simpa using hi
  subst this
  exact h1
 ·simp at hi hj; omega
set_option maxHeartbeats 8000000 in
theorem questionsS_any {B:Nat} (v:Value) (row:List Int) (w:World) (h:Ints B w v row) (hs:smallR row):
  Calls Tryz.prog 178 #[v] w (FreshII (qsTo row row.length) w):=by
 obtain ⟨a,cap,rfl,_,_,hcells⟩:=h.opened
 have HONE:=hdd (OwnII.oneEmpty w)
 have HB0:=hdd (show Below w.heap.size w ((w.alloc (.cells #[] 3)).alloc (.cells #[.slice (some ⟨w.heap.size,0,none⟩) 0 0] 37)) from ((Below.refl _ _).alloc (Nat.le_refl _) _).alloc (by simp) _)
 have HCE:=hdd hcells
 have HRM:=hdd hs.2
 have hl3:=hs.1.2
 have HLEN:=hdd (fun k (hk:k≤3)=>qsTo_len hs k hk)
 have HSM:=hdd hs
 clear h hcells hs
 unfold FreshII
 go_enter Tryz.func178,Tryz.ntmps178
 go_wp2
 go_loopw [3,4] (fun s i wi=>∃ (k:Nat) (ao:Option Addr) (co:Nat),k≤row.length∧i=.int .i64 k∧s=.slice ao (qsTo row k).length co∧OwnII w.heap.size wi (.slice ao (qsTo row k).length co) (qsTo row k)∧Below w.heap.size w wi) (fun _ i _=>row.length-(intOf i).toNat)
 case atStart=>exact ⟨0,_,1,by omega,rfl,rfl,HONE.out,HB0.out⟩
 case round=>
  obtain ⟨k,ao,co,hk,rfl,rfl,ho,hb⟩:=hrel
  obtain ⟨wk,rfl⟩:∃ z,z=wr:=⟨_,rfl⟩
  have HB:=hdd hb
  have HO:=hdd ho
  have hQL:=HLEN.out k (by omega)
  have hQ4:(qsTo row k).length≤1331:=Nat.le_trans hQL (Nat.pow_le_pow_right (by omega) (by omega:k≤3))
  by_cases hlt:k<row.length
  ·obtain ⟨b,off,rfl,_,hc⟩:=HCE.out (by omega)
   have HCK:=hdd (fun W (h:Below w.heap.size w W)=>(Above.of_below (B:=0) h).cell (Nat.zero_le _) (hc k hlt))
   have hx:=HRM.out row[k] (List.getElem_mem hlt)
   have hD:row.getD k 0=row[k]:=getD_is hlt
   have HMN:=hdd (fun n q=>qsMid_next row k n q)
   have HMR:=hdd (fun n (hn:n<(qsTo row k).length)=>qsMid_row (row:=row) hn)
   have HME:=hdd (qsMid_end row k)
   have HL1:=hdd (HLEN.out (k+1) (by omega))
   rw[hD] at HMR
   obtain ⟨x,hxx⟩:∃ z,z=row[k]:=⟨_,rfl⟩
   rw[←hxx] at hx HCK HMR
   obtain ⟨Q,hQ⟩:∃ Q,Q=qsTo row k:=⟨_,rfl⟩
   rw[←hQ] at HMN HMR HME HO hQ4 ⊢
   obtain ⟨Q1,hQ1⟩:∃ Q,Q=qsTo row (k+1):=⟨_,rfl⟩
   rw[←hQ1] at HME HL1
   have HQ1E:=hdd (hQ1.symm)
   have HQM:=hdd (show ∀ p∈Q,∀ y∈p,In64 y from fun p hp y hy=>by
    rw[hQ] at hp
    have hok:=(qsTo_mem row k (by omega) p).1 hp
    have:=ask_small2 HSM.out (by omega) hok y hy
    exact small_in2 this)
   have HQP:=hdd (show ∀ p∈Q,p.length≤3 from fun p hp=>by
    rw[hQ] at hp
    have:=askOk_len ((qsTo_mem row k (by omega) p).1 hp)
    simp at this; omega)
   obtain ⟨M,hM⟩:∃ M:Nat→Nat→List (List Int),M=qsMid row k:=⟨_,rfl⟩
   have HM0:=hdd (show M 0 0=[] by rw[hM]; simp[qsMid])
   have HML:=hdd (show ∀ n q,n≤Q.length→q≤11→(M n q).length≤20000 from fun n q h1 h2=>by
    rw[hM]
    rw[hQ] at h1
    exact qsMid_len row k n q (by rw[←hQ]; exact hQ4) h1 h2 HSM.out)
   rw[←hM] at HMN HMR HME
   obtain ⟨x0,x1⟩:=hx
   have hk0:(0:Int)≤(k:Int):=by omega
   have hk1:(k:Int)<(row.length:Int):=by omega
   have hk5:(k:Int)≤5:=by omega
   clear ho hb hc hD hxx hQ hQ1 hM hQL
   have HNX:=hdd (show OwnII wk.heap.size (wk.alloc (.cells #[] 37)) (.slice (some ⟨wk.heap.size,0,none⟩) (M 0 0).length 0) (M 0 0) by rw[HM0.out]; exact OwnII.lit wk)
   have HBK:=hdd (show Below wk.heap.size wk (wk.alloc (.cells #[] 37)) from (Below.refl _ _).alloc (Nat.le_refl _) _)
   have HM0L:=hdd (show (M 0 0).length=0 by rw[HM0.out]; rfl)
   go_wp2
   obtain ⟨wo,hwo⟩:∃ z,z=wk.alloc (.cells #[] 37):=⟨_,rfl⟩
   rw[←hwo] at HNX HBK ⊢
   clear hwo
   go_loopw [5,6] (fun s i wi=>∃ (n:Nat) (an:Option Addr) (cn:Nat),n≤Q.length∧i=.int .i64 n∧s=.slice an (M n 0).length cn∧OwnII wk.heap.size wi (.slice an (M n 0).length cn) (M n 0)∧Below wk.heap.size wk wi) (fun _ i _=>Q.length-(intOf i).toNat)
   case atStart=>exact ⟨0,_,0,by omega,rfl,by rw[HM0L.out],HNX.out,HBK.out⟩
   case round=>
    obtain ⟨n,an,cn,hn,rfl,rfl,hno,hnb⟩:=hrel
    obtain ⟨wn,rfl⟩:∃ z,z=wr:=⟨_,rfl⟩
    by_cases hnl:n<Q.length
    ·obtain ⟨ao',co',he,_,_,V,hV,hVI⟩:=(HO.out.below hnb).opened
     injection he with e1 e2 e3
     subst e1 e3
     clear e2
     obtain ⟨g,rfl,_,hcell,_⟩:=hV (by omega)
     have hcn:=hcell n hnl
     have HNI:=hdd (hVI n hnl)
     have hcg:∀ W,Below wk.heap.size wk W→W.cell? ⟨g,n,none⟩=some (V n)∧Ints 0 W (V n) Q[n]:=fun W hW=>by
      obtain ⟨a9,c9,he9,_,_,V9,hV9,hVI9⟩:=(HO.out.below hW).opened
      injection he9 with e1 e2 e3
      subst e3
      clear e2
      obtain ⟨g9,e9,_,hc9,_⟩:=hV9 (by omega)
      rw[←e1] at e9
      injection e9 with e9
      injection e9 with e9 _ _
      subst e9
      obtain ⟨a8,c8,he8,_,_,V8,hV8,hVI8⟩:=HO.out.opened
      injection he8 with f1 f2 f3
      obtain ⟨g8,e8,hg8,hc8,_⟩:=hV8 (by omega)
      rw[←f1] at e8
      injection e8 with e8
      injection e8 with e8 _ _
      subst e8
      have q8:=hc8 n hnl
      have q1:=(Above.of_below (B:=0) hW).cell (Nat.zero_le _) q8
      have q2:=(Above.of_below (B:=0) hnb).cell (Nat.zero_le _) q8
      rw[hcn] at q2
      have ev:V n=V8 n:=Option.some.inj q2
      rw[ev]
      refine ⟨q1,?_⟩
      exact (((hVI8 n hnl).below hW).toInts (fun y hy=>HQM.out _ (List.getElem_mem hnl) y hy)).mono (Nat.zero_le _)
     have HCG:=hdd hcg
     have HNO:=hdd hno
     have HNB:=hdd hnb
     have hn0:(0:Int)≤(n:Int):=by omega
     have hn1:(n:Int)<(Q.length:Int):=by omega
     have hn9:(n:Int)≤2000:=by omega
     have HMNn:=hdd (fun q=>HMN.out n q)
     have HMRn:=hdd (HMR.out n hnl)
     have hgetD:Q.getD n []=Q[n]:=by simp[List.getD,List.getElem?_eq_getElem hnl]
     have HPL:=hdd (show Q[n].length≤1000000 from by
      have hp:=List.getElem_mem hnl
      have HQ9:=HQP.out Q[n] hp
      omega)
     have HGD:=hdd hgetD
     clear hno hnb hcg hcn hgetD
     go_wp2
     go_loopw [5,7] (fun s i wi=>∃ (q:Nat) (an:Option Addr) (cn:Nat),(q:Int)≤x+1∧i=.int .i64 q∧s=.slice an (M n q).length cn∧OwnII wk.heap.size wi (.slice an (M n q).length cn) (M n q)∧Below wk.heap.size wk wi) (fun _ i _=>(x+1).toNat-(intOf i).toNat)
     case atStart=>exact ⟨0,_,_,by omega,rfl,rfl,HNO.out,HNB.out⟩
     case round=>
      obtain ⟨q,an,cn,hq,rfl,rfl,hqo,hqb⟩:=hrel
      obtain ⟨wq,rfl⟩:∃ z,z=wr:=⟨_,rfl⟩
      have hck:=HCK.out wq (HB.out.trans (hqb.mono HB.out.size))
      have HQO:=hdd hqo
      have HQB:=hdd hqb
      have hq0:(0:Int)≤(q:Int):=by omega
      by_cases hqx:(q:Int)≤x
      ·have hB1:Below wq.heap.size wq (wq.alloc (.cells #[] 3)):=(Below.refl _ _).alloc (Nat.le_refl _) _
       have hcn1:=(HCG.out _ (HQB.out.trans (hB1.mono HQB.out.size))).1
       have hv1:=(HCG.out _ (HQB.out.trans (hB1.mono HQB.out.size))).2
       have HLIT:=hdd (OwnI.lit wq)
       have hmn:=HMNn.out q
       rw[HGD.out] at hmn
       have hpl:=HPL.out
       obtain ⟨p,hp⟩:∃ p,p=Q[n]:=⟨_,rfl⟩
       rw[←hp] at hmn hv1 hpl
       obtain ⟨vn,hvn⟩:∃ v,v=V n:=⟨_,rfl⟩
       rw[←hvn] at hcn1 hv1
       have HV:=hdd hv1
       have HMQ:=hdd hmn
       have HB1:=hdd hB1
       have HMQL:=hdd (HML.out n q (by omega) (by omega))
       have HMQ1:=hdd (show (M n (q+1)).length=(M n q).length+1 by rw[hmn]; simp)
       clear hB1 hv1 hmn hp hvn hqo hqb
       go_wp2_with (first
        | (at_builtin; refine wpList_push_u _ rfl (.tmp 32) (.tmp 36) rfl (.slice (some ⟨wq.heap.size,0,none⟩) 0 0) [] rfl HLIT.out vn p rfl HV.out (by simp; omega) (by simp) ?_; intro a5 c5 w5 ho5 hg5; simp only[List.nil_append,List.length_nil,Nat.zero_add] at ho5 ⊢; have HB5:=hdd (HB1.out.grown hg5 HB1.out.size (fun j hj=>by cases hj; exact Nat.le_refl _)); have HO5:=hdd ho5; clear ho5 hg5)
        | (at_builtin; refine wpList_push_int _ rfl (.tmp 37) (.tmp 39) rfl wq.heap.size (.slice a5 p.length c5) p rfl (World.ownsRow.alloc HO5.out _) ⟨w5.heap.size,0,none⟩ 1 (q:Int) rfl (by simp) (by omega) (by have:=HB5.out.size; simp; omega) ?_; intro a6 c6 w6 ho6 hg6; have HB6:=hdd ((HB5.out.alloc HB5.out.size _).grown hg6 (by have:=HB5.out.size; simp; omega) (fun j hj=>(World.ownsRow.lt HO5.out j hj).1)); have HO6:=hdd ho6; clear ho6 hg6)
        | (at_builtin; refine wpList_push_new wq w6 rfl (.tmp 31) (.tmp 41) rfl wk.heap.size (.slice an (M n q).length cn) (M n q) rfl HQO.out HB6.out w6.heap.size rfl (.slice a6 (p.length+1) c6) (p++[(q:Int)]) rfl (by simpa using HO6.out) (by have:=HMQL.out; omega) HQB.out.size ?_; intro a7 c7 w7 ho7 hb7; have HO7:=hdd (show OwnII wk.heap.size w7 (.slice a7 (M n (q+1)).length c7) (M n (q+1)) by rw[HMQ1.out,HMQ.out]; exact ho7); have HB7:=hdd (show Below wk.heap.size wk w7 from HQB.out.trans hb7); clear ho7 hb7; rw[←HMQ1.out]))
       go_roundw
       case rel=>exact ⟨q+1,a7,c7,by omega,by go_num,rfl,HO7.out,HB7.out⟩
       case measure=>simp[intOf]; omega
      ·have hqe:q=(x+1).toNat:=by omega
       have HE:=hdd (show M n q=M (n+1) 0 by rw[hqe]; exact HMRn.out)
       have HO7:=hdd (show OwnII wk.heap.size wq (.slice an (M (n+1) 0).length cn) (M (n+1) 0) by rw[←HE.out]; exact hqo)
       have HB7:=hdd hqb
       rw[HE.out]
       clear hqo hqb hqe
       go_wp2
       go_roundw
       case rel=>exact ⟨n+1,an,cn,by omega,by go_num,rfl,HO7.out,HB7.out⟩
       case measure=>simp[intOf]; omega
    ·have hnq:n=Q.length:=by omega
     have HE:=hdd (show M n 0=Q1 by rw[hnq]; exact HME.out)
     have HO7:=hdd (show OwnII w.heap.size wn (.slice an Q1.length cn) Q1 by
      rw[HE.out] at hno
      exact hno.mono HB.out.size)
     have HB7:=hdd (HB.out.trans (hnb.mono HB.out.size))
     rw[HE.out]
     clear hno hnb hnq
     go_wp2
     go_roundw
     case rel=>exact ⟨k+1,an,cn,by omega,by go_num,by rw[HQ1E.out],by rw[HQ1E.out]; exact HO7.out,HB7.out⟩
     case measure=>simp[intOf]; omega
  ·have hkr:k=row.length:=by omega
   have HE:=hdd (show qsTo row k=qsTo row row.length by rw[hkr])
   have hk1:¬((k:Int)<(row.length:Int)):=by omega
   rw[HE.out] at HO
   have HO7:=hdd HO.out
   rw[HE.out]
   clear hkr hb ho
   go_wp2
   go_ret
   exact ⟨ao,co,rfl,HO7.out,HB.out⟩
end Go.Proofs.YtenlngclocfnlaaGreatDoor
namespace Go.Proofs.YtenlngclocfnlaaGreatDoor
open Go.RowKit
set_option linter.unusedVariables false
set_option maxRecDepth 100000
structure RowAt (g:Nat) (v:Value) (row:List Int) (W:World):Prop where
 ints:Ints 0 W v row
 ne:∀ a l c,v=.slice (some a) l c→a.block≠g
theorem RowAt.kept {g:Nat} {v:Value} {row:List Int} {W W':World} (h:RowAt g v row W) (hg:W.grownBy W' (some g)):RowAt g v row W':=by
 refine ⟨?_,h.ne⟩
 obtain ⟨⟨a,cap,h1,h2,h3,h4⟩,h0⟩:=h.ints
 refine ⟨⟨a,cap,h1,h2,h3,fun hp=>?_⟩,h0⟩
 obtain ⟨b,off,h5,hb,h6⟩:=h4 hp
 refine ⟨b,off,h5,hb,fun i hi=>?_⟩
 have hc:=h6 i hi
 have hlt:=World.block_lt_of_cell? W _ hc
 have hne:=h.ne _ _ _ (by rw[h1,h5])
 rw[World.cell?_of_block (w:=W) (hg.block b hlt (fun e=>hne (by injection e)))]
 exact hc
theorem RowAt.below {g:Nat} {v:Value} {row:List Int} {W W':World} (h:RowAt g v row W) (hb:Below W.heap.size W W'):RowAt g v row W':=⟨h.ints.below hb,h.ne⟩
theorem RowAt.fresh {g:Nat} {a:Option Addr} {l cap:Nat} {row:List Int} {W W':World} (h:OwnI W.heap.size W' (.slice a l cap) row) (hg:g<W.heap.size) (hs:∀ y∈row,0≤y∧y≤10):RowAt g (.slice a l cap) row W':=by
 refine ⟨(h.toInts fun y hy=>small_in2 (hs y hy)).mono (Nat.zero_le _),fun ad l' c' e=>?_⟩
 injection e with e1 _ _
 subst e1
 have:=(World.ownsRow.lt h ad.block rfl).1
 omega
def testW (q:Nat) (row x:List Int):Bool:=decide (2*totL x≤totL row+1)&&(winB q (confL row x)&&winB q (confL row (othL row x)))
theorem any_mem {α:Type} {l m:List α} (f:α→Bool) (h:∀ x,x∈l↔x∈m):l.any f=m.any f:=by
 rw[Bool.eq_iff_iff,List.any_eq_true,List.any_eq_true]
 exact ⟨fun ⟨x,h1,h2⟩=>⟨x,(h x).1 h1,h2⟩,fun ⟨x,h1,h2⟩=>⟨x,(h x).2 h1,h2⟩⟩
theorem winB_more (q:Nat) (row:List Int):winB (q+1) row=(decide (totL row≤1)||(decide (wgt row (q+1)≤2^(q+1))&&(qsTo row row.length).any (testW q row))):=by
 rw[any_mem (m:=asksL row) (testW q row) (fun x=>by rw[qsTo_mem row row.length (Nat.le_refl _),List.take_length,asksL_mem])]
 rfl
theorem FoundOk.upTo {n q r:Nat} {fs gs:List Int} (h:FoundOk n q gs) (hs:SameOn n q fs gs) (hf:FoundOk n r fs):FoundOk n r gs:=by
 refine ⟨h.1,h.2.1,fun p row hp hk hl=>?_⟩
 by_cases hq:p≤q
 ·exact h.2.2 p row hq hk hl
 ·have hr:=(atL_range row (p:Nat) (known_okR hk).1).1
  rw[hl] at hr
  have hpos:(0:Int)≤11^n:=Int.le_of_lt (Int.pow_pos (by omega))
  have h2:((q:Int)+1)*11^n≤(p:Int)*11^n:=Int.mul_le_mul_of_nonneg_right (by omega) hpos
  have h3:0≤((q:Int)+1)*11^n:=Int.mul_nonneg (by omega) hpos
  rw[hs _ (by omega)]
  exact hf.2.2 p row hp hk hl
theorem set_same {fs:List Int} {i:Nat} {v:Int} (hi:i<fs.length) (h:fs.getD i 0=v):fs.set i v=fs:=by
 refine List.ext_getElem (by simp) fun j h1 h2=>?_
 rw[List.getElem_set]
 split
 ·rename_i e; subst e
  rw[←h]; simp[List.getD,List.getElem?_eq_getElem hi]
 ·rfl
theorem FoundOk.left {n q:Nat} {fs gs:List Int} {row:List Int} (h:FoundOk n (q+1) fs) (hk:knownB row=true) (hl:row.length=n) (h9:q+1≤9) (hg:FoundOk n q gs)
  (hs:SameOn n q (fs.set (atL (q+1:Nat) row).toNat 2) gs) (hw:winB (q+1) row=false):FoundOk n (q+1) gs∧SameOn n (q+1) fs gs:=by
 have h1:=at_in (q:=q+1) hk h9
 have hab:=at_above (q:=q) hk hl
 have e:gs.getD (atL (q+1:Nat) row).toNat 0=2:=by
  rw[hs _ (by omega),getD_set_same (by rw[h.1]; omega)]
 have:=h.done hk hl h9 hg hs (v:=2) (.inr ⟨rfl,hw⟩)
 rwa [set_same (by rw[hg.1]; omega) e] at this
theorem FoundOk.told {n q:Nat} {fs:List Int} {row:List Int} (h:FoundOk n q fs) (hk:knownB row=true) (hl:row.length=n) (h9:q≤9) {i:Nat} (hi:(i:Int)=atL (q:Nat) row) (hlt:i<fs.length) (hm:0<fs[i]):(fs[i]==1)=winB q row:=by
 have e:fs.getD (atL (q:Nat) row).toNat 0=fs[i]:=by
  rw[←hi,Int.toNat_natCast]; exact getD_is hlt
 have h2:=h.2.2 q row (Nat.le_refl _) hk hl
 rw[e] at h2
 have h3:=h.2.1 fs[i] (List.getElem_mem hlt)
 by_cases h1:fs[i]=1
 ·rw[h2.1 h1,h1]; rfl
 ·rw[h2.2 (by omega)]; rw[beq_eq_false_iff_ne]; exact h1
theorem atL_take {row:List Int} {q:Int} {k:Nat} (h:k<row.length):atL q (row.take (k+1))=11*atL q (row.take k)+row[k]:=by
 rw[List.take_succ_eq_append_getElem h,atL_app]
def WinOut (n q g:Nat) (row fs:List Int) (W:World) (e:Ending) (W':World):Prop:=
 ∃ fs',e=.returned (.bool (winB q row))∧OwnI 0 W' (.slice (some ⟨g,0,none⟩) 13310 13310) fs'∧FoundOk n q fs'∧SameOn n q fs fs'∧W.grownBy W' (some g)
def WinC (n q:Nat):Prop:=∀ (g:Nat) (W:World) (v:Value) (row fs:List Int),RowAt g v row W→knownB row=true→row.length=n→OwnI 0 W (.slice (some ⟨g,0,none⟩) 13310 13310) fs→FoundOk n q fs →
 Calls Tryz.prog 136 #[.slice (some ⟨g,0,none⟩) 13310 13310,v,.int .i64 (q:Nat)] W (WinOut n q g row fs W)
end Go.Proofs.YtenlngclocfnlaaGreatDoor
namespace Go.Proofs.YtenlngclocfnlaaGreatDoor
open Go.RowKit Go.Shelf
set_option linter.unusedVariables false
set_option maxRecDepth 100000
end Go.Proofs.YtenlngclocfnlaaGreatDoor
namespace Go.Proofs.YtenlngclocfnlaaGreatDoor
open Go.RowKit Go.Shelf
set_option linter.unusedVariables false
set_option maxRecDepth 100000
theorem GL.in64 {B:Nat} {w:World} {v:Value} {gs:List Gs} (h:GL B w v gs):In64G gs:=by
 obtain ⟨a,cap,V,_,_,_,_,hV⟩:=h
 intro x hx y hy
 obtain ⟨i,hi,rfl⟩:=List.getElem_of_mem hx
 exact (hV i hi).2 y hy
theorem szG_bound {gs:List Gs} {l:Int} (h:0≤szSS (gs.map Gs.code) l) (hl:0≤l) (hl2:l≤1048576):gs.length≤2000000∧∀ g∈gs,g.code.length≤1099511627776:=by
 have hb:=szSS_bound h hl
 rw[List.length_map] at hb
 refine ⟨by omega,fun g hg=>?_⟩
 have:=tot_mem (List.mem_map_of_mem (f:=Gs.code) hg)
 omega
end Go.Proofs.YtenlngclocfnlaaGreatDoor
namespace Go.Proofs.YtenlngclocfnlaaGreatDoor
open Go.RowKit Go.Shelf
set_option linter.unusedVariables false
set_option maxRecDepth 100000
end Go.Proofs.YtenlngclocfnlaaGreatDoor
namespace Go.Proofs.YtenlngclocfnlaaGreatDoor
open Go.RowKit Go.Shelf
set_option linter.unusedVariables false
set_option maxRecDepth 100000
theorem totG_eq:∀ gs:List Gs,totG gs=tot (gs.map Gs.code)+2*gs.length
 | []=>rfl
 | g::gs=>by
  have:=totG_eq gs
  simp only[totG,List.map_cons,List.length_cons,tot,List.sum_cons] at this ⊢
  omega
end Go.Proofs.YtenlngclocfnlaaGreatDoor
