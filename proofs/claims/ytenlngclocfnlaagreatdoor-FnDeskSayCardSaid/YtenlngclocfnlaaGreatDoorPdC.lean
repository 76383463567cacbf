/- Texts of this claim, put together: Range. -/
import Derived.Test.YtenlngclocfnlaaGreatDoorRows
import Derived.RangeFuncNested
import Derived.RangeFuncBound
import Derived.RangeFuncCalls
import Derived.RangeFuncLeaves
import Derived.WalkKit
import Derived.OwnWalkIn
namespace Go.Proofs.YtenlngclocfnlaaGreatDoor
set_option linter.unusedVariables false
section
open Go.RowKit
def Win (a c:Nat) (W W':World):Prop:=W.heap.size≤W'.heap.size∧∀ k,a≤k→k<a+c→W'.heap[k]?=W.heap[k]?
def Bears {β:Type} (a c:Nat) (J:β→World→Prop):Prop:=
 ∀ s A B row,J s A→A.grownBy B row→(∀ r,row=some r→a≤r∧r<a+c)→J s B
theorem Bears.alloc {β:Type} {a c:Nat} {J:β→World→Prop} (h:Bears a c J) {s:β} {W:World} (o:Obj) (hs:J s W):J s (W.alloc o):=
 h s W _ none hs (World.grownBy_alloc W o none) (fun r e=>by cases e)
theorem Bears.put {β:Type} {a c:Nat} {J:β→World→Prop} (h:Bears a c J) {s:β} {W:World} {l:Nat} (o:Obj) (hs:J s W) (h1:a≤l) (h2:l<a+c):J s (W.putObj l o):=
 h s W _ (some l) hs (grownBy_putObj' W l o) (fun r e=>by cases e; exact ⟨h1,h2⟩)
theorem Bears.cell {β:Type} {a c:Nat} {J:β→World→Prop} (h:Bears a c J) {s:β} {W:World} (p:Addr) (v:Value) (hs:J s W) (h1:a≤p.block) (h2:p.block<a+c):J s (W.setCell p v):=
 h s W _ (some p.block) hs ⟨rfl,rfl,rfl,by simp[World.setCell],fun k _ hk=>Below.heap_setCell W p v k (by simpa using hk)⟩ (fun r e=>by cases e; exact ⟨h1,h2⟩)
def RowSeq (P:Program) (g:Nat) (lb:Array Value) (lo c:Nat) (enc:Nat→Value) (Info:Nat→List Int→World→Prop) (xs:List (List Int)) (w:World):Prop:=
 ∀ (n l:Nat) (J:List (List Int)→World→Prop) (W:World),Below w.heap.size w W→Bears W.heap.size c J →
  (∀ m pre x W1,(∃ rest,xs=pre++x::rest)→J pre W1→Info W.heap.size x W1 →
   YieldAt Fence.wide m P l #[enc W.heap.size] W1 fun e W'=>e=.returned (.bool true)∧J (pre++[x]) W'∧Win W.heap.size c W1 W'∧Win lo (w.heap.size-lo) W1 W') →
  J [] W→CallsIn Fence.wide n P g (#[.func (.yield l) #[] #[]]++lb) W fun e W'=>(∃ v,e=.returned v)∧J xs W'
def goesOn (K:World→Prop):Exit→Act→World→Prop
 | .normal,_,W'=>K W'
 | _,_,_=>False
theorem wpIn_rangeRows {P:Program} {n:Nat} {g:Operand} {ps:Array Tmp} {assign body:Code} {Q:Exit→Act→World→Prop} {a:Act} {w w0:World} {gf:Nat} {lb:Array Value} {lo c:Nat}
  {enc:Nat→Value} {Info:Nat→List Int→World→Prop} {xs:List (List Int)}
  (hg:a.eval g=.func (.func gf) #[] lb) (eg:∀ args w,(callFunc gf args).run P w=.ok (.enter gf args) w)
  (hseq:RowSeq P gf lb lo c enc Info xs w0) (hb0:Below w0.heap.size w0 w) (hps:ps.size=1)
  (I:List (List Int)→World→Prop) (hI:Bears w.heap.size (2+c) I) (h0:I [] w) (a₁:Act)
  (hassign:∀ (l m:Nat) (W:World) (K:Act→World→Prop),K a₁ W →
   assign.wpIn (Fence.wide.inRound l) m P (Exit.then K (fun _ _ _=>False)) { tmps:=(ps.zip #[enc (w.heap.size+2)]).foldl (fun t (p,v)=>t.setIfInBounds p v) a.tmps,defers:=[] } W)
  (hbody:∀ (l m:Nat) (pre:List (List Int)) (x:List Int) (W:World),(∃ rest,xs=pre++x::rest)→I pre W→Info (w.heap.size+2) x W →
   body.wpIn (Fence.wide.inRound l) m P (goesOn fun W'=>Win w.heap.size (2+c) W W'∧Win lo (w0.heap.size-lo) W W'∧I (pre++[x]) W') a₁ W)
  (hInfo:∀ x (W:World) l o,Info (w.heap.size+2) x W→l<w.heap.size+2→Info (w.heap.size+2) x (W.putObj l o))
  (hdone:∀ W:World,I xs W→W.heap[w.heap.size]?=some (.deferred (some []))→Q .normal { a with defers:={ target:=.collected w.heap.size,args:=#[] }::a.defers } W):
  (Code.rangeFunc g ps assign body).wpIn Fence.wide n P Q a w:=by
 obtain ⟨D,hD⟩:∃ D,D=w.heap.size:=⟨_,rfl⟩
 rw[←hD] at hI hassign hbody hInfo hdone;refine wpIn_rangeFunc ?_;intro fn hfn;rw[show Fence.wide.round=none from rfl];obtain ⟨rec,hrec⟩:∃ rec:LoopState→Option Code→Loop,rec=fun st pe=>{ state:=st,pending:=pe,fn,tmps:=a.tmps,params:=ps,assign,body,defers:=D }:=⟨_,rfl⟩
 obtain ⟨V,hV⟩:∃ V,(w.alloc (.deferred (some []))).alloc (.loop (rec .ready none))=V:=⟨_,rfl⟩
 have hVs:V.heap.size=D+2:=by rw[←hV,hD]; simp
 have hVl:V.heap[D+1]?=some (.loop (rec .ready none)):=by
  have:=World.alloc_heap_new (w.alloc (.deferred (some []))) (.loop (rec .ready none));rw[World.size_alloc,←hD] at this;rw[←hV]; exact this
 have hVd:V.heap[D]?=some (.deferred (some [])):=by
  have:=World.alloc_heap_new w (.deferred (some []));rw[←hD] at this;rw[←hV]; exact (Below.heap_alloc _ _ _ (by simp[hD])).trans this
 refine ⟨D+1,[{ target:=.collected D,args:=#[] }],V,{ target:=.fn (.func gf) lb,args:=#[.func (.yield (D+1)) #[] #[]] },V,gf,#[.func (.yield (D+1)) #[] #[]]++lb,V,?_,?_,?_,?_,fun h=>(by cases h),?_⟩
 ·rw[←hV,hrec,hD]; exact run_enterLoop_outer _ _ _ _ _
 ·simp only[resolve,hg]
  simp[go_sem]
 ·intro f' _; trivial
 ·simp[invoke,go_sem,eg]
 ·have hbV:Below w0.heap.size w0 V:=by
   rw[←hV]; exact hb0.trans ((((Below.refl _ w).alloc (Nat.le_refl _) _).alloc (by simp) _).mono hb0.size)
  refine (hseq (n-1) (D+1) (fun pre W=>I pre W∧W.heap[D+1]?=some (.loop (rec .ready none))∧W.heap[D]?=some (.deferred (some []))) V hbV ?_ ?_ ⟨?_,hVl,hVd⟩).mono ?_
  ·rintro s A B row ⟨h1,h2,h3⟩ hgr hr
   rw[hVs] at hr;have hk:∀ k,k<D+2→k<A.heap.size→B.heap[k]?=A.heap[k]?:=fun k hk hk'=>hgr.block k hk' (fun e=>by have:=hr k e.symm; omega)
   refine ⟨hI s A B row h1 hgr (fun r e=>by have:=hr r e; omega),?_,?_⟩
   ·rw[hk _ (by omega) (Array.getElem?_eq_some_iff.1 h2).1]; exact h2
   ·rw[hk _ (by omega) (Array.getElem?_eq_some_iff.1 h3).1]; exact h3
  ·rintro m pre x W hx ⟨hi,hl,hk⟩ hinf
   rw[hVs] at hinf ⊢;have hlt:=(Array.getElem?_eq_some_iff.1 hl).1;have hy:=run_yield (P:=P) (args:=#[enc (D+2)]) hl (by rw[hrec]; simp[hps]);rw[hrec] at hy;refine ⟨fn,_,assign,body,hy,roundIn_of_wpIn hfn (hassign _ m W _ ⟨_,run_beginRound hl (by rw[hrec]),?_⟩)⟩;obtain ⟨W2,hW2⟩:∃ W2,W.putObj (D+1) (.loop { rec .ready none with state:=.busy })=W2:=⟨_,rfl⟩
   rw[hW2];have hl2:W2.heap[D+1]?=some (.loop { rec .ready none with state:=.busy }):=by rw[←hW2]; exact World.putObj_heap_same hlt
   have ho2:∀ k,k≠D+1→W2.heap[k]?=W.heap[k]?:=fun k hk=>by rw[←hW2]; exact World.putObj_heap_other hk
   refine wpIn_mono (hbody _ m pre x W2 hx (by rw[←hW2]; exact hI.put _ hi (by omega) (by omega)) (by rw[←hW2]; exact hInfo _ _ _ _ hinf (by omega))) ?_;intro e a3 W3 hp
   cases e with
   | normal=>
    obtain ⟨hwin,hlow,hi3⟩:=hp;have hs0:=hb0.size;have hl3:W3.heap[D+1]?=some (.loop { rec .ready none with state:=.busy }):=(hwin.2 _ (by omega) (by omega)).trans hl2;have hd3:W3.heap[D]?=some (.deferred (some [])):=((hwin.2 _ (by omega) (by omega)).trans (ho2 _ (by omega))).trans hk;have hr:=run_endRound (P:=P) none hl3;refine ⟨_,_,hr,rfl,⟨hI.put _ hi3 (by omega) (by omega),?_,?_⟩,?_,?_⟩
    ·rw[hrec]; exact World.putObj_heap_same (Array.getElem?_eq_some_iff.1 hl3).1
    ·exact (World.putObj_heap_other (by omega)).trans hd3
    ·refine ⟨?_,fun k h1 h2=>?_⟩
     ·have h1:=hwin.1
      rw[←hW2] at h1
      simpa using h1
     ·rw[World.putObj_heap_other (by omega),hwin.2 k (by omega) (by omega),ho2 k (by omega)]
    ·refine ⟨?_,fun k h1 h2=>?_⟩
     ·have h1:=hwin.1
      rw[←hW2] at h1
      simpa using h1
     ·rw[World.putObj_heap_other (by omega),hlow.2 k (by omega) (by omega),ho2 k (by omega)]
   | _=>exact hp.elim
  ·rw[←hV]; exact hI.alloc _ (hI.alloc _ h0)
  ·rintro e W2 ⟨⟨v,rfl⟩,hi,hl,hk⟩
   have:=run_endLoop (P:=P) hl (by rw[hrec]; simp);rw[hrec] at this;refine ⟨none,_,this,?_⟩;exact hdone _ (hI.put _ hi (by omega) (by omega)) ((World.putObj_heap_other (by omega)).trans hk)
end
end Go.Proofs.YtenlngclocfnlaaGreatDoor
