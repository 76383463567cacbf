/- Texts of this claim, put together: DrawMix. -/
import Derived.Test.YtenlngclocfnlaaGreatDoorPdH
import Derived.Test.YtenlngclocfnlaaGreatDoorPdGD
namespace Go.Proofs.YtenlngclocfnlaaGreatDoor
set_option linter.unusedVariables false
section
open Go.RowKit
set_option maxRecDepth 100000
theorem CodW.head {w wi:World} {K:Nat} {a:Option Addr} {cap:Nat} {bs:List Int} {M q:Int} {ao:Option Addr} {m co:Nat} (h:CodW w K a cap bs M q ao m co wi) (hm:0<m):∃ g,ao=some ⟨g,0,none⟩∧w.heap.size≤g∧g<wi.heap.size∧m≤co∧co≤9223372036854775807:=by
 obtain ⟨ys,h1,h2,h3,h4⟩:=h;obtain ⟨g,capg,he,hBg,hgs,hc,hx⟩:=own_head h3 (by omega);injection he with he1 he2 he3;subst he3;exact ⟨g,he1,hBg,hgs,by omega,by simpa [maxLen] using hx⟩
theorem CodW.get {w wi:World} {K:Nat} {a:Option Addr} {cap:Nat} {bs:List Int} {M q:Int} {g m co:Nat} (h:CodW w K a cap bs M q (some ⟨g,0,none⟩) m co wi) {i:Nat} (hi:i<m):
  ∃ x,wi.cell? ⟨g,i,none⟩=some (.int .i64 x)∧0≤x∧x<M∧wi.frozen? ⟨g,i,none⟩=false:=by
 obtain ⟨ys,h1,h2,h3,h4⟩:=h;subst h1;have e:=World.ownsRow.cellAt h3 i (by omega);unfold ints at e;rw[List.getElem?_map,List.getElem?_eq_getElem hi] at e;have:=h2 ys[i] (List.getElem_mem hi);exact ⟨ys[i],e,this.1,this.2,(h3.at i hi).2⟩
theorem CodW.put {w wi:World} {K:Nat} {a:Option Addr} {cap:Nat} {bs:List Int} {M q:Int} {g m co:Nat} (h:CodW w K a cap bs M q (some ⟨g,0,none⟩) m co wi) (hB:w.heap.size≤g) (hK:K<w.heap.size) (i:Nat) {x:Int} (hx0:0≤x) (hx1:x<M):
  CodW w K a cap bs M q (some ⟨g,0,none⟩) m co (wi.setCell ⟨g,i,none⟩ (.int .i64 x)):=by
 obtain ⟨ys,h1,h2,h3,⟨p,h5,h6⟩,h7⟩:=h;have hgrw:=grownBy_setCell wi ⟨g,i,none⟩ (.int .i64 x);refine ⟨ys.set i x,by rw[List.length_set,h1],fun y hy=>?_,h3.set i x,⟨p,rd_grown h5 hgrw (fun j hj=>by cases hj; exact Nat.lt_of_lt_of_le hK hB),h6⟩,h7.andThen hgrw (fun j hj=>.inl (by cases hj; exact hB))⟩
 rcases List.mem_or_eq_of_mem_set hy with hy | rfl
 ·exact h2 y hy
 ·exact ⟨hx0,hx1⟩
theorem CodW.more {w wi:World} {K:Nat} {a:Option Addr} {cap:Nat} {bs:List Int} {M q q':Int} {ao:Option Addr} {m co:Nat} (h:CodW w K a cap bs M q ao m co wi) (hq:q≤q'):CodW w K a cap bs M q' ao m co wi:=by
 obtain ⟨ys,h1,h2,h3,⟨p,h5,h6⟩,h7⟩:=h;exact ⟨ys,h1,h2,h3,⟨p,h5,by omega⟩,h7⟩
def NsDrawn (K:Nat) (a:Option Addr) (cap:Nat) (bs:List Int) (p:Int) (w:World) (e:Ending) (w':World):Prop:=
 ∃ (ys:List Int) (ao:Option Addr) (co:Nat),e=.returned (.slice ao ys.length co)∧OwnI w.heap.size w' (.slice ao ys.length co) ys∧ys.length≤12∧(∀ y∈ys,0≤y∧y≤9)∧Drew K a cap bs p 40 w w'
set_option maxHeartbeats 4000000 in
theorem mixed_any (n:Int) (w:World) (K:Nat) (a:Option Addr) (cap:Nat) (bs:List Int) (p:Int) (h:Rd w K a cap bs p) (hp:p≤10000000000) (hn0:1≤n) (hn1:n≤8):
  Calls Tryz.prog 100 #[.pointer (some ⟨K,0,none⟩),.int .i64 n] w fun e w'=>∃ (ao:Option Addr) (co:Nat),e=.returned (.slice ao n.toNat co)∧CodW w K a cap bs 10 (p+8) ao n.toNat co w':=by
 have hKw:=h.lt;obtain ⟨N,rfl⟩:∃ N:Nat,n=(N:Int):=⟨n.toNat,by omega⟩
 rw[Int.toNat_natCast];have hlit:CodW w K a cap bs 10 p (some ⟨w.heap.size,0,none⟩) 0 0 (w.alloc (.cells #[] 3)):=
  ⟨[],rfl,by simp,OwnI.lit w,⟨p,h.below ((Below.refl _ _).alloc (Nat.le_refl _) _),by omega⟩,World.grownBy_alloc w _ (some K)⟩
 clear h;go_enter Tryz.func100,Tryz.ntmps100;go_wp2;go_loopw [5,6] (fun lv iv wi=>∃ (k:Nat) (ao:Option Addr) (co:Nat),k≤N∧iv=.int .i64 k∧lv=.slice ao k co∧CodW w K a cap bs 10 p ao k co wi) (fun _ iv _=>N-(intOf iv).toNat)
 case atStart=>exact ⟨0,_,_,Nat.zero_le _,rfl,rfl,hlit⟩
 case round=>
  obtain ⟨k,ao,co,hk,rfl,rfl,hW⟩:=hrel;obtain ⟨wk,rfl⟩:∃ x,x=wr:=⟨_,rfl⟩
  clear hlit
  by_cases hlt:(k:Int)<(N:Int)
  ·obtain ⟨ys,hyl,hown,hz4,hput⟩:=hW.own
   have HOW:=hdd (show OwnI w.heap.size (wk.alloc (.cells #[.int .i64 k] 3)) (.slice ao k co) ys from World.ownsRow.alloc hown _);have HYL:=hdd hyl;have HPUT:=hdd hput;clear hW hown hyl hput;go_wp2_with (at_builtin; refine wpList_push_int _ rfl (.tmp 16) (.tmp 18) rfl w.heap.size (.slice ao k co) ys rfl HOW.out ⟨wk.heap.size,0,none⟩ 1 k rfl (cell_of_one (heap_alloc_new wk _)) (by have:=HYL.out; omega) (by simp; omega) ?_; intro a7 c7 w7 ho7 hg7; rw[HYL.out] at ho7 ⊢; have HW7:=hdd (HPUT.out _ k w7 a7 c7 (by omega) (by omega) hKw ho7 hg7); clear ho7 hg7);go_roundw
   case rel=>exact ⟨k+1,a7,c7,by omega,by go_num,rfl,HW7.out⟩
   case measure=>simp[intOf]; omega
  ·have hkN:k=N:=by omega
   subst hkN;obtain ⟨g,rfl,hBg,_,hco,hmx⟩:=hW.head (by omega);have HW:=hdd hW;clear hW hlt;go_wp2;go_loopw [7] (fun iv wi=>∃ j:Nat,j<k∧iv=.int .i64 j∧CodW w K a cap bs 10 (p+(k-1-j:Int)) (some ⟨g,0,none⟩) k co wi) (fun iv _=>(intOf iv).toNat)
   case atStart=>exact ⟨k-1,by omega,by congr 1; omega,by have:=HW.out; rwa [show p+((k:Int)-1-((k-1:Nat):Int))=p by omega]⟩
   case round=>
    obtain ⟨j,hj,rfl,hW⟩:=hrel;obtain ⟨wj,rfl⟩:∃ x,x=wr:=⟨_,rfl⟩
    clear HW
    by_cases hj0:0<(j:Int)
    ·have hP:=hW.pick (n:=(j:Int)+1) hKw (by omega) (by unfold In64; omega)
     clear hW;go_wp2_with fail;refine hP.mono ?_;rintro e w4 ⟨r,rfl,hr0,hr1,hW4⟩;obtain ⟨R,rfl⟩:∃ R:Nat,r=(R:Int):=⟨r.toNat,by omega⟩
     have hRj:=hr1 (by omega);obtain ⟨x,hx,hx0,hx1,hfx⟩:=hW4.get hj;obtain ⟨y,hy,hy0,hy1,_⟩:=hW4.get (i:=R) (by omega);have hW5:=hW4.put hBg hKw j hy0 hy1;obtain ⟨z,hz,_,_,hfz⟩:=hW5.get (i:=R) (by omega);have HW6:=hdd (hW5.put hBg hKw R hx0 hx1);have hi1:(j:Int)<(k:Int):=by omega
     have hi2:(R:Int)<(k:Int):=by omega
     clear hP hW4 hW5 hr1;go_wp2;go_roundw
     case rel=>exact ⟨j-1,by omega,by congr 1; go_num,by have:=HW6.out; rwa [show p+((k:Int)-1-((j-1:Nat):Int))=p+(k-1-j)+1 by omega]⟩
     case measure=>simp[intOf]; omega
    ·have HF:=hdd (hW.more (q':=p+8) (by omega))
     clear hW;go_wp2;go_ret;exact ⟨_,co,rfl,HF.out⟩
theorem CodW.done {w wi:World} {K:Nat} {a:Option Addr} {cap:Nat} {bs:List Int} {M q:Int} {ao:Option Addr} {m co:Nat} (h:CodW w K a cap bs M q ao m co wi) (hM:M≤10) (hm:m≤12) {p:Int} (hq:q≤p+40):NsDrawn K a cap bs p w (.returned (.slice ao m co)) wi:=by
 obtain ⟨ys,h1,h2,h3,⟨p',h5,h6⟩,h7⟩:=h;subst h1;exact ⟨ys,ao,co,rfl,h3,hm,fun y hy=>by have:=h2 y hy; omega,⟨p',h5,by omega⟩,h7⟩
set_option maxHeartbeats 4000000 in
theorem known20_any (w:World) (K:Nat) (a:Option Addr) (cap:Nat) (bs:List Int) (p:Int) (h:Rd w K a cap bs p) (hp:p≤10000000000):
  Calls Tryz.prog 99 #[.pointer (some ⟨K,0,none⟩),.int .i64 0] w (NsDrawn K a cap bs p w):=by
 have hKw:=h.lt;have hlit:CodW w K a cap bs 10 p (some ⟨w.heap.size,0,none⟩) 0 0 (w.alloc (.cells #[] 3)):=
  ⟨[],rfl,by simp,OwnI.lit w,⟨p,h.below ((Below.refl _ _).alloc (Nat.le_refl _) _),by omega⟩,World.grownBy_alloc w _ (some K)⟩
 have hP:=hlit.pick (n:=6) hKw (by omega) (by unfold In64; omega);clear h hlit;go_enter Tryz.func99,Tryz.ntmps99;go_wp2_with fail;refine hP.mono ?_;rintro e w2 ⟨r,rfl,hr0,hr1,hW2⟩;have hr1:=hr1 (by omega);have hP2:=hW2.pick (n:=3) hKw (by omega) (by unfold In64; omega);clear hP hW2;go_wp2_with fail;refine hP2.mono ?_;rintro e w3 ⟨s,rfl,hs0,hs1,hW3⟩;have hs1:=hs1 (by omega);obtain ⟨N,hN⟩:∃ N:Nat,1+s=(N:Int):=⟨(1+s).toNat,by omega⟩
 have hW3':CodW w K a cap bs 10 (p+2) (some ⟨w.heap.size,0,none⟩) 0 0 w3:=hW3.more (by omega);clear hP2 hW3;go_wp2;go_loopw [5,6,7] (fun lv mv iv wi=>∃ (k:Nat) (m:Int) (ao:Option Addr) (co:Nat),k≤N∧mv=.int .i64 m∧0≤m∧m≤6∧iv=.int .i64 (N-k)∧lv=.slice ao k co∧CodW w K a cap bs 10 (p+2+k) ao k co wi) (fun _ _ iv _=>(intOf iv).toNat)
 case atStart=>exact ⟨0,1+r,_,_,Nat.zero_le _,rfl,by omega,by omega,by simp,rfl,by simpa using hW3'⟩
 case round=>
  obtain ⟨k,m,ao,co,hk,rfl,hm0,hm6,rfl,rfl,hW⟩:=hrel;obtain ⟨wk,rfl⟩:∃ x,x=wr:=⟨_,rfl⟩
  clear hW3'
  by_cases hlt:0<(N:Int)-(k:Int)
  ·have hP:=hW.pick (n:=m+1) hKw (by omega) (by unfold In64; omega)
   clear hW;go_wp2_with fail;refine hP.mono ?_;rintro e w4 ⟨x,rfl,hx0,hx1,hW4⟩;have hx1:=hx1 (by omega);obtain ⟨ys,hyl,hown,hz4,hput⟩:=hW4.own;have HOW:=hdd (show OwnI w.heap.size (w4.alloc (.cells #[.int .i64 x] 3)) (.slice ao k co) ys from World.ownsRow.alloc hown _);have HYL:=hdd hyl;have HPUT:=hdd hput;clear hP hW4 hown hyl hput;go_wp2_with (at_builtin; refine wpList_push_int _ rfl (.tmp 24) (.tmp 26) rfl w.heap.size (.slice ao k co) ys rfl HOW.out ⟨w4.heap.size,0,none⟩ 1 x rfl (cell_of_one (heap_alloc_new w4 _)) (by have:=HYL.out; omega) (by simp; omega) ?_; intro a7 c7 w7 ho7 hg7; rw[HYL.out] at ho7 ⊢; have HW7:=hdd (HPUT.out _ x w7 a7 c7 hx0 (by omega) hKw ho7 hg7); clear ho7 hg7);go_roundw
   case rel=>exact ⟨k+1,m-x,a7,c7,by omega,by go_num,by omega,by omega,by congr 1; go_num,rfl,by have:=HW7.out; rwa [show p+2+((k+1:Nat):Int)=p+2+k+1 by omega]⟩
   case measure=>simp[intOf]; omega
  ·have hkN:k=N:=by omega
   subst hkN;obtain ⟨g,rfl,hBg,_,hco,hmx⟩:=hW.head (by omega);have HF:=hdd (hW.done (p:=p) (by omega) (by omega) (by omega));clear hW hlt;go_wp2_with fail;refine (odd_zero wk K).mono ?_;rintro e w5 ⟨rfl,rfl⟩;go_wp2;go_ret;exact HF.out
set_option maxHeartbeats 4000000 in
theorem boxes20_any (w:World) (K:Nat) (a:Option Addr) (cap:Nat) (bs:List Int) (p:Int) (h:Rd w K a cap bs p) (hp:p≤1000000000):
  Calls Tryz.prog 101 #[.pointer (some ⟨K,0,none⟩),.int .i64 0] w (NsDrawn K a cap bs p w):=by
 have hKw:=h.lt;have hP:=pick_any 7 w K a cap bs p h (by omega) (by unfold In64; omega);clear h;go_enter Tryz.func101,Tryz.ntmps101;go_wp2_with fail;refine hP.mono ?_;rintro e w2 ⟨r,rfl,hr0,hr1,⟨p2,hR2,hp2⟩,hg2⟩;have hr1:=hr1 (by omega);have hM:=mixed_any (1+r) w2 K a cap bs p2 hR2 (by omega) (by omega) (by omega);have hz2:=hg2.size;have HG2:=hdd hg2;clear hP hR2 hg2;go_wp2_with fail;refine hM.mono ?_;rintro e w3 ⟨ao,co,rfl,hW⟩;obtain ⟨k,hk⟩:∃ k,k=(1+r).toNat:=⟨_,rfl⟩
 rw[←hk] at hW ⊢;have hW3:CodW w K a cap bs 10 (p2+8) ao k co w3:=by
  obtain ⟨ys,h1,h2,h3,h5,h7⟩:=hW;exact ⟨ys,h1,h2,h3.mono hz2,h5,grown_trans HG2.out h7⟩
 have HF:=hdd (hW3.done (p:=p) (by omega) (by omega) (by omega));clear hM hW hW3 hk;go_wp2_with fail;refine (odd_zero w3 K).mono ?_;rintro e w5 ⟨rfl,rfl⟩;go_wp2;go_ret;exact HF.out
end
end Go.Proofs.YtenlngclocfnlaaGreatDoor
