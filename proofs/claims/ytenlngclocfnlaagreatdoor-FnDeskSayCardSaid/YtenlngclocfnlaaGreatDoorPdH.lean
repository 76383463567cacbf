/- Texts of this claim, put together: BunG, BunH, DrawDesk, LieS5, LieS6, LieS7, LieWin. -/
import Derived.Test.YtenlngclocfnlaaGreatDoorPdA
import Derived.WideKeyEntry
import Derived.Test.YtenlngclocfnlaaGreatDoorPdB
import Derived.Test.YtenlngclocfnlaaGreatDoorPdG
import Derived.Deep.AppendLies
import Derived.Deep.RegionLaw
import Derived.Test.YtenlngclocfnlaaGreatDoorPdF
import Derived.Test.YtenlngclocfnlaaGreatDoorPdE
import Derived.Test.YtenlngclocfnlaaGreatDoorPdU
import Derived.Test.YtenlngclocfnlaaGreatDoorPdO
import Derived.Deep.RegionWith
import Derived.Test.YtenlngclocfnlaaGreatDoorPdGD
namespace Go.Proofs.YtenlngclocfnlaaGreatDoor
set_option linter.unusedVariables false
section
open Go.RowKit
def Bytes (B:Nat) (w:World) (v:Value) (bs:List Int):Prop:=SL B w v (bs.map (Value.int .u8))∧∀ x∈bs,0≤x∧x≤255
theorem Bytes.below {B:Nat} {w w':World} {v:Value} {bs:List Int} (h:Bytes B w v bs) (hb:Below w.heap.size w w'):Bytes B w' v bs:=⟨h.1.below hb,h.2⟩
structure Rd (w:World) (K:Nat) (a:Option Addr) (cap:Nat) (bs:List Int) (p:Int):Prop where
 block:w.heap[K]?=some (.cells #[.slice a bs.length cap,.int .i64 p] 110 (0,0))
 len:bs.length≤2000
 p0:0≤p
 rng:∀ x∈bs,0≤x∧x≤255
 cells:0<bs.length→∃ b off,a=some ⟨b,off,none⟩∧b<K∧∀ i (h:i<bs.length),w.cell? ⟨b,off+i,none⟩=some (.int .u8 bs[i])
theorem Rd.lt {w:World} {K:Nat} {a:Option Addr} {cap:Nat} {bs:List Int} {p:Int} (h:Rd w K a cap bs p):K<w.heap.size:=(Array.getElem?_eq_some_iff.1 h.block).1
theorem Rd.keep {w w':World} {K:Nat} {a:Option Addr} {cap:Nat} {bs:List Int} {p:Int} (h:Rd w K a cap bs p) (hk:∀ b,b≤K→w'.heap[b]?=w.heap[b]?):Rd w' K a cap bs p:=by
 refine ⟨by rw[hk K (Nat.le_refl _)]; exact h.block,h.len,h.p0,h.rng,fun hp=>?_⟩;obtain ⟨b,off,h1,h2,h3⟩:=h.cells hp;exact ⟨b,off,h1,h2,fun i hi=>by rw[World.cell?_of_block (w:=w) (hk b (by omega))]; exact h3 i hi⟩
theorem Rd.below {w w':World} {K:Nat} {a:Option Addr} {cap:Nat} {bs:List Int} {p:Int} (h:Rd w K a cap bs p) (hb:Below w.heap.size w w'):Rd w' K a cap bs p:=
 h.keep fun b hbk=>hb.block b (by have:=h.lt; omega)
def Drew (K:Nat) (a:Option Addr) (cap:Nat) (bs:List Int) (p:Int) (n:Int) (w w':World):Prop:=(∃ p',Rd w' K a cap bs p'∧p'≤p+n)∧w.grownBy w' (some K)
theorem Rd.drewN {w:World} {K:Nat} {a:Option Addr} {cap:Nat} {bs:List Int} {p:Int} (h:Rd w K a cap bs p) (n:Nat):Rd (w.drewN n) K a cap bs p:=h.keep fun _ _=>rfl
theorem Drew.drewN {K:Nat} {a:Option Addr} {cap:Nat} {bs:List Int} {p n:Int} {w w':World} (h:Drew K a cap bs p n w w') (q:Nat):Drew K a cap bs p n w (w'.drewN q):=by
 obtain ⟨⟨p',h1,h2⟩,h3⟩:=h;exact ⟨⟨p',h1.drewN q,h2⟩,⟨h3.os,h3.tape,h3.output,h3.size,h3.block⟩⟩
theorem step_reader {w:World} {K:Nat} {a:Option Addr} {cap:Nat} {bs:List Int} {p:Int} (h:Rd w K a cap bs p) (hp:p≤9000000000000000):
  Rd (w.setCell ⟨K,1,none⟩ (.int .i64 (p+1))) K a cap bs (p+1):=by
 have hlt:=h.lt;have hb:(w.setCell ⟨K,1,none⟩ (.int .i64 (p+1))).heap[K]?=some (.cells #[.slice a bs.length cap,.int .i64 (p+1)] 110 (0,0)):=by
  have:=h.block;simp only[World.setCell,Array.getElem?_modify,if_true,this]
  rfl
 refine ⟨hb,h.len,by have:=h.p0; omega,h.rng,fun hq=>?_⟩;obtain ⟨b,off,h1,h2,h3⟩:=h.cells hq;refine ⟨b,off,h1,h2,fun i hi=>?_⟩;rw[World.cell?_of_block (w:=w) (Below.heap_setCell w ⟨K,1,none⟩ _ b (by simp; omega))];exact h3 i hi
theorem xor_mod {E n:Int} (h0:0≤E) (h1:E<4611686018427387904) (hn:1≤n):0≤(bits .xor .i64 E (E/64)).tmod n∧(bits .xor .i64 E (E/64)).tmod n<n:=by
 obtain ⟨X,rfl⟩:=Int.eq_ofNat_of_zero_le h0;have e:(X:Int)/64=((X/64:Nat):Int):=by simp
 rw[e,i64_xor_nat _ _ (by omega) (by omega),Int.tmod_eq_emod_of_nonneg (Int.natCast_nonneg _)];exact ⟨Int.emod_nonneg _ (by omega),Int.emod_lt_of_pos _ (by omega)⟩
def Picked (n:Int) (K:Nat) (a:Option Addr) (cap:Nat) (bs:List Int) (p:Int) (w:World) (e:Ending) (w':World):Prop:=
 ∃ r:Int,e=.returned (.int .i64 r)∧0≤r∧(1≤n→r<n)∧Drew K a cap bs p 1 w w'
set_option maxHeartbeats 1000000 in
theorem pick_any (n:Int) (w:World) (K:Nat) (a:Option Addr) (cap:Nat) (bs:List Int) (p:Int) (h:Rd w K a cap bs p) (hp:p≤1000000000000) (hn:In64 n):
  Calls Tryz.prog 41 #[.pointer (some ⟨K,0,none⟩),.int .i64 n] w (Picked n K a cap bs p w):=by
 have hc0:w.cell? ⟨K,0,none⟩=some (.slice a bs.length cap):=by simp[World.cell?,h.block]
 have hc1:w.cell? ⟨K,1,none⟩=some (.int .i64 p):=by simp[World.cell?,h.block]
 have hf1:w.frozen? ⟨K,1,none⟩=false:=by simp[World.frozen?,h.block]
 have hp0:=h.p0;have HD:=hdd (show Drew K a cap bs p 1 w (w.setCell ⟨K,1,none⟩ (.int .i64 (p+1))) from ⟨⟨p+1,step_reader h (by omega),by omega⟩,grownBy_setCell w ⟨K,1,none⟩ _⟩)
 by_cases hz:n<1
 ·go_enter Tryz.func41,Tryz.ntmps41
  go_wp2;go_ret;exact ⟨0,rfl,by omega,by omega,HD.out⟩
 by_cases hl:bs.length=0
 ·have hl1:((bs.length:Int)==0)=true:=by rw[beq_iff_eq]; omega
  have hn1:1≤n:=by omega
  clear hl hz;go_enter Tryz.func41,Tryz.ntmps41;go_wp2;go_ret;exact ⟨0,rfl,by omega,by omega,HD.out⟩
 have hl1:((bs.length:Int)==0)=false:=by rw[beq_eq_false_iff_ne]; omega
 have hn1:1≤n:=by omega
 obtain ⟨P,rfl⟩:=Int.eq_ofNat_of_zero_le hp0;obtain ⟨b,off,rfl,hbK,hx⟩:=h.cells (by omega);have hx':∀ i (hi:i<bs.length),(w.setCell ⟨K,1,none⟩ (.int .i64 ((P:Int)+1))).cell? ⟨b,off+i,none⟩=some (.int .u8 bs[i]):=fun i hi=>by
  rw[World.cell?_of_block (w:=w) (Below.heap_setCell w ⟨K,1,none⟩ _ b (by simp; omega))];exact hx i hi
 have hlen2:=h.len;have hrng:=h.rng;have hn2:n≤9223372036854775807:=hn.2
 by_cases hlt:P<bs.length
 ·have hxk:=hx' P hlt
  have hr:=hrng _ (List.getElem_mem hlt);obtain ⟨x,hx1⟩:∃ x,x=bs[P]:=⟨_,rfl⟩
  rw[←hx1] at hxk hr;obtain ⟨hr0,hr1⟩:=hr;clear hx hx' hrng hx1 hz hl h hn;go_enter Tryz.func41,Tryz.ntmps41;go_wp2;go_ret;exact ⟨_,rfl,Int.emod_nonneg _ (by omega),fun _=>Int.emod_lt_of_pos _ (by omega),HD.out⟩
 ·have hm1:P%bs.length<bs.length:=Nat.mod_lt _ (by omega)
  have hm2:(P*7+3)%bs.length<bs.length:=Nat.mod_lt _ (by omega);have hxk:=hx' _ hm1;have hyk:=hx' _ hm2;have hr:=hrng _ (List.getElem_mem hm1);have hs:=hrng _ (List.getElem_mem hm2);obtain ⟨x,hx1⟩:∃ x,x=bs[P%bs.length]:=⟨_,rfl⟩
  obtain ⟨y,hy1⟩:∃ y,y=bs[(P*7+3)%bs.length]:=⟨_,rfl⟩
  rw[←hx1] at hxk hr;rw[←hy1] at hyk hs;obtain ⟨hr0,hr1⟩:=hr;obtain ⟨hs0,hs1⟩:=hs;have hge:bs.length≤P:=by omega
  have hmi0:(0:Int)≤(P:Int)%(bs.length:Int):=Int.emod_nonneg _ (by omega);have hmi1:(P:Int)%(bs.length:Int)<(bs.length:Int):=Int.emod_lt_of_pos _ (by omega);have hmj0:(0:Int)≤((P:Int)*7+3)%(bs.length:Int):=Int.emod_nonneg _ (by omega);have hmj1:((P:Int)*7+3)%(bs.length:Int)<(bs.length:Int):=Int.emod_lt_of_pos _ (by omega);have hqq0:(0:Int)≤(P:Int)/(bs.length:Int):=Int.ediv_nonneg (by omega) (by omega);have hqq1:(P:Int)/(bs.length:Int)≤(P:Int):=Int.ediv_le_self _ (by omega);have e1:((P:Int)%(bs.length:Int)).toNat=P%bs.length:=by
   have:(P:Int)%(bs.length:Int)=((P%bs.length:Nat):Int):=by simp
   rw[this,Int.toNat_natCast]
  have e2:(((P:Int)*7+3)%(bs.length:Int)).toNat=(P*7+3)%bs.length:=by
   have:((P:Int)*7+3)%(bs.length:Int)=(((P*7+3)%bs.length:Nat):Int):=by simp
   rw[this,Int.toNat_natCast]
  have hne:¬((bs.length:Int)=0):=by omega
  have hne1:(1:Int)≤(bs.length:Int):=by omega
  have hne2:¬bs.length=0:=by omega
  clear hx hx' hrng hx1 hy1 hz hl h hn hlt;go_enter Tryz.func41,Tryz.ntmps41;go_wp2;go_quiet (fail);go_wp2;go_ret;have hE0:0≤x*131+y*1117+(P:Int)*29+(P:Int)/(bs.length:Int)*53:=by omega
  have hE1:x*131+y*1117+(P:Int)*29+(P:Int)/(bs.length:Int)*53<4611686018427387904:=by omega
  exact ⟨_,rfl,(xor_mod hE0 hE1 hn1).1,fun _=>(xor_mod hE0 hE1 hn1).2,HD.out.drewN nq⟩
theorem grown_trans {a b c:World} {K:Nat} (h:a.grownBy b (some K)) (h':b.grownBy c (some K)):a.grownBy c (some K):=
 h.andThen h' fun _ e=>by cases e; exact .inr rfl
theorem grown_of_below {a b:World} {K:Nat} (h:Below a.heap.size a b):a.grownBy b (some K):=⟨h.os,h.tape,h.output,h.size,fun k hk _=>h.block k hk⟩
def Odd (K:Nat) (a:Option Addr) (cap:Nat) (bs:List Int) (p:Int) (w:World) (e:Ending) (w':World):Prop:=
 ∃ b:Bool,e=.returned (.bool b)∧Drew K a cap bs p 1 w w'
theorem odd_any (n:Int) (w:World) (K:Nat) (a:Option Addr) (cap:Nat) (bs:List Int) (p:Int) (h:Rd w K a cap bs p) (hp:p≤1000000000000) (hn:In64 n):
  Calls Tryz.prog 48 #[.pointer (some ⟨K,0,none⟩),.int .i64 n] w (Odd K a cap bs p w):=by
 have hP:=pick_any n w K a cap bs p h hp hn;have hn2:=hn.2;have hn3:=hn.1
 by_cases hz:0<n
 ·clear hn
  go_enter Tryz.func48,Tryz.ntmps48;go_wp2_with fail;refine hP.mono ?_;rintro e w2 ⟨r,rfl,_,_,hD⟩;have HD:=hdd hD;clear hD;go_wp2;go_ret;exact ⟨_,rfl,HD.out⟩
 ·clear hn hP
  have HD:=hdd (show Drew K a cap bs p 1 w w from ⟨⟨p,h,by omega⟩,World.grownBy.refl _ _⟩);clear h;go_enter Tryz.func48,Tryz.ntmps48;go_wp2;go_ret;exact ⟨_,rfl,HD.out⟩
def Opened (w:World) (e:Ending) (w':World):Prop:=
 ∃ a cap bs,e=.returned (.pointer (some ⟨w.heap.size,0,none⟩))∧Rd w' w.heap.size a cap bs 0∧Below w.heap.size w w'
theorem open_any {B:Nat} (v:Value) (bs:List Int) (w:World) (h:Bytes B w v bs):
  Calls Tryz.prog 38 #[v] w (Opened w):=by
 obtain ⟨⟨a,cap,rfl,h1,h2,h3⟩,hr⟩:=h;simp only[List.length_map] at h1 h3;have key:∀ n,n≤bs.length→n≤2000→Rd (w.alloc (.cells #[.slice a n cap,.int .i64 0] 110)) w.heap.size a cap (bs.take n) 0:=by
  intro n hn hn2;have hl:(bs.take n).length=n:=by rw[List.length_take]; omega
  refine ⟨by rw[hl]; exact heap_alloc_new w _,by omega,by omega,fun x hx=>hr x (List.mem_of_mem_take hx),fun hp=>?_⟩;obtain ⟨b,off,h4,h5,h6⟩:=h3 (by omega);have hb:=World.block_lt_of_cell? w _ (h6 0 (by omega));refine ⟨b,off,h4,hb,fun i hi=>?_⟩;have:=h6 i (by omega);rw[List.getElem_take,World.cell?_of_block (w:=w) (Below.heap_alloc w _ b hb),this,List.getElem_map]
 by_cases hl:bs.length≤2000
 ·have HK:=hdd (key bs.length (Nat.le_refl _) hl)
  have hlm:(bs.map (Value.int .u8)).length=bs.length:=List.length_map _;rw[hlm];clear key h3 hr hlm;go_enter Tryz.func38,Tryz.ntmps38;go_wp2;go_ret;refine ⟨_,_,_,rfl,HK.out,(Below.refl _ _).alloc (Nat.le_refl _) _⟩
 ·have HK:=hdd (key 2000 (by omega) (by omega))
  have hlm:(bs.map (Value.int .u8)).length=bs.length:=List.length_map _;rw[hlm];have hc:2000≤cap:=by omega
  clear key h3 hr hlm;go_enter Tryz.func38,Tryz.ntmps38;go_wp2;go_ret;refine ⟨_,_,_,rfl,HK.out,(Below.refl _ _).alloc (Nat.le_refl _) _⟩
end
section
open Go.RowKit
set_option maxRecDepth 100000
theorem odd_zero (w:World) (K:Nat):
  Calls Tryz.prog 48 #[.pointer (some ⟨K,0,none⟩),.int .i64 0] w fun e w'=>e=.returned (.bool false)∧w=w':=by
 go_enter Tryz.func48,Tryz.ntmps48;go_wp2;go_ret;exact ⟨rfl,rfl⟩
theorem rd_grown {w w':World} {K:Nat} {a:Option Addr} {cap:Nat} {bs:List Int} {p:Int} {k:Option Nat} (h:Rd w K a cap bs p) (hg:w.grownBy w' k) (hk:∀ j,k=some j→K<j):Rd w' K a cap bs p:=by
 have hK:=h.lt;exact h.keep fun b hb=>hg.block b (by omega) (fun e=>by have:=hk b e.symm; omega)
def CodW (w:World) (K:Nat) (a:Option Addr) (cap:Nat) (bs:List Int) (M:Int) (q:Int) (ao:Option Addr) (m co:Nat) (wi:World):Prop:=
 ∃ ys,ys.length=m∧(∀ y∈ys,0≤y∧y<M)∧OwnI w.heap.size wi (.slice ao m co) ys∧(∃ p',Rd wi K a cap bs p'∧p'≤q)∧w.grownBy wi (some K)
theorem CodW.pick {w wi:World} {K:Nat} {a:Option Addr} {cap:Nat} {bs:List Int} {M q n:Int} {ao:Option Addr} {m co:Nat} (h:CodW w K a cap bs M q ao m co wi) (hK:K<w.heap.size) (hq:q≤100000000000) (hn:In64 n):
  Calls Tryz.prog 41 #[.pointer (some ⟨K,0,none⟩),.int .i64 n] wi fun e w'=>∃ r,e=.returned (.int .i64 r)∧0≤r∧(1≤n→r<n)∧CodW w K a cap bs M (q+1) ao m co w':=by
 obtain ⟨ys,h1,h2,h3,⟨p,h5,h6⟩,h7⟩:=h;refine (pick_any n _ K a cap bs p h5 (by omega) hn).mono ?_;rintro e w' ⟨r,rfl,hr0,hr1,⟨p',hR,hp⟩,hg⟩;exact ⟨r,rfl,hr0,hr1,ys,h1,h2,h3.keep (Above.of_grown hg (by omega)),⟨p',hR,by omega⟩,grown_trans h7 hg⟩
theorem CodW.odd {w wi:World} {K:Nat} {a:Option Addr} {cap:Nat} {bs:List Int} {M q n:Int} {ao:Option Addr} {m co:Nat} (h:CodW w K a cap bs M q ao m co wi) (hK:K<w.heap.size) (hq:q≤100000000000) (hn:In64 n):
  Calls Tryz.prog 48 #[.pointer (some ⟨K,0,none⟩),.int .i64 n] wi fun e w'=>∃ b,e=.returned (.bool b)∧CodW w K a cap bs M (q+1) ao m co w':=by
 obtain ⟨ys,h1,h2,h3,⟨p,h5,h6⟩,h7⟩:=h;refine (odd_any n _ K a cap bs p h5 (by omega) hn).mono ?_;rintro e w' ⟨b,rfl,⟨p',hR,hp⟩,hg⟩;exact ⟨b,rfl,ys,h1,h2,h3.keep (Above.of_grown hg (by omega)),⟨p',hR,by omega⟩,grown_trans h7 hg⟩
theorem CodW.own {w wi:World} {K:Nat} {a:Option Addr} {cap:Nat} {bs:List Int} {M q:Int} {ao:Option Addr} {m co:Nat} (h:CodW w K a cap bs M q ao m co wi):
  ∃ ys,ys.length=m∧OwnI w.heap.size wi (.slice ao m co) ys∧w.heap.size≤wi.heap.size ∧
   ∀ (o:Obj) (x:Int) (w7:World) (a':Option Addr) (c':Nat),0≤x→x<M→K<w.heap.size→OwnI w.heap.size w7 (.slice a' (m+1) c') (ys++[x])→(wi.alloc o).grownBy w7 (Value.slice ao m co).ownBlock→CodW w K a cap bs M q a' (m+1) c' w7:=by
 obtain ⟨ys,h1,h2,h3,⟨p,h5,h6⟩,h7⟩:=h;refine ⟨ys,h1,h3,h7.size,fun o x w7 a' c' hx0 hx1 hK ho hg=>?_⟩;have hblk:∀ j,(Value.slice ao m co).ownBlock=some j→w.heap.size≤j:=fun j hj=>(World.ownsRow.lt h3 j hj).1
 refine ⟨ys++[x],by simp[h1],fun y hy=>?_,ho,⟨p,?_,h6⟩,(h7.andThen (World.grownBy_alloc wi o none) (fun _ e=>by cases e)).andThen hg (fun j hj=>.inl (by have:=hblk j hj; omega))⟩
 ·rcases List.mem_append.1 hy with h | h
  ·exact h2 y h
  ·simp at h; rw[h]; exact ⟨hx0,hx1⟩
 ·exact rd_grown (h5.below ((Below.refl _ _).alloc (Nat.le_refl _) o)) hg (fun j hj=>by have:=hblk j hj; omega)
def CodeDrawn (K:Nat) (a:Option Addr) (cap:Nat) (bs:List Int) (p:Int) (pg M n:Int) (w:World) (e:Ending) (w':World):Prop:=
 ∃ ys a' c',e=.returned (.slice a' ys.length c')∧OwnI w.heap.size w' (.slice a' ys.length c') ys∧(n=0→(ys.length:Int)=pg∧∀ y∈ys,0≤y∧y<M)∧(∀ y∈ys,In64 y)∧ys.length≤10∧Drew K a cap bs p 12 w w'
set_option maxHeartbeats 4000000 in
theorem code_any (pg c n M:Int) (w:World) (K:Nat) (a:Option Addr) (cap:Nat) (bs:List Int) (p:Int) (h:Rd w K a cap bs p) (hp:p≤10000000000) (hg0:0≤pg) (hg4:pg≤4) (hc0:0≤c) (hc1:c≤10) (hn0:0≤n) (hn1:n≤100) (hok:n=0∨1≤pg) (hM:max c 1=M):
  Calls Tryz.prog 124 #[.pointer (some ⟨K,0,none⟩),.int .i64 pg,.int .i64 c,.int .i64 n] w (CodeDrawn K a cap bs p pg M n w):=by
 have hKw:=h.lt;obtain ⟨N,rfl⟩:∃ N:Nat,pg=(N:Int):=⟨pg.toNat,by omega⟩
 have hM1:1≤M∧M≤10:=by omega
 have hMI:In64 M:=by unfold In64; omega
 have hlit:CodW w K a cap bs M p (some ⟨w.heap.size,0,none⟩) 0 0 (w.alloc (.cells #[] 3)):=
  ⟨[],rfl,by simp,OwnI.lit w,⟨p,h.below ((Below.refl _ _).alloc (Nat.le_refl _) _),by omega⟩,World.grownBy_alloc w _ (some K)⟩
 have HC1:=hdd hc1;clear h;go_enter Tryz.func124,Tryz.ntmps124;go_wp2;go_loopw [9,10] (fun cv kv wi=>∃ (k:Nat) (ao:Option Addr) (co:Nat),k≤N∧kv=.int .i64 k∧cv=.slice ao k co∧CodW w K a cap bs M (p+k) ao k co wi) (fun _ kv _=>N-(intOf kv).toNat)
 case atStart=>exact ⟨0,_,_,Nat.zero_le _,rfl,rfl,by simpa using hlit⟩
 case round=>
  obtain ⟨k,ao,co,hk,rfl,rfl,hW⟩:=hrel;obtain ⟨wk,rfl⟩:∃ x,x=wr:=⟨_,rfl⟩
  clear hlit
  by_cases hlt:(k:Int)<(N:Int)
  ·have hP:=hW.pick (n:=M) hKw (by omega) hMI
   clear hW;have hMc:(c<1∧M=1)∨(¬c<1∧M=c):=by omega
   rcases hMc with ⟨hcl,hMc⟩ | ⟨hcl,hMc⟩
   all_goals
    clear hM;subst hMc;go_wp2_with fail;refine hP.mono ?_;rintro e w4 ⟨x,rfl,hx0,hx1,hW4⟩;have hx1:=hx1 hM1.1;obtain ⟨ys,hyl,hown,hz4,hput⟩:=hW4.own;have HOW:=hdd (show OwnI w.heap.size (w4.alloc (.cells #[.int .i64 x] 3)) (.slice ao k co) ys from World.ownsRow.alloc hown _);have HYL:=hdd hyl;have HPUT:=hdd hput;have HX:=hdd (And.intro hx0 hx1);clear hP hW4 hown hyl hput hx0 hx1;go_wp2_with (at_builtin; refine wpList_push_int _ rfl (.tmp 17) (.tmp 22) rfl w.heap.size (.slice ao k co) ys rfl HOW.out ⟨w4.heap.size,0,none⟩ 1 x rfl (cell_of_one (heap_alloc_new w4 _)) (by have:=HYL.out; omega) (by simp; omega) ?_; intro a7 c7 w7 ho7 hg7; rw[HYL.out] at ho7 ⊢; have HW7:=hdd (HPUT.out _ x w7 a7 c7 HX.out.1 HX.out.2 hKw ho7 hg7); clear ho7 hg7);go_roundw
    case rel=>exact ⟨k+1,a7,c7,by omega,by go_num,rfl,by have:=HW7.out; rwa [show p+((k+1:Nat):Int)=p+k+1 by omega]⟩
    case measure=>simp[intOf]; omega
  ·have hkN:k=N:=by omega
   subst hkN
   rcases hok with rfl | hpg1
   ·obtain ⟨ys,h1,h2,h3,⟨p',h5,h6⟩,h7⟩:=hW
    have HF:=hdd (show CodeDrawn K a cap bs p k M 0 w (.returned (.slice ao k co)) wk from by
     subst h1;exact ⟨ys,ao,co,rfl,h3,fun _=>⟨rfl,h2⟩,fun y hy=>by have:=h2 y hy; unfold In64; omega,by omega,⟨p',h5,by omega⟩,h7⟩)
    clear h1 h2 h3 h5 h6 h7;go_wp2_with fail;refine (odd_zero wk K).mono ?_;rintro e w5 ⟨rfl,rfl⟩;go_wp2;go_ret;exact HF.out
   ·by_cases hnz:n=0
    ·subst hnz
     obtain ⟨ys,h1,h2,h3,⟨p',h5,h6⟩,h7⟩:=hW;have HF:=hdd (show CodeDrawn K a cap bs p k M 0 w (.returned (.slice ao k co)) wk from by
      subst h1;exact ⟨ys,ao,co,rfl,h3,fun _=>⟨rfl,h2⟩,fun y hy=>by have:=h2 y hy; unfold In64; omega,by omega,⟨p',h5,by omega⟩,h7⟩)
     clear h1 h2 h3 h5 h6 h7;go_wp2_with fail;refine (odd_zero wk K).mono ?_;rintro e w5 ⟨rfl,rfl⟩;go_wp2;go_ret;exact HF.out
    ·have hO:=hW.odd (n:=n) hKw (by omega) (by unfold In64; omega)
     have HNZ:=hdd hnz;clear hW hnz;go_wp2_with fail;refine hO.mono ?_;rintro e w5 ⟨b,rfl,hW5⟩;clear hO
     cases b
     ·obtain ⟨ys,h1,h2,h3,⟨p',h5,h6⟩,h7⟩:=hW5
      have HF:=hdd (show CodeDrawn K a cap bs p k M n w (.returned (.slice ao k co)) w5 from by
       subst h1;exact ⟨ys,ao,co,rfl,h3,fun e=>absurd e HNZ.out,fun y hy=>by have:=h2 y hy; unfold In64; omega,by omega,⟨p',h5,by omega⟩,h7⟩)
      clear h1 h2 h3 h5 h6 h7;go_wp2;go_ret;exact HF.out
     ·have hP:=hW5.pick (n:=2) hKw (by omega) (by unfold In64; omega)
      clear hW5;go_wp2_with fail;refine hP.mono ?_;rintro e w6 ⟨r,rfl,hr0,hr1,hW6⟩;clear hP
      by_cases hr:r=0
      ·subst hr
       obtain ⟨ys,hyl,hown,hz4,hput⟩:=hW6.own;have HOW:=hdd (show OwnI w.heap.size (w6.alloc (.cells #[.int .i64 0] 3)) (.slice ao k co) ys from World.ownsRow.alloc hown _);have HYL:=hdd hyl;have HPUT:=hdd hput;clear hW6 hown hyl hput hr0 hr1;go_wp2_with (at_builtin; refine wpList_push_int _ rfl (.tmp 30) (.tmp 31) rfl w.heap.size (.slice ao k co) ys rfl HOW.out ⟨w6.heap.size,0,none⟩ 1 0 rfl (cell_of_one (heap_alloc_new w6 _)) (by have:=HYL.out; omega) (by simp; omega) ?_; intro a7 c7 w7 ho7 hg7; rw[HYL.out] at ho7 ⊢; have HW7:=hdd (HPUT.out _ 0 w7 a7 c7 (by omega) (by omega) hKw ho7 hg7); clear ho7 hg7);go_ret;obtain ⟨zs,h1,h2,h3,⟨p',h5,h6⟩,h7⟩:=HW7.out;refine ⟨zs,a7,c7,by rw[h1]; rfl,by rw[h1]; exact h3,fun e=>absurd e HNZ.out,fun y hy=>by have:=h2 y hy; unfold In64; omega,by omega,⟨p',h5,by omega⟩,h7⟩
      ·obtain ⟨ys,h1,h2,h3,⟨p',h5,h6⟩,h7⟩:=hW6
       have hrb:(r==0)=false:=by simpa using hr
       obtain ⟨g,capg,he,hBg,hgs,_⟩:=own_head h3 (by omega);injection he with he1 he2 he3;clear he2;subst he1 he3;obtain ⟨⟨u0,hc1⟩,hf1⟩:=h3.at 0 (by omega);have hset:=h3.set 0 c;have hgrw:=grownBy_setCell w6 ⟨g,0,none⟩ (.int .i64 c);have HF:=hdd (show CodeDrawn K a cap bs p k M n w (.returned (.slice (some ⟨g,0,none⟩) k co)) (w6.setCell ⟨g,0,none⟩ (.int .i64 c)) from by
        subst h1;refine ⟨ys.set 0 c,_,co,by rw[List.length_set],by rw[List.length_set]; exact hset,fun e=>absurd e HNZ.out,fun y hy=>?_,by rw[List.length_set]; omega,⟨p',rd_grown h5 hgrw (fun j hj=>by cases hj; exact Nat.lt_of_lt_of_le hKw hBg),by omega⟩,h7.andThen hgrw (fun j hj=>.inl (by cases hj; exact hBg))⟩
        rcases List.mem_or_eq_of_mem_set hy with hy | rfl
        ·have:=h2 y hy; unfold In64; omega
        ·have:=HC1.out; unfold In64; omega)
       clear h1 h2 h3 h5 h6 h7 hset hgrw hr;go_wp2;go_ret;exact HF.out
def tC (t:Value×Int×Int):List Value:=[t.1,.int .i64 t.2.1,.int .i64 t.2.2]
def cellsT (ts:List (Value×Int×Int)):List Value:=ts.flatMap tC
theorem cellsT_cons (t:Value×Int×Int) (ts:List (Value×Int×Int)):cellsT (t::ts)=tC t++cellsT ts:=rfl
theorem cellsT_append (ts us:List (Value×Int×Int)):cellsT (ts++us)=cellsT ts++cellsT us:=by simp[cellsT]
theorem cellsT_length:∀ ts:List (Value×Int×Int),(cellsT ts).length=ts.length*3
 | []=>rfl
 | t::ts=>by rw[cellsT_cons,List.length_append,cellsT_length ts]; simp[tC]; omega
theorem cellsT_get:∀ (ts:List (Value×Int×Int)) (k:Nat) (hk:k<ts.length),(cellsT ts)[k*3]?=some ts[k].1∧(cellsT ts)[k*3+1]?=some (.int .i64 ts[k].2.1)∧(cellsT ts)[k*3+2]?=some (.int .i64 ts[k].2.2)
 | [],k,hk=>by simp at hk
 | t::ts,0,_=>by simp[cellsT_cons,tC]
 | t::ts,k+1,hk=>by
  have h:=cellsT_get ts k (by simpa using hk);rw[cellsT_cons];have e:(tC t).length=3:=rfl;rw[List.getElem?_append_right (by rw[e]; omega),List.getElem?_append_right (by rw[e]; omega),List.getElem?_append_right (by rw[e]; omega),e,
   show (k+1)*3-3=k*3 by omega,show (k+1)*3+1-3=k*3+1 by omega,show (k+1)*3+2-3=k*3+2 by omega]
  exact h
def OwnT (B:Nat) (w:World) (v:Value) (ts:List (Value×Int×Int)):Prop:=w.ownsRow B 39 3 v ts.length (cellsT ts)
theorem OwnT.opened {B:Nat} {w:World} {v:Value} {ts:List (Value×Int×Int)} (h:OwnT B w v ts):
  ∃ a cap,v=.slice a ts.length cap∧ts.length≤cap∧cap≤9223372036854775807 ∧
   (0<ts.length→∃ g,a=some ⟨g,0,none⟩∧B≤g∧g<w.heap.size∧(∀ k (h:k<ts.length),w.cell? ⟨g,k*3,none⟩=some ts[k].1∧w.cell? ⟨g,k*3+1,none⟩=some (.int .i64 ts[k].2.1)∧w.cell? ⟨g,k*3+2,none⟩=some (.int .i64 ts[k].2.2))∧∀ j,w.frozen? ⟨g,j,none⟩=false):=by
 have hfull:=h;obtain ⟨h0,h⟩:=h
 rcases h with ⟨rfl,h1⟩ | ⟨g,cap,cur,rfl,hb,hg,h1,h2,h3,h4⟩
 ·exact ⟨none,0,by rw[h1],by omega,by omega,by omega⟩
 ·refine ⟨_,cap,rfl,h1,h2,fun _=>⟨g,rfl,hb,(Array.getElem?_eq_some_iff.1 hg).1,fun k hk=>?_,fun j=>World.ownsRow.frozenAt hfull j⟩⟩
  have hc:∀ j,j<ts.length*3→cur[j]?=(cellsT ts)[j]?:=fun j hj=>by
   rw[←h4,List.getElem?_take,if_pos hj,Array.getElem?_toList]
  obtain ⟨q1,q2,q3⟩:=cellsT_get ts k hk;rw[cell_of_row _ _ _ _ _ _ hg,cell_of_row _ _ _ _ _ _ hg,cell_of_row _ _ _ _ _ _ hg,hc _ (by omega),hc _ (by omega),hc _ (by omega)];exact ⟨q1,q2,q3⟩
def OwnG (B:Nat) (w:World) (v:Value) (gs:List Gs):Prop:=
 ∃ ts,OwnT B w v ts∧ts.length=gs.length∧(∀ i (h:i<ts.length) (h':i<gs.length),OwnI B w ts[i].1 gs[i].code∧ts[i].2.1=gs[i].right∧ts[i].2.2=gs[i].near) ∧
  ∀ i j (hi:i<ts.length) (hj:j<ts.length),i≠j→ts[i].1.ownBlock=none∨ts[i].1.ownBlock≠ts[j].1.ownBlock
theorem OwnG.empty (B:Nat) (w:World):OwnG B w (.slice none 0 0) []:=⟨[],World.ownsRow_nil w B _ 3,rfl,by simp,by simp⟩
theorem OwnG.lit (w:World):OwnG w.heap.size (w.alloc (.cells #[] 39)) (.slice (some ⟨w.heap.size,0,none⟩) 0 0) []:=
 ⟨[],World.ownsRow_made w #[] 0 (Nat.le_refl _) (by simp[maxLen]) rfl,rfl,by simp,by simp⟩
theorem OwnG.keep {B:Nat} {w w':World} {v:Value} {gs:List Gs} (h:OwnG B w v gs) (hs:Above B w w'):OwnG B w' v gs:=by
 obtain ⟨ts,h1,h2,h3,h4⟩:=h;exact ⟨ts,owns_keep h1 hs,h2,fun i hi hi'=>⟨owns_keep (h3 i hi hi').1 hs,(h3 i hi hi').2⟩,h4⟩
theorem OwnG.below {B:Nat} {w w':World} {v:Value} {gs:List Gs} (h:OwnG B w v gs) (hb:Below w.heap.size w w'):OwnG B w' v gs:=h.keep (.of_below hb)
theorem OwnG.mono {B B':Nat} {w:World} {v:Value} {gs:List Gs} (h:OwnG B w v gs) (hB:B'≤B):OwnG B' w v gs:=by
 obtain ⟨ts,h1,h2,h3,h4⟩:=h;exact ⟨ts,owns_mono h1 hB,h2,fun i hi hi'=>⟨owns_mono (h3 i hi hi').1 hB,(h3 i hi hi').2⟩,h4⟩
theorem OwnG.alloc {B:Nat} {w:World} {v:Value} {gs:List Gs} (h:OwnG B w v gs) (o:Obj):OwnG B (w.alloc o) v gs:=h.below ((Below.refl _ _).alloc (Nat.le_refl _) _)
theorem OwnG.shape {B:Nat} {w:World} {v:Value} {gs:List Gs} (h:OwnG B w v gs):∃ a cap,v=.slice a gs.length cap∧gs.length≤cap∧cap≤9223372036854775807:=by
 obtain ⟨ts,h1,h2,_⟩:=h;obtain ⟨a,cap,e,h3,h4,_⟩:=h1.opened;exact ⟨a,cap,by rw[e,h2],by omega,h4⟩
theorem OwnG.lt {B:Nat} {w:World} {v:Value} {gs:List Gs} (h:OwnG B w v gs) (k:Nat) (hk:v.ownBlock=some k):B≤k∧k<w.heap.size:=by
 obtain ⟨ts,h1,_⟩:=h;exact World.ownsRow.lt h1 k hk
def In64G (gs:List Gs):Prop:=∀ g∈gs,∀ y∈g.code,In64 y
theorem OwnG.toGL {B:Nat} {w:World} {v:Value} {gs:List Gs} (h:OwnG B w v gs) (hr:In64G gs):GL B w v gs:=by
 obtain ⟨ts,h1,h2,h3,_⟩:=h;obtain ⟨a,cap,e,h4,h5,h6⟩:=h1.opened;refine ⟨a,cap,fun i=>(ts.getD i (undef,0,0)).1,by rw[e,h2],by omega,h5,fun hp=>?_,fun i hi=>?_⟩
 ·obtain ⟨g,rfl,hB,_,hc,_⟩:=h6 (by omega)
  refine ⟨g,0,rfl,hB,fun i hi=>?_⟩;obtain ⟨c1,c2,c3⟩:=hc i (by omega);obtain ⟨_,e1,e2⟩:=h3 i (by omega) hi;rw[Nat.zero_add,c1,c2,c3,e1,e2];simp[List.getD,List.getElem?_eq_getElem (show i<ts.length by omega)]
 ·have:=(h3 i (by omega) hi).1
  simp only[List.getD,List.getElem?_eq_getElem (show i<ts.length by omega),Option.getD_some];exact this.toInts (hr _ (List.getElem_mem hi))
theorem OwnG.opened {B:Nat} {w:World} {v:Value} {gs:List Gs} (h:OwnG B w v gs) (hp:0<gs.length):
  ∃ g cap,v=.slice (some ⟨g,0,none⟩) gs.length cap∧B≤g∧g<w.heap.size∧gs.length≤cap∧cap≤9223372036854775807∧(∀ j,w.frozen? ⟨g,j,none⟩=false) ∧
   ∀ k (h:k<gs.length),∃ u,w.cell? ⟨g,k*3,none⟩=some u∧OwnI B w u gs[k].code∧w.cell? ⟨g,k*3+1,none⟩=some (.int .i64 gs[k].right)∧w.cell? ⟨g,k*3+2,none⟩=some (.int .i64 gs[k].near):=by
 obtain ⟨ts,h1,h2,h3,_⟩:=h;obtain ⟨a,cap,e,h4,h5,h6⟩:=h1.opened;obtain ⟨g,rfl,hB,hlt,hc,hf⟩:=h6 (by omega);refine ⟨g,cap,by rw[e,h2],hB,hlt,by omega,h5,hf,fun k hk=>?_⟩;obtain ⟨c1,c2,c3⟩:=hc k (by omega);obtain ⟨q,e1,e2⟩:=h3 k (by omega) hk;exact ⟨ts[k].1,c1,q,by rw[c2,e1],by rw[c3,e2]⟩
theorem infoGuess:(Tryz.prog.info? 39).map (fun i=>(i.zero,i.size,i.bytes))=some (some (.agg #[.slice none 0 0,.int .i64 0,.int .i64 0]),3,40):=by kernel_rfl
theorem wpList_push_g (w:World) {ops:Array Oper} {rest:List Oper} {o:Oper} {a:Act} {Q:Exit→Act→World→Prop}
  (hg:o.guard=none) (s x:Operand) (hop:o.op=Op.call { callee:=Callee.builtin Builtin.append,args:=#[s,x],argTypes:=#[28,28] })
  (B:Nat) (v:Value) (gs:List Gs) (hs:a.eval s=v) (hown:OwnG B w v gs) (N:Nat) (c:Nat) (u:Value) (y:Gs) (hx:a.eval x=.slice (some ⟨N,0,none⟩) 1 c)
  (hc:w.cell? ⟨N,0,none⟩=some u∧w.cell? ⟨N,1,none⟩=some (.int .i64 y.right)∧w.cell? ⟨N,2,none⟩=some (.int .i64 y.near)) (hu:OwnI B w u y.code)
  (hd:∀ ts:List (Value×Int×Int),OwnT B w v ts→∀ i (h:i<ts.length),u.ownBlock=none∨ts[i].1.ownBlock=none∨ts[i].1.ownBlock≠u.ownBlock)
  (hlen:gs.length≤1000000) (hB:B≤w.heap.size)
  (hK:∀ a' cap' w',OwnG B w' (.slice a' (gs.length+1) cap') (gs++[y])→w.grownBy w' v.ownBlock→wpList Tryz.prog ops Q rest (a.put o.dst (.slice a' (gs.length+1) cap')) w'):
  wpList Tryz.prog ops Q (o::rest) a w:=by
 obtain ⟨i0,hi,hz0,hz1,hz2⟩:=info_parts infoGuess;obtain ⟨ts,h1,h2,h3,h4⟩:=hown;have hone:u.oneCell'=true:=by
  obtain ⟨_,_,rfl,_⟩:=own_shape hu
  rfl
 refine wpList_append_own w hg s x 28 hop B 39 i0 (.agg #[.slice none 0 0,.int .i64 0,.int .i64 0]) 3 40 Tryz.underlying28 hi hz0 hz1 hz2 rfl (by decide) v ts.length (cellsT ts) hs h1 ⟨N,0,none⟩ 1 c [u,.int .i64 y.right,.int .i64 y.near] hx rfl ?_ ?_ (by unfold maxLen; omega) (by omega) hB ?_
 ·intro j z hj
  match j,hj with
  | 0,hj=>simp at hj; subst hj; simpa [Addr.add] using hc.1
  | 1,hj=>simp at hj; subst hj; simpa [Addr.add] using hc.2.1
  | 2,hj=>simp at hj; subst hj; simpa [Addr.add] using hc.2.2
 ·intro z hz
  simp only[List.mem_cons,List.mem_nil_iff,or_false] at hz
  rcases hz with rfl | rfl | rfl
  ·exact hone
  ·rfl
  ·rfl
 ·intro v' w' h5 h6 _
  have hap:∀ z ys,OwnI B w z ys→OwnI B w' z ys:=fun z ys hz=>World.ownsRow.kept hz h6 (own_apart hz h1 (by decide))
  obtain ⟨a',cap',rfl,_⟩:=own_shape h5;rw[h2] at h5 ⊢;refine hK a' cap' w' ⟨ts++[(u,y.right,y.near)],?_,by simp[h2],fun i hi' hi''=>?_,fun i j hi' hj' hij=>?_⟩ h6
  ·unfold OwnT
   rw[cellsT_append]
   simpa [h2,cellsT,tC] using h5
  ·by_cases hlt:i<ts.length
   ·rw[List.getElem_append_left hlt,List.getElem_append_left (by omega)]
    have:=h3 i hlt (by omega);exact ⟨hap _ _ this.1,this.2⟩
   ·have e:i=ts.length:=by simp at hi'; omega
    subst e;have:=hap _ _ hu;simp only[List.getElem_append_right (Nat.le_refl _),Nat.sub_self,List.getElem_cons_zero];have e2:(gs++[y])[ts.length]'hi''=y:=by simp[h2]
    rw[e2];exact ⟨this,rfl,rfl⟩
  ·simp only[List.length_append,List.length_cons,List.length_nil] at hi' hj'
   by_cases h7:i<ts.length
   ·rw[List.getElem_append_left h7]
    by_cases h8:j<ts.length
    ·rw[List.getElem_append_left h8]; exact h4 i j h7 h8 hij
    ·have e:j=ts.length:=by omega
     subst e;rw[List.getElem_append_right (Nat.le_refl _)];simp only[Nat.sub_self,List.getElem_cons_zero]
     rcases hd ts h1 i h7 with h | h | h
     ·rw[h]; by_cases e:ts[i].1.ownBlock=none
      ·exact .inl e
      ·exact .inr e
     ·exact .inl h
     ·exact .inr h
   ·have e:i=ts.length:=by omega
    subst e;rw[List.getElem_append_right (Nat.le_refl _),List.getElem_append_left (show j<ts.length by omega)];simp only[Nat.sub_self,List.getElem_cons_zero]
    rcases hd ts h1 j (by omega) with h | h | h
    ·exact .inl h
    ·rw[h]; by_cases e:u.ownBlock=none
     ·exact .inl e
     ·exact .inr e
    ·exact .inr (fun e=>h e.symm)
theorem guess_old {B:Nat} {w w2:World} {v:Value} {gs:List Gs} (h:OwnG B w v gs) (hb:Below w.heap.size w w2) {u:Value} {x:List Int} (hu:OwnI w.heap.size w2 u x):
  ∀ ts:List (Value×Int×Int),OwnT B w2 v ts→∀ i (h:i<ts.length),u.ownBlock=none∨ts[i].1.ownBlock=none∨ts[i].1.ownBlock≠u.ownBlock:=by
 intro ts hts i hi;obtain ⟨ts',h1,h2,h3,_⟩:=h;have e:ts[i].1=(ts'.getD i (undef,0,0)).1∧i<ts'.length:=by
  have h1':OwnT B w2 v ts':=owns_below h1 hb;obtain ⟨a,cap,e1,_,_,q1⟩:=hts.opened;obtain ⟨a',cap',e1',_,_,q2⟩:=h1'.opened;rw[e1] at e1';injection e1' with f1 f2 f3;have hi':i<ts'.length:=by omega
  obtain ⟨g,rfl,_,_,c1,_⟩:=q1 (by omega);obtain ⟨g',f4,_,_,c2,_⟩:=q2 (by omega);rw[f4] at f1;injection f1 with f1;injection f1 with f1 _;subst f1;have a1:=(c1 i hi).1;have a2:=(c2 i hi').1;rw[a1] at a2;exact ⟨by rw[Option.some.inj a2]; simp[List.getD,List.getElem?_eq_getElem hi'],hi'⟩
 obtain ⟨e,hi'⟩:=e;have e':(ts'.getD i (undef,0,0)).1=ts'[i].1:=by simp[List.getD,List.getElem?_eq_getElem hi']
 rw[e,e']
 by_cases hn:u.ownBlock=none
 ·exact .inl hn
 obtain ⟨m,hm⟩:=Option.ne_none_iff_exists'.1 hn
 by_cases hn':ts'[i].1.ownBlock=none
 ·exact .inr (.inl hn')
 obtain ⟨m',hm'⟩:=Option.ne_none_iff_exists'.1 hn';have h4:=(World.ownsRow.lt hu m hm).1;have h5:=(World.ownsRow.lt (h3 i hi' (by omega)).1 m' hm').2;exact .inr (.inr (by rw[hm,hm']; simp; omega))
def lenV:Value→Nat
 | .slice _ n _=>n
 | _=>0
theorem row3_cells {w:World} {g:Nat} {a b c:Value} {t:TypeId} (h:w.heap[g]?=some (.cells #[a,b,c] t (0,0))):w.cell? ⟨g,0,none⟩=some a∧w.cell? ⟨g,1,none⟩=some b∧w.cell? ⟨g,2,none⟩=some c:=by
 refine ⟨?_,?_,?_⟩ <;> rw[cell_of_row _ _ _ _ _ _ h] <;> simp
def SizeDrawn (K:Nat) (a:Option Addr) (cap:Nat) (bs:List Int) (p:Int) (w:World) (e:Ending) (w':World):Prop:=
 ∃ n m:Nat,e=.returned (.tuple #[.int .i64 n,.int .i64 m])∧1≤n∧n≤3∧1≤m∧m≤4∧Drew K a cap bs p 2 w w'
theorem size_any (w:World) (K:Nat) (a:Option Addr) (cap:Nat) (bs:List Int) (p:Int) (h:Rd w K a cap bs p) (hp:p≤10000000000):
  Calls Tryz.prog 123 #[.pointer (some ⟨K,0,none⟩)] w (SizeDrawn K a cap bs p w):=by
 have hP:=pick_any 3 w K a cap bs p h (by omega) (by unfold In64; omega);clear h;go_enter Tryz.func123,Tryz.ntmps123;go_wp2_with fail;refine hP.mono ?_;rintro e w1 ⟨x,rfl,hx0,hx1,⟨p1,hR1,hp1⟩,hg1⟩;have hx1:=hx1 (by omega);have hP2:=pick_any 4 w1 K a cap bs p1 hR1 (by omega) (by unfold In64; omega);have HG1:=hdd hg1;clear hP hR1 hg1;go_wp2_with fail;refine hP2.mono ?_;rintro e w2 ⟨y,rfl,hy0,hy1,⟨p2,hR2,hp2⟩,hg2⟩;have hy1:=hy1 (by omega);obtain ⟨X,rfl⟩:∃ X:Nat,x=(X:Int):=⟨x.toNat,by omega⟩
 obtain ⟨Y,rfl⟩:∃ Y:Nat,y=(Y:Int):=⟨y.toNat,by omega⟩
 have HG2:=hdd (grown_trans HG1.out hg2);have HR2:=hdd hR2;clear hP2 hR2 hg2;go_wp2;go_ret2;exact ⟨1+X,1+Y,by simp,by omega,by omega,by omega,by omega,⟨p2,HR2.out,by omega⟩,HG2.out⟩
def GsDrawn (K:Nat) (a:Option Addr) (cap:Nat) (bs:List Int) (p:Int) (n:Int) (w:World) (e:Ending) (w':World):Prop:=
 ∃ (x c:Int) (gs:List Gs) (a':Option Addr) (c':Nat),e=.returned (.tuple #[.int .i64 x,.int .i64 c,.slice a' gs.length c'])∧OwnG w.heap.size w' (.slice a' gs.length c') gs∧In64G gs∧gs.length≤4 ∧
  1≤x∧x≤4∧0≤c∧c≤4∧(n=0→x≤3∧1≤c)∧(∀ g∈gs,g.code.length≤10)∧Drew K a cap bs p 100 w w'
theorem guess_oldA {B:Nat} {w w2:World} {v:Value} {gs:List Gs} (h:OwnG B w v gs) (hb:Above B w w2) {u:Value} {x:List Int} (hu:OwnI w.heap.size w2 u x):
  ∀ ts:List (Value×Int×Int),OwnT B w2 v ts→∀ i (h:i<ts.length),u.ownBlock=none∨ts[i].1.ownBlock=none∨ts[i].1.ownBlock≠u.ownBlock:=by
 intro ts hts i hi;obtain ⟨ts',h1,h2,h3,_⟩:=h;have e:ts[i].1=(ts'.getD i (undef,0,0)).1∧i<ts'.length:=by
  have h1':OwnT B w2 v ts':=owns_keep h1 hb;obtain ⟨a,cap,e1,_,_,q1⟩:=hts.opened;obtain ⟨a',cap',e1',_,_,q2⟩:=h1'.opened;rw[e1] at e1';injection e1' with f1 f2 f3;have hi':i<ts'.length:=by omega
  obtain ⟨g,rfl,_,_,c1,_⟩:=q1 (by omega);obtain ⟨g',f4,_,_,c2,_⟩:=q2 (by omega);rw[f4] at f1;injection f1 with f1;injection f1 with f1 _;subst f1;have a1:=(c1 i hi).1;have a2:=(c2 i hi').1;rw[a1] at a2;exact ⟨by rw[Option.some.inj a2]; simp[List.getD,List.getElem?_eq_getElem hi'],hi'⟩
 obtain ⟨e,hi'⟩:=e;have e':(ts'.getD i (undef,0,0)).1=ts'[i].1:=by simp[List.getD,List.getElem?_eq_getElem hi']
 rw[e,e']
 by_cases hn:u.ownBlock=none
 ·exact .inl hn
 obtain ⟨m,hm⟩:=Option.ne_none_iff_exists'.1 hn
 by_cases hn':ts'[i].1.ownBlock=none
 ·exact .inr (.inl hn')
 obtain ⟨m',hm'⟩:=Option.ne_none_iff_exists'.1 hn';have h4:=(World.ownsRow.lt hu m hm).1;have h5:=(World.ownsRow.lt (h3 i hi' (by omega)).1 m' hm').2;exact .inr (.inr (by rw[hm,hm']; simp; omega))
def GsW (w w2:World) (K:Nat) (a:Option Addr) (cap:Nat) (bs:List Int) (q:Int) (ao:Option Addr) (k co:Nat) (wi:World):Prop:=
 ∃ gs:List Gs,gs.length=k∧OwnG w2.heap.size wi (.slice ao k co) gs∧In64G gs∧(∀ g∈gs,g.code.length≤10)∧(∃ p',Rd wi K a cap bs p'∧p'≤q)∧w.grownBy wi (some K)∧Above w.heap.size w2 wi∧w2.heap.size≤wi.heap.size
theorem above_step {B:Nat} {w2 wi w5:World} (h:Above B w2 wi) (hz:w2.heap.size≤wi.heap.size) (h':Above B wi w5):Above B w2 w5:=fun b h1 h2=>(h' b h1 (by omega)).trans (h b h1 h2)
theorem GsW.pick {w w2 wi:World} {K:Nat} {a:Option Addr} {cap:Nat} {bs:List Int} {q n:Int} {ao:Option Addr} {m co:Nat} (h:GsW w w2 K a cap bs q ao m co wi) (hz:w.heap.size≤w2.heap.size) (hK:K<w.heap.size) (hq:q≤100000000000) (hn:In64 n):
  Calls Tryz.prog 41 #[.pointer (some ⟨K,0,none⟩),.int .i64 n] wi fun e w'=>∃ r,e=.returned (.int .i64 r)∧0≤r∧(1≤n→r<n)∧GsW w w2 K a cap bs (q+1) ao m co w':=by
 obtain ⟨gs,h1,h2,h3,h3',⟨p,h5,h6⟩,h7,h8,h9⟩:=h;refine (pick_any n _ K a cap bs p h5 (by omega) hn).mono ?_;rintro e w' ⟨r,rfl,hr0,hr1,⟨p',hR,hp⟩,hg⟩;exact ⟨r,rfl,hr0,hr1,gs,h1,h2.keep (Above.of_grown hg (by omega)),h3,h3',⟨p',hR,by omega⟩,grown_trans h7 hg,above_step h8 h9 (Above.of_grown hg hK),by have:=hg.size; omega⟩
theorem GsW.odd {w w2 wi:World} {K:Nat} {a:Option Addr} {cap:Nat} {bs:List Int} {q n:Int} {ao:Option Addr} {m co:Nat} (h:GsW w w2 K a cap bs q ao m co wi) (hz:w.heap.size≤w2.heap.size) (hK:K<w.heap.size) (hq:q≤100000000000) (hn:In64 n):
  Calls Tryz.prog 48 #[.pointer (some ⟨K,0,none⟩),.int .i64 n] wi fun e w'=>∃ b,e=.returned (.bool b)∧(n=0→b=false)∧GsW w w2 K a cap bs (q+1) ao m co w':=by
 by_cases hzn:n=0
 ·subst hzn
  refine (odd_zero wi K).mono ?_;rintro e w' ⟨rfl,rfl⟩;obtain ⟨gs,h1,h2,h3,h3',⟨p,h5,h6⟩,h7,h8,h9⟩:=h;exact ⟨false,rfl,fun _=>rfl,gs,h1,h2,h3,h3',⟨p,h5,by omega⟩,h7,h8,h9⟩
 ·obtain ⟨gs,h1,h2,h3,h3',⟨p,h5,h6⟩,h7,h8,h9⟩:=h
  refine (odd_any n _ K a cap bs p h5 (by omega) hn).mono ?_;rintro e w' ⟨b,rfl,⟨p',hR,hp⟩,hg⟩;exact ⟨b,rfl,fun e=>absurd e hzn,gs,h1,h2.keep (Above.of_grown hg (by omega)),h3,h3',⟨p',hR,by omega⟩,grown_trans h7 hg,above_step h8 h9 (Above.of_grown hg hK),by have:=hg.size; omega⟩
theorem GsW.push {w w2 wi:World} {K:Nat} {a:Option Addr} {cap:Nat} {bs:List Int} {q':Int} {ao:Option Addr} {k co:Nat} (hz:w.heap.size≤w2.heap.size) (hK:K<w.heap.size) {w7:World} {p':Int} {y:Gs} {o:Obj} {a7:Option Addr} {c7:Nat} {gs:List Gs}
  (hgs:gs.length=k) (hin:In64G gs) (h10:∀ g∈gs,g.code.length≤10) (hown:OwnG w2.heap.size wi (.slice ao k co) gs)
  (hR:Rd wi K a cap bs p') (hp:p'≤q') (h7:w.grownBy wi (some K)) (h8:Above w.heap.size w2 wi) (h9:w2.heap.size≤wi.heap.size) (hy:∀ z∈y.code,In64 z) (hy10:y.code.length≤10)
  (ho:OwnG w2.heap.size w7 (.slice a7 (k+1) c7) (gs++[y])) (hg7:(wi.alloc o).grownBy w7 (Value.slice ao k co).ownBlock):GsW w w2 K a cap bs q' a7 (k+1) c7 w7:=by
 have hblk:∀ j,(Value.slice ao k co).ownBlock=some j→w2.heap.size≤j:=fun j hj=>(hown.lt j hj).1
 have hsz:=hg7.size;have hsa:(wi.alloc o).heap.size=wi.heap.size+1:=by simp
 refine ⟨gs++[y],by simp[hgs],ho,?_,?_,⟨p',rd_grown (hR.below ((Below.refl _ _).alloc (Nat.le_refl _) o)) hg7 (fun j hj=>by have:=hblk j hj; omega),hp⟩,
  (h7.andThen (World.grownBy_alloc wi o none) (fun _ e=>by cases e)).andThen hg7 (fun j hj=>.inl (by have:=hblk j hj; omega)),fun b q1 q2=>?_,by omega⟩
 ·intro g hg
  rcases List.mem_append.1 hg with hg | hg
  ·exact hin g hg
  ·simp only[List.mem_singleton] at hg; subst hg; exact hy
 ·intro g hg
  rcases List.mem_append.1 hg with hg | hg
  ·exact h10 g hg
  ·simp only[List.mem_singleton] at hg; subst hg; exact hy10
 ·rw[hg7.block b (by omega) (fun e=>by have:=hblk b e.symm; omega),Below.heap_alloc wi o b (by omega)]
  exact h8 b q1 q2
theorem gs_done {w w2 wi:World} {K:Nat} {a:Option Addr} {cap:Nat} {bs:List Int} {p q:Int} {ao:Option Addr} {k co:Nat} {n x c:Int} (h:GsW w w2 K a cap bs q ao k co wi) (hz:w.heap.size≤w2.heap.size) (hk:k≤4) (hq:q≤p+100)
  (h1:1≤x) (h2:x≤4) (h3:0≤c) (h4:c≤4) (h5:n=0→x≤3∧1≤c):GsDrawn K a cap bs p n w (.returned (.tuple #[.int .i64 x,.int .i64 c,.slice ao k co])) wi:=by
 obtain ⟨gs,rfl,ho,h64,h10,⟨p',hR,hp⟩,hg,_,_⟩:=h;exact ⟨x,c,gs,ao,co,rfl,ho.mono hz,h64,hk,h1,h2,h3,h4,h5,h10,⟨p',hR,by omega⟩,hg⟩
set_option maxHeartbeats 1000000 in
theorem guessing_any (n:Int) (w:World) (K:Nat) (a:Option Addr) (cap:Nat) (bs:List Int) (p:Int) (h:Rd w K a cap bs p) (hp:p≤1000000000) (hn0:0≤n) (hn1:n≤100):
  Calls Tryz.prog 85 #[.pointer (some ⟨K,0,none⟩),.int .i64 n] w (GsDrawn K a cap bs p n w):=by
 have hKw:=h.lt;have hS:=size_any w K a cap bs p h (by omega);clear h;go_enter Tryz.func85,Tryz.ntmps85;go_wp2_with fail;refine hS.mono ?_;rintro e w1 ⟨N,m,rfl,hN1,hN3,hm1,hm4,⟨p1,hR1,hp1⟩,hg1⟩;have hz1:=hg1.size;have hC:=code_any N m 0 m w1 K a cap bs p1 hR1 (by omega) (by omega) (by omega) (by omega) (by omega) (by omega) (by omega) (.inl rfl) (by omega);have HG1:=hdd hg1;clear hS hR1 hg1;go_wp2_with fail;refine hC.mono ?_;rintro e w2 ⟨ys,a2,c2,rfl,hy2,hyp,_,_,⟨p2,hR2,hp2⟩,hg2⟩;have hyp:=hyp rfl;have hz2:=hg2.size;have HCP:=hdd (show CodeP N m ys from ⟨⟨⟨by omega,by omega⟩,by omega,by omega⟩,hyp.1,fun y hy=>by have:=hyp.2 y hy; omega⟩);have HY:=hdd (hy2.mono hz1);have hW0:GsW w w2 K a cap bs p2 (some ⟨w2.heap.size,0,none⟩) 0 0 (w2.alloc (.cells #[] 39)):=
  ⟨[],rfl,OwnG.lit w2,fun g hg=>by simp at hg,fun g hg=>by simp at hg,⟨p2,hR2.below ((Below.refl _ _).alloc (Nat.le_refl _) _),by omega⟩,(grown_trans HG1.out hg2).andThen (World.grownBy_alloc w2 _ none) (fun _ e=>by cases e),Above.of_below ((Below.refl _ _).alloc (Nat.le_refl _) _),by simp⟩
 have hz02:w.heap.size≤w2.heap.size:=by omega
 have hP:=hW0.pick (n:=4) hz02 hKw (by omega) (by unfold In64; omega);clear hC hR2 hg2 hy2 hyp HG1 hW0;go_wp2_with fail;refine hP.mono ?_;rintro e w3 ⟨kk,rfl,hk0,hk1,hW3⟩;have hk1:=hk1 (by omega);have HW3:=hdd hW3;clear hP hW3;go_wp2;go_loopw [10,11] (fun lv kv wi=>∃ (k:Nat) (ao:Option Addr) (co:Nat),k≤3∧(k:Int)≤kk∧kv=.int .i64 (kk-k)∧lv=.slice ao k co∧GsW w w2 K a cap bs (p+20+20*k) ao k co wi) (fun _ kv _=>(intOf kv).toNat)
 case atStart=>
  obtain ⟨gs,q1,q2,q3,q4,⟨p',q5,q6⟩,q7,q8,q9⟩:=HW3.out;exact ⟨0,_,0,by omega,by omega,by simp,rfl,gs,q1,q2,q3,q4,⟨p',q5,by omega⟩,q7,q8,q9⟩
 case round=>
  obtain ⟨k,ao,co,hk3,hkk,rfl,rfl,hW⟩:=hrel;obtain ⟨wk,rfl⟩:∃ x,x=wr:=⟨_,rfl⟩
  clear HW3
  by_cases hlt:0<kk-(k:Int)
  ·obtain ⟨gs,hl,ho,h64,h10,⟨p',hR,hp'⟩,hg,hA,hzz⟩:=hW
   have hC:=code_any N m 0 m wk K a cap bs p' hR (by omega) (by omega) (by omega) (by omega) (by omega) (by omega) (by omega) (.inl rfl) (by omega);have HL:=hdd hl;have HO:=hdd ho;have H64:=hdd h64;have H10:=hdd h10;have HG:=hdd hg;have HA:=hdd hA;clear hl ho h64 h10 hR hg hA;go_wp2_with fail;refine hC.mono ?_;rintro e w4 ⟨zs,a4,c4,rfl,hu4,hzp,hzi,hz10,⟨p4,hR4,hp4⟩,hg4⟩;have hzp:=hzp rfl;have hz4:=hg4.size;have HCZ:=hdd (show CodeP N m zs from ⟨⟨⟨by omega,by omega⟩,by omega,by omega⟩,hzp.1,fun y hy=>by have:=hzp.2 y hy; omega⟩);have hA4:Above w.heap.size w2 w4:=above_step HA.out hzz (Above.of_grown hg4 hKw);have hAn:=answerS_ok N m _ _ ys zs w4 ((HY.out.keep hA4).toInts (code_in64 HCP.out)) (hu4.toInts (code_in64 HCZ.out)) HCP.out HCZ.out;have hbd:=ans_bounds HCP.out HCZ.out;have HU4:=hdd hu4;have HR4:=hdd hR4;have HG4:=hdd hg4;have HA4:=hdd hA4;have HZI:=hdd hzi;have HZ10:=hdd hz10;clear hC hu4 hzp hR4 hg4 hA4 hzi hz10;obtain ⟨r,hr⟩:∃ r,r=rightZ ys zs:=⟨_,rfl⟩
   obtain ⟨nr,hnr⟩:∃ nr,nr=nearZ ys zs:=⟨_,rfl⟩
   rw[←hr,←hnr] at hAn hbd;obtain ⟨hbd1,hbd2,hbd3,hbd4⟩:=hbd;clear hr hnr;go_wp2_with fail;refine hAn.mono ?_;rintro e w5 ⟨rfl,hq⟩;have hD:Drawn w4 w5:=hq;have hz5:=hD.below.size;have hP:=pick_any 20 w5 K a cap bs p4 (HR4.out.below hD.below) (by omega) (by unfold In64; omega);have HU5:=hdd (HU4.out.below hD.below);have HG5:=hdd (grown_trans HG4.out (grown_of_below hD.below));have HA5:=hdd (above_step HA4.out (by omega) (.of_below hD.below));clear hAn hq hD;go_wp2_with fail;refine hP.mono ?_;rintro e w6 ⟨z,rfl,hz0,hz1',⟨p6,hR6,hp6⟩,hg6⟩;have hz1':=hz1' (by omega);have hz6:=hg6.size;have hyq:z.tdiv 19=z/19:=Int.tdiv_eq_ediv_of_nonneg hz0;have HU6:=hdd (HU5.out.keep (Above.of_grown hg6 (by omega)));have HG6:=hdd (grown_trans HG5.out hg6);have HA6:=hdd (above_step HA5.out (by omega) (Above.of_grown hg6 hKw));have HR6:=hdd hR6;clear hP hR6 hg6;obtain ⟨T,hT⟩:∃ T,T=r+z/19:=⟨_,rfl⟩
   have HT:=hdd hT;have HK:=hdd (show Above w2.heap.size wk w6 from Above.of_grown HG6.out (by omega));have HO6:=hdd (HO.out.keep HK.out);have hbG:Below w6.heap.size w6 (w6.alloc (.cells #[.slice a4 zs.length c4,.int .i64 (r+z/19),.int .i64 nr] 39)):=(Below.refl _ _).alloc (Nat.le_refl _) _;have HOA:=hdd (HO6.out.below hbG);have HUA:=hdd ((HU6.out.below hbG).mono hzz);have HDI:=hdd (guess_oldA HO.out (above_step HK.out (by omega) (.of_below hbG)) (HU6.out.below hbG));have HCC:=hdd (row3_cells (heap_alloc_new w6 (.cells #[.slice a4 zs.length c4,.int .i64 (r+z/19),.int .i64 nr] 39)));have HSZ:=hdd (show w2.heap.size≤(w6.alloc (.cells #[.slice a4 zs.length c4,.int .i64 (r+z/19),.int .i64 nr] 39)).heap.size by rw[World.size_alloc]; omega);clear hbG hT;go_wp2_with (at_builtin; refine wpList_push_g (w6.alloc (.cells #[.slice a4 zs.length c4,.int .i64 (r+z/19),.int .i64 nr] 39)) rfl (.tmp 43) (.tmp 52) rfl w2.heap.size (.slice ao k co) gs rfl HOA.out w6.heap.size 1 (.slice a4 zs.length c4) ⟨zs,r+z/19,nr⟩ rfl HCC.out HUA.out HDI.out (by have:=HL.out; omega) HSZ.out ?_; intro a7 c7 w7 ho7 hg7; rw[HL.out] at ho7 ⊢; have HW7:=hdd (GsW.push (q':=p+20+20*((k+1:Nat):Int)) hz02 hKw HL.out H64.out H10.out HO6.out HR6.out (by omega) (grown_trans HG.out HG6.out) HA6.out (by omega) HZI.out HZ10.out ho7 hg7); clear ho7 hg7);go_roundw
   case rel=>exact ⟨k+1,a7,c7,by omega,by omega,by go_num,rfl,HW7.out⟩
   case measure=>simp[intOf]; omega
  ·have hkz:(k:Int)=kk:=by omega
   have hO:=hW.odd (n:=n) hz02 hKw (by omega) (by unfold In64; omega);clear hW;go_wp2_with fail;refine hO.mono ?_;rintro e w5 ⟨b,rfl,hb0,hW5⟩;have HB0:=hdd hb0;clear hO hb0
   cases b
   ·have HF:=hdd (gs_done (p:=p) (n:=n) (x:=(N:Int)) (c:=(m:Int)) hW5 hz02 (by omega) (by omega) (by omega) (by omega) (by omega) (by omega) (fun _=>⟨by omega,by omega⟩))
    clear hW5;go_wp2;go_ret3;exact HF.out
   ·have hnz:n≠0:=fun e=>by have:=HB0.out e; cases this
    have hP:=hW5.pick (n:=3) hz02 hKw (by omega) (by unfold In64; omega);clear hW5;go_wp2_with fail;refine hP.mono ?_;rintro e w6 ⟨r,rfl,hr0,hr1,hW6⟩;clear hP;have HNZ:=hdd hnz;clear hnz
    by_cases hr:r=0
    ·subst hr
     have HF:=hdd (gs_done (p:=p) (n:=n) (x:=4) (c:=(m:Int)) hW6 hz02 (by omega) (by omega) (by omega) (by omega) (by omega) (by omega) (fun e=>absurd e HNZ.out));clear hW6;go_wp2;go_ret3;exact HF.out
    ·by_cases hr':r=1
     ·subst hr'
      have HF:=hdd (gs_done (p:=p) (n:=n) (x:=(N:Int)) (c:=0) hW6 hz02 (by omega) (by omega) (by omega) (by omega) (by omega) (by omega) (fun e=>absurd e HNZ.out));clear hW6;go_wp2;go_ret3;exact HF.out
     ·have hb1:(r==0)=false:=by simpa using hr
      have hb2:(r==1)=false:=by simpa using hr'
      obtain ⟨gs,hl,ho,h64,h10,⟨p',hR,hp'⟩,hg,hA,hzz⟩:=hW6;have hbG:Below w6.heap.size w6 (w6.alloc (.cells #[.slice none 0 0,.int .i64 (-1),.int .i64 0] 39)):=(Below.refl _ _).alloc (Nat.le_refl _) _;have HL:=hdd hl;have HO:=hdd ho;have H64:=hdd h64;have H10:=hdd h10;have HG:=hdd hg;have HA:=hdd hA;have HR:=hdd hR;have HOA:=hdd (ho.below hbG);have HUA:=hdd (OwnI.empty w2.heap.size (w6.alloc (.cells #[.slice none 0 0,.int .i64 (-1),.int .i64 0] 39)));have HCC:=hdd (row3_cells (heap_alloc_new w6 (.cells #[.slice none 0 0,.int .i64 (-1),.int .i64 0] 39)));have HSZ:=hdd (show w2.heap.size≤(w6.alloc (.cells #[.slice none 0 0,.int .i64 (-1),.int .i64 0] 39)).heap.size by rw[World.size_alloc]; omega);clear hl ho h64 h10 hR hg hA hr hr' hbG;go_wp2_with (at_builtin; refine wpList_push_g (w6.alloc (.cells #[.slice none 0 0,.int .i64 (-1),.int .i64 0] 39)) rfl (.tmp 61) (.tmp 63) rfl w2.heap.size (.slice ao k co) gs rfl HOA.out w6.heap.size 1 (.slice none 0 0) ⟨[],-1,0⟩ rfl HCC.out HUA.out (fun ts _ i _=>.inl rfl) (by have:=HL.out; omega) HSZ.out ?_; intro a7 c7 w7 ho7 hg7; rw[HL.out] at ho7 ⊢; have HW7:=hdd (GsW.push (q':=p+100) hz02 hKw HL.out H64.out H10.out HO.out HR.out (by omega) HG.out HA.out hzz (by simp) (by simp) ho7 hg7); clear ho7 hg7);have HF:=hdd (gs_done (p:=p) (n:=n) (x:=(N:Int)) (c:=(m:Int)) HW7.out hz02 (by omega) (by omega) (by omega) (by omega) (by omega) (by omega) (fun e=>absurd e HNZ.out));go_ret3;exact HF.out
theorem OwnG.pushed {B:Nat} {w:World} {v:Value} {gs:List Gs} (h:OwnG B w v gs) {u:Value} {y:Gs} (hu:OwnI B w u y.code)
  (hd:∀ ts:List (Value×Int×Int),OwnT B w v ts→∀ i (h:i<ts.length),u.ownBlock=none∨ts[i].1.ownBlock=none∨ts[i].1.ownBlock≠u.ownBlock):
  ∃ ts:List (Value×Int×Int),w.ownsRow B 39 3 v gs.length (cellsT ts)∧ts.length=gs.length ∧
   ∀ w' v',w'.ownsRow B 39 3 v' (gs.length+1) (cellsT ts++[u,.int .i64 y.right,.int .i64 y.near])→w.grownBy w' v.ownBlock→OwnG B w' v' (gs++[y]):=by
 obtain ⟨ts,h1,h2,h3,h4⟩:=h;refine ⟨ts,by rw[←h2]; exact h1,h2,fun w' v' h5 h6=>?_⟩;have hap:∀ z ys,OwnI B w z ys→OwnI B w' z ys:=fun z ys hz=>World.ownsRow.kept hz h6 (own_apart hz h1 (by decide))
 refine ⟨ts++[(u,y.right,y.near)],?_,by simp[h2],fun i hi' hi''=>?_,fun i j hi' hj' hij=>?_⟩
 ·unfold OwnT
  rw[cellsT_append]
  simpa [h2,cellsT,tC] using h5
 ·by_cases hlt:i<ts.length
  ·rw[List.getElem_append_left hlt,List.getElem_append_left (by omega)]
   have:=h3 i hlt (by omega);exact ⟨hap _ _ this.1,this.2⟩
  ·have e:i=ts.length:=by simp at hi'; omega
   subst e;have:=hap _ _ hu;simp only[List.getElem_append_right (Nat.le_refl _),Nat.sub_self,List.getElem_cons_zero];have e2:(gs++[y])[ts.length]'hi''=y:=by simp[h2]
   rw[e2];exact ⟨this,rfl,rfl⟩
 ·simp only[List.length_append,List.length_cons,List.length_nil] at hi' hj'
  by_cases h7:i<ts.length
  ·rw[List.getElem_append_left h7]
   by_cases h8:j<ts.length
   ·rw[List.getElem_append_left h8]; exact h4 i j h7 h8 hij
   ·have e:j=ts.length:=by omega
    subst e;rw[List.getElem_append_right (Nat.le_refl _)];simp only[Nat.sub_self,List.getElem_cons_zero]
    rcases hd ts h1 i h7 with h | h | h
    ·rw[h]; by_cases e:ts[i].1.ownBlock=none
     ·exact .inl e
     ·exact .inr e
    ·exact .inl h
    ·exact .inr h
  ·have e:i=ts.length:=by omega
   subst e;rw[List.getElem_append_right (Nat.le_refl _),List.getElem_append_left (show j<ts.length by omega)];simp only[Nat.sub_self,List.getElem_cons_zero]
   rcases hd ts h1 j (by omega) with h | h | h
   ·exact .inl h
   ·rw[h]; by_cases e:u.ownBlock=none
    ·exact .inl e
    ·exact .inr e
   ·exact .inr (fun e=>h e.symm)
theorem OwnG.take {B:Nat} {w:World} {g n cap:Nat} {gs:List Gs} (h:OwnG B w (.slice (some ⟨g,0,none⟩) n cap) gs) (k:Nat) (hk:k≤gs.length):OwnG B w (.slice (some ⟨g,0,none⟩) k cap) (gs.take k):=by
 obtain ⟨ts,⟨h1,h1'⟩,h2,h3,h4⟩:=h;have hct:∀ (ts:List (Value×Int×Int)) k,(cellsT ts).take (k*3)=cellsT (ts.take k):=by
  intro ts
  induction ts with
  | nil=>intro k; simp[cellsT]
  | cons t ts ih=>
   intro k
   cases k with
   | zero=>simp[cellsT]
   | succ k=>
    rw[cellsT_cons,List.take_succ_cons,cellsT_cons,←ih k,Nat.succ_mul,Nat.add_comm];have e:(tC t).length=3:=rfl;rw[←e,List.take_length_add_append]
 refine ⟨ts.take k,⟨by rw[cellsT_length],?_⟩,by simp[h2],fun i hi hi'=>?_,fun i j hi hj hij=>?_⟩
 ·rcases h1' with ⟨e,_⟩ | ⟨g',cap',cur,e,hb,hg,q1,q2,q3,q4⟩
  ·cases e
  ·injection e with e1 e2 e3
   injection e1 with e1;injection e1 with e1 _ _;subst e1 e3;refine .inr ⟨g,cap,cur,?_,hb,hg,?_,q2,q3,?_⟩
   ·congr 1; simp <;> omega
   ·simp <;> omega
   ·rw[←hct,←q4,List.take_take]
    congr 1
    simp <;> omega
 ·simp only[List.getElem_take]
  exact h3 i (by simp at hi; omega) (by simp at hi'; omega)
 ·simp only[List.getElem_take]
  exact h4 i j (by simp at hi; omega) (by simp at hj; omega) hij
theorem run_push_any {B C:Nat} (w:World) (ty:TypeId) (v:Value) (xs:List Int) (hown:OwnI B w v xs) (u:Value) (ys:List Int) (hu:Ints C w u ys) (hlen:xs.length+ys.length≤1099511627776) (hB:B≤w.heap.size):
  ∃ a' cap' w',(Builtin.append_ #[37,37] ty #[v,u]).run Tryz.prog w=.ok (.slice a' (xs.length+ys.length) cap') w'∧OwnI B w' (.slice a' (xs.length+ys.length) cap') (xs++ys)∧w.grownBy w' v.ownBlock:=by
 obtain ⟨a,cap,rfl,hcap,hmax,hcells⟩:=hu.opened;obtain ⟨i0,hi,hz0,hz1,hz2⟩:=info_parts infoInt
 cases a with
 | none=>
  have hz:ys=[]:=by
   cases ys with
   | nil=>rfl
   | cons y t=>
    obtain ⟨b,off,e,_⟩:=hcells (by simp)
    cases e
  subst hz;obtain ⟨av,cv,hv,_⟩:=own_shape hown;have:=run_append_ints_nil w ty hown cap;refine ⟨av,cv,w,?_,?_,World.grownBy.refl w _⟩
  ·simp only[List.length_nil,Nat.add_zero]
   rw[this,hv]
  ·rw[List.append_nil]
   simp only[List.length_nil,Nat.add_zero];rw[←hv]; exact hown
 | some ad=>
  have hnews:∀ j u,(ints ys)[j]?=some u→w.cell? (ad.add j)=some u:=fun j u hj=>by
   have hlt:j<ys.length:=by
    have:=(List.getElem?_eq_some_iff.1 hj).1
    simpa using this
   have:(ints ys)[j]?=some (.int .i64 ys[j]):=by rw[List.getElem?_eq_getElem (by simpa using hlt)]; simp
   rw[this] at hj;obtain rfl:=Option.some.inj hj;obtain ⟨b,off,e,_,hc⟩:=hcells (by omega);injection e with e;subst e;have hq:=hc j hlt
   by_cases h0:j=0
   ·subst h0; simpa [Addr.add] using hq
   ·simpa [Addr.add,h0] using hq
  obtain ⟨v',w',hrun,h5,h6,_,_⟩:=run_append_own_at (P:=Tryz.prog) w B 37 ty 3 i0 (.int .i64 0) 1 8 Tryz.underlying37 hi hz0 hz1 hz2 rfl (by decide) v xs.length (ints xs) hown ad ys.length cap (ints ys) (by simp) hnews (by intro u hu; obtain ⟨y,_,rfl⟩:=List.mem_map.1 hu; simp[Value.oneCell']) (by unfold maxLen; omega) (by omega) hB;obtain ⟨a',cap',rfl,_⟩:=own_shape h5;refine ⟨a',cap',w',hrun,?_,h6⟩;unfold OwnI;rw[ints_append]
  simpa [ints] using h5
theorem step_push_any {ops:Array Oper} {o:Oper} {a:Act} {K:Act→World→Prop} {Q:Exit→Act→World→Prop} {E:Prop} {B C:Nat} (w:World) (hgd:o.guard=none) (s x:Operand)
  (hop:o.op=Op.call { callee:=Callee.builtin Builtin.append,args:=#[s,x],argTypes:=#[37,37] }) (v:Value) (xs:List Int) (hs:a.eval s=v) (hown:OwnI B w v xs) (u:Value) (ys:List Int) (hx:a.eval x=u) (hu:Ints C w u ys)
  (hlen:xs.length+ys.length≤1099511627776) (hB:B≤w.heap.size)
  (h:∀ a' cap' w',OwnI B w' (.slice a' (xs.length+ys.length) cap') (xs++ys)→w.grownBy w' v.ownBlock→K (a.put o.dst (.slice a' (xs.length+ys.length) cap')) w'):
  if Region.wanted o (yielded ops a.tmps)=true then Oper.wp Tryz.prog o a w K Q else E:=by
 have hw:Region.wanted o (yielded ops a.tmps)=true:=by simp[Region.wanted,hgd]
 rw[if_pos hw];obtain ⟨a',cap',w',hrun,h1,h2⟩:=run_push_any w o.type v xs hown u ys hu hlen hB;unfold Oper.wp;simp[execOp,hop,resolve,invoke,builtin,hs,hx,hrun,Result.andThen];exact h a' cap' w' h1 h2
theorem step_push_g {ops:Array Oper} {o:Oper} {a:Act} {K:Act→World→Prop} {Q:Exit→Act→World→Prop} {E:Prop} {B:Nat} (w:World) (hgd:o.guard=none) (s x:Operand)
  (hop:o.op=Op.call { callee:=Callee.builtin Builtin.append,args:=#[s,x],argTypes:=#[28,28] }) (v:Value) (gs:List Gs) (hs:a.eval s=v) (hown:OwnG B w v gs) (N c:Nat) (u:Value) (y:Gs) (hx:a.eval x=.slice (some ⟨N,0,none⟩) 1 c)
  (hc:w.heap[N]?=some (.cells #[u,.int .i64 y.right,.int .i64 y.near] 39 (0,0))) (hu:OwnI B w u y.code)
  (hd:∀ ts:List (Value×Int×Int),OwnT B w v ts→∀ i (h:i<ts.length),u.ownBlock=none∨ts[i].1.ownBlock=none∨ts[i].1.ownBlock≠u.ownBlock)
  (hlen:gs.length≤1000000) (hB:B≤w.heap.size)
  (h:∀ a' cap' w',OwnG B w' (.slice a' (gs.length+1) cap') (gs++[y])→w.grownBy w' v.ownBlock→K (a.put o.dst (.slice a' (gs.length+1) cap')) w'):
  if Region.wanted o (yielded ops a.tmps)=true then Oper.wp Tryz.prog o a w K Q else E:=by
 obtain ⟨i0,hi,hz0,hz1,hz2⟩:=info_parts infoGuess;obtain ⟨ts,t1,t2,t3⟩:=hown.pushed hu hd;have hone:u.oneCell'=true:=by
  obtain ⟨_,_,rfl,_⟩:=own_shape hu
  rfl
 refine step_append_lies w hgd s x 28 hop B 39 i0 (.agg #[.slice none 0 0,.int .i64 0,.int .i64 0]) 3 40 Tryz.underlying28 hi hz0 hz1 hz2 rfl (by decide) v gs.length (cellsT ts) hs t1 ⟨N,0,none⟩ 1 c [u,.int .i64 y.right,.int .i64 y.near] hx rfl (fun j z hj=>World.news_of_block hc j z (by simpa using hj)) ?_ (by omega) (by unfold maxLen; omega) (by omega) hB _ rfl ?_
 ·intro z hz
  simp only[List.mem_cons,List.mem_nil_iff,or_false] at hz
  rcases hz with rfl | rfl | rfl
  ·exact hone
  ·rfl
  ·rfl
 ·intro g cap' w' h1 h2 _ _
  exact h _ cap' w' (t3 w' _ h1 h2) h2
def markGs:List Gs→Int→List Gs
 | [],_=>[]
 | g::gs,k=>⟨markL g.code.length k,k+g.code.length,k+g.code.length+1⟩::markGs gs (k+g.code.length+2)
@[simp] theorem markGs_length:∀ (gs:List Gs) (k:Int),(markGs gs k).length=gs.length
 | [],_=>rfl
 | g::gs,k=>by simp[markGs,markGs_length gs]
def DeskOut (p c:Int) (gs:List Gs) (w:World) (e:Ending) (w':World):Prop:=
 ∃ a cap,e=.returned (dkV p c (.slice a gs.length cap))∧OwnG w.heap.size w' (.slice a gs.length cap) gs∧Below w.heap.size w w'
def DeskDrawn (K:Nat) (a:Option Addr) (cap:Nat) (bs:List Int) (p:Int) (w:World) (e:Ending) (w':World):Prop:=
 ∃ (x c:Int) (gs:List Gs) (a':Option Addr) (c':Nat),e=.returned (dkV x c (.slice a' gs.length c'))∧OwnG w.heap.size w' (.slice a' gs.length c') gs∧In64G gs∧gs.length≤5∧0≤x∧x≤4∧0≤c∧c≤4∧(∀ g∈gs,g.code.length≤10)∧Drew K a cap bs p 110 w w'
def zeroRow:Array Value:=#[.int .i64 0,.int .i64 0,.slice none 0 0]
def DkW (w w2:World) (K:Nat) (a:Option Addr) (cap:Nat) (bs:List Int) (q:Int) (D:Nat) (x c:Int) (gs:List Gs) (ao:Option Addr) (k co:Nat) (wi:World):Prop:=
 wi.heap[D]?=some (.cells #[.int .i64 x,.int .i64 c,.slice ao k co] 30 (0,0))∧OwnG (w.heap.size+1) w2 (.slice ao k co) (gs.take k)∧k≤gs.length∧Above (w.heap.size+1) w2 wi ∧
  wi.heap[w.heap.size]?=some (.cells zeroRow 30 (0,0))∧(∃ p',Rd wi K a cap bs p'∧p'≤q)∧w.grownBy wi (some K)∧w2.heap.size≤wi.heap.size∧w2.heap.size≤D∧w.heap.size<w2.heap.size
theorem DkW.below {w w2:World} {K:Nat} {a:Option Addr} {cap:Nat} {bs:List Int} {q:Int} {D:Nat} {x c:Int} {gs:List Gs} {ao:Option Addr} {k co:Nat} {wi wj:World} (h:DkW w w2 K a cap bs q D x c gs ao k co wi) (hb:Below wi.heap.size wi wj):DkW w w2 K a cap bs q D x c gs ao k co wj:=by
 obtain ⟨h1,h2,h3,h4,h5,⟨p',h6,h7⟩,h8,h9,h10,h11⟩:=h;exact ⟨(hb.block _ (Array.getElem?_eq_some_iff.1 h1).1).trans h1,h2,h3,above_step h4 h9 (.of_below hb),(hb.block _ (Array.getElem?_eq_some_iff.1 h5).1).trans h5,⟨p',h6.below hb,h7⟩,grown_trans h8 (grown_of_below hb),by have:=hb.size; omega,h10,h11⟩
theorem DkW.step {w w2:World} {K:Nat} {a:Option Addr} {cap:Nat} {bs:List Int} {q:Int} {D:Nat} {x c:Int} {gs:List Gs} {ao:Option Addr} {k co:Nat} {wi wj:World} {p':Int} (h:DkW w w2 K a cap bs q D x c gs ao k co wi) (hK:K<w.heap.size) (hR:Rd wj K a cap bs p') (hp:p'≤q+1) (hg:wi.grownBy wj (some K)):DkW w w2 K a cap bs (q+1) D x c gs ao k co wj:=by
 obtain ⟨h1,h2,h3,h4,h5,_,h8,h9,h10,h11⟩:=h;exact ⟨(hg.block _ (Array.getElem?_eq_some_iff.1 h1).1 (by simp; omega)).trans h1,h2,h3,above_step h4 h9 (Above.of_grown hg (by omega)),(hg.block _ (Array.getElem?_eq_some_iff.1 h5).1 (by simp; omega)).trans h5,⟨p',hR,hp⟩,grown_trans h8 hg,by have:=hg.size; omega,h10,h11⟩
theorem DkW.owns {w w2:World} {K:Nat} {a:Option Addr} {cap:Nat} {bs:List Int} {q:Int} {D:Nat} {x c:Int} {gs:List Gs} {ao:Option Addr} {k co:Nat} {wi:World} (h:DkW w w2 K a cap bs q D x c gs ao k co wi):OwnG (w.heap.size+1) wi (.slice ao k co) (gs.take k):=h.2.1.keep h.2.2.2.1
theorem DkW.facts {w w2:World} {K:Nat} {a:Option Addr} {cap:Nat} {bs:List Int} {q:Int} {D:Nat} {x c:Int} {gs:List Gs} {ao:Option Addr} {k co:Nat} {wi:World} (h:DkW w w2 K a cap bs q D x c gs ao k co wi):
  (wi.cell? ⟨D,0,none⟩=some (.int .i64 x)∧wi.cell? ⟨D,1,none⟩=some (.int .i64 c)∧wi.cell? ⟨D,2,none⟩=some (.slice ao k co)∧∀ j,wi.frozen? ⟨D,j,none⟩=false) ∧
  wi.cell? ⟨w.heap.size,0,none⟩=some (.int .i64 0)∧wi.cell? ⟨w.heap.size,1,none⟩=some (.int .i64 0)∧wi.cell? ⟨w.heap.size,2,none⟩=some (.slice none 0 0)∧(∀ j,wi.frozen? ⟨w.heap.size,j,none⟩=false)∧w.heap.size<D:=by
 obtain ⟨h1,_,_,_,h5,_,_,_,h10,h11⟩:=h;refine ⟨⟨?_,?_,?_,fun j=>frozen_of_row _ _ j _ _ h1⟩,?_,?_,?_,fun j=>frozen_of_row _ _ j _ _ h5,by omega⟩
 ·rw[cell_of_row _ _ _ _ _ _ h1]; simp
 ·rw[cell_of_row _ _ _ _ _ _ h1]; simp
 ·rw[cell_of_row _ _ _ _ _ _ h1]; simp
 ·rw[cell_of_row _ _ _ _ _ _ h5]; simp[zeroRow]
 ·rw[cell_of_row _ _ _ _ _ _ h5]; simp[zeroRow]
 ·rw[cell_of_row _ _ _ _ _ _ h5]; simp[zeroRow]
theorem DkW.odd {w w2:World} {K:Nat} {a:Option Addr} {cap:Nat} {bs:List Int} {q n:Int} {D:Nat} {x c:Int} {gs:List Gs} {ao:Option Addr} {k co:Nat} {wi:World} (h:DkW w w2 K a cap bs q D x c gs ao k co wi) (hK:K<w.heap.size) (hq:q≤100000000000) (hn:In64 n):
  Calls Tryz.prog 48 #[.pointer (some ⟨K,0,none⟩),.int .i64 n] wi fun e w'=>∃ b,e=.returned (.bool b)∧DkW w w2 K a cap bs (q+1) D x c gs ao k co w':=by
 obtain ⟨p',h6,h7⟩:=h.2.2.2.2.2.1;refine (odd_any n _ K a cap bs p' h6 (by omega) hn).mono ?_;rintro e w' ⟨b,rfl,⟨p2,hR,hp⟩,hg⟩;exact ⟨b,rfl,h.step hK hR (by omega) hg⟩
theorem DkW.pick {w w2:World} {K:Nat} {a:Option Addr} {cap:Nat} {bs:List Int} {q n:Int} {D:Nat} {x c:Int} {gs:List Gs} {ao:Option Addr} {k co:Nat} {wi:World} (h:DkW w w2 K a cap bs q D x c gs ao k co wi) (hK:K<w.heap.size) (hq:q≤100000000000) (hn:In64 n):
  Calls Tryz.prog 41 #[.pointer (some ⟨K,0,none⟩),.int .i64 n] wi fun e w'=>∃ r,e=.returned (.int .i64 r)∧0≤r∧(1≤n→r<n)∧DkW w w2 K a cap bs (q+1) D x c gs ao k co w':=by
 obtain ⟨p',h6,h7⟩:=h.2.2.2.2.2.1;refine (pick_any n _ K a cap bs p' h6 (by omega) hn).mono ?_;rintro e w' ⟨r,rfl,hr0,hr1,⟨p2,hR,hp⟩,hg⟩;exact ⟨r,rfl,hr0,hr1,h.step hK hR (by omega) hg⟩
theorem DkW.cut {w w2:World} {K:Nat} {a:Option Addr} {cap:Nat} {bs:List Int} {q:Int} {D:Nat} {x c:Int} {gs:List Gs} {g k co:Nat} {wi:World} (h:DkW w w2 K a cap bs q D x c gs (some ⟨g,0,none⟩) (k+1) co wi) (hK:K<w.heap.size):DkW w w2 K a cap bs q D x c gs (some ⟨g,0,none⟩) k co (wi.setCell ⟨D,2,none⟩ (.slice (some ⟨g,0,none⟩) k co)):=by
 obtain ⟨h1,h2,h3,h4,h5,⟨p',h6,h7⟩,h8,h9,h10,h11⟩:=h;have hs:=grownBy_setCell wi ⟨D,2,none⟩ (.slice (some ⟨g,0,none⟩) k co);refine ⟨heap_setCell_same _ _ 2 _ _ _ h1,?_,by omega,fun b q1 q2=>?_,?_,⟨p',rd_grown h6 hs (fun j hj=>by cases hj; simp; omega),h7⟩,h8.andThen hs (fun j hj=>.inl (by cases hj; simp; omega)),by simpa using h9,h10,h11⟩
 ·have:=h2.take k (by simp; omega)
  rwa [List.take_take,Nat.min_eq_left (by omega)] at this
 ·rw[heap_setCell_other _ _ _ _ (by simp; omega)]; exact h4 b q1 q2
 ·rw[heap_setCell_other _ _ _ _ (by simp; omega)]; exact h5
theorem DkW.zeroed {w w2:World} {K:Nat} {a:Option Addr} {cap:Nat} {bs:List Int} {q:Int} {D:Nat} {x c:Int} {gs:List Gs} {ao:Option Addr} {k co:Nat} {wi:World} (h:DkW w w2 K a cap bs q D x c gs ao k co wi) (hK:K<w.heap.size):DkW w w2 K a cap bs q D 0 c gs ao k co (wi.setCell ⟨D,0,none⟩ (.int .i64 0)):=by
 obtain ⟨h1,h2,h3,h4,h5,⟨p',h6,h7⟩,h8,h9,h10,h11⟩:=h;have hs:=grownBy_setCell wi ⟨D,0,none⟩ (.int .i64 0);refine ⟨heap_setCell_same _ _ 0 _ _ _ h1,h2,h3,fun b q1 q2=>?_,?_,⟨p',rd_grown h6 hs (fun j hj=>by cases hj; simp; omega),h7⟩,h8.andThen hs (fun j hj=>.inl (by cases hj; simp; omega)),by simpa using h9,h10,h11⟩
 ·rw[heap_setCell_other _ _ _ _ (by simp; omega)]; exact h4 b q1 q2
 ·rw[heap_setCell_other _ _ _ _ (by simp; omega)]; exact h5
theorem DkW.done {w w2 wi : World} {K : Nat} {a : Option Addr} {cap : Nat} {bs : List Int} {p q : Int} {D : Nat} {x c : Int} {gs : List Gs} {ao : Option Addr} {k co : Nat} (h : DkW w w2 K a cap bs q D x c gs ao k co wi) (hd : ∀ (gs' : List Gs) (p' : Int), gs'.length = k → OwnG (w.heap.size + 1) wi (.slice ao gs'.length co) gs' → In64G gs' → gs'.length ≤ 5 → (∀ g ∈ gs', g.code.length ≤ 10) → Rd wi K a cap bs p' → p' ≤ q → w.grownBy wi (some K) → w.heap.size < wi.heap.size →
      DeskDrawn K a cap bs p w (.returned (dkV x c (.slice ao gs'.length co))) (((wi.setCell ⟨w.heap.size,0,none⟩ (.int .i64 x)).setCell ⟨w.heap.size,1,none⟩ (.int .i64 c)).setCell ⟨w.heap.size,2,none⟩ (.slice ao gs'.length co))) (h64:In64G gs) (hl:gs.length≤4) (h10:∀ g∈gs,g.code.length≤10):
  DeskDrawn K a cap bs p w (.returned (dkV x c (.slice ao k co))) (((wi.setCell ⟨w.heap.size,0,none⟩ (.int .i64 x)).setCell ⟨w.heap.size,1,none⟩ (.int .i64 c)).setCell ⟨w.heap.size,2,none⟩ (.slice ao k co)) ∧
   (((wi.setCell ⟨w.heap.size,0,none⟩ (.int .i64 x)).setCell ⟨w.heap.size,1,none⟩ (.int .i64 c)).setCell ⟨w.heap.size,2,none⟩ (.slice ao k co)).heap[w.heap.size]?=some (.cells #[.int .i64 x,.int .i64 c,.slice ao k co] 30 (0,0)):=by
 have hown:=h.owns;obtain ⟨h1,h2,h3,h4,h5,⟨p',h6,h7⟩,h8,h9,h10',h11⟩:=h;have hk:(gs.take k).length=k:=by simp; omega
 refine ⟨?_,heap_setCell_same _ _ 2 _ _ _ (heap_setCell_same _ _ 1 _ _ _ (heap_setCell_same _ _ 0 _ _ _ h5))⟩;have:=hd (gs.take k) p' hk (by rw[hk]; exact hown) (fun g hg=>h64 g (List.mem_of_mem_take hg)) (by omega) (fun g hg=>h10 g (List.mem_of_mem_take hg)) h6 h7 h8 (by omega)
 rwa [hk] at this
theorem dk_done {w wi:World} {K:Nat} {a:Option Addr} {cap:Nat} {bs:List Int} {p p':Int} {x c:Int} {gs:List Gs} {ao:Option Addr} {co:Nat} (hK:K<w.heap.size) (ho:OwnG (w.heap.size+1) wi (.slice ao gs.length co) gs) (h64:In64G gs) (hl:gs.length≤5) (h10:∀ g∈gs,g.code.length≤10)
  (hx0:0≤x) (hx4:x≤4) (hc0:0≤c) (hc4:c≤4) (hR:Rd wi K a cap bs p') (hp:p'≤p+110) (hg:w.grownBy wi (some K)) (hw:w.heap.size<wi.heap.size):
  DeskDrawn K a cap bs p w (.returned (dkV x c (.slice ao gs.length co))) (((wi.setCell ⟨w.heap.size,0,none⟩ (.int .i64 x)).setCell ⟨w.heap.size,1,none⟩ (.int .i64 c)).setCell ⟨w.heap.size,2,none⟩ (.slice ao gs.length co)):=by
 have g1:=grownBy_setCell wi ⟨w.heap.size,0,none⟩ (.int .i64 x);have g2:=grownBy_setCell (wi.setCell ⟨w.heap.size,0,none⟩ (.int .i64 x)) ⟨w.heap.size,1,none⟩ (.int .i64 c);have g3:=grownBy_setCell ((wi.setCell ⟨w.heap.size,0,none⟩ (.int .i64 x)).setCell ⟨w.heap.size,1,none⟩ (.int .i64 c)) ⟨w.heap.size,2,none⟩ (.slice ao gs.length co);have gg:=(g1.andThen g2 (fun j hj=>.inr hj)).andThen g3 (fun j hj=>.inr hj);refine ⟨x,c,gs,ao,co,rfl,(ho.keep (fun b h1 h2=>gg.block b h2 (by simp; omega))).mono (by omega),h64,hl,hx0,hx4,hc0,hc4,h10,⟨p',rd_grown hR gg (fun j hj=>by cases hj; exact hK),hp⟩,hg.andThen gg (fun j hj=>.inl (by cases hj; exact Nat.le_refl _))⟩
theorem own_other {B D:Nat} {w:World} {e t:TypeId} {size n:Nat} {v:Value} {xs:List Value} {cs:Array Value} {fr:Nat×Nat} (h:w.ownsRow B e size v n xs) (hD:w.heap[D]?=some (.cells cs t fr)) (hne:e≠t):v.ownBlock=none∨v.ownBlock≠some D:=by
 rcases h.2 with ⟨rfl,_⟩ | ⟨g,cap,cur,rfl,_,hg,_⟩
 ·exact .inl rfl
 ·refine .inr fun e1=>?_
  have e2:g=D:=by simpa [Value.ownBlock] using e1
  subst e2;rw[hD] at hg;injection hg with hg;injection hg with _ hg _;exact hne hg.symm
theorem OwnG.other {B D j:Nat} {w:World} {v z:Value} {gs:List Gs} {cs:Array Value} {fr:Nat×Nat} (h:OwnG B w v gs) (hD:w.heap[D]?=some (.cells cs 30 fr)):OwnG B (w.setCell ⟨D,j,none⟩ z) v gs:=by
 obtain ⟨ts,h1,h2,h3,h4⟩:=h;have hs:=grownBy_setCell w ⟨D,j,none⟩ z;exact ⟨ts,World.ownsRow.kept h1 hs (own_other h1 hD (by decide)),h2,fun i hi hi'=>⟨World.ownsRow.kept (h3 i hi hi').1 hs (own_other (h3 i hi hi').1 hD (by decide)),(h3 i hi hi').2⟩,h4⟩
def wrongW (w6:World) (N:Nat):World:=((w6.alloc (.cells (madeCells #[.int .i64 0] N) 3)).alloc (.cells #[.slice (some ⟨w6.heap.size,0,none⟩) N N,.int .i64 ((N:Int)+1),.int .i64 0] 39)).drew
theorem DkW.wrong {w w2:World} {K:Nat} {a:Option Addr} {cap:Nat} {bs:List Int} {p q:Int} {D:Nat} {c:Int} {gs:List Gs} {ao:Option Addr} {k co:Nat} {w6:World} {N:Nat} (h:DkW w w2 K a cap bs q D N c gs ao k co w6) (hK:K<w.heap.size) (hN:N≤3) (h64:In64G gs) (hl:gs.length≤4) (h10:∀ g∈gs,g.code.length≤10) (hc0:0≤c) (hc4:c≤4) (hq:q≤p+110):
  ∃ ts:List (Value×Int×Int),(wrongW w6 N).ownsRow (w.heap.size+1) 39 3 (.slice ao k co) k (cellsT ts) ∧
   (∀ j u,[Value.slice (some ⟨w6.heap.size,0,none⟩) N N,.int .i64 ((N:Int)+1),.int .i64 0][j]?=some u→(wrongW w6 N).cell? ((⟨w6.heap.size+1,0,none⟩:Addr).add j)=some u)∧w.heap.size+1≤(wrongW w6 N).heap.size ∧
   ∀ (w7:World) (g7 c7:Nat),w7.ownsRow (w.heap.size+1) 39 3 (.slice (some ⟨g7,0,none⟩) (k+1) c7) (k+1) (cellsT ts++[Value.slice (some ⟨w6.heap.size,0,none⟩) N N,.int .i64 ((N:Int)+1),.int .i64 0])→(wrongW w6 N).grownBy w7 (Value.slice ao k co).ownBlock →
    (w7.heap[D]?=some (.cells #[.int .i64 N,.int .i64 c,.slice ao k co] 30 (0,0))∧w7.heap[w.heap.size]?=some (.cells zeroRow 30 (0,0))) ∧
    DeskDrawn K a cap bs p w (.returned (dkV N c (.slice (some ⟨g7,0,none⟩) (k+1) c7))) ((((w7.setCell ⟨D,2,none⟩ (.slice (some ⟨g7,0,none⟩) (k+1) c7)).setCell ⟨w.heap.size,0,none⟩ (.int .i64 N)).setCell ⟨w.heap.size,1,none⟩ (.int .i64 c)).setCell ⟨w.heap.size,2,none⟩ (.slice (some ⟨g7,0,none⟩) (k+1) c7)) ∧
    ((((w7.setCell ⟨D,2,none⟩ (.slice (some ⟨g7,0,none⟩) (k+1) c7)).setCell ⟨w.heap.size,0,none⟩ (.int .i64 N)).setCell ⟨w.heap.size,1,none⟩ (.int .i64 c)).setCell ⟨w.heap.size,2,none⟩ (.slice (some ⟨g7,0,none⟩) (k+1) c7)).heap[w.heap.size]?=some (.cells #[.int .i64 N,.int .i64 c,.slice (some ⟨g7,0,none⟩) (k+1) c7] 30 (0,0)):=by
 have hown:=h.owns;obtain ⟨h1,h2,h3,h4,h5,⟨p',h6,h7⟩,h8,h9,h10',h11⟩:=h;have hk:(gs.take k).length=k:=by simp; omega
 have hbA:Below w6.heap.size w6 (wrongW w6 N):=below_drewN (((Below.refl w6.heap.size w6).alloc (Nat.le_refl _) (.cells (madeCells #[.int .i64 0] N) 3)).alloc (by simp) (.cells #[.slice (some ⟨w6.heap.size,0,none⟩) N N,.int .i64 ((N:Int)+1),.int .i64 0] 39)) 1;have hsz:(wrongW w6 N).heap.size=w6.heap.size+2:=by unfold wrongW; show (World.alloc _ _).heap.size=_; simp
 have hz0:(wrongW w6 N).heap[w6.heap.size]?=some (.cells (madeCells #[.int .i64 0] N) 3 (0,0)):=by
  show (World.alloc _ _).heap[w6.heap.size]?=_
  rw[haoM _ _ (by simp)]; exact heap_alloc_new w6 _
 have hz1:(wrongW w6 N).heap[w6.heap.size+1]?=some (.cells #[.slice (some ⟨w6.heap.size,0,none⟩) N N,.int .i64 ((N:Int)+1),.int .i64 0] 39 (0,0)):=by
  have q:=@Go.heap_alloc_new (w6.alloc (.cells (madeCells #[.int .i64 0] N) 3)) (.cells #[.slice (some ⟨w6.heap.size,0,none⟩) N N,.int .i64 ((N:Int)+1),.int .i64 0] 39);rw[World.size_alloc] at q;exact q
 have hu:OwnI (w.heap.size+1) (wrongW w6 N) (.slice (some ⟨w6.heap.size,0,none⟩) N N) (List.replicate N 0):=by
  refine own_zeros_int ⟨by simp[madeCells],.inr ⟨w6.heap.size,N,_,rfl,by omega,hz0,Nat.le_refl _,by unfold maxLen; omega,by simp[madeCells],?_⟩⟩;rw[List.take_of_length_le (by simp[madeCells])];simp[Value.cells]
 have hd:∀ ts:List (Value×Int×Int),OwnT (w.heap.size+1) (wrongW w6 N) (.slice ao k co) ts→∀ i (h:i<ts.length),(Value.slice (some ⟨w6.heap.size,0,none⟩) N N).ownBlock=none∨ts[i].1.ownBlock=none∨ts[i].1.ownBlock≠(Value.slice (some ⟨w6.heap.size,0,none⟩) N N).ownBlock:=by
  have hu':OwnI w6.heap.size (wrongW w6 N) (.slice (some ⟨w6.heap.size,0,none⟩) N N) (List.replicate N 0):=by
   refine own_zeros_int ⟨by simp[madeCells],.inr ⟨w6.heap.size,N,_,rfl,Nat.le_refl _,hz0,Nat.le_refl _,by unfold maxLen; omega,by simp[madeCells],?_⟩⟩;rw[List.take_of_length_le (by simp[madeCells])];simp[Value.cells]
  exact guess_old hown hbA hu'
 obtain ⟨ts,t1,t2,t3⟩:=OwnG.pushed (hown.below hbA) (y:=⟨List.replicate N 0,(N:Int)+1,0⟩) hu hd;rw[hk] at t1 t2 t3;refine ⟨ts,t1,?_,by omega,fun w7 g7 c7 q1 q2=>?_⟩
 ·intro j u hj
  have:=World.news_of_block hz1 j u (by simpa using hj);exact this
 ·have hblk:∀ j,(Value.slice ao k co).ownBlock=some j→w.heap.size+1≤j∧j<w2.heap.size:=fun j hj=>h2.lt j hj
  have ho7:=t3 w7 _ q1 q2;have hD7:w7.heap[D]?=some (.cells #[.int .i64 N,.int .i64 c,.slice ao k co] 30 (0,0)):=by
   have hlt:=(Array.getElem?_eq_some_iff.1 h1).1;rw[q2.block D (by omega) (fun e=>by have:=hblk D e.symm; omega),hbA.block D hlt]; exact h1
  have hR7:w7.heap[w.heap.size]?=some (.cells zeroRow 30 (0,0)):=by
   have hlt:=(Array.getElem?_eq_some_iff.1 h5).1;rw[q2.block _ (by omega) (fun e=>by have:=hblk _ e.symm; omega),hbA.block _ hlt]; exact h5
  have hs7:=q2.size;have gD:=grownBy_setCell w7 ⟨D,2,none⟩ (.slice (some ⟨g7,0,none⟩) (k+1) c7);have g7':w.grownBy w7 (some K):=((grown_trans h8 (grown_of_below hbA)).andThen q2 (fun j hj=>.inl (by have:=(hblk j hj).1; omega)))
  have hR6:=rd_grown (h6.below hbA) q2 (fun j hj=>by have:=(hblk j hj).1; omega);have hRR:(w7.setCell ⟨D,2,none⟩ (.slice (some ⟨g7,0,none⟩) (k+1) c7)).heap[w.heap.size]?=some (.cells zeroRow 30 (0,0)):=by
   rw[heap_setCell_other _ _ _ _ (by simp; omega)]; exact hR7
  have hlen:(gs.take k++[(⟨List.replicate N 0,(N:Int)+1,0⟩:Gs)]).length=k+1:=by simp; omega
  refine ⟨⟨hD7,hR7⟩,?_,heap_setCell_same _ _ 2 _ _ _ (heap_setCell_same _ _ 1 _ _ _ (heap_setCell_same _ _ 0 _ _ _ hRR))⟩;have hfin:=dk_done (p:=p) (x:=(N:Int)) (c:=c) (gs:=gs.take k++[(⟨List.replicate N 0,(N:Int)+1,0⟩:Gs)]) (ao:=some ⟨g7,0,none⟩) (co:=c7) (wi:=w7.setCell ⟨D,2,none⟩ (.slice (some ⟨g7,0,none⟩) (k+1) c7)) hK (by rw[hlen]; exact ho7.other hD7)
   (fun g hg=>by
    rcases List.mem_append.1 hg with hg | hg
    ·exact h64 g (List.mem_of_mem_take hg)
    ·simp only[List.mem_singleton] at hg; subst hg
     intro y hy;rw[List.mem_replicate] at hy; rw[hy.2]; unfold In64; omega)
   (by omega) (fun g hg=>by
    rcases List.mem_append.1 hg with hg | hg
    ·exact h10 g (List.mem_of_mem_take hg)
    ·simp only[List.mem_singleton] at hg; subst hg; simp; omega)
   (by omega) (by omega) hc0 hc4 (rd_grown hR6 gD (fun j hj=>by cases hj; simp; omega)) (by omega) (g7'.andThen gD (fun j hj=>.inl (by cases hj; simp; omega))) (by simp; omega)
  rwa [hlen] at hfin
set_option maxHeartbeats 1000000 in
theorem desk_any (n:Int) (w:World) (K:Nat) (a:Option Addr) (cap:Nat) (bs:List Int) (p:Int) (h:Rd w K a cap bs p) (hp:p≤100000000) (hn0:0≤n) (hn1:n≤100):
  Calls Tryz.prog 47 #[.pointer (some ⟨K,0,none⟩),.int .i64 n] w (DeskDrawn K a cap bs p w):=by
 have hKw:=h.lt;obtain ⟨w1,hw1⟩:∃ w1,w1=w.alloc (.cells #[.int .i64 0,.int .i64 0,.slice none 0 0] 30):=⟨_,rfl⟩
 have hb1:Below w.heap.size w w1:=by rw[hw1]; exact (Below.refl _ _).alloc (Nat.le_refl _) _
 have hz1:w1.heap.size=w.heap.size+1:=by rw[hw1]; simp
 have hr1:w1.heap[w.heap.size]?=some (.cells zeroRow 30 (0,0)):=by rw[hw1]; exact heap_alloc_new w _
 have hG:=guessing_any 0 w1 K a cap bs p (h.below hb1) (by omega) (by omega) (by omega);have HB1:=hdd hb1;have HR1:=hdd hr1;have HZ1:=hdd hz1;clear h hb1 hr1 hz1;go_enter Tryz.func47,Tryz.ntmps47;go_wp2_with fail;rw[←hw1];clear hw1;refine hG.mono ?_;rintro e w2 ⟨x,c,gs,a2,c2,rfl,ho2,h64,hl4,hx1,_,_,hc4,hx3,h10,⟨p2,hR2,hp2⟩,hg2⟩;obtain ⟨hx3,hc1⟩:=hx3 rfl;have hz12:=hg2.size;have hz1:=HZ1.out;have hW2:DkW w w2 K a cap bs (p+100) w2.heap.size x c gs a2 gs.length c2 (w2.alloc (.cells #[.int .i64 x,.int .i64 c,.slice a2 gs.length c2] 30)):=by
  have hbb:Below w2.heap.size w2 (w2.alloc (.cells #[.int .i64 x,.int .i64 c,.slice a2 gs.length c2] 30)):=(Below.refl _ _).alloc (Nat.le_refl _) _;refine ⟨heap_alloc_new w2 _,by rw[List.take_length]; exact ho2.mono (by omega),Nat.le_refl _,.of_below hbb,?_,⟨p2,hR2.below hbb,hp2⟩,((grown_of_below HB1.out).andThen hg2 (fun _ e=>.inr e)).andThen (World.grownBy_alloc w2 _ none) (fun _ e=>by cases e),by simp,Nat.le_refl _,by omega⟩;rw[hbb.block _ (by omega),hg2.block _ (by omega) (by simp; omega)];exact HR1.out
 have HW2:=hdd hW2;have H64:=hdd h64;have H10:=hdd h10;have HD2:=hdd (show w.heap.size<w2.heap.size by omega);have hD2:=HD2.out;clear hG ho2 hR2 hg2 hW2 h64 h10 hz12 hz1;go_wp2;obtain ⟨D,hD⟩:∃ D,D=w2.heap.size:=⟨_,rfl⟩
 rw[←hD] at HW2 ⊢;obtain ⟨wu,hwu⟩:∃ wu:World,wu=w2.alloc (.cells #[.int .i64 x,.int .i64 c,.slice a2 gs.length c2] 30):=⟨_,rfl⟩
 rw[←hwu] at HW2 ⊢;clear hwu hD;go_loopw [20] (fun _ wi=>∃ (k:Nat) (ao:Option Addr) (co:Nat),DkW w w2 K a cap bs (p+100) D x c gs ao k co wi) (fun _ wi=>lenV ((wi.cell? ⟨D,2,none⟩).getD undef))
 case atStart=>exact ⟨_,_,_,HW2.out⟩
 case round=>
  obtain ⟨k,ao,co,hW⟩:=hrel;obtain ⟨wk,rfl⟩:∃ x,x=wr:=⟨_,rfl⟩
  clear HW2;obtain ⟨⟨x0,x1,x2,xk⟩,y0,y1,y2,yk,hRD⟩:=hW.facts;have HX2:=hdd x2;have HW:=hdd hW;have hk:=hW.2.2.1;have HG:=hdd ((hW.owns).toGL (fun g hg=>H64.out g (List.mem_of_mem_take hg)));have hlt:(gs.take k).length=k:=by simp; omega
  clear hW
  by_cases hk0:0<k
  ·have hO:=deskOkS_any x c _ _ wk HG.out
   unfold dkV at hO;obtain ⟨b,hb⟩:∃ b,b=deskB x c (gs.take k):=⟨_,rfl⟩
   rw[←hb] at hO;have hki:(0:Int)<(k:Int):=by omega
   clear hb hlt;go_wp2_with fail;refine hO.mono ?_;rintro e w4 ⟨rfl,hb4⟩;have hW4:=HW.out.below hb4;clear hO hb4 x0 x1 x2 xk y0 y1 y2 yk hRD;obtain ⟨⟨x0,x1,x2,xk⟩,y0,y1,y2,yk,hRD⟩:=hW4.facts;have HW4:=hdd hW4
   cases b
   ·obtain ⟨m,rfl⟩:∃ m,k=m+1:=⟨k-1,by omega⟩
    obtain ⟨g,capg,he,_,_,hcg,hmg,_⟩:=(hW4.owns).opened (by simp; omega);injection he with he1 he2 he3;clear he2;subst he1 he3;have hcut:=hdd (hW4.cut hKw);have HC2:=hdd (hcut.out.facts.1.2.2.1);have hm1:((m+1:Nat):Int)-1=(m:Int):=by omega
    have hm3:m+1≤co:=by simpa [hk] using hcg
    have hm2:(m:Int)≤(co:Int):=by omega
    have hm4:(0:Int)≤(m:Int):=by omega
    clear hm3 hW4 HW HG;go_wp2;go_roundw
    case rel=>exact ⟨m,_,co,hcut.out⟩
    case measure=>rw[HC2.out,HX2.out]; simp[lenV]
   ·clear HX2 HW HG hW4
    have hOd:=HW4.out.odd (n:=n) hKw (by omega) (by unfold In64; omega);clear x0 x1 x2 xk y0 y1 y2 yk hRD;have HZ:=hdd HW4.out.facts;obtain ⟨⟨x0,x1,x2,xk⟩,y0,y1,y2,yk,hRD⟩:=HZ.out;go_wp2_with fail;refine hOd.mono ?_;rintro e w5 ⟨b,rfl,hW5⟩;clear hOd HZ HW4 x0 x1 x2 xk y0 y1 y2 yk hRD
    cases b
    ·have hF:=hW5.done (p:=p) (fun gs' p' hl' ho' hi' h5' h10' hr' hp' hg' hw'=>dk_done hKw ho' hi' h5' h10' (by omega) (by omega) (by omega) hc4 hr' (by omega) hg' hw') H64.out hl4 H10.out
     obtain ⟨⟨x0,x1,x2,xk⟩,y0,y1,y2,yk,hRD⟩:=hW5.facts;have HF:=hdd hF.1;have HQ:=hdd hF.2;clear hF hW5;go_wp2
     ((try simp only[Exit.inBlock,Exit.then]); refine bodyPost_ret (results_cell_row rfl _ _ w.heap.size _ _ (0,0) _ rfl HQ.out Tryz.underlying30 rfl (by kernel_rfl)) rfl ?_)
     exact HF.out
    ·have hP:=hW5.pick (n:=3) hKw (by omega) (by unfold In64; omega)
     clear hW5;go_wp2_with fail;refine hP.mono ?_;rintro e w6 ⟨r,rfl,hr0,hr1,hW6⟩;clear hP
     by_cases hr:r=0
     ·subst hr
      have hF:=(hW6.zeroed hKw).done (p:=p) (fun gs' p' hl' ho' hi' h5' h10' hr' hp' hg' hw'=>dk_done hKw ho' hi' h5' h10' (by omega) (by omega) (by omega) hc4 hr' (by omega) hg' hw') H64.out hl4 H10.out;obtain ⟨⟨x0,x1,x2,xk⟩,y0,y1,y2,yk,hRD⟩:=hW6.facts;have HF:=hdd hF.1;have HQ:=hdd hF.2;clear hF hW6;go_wp2
      ((try simp only[Exit.inBlock,Exit.then]); refine bodyPost_ret (results_cell_row rfl _ _ w.heap.size _ _ (0,0) _ rfl HQ.out Tryz.underlying30 rfl (by kernel_rfl)) rfl ?_)
      exact HF.out
     ·by_cases hr':r=1
      ·subst hr'
       obtain ⟨N,rfl⟩:∃ N:Nat,x=(N:Int):=⟨x.toNat,by omega⟩
       obtain ⟨⟨x0,x1,x2,xk⟩,y0,y1,y2,yk,hRD⟩:=hW6.facts;have hk4:=hW6.2.2.1;have hDlt:=(Array.getElem?_eq_some_iff.1 hW6.1).1;have hDn1:¬(D=w6.heap.size):=by omega
       have hDn2:¬(D=w6.heap.size+1):=by omega
       obtain ⟨ts,t1,t2,t3,t4⟩:=hW6.wrong (p:=p) hKw (by omega) H64.out hl4 H10.out (by omega) hc4 (by omega);obtain ⟨i0,hi,hiz0,hiz1,hiz2⟩:=info_parts infoGuess;have HI:=hdd (And.intro hi (And.intro hiz0 (And.intro hiz1 hiz2)));have HT1:=hdd t1;have HT2:=hdd t2;have HT3:=hdd t3;have HT4:=hdd t4;have hmk:∀ W:World,(Instr.makeSlice 37 (.int .i64 (N:Int)) (.int .i64 (N:Int))).run Tryz.prog W=.ok (.slice (some ⟨W.heap.size,0,none⟩) N N) (W.alloc (.cells (madeCells #[.int .i64 0] N) 3)):=fun W=>run_make_row' 37 3 (.int .i64 0) 8 Tryz.underlying37 infoInt rfl .i64 .i64 N (by omega) (by omega) W
       have hwr:IntKind.i64.wrap ((N:Int)+1)=(N:Int)+1:=IntWalk.i64_in _ (by omega);clear hW6 t1 t2 t3 t4 hi hiz0 hiz1 hiz2;go_wp2;go_region_law (refine step_append_lies (wrongW w6 N) rfl (.tmp 48) (.tmp 54) 28 rfl (w.heap.size+1) 39 i0 (.agg #[.slice none 0 0,.int .i64 0,.int .i64 0]) 3 40 Tryz.underlying28 HI.out.1 HI.out.2.1 HI.out.2.2.1 HI.out.2.2.2 rfl (by decide) (.slice ao k co) k (cellsT ts) rfl HT1.out ⟨w6.heap.size+1,0,none⟩ 1 1 [.slice (some ⟨w6.heap.size,0,none⟩) N N,.int .i64 ((N:Int)+1),.int .i64 0] rfl rfl HT2.out (by intro u hu; simp only[List.mem_cons,List.mem_nil_iff,or_false] at hu; rcases hu with rfl | rfl | rfl <;> rfl) (by omega) (by unfold maxLen; omega) (by omega) HT3.out _ rfl ?_; intro g7 c7 w7 ho7 hg7 _ hlt7; have HF7:=hdd (HT4.out w7 g7 c7 ho7 hg7); have z7:=HF7.out.1.1; have z0:=cell_of_row _ _ 0 _ _ (0,0) z7; have z1:=cell_of_row _ _ 1 _ _ (0,0) z7; have z2:=cell_of_row _ _ 2 _ _ (0,0) z7; have zk:∀ j,w7.frozen? ⟨D,j,none⟩=false:=fun j=>frozen_of_row _ _ j _ _ z7; have v7:=HF7.out.1.2; have v0:=cell_of_row _ _ 0 _ _ (0,0) v7; have v1:=cell_of_row _ _ 1 _ _ (0,0) v7; have v2:=cell_of_row _ _ 2 _ _ (0,0) v7; have vk:∀ j,w7.frozen? ⟨w.heap.size,j,none⟩=false:=fun j=>frozen_of_row _ _ j _ _ v7; simp only[zeroRow,List.getElem?_toArray,List.getElem?_cons_zero,List.getElem?_cons_succ] at z0 z1 z2 v0 v1 v2; clear ho7 hg7 z7 v7)
       all_goals
        have HF:=hdd HF7.out.2.1;have HQ:=hdd HF7.out.2.2;go_wp2
        ((try simp only[Exit.inBlock,Exit.then]); refine bodyPost_ret (results_cell_row rfl _ _ w.heap.size _ _ (0,0) _ rfl HQ.out Tryz.underlying30 rfl (by kernel_rfl)) rfl ?_)
        exact HF.out
      ·have hb1:(r==0)=false:=by simpa using hr
       have hb2:(r==1)=false:=by simpa using hr'
       obtain ⟨h1,h2,h3,h4,h5,⟨p',h6,h7⟩,h8,h9,h10',h11⟩:=id hW6;have HF:=hdd (dk_done (p:=p) (x:=0) (c:=0) (gs:=[]) (ao:=none) (co:=0) hKw (OwnG.empty (w.heap.size+1) w6) (fun g hg=>by cases hg) (by simp) (fun g hg=>by cases hg) (by omega) (by omega) (by omega) (by omega) h6 (by omega) h8 (by omega));have HQ:=hdd (heap_setCell_same _ _ 2 _ _ (.slice none 0 0) (heap_setCell_same _ _ 1 _ _ (.int .i64 0) (heap_setCell_same _ _ 0 _ _ (.int .i64 0) h5)));clear h1 h2 h3 h4 h5 h6 h7 h8 h9 h10' h11;obtain ⟨⟨x0,x1,x2,xk⟩,y0,y1,y2,yk,hRD⟩:=hW6.facts;clear hW6 hr hr';go_wp2
       ((try simp only[Exit.inBlock,Exit.then]); refine bodyPost_ret (results_cell_row rfl _ _ w.heap.size _ _ (0,0) _ rfl HQ.out Tryz.underlying30 rfl (by kernel_rfl)) rfl ?_)
       exact HF.out
  ·have hki:¬(0:Int)<(k:Int):=by omega
   clear HX2 HG hlt;have hOd:=HW.out.odd (n:=n) hKw (by omega) (by unfold In64; omega);clear x0 x1 x2 xk y0 y1 y2 yk hRD;have HZ:=hdd HW.out.facts;obtain ⟨⟨x0,x1,x2,xk⟩,y0,y1,y2,yk,hRD⟩:=HZ.out;go_wp2_with fail;refine hOd.mono ?_;rintro e w5 ⟨b,rfl,hW5⟩;clear hOd HZ HW x0 x1 x2 xk y0 y1 y2 yk hRD
   cases b
   ·have hF:=hW5.done (p:=p) (fun gs' p' hl' ho' hi' h5' h10' hr' hp' hg' hw'=>dk_done hKw ho' hi' h5' h10' (by omega) (by omega) (by omega) hc4 hr' (by omega) hg' hw') H64.out hl4 H10.out
    obtain ⟨⟨x0,x1,x2,xk⟩,y0,y1,y2,yk,hRD⟩:=hW5.facts;have HF:=hdd hF.1;have HQ:=hdd hF.2;clear hF hW5;go_wp2
    ((try simp only[Exit.inBlock,Exit.then]); refine bodyPost_ret (results_cell_row rfl _ _ w.heap.size _ _ (0,0) _ rfl HQ.out Tryz.underlying30 rfl (by kernel_rfl)) rfl ?_)
    exact HF.out
   ·have hP:=hW5.pick (n:=3) hKw (by omega) (by unfold In64; omega)
    clear hW5;go_wp2_with fail;refine hP.mono ?_;rintro e w6 ⟨r,rfl,hr0,hr1,hW6⟩;clear hP
    by_cases hr:r=0
    ·subst hr
     have hF:=(hW6.zeroed hKw).done (p:=p) (fun gs' p' hl' ho' hi' h5' h10' hr' hp' hg' hw'=>dk_done hKw ho' hi' h5' h10' (by omega) (by omega) (by omega) hc4 hr' (by omega) hg' hw') H64.out hl4 H10.out;obtain ⟨⟨x0,x1,x2,xk⟩,y0,y1,y2,yk,hRD⟩:=hW6.facts;have HF:=hdd hF.1;have HQ:=hdd hF.2;clear hF hW6;go_wp2
     ((try simp only[Exit.inBlock,Exit.then]); refine bodyPost_ret (results_cell_row rfl _ _ w.heap.size _ _ (0,0) _ rfl HQ.out Tryz.underlying30 rfl (by kernel_rfl)) rfl ?_)
     exact HF.out
    ·by_cases hr':r=1
     ·subst hr'
      obtain ⟨N,rfl⟩:∃ N:Nat,x=(N:Int):=⟨x.toNat,by omega⟩
      obtain ⟨⟨x0,x1,x2,xk⟩,y0,y1,y2,yk,hRD⟩:=hW6.facts;have hk4:=hW6.2.2.1;have hDlt:=(Array.getElem?_eq_some_iff.1 hW6.1).1;have hDn1:¬(D=w6.heap.size):=by omega
      have hDn2:¬(D=w6.heap.size+1):=by omega
      obtain ⟨ts,t1,t2,t3,t4⟩:=hW6.wrong (p:=p) hKw (by omega) H64.out hl4 H10.out (by omega) hc4 (by omega);obtain ⟨i0,hi,hiz0,hiz1,hiz2⟩:=info_parts infoGuess;have HI:=hdd (And.intro hi (And.intro hiz0 (And.intro hiz1 hiz2)));have HT1:=hdd t1;have HT2:=hdd t2;have HT3:=hdd t3;have HT4:=hdd t4;have hmk:∀ W:World,(Instr.makeSlice 37 (.int .i64 (N:Int)) (.int .i64 (N:Int))).run Tryz.prog W=.ok (.slice (some ⟨W.heap.size,0,none⟩) N N) (W.alloc (.cells (madeCells #[.int .i64 0] N) 3)):=fun W=>run_make_row' 37 3 (.int .i64 0) 8 Tryz.underlying37 infoInt rfl .i64 .i64 N (by omega) (by omega) W
      have hwr:IntKind.i64.wrap ((N:Int)+1)=(N:Int)+1:=IntWalk.i64_in _ (by omega);clear hW6 t1 t2 t3 t4 hi hiz0 hiz1 hiz2;go_wp2;go_region_law (refine step_append_lies (wrongW w6 N) rfl (.tmp 48) (.tmp 54) 28 rfl (w.heap.size+1) 39 i0 (.agg #[.slice none 0 0,.int .i64 0,.int .i64 0]) 3 40 Tryz.underlying28 HI.out.1 HI.out.2.1 HI.out.2.2.1 HI.out.2.2.2 rfl (by decide) (.slice ao k co) k (cellsT ts) rfl HT1.out ⟨w6.heap.size+1,0,none⟩ 1 1 [.slice (some ⟨w6.heap.size,0,none⟩) N N,.int .i64 ((N:Int)+1),.int .i64 0] rfl rfl HT2.out (by intro u hu; simp only[List.mem_cons,List.mem_nil_iff,or_false] at hu; rcases hu with rfl | rfl | rfl <;> rfl) (by omega) (by unfold maxLen; omega) (by omega) HT3.out _ rfl ?_; intro g7 c7 w7 ho7 hg7 _ hlt7; have HF7:=hdd (HT4.out w7 g7 c7 ho7 hg7); have z7:=HF7.out.1.1; have z0:=cell_of_row _ _ 0 _ _ (0,0) z7; have z1:=cell_of_row _ _ 1 _ _ (0,0) z7; have z2:=cell_of_row _ _ 2 _ _ (0,0) z7; have zk:∀ j,w7.frozen? ⟨D,j,none⟩=false:=fun j=>frozen_of_row _ _ j _ _ z7; have v7:=HF7.out.1.2; have v0:=cell_of_row _ _ 0 _ _ (0,0) v7; have v1:=cell_of_row _ _ 1 _ _ (0,0) v7; have v2:=cell_of_row _ _ 2 _ _ (0,0) v7; have vk:∀ j,w7.frozen? ⟨w.heap.size,j,none⟩=false:=fun j=>frozen_of_row _ _ j _ _ v7; simp only[zeroRow,List.getElem?_toArray,List.getElem?_cons_zero,List.getElem?_cons_succ] at z0 z1 z2 v0 v1 v2; clear ho7 hg7 z7 v7)
      all_goals
       have HF:=hdd HF7.out.2.1;have HQ:=hdd HF7.out.2.2;go_wp2
       ((try simp only[Exit.inBlock,Exit.then]); refine bodyPost_ret (results_cell_row rfl _ _ w.heap.size _ _ (0,0) _ rfl HQ.out Tryz.underlying30 rfl (by kernel_rfl)) rfl ?_)
       exact HF.out
     ·have hb1:(r==0)=false:=by simpa using hr
      have hb2:(r==1)=false:=by simpa using hr'
      obtain ⟨h1,h2,h3,h4,h5,⟨p',h6,h7⟩,h8,h9,h10',h11⟩:=id hW6;have HF:=hdd (dk_done (p:=p) (x:=0) (c:=0) (gs:=[]) (ao:=none) (co:=0) hKw (OwnG.empty (w.heap.size+1) w6) (fun g hg=>by cases hg) (by simp) (fun g hg=>by cases hg) (by omega) (by omega) (by omega) (by omega) h6 (by omega) h8 (by omega));have HQ:=hdd (heap_setCell_same _ _ 2 _ _ (.slice none 0 0) (heap_setCell_same _ _ 1 _ _ (.int .i64 0) (heap_setCell_same _ _ 0 _ _ (.int .i64 0) h5)));clear h1 h2 h3 h4 h5 h6 h7 h8 h9 h10' h11;obtain ⟨⟨x0,x1,x2,xk⟩,y0,y1,y2,yk,hRD⟩:=hW6.facts;clear hW6 hr hr';go_wp2
      ((try simp only[Exit.inBlock,Exit.then]); refine bodyPost_ret (results_cell_row rfl _ _ w.heap.size _ _ (0,0) _ rfl HQ.out Tryz.underlying30 rfl (by kernel_rfl)) rfl ?_)
      exact HF.out
theorem OwnI.litOne (w:World) (y:Int):OwnI w.heap.size (w.alloc (.cells #[.int .i64 y] 3)) (.slice (some ⟨w.heap.size,0,none⟩) 1 1) [y]:=
 World.ownsRow_lit w #[.int .i64 y] 1 (Nat.le_refl _) (by simp[maxLen]) rfl
theorem small_in2 {x:Int} (h:0≤x∧x≤10):In64 x:=by unfold In64; omega
theorem fresh_at {xs:List Int} {w w1:World} {e:Ending} {w':World} (h:FreshI xs w1 e w') (hb:Below w.heap.size w w1):FreshI xs w e w':=by
 obtain ⟨a,c,h1,h2,h3⟩:=h;exact ⟨a,c,h1,h2.mono hb.size,hb.trans (h3.mono hb.size)⟩
set_option maxHeartbeats 8000000 in
theorem afterNoS_any {B:Nat} (v u:Value) (row x:List Int) (w:World) (h:Ints B w v row) (hu:Ints B w u x) (hok:askOk row x) (hk:knownB row=true):
  Calls Tryz.prog 180 #[v,u] w (FreshI (confL row (othL row x)) w):=by
 have hsm:=known_small hk;have hl3:=hsm.1.2;have hxl:=askOk_len hok;have HYES:=hdd (fun W z (hb:Below w.heap.size w W) (hz:Ints 0 W z (othL row x))=>afterYesS_any v z row (othL row x) W ((h.below hb).mono (Nat.zero_le _)) hz (oth_ok hok) hk);have HSP:=hdd (fun W (hb:Below w.heap.size w W)=>splitS_any v u row x W (h.below hb) (hu.below hb) hok hk);obtain ⟨a,cap,rfl,_,_,hcells⟩:=h.opened;obtain ⟨a2,cap2,rfl,_,_,hcells2⟩:=hu.opened;rw[hxl] at HSP ⊢;have hw0:Below w.heap.size w (w.alloc (.cells #[] 3)):=(Below.refl _ _).alloc (Nat.le_refl _) _;have HW0:=hdd hw0;have HLIT:=hdd (OwnI.lit w);have HCE:=hdd hcells;have HCE2:=hdd hcells2;have HG:=hdd (oth_get hok);have HOM:=hdd (ask_small hsm (oth_ok hok)).2;have HXM:=hdd (ask_small hsm hok).2;have HRM:=hdd hsm.2;have HXL:=hdd hxl;have HCL:=hdd (oth_len hok);obtain ⟨C,hC⟩:∃ C,C=othL row x:=⟨_,rfl⟩
 rw[←hC] at HG HCL HYES HOM ⊢;clear h hu hcells hcells2 hxl hok hk hsm hw0 hC;go_enter Tryz.func180,Tryz.ntmps180;go_wp2;go_loopw [5,6] (fun s i wi=>∃ (k:Nat) (ao:Option Addr) (co:Nat),k≤row.length∧i=.int .i64 k∧s=.slice ao k co∧OwnI w.heap.size wi (.slice ao k co) (C.take k)∧Below w.heap.size w wi) (fun _ i _=>row.length-(intOf i).toNat)
 case atStart=>exact ⟨0,_,0,by omega,rfl,rfl,by simpa using HLIT.out,HW0.out⟩
 case round=>
  obtain ⟨k,ao,co,hk,rfl,rfl,ho,hb⟩:=hrel;obtain ⟨wk,rfl⟩:∃ z,z=wr:=⟨_,rfl⟩
  have HB:=hdd hb;have HO:=hdd ho
  by_cases hlt:k<row.length
  ·have hk0:(0:Int)≤(k:Int):=by omega
   have hk1:(k:Int)<(row.length:Int):=by omega
   have hk5:(k:Int)≤5:=by omega
   have hT:=HSP.out wk hb;clear ho hb;go_wp2_with fail;refine hT.mono ?_;rintro e w1 ⟨rfl,hb1⟩;clear hT;have hB1:=HB.out.trans (hb1.mono HB.out.size);have HB1:=hdd hB1;have HO1:=hdd (HO.out.below hb1);have hxlt:k<x.length:=by rw[HXL.out]; exact hlt
   have hclt:k<C.length:=by rw[HCL.out]; exact hlt
   obtain ⟨b,off,rfl,_,hc⟩:=HCE.out (by omega);obtain ⟨b2,off2,rfl,_,hc2⟩:=HCE2.out (by omega);have hck:=(Above.of_below (B:=0) hB1).cell (Nat.zero_le _) (hc k hlt);have hck2:=(Above.of_below (B:=0) hB1).cell (Nat.zero_le _) (hc2 k hxlt);have hg:=HG.out k hclt;rw[getD_is hlt,getD_is hxlt] at hg;have hry:=HRM.out row[k] (List.getElem_mem hlt);have hqy:=HXM.out x[k] (List.getElem_mem hxlt);have hTT:=(show C.take (k+1)=C.take k++[C[k]] from List.take_succ_eq_append_getElem hclt)
   obtain ⟨cv,hcv⟩:∃ c,c=C[k]:=⟨_,rfl⟩
   rw[←hcv] at hTT hg;have HT:=hdd hTT;obtain ⟨r,hrr⟩:∃ z,z=row[k]:=⟨_,rfl⟩
   rw[←hrr] at hck hry hg;obtain ⟨p,hpp⟩:∃ z,z=x[k]:=⟨_,rfl⟩
   rw[←hpp] at hck2 hqy hg;have HG2:=hdd hg;have HL:=hdd (show (C.take k).length=k by simp; omega);obtain ⟨r0,r1⟩:=hry;obtain ⟨p0,p1⟩:=hqy;have hwr:IntKind.i64.wrap (r-p)=r-p:=IntWalk.i64_in _ (by omega);have HLO:=hdd (show Ints 0 (w1.alloc (.cells #[.int .i64 (r-p)] 3)) (.slice (some ⟨w1.heap.size,0,none⟩) 1 1) [r-p] from ((OwnI.litOne w1 (r-p)).toInts (by intro z hz; simp at hz; subst hz; unfold In64; omega)).mono (Nat.zero_le _));clear hcv hTT hb1 hB1 hc hc2 hg hrr hpp hxlt hclt;go_wp2;go_region_law (refine step_push_any _ (by rfl) (.tmp 19) (.tmp 29) (by rfl) (.slice ao k co) (C.take k) (by rfl) (show OwnI w.heap.size (w1.alloc (.cells #[.int .i64 (r-p)] 3)).drew (.slice ao k co) (C.take k) from (show OwnI w.heap.size (w1.alloc (.cells #[.int .i64 (r-p)] 3)) (.slice ao k co) (C.take k) from World.ownsRow.alloc HO1.out _)) (.slice (some ⟨w1.heap.size,0,none⟩) 1 1) [r-p] (by rfl) (show Ints 0 (w1.alloc (.cells #[.int .i64 (r-p)] 3)).drew (.slice (some ⟨w1.heap.size,0,none⟩) 1 1) [r-p] from HLO.out) (by rw[HL.out]; simp; omega) (by have:=HB1.out.size; simp; omega) ?_; intro a7 c7 w7 ho7 hg7; rw[HL.out] at ho7 ⊢; have HB7:=hdd (((HB1.out.alloc HB1.out.size (.cells #[.int .i64 (r-p)] 3)).drew).grown hg7 (by have:=HB1.out.size; simp; omega) (fun j hj=>(World.ownsRow.lt HO1.out j hj).1)); have HO7:=hdd (show OwnI w.heap.size w7 (.slice a7 (k+1) c7) (C.take (k+1)) by rw[HT.out,HG2.out]; exact ho7); clear ho7 hg7)
   all_goals go_wp2
   all_goals go_roundw
   all_goals first | exact ⟨k+1,a7,c7,by omega,by go_num,rfl,HO7.out,HB7.out⟩ | (simp[intOf]; omega)
  ·have hkl:k=C.length:=by rw[HCL.out]; omega
   have hT:=HYES.out wk (.slice ao k co) hb (by
    have e:OwnI w.heap.size wk (.slice ao k co) C:=by
     rw[hkl,List.take_length] at ho; rw[hkl]; exact ho
    exact (e.toInts fun y hy=>small_in2 (HOM.out y hy)).mono (Nat.zero_le _))
   have HT:=hdd hT;have hk1:¬((k:Int)<(row.length:Int)):=by omega
   clear ho hb hkl hT;go_wp2_with fail;refine HT.out.mono ?_;rintro e w2 hf;obtain ⟨a3,c3,rfl,ho3,hb3⟩:=fresh_at hf HB.out;have HO3:=hdd ho3;have HB3:=hdd hb3;clear ho3 hb3 hf;go_wp2;go_ret;exact ⟨a3,c3,rfl,HO3.out,HB3.out⟩
theorem foundS_any (w:World):Calls Tryz.prog 134 #[] w fun e w'=>∃ g,e=.returned (.slice (some ⟨g,0,none⟩) 13310 13310)∧OwnI w.heap.size w' (.slice (some ⟨g,0,none⟩) 13310 13310) (List.replicate 13310 0)∧Below w.heap.size w w':=by
 obtain ⟨N,hN⟩:∃ N:Nat,N=13310:=⟨_,rfl⟩
 have HN:=hdd hN;obtain ⟨zs,hz⟩:∃ zs,zs=List.replicate 13310 (0:Int):=⟨_,rfl⟩
 have HZ:=hdd hz;rw[←hz];clear hN hz;go_enter Tryz.func134,Tryz.ntmps134;go_wp2_with (at_make; refine wpList_make_ints _ rfl _ _ rfl _ _ 13310 rfl rfl rfl rfl (by omega) ?_; intro w3 hr3 hb3 hs3);have HO:=hdd (show OwnI w.heap.size w3 (.slice (some ⟨w.heap.size,0,none⟩) 13310 13310) zs by rw[HZ.out]; exact hr3);have HB:=hdd hb3;clear hr3 hb3 hs3;go_wp2;go_ret;exact ⟨_,rfl,HO.out,HB.out⟩
theorem wpList_push_u {B C:Nat} (w:World) {ops:Array Oper} {rest:List Oper} {o:Oper} {a:Act} {Q:Exit→Act→World→Prop}
  (hg:o.guard=none) (s x:Operand) (hop:o.op=Op.call { callee:=Callee.builtin Builtin.append,args:=#[s,x],argTypes:=#[37,37] })
  (v:Value) (xs:List Int) (hs:a.eval s=v) (hown:OwnI B w v xs) (u:Value) (ys:List Int) (hx:a.eval x=u) (hu:Ints C w u ys)
  (hlen:xs.length+ys.length≤1099511627776) (hB:B≤w.heap.size)
  (h:∀ a' cap' w',OwnI B w' (.slice a' (xs.length+ys.length) cap') (xs++ys)→w.grownBy w' v.ownBlock→wpList Tryz.prog ops Q rest (a.put o.dst (.slice a' (xs.length+ys.length) cap')) w'):
  wpList Tryz.prog ops Q (o::rest) a w:=by
 refine wpList_plain hg fun K hK=>?_
 obtain ⟨a',cap',w',hrun,h1,h2⟩:=run_push_any w o.type v xs hown u ys hu hlen hB;unfold Oper.wp;simp[execOp,hop,resolve,invoke,builtin,hs,hx,hrun,Result.andThen];exact hK _ _ (h a' cap' w' h1 h2)
def qsTo (row:List Int):Nat→List (List Int)
 | 0=>[[]]
 | k+1=>(qsTo row k).flatMap fun p=>(List.range (row.getD k 0+1).toNat).map fun (q:Nat)=>p++[(q:Int)]
def qsMid (row:List Int) (k n q:Nat):List (List Int):=((qsTo row k).take n).flatMap (fun p=>(List.range (row.getD k 0+1).toNat).map fun (q:Nat)=>p++[(q:Int)])++(List.range q).map fun (j:Nat)=>(qsTo row k).getD n []++[(j:Int)]
theorem qsMid_next (row:List Int) (k n q:Nat):qsMid row k n (q+1)=qsMid row k n q++[(qsTo row k).getD n []++[(q:Int)]]:=by
 simp[qsMid,List.range_succ]
theorem qsMid_row {row:List Int} {k n:Nat} (hn:n<(qsTo row k).length):qsMid row k n (row.getD k 0+1).toNat=qsMid row k (n+1) 0:=by
 simp only[qsMid,List.range_zero,List.map_nil,List.append_nil];rw[List.take_succ_eq_append_getElem hn,List.flatMap_append];simp[List.getD,List.getElem?_eq_getElem hn]
theorem qsMid_end (row:List Int) (k:Nat):qsMid row k (qsTo row k).length 0=qsTo row (k+1):=by
 simp[qsMid,qsTo]
theorem qsTo_mem (row:List Int):∀ k,k≤row.length→∀ p,p∈qsTo row k↔askOk (row.take k) p:=by
 intro k
 induction k with
 | zero=>
  intro _ p
  cases p <;> simp[qsTo,askOk]
 | succ k ih=>
  intro hk p;have key:∀ (r:List Int) (a:Int) (p:List Int),askOk (r++[a]) p↔∃ p' x,p=p'++[x]∧askOk r p'∧0≤x∧x≤a:=by
   intro r
   induction r with
   | nil=>
    intro a p
    constructor
    ·intro h
     cases p with
     | nil=>simp[askOk] at h
     | cons y q=>cases q with
      | nil=>exact ⟨[],y,rfl,trivial,h.1,h.2.1⟩
      | cons z q=>simp[askOk] at h
    ·rintro ⟨p',x,rfl,h1,h2,h3⟩
     cases p' with
     | nil=>exact ⟨h2,h3,trivial⟩
     | cons z q=>simp[askOk] at h1
   | cons b r ihr=>
    intro a p
    constructor
    ·intro h
     cases p with
     | nil=>simp[askOk] at h
     | cons y q=>
      obtain ⟨p',x,rfl,h4,h5⟩:=(ihr a q).1 h.2.2;exact ⟨y::p',x,rfl,⟨h.1,h.2.1,h4⟩,h5⟩
    ·rintro ⟨p',x,rfl,h1,h2⟩
     cases p' with
     | nil=>simp[askOk] at h1
     | cons y q=>exact ⟨h1.1,h1.2.1,(ihr a _).2 ⟨q,x,rfl,h1.2.2,h2⟩⟩
  have hk':k<row.length:=by omega
  rw[List.take_succ_eq_append_getElem hk',key];have e:row.getD k 0=row[k]:=by simp[List.getD,List.getElem?_eq_getElem hk']
  simp only[qsTo,List.mem_flatMap,List.mem_map,List.mem_range,e]
  constructor
  ·rintro ⟨p',h1,q,h2,rfl⟩
   exact ⟨p',q,rfl,(ih (by omega) p').1 h1,by omega,by omega⟩
  ·rintro ⟨p',x,rfl,h1,h2,h3⟩
   exact ⟨p',(ih (by omega) p').2 h1,x.toNat,by omega,by rw[Int.toNat_of_nonneg h2]⟩
theorem qsTo_len {row:List Int} (h:smallR row):∀ k,k≤3→(qsTo row k).length≤11^k:=by
 intro k
 induction k with
 | zero=>simp[qsTo]
 | succ k ih=>
  intro hk;have h1:=ih (by omega);have hx:row.getD k 0≤10:=by
   by_cases hj:k<row.length
   ·rw[show row.getD k 0=row[k] by simp[List.getD,List.getElem?_eq_getElem hj]]
    exact (h.2 _ (List.getElem_mem hj)).2
   ·rw[show row.getD k 0=0 by simp[List.getD,List.getElem?_eq_none (by omega:row.length≤k)]]; omega
  have key:∀ (l:List (List Int)),(l.flatMap fun p=>(List.range (row.getD k 0+1).toNat).map fun (q:Nat)=>p++[(q:Int)]).length≤11*l.length:=by
   intro l
   induction l with
   | nil=>simp
   | cons a l ihl=>
    rw[List.flatMap_cons,List.length_append,List.length_map,List.length_range,List.length_cons];omega
  have h2:=key (qsTo row k);rw[Nat.pow_succ];simp only[qsTo];omega
theorem ask_small2 {row:List Int} (h:smallR row) {k:Nat} (hk:k≤row.length) {p:List Int} (hok:askOk (row.take k) p):∀ y∈p,0≤y∧y≤10:=fun y hy=>by
 obtain ⟨j,hj,rfl⟩:=List.getElem_of_mem hy;have hl:=askOk_len hok;have h1:=askOk_get hok j (by omega) hj;have hjr:j<row.length:=by simp at hl; omega
 have h2:=h.2 row[j] (List.getElem_mem hjr);rw[List.getElem_take] at h1;omega
theorem qsMid_len (row:List Int) (k n q:Nat) (hQ:(qsTo row k).length≤1331) (hn:n≤(qsTo row k).length) (hq:q≤11) (h:smallR row):(qsMid row k n q).length≤20000:=by
 have hx:row.getD k 0≤10:=by
  by_cases hj:k<row.length
  ·rw[getD_is hj]; exact (h.2 _ (List.getElem_mem hj)).2
  ·rw[show row.getD k 0=0 by simp[List.getD,List.getElem?_eq_none (by omega:row.length≤k)]]; omega
 have key:∀ (l:List (List Int)),(l.flatMap fun p=>(List.range (row.getD k 0+1).toNat).map fun (q:Nat)=>p++[(q:Int)]).length≤11*l.length:=by
  intro l
  induction l with
  | nil=>simp
  | cons a l ihl=>
   rw[List.flatMap_cons,List.length_append,List.length_map,List.length_range,List.length_cons];omega
 have h2:=key ((qsTo row k).take n);have h3:((qsTo row k).take n).length≤1331:=by simp; omega
 unfold qsMid;rw[List.length_append,List.length_map,List.length_range];omega
theorem OwnII.oneEmpty (w:World):OwnII w.heap.size ((w.alloc (.cells #[] 3)).alloc (.cells #[.slice (some ⟨w.heap.size,0,none⟩) 0 0] 37)) (.slice (some ⟨w.heap.size+1,0,none⟩) 1 1) [[]]:=by
 have h1:OwnI w.heap.size ((w.alloc (.cells #[] 3)).alloc (.cells #[.slice (some ⟨w.heap.size,0,none⟩) 0 0] 37)) (.slice (some ⟨w.heap.size,0,none⟩) 0 0) []:=World.ownsRow.alloc (OwnI.lit w) _;have h2:=World.ownsRow_lit (w.alloc (.cells #[] 3)) (e:=37) #[.slice (some ⟨w.heap.size,0,none⟩) 0 0] 1 (show w.heap.size≤(w.alloc (.cells #[] 3)).heap.size by simp) (by simp[maxLen]) (show (#[Value.slice (some ⟨w.heap.size,0,none⟩) 0 0]:Array Value).size=1*1 from rfl);rw[show (w.alloc (.cells #[] 3)).heap.size=w.heap.size+1 by simp] at h2;refine ⟨[.slice (some ⟨w.heap.size,0,none⟩) 0 0],h2,rfl,fun i hi hi'=>?_,fun i j hi hj hij=>?_⟩
 ·have:i=0:=by simpa using hi
  subst this;exact h1
 ·simp at hi hj; omega
set_option maxHeartbeats 8000000 in
theorem questionsS_any {B:Nat} (v:Value) (row:List Int) (w:World) (h:Ints B w v row) (hs:smallR row):
  Calls Tryz.prog 178 #[v] w (FreshII (qsTo row row.length) w):=by
 obtain ⟨a,cap,rfl,_,_,hcells⟩:=h.opened;have HONE:=hdd (OwnII.oneEmpty w);have HB0:=hdd (show Below w.heap.size w ((w.alloc (.cells #[] 3)).alloc (.cells #[.slice (some ⟨w.heap.size,0,none⟩) 0 0] 37)) from ((Below.refl _ _).alloc (Nat.le_refl _) _).alloc (by simp) _);have HCE:=hdd hcells;have HRM:=hdd hs.2;have hl3:=hs.1.2;have HLEN:=hdd (fun k (hk:k≤3)=>qsTo_len hs k hk);have HSM:=hdd hs;clear h hcells hs;unfold FreshII;go_enter Tryz.func178,Tryz.ntmps178;go_wp2;go_loopw [3,4] (fun s i wi=>∃ (k:Nat) (ao:Option Addr) (co:Nat),k≤row.length∧i=.int .i64 k∧s=.slice ao (qsTo row k).length co∧OwnII w.heap.size wi (.slice ao (qsTo row k).length co) (qsTo row k)∧Below w.heap.size w wi) (fun _ i _=>row.length-(intOf i).toNat)
 case atStart=>exact ⟨0,_,1,by omega,rfl,rfl,HONE.out,HB0.out⟩
 case round=>
  obtain ⟨k,ao,co,hk,rfl,rfl,ho,hb⟩:=hrel;obtain ⟨wk,rfl⟩:∃ z,z=wr:=⟨_,rfl⟩
  have HB:=hdd hb;have HO:=hdd ho;have hQL:=HLEN.out k (by omega);have hQ4:(qsTo row k).length≤1331:=Nat.le_trans hQL (Nat.pow_le_pow_right (by omega) (by omega:k≤3))
  by_cases hlt:k<row.length
  ·obtain ⟨b,off,rfl,_,hc⟩:=HCE.out (by omega)
   have HCK:=hdd (fun W (h:Below w.heap.size w W)=>(Above.of_below (B:=0) h).cell (Nat.zero_le _) (hc k hlt));have hx:=HRM.out row[k] (List.getElem_mem hlt);have hD:row.getD k 0=row[k]:=getD_is hlt;have HMN:=hdd (fun n q=>qsMid_next row k n q);have HMR:=hdd (fun n (hn:n<(qsTo row k).length)=>qsMid_row (row:=row) hn);have HME:=hdd (qsMid_end row k);have HL1:=hdd (HLEN.out (k+1) (by omega));rw[hD] at HMR;obtain ⟨x,hxx⟩:∃ z,z=row[k]:=⟨_,rfl⟩
   rw[←hxx] at hx HCK HMR;obtain ⟨Q,hQ⟩:∃ Q,Q=qsTo row k:=⟨_,rfl⟩
   rw[←hQ] at HMN HMR HME HO hQ4 ⊢;obtain ⟨Q1,hQ1⟩:∃ Q,Q=qsTo row (k+1):=⟨_,rfl⟩
   rw[←hQ1] at HME HL1;have HQ1E:=hdd (hQ1.symm);have HQM:=hdd (show ∀ p∈Q,∀ y∈p,In64 y from fun p hp y hy=>by
    rw[hQ] at hp;have hok:=(qsTo_mem row k (by omega) p).1 hp;have:=ask_small2 HSM.out (by omega) hok y hy;exact small_in2 this)
   have HQP:=hdd (show ∀ p∈Q,p.length≤3 from fun p hp=>by
    rw[hQ] at hp;have:=askOk_len ((qsTo_mem row k (by omega) p).1 hp);simp at this; omega)
   obtain ⟨M,hM⟩:∃ M:Nat→Nat→List (List Int),M=qsMid row k:=⟨_,rfl⟩
   have HM0:=hdd (show M 0 0=[] by rw[hM]; simp[qsMid]);have HML:=hdd (show ∀ n q,n≤Q.length→q≤11→(M n q).length≤20000 from fun n q h1 h2=>by
    rw[hM];rw[hQ] at h1;exact qsMid_len row k n q (by rw[←hQ]; exact hQ4) h1 h2 HSM.out)
   rw[←hM] at HMN HMR HME;obtain ⟨x0,x1⟩:=hx;have hk0:(0:Int)≤(k:Int):=by omega
   have hk1:(k:Int)<(row.length:Int):=by omega
   have hk5:(k:Int)≤5:=by omega
   clear ho hb hc hD hxx hQ hQ1 hM hQL;have HNX:=hdd (show OwnII wk.heap.size (wk.alloc (.cells #[] 37)) (.slice (some ⟨wk.heap.size,0,none⟩) (M 0 0).length 0) (M 0 0) by rw[HM0.out]; exact OwnII.lit wk);have HBK:=hdd (show Below wk.heap.size wk (wk.alloc (.cells #[] 37)) from (Below.refl _ _).alloc (Nat.le_refl _) _);have HM0L:=hdd (show (M 0 0).length=0 by rw[HM0.out]; rfl);go_wp2;obtain ⟨wo,hwo⟩:∃ z,z=wk.alloc (.cells #[] 37):=⟨_,rfl⟩
   rw[←hwo] at HNX HBK ⊢;clear hwo;go_loopw [5,6] (fun s i wi=>∃ (n:Nat) (an:Option Addr) (cn:Nat),n≤Q.length∧i=.int .i64 n∧s=.slice an (M n 0).length cn∧OwnII wk.heap.size wi (.slice an (M n 0).length cn) (M n 0)∧Below wk.heap.size wk wi) (fun _ i _=>Q.length-(intOf i).toNat)
   case atStart=>exact ⟨0,_,0,by omega,rfl,by rw[HM0L.out],HNX.out,HBK.out⟩
   case round=>
    obtain ⟨n,an,cn,hn,rfl,rfl,hno,hnb⟩:=hrel;obtain ⟨wn,rfl⟩:∃ z,z=wr:=⟨_,rfl⟩
    by_cases hnl:n<Q.length
    ·obtain ⟨ao',co',he,_,_,V,hV,hVI⟩:=(HO.out.below hnb).opened
     injection he with e1 e2 e3;subst e1 e3;clear e2;obtain ⟨g,rfl,_,hcell,_⟩:=hV (by omega);have hcn:=hcell n hnl;have HNI:=hdd (hVI n hnl);have hcg:∀ W,Below wk.heap.size wk W→W.cell? ⟨g,n,none⟩=some (V n)∧Ints 0 W (V n) Q[n]:=fun W hW=>by
      obtain ⟨a9,c9,he9,_,_,V9,hV9,hVI9⟩:=(HO.out.below hW).opened;injection he9 with e1 e2 e3;subst e3;clear e2;obtain ⟨g9,e9,_,hc9,_⟩:=hV9 (by omega);rw[←e1] at e9;injection e9 with e9;injection e9 with e9 _ _;subst e9;obtain ⟨a8,c8,he8,_,_,V8,hV8,hVI8⟩:=HO.out.opened;injection he8 with f1 f2 f3;obtain ⟨g8,e8,hg8,hc8,_⟩:=hV8 (by omega);rw[←f1] at e8;injection e8 with e8;injection e8 with e8 _ _;subst e8;have q8:=hc8 n hnl;have q1:=(Above.of_below (B:=0) hW).cell (Nat.zero_le _) q8;have q2:=(Above.of_below (B:=0) hnb).cell (Nat.zero_le _) q8;rw[hcn] at q2;have ev:V n=V8 n:=Option.some.inj q2;rw[ev];refine ⟨q1,?_⟩;exact (((hVI8 n hnl).below hW).toInts (fun y hy=>HQM.out _ (List.getElem_mem hnl) y hy)).mono (Nat.zero_le _)
     have HCG:=hdd hcg;have HNO:=hdd hno;have HNB:=hdd hnb;have hn0:(0:Int)≤(n:Int):=by omega
     have hn1:(n:Int)<(Q.length:Int):=by omega
     have hn9:(n:Int)≤2000:=by omega
     have HMNn:=hdd (fun q=>HMN.out n q);have HMRn:=hdd (HMR.out n hnl);have hgetD:Q.getD n []=Q[n]:=by simp[List.getD,List.getElem?_eq_getElem hnl]
     have HPL:=hdd (show Q[n].length≤1000000 from by
      have hp:=List.getElem_mem hnl;have HQ9:=HQP.out Q[n] hp;omega)
     have HGD:=hdd hgetD;clear hno hnb hcg hcn hgetD;go_wp2;go_loopw [5,7] (fun s i wi=>∃ (q:Nat) (an:Option Addr) (cn:Nat),(q:Int)≤x+1∧i=.int .i64 q∧s=.slice an (M n q).length cn∧OwnII wk.heap.size wi (.slice an (M n q).length cn) (M n q)∧Below wk.heap.size wk wi) (fun _ i _=>(x+1).toNat-(intOf i).toNat)
     case atStart=>exact ⟨0,_,_,by omega,rfl,rfl,HNO.out,HNB.out⟩
     case round=>
      obtain ⟨q,an,cn,hq,rfl,rfl,hqo,hqb⟩:=hrel;obtain ⟨wq,rfl⟩:∃ z,z=wr:=⟨_,rfl⟩
      have hck:=HCK.out wq (HB.out.trans (hqb.mono HB.out.size));have HQO:=hdd hqo;have HQB:=hdd hqb;have hq0:(0:Int)≤(q:Int):=by omega
      by_cases hqx:(q:Int)≤x
      ·have hB1:Below wq.heap.size wq (wq.alloc (.cells #[] 3)):=(Below.refl _ _).alloc (Nat.le_refl _) _
       have hcn1:=(HCG.out _ (HQB.out.trans (hB1.mono HQB.out.size))).1;have hv1:=(HCG.out _ (HQB.out.trans (hB1.mono HQB.out.size))).2;have HLIT:=hdd (OwnI.lit wq);have hmn:=HMNn.out q;rw[HGD.out] at hmn;have hpl:=HPL.out;obtain ⟨p,hp⟩:∃ p,p=Q[n]:=⟨_,rfl⟩
       rw[←hp] at hmn hv1 hpl;obtain ⟨vn,hvn⟩:∃ v,v=V n:=⟨_,rfl⟩
       rw[←hvn] at hcn1 hv1;have HV:=hdd hv1;have HMQ:=hdd hmn;have HB1:=hdd hB1;have HMQL:=hdd (HML.out n q (by omega) (by omega));have HMQ1:=hdd (show (M n (q+1)).length=(M n q).length+1 by rw[hmn]; simp);clear hB1 hv1 hmn hp hvn hqo hqb;go_wp2_with (first
        | (at_builtin; refine wpList_push_u _ rfl (.tmp 32) (.tmp 36) rfl (.slice (some ⟨wq.heap.size,0,none⟩) 0 0) [] rfl HLIT.out vn p rfl HV.out (by simp; omega) (by simp) ?_; intro a5 c5 w5 ho5 hg5; simp only[List.nil_append,List.length_nil,Nat.zero_add] at ho5 ⊢; have HB5:=hdd (HB1.out.grown hg5 HB1.out.size (fun j hj=>by cases hj; exact Nat.le_refl _)); have HO5:=hdd ho5; clear ho5 hg5)
        | (at_builtin; refine wpList_push_int _ rfl (.tmp 37) (.tmp 39) rfl wq.heap.size (.slice a5 p.length c5) p rfl (World.ownsRow.alloc HO5.out _) ⟨w5.heap.size,0,none⟩ 1 (q:Int) rfl (by simp) (by omega) (by have:=HB5.out.size; simp; omega) ?_; intro a6 c6 w6 ho6 hg6; have HB6:=hdd ((HB5.out.alloc HB5.out.size _).grown hg6 (by have:=HB5.out.size; simp; omega) (fun j hj=>(World.ownsRow.lt HO5.out j hj).1)); have HO6:=hdd ho6; clear ho6 hg6)
        | (at_builtin; refine wpList_push_new wq w6 rfl (.tmp 31) (.tmp 41) rfl wk.heap.size (.slice an (M n q).length cn) (M n q) rfl HQO.out HB6.out w6.heap.size rfl (.slice a6 (p.length+1) c6) (p++[(q:Int)]) rfl (by simpa using HO6.out) (by have:=HMQL.out; omega) HQB.out.size ?_; intro a7 c7 w7 ho7 hb7; have HO7:=hdd (show OwnII wk.heap.size w7 (.slice a7 (M n (q+1)).length c7) (M n (q+1)) by rw[HMQ1.out,HMQ.out]; exact ho7); have HB7:=hdd (show Below wk.heap.size wk w7 from HQB.out.trans hb7); clear ho7 hb7; rw[←HMQ1.out]))
       go_roundw
       case rel=>exact ⟨q+1,a7,c7,by omega,by go_num,rfl,HO7.out,HB7.out⟩
       case measure=>simp[intOf]; omega
      ·have hqe:q=(x+1).toNat:=by omega
       have HE:=hdd (show M n q=M (n+1) 0 by rw[hqe]; exact HMRn.out);have HO7:=hdd (show OwnII wk.heap.size wq (.slice an (M (n+1) 0).length cn) (M (n+1) 0) by rw[←HE.out]; exact hqo);have HB7:=hdd hqb;rw[HE.out];clear hqo hqb hqe;go_wp2;go_roundw
       case rel=>exact ⟨n+1,an,cn,by omega,by go_num,rfl,HO7.out,HB7.out⟩
       case measure=>simp[intOf]; omega
    ·have hnq:n=Q.length:=by omega
     have HE:=hdd (show M n 0=Q1 by rw[hnq]; exact HME.out);have HO7:=hdd (show OwnII w.heap.size wn (.slice an Q1.length cn) Q1 by
      rw[HE.out] at hno;exact hno.mono HB.out.size)
     have HB7:=hdd (HB.out.trans (hnb.mono HB.out.size));rw[HE.out];clear hno hnb hnq;go_wp2;go_roundw
     case rel=>exact ⟨k+1,an,cn,by omega,by go_num,by rw[HQ1E.out],by rw[HQ1E.out]; exact HO7.out,HB7.out⟩
     case measure=>simp[intOf]; omega
  ·have hkr:k=row.length:=by omega
   have HE:=hdd (show qsTo row k=qsTo row row.length by rw[hkr]);have hk1:¬((k:Int)<(row.length:Int)):=by omega
   rw[HE.out] at HO;have HO7:=hdd HO.out;rw[HE.out];clear hkr hb ho;go_wp2;go_ret;exact ⟨ao,co,rfl,HO7.out,HB.out⟩
structure RowAt (g:Nat) (v:Value) (row:List Int) (W:World):Prop where
 ints:Ints 0 W v row
 ne:∀ a l c,v=.slice (some a) l c→a.block≠g
theorem RowAt.kept {g:Nat} {v:Value} {row:List Int} {W W':World} (h:RowAt g v row W) (hg:W.grownBy W' (some g)):RowAt g v row W':=by
 refine ⟨?_,h.ne⟩;obtain ⟨⟨a,cap,h1,h2,h3,h4⟩,h0⟩:=h.ints;refine ⟨⟨a,cap,h1,h2,h3,fun hp=>?_⟩,h0⟩;obtain ⟨b,off,h5,hb,h6⟩:=h4 hp;refine ⟨b,off,h5,hb,fun i hi=>?_⟩;have hc:=h6 i hi;have hlt:=World.block_lt_of_cell? W _ hc;have hne:=h.ne _ _ _ (by rw[h1,h5]);rw[World.cell?_of_block (w:=W) (hg.block b hlt (fun e=>hne (by injection e)))];exact hc
theorem RowAt.below {g:Nat} {v:Value} {row:List Int} {W W':World} (h:RowAt g v row W) (hb:Below W.heap.size W W'):RowAt g v row W':=⟨h.ints.below hb,h.ne⟩
theorem RowAt.fresh {g:Nat} {a:Option Addr} {l cap:Nat} {row:List Int} {W W':World} (h:OwnI W.heap.size W' (.slice a l cap) row) (hg:g<W.heap.size) (hs:∀ y∈row,0≤y∧y≤10):RowAt g (.slice a l cap) row W':=by
 refine ⟨(h.toInts fun y hy=>small_in2 (hs y hy)).mono (Nat.zero_le _),fun ad l' c' e=>?_⟩;injection e with e1 _ _;subst e1;have:=(World.ownsRow.lt h ad.block rfl).1;omega
def testW (q:Nat) (row x:List Int):Bool:=decide (2*totL x≤totL row+1)&&(winB q (confL row x)&&winB q (confL row (othL row x)))
theorem any_mem {α:Type} {l m:List α} (f:α→Bool) (h:∀ x,x∈l↔x∈m):l.any f=m.any f:=by
 rw[Bool.eq_iff_iff,List.any_eq_true,List.any_eq_true];exact ⟨fun ⟨x,h1,h2⟩=>⟨x,(h x).1 h1,h2⟩,fun ⟨x,h1,h2⟩=>⟨x,(h x).2 h1,h2⟩⟩
theorem winB_more (q:Nat) (row:List Int):winB (q+1) row=(decide (totL row≤1)||(decide (wgt row (q+1)≤2^(q+1))&&(qsTo row row.length).any (testW q row))):=by
 rw[any_mem (m:=asksL row) (testW q row) (fun x=>by rw[qsTo_mem row row.length (Nat.le_refl _),List.take_length,asksL_mem])]
 rfl
theorem FoundOk.upTo {n q r:Nat} {fs gs:List Int} (h:FoundOk n q gs) (hs:SameOn n q fs gs) (hf:FoundOk n r fs):FoundOk n r gs:=by
 refine ⟨h.1,h.2.1,fun p row hp hk hl=>?_⟩
 by_cases hq:p≤q
 ·exact h.2.2 p row hq hk hl
 ·have hr:=(atL_range row (p:Nat) (known_okR hk).1).1
  rw[hl] at hr;have hpos:(0:Int)≤11^n:=Int.le_of_lt (Int.pow_pos (by omega));have h2:((q:Int)+1)*11^n≤(p:Int)*11^n:=Int.mul_le_mul_of_nonneg_right (by omega) hpos;have h3:0≤((q:Int)+1)*11^n:=Int.mul_nonneg (by omega) hpos;rw[hs _ (by omega)];exact hf.2.2 p row hp hk hl
theorem set_same {fs:List Int} {i:Nat} {v:Int} (hi:i<fs.length) (h:fs.getD i 0=v):fs.set i v=fs:=by
 refine List.ext_getElem (by simp) fun j h1 h2=>?_
 rw[List.getElem_set]
 split
 ·rename_i e; subst e
  rw[←h]; simp[List.getD,List.getElem?_eq_getElem hi]
 ·rfl
theorem FoundOk.left {n q:Nat} {fs gs:List Int} {row:List Int} (h:FoundOk n (q+1) fs) (hk:knownB row=true) (hl:row.length=n) (h9:q+1≤9) (hg:FoundOk n q gs)
  (hs:SameOn n q (fs.set (atL (q+1:Nat) row).toNat 2) gs) (hw:winB (q+1) row=false):FoundOk n (q+1) gs∧SameOn n (q+1) fs gs:=by
 have h1:=at_in (q:=q+1) hk h9;have hab:=at_above (q:=q) hk hl;have e:gs.getD (atL (q+1:Nat) row).toNat 0=2:=by
  rw[hs _ (by omega),getD_set_same (by rw[h.1]; omega)]
 have:=h.done hk hl h9 hg hs (v:=2) (.inr ⟨rfl,hw⟩)
 rwa [set_same (by rw[hg.1]; omega) e] at this
theorem FoundOk.told {n q:Nat} {fs:List Int} {row:List Int} (h:FoundOk n q fs) (hk:knownB row=true) (hl:row.length=n) (h9:q≤9) {i:Nat} (hi:(i:Int)=atL (q:Nat) row) (hlt:i<fs.length) (hm:0<fs[i]):(fs[i]==1)=winB q row:=by
 have e:fs.getD (atL (q:Nat) row).toNat 0=fs[i]:=by
  rw[←hi,Int.toNat_natCast]; exact getD_is hlt
 have h2:=h.2.2 q row (Nat.le_refl _) hk hl;rw[e] at h2;have h3:=h.2.1 fs[i] (List.getElem_mem hlt)
 by_cases h1:fs[i]=1
 ·rw[h2.1 h1,h1]; rfl
 ·rw[h2.2 (by omega)]; rw[beq_eq_false_iff_ne]; exact h1
theorem atL_take {row:List Int} {q:Int} {k:Nat} (h:k<row.length):atL q (row.take (k+1))=11*atL q (row.take k)+row[k]:=by
 rw[List.take_succ_eq_append_getElem h,atL_app]
def WinOut (n q g:Nat) (row fs:List Int) (W:World) (e:Ending) (W':World):Prop:=
 ∃ fs',e=.returned (.bool (winB q row))∧OwnI 0 W' (.slice (some ⟨g,0,none⟩) 13310 13310) fs'∧FoundOk n q fs'∧SameOn n q fs fs'∧W.grownBy W' (some g)
def WinC (n q:Nat):Prop:=∀ (g:Nat) (W:World) (v:Value) (row fs:List Int),RowAt g v row W→knownB row=true→row.length=n→OwnI 0 W (.slice (some ⟨g,0,none⟩) 13310 13310) fs→FoundOk n q fs →
 Calls Tryz.prog 136 #[.slice (some ⟨g,0,none⟩) 13310 13310,v,.int .i64 (q:Nat)] W (WinOut n q g row fs W)
end
end Go.Proofs.YtenlngclocfnlaaGreatDoor
