/- Texts of this claim, put together: Short. -/
import Derived.Test.YtenlngclocfnlaaGreatDoorPdE
import Derived.Test.YtenlngclocfnlaaGreatDoorPdA
import Derived.Deep.RegionWith
import Derived.Deep.Cut
import Derived.Deep.CutBlock
import Derived.Test.YtenlngclocfnlaaGreatDoorPdGD
namespace Go.Proofs.YtenlngclocfnlaaGreatDoor
set_option linter.unusedVariables false
section
open Go.RowKit
theorem OwnI.cellD {B:Nat} {w:World} {g n cap:Nat} {xs:List Int} (h:OwnI B w (.slice (some ⟨g,0,none⟩) n cap) xs) (k:Nat) (hk:k<xs.length):
  w.cell? ⟨g,k,none⟩=some (.int .i64 (xs.getD k 0))∧w.frozen? ⟨g,k,none⟩=false:=by
 obtain ⟨a,cap',he,_,_,hd⟩:=h.opened;injection he with e1 _ _;subst e1;obtain ⟨g',hg,_,hc,hf⟩:=hd (by omega);injection hg with hg;injection hg with hg _ _;subst hg;exact ⟨by rw[getD_get hk]; exact hc k hk,hf k⟩
def FillW (w:World) (g M k:Nat) (wi:World):Prop:=
 ∃ T,OwnI w.heap.size wi (.slice (some ⟨g,0,none⟩) M M) T∧T.length=M∧T.getD 0 0=0∧(∀ s,1≤s→s<k→T.getD s 0=17)∧Below w.heap.size w wi
def DpW (xss:List (List Int)) (w:World) (g M d s k:Nat) (wi:World):Prop:=
 ∃ T,OwnI w.heap.size wi (.slice (some ⟨g,0,none⟩) M M) T∧Dp xss T d s k∧Below w.heap.size w wi
theorem FillW.put {w wi:World} {g M k:Nat} (h:FillW w g M k wi) (hg:w.heap.size≤g) (hk1:1≤k) (hk:k<M):
  (∃ u,wi.cell? ⟨g,k,none⟩=some (.int .i64 u))∧wi.frozen? ⟨g,k,none⟩=false∧FillW w g M (k+1) (wi.setCell ⟨g,k,none⟩ (.int .i64 17)):=by
 obtain ⟨T,ho,hl,h0,h1,hb⟩:=h;obtain ⟨hc,hf⟩:=ho.at k (by omega);refine ⟨hc,hf,T.set k 17,ho.set k 17,by simpa using hl,by rw[getD_set_neH (by omega)]; exact h0,fun s hs1 hs=>?_,hb.setCell (p:=⟨g,k,none⟩) hg _⟩
 by_cases e:k=s
 ·subst e; exact getD_set_self (by omega)
 ·rw[getD_set_neH e]; exact h1 s hs1 (by omega)
theorem FillW.done {xss:List (List Int)} {w wi:World} {g M:Nat} (h:FillW w g M M wi) (hM:M=2^xss.length):DpW xss w g M 0 1 0 wi:=by
 obtain ⟨T,ho,hl,h0,h1,hb⟩:=h;exact ⟨T,ho,dp_start (by omega) h0 (fun s h2 h3=>h1 s h2 (by omega)),hb⟩
theorem FillW.start {w w2 w3:World} {M:Nat} (ho:OwnI w2.heap.size w3 (.slice (some ⟨w2.heap.size,0,none⟩) M M) (List.replicate M 0)) (hb:Below w2.heap.size w2 w3) (hb2:Below w.heap.size w w2) (hM:0<M):FillW w w2.heap.size M 1 w3:=by
 refine ⟨_,ho.mono hb2.size,by simp,?_,fun s h1 h2=>by omega,hb2.trans (hb.mono hb2.size)⟩;rw[getD_get (by simpa using hM)];simp
theorem DpW.step {xss:List (List Int)} {w wi:World} {g M d s k:Nat} (hM:M=2^xss.length) (hg:w.heap.size≤g) (h:DpW xss w g M d s k wi) (hs:s<M) (hk:k<xss.length):
  ∃ x y:Int,wi.cell? ⟨g,s,none⟩=some (.int .i64 x)∧wi.frozen? ⟨g,s,none⟩=false∧wi.cell? ⟨g,afterN xss s (k:Int),none⟩=some (.int .i64 y)∧0≤x∧x≤17∧0≤y∧y≤17 ∧
   ∀ w5,Drawn wi w5→DpW xss w g M d s (k+1) (w5.setCell ⟨g,s,none⟩ (.int .i64 (min x (y+1)))):=by
 obtain ⟨T,ho,hd,hb⟩:=h;have hl:=hd.1.1;have ha:afterN xss s (k:Int)<2^xss.length:=lotN_lt _ _;have a1:=(hd.1.2 s (by omega)).1;have a2:=(hd.1.2 s (by omega)).2.1;have b1:=(hd.1.2 _ ha).1;have b2:=(hd.1.2 _ ha).2.1;refine ⟨T.getD s 0,T.getD (afterN xss s (k:Int)) 0,(ho.cellD s (by omega)).1,(ho.cellD s (by omega)).2,(ho.cellD _ (by omega)).1,a1,a2,b1,b2,fun w5 hD=>?_⟩;exact ⟨_,(ho.below hD.below).set s _,dp_step hd (by omega) hk,(hb.trans (hD.below.mono hb.size)).setCell (p:=⟨g,s,none⟩) hg _⟩
def WayW (xss:List (List Int)) (T:List Int) (w:World) (g M:Nat) (wi:World) (set m:Nat) (ao:Option Addr) (co:Nat):Prop:=
 ∃ out,out.length=m∧Way xss T out set∧OwnI (g+1) wi (.slice ao m co) (toI out)∧OwnI w.heap.size wi (.slice (some ⟨g,0,none⟩) M M) T∧Below w.heap.size w wi
theorem toI_snoc (w:List Nat) (k:Nat):toI (w++[k])=toI w++[(k:Int)]:=by simp[toI]
@[simp] theorem toI_length (w:List Nat):(toI w).length=w.length:=by simp[toI]
theorem way_put {xss:List (List Int)} {T:List Int} {w wi w6 w7:World} {g M set m k:Nat} {out:List Nat} {ao a':Option Addr} {co c':Nat} {o:Obj} (hg:w.heap.size≤g) (hE:DpEnd xss T) (hn:xss.length≤8)
  (hl:out.length=m) (hw:Way xss T out set) (hout:OwnI (g+1) wi (.slice ao m co) (toI out)) (hT:OwnI w.heap.size wi (.slice (some ⟨g,0,none⟩) M M) T) (hb:Below w.heap.size w wi) (hD:Drawn wi w6) (h0:0<set) (hk:k<xss.length)
  (he:T.getD (afterN xss set (k:Int)) 0+1=T.getD set 0) (hmin:∀ c,c<k→T.getD (afterN xss set (c:Int)) 0+1≠T.getD set 0)
  (ho:OwnI (g+1) w7 (.slice a' (m+1) c') (toI out++[(k:Int)])) (hgr:(w6.alloc o).grownBy w7 (Value.slice ao m co).ownBlock):
  WayW xss T w g M w7 (afterN xss set (k:Int)) (m+1) a' c':=by
 have hout6:OwnI (g+1) (w6.alloc o) (.slice ao m co) (toI out):=World.ownsRow.alloc (hout.below hD.below) o;have hT6:OwnI w.heap.size (w6.alloc o) (.slice (some ⟨g,0,none⟩) M M) T:=World.ownsRow.alloc (hT.below hD.below) o;have hb6:Below w.heap.size w w6:=hb.trans (hD.below.mono hb.size);refine ⟨out++[k],by simp[hl],way_step hE hn hw h0 hk he hmin,by rw[toI_snoc]; exact ho,World.ownsRow.kept hT6 hgr (.inr fun e=>?_),(hb6.alloc hb6.size o).grown hgr (by simp; have:=hb6.size; omega) (fun j hj=>?_)⟩
 ·have:=(World.ownsRow.lt hout6 g e.symm).1; omega
 ·have:=(World.ownsRow.lt hout6 j hj).1; omega
def HuntOut (xss:List (List Int)) (w:World) (e:Ending) (w':World):Prop:=
 ∃ l ok a cap,e=.returned (.tuple #[.slice a l.length cap,.bool ok])∧HuntIs xss l ok∧OwnI w.heap.size w' (.slice a l.length cap) l∧Below w.heap.size w w'
set_option maxRecDepth 100000 in
set_option maxHeartbeats 4000000 in
theorem specShortestHunt_any {B:Nat} (v:Value) (xss:List (List Int)) (w:World) (h:Rows2 B w v xss):
  Calls Tryz.prog 109 #[v] w (HuntOut xss w):=by
 have hT:=specBesideOk_any v xss w h;have HR:=hdd h;obtain ⟨ad,cap,rfl,hcap,hmax,_⟩:=h.opened;clear h
 cases h1:besideB xss
 ·rw[h1] at hT
  have HE:=hdd h1;clear h1;go_enter Tryz.func109,Tryz.ntmps109;go_wp2_with fail;refine hT.mono ?_;rintro e w2 ⟨rfl,hq2⟩;have hD:Drawn w w2:=hq2;have hsz:=hD.below.size;have HF:=hdd ((OwnI.lit w2).mono hsz);have HD:=hdd hD;clear hq2 hD;go_wp2;go_ret2;exact ⟨[],false,_,0,rfl,.inr ⟨rfl,rfl,.inl HE.out⟩,HF.out,HD.out.below.trans (((Below.refl _ _).alloc (Nat.le_refl _) _).mono hsz)⟩
 ·rw[h1] at hT
  have hn:=(besideB_spec h1).1;obtain ⟨M,hM⟩:∃ M,M=2^xss.length:=⟨_,rfl⟩
  have hM2:=pow_small (show xss.length≤60 by omega);have hM64:M≤64:=by rw[hM]; exact Nat.pow_le_pow_right (show 0<2 by omega) (show xss.length≤6 by omega)
  have hM1:2≤M:=by rw[hM]; exact Nat.pow_le_pow_right (show 0<2 by omega) (show 1≤xss.length by omega)
  have hsh:wrap64 ((2:Int)^xss.length)=(M:Int):=by rw[hM]; exact shl_cast (by omega)
  have HM:=hdd hM;have HBE:=hdd h1;have HAll:=hdd (left_start (n:=xss.length) (by omega));clear h1 hM hM2;go_enter Tryz.func109,Tryz.ntmps109;go_wp2_with fail;refine hT.mono ?_;rintro e w2 ⟨rfl,hq2⟩;have hD:Drawn w w2:=hq2;have hb2:=hD.below;have hsz:=hb2.size;clear hq2 hD;go_wp2_with (at_make; refine wpList_make_ints _ rfl _ _ rfl _ _ M rfl rfl hsh hsh (by omega) ?_; intro w3 hr3 hb3 hs3; have hF:=FillW.start hr3 hb3 hb2 (by omega); clear hr3 hb3);obtain ⟨g,hg⟩:∃ g,g=w2.heap.size:=⟨_,rfl⟩
  rw[←hg] at hF ⊢;have hgw:w.heap.size≤g:=by omega
  have HHg:=hdd hg;have HB2:=hdd hb2;have HSH:=hdd hsh;clear hg hb2 hs3 hsh;obtain ⟨wf,hwf⟩:∃ wf:World,wf=w3:=⟨_,rfl⟩
  rw[←hwf] at hF ⊢;clear hwf;go_loopw [6] (fun c wi=>∃ k:Nat,1≤k∧k≤M∧c=.int .i64 k∧FillW w g M k wi) (fun c _=>M-(intOf c).toNat)
  case atStart=>exact ⟨1,by omega,by omega,rfl,hF⟩
  case round=>
   obtain ⟨k,hk1,hk,rfl,hFk⟩:=hrel;clear hF
   by_cases hlt:(k:Int)<(M:Int)
   ·have hlt2:(k:Int)<wrap64 ((2:Int)^xss.length):=by rw[HSH.out]; exact hlt
    obtain ⟨⟨u,hcu⟩,hfu,hnext⟩:=hFk.put hgw hk1 (by omega);have HN:=hdd hnext;clear hFk hnext;go_wp2;go_roundw
    case rel=>exact ⟨k+1,by omega,by omega,by go_num,HN.out⟩
    case measure=>simp[intOf]; omega
   ·have hlt2:¬(k:Int)<wrap64 ((2:Int)^xss.length):=by rw[HSH.out]; exact hlt
    have hkM:k=M:=by omega
    rw[hkM] at hFk;have hDp:=FillW.done hFk HM.out;clear hFk hkM;go_wp2;obtain ⟨wd,hwd⟩:∃ wd:World,wd=wr:=⟨_,rfl⟩
    rw[←hwd] at hDp ⊢;clear hwd;go_loopw [7] (fun c wi=>∃ d:Nat,d≤16∧c=.int .i64 d∧DpW xss w g M d 1 0 wi) (fun c _=>16-(intOf c).toNat)
    case atStart=>exact ⟨0,by omega,rfl,hDp⟩
    case round=>
     obtain ⟨d,hd,rfl,hDd⟩:=hrel;clear hDp
     by_cases hd16:(d:Int)<16
     ·go_wp2
      obtain ⟨ws,hws⟩:∃ ws:World,ws=wr:=⟨_,rfl⟩
      rw[←hws] at hDd ⊢;clear hws;go_loopw [8] (fun c wi=>∃ s:Nat,1≤s∧s≤M∧c=.int .i64 s∧DpW xss w g M d s 0 wi) (fun c _=>M-(intOf c).toNat)
      case atStart=>exact ⟨1,by omega,by omega,rfl,hDd⟩
      case round=>
       obtain ⟨s,hs1,hs,rfl,hDs⟩:=hrel;clear hDd
       by_cases hsM:(s:Int)<(M:Int)
       ·have hsM2:(s:Int)<wrap64 ((2:Int)^xss.length):=by rw[HSH.out]; exact hsM
        go_wp2;obtain ⟨wk,hwk⟩:∃ wk:World,wk=wr:=⟨_,rfl⟩
        rw[←hwk] at hDs ⊢;clear hwk;go_loopw [9] (fun c wi=>∃ k:Nat,k≤xss.length∧c=.int .i64 k∧DpW xss w g M d s k wi) (fun c _=>xss.length-(intOf c).toNat)
        case atStart=>exact ⟨0,by omega,rfl,hDs⟩
        case round=>
         obtain ⟨k,hkn,rfl,hDk⟩:=hrel;clear hDs
         by_cases hkl:(k:Int)<(xss.length:Int)
         ·obtain ⟨x,y,hcx,hfx,hcy,hx0,hx1,hy0,hy1,hnext⟩:=hDk.step HM.out hgw (by omega) (by omega)
          have hbw:Below w.heap.size w wr:=by obtain ⟨T,_,_,h⟩:=hDk; exact h
          have hAin:inB (k:Int) 0 ((xss.length:Int)-1)=true:=by simp[inB]; omega
          have hC:=specAfterDay_any (.slice ad xss.length cap) xss (s:Int) (k:Int) wr.drew ((HR.out.below hbw).keep (fun _ _ _=>rfl));rw[afterR_in HBE.out (by rw[←HM.out]; omega) hAin] at hC;obtain ⟨A,hA⟩:∃ A,A=afterN xss s (k:Int):=⟨_,rfl⟩
          rw[←hA] at hcy hC;have hAM:A<M:=by rw[hA,HM.out]; exact lotN_lt _ _
          have hi1:(A:Int)<(M:Int):=by omega
          have hi2:(0:Int)≤(A:Int):=by omega
          have hi3:(0:Int)≤(s:Int):=by omega
          have hw1:IntKind.i64.wrap (y+1)=y+1:=by rw[IntKind.wrap_i64]; omega
          have HN:=hdd hnext;clear hDk hnext hA hAin hbw
          by_cases hxy:x≤y+1
          ·have hmin:min x (y+1)=x:=Int.min_eq_left hxy
           rw[hmin] at HN;have HMN:=hdd hmin;clear hmin;go_wp2;go_region_with (first | (go_at_call 142; refine hC.mono ?_; rintro e w5 ⟨rfl,q,rfl⟩))
           all_goals
            go_wp2;go_roundw
            case rel=>exact ⟨k+1,by omega,by go_num,by first | exact HN.out _ ⟨_,rfl⟩ | (rw[HMN.out]; exact HN.out _ ⟨_,rfl⟩)⟩
            case measure=>simp[intOf]; omega
          ·have hmin:min x (y+1)=y+1:=Int.min_eq_right (by omega)
           rw[hmin] at HN;have HMN:=hdd hmin;clear hmin;go_wp2;go_region_with (first | (go_at_call 142; refine hC.mono ?_; rintro e w5 ⟨rfl,q,rfl⟩))
           all_goals
            go_wp2;go_roundw
            case rel=>exact ⟨k+1,by omega,by go_num,by first | exact HN.out _ ⟨_,rfl⟩ | (rw[HMN.out]; exact HN.out _ ⟨_,rfl⟩)⟩
            case measure=>simp[intOf]; omega
         ·have hkn':k=xss.length:=by omega
          rw[hkn'] at hDk;have HD:=hdd (show DpW xss w g M d (s+1) 0 wr by
           obtain ⟨T,h1,h2,h3⟩:=hDk;exact ⟨T,h1,dp_set h2 (by rw[←HM.out]; omega),h3⟩)
          clear hDk hkn';go_wp2;go_roundw
          case rel=>exact ⟨s+1,by omega,by omega,by go_num,HD.out⟩
          case measure=>simp[intOf]; omega
       ·have hsM2:¬(s:Int)<wrap64 ((2:Int)^xss.length):=by rw[HSH.out]; exact hsM
        have HD:=hdd (show DpW xss w g M (d+1) 1 0 wr by
         obtain ⟨T,h1,h2,h3⟩:=hDs;exact ⟨T,h1,dp_day h2 (by rw[←HM.out]; omega),h3⟩)
        clear hDs;go_wp2;go_roundw
        case rel=>exact ⟨d+1,by omega,by go_num,HD.out⟩
        case measure=>simp[intOf]; omega
     ·have hd16':d=16:=by omega
      rw[hd16'] at hDd;clear hd16';obtain ⟨T,ho,hdp,hbw⟩:=hDd;have hE:=dp_end hdp;clear hdp;have HE:=hdd hE;have hTA:=(hE.1.2 _ (full_lt xss)).2.1;have hTA0:=(hE.1.2 _ (full_lt xss)).1;have hTl:=hE.1.1;have hcA:=ho.cellD (2^xss.length-1) (by have:=full_lt xss; omega);have hst:wrap64 (wrap64 ((2:Int)^xss.length)-1)=((M-1:Nat):Int):=by rw[HAll.out,HM.out]
      rw[show 2^xss.length-1=M-1 by rw[HM.out]] at hTA hTA0 hcA;obtain ⟨tA,htA⟩:∃ tA,tA=T.getD (M-1) 0:=⟨_,rfl⟩
      rw[←htA] at hTA hTA0 hcA;have HTA:=hdd htA;have HO:=hdd ho;have HBW:=hdd hbw;have hzr:=hbw.size;have hi1:((M-1:Nat):Int)<(M:Int):=by omega
      have hi2:(0:Int)≤((M-1:Nat):Int):=by omega
      obtain ⟨A,hA⟩:∃ A:Nat,A=M-1:=⟨_,rfl⟩
      rw[←hA] at hst hi1 hi2 hcA;have hcA1:=hcA.1;have HA:=hdd hA;clear htA ho hbw hA hTl hE hcA;have hgr:g+1≤wr.heap.size:=World.block_lt_of_cell? wr _ hcA1;have hlit:=(OwnI.lit wr).mono hgr;have hcA2:(wr.alloc (.cells #[] 3)).cell? ⟨g,A,none⟩=some (.int .i64 tA):=by
       rw[World.cell?_of_block (w:=wr) (Below.heap_alloc wr _ g (World.block_lt_of_cell? wr _ hcA1))];exact hcA1
      by_cases hbig:16<tA
      ·have HNo:=hdd (HE.out.none (by rw[show 2^xss.length-1=M-1 by rw[HM.out],←HTA.out]; exact hbig))
       have HL:=hdd (hlit.mono (show w.heap.size≤g+1 by omega));clear hlit;go_wp2;go_ret2;exact ⟨[],false,_,0,rfl,.inr ⟨rfl,rfl,.inr HNo.out⟩,HL.out,HBW.out.alloc hzr _⟩
      ·have hway:=way_start (xss:=xss) (T:=T) (by rw[show 2^xss.length-1=M-1 by rw[HM.out],←HTA.out]; omega)
       rw[show 2^xss.length-1=A by rw[HA.out,HM.out]] at hway;have hoT:=HO.out.below (w':=wr.alloc (.cells #[] 3)) ((Below.refl _ _).alloc (Nat.le_refl _) _);have hbT:=HBW.out.alloc hzr (.cells #[] 3);have hW0:WayW xss T w g M (wr.alloc (.cells #[] 3)) A 0 (some ⟨wr.heap.size,0,none⟩) 0:=⟨[],rfl,hway,hlit,hoT,hbT⟩
       clear hlit hway hoT hbT;go_wp2;obtain ⟨wu,hwu⟩:∃ wu:World,wu=wr.alloc (.cells #[] 3):=⟨_,rfl⟩
       rw[←hwu] at hW0 ⊢;clear hwu;have HHE:=HE;go_loopw [10,11] (fun sv ov wi=>∃ (set m:Nat) (ao:Option Addr) (co:Nat),sv=.int .i64 set∧ov=.slice ao m co∧WayW xss T w g M wi set m ao co) (fun sv _ _=>(T.getD (intOf sv).toNat 0).toNat)
       case atStart=>exact ⟨A,0,_,0,rfl,rfl,hW0⟩
       case round=>
        obtain ⟨set,m,ao,co,rfl,rfl,hW⟩:=hrel;clear hW0 hcA1 hcA2;have hway:∃ out,out.length=m∧Way xss T out set:=by obtain ⟨out,h1,h2,_⟩:=hW; exact ⟨out,h1,h2⟩
        obtain ⟨out,hol,hway⟩:=hway;have hset:=way_set hway;have hm16:m≤16:=by
         have h1:=hway.2.2.1;have h2:=hway.2.2.2.1;have h3:=(HE.out.1.2 set hset).1;omega
        rw[←HM.out] at hset
        by_cases h0:(0:Int)<(set:Int)
        ·have h0n:0<set:=by omega
         have hhas:=way_has HE.out hway h0n;have hWT:OwnI w.heap.size wr (.slice (some ⟨g,0,none⟩) M M) T:=by obtain ⟨_,_,_,_,h,_⟩:=hW; exact h
         have hbW:Below w.heap.size w wr:=by obtain ⟨_,_,_,_,_,h⟩:=hW; exact h
         have hcS:=(hWT.cellD set (by have:=HE.out.1.1; have:=HM.out; omega)).1;have HHas:=hdd hhas;have HW:=hdd hW;have HWT:=hdd hWT;have HbW:=hdd hbW;have hsB:=(HE.out.1.2 set (by rw[←HM.out]; exact hset)).2.1;have hsB0:=(HE.out.1.2 set (by rw[←HM.out]; exact hset)).1;obtain ⟨x,hx⟩:∃ x,x=T.getD set 0:=⟨_,rfl⟩
         rw[←hx] at hcS hsB hsB0;have HX:=hdd hx;clear hhas hW hWT hbW hway hol hx;go_wp2;obtain ⟨wb,hwb⟩:∃ wb:World,wb=wr:=⟨_,rfl⟩
         rw[←hwb] at hcS HW HWT HbW ⊢;clear hwb;go_loopw [10,11,12] (fun sv ov c wi=>∃ k:Nat,k≤xss.length∧c=.int .i64 k∧(∀ c,c<k→T.getD (afterN xss set (c:Int)) 0+1≠T.getD set 0)∧Drawn wb wi∧sv=.int .i64 set∧ov=.slice ao m co) (fun _ _ c _=>xss.length-(intOf c).toNat)
         case atStart=>exact ⟨0,by omega,rfl,fun c h=>by omega,Drawn.refl _,rfl,rfl⟩
         case round=>
          obtain ⟨k,hk,rfl,hmin,hDk,rfl,rfl⟩:=hrel;have HMin:=hdd hmin;clear hmin
          by_cases hkn:(k:Int)<(xss.length:Int)
          ·have hkin:inB (k:Int) 0 ((xss.length:Int)-1)=true:=by simp[inB]; omega
           have hC:=specAfterDay_any (.slice ad xss.length cap) xss (set:Int) (k:Int) wr (HR.out.below (HbW.out.trans (hDk.below.mono HbW.out.size)));rw[afterR_in HBE.out (by rw[←HM.out]; exact hset) hkin] at hC;obtain ⟨N,hN⟩:∃ N,N=afterN xss set (k:Int):=⟨_,rfl⟩
           rw[←hN] at hC;have hNM:N<M:=by rw[hN,HM.out]; exact lotN_lt _ _
           have HN:=hdd hN;clear hN hkin;go_wp2_with fail;refine hC.mono ?_;rintro e w5 ⟨rfl,hq5⟩;have hD5:Drawn wr w5:=hq5;have hDb:=hDk.trans hD5;have hcN:=hDb.cell (HWT.out.cellD N (by have:=HE.out.1.1; have:=HM.out; omega)).1;have hcS5:=hDb.cell hcS;have hyB:=(HE.out.1.2 N (by rw[←HM.out]; exact hNM)).2.1;have hyB0:=(HE.out.1.2 N (by rw[←HM.out]; exact hNM)).1;obtain ⟨y,hy⟩:∃ y,y=T.getD N 0:=⟨_,rfl⟩
           rw[←hy] at hcN hyB hyB0;have HY:=hdd hy;have hi3:(N:Int)<(M:Int):=by omega
           have hi4:(0:Int)≤(N:Int):=by omega
           have hi5:(set:Int)<(M:Int):=by omega
           have hi6:(0:Int)≤(set:Int):=by omega
           have hw1:IntKind.i64.wrap (y+1)=y+1:=by rw[IntKind.wrap_i64]; omega
           have hg5:g<w5.heap.size:=World.block_lt_of_cell? w5 _ hcS5;have hz5:=(HbW.out.trans (hDb.below.mono HbW.out.size)).size;clear hq5 hC hD5 hDk hy
           by_cases hxy:y+1=x
           ·have hb:(y+1==x)=true:=by simpa using hxy
            have HXY:=hdd hxy;have hlt:y<x:=by omega
            clear hxy;go_wp2;go_quiet (fail);have hD6:=hDb.more nq;obtain ⟨out,hol,hway1,hown0,hT1,hb1⟩:=HW.out;have hown:OwnI (g+1) ((w5.drewN nq).alloc (.cells #[.int .i64 (k:Int)] 3)) (.slice ao m co) (toI out):=World.ownsRow.alloc (hown0.below hD6.below) _;have HOL:=hdd hol;have HAll1:=hdd (And.intro hway1 (And.intro hown0 (And.intro hT1 hb1)));have HD6:=hdd hD6;clear hol hown0 hway1 hT1 hb1 hD6;go_wp2_with (at_builtin; refine wpList_push_int _ rfl (.tmp 94) (.tmp 96) rfl (g+1) (.slice ao m co) (toI out) rfl hown ⟨w5.heap.size,0,none⟩ 1 (k:Int) rfl ?_ ?_ ?_ ?_)
            ·exact cell_of_one (heap_alloc_new (w5.drewN nq) _)
            ·have:=HOL.out; simp; omega
            ·simp; omega
            ·intro a' cap' w7 ho7 hg7
             (try rw[toI_length] at ho7)
             rw[HOL.out] at ho7 ⊢;have HO7:=hdd ho7;have HG7:=hdd hg7;clear ho7 hg7;go_wp2;go_roundw
             case rel=>exact ⟨N,m+1,a',cap',rfl,rfl,by rw[HN.out]; exact way_put hgw HE.out (by omega) HOL.out HAll1.out.1 HAll1.out.2.1 HAll1.out.2.2.1 HAll1.out.2.2.2 HD6.out h0n (by omega) (by rw[←HN.out,←HY.out,←HX.out]; exact HXY.out) HMin.out HO7.out HG7.out⟩
             case measure=>
              show (T.getD N 0).toNat<(T.getD set 0).toNat
              rw[←HY.out,←HX.out];omega
           ·have hb:(y+1==x)=false:=by simpa using hxy
            have HMin2:=hdd (show ∀ c,c<k+1→T.getD (afterN xss set (c:Int)) 0+1≠T.getD set 0 from fun c hc=>by
             by_cases e:c=k
             ·subst e; rw[←HN.out,←HY.out,←HX.out]; exact hxy
             ·exact HMin.out c (by omega))
            clear hxy;go_wp2;go_quiet (fail);go_wp2;go_roundw
            case rel=>exact ⟨k+1,by omega,by go_num,HMin2.out,hDb.more _,rfl,rfl⟩
            case measure=>simp[intOf]; omega
          ·exfalso
           obtain ⟨k',hk',he⟩:=HHas.out;exact HMin.out k' (by omega) he
        ·have hs0:set=0:=by omega
         rw[hs0] at hW;obtain ⟨out2,h1,h2,h3,h4,h5⟩:=hW;have HH:=hdd (way_end HE.out (by omega) h2);have HO2:=hdd (show OwnI w.heap.size wr (.slice ao (toI out2).length co) (toI out2) by rw[toI_length,h1]; exact h3.mono (by omega));have HB5:=hdd h5;have HL:=hdd h1;clear h1 h2 h3 h4 h5 hs0 hway hol;go_wp2;go_ret2;exact ⟨toI out2,true,ao,co,congrArg (fun m=>Ending.returned (.tuple #[.slice ao m co,.bool true])) (by rw[toI_length,HL.out]),.inl ⟨HBE.out,rfl,out2,HH.out,rfl⟩,HO2.out,HB5.out⟩
end
end Go.Proofs.YtenlngclocfnlaaGreatDoor
