/- Texts of this claim, put together: ExDeskSay. -/
import Derived.Test.YtenlngclocfnlaaGreatDoorPbZE
import Derived.Test.YtenlngclocfnlaaGreatDoorPbH
import Derived.Deep.RegionHeld3
import Derived.Deep.DeepCutAuto
import Derived.Test.YtenlngclocfnlaaGreatDoorPbGD
namespace Go.Proofs.YtenlngclocfnlaaGreatDoor
open Go.RowKit Go.Shelf
set_option linter.unusedVariables false
set_option maxRecDepth 100000
theorem szG_codesS {gs:List Gs} (hs:0≤szSS (gs.map Gs.code) 1048576):(∀ g∈gs,g.code.length≤2000000)∧totG gs≤4000000:=by
 have hb:=szSS_bound hs (by omega)
 rw[List.length_map] at hb
 have ht:=totG_eq gs
 refine ⟨fun g hg=>?_,by omega⟩
 have:=tot_mem (List.mem_map_of_mem (f:=Gs.code) hg)
 omega
theorem szSS_leS (xss:List (List Int)) (l:Int) (hl:0≤l):szSS xss l≤l:=by
 by_cases h:0≤szSS xss l
 ·have h2:=h
  unfold szSS at h2 ⊢
  split at h2
  ·rename_i q
   rw[if_pos q,szGo_neg _ _ (by omega) h2]
   omega
  ·omega
 ·omega
theorem line_tot (p c:Int) (gs:List Gs) (l:List UInt8):totG (lineG p c gs l)≤totG gs+5:=by
 unfold lineG
 split
 ·rename_i d hd
  have hc:=rd_code l
  rw[(rd_some hd).1] at hc
  unfold doneG
  split
  ·split
   ·have:=totG_take_le gs (gs.length-1); simp only; omega
   ·simp only; omega
  ·split
   ·simp only; rw[totG_app]; simp[totG,Dd.gs]; omega
   ·simp only; omega
 ·omega
theorem say_tot (hf:Int→List Int) (p c:Int):∀ (ls:List (List UInt8)) (s:List Gs×List (List UInt8)),totG (ls.foldl (sayF hf p c) s).1≤totG s.1+5*ls.length
 | [],s=>by simp
 | l::t,s=>by
  have h1:=say_tot hf p c t (sayF hf p c s l)
  have h2:=line_tot p c s.1 l
  simp only[List.foldl_cons,List.length_cons]
  simp only[sayF] at h1 ⊢
  omega
theorem SaysRes.form (hf:Int→List Int) (p c:Int) (gs:List Gs) (ls:List (List UInt8)) (h64:In64G gs) (hc:∀ g∈gs,g.code.length≤2000000):
  ∃ p' c' gs' us',(∀ w e w',SaysRes hf p c gs ls w e w'→SaysOut p' c' gs' us' w e w')∧In64G gs'∧totG gs'≤totG gs+200∧us'.length≤40:=by
 by_cases h:sayB p c gs ls=true
 ·have h':=h
  unfold sayB at h'
  rw[Bool.and_eq_true,decide_eq_true_eq] at h'
  have hk:=say_keeps (hf:=hf) h'.1 h64 hc ls ls.length (Nat.le_refl _)
  rw[List.take_length] at hk
  have ht:=say_tot hf p c ls (gs,[])
  refine ⟨p,c,(sayL hf p c gs ls).1,(sayL hf p c gs ls).2,fun w e w' q=>?_,hk.2.1,?_,by rw[hk.2.2.2]; omega⟩
  ·unfold SaysRes at q; rw[if_pos h] at q; exact q
  ·unfold sayL; simp only at ht; omega
 ·refine ⟨0,0,[],[],fun w e w' q=>?_,(fun g hg=>by cases hg),by simp[totG],by simp⟩
  unfold SaysRes at q; rw[if_neg h] at q; exact q
set_option maxHeartbeats 8000000 in
theorem FnExactDeskSay_walk {hf:Int→List Int} (hh:HuntsOk hf) (p c:Int) (v:Value) (gs:List Gs) (vl:Value) (ls:List (List UInt8)) (w:World) (hg:GW w) (h:GL 0 w v gs) (hu:SL 0 w vl (ls.map strV)) (hmx:∀ u∈ls,u.length≤9223372036854775807):
  Calls Tryz.prog 7 #[dkV p c v,vl] w fun e w'=>e=.returned (.bool true)∧Below w.heap.size w w':=by
 obtain ⟨a,cap,rfl⟩:∃ a cap,v=.slice a gs.length cap:=by obtain ⟨a,cap,_,hv,_⟩:=h; exact ⟨a,cap,hv⟩
 obtain ⟨au,cu,rfl,_⟩:=strs_opened hu
 have hge:=szSS_ge (gs.map Gs.code) 1048576 (by omega)
 have h64:=h.in64
 obtain ⟨wa,hwa⟩:∃ z,z=w.alloc (.cells #[.int .i64 p,.int .i64 c,.slice a gs.length cap] 57):=⟨_,rfl⟩
 have hba:Below w.heap.size w wa:=by rw[hwa]; exact (Below.refl _ _).alloc (Nat.le_refl _) _
 have hAD:At wa w.heap.size (.cells #[.int .i64 p,.int .i64 c,.slice a gs.length cap] 57):=by rw[hwa]; exact At.new w _
 have hsa:wa.heap.size=w.heap.size+1:=by rw[hwa]; simp
 have HD:=hdd (fun p c v=>show dkV p c v=.agg #[.int .i64 p,.int .i64 c,v] from rfl)
 have hS:=szDesk_any p c _ gs 1048576 wa (h.below hba) (by omega) (by omega)
 have HGL:=hdd (h.below hba)
 have HIN:=hdd (hu.below hba)
 have HMX:=hdd hmx
 have H64:=hdd h64
 have HAD:=hdd hAD
 have HB:=hdd hba
 have HGW:=hdd hg
 have K0:=hdd (Kp.refl 0 wa)
 obtain ⟨r1,hr1⟩:∃ q,q=szSS (gs.map Gs.code) 1048576:=⟨_,rfl⟩
 rw[←hr1] at hS hge
 have HR1:=hdd hr1
 have HSA:=hdd hsa
 rw[HD.out] at hS
 rw[HD.out]
 have hza:w.heap.size<wa.heap.size:=by omega
 clear h hu h64 hba hAD hr1 hsa hg hmx
 go_enter Tryz.func7,Tryz.ntmps7
 go_wp2_with fail
 rw[←hwa]
 clear hwa
 refine hS.mono ?_
 rintro e w1 ⟨rfl,hb1⟩
 replace K0:=hdd (K0.out.below hb1)
 replace HB:=hdd (HB.out.trans (hb1.mono HB.out.size))
 clear hS hb1
 by_cases hs1:r1<0
 ·go_wp2
  go_ret
  exact ⟨rfl,HB.out⟩
 have hl1:r1≤1048576:=by have:=szSS_leS (gs.map Gs.code) 1048576 (by omega); rw[←HR1.out] at this; exact this
 have hS:=szStringS_any _ ls r1 w1 (K0.out.sl HIN.out) HMX.out (by omega) (by omega)
 have hge2:=szSS_ge (ls.map bI) r1 (by omega)
 obtain ⟨r2,hr2⟩:∃ q,q=szSS (ls.map bI) r1:=⟨_,rfl⟩
 rw[←hr2] at hS hge2
 have HR2:=hdd hr2
 clear hr2
 go_wp2_with fail
 refine hS.mono ?_
 rintro e w2 ⟨rfl,hw2⟩
 subst hw2
 clear hS
 by_cases hs2:r2<0
 ·go_wp2
  go_ret
  exact ⟨rfl,HB.out⟩
 have hcd:=szG_codesS (gs:=gs) (by rw[←HR1.out]; omega)
 have hub:=szSS_bound (xss:=ls.map bI) (l:=r1) (by rw[←HR2.out]; omega) (by omega)
 rw[List.length_map] at hub
 have hdl:ls.length≤2000000:=by omega
 have hdc:∀ l∈ls,l.length≤2000000:=fun l hl=>by
  have:=tot_mem (List.mem_map_of_mem (f:=bI) hl)
  rw[show (bI l).length=l.length by simp[bI]] at this
  omega
 have htg0:=(szG_bound (gs:=gs) (l:=1048576) (by rw[←HR1.out]; omega) (by omega) (by omega))
 have HCD:=hdd hcd.1
 have HDC:=hdd hdc
 have htg:=hcd.2
 obtain ⟨p',c',gs',us',hform,h64',htg',hul⟩:=SaysRes.form hf p c gs ls H64.out hcd.1
 have H64':=hdd h64'
 have HTD:=hdd (show ∀ W,GL 0 W (.slice a gs.length cap) gs→Calls Tryz.prog 29 #[.agg #[.int .i64 p,.int .i64 c,.slice a gs.length cap]] W (DeskOut p c gs W) from fun W q=>toDesk_any p c _ gs W q htg0.1 htg0.2)
 have HTE:=hdd (show ∀ W,SL 0 W (.slice au ls.length cu) (ls.map strV)→Calls Tryz.prog 34 #[.slice au ls.length cu] W (FreshS ls W) from fun W q=>toStringS_any _ ls W q (by omega))
 have HSD:=hdd (show ∀ (B C:Nat) (W:World) (a2:Option Addr) (c2:Nat) (a3:Option Addr) (c3:Nat),GW W→RG B W (.slice a2 gs.length c2) gs→OwnS C W (.slice a3 ls.length c3) ls→Calls Tryz.prog 26 #[.agg #[.int .i64 p,.int .i64 c,.slice a2 gs.length c2],.slice a3 ls.length c3] W (SaysOut p' c' gs' us' W) from
  fun B C W a2 c2 a3 c3 _ q1 q2=>(deskSayS_any hh p c _ gs _ ls W q1 q2.sl HCD.out HDC.out).mono fun e w' q=>hform W e w' q)
 have HID:=hdd (show ∀ (B C:Nat) (W:World) (a2:Option Addr) (c2:Nat) (a3:Option Addr) (c3:Nat),GW W→RG B W (.slice a2 gs.length c2) gs→OwnS C W (.slice a3 ls.length c3) ls→Calls Tryz.prog 25 #[.agg #[.int .i64 p,.int .i64 c,.slice a2 gs.length c2],.slice a3 ls.length c3] W (SaysOut p' c' gs' us' W) from
  fun B C W a2 c2 a3 c3 hg q1 q2=>(deskSayI_any hh p c _ gs _ ls W hg q1 q2.sl HCD.out HDC.out).mono fun e w' q=>hform W e w' q)
 have HEQ:=hdd (fun (B C:Nat) (p c:Int) (gs:List Gs) (v v':Value) (W:World) (q1:GL B W v gs) (q2:GL C W v' gs)=>eqDesk_self p c v v' gs W q1 q2)
 have HEE:=hdd (fun (B C:Nat) (v v':Value) (us:List (List UInt8)) (W:World) (q1:SL B W v (us.map strV)) (q2:SL C W v' (us.map strV))=>eqStringS_self v v' us W q1 q2)
 have HKW:=hdd (show wa.heap.size≤w1.heap.size from K0.out.1)
 have HKW2:=hdd (show w.heap.size<wa.heap.size from hza)
 clear hform hcd htg0 h64' hdc hub
 obtain ⟨x0,x1,x2⟩:=(K0.out.at_ HAD.out (Nat.zero_le _)).three
 have hz00:=(K0.out.at_ HAD.out (Nat.zero_le _)).lt
 go_wp2_with fail
 refine (HTD.out _ (K0.out.gl HGL.out)).mono ?_
 rintro e wA ⟨aA,cA,rfl,hoA,hbA⟩
 rw[HD.out]
 replace K0:=hdd (K0.out.below hbA)
 replace HB:=hdd (HB.out.trans (hbA.mono HB.out.size))
 have HOA:=hdd hoA
 clear hoA x0 x1 x2 hz00
 go_wp2_with fail
 refine (HTE.out _ (K0.out.sl HIN.out)).mono ?_
 rintro e wB ⟨aB,cB,rfl,hoB,hbB⟩
 replace K0:=hdd (K0.out.below hbB)
 replace HB:=hdd (HB.out.trans (hbB.mono HB.out.size))
 replace HOA:=hdd (HOA.out.below hbB)
 have HOB:=hdd hoB
 clear hoB
 go_wp2_with fail
 refine (HSD.out _ _ _ _ _ _ _ (HGW.out.below HB.out) (HOA.out.rg H64.out) HOB.out).mono ?_
 rintro e wC ⟨aC,cC,ccC,alC,clC,rfl,q1,q2,hoC,hsC2,hbC⟩
 rw[HD.out]
 replace K0:=hdd (K0.out.below hbC)
 replace HB:=hdd (HB.out.trans (hbC.mono HB.out.size))
 obtain ⟨zz1,hzz1⟩:∃ z,z=wB.heap.size:=⟨_,rfl⟩
 have hrC:RG wB.heap.size wC (.slice aC gs'.length ccC) gs':=⟨aC,cC,ccC,rfl,q1,q2,hoC,H64'.out⟩
 rw[←hzz1] at hrC hsC2
 clear hoC q1 q2 HOA HOB hbA hbB
 have hsC:=hbC.size
 clear hbC
 obtain ⟨x0,x1,x2⟩:=(K0.out.at_ HAD.out (Nat.zero_le _)).three
 have hz00:=(K0.out.at_ HAD.out (Nat.zero_le _)).lt
 go_wp2_with fail
 obtain ⟨wk1,hwn⟩:∃ z,z=wC.alloc (.cells #[.int .i64 p',.int .i64 c',.slice aC gs'.length ccC] 30):=⟨_,rfl⟩
 have hbn:Below wC.heap.size wC wk1:=by rw[hwn]; exact (Below.refl _ _).alloc (Nat.le_refl _) _
 have han:At wk1 wC.heap.size (.cells #[.int .i64 p',.int .i64 c',.slice aC gs'.length ccC] 30):=by rw[hwn]; exact At.new _ _
 rw[←hwn]
 clear hwn
 obtain ⟨t6,ht6⟩:∃ z,z=wC.heap.size:=⟨_,rfl⟩
 rw[←ht6] at han ⊢
 replace K0:=hdd (K0.out.below hbn)
 replace HB:=hdd (HB.out.trans (hbn.mono HB.out.size))
 have HAt6:=hdd han
 have HZt6:=hdd ht6
 have K1:=hdd (Kp.refl zz1 wk1)
 have HR1:=hdd (hrC.below hbn)
 have HW1:=hdd (hsC2.below hbn)
 have HS1:=hdd (show zz1≤t6 from by rw[HZt6.out,hzz1]; exact hsC)
 have HKW3:=hdd (show wa.heap.size≤wk1.heap.size from K0.out.1)
 clear hbn han ht6 hrC hsC hsC2 hzz1 x0 x1 x2 hz00
 refine (HTD.out _ (K0.out.gl HGL.out)).mono ?_
 rintro e wx ⟨ax,cx,rfl,hox,hbx⟩
 rw[HD.out]
 replace K0:=hdd (K0.out.below hbx)
 replace K1:=hdd (K1.out.below hbx)
 replace HB:=hdd (HB.out.trans (hbx.mono HB.out.size))
 go_wp2_with fail
 obtain ⟨zx,hzx⟩:∃ z,z=wk1.heap.size:=⟨_,rfl⟩
 rw[←hzx] at hox
 obtain ⟨wkx,hwn⟩:∃ z,z=wx.alloc (.cells #[.int .i64 p,.int .i64 c,.slice ax gs.length cx] 30):=⟨_,rfl⟩
 have hbn:Below wx.heap.size wx wkx:=by rw[hwn]; exact (Below.refl _ _).alloc (Nat.le_refl _) _
 have han:At wkx wx.heap.size (.cells #[.int .i64 p,.int .i64 c,.slice ax gs.length cx] 30):=by rw[hwn]; exact At.new _ _
 rw[←hwn]
 clear hwn
 obtain ⟨t8,ht8⟩:∃ z,z=wx.heap.size:=⟨_,rfl⟩
 rw[←ht8] at han ⊢
 replace K0:=hdd (K0.out.below hbn)
 replace K1:=hdd (K1.out.below hbn)
 replace HB:=hdd (HB.out.trans (hbn.mono HB.out.size))
 have HAt8:=hdd han
 have HZt8:=hdd ht8
 have Kx:=hdd (Kp.refl zx wkx)
 have HOX:=hdd (hox.below hbn)
 have HZX:=hdd hzx
 have HBX:=hdd (show zx≤t8 from by rw[hzx,ht8]; exact hbx.size)
 clear hbn han ht8 hox hbx hzx
 refine (HTE.out _ (K0.out.sl HIN.out)).mono ?_
 rintro e wd ⟨ad,cd,rfl,hod,hbd⟩
 replace K0:=hdd (K0.out.below hbd)
 replace K1:=hdd (K1.out.below hbd)
 replace Kx:=hdd (Kx.out.below hbd)
 replace HB:=hdd (HB.out.trans (hbd.mono HB.out.size))
 obtain ⟨zd,hzd⟩:∃ z,z=wkx.heap.size:=⟨_,rfl⟩
 rw[←hzd] at hod
 have Kd:=hdd (Kp.refl zd wd)
 have HOD:=hdd hod
 have HZD:=hdd hzd
 have HBD:=hdd (show zd≤wd.heap.size from by rw[hzd]; exact hbd.size)
 clear hod hbd hzd
 obtain ⟨u0,u1,u2⟩:=(Kx.out.at_ HAt8.out HBX.out).three
 have hzt8:t8<wd.heap.size:=(Kx.out.at_ HAt8.out HBX.out).lt
 go_wp2_with fail
 refine (HID.out _ _ _ _ _ _ _ (HGW.out.below HB.out) ((Kx.out.owng HOX.out).rg H64.out) HOD.out).mono ?_
 rintro e wg ⟨ag,cg,ccg,alg,clg,rfl,q1,q2,hog,hsg,hbg⟩
 rw[HD.out]
 replace K0:=hdd (K0.out.below hbg)
 replace K1:=hdd (K1.out.below hbg)
 replace Kx:=hdd (Kx.out.below hbg)
 replace Kd:=hdd (Kd.out.below hbg)
 replace HB:=hdd (HB.out.trans (hbg.mono HB.out.size))
 clear u0 u1 u2 hzt8
 obtain ⟨u0,u1,u2⟩:=(K1.out.at_ HAt6.out HS1.out).three
 have hzt6:t6<wg.heap.size:=(K1.out.at_ HAt6.out HS1.out).lt
 go_wp2_with fail
 obtain ⟨zg,hzg⟩:∃ z,z=wd.heap.size:=⟨_,rfl⟩
 rw[←hzg] at hog hsg
 have hrg:RG zg wg (.slice ag gs'.length ccg) gs':=⟨ag,cg,ccg,rfl,q1,q2,hog,H64'.out⟩
 obtain ⟨wkg,hwn⟩:∃ z,z=wg.alloc (.cells #[.int .i64 p',.int .i64 c',.slice ag gs'.length ccg] 30):=⟨_,rfl⟩
 have hbn:Below wg.heap.size wg wkg:=by rw[hwn]; exact (Below.refl _ _).alloc (Nat.le_refl _) _
 have han:At wkg wg.heap.size (.cells #[.int .i64 p',.int .i64 c',.slice ag gs'.length ccg] 30):=by rw[hwn]; exact At.new _ _
 rw[←hwn]
 clear hwn
 obtain ⟨t10,ht10⟩:∃ z,z=wg.heap.size:=⟨_,rfl⟩
 rw[←ht10] at han ⊢
 replace K0:=hdd (K0.out.below hbn)
 replace K1:=hdd (K1.out.below hbn)
 replace Kx:=hdd (Kx.out.below hbn)
 replace Kd:=hdd (Kd.out.below hbn)
 replace HB:=hdd (HB.out.trans (hbn.mono HB.out.size))
 have HAt10:=hdd han
 have HZt10:=hdd ht10
 have Kg:=hdd (Kp.refl zg wkg)
 have HRG:=hdd (hrg.below hbn)
 have HRGG:=hdd hrg
 have HSG:=hdd (hsg.below hbn)
 have HKG:=hdd (show Kp zg wg wkg from (Kp.refl zg wg).below hbn)
 have HZG:=hdd hzg
 have HBG:=hdd (show zg≤t10 from by rw[hzg,ht10]; exact hbg.size)
 clear hbn han ht10 hog hsg hrg hbg hzg q1 q2 u0 u1 u2 hzt6
 have hT:=HEQ.out _ _ p' c' gs' _ _ wkg (Kg.out.rg HRG.out).toGL (K1.out.rg HR1.out).toGL
 rw[HD.out,HD.out] at hT
 refine hT.mono ?_
 rintro e w11 ⟨rfl,hbe⟩
 replace K0:=hdd (K0.out.below hbe)
 replace K1:=hdd (K1.out.below hbe)
 replace Kx:=hdd (Kx.out.below hbe)
 replace Kd:=hdd (Kd.out.below hbe)
 replace Kg:=hdd (Kg.out.below hbe)
 replace HKG:=hdd (HKG.out.below hbe)
 replace HB:=hdd (HB.out.trans (hbe.mono HB.out.size))
 clear hT hbe
 go_wp2_with fail
 have hT:=HEE.out _ _ _ _ us' w11 (Kg.out.ownS HSG.out).sl (K1.out.ownS HW1.out).sl
 refine hT.mono ?_
 rintro e w12 ⟨rfl,hbe⟩
 replace K0:=hdd (K0.out.below hbe)
 replace K1:=hdd (K1.out.below hbe)
 replace Kx:=hdd (Kx.out.below hbe)
 replace Kd:=hdd (Kd.out.below hbe)
 replace Kg:=hdd (Kg.out.below hbe)
 replace HKG:=hdd (HKG.out.below hbe)
 replace HB:=hdd (HB.out.trans (hbe.mono HB.out.size))
 clear hT hbe
 obtain ⟨x0,x1,x2⟩:=(K0.out.at_ HAD.out (Nat.zero_le _)).three
 have hz00:=(K0.out.at_ HAD.out (Nat.zero_le _)).lt
 obtain ⟨u0,u1,u2⟩:=(Kx.out.at_ HAt8.out HBX.out).three
 have hzt:t8<w12.heap.size:=(Kx.out.at_ HAt8.out HBX.out).lt
 go_wp2_with fail
 go_region_held3 (fun w'=>w'.cell? ⟨t8,0,none⟩=some (.int .i64 p)∧w'.cell? ⟨t8,1,none⟩=some (.int .i64 c)∧w'.cell? ⟨t8,2,none⟩=some (.slice ax gs.length cx)∧w'.cell? ⟨w.heap.size,0,none⟩=some (.int .i64 p)∧w'.cell? ⟨w.heap.size,1,none⟩=some (.int .i64 c)∧w'.cell? ⟨w.heap.size,2,none⟩=some (.slice a gs.length cap))
  (first
   | go_keep
   | (go_split_ands; exact ⟨(hbA.cell (by simp; omega)).trans (by assumption),(hbA.cell (by simp; omega)).trans (by assumption),(hbA.cell (by simp; omega)).trans (by assumption),(hbA.cell (by simp; omega)).trans (by assumption),(hbA.cell (by simp; omega)).trans (by assumption),(hbA.cell (by simp; omega)).trans (by assumption)⟩)
   | (go_split_ands; exact ⟨(hbB.cell (by simp; omega)).trans (by assumption),(hbB.cell (by simp; omega)).trans (by assumption),(hbB.cell (by simp; omega)).trans (by assumption),(hbB.cell (by simp; omega)).trans (by assumption),(hbB.cell (by simp; omega)).trans (by assumption),(hbB.cell (by simp; omega)).trans (by assumption)⟩))
  (first
   | (go_at_call 29; refine (HTD.out _ (show GL 0 w12.drew _ _ from K0.out.gl HGL.out)).mono ?_; rintro e wA ⟨aA,cA,rfl,hoA,hbA⟩; rw[HD.out]; have HKA:=hdd (show Below w12.heap.size w12 wA from (below_drw _).trans hbA); have HOA:=hdd hoA; have hzA:=hbA.size; simp at hzA; clear hoA)
   | (go_at_call 30; have hT:=HEQ.out _ _ p c gs _ _ wA (((Kx.out.owng HOX.out).below HKA.out).toGL H64.out) (HOA.out.toGL H64.out); rw[HD.out,HD.out] at hT; refine hT.mono ?_; clear hT; rintro e wB ⟨rfl,hbB⟩; have HKB:=hdd hbB; have hzB:=hbB.size)
   | fail)
 have hb:=HKA.out.trans (HKB.out.mono HKA.out.size)
 replace K0:=hdd (K0.out.below hb)
 replace K1:=hdd (K1.out.below hb)
 replace Kx:=hdd (Kx.out.below hb)
 replace Kd:=hdd (Kd.out.below hb)
 replace Kg:=hdd (Kg.out.below hb)
 replace HKG:=hdd (HKG.out.below hb)
 replace HB:=hdd (HB.out.trans (hb.mono HB.out.size))
 obtain ⟨w14,h14⟩:∃ z,z=wB:=⟨_,rfl⟩
 rw[←h14] at K0 K1 Kx Kd Kg HKG HB ⊢
 clear h14 HKA HKB HOA hbA hbB hb u0 u1 u2 hzt x0 x1 x2 hz00 hzA hzB
 go_wp2_with fail
 refine (HTE.out _ (K0.out.sl HIN.out)).mono ?_
 rintro e wA ⟨aA,cA,rfl,hoA,hbA⟩
 replace K0:=hdd (K0.out.below hbA)
 replace K1:=hdd (K1.out.below hbA)
 replace Kx:=hdd (Kx.out.below hbA)
 replace Kd:=hdd (Kd.out.below hbA)
 replace Kg:=hdd (Kg.out.below hbA)
 replace HKG:=hdd (HKG.out.below hbA)
 replace HB:=hdd (HB.out.trans (hbA.mono HB.out.size))
 have HOA:=hdd hoA
 clear hoA hbA
 go_wp2_with fail
 have hT:=HEE.out _ _ _ _ ls wA (Kd.out.ownS HOD.out).sl HOA.out.sl
 refine hT.mono ?_
 rintro e w16 ⟨rfl,hbe⟩
 replace K0:=hdd (K0.out.below hbe)
 replace K1:=hdd (K1.out.below hbe)
 replace Kx:=hdd (Kx.out.below hbe)
 replace Kd:=hdd (Kd.out.below hbe)
 replace Kg:=hdd (Kg.out.below hbe)
 replace HKG:=hdd (HKG.out.below hbe)
 replace HB:=hdd (HB.out.trans (hbe.mono HB.out.size))
 clear hT hbe HOA
 obtain ⟨u0,u1,u2⟩:=(Kx.out.at_ HAt8.out HBX.out).three
 go_wp2_with fail
 have hM:=markDesk_any (B:=zx) (C:=wkx.heap.size) p c _ gs 1 w16 (Kx.out.owng HOX.out) (HOX.out.low Kx.out.2) (by have:=Kx.out.1; have:=HBX.out; have:=HAt8.out.lt; omega) (by omega) (by omega)
 rw[HD.out] at hM
 refine hM.mono ?_
 rintro e w19 ⟨rfl,_,hbM,hfM⟩
 have hzM:=hfM
 have hsz:w16.heap.size≤w19.heap.size:=hbM.size
 have hx1:wk1.heap.size=zx:=HZX.out.symm
 have hx2:wkx.heap.size=zd:=HZD.out.symm
 have hx3:wd.heap.size=zg:=HZG.out.symm
 have hk1:=K1.out.1
 have hxx:zx≤zd:=by have:=HBX.out; have:=HAt8.out.lt; omega
 have hzdg:zd≤zg:=by have:=HBD.out; omega
 have hk0:wa.heap.size≤zx:=by have:=HKW3.out; omega
 replace K0:=hdd (K0.out.under hbM hk0)
 replace K1:=hdd (K1.out.under hbM (by omega))
 replace Kd:=hdd (Kd.out.far hfM (by omega) hsz)
 replace Kg:=hdd (Kg.out.far hfM (by omega) hsz)
 replace HKG:=hdd (HKG.out.far hfM (by omega) hsz)
 replace HB:=hdd (HB.out.trans (hbM.mono (by have:=HKW2.out; omega)))
 rw[endK_tot]
 clear hM hbM hfM hzM Kx u0 u1 u2
 go_wp2_with fail
 have hM:=markStringS_any (B:=zd) _ ls (1+(totG gs:Int)) w19 (Kd.out.ownS HOD.out) (by omega) (by omega) (by omega)
 refine hM.mono ?_
 rintro e w20 ⟨rfl,_,hgM⟩
 have hsz2:w19.heap.size≤w20.heap.size:=hgM.size
 have hbM:Below zd w19 w20:=(Below.refl _ _).grown hgM (by have:=Kd.out.1; omega) (fun j hj=>(World.ownsRow.lt HOD.out j hj).1)
 have hfM:∀ b,zg≤b→b<w19.heap.size→w20.heap[b]?=w19.heap[b]?:=fun b q1 q2=>hgM.block b q2 (fun e=>by have:=(World.ownsRow.lt HOD.out b e.symm).2; omega)
 replace K0:=hdd (K0.out.under hbM (by omega))
 replace K1:=hdd (K1.out.under hbM (by omega))
 replace Kg:=hdd (Kg.out.far hfM (by omega) hsz2)
 replace HKG:=hdd (HKG.out.far hfM (by omega) hsz2)
 replace HB:=hdd (HB.out.trans (hbM.mono (by have:=HKW2.out; omega)))
 have hm0:¬(1+(totG gs:Int)+(ls.length:Int)<0):=by omega
 have hm1:(0:Int)≤1+(totG gs:Int)+(ls.length:Int):=by omega
 clear hM hbM hfM hgM Kd
 obtain ⟨u0,u1,u2⟩:=(K1.out.at_ HAt6.out HS1.out).three
 obtain ⟨x0,x1,x2⟩:=(Kg.out.at_ HAt10.out HBG.out).three
 go_wp2_with fail
 have hT:=HEQ.out _ _ p' c' gs' _ _ w20 (Kg.out.rg HRG.out).toGL (K1.out.rg HR1.out).toGL
 rw[HD.out,HD.out] at hT
 refine hT.mono ?_
 rintro e w20b ⟨rfl,hbe⟩
 replace K0:=hdd (K0.out.below hbe)
 replace K1:=hdd (K1.out.below hbe)
 replace Kg:=hdd (Kg.out.below hbe)
 replace HKG:=hdd (HKG.out.below hbe)
 replace HB:=hdd (HB.out.trans (hbe.mono HB.out.size))
 clear hT hbe
 clear u0 u1 u2 x0 x1 x2
 go_wp2_with fail
 have hT:=HEE.out _ _ _ _ us' w20b (Kg.out.ownS HSG.out).sl (K1.out.ownS HW1.out).sl
 refine hT.mono ?_
 rintro e w21 ⟨rfl,hbe⟩
 replace K0:=hdd (K0.out.below hbe)
 replace K1:=hdd (K1.out.below hbe)
 replace Kg:=hdd (Kg.out.below hbe)
 replace HKG:=hdd (HKG.out.below hbe)
 replace HB:=hdd (HB.out.trans (hbe.mono HB.out.size))
 clear hT hbe
 obtain ⟨u0,u1,u2⟩:=(Kg.out.at_ HAt10.out HBG.out).three
 go_wp2_with fail
 have hM:=markDesk_rgP (B:=zg) (wk:=wg) p' c' _ gs' 1 w21 HRGG.out HKG.out.2 (by have:=Kg.out.1; have:=HBG.out; have:=HAt10.out.lt; omega) HKG.out.1 (by omega) (by omega)
 rw[HD.out] at hM
 refine hM.mono ?_
 rintro e w24 ⟨rfl,hrm,hbM,hfM⟩
 have hsz3:w21.heap.size≤w24.heap.size:=hbM.size
 have hat10:At w24 t10 (.cells #[.int .i64 p',.int .i64 c',.slice ag gs'.length ccg] 30):=(hfM t10 (.inl (by have:=HZt10.out; omega)) (Kg.out.at_ HAt10.out HBG.out).lt).trans (Kg.out.at_ HAt10.out HBG.out)
 have hsg:OwnS zg w24 (.slice alg us'.length clg) us':=(Kg.out.ownS HSG.out).stand (fun b q1 q2=>hfM b (.inr q1) q2)
 have hzg4:zg≤w24.heap.size:=by have:=Kg.out.1; have:=HBG.out; have:=HAt10.out.lt; omega
 replace K0:=hdd (K0.out.under hbM (by omega))
 replace K1:=hdd (K1.out.under hbM (by omega))
 replace HB:=hdd (HB.out.trans (hbM.mono (by have:=HKW2.out; omega)))
 have HRM:=hdd hrm
 replace HAt10:=hdd hat10
 replace HSG:=hdd hsg
 rw[endK_tot]
 clear hM hbM hfM u0 u1 u2 hrm HKG hat10 hsg Kg
 go_wp2_with fail
 have hM:=markStringS_any (B:=zg) _ us' (1+(totG gs':Int)) w24 HSG.out (by omega) (by omega) (by omega)
 refine hM.mono ?_
 rintro e w25 ⟨rfl,hsm,hgM⟩
 have hbM:Below zg w24 w25:=(Below.refl _ _).grown hgM hzg4 (fun j hj=>(World.ownsRow.lt HSG.out j hj).1)
 have hrm:=HRM.out.grownS HSG.out hgM
 have hat10:=At.grownS HAt10.out HSG.out hgM
 replace K0:=hdd (K0.out.under hbM (by omega))
 replace K1:=hdd (K1.out.under hbM (by omega))
 replace HB:=hdd (HB.out.trans (hbM.mono (by have:=HKW2.out; omega)))
 replace HRM:=hdd hrm
 replace HAt10:=hdd hat10
 replace HSG:=hdd hsm
 have Kg:=hdd (Kp.refl zg w25)
 have hm0:¬(1+(totG gs':Int)+(us'.length:Int)<0):=by omega
 have hm1:(0:Int)≤1+(totG gs':Int)+(us'.length:Int):=by omega
 have hm2:¬(1+(totG gs':Int)<0):=by omega
 have hm3:(0:Int)≤1+(totG gs':Int):=by omega
 clear hM hbM hgM hrm hat10 hsm
 obtain ⟨u0,u1,u2⟩:=(Kg.out.at_ HAt10.out HBG.out).three
 go_wp2_with fail
 have hM:=heldDesk_any p' c' _ gs' 1 w25 (Kg.out.rg HRM.out).toGL (by omega) (by omega)
 rw[HD.out] at hM
 refine hM.mono ?_
 rintro e w25b ⟨rfl,hbM⟩
 replace K0:=hdd (K0.out.below hbM)
 replace K1:=hdd (K1.out.below hbM)
 replace Kg:=hdd (Kg.out.below hbM)
 replace HB:=hdd (HB.out.trans (hbM.mono HB.out.size))
 rw[endK_tot]
 clear hM hbM u0 u1 u2
 go_wp2_with fail
 have hM:=heldStringS_mark _ us'.length (1+(totG gs':Int)) w25b (Kg.out.ownS HSG.out).sl (by omega) (by omega) (by omega)
 refine hM.mono ?_
 rintro e w26 ⟨rfl,hbM⟩
 replace K0:=hdd (K0.out.below hbM)
 replace K1:=hdd (K1.out.below hbM)
 replace Kg:=hdd (Kg.out.below hbM)
 replace HB:=hdd (HB.out.trans (hbM.mono HB.out.size))
 clear hM hbM
 have hne:((1:Int)+(totG gs':Int)+(us'.length:Int) != 1+(totG gs':Int)+(us'.length:Int))=false:=by simp
 obtain ⟨x0,x1,x2⟩:=(K0.out.at_ HAD.out (Nat.zero_le _)).three
 have hz00:=(K0.out.at_ HAD.out (Nat.zero_le _)).lt
 go_wp2_with fail
 refine (HTD.out _ (K0.out.gl HGL.out)).mono ?_
 rintro e wA ⟨aA,cA,rfl,hoA,hbA⟩
 rw[HD.out]
 replace K0:=hdd (K0.out.below hbA)
 replace K1:=hdd (K1.out.below hbA)
 replace Kg:=hdd (Kg.out.below hbA)
 replace HB:=hdd (HB.out.trans (hbA.mono HB.out.size))
 have HOA:=hdd hoA
 clear hoA x0 x1 x2 hz00
 go_wp2_with fail
 refine (HTE.out _ (K0.out.sl HIN.out)).mono ?_
 rintro e wB ⟨aB,cB,rfl,hoB,hbB⟩
 replace K0:=hdd (K0.out.below hbB)
 replace K1:=hdd (K1.out.below hbB)
 replace Kg:=hdd (Kg.out.below hbB)
 replace HB:=hdd (HB.out.trans (hbB.mono HB.out.size))
 replace HOA:=hdd (HOA.out.below hbB)
 have HOB:=hdd hoB
 clear hoB
 go_wp2_with fail
 refine (HID.out _ _ _ _ _ _ _ (HGW.out.below HB.out) (HOA.out.rg H64.out) HOB.out).mono ?_
 rintro e wC ⟨aC,cC,ccC,alC,clC,rfl,q1,q2,hoC,hsC2,hbC⟩
 rw[HD.out]
 replace K0:=hdd (K0.out.below hbC)
 replace K1:=hdd (K1.out.below hbC)
 replace Kg:=hdd (Kg.out.below hbC)
 replace HB:=hdd (HB.out.trans (hbC.mono HB.out.size))
 obtain ⟨zz2,hzz2⟩:∃ z,z=wB.heap.size:=⟨_,rfl⟩
 have hrC:RG wB.heap.size wC (.slice aC gs'.length ccC) gs':=⟨aC,cC,ccC,rfl,q1,q2,hoC,H64'.out⟩
 rw[←hzz2] at hrC hsC2
 clear hoC q1 q2 HOA HOB hbA hbB
 have hsC:=hbC.size
 clear hbC
 obtain ⟨u0,u1,u2⟩:=(K1.out.at_ HAt6.out HS1.out).three
 have hzt6:t6<wC.heap.size:=(K1.out.at_ HAt6.out HS1.out).lt
 go_wp2_with fail
 obtain ⟨wkh,hwn⟩:∃ z,z=wC.alloc (.cells #[.int .i64 p',.int .i64 c',.slice aC gs'.length ccC] 30):=⟨_,rfl⟩
 have hbn:Below wC.heap.size wC wkh:=by rw[hwn]; exact (Below.refl _ _).alloc (Nat.le_refl _) _
 have han:At wkh wC.heap.size (.cells #[.int .i64 p',.int .i64 c',.slice aC gs'.length ccC] 30):=by rw[hwn]; exact At.new _ _
 rw[←hwn]
 clear hwn
 obtain ⟨t15,ht15⟩:∃ z,z=wC.heap.size:=⟨_,rfl⟩
 rw[←ht15] at han ⊢
 replace K0:=hdd (K0.out.below hbn)
 replace K1:=hdd (K1.out.below hbn)
 replace Kg:=hdd (Kg.out.below hbn)
 replace HB:=hdd (HB.out.trans (hbn.mono HB.out.size))
 have HAt15:=hdd han
 have HZt15:=hdd ht15
 have Kh:=hdd (Kp.refl zz2 wkh)
 have HRH:=hdd (hrC.below hbn)
 have HSH:=hdd (hsC2.below hbn)
 clear hbn han ht15 hrC hsC hsC2 hzz2 u0 u1 u2 hzt6
 have hT:=HEQ.out _ _ p' c' gs' _ _ wkh HRH.out.toGL (K1.out.rg HR1.out).toGL
 rw[HD.out,HD.out] at hT
 refine hT.mono ?_
 rintro e w31 ⟨rfl,hbe⟩
 replace HSH:=hdd (HSH.out.below hbe)
 replace K0:=hdd (K0.out.below hbe)
 replace K1:=hdd (K1.out.below hbe)
 replace Kg:=hdd (Kg.out.below hbe)
 replace HB:=hdd (HB.out.trans (hbe.mono HB.out.size))
 clear hT hbe
 go_wp2_with fail
 have hT:=HEE.out _ _ _ _ us' w31 HSH.out.sl (K1.out.ownS HW1.out).sl
 refine hT.mono ?_
 rintro e w32 ⟨rfl,hbe⟩
 replace K0:=hdd (K0.out.below hbe)
 replace K1:=hdd (K1.out.below hbe)
 replace Kg:=hdd (Kg.out.below hbe)
 replace HB:=hdd (HB.out.trans (hbe.mono HB.out.size))
 clear hT hbe
 obtain ⟨u0,u1,u2⟩:=(Kg.out.at_ HAt10.out HBG.out).three
 go_wp2_with fail
 have hM:=heldDesk_any p' c' _ gs' 1 w32 (Kg.out.rg HRM.out).toGL (by omega) (by omega)
 rw[HD.out] at hM
 refine hM.mono ?_
 rintro e w34 ⟨rfl,hbM⟩
 replace K0:=hdd (K0.out.below hbM)
 replace K1:=hdd (K1.out.below hbM)
 replace Kg:=hdd (Kg.out.below hbM)
 replace HB:=hdd (HB.out.trans (hbM.mono HB.out.size))
 rw[endK_tot]
 clear hM hbM u0 u1 u2
 go_wp2_with fail
 have hM:=heldStringS_mark _ us'.length (1+(totG gs':Int)) w34 (Kg.out.ownS HSG.out).sl (by omega) (by omega) (by omega)
 refine hM.mono ?_
 rintro e w35 ⟨rfl,hbM⟩
 replace K0:=hdd (K0.out.below hbM)
 replace K1:=hdd (K1.out.below hbM)
 replace Kg:=hdd (Kg.out.below hbM)
 replace HB:=hdd (HB.out.trans (hbM.mono HB.out.size))
 clear hM hbM
 go_wp2
 go_ret
 exact ⟨rfl,HB.out⟩
end Go.Proofs.YtenlngclocfnlaaGreatDoor
