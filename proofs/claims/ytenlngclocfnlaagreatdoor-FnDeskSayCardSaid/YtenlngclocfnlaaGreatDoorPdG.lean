/- Texts of this claim, put together: BunE. -/
import Derived.Test.YtenlngclocfnlaaGreatDoorPdB
import Derived.Test.YtenlngclocfnlaaGreatDoorPdF
import Derived.Carry
import Derived.IntWalk
import Derived.Test.YtenlngclocfnlaaGreatDoorPdGD
namespace Go.Proofs.YtenlngclocfnlaaGreatDoor
set_option linter.unusedVariables false
section
open Go.RowKit
set_option maxRecDepth 100000
def cntA (ws:List (Int×Int)) (k:Nat):Int×Int→Nat:=fun a=>(ws.take k).count a
theorem cntA_next {ws:List (Int×Int)} {k:Nat} (hk:k<ws.length):(fun x=>if x=ws[k] then cntA ws k ws[k]+1 else cntA ws k x)=cntA ws (k+1):=by
 funext x
 unfold cntA;rw[List.take_succ_eq_append_getElem hk,List.count_append]
 by_cases e:x=ws[k]
 ·rw[if_pos e,e]; simp
 ·rw[if_neg e,List.count_singleton,if_neg (by simp; exact fun h=>e h.symm)]; rfl
theorem goodK {n:Nat} {a:Int×Int} (h:GoodA n a) (hn:n≤3):GoodK a:=⟨WalkArith.wf_i64 (by obtain ⟨h1,h2,h3,h4⟩:=h; omega),WalkArith.wf_i64 (by obtain ⟨h1,h2,h3,h4⟩:=h; omega)⟩
set_option maxHeartbeats 4000000 in
theorem worstI_any {B C:Nat} (n c:Nat) (v u:Value) (left:List (List Int)) (y:List Int) (w:World) (h:Rows2 B w v left) (hu:Ints C w u y) (hl:∀ x∈left,CodeP n c x) (hy:CodeP n c y) (hlen:left.length≤1000000):
  Calls Tryz.prog 127 #[v,u] w (GrownInt (worstN left y) w):=by
 have hn3:n≤3:=by have:=hy.1; unfold codesP at this; omega
 obtain ⟨ws,hws⟩:∃ ws,ws=left.map (fun x=>ansZ x y):=⟨_,rfl⟩
 have HLW:=hdd (show ws.length=left.length from by rw[hws]; simp);have HG:=hdd (show ∀ a∈ws,GoodA n a from by
  intro a ha;rw[hws] at ha;obtain ⟨x,hx,rfl⟩:=List.mem_map.1 ha;exact good_ans (hl x hx) hy)
 have HW:=hdd (show worstN left y=worstK ws left.length from by rw[hws]; rfl);have HWS:=hdd (fun (k:Nat) (hk:k<left.length) (hk':k<ws.length)=>show ws[k]=ansZ left[k] y from by subst hws; simp);have HL:=hdd hl;have HY:=hdd hy;have HU:=hdd hu;obtain ⟨a,cap,rfl,hcap,hmax,V,hcells,hV⟩:=h.opened;obtain ⟨au,cu,rfl,_⟩:=hu.opened;have HN:=hdd (mapSt_new w);have HB1:=hdd ((Below.refl w.heap.size w).alloc (Nat.le_refl _) (.map #[] 0));clear hws hl hy h hu;have hmm:=@run_makeMap Tryz.prog;go_enter Tryz.func127,Tryz.ntmps127;go_wp2;go_loopw [6,13] (fun s i wr=>∃ k:Nat,k≤left.length∧i=.int .i64 k∧s=.int .i64 (worstK ws k:Nat)∧MapSt w.heap.size (cntA ws k) wr∧Below w.heap.size w wr) (fun _ i _=>left.length-(intOf i).toNat)
 case atStart=>exact ⟨0,Nat.zero_le _,rfl,rfl,HN.out,HB1.out⟩
 case round=>
  obtain ⟨k,hk,rfl,rfl,hm,hb⟩:=hrel;obtain ⟨wk,rfl⟩:∃ x,x=wr:=⟨_,rfl⟩
  have hwl:=worstK_le ws k;clear HN HB1 hmm
  by_cases hlt:k<left.length
  ·obtain ⟨b,off,rfl,_,hc⟩:=hcells (by omega)
   have hck:=(Above.of_below (B:=0) hb).cell (Nat.zero_le _) (hc k hlt);have hlw:=HLW.out;have hk2:k<ws.length:=by omega
   have hgd:=HG.out _ (List.getElem_mem hk2);have hcx:=HL.out _ (List.getElem_mem hlt);have hA:=answerI_any (V k) (.slice au y.length cu) left[k] y wk ((hV k hlt).below hb) (HU.out.below hb) (by have h1:=hcx.2.1; have h2:=HY.out.2.1; omega) (by have h1:=hcx.2.1; omega)
    (fun z hz=>by have h1:=hcx.2.2 z hz; have h2:=hcx.1.2.2; omega) (fun z hz=>by have h1:=HY.out.2.2 z hz; have h2:=HY.out.1.2.2; omega)
   unfold AnsOut at hA;have e1:rightZ left[k] y=ws[k].1:=by rw[HWS.out k hlt hk2]; rfl
   have e2:nearZ left[k] y=ws[k].2:=by rw[HWS.out k hlt hk2]; rfl
   rw[e1,e2] at hA;have hcb:cntA ws k ws[k]≤k:=Nat.le_trans List.count_le_length (by simp; omega);have HNX:=hdd (show worstK ws (k+1)=max (worstK ws k) (cntA ws k ws[k]+1) from worst_next hk2);have HCN:=hdd (cntA_next hk2);have hgk:=goodK hgd hn3;obtain ⟨av,cv,hsv,_⟩:=(hV k hlt).opened;rw[hsv] at hck hA;obtain ⟨p,hp⟩:∃ p,p=ws[k]:=⟨_,rfl⟩
   rw[←hp] at hA hcb HNX HCN hgk;have hm2:∀ W:World,Below wk.heap.size wk W→MapSt w.heap.size (cntA ws k) W:=fun W hW=>hm.keep (hW.block _ (by obtain ⟨es,cl,h1,_⟩:=hm; exact (Array.getElem?_eq_some_iff.1 h1).1))
   have HM2:=hdd hm2;have hMlt:w.heap.size<wk.heap.size:=by obtain ⟨es,cl,h1,_⟩:=hm; exact (Array.getElem?_eq_some_iff.1 h1).1
   have HB:=hdd hb;have HGK:=hdd hgk;have hi0:(0:Int)≤(k:Int):=by omega
   have hi1:(k:Int)<(left.length:Int):=by omega
   clear hc hcells hV hlw e1 e2 hgd hcx hgk hsv hp hm hm2 hb;go_wp2_with fail;refine hA.mono ?_;rintro e w3 ⟨rfl,hb3⟩;have hz3:=hb3.size;obtain ⟨W,hW⟩:∃ W,W=w3.alloc (.cells #[.int .i64 p.1,.int .i64 p.2] 174):=⟨_,rfl⟩
   have hb4:Below wk.heap.size wk W:=by rw[hW]; exact hb3.alloc hz3 _
   have h9:W.heap[w3.heap.size]?=some (.cells #[.int .i64 p.1,.int .i64 p.2] 174 (0,0)):=by rw[hW]; exact heap_alloc_new w3 _
   have hmW:MapSt w.heap.size (cntA ws k) W.drew:=(HM2.out W hb4).keep rfl;obtain ⟨st,w1,hent,hg1,hm1,he1⟩:=mapEntry_run hmW HGK.out;obtain ⟨w2,hsto,hg2,hm2⟩:=mapStore_run hm1 he1 180 (cntA ws k p+1);rw[HCN.out] at hm2;have hlk0:=mapLook_run hmW HGK.out;have hlk1:=mapLook_run hm1 HGK.out;have hlk2:=mapLook_run hm2 HGK.out;have h19:w1.heap[w3.heap.size]?=_:=(hg1.block w3.heap.size (Array.getElem?_eq_some_iff.1 h9).1 (by simp; omega)).trans h9;have h29:w2.heap[w3.heap.size]?=_:=(hg2.block w3.heap.size (Array.getElem?_eq_some_iff.1 h19).1 (by simp; omega)).trans h19;have l0:=cell_of_row _ _ 0 _ _ (0,0) h9;have l1:=cell_of_row _ _ 1 _ _ (0,0) h9;have n0:=cell_of_row _ _ 0 _ _ (0,0) h29;have n1:=cell_of_row _ _ 1 _ _ (0,0) h29;simp only[List.getElem?_toArray,List.getElem?_cons_zero,List.getElem?_cons_succ] at l0 l1 n0 n1;have hcn:cntA ws (k+1) p=cntA ws k p+1:=by rw[←HCN.out]; simp
   rw[hcn] at hlk2;have HM2':=hdd hm2;have HLE:=hdd (Nat.le_refl w.heap.size);have HGR:=hdd (show Below w.heap.size wk w2 from (((hb4.mono (Nat.le_of_lt hMlt)).drew).grown hg1 (Nat.le_trans (Nat.le_of_lt hMlt) hb4.size) (fun q hq=>by cases hq; exact HLE.out)).grown hg2 (Nat.le_trans (Nat.le_trans (Nat.le_of_lt hMlt) hb4.size) hg1.size) (fun q hq=>by cases hq; exact HLE.out));have hmx:Tryz.prog.follows .mixedOrders=true:=by kernel_rfl
   unfold ansV at hent hlk0 hlk1 hlk2;rw[show ((cntA ws k p+1:Nat):Int)=((cntA ws k p:Nat):Int)+1 from by push_cast; rfl] at hsto hlk2;have hwr:IntKind.i64.wrap (((cntA ws k p:Nat):Int)+1)=((cntA ws k p:Nat):Int)+1:=IntWalk.i64_in _ (by omega);rw[hW] at hent hlk0 l0 l1;have HWW:=hdd hW;clear hmW hm1 he1 hm2 h9 h19 h29 hcn hb4 hg1 hg2 hW hb3;go_wp2
   rcases Nat.lt_or_ge (worstK ws k) (cntA ws k p+1) with hx | hx
   ·have hx1:((worstK ws k:Nat):Int)<((cntA ws k p:Nat):Int)+1:=by omega
    have HMX:=hdd (show max (worstK ws k) (cntA ws k p+1)=cntA ws k p+1 from Nat.max_eq_right (by omega));clear hx;go_region;go_wp2;go_roundw
    case rel=>exact ⟨k+1,by omega,by go_num,by rw[HNX.out,HMX.out]; go_num,HM2'.out,HB.out.trans HGR.out⟩
    case measure=>simp[intOf]; omega
   ·have hx1:¬((worstK ws k:Nat):Int)<((cntA ws k p:Nat):Int)+1:=by omega
    have HMX:=hdd (show max (worstK ws k) (cntA ws k p+1)=worstK ws k from Nat.max_eq_left (by omega));clear hx;go_region;go_wp2;go_roundw
    case rel=>exact ⟨k+1,by omega,by go_num,by rw[HNX.out,HMX.out],HM2'.out,HB.out.trans HGR.out⟩
    case measure=>simp[intOf]; omega
  ·have e:k=left.length:=by omega
   have HR:=hdd (show worstN left y=worstK ws k from by rw[e]; exact HW.out);have HB:=hdd hb;clear e hcells hV hm hb;go_wp2;go_ret;exact ⟨ret_int (by rw[HR.out]),HB.out⟩
set_option maxHeartbeats 4000000 in
theorem nextI_any {B:Nat} (p c:Int) (v:Value) (gs:List Gs) (w:World) (h:GL B w v gs):
  Calls Tryz.prog 92 #[.int .i64 p,.int .i64 c,v] w (NextOut p c gs w):=by
 have hF:=fitI_any p c v gs w h;have hsh:∃ a cap,v=.slice a gs.length cap:=by obtain ⟨a,cap,_,hv,_⟩:=h; exact ⟨a,cap,hv⟩
 obtain ⟨a,cap,rfl⟩:=hsh;have HLN:=hdd (fitL_len p c gs);have HCD:=hdd (fit_codes (p:=p) (c:=c) (gs:=gs));unfold NextOut;obtain ⟨L,hL⟩:∃ L,L=fitL p c gs:=⟨_,rfl⟩
 rw[←hL] at hF HLN HCD ⊢;clear hL h
 rcases Nat.eq_zero_or_pos L.length with h0 | h0
 ·have hl0:((L.length:Int)==0)=true:=by rw[h0]; rfl
  have HL0:=hdd (List.eq_nil_of_length_eq_zero h0);clear h0;go_enter Tryz.func92,Tryz.ntmps92;go_wp2_with fail;refine hF.mono ?_;rintro e w2 ⟨b,d,rfl,ho2,hb2⟩;have HB2:=hdd hb2;clear hF ho2 hb2;go_wp2;go_ret2;exact ⟨none,0,by rw[HL0.out]; rfl,by rw[HL0.out]; exact OwnI.empty _ _,HB2.out⟩
 ·have hl0:((L.length:Int)==0)=false:=by rw[beq_eq_false_iff_ne]; omega
  have hLn:=HLN.out;go_enter Tryz.func92,Tryz.ntmps92;go_wp2_with fail;refine hF.mono ?_;rintro e w2 ⟨b,d,rfl,ho2,hb2⟩;obtain ⟨b',d',he,hd1,hd2⟩:=ho2.shape;injection he with e1 e2 e3;subst e1 e3;clear e2;obtain ⟨g,u0,rfl,hgB,hcu,hou⟩:=ho2.at 0 h0;obtain ⟨au,cu,rfl,_⟩:=own_shape hou;have hcp:=HCD.out _ (List.getElem_mem h0);obtain ⟨n,m,rfl,rfl,_,_⟩:=own_nat hcp.1;have hC:∀ z:GrownC w2,Calls Tryz.prog 127 #[.slice (some ⟨g,0,none⟩) L.length d,.slice au L[0].length cu] z.val (fun e w''=>e=.returned (.int .i64 (worstN L L[0]:Nat))∧∃ z':GrownC w2,w''=z'.val):=fun z=>
   (worstI_any n m _ _ L L[0] z.val ((ho2.below z.ok).rows fun x hx=>code_in64 (HCD.out x hx)) ((OwnI.below hou z.ok).toInts (code_in64 hcp)) HCD.out hcp (by omega)).mono (fun e w'' ⟨he,hb⟩=>⟨he,⟨w'',z.ok.trans (hb.mono z.ok.size)⟩,rfl⟩)
  have C1:∀ z:GrownC w2,z.val.cell? ⟨g,0,none⟩=some (.slice au L[0].length cu):=fun z=>(Above.of_below (B:=0) z.ok).cell (Nat.zero_le _) hcu
  obtain ⟨x0,hx0⟩:∃ x0,x0=L[0]:=⟨_,rfl⟩
  rw[←hx0] at hC C1 hou;have HO2:=hdd ho2;have HB2:=hdd hb2;have HOU:=hdd hou;have HONE:=hdd (show bestK L 1=(x0,(worstN L x0:Int)) from by rw[bestK_one,hx0]; simp[List.getD,List.getElem?_eq_getElem h0]);clear hF ho2 hb2 hou hcp hcu hx0;go_wp2;refine wp_region_grownC (by kernel_rfl) (by kernel_rfl) ?_
  repeat (first | go_big_quiet_skip | (go_big_quiet_want; go_big_quiet_op; first | go_big_quiet_on | go_big_quiet_call ((go_at_call 127; exact hC _))))
  refine wpQuiet_nil ?_;intro w8 hw8;obtain ⟨z8,hz8⟩:=hw8;have HB8:=hdd z8.ok;rw[←hz8] at HB8;clear hz8 hC C1;have HO8:=hdd (HO2.out.below HB8.out);have HU8:=hdd (OwnI.below HOU.out HB8.out);have HZ:=hdd hd1;have hd2':d≤9223372036854775807:=hd2
  rcases Nat.lt_or_ge 1 d with hdc | hdc
  ·have hdn:¬(1=d):=by omega
   have hdn2:¬(d=1):=by omega
   have hdi:(1:Int)≤(d:Int):=by omega
   have hli:(1:Int)≤(L.length:Int):=by omega
   go_wp2;go_loopw [9,10,32] (fun s l i wr=>∃ (k:Nat) (a:Option Addr) (cap:Nat),k+1≤L.length∧i=.int .i64 k∧l=.int .i64 (bestK L (k+1)).2∧s=.slice a (bestK L (k+1)).1.length cap∧OwnI w.heap.size wr (.slice a (bestK L (k+1)).1.length cap) (bestK L (k+1)).1∧Below w8.heap.size w8 wr) (fun _ _ i _=>L.length-(intOf i).toNat)
   case atStart=>exact ⟨0,au,cu,by omega,rfl,by rw[HONE.out],by rw[HONE.out],by rw[HONE.out]; exact HU8.out,Below.refl _ _⟩
   case round=>
    obtain ⟨k,ak,ck,hk,rfl,rfl,rfl,ho,hb⟩:=hrel;obtain ⟨wk,rfl⟩:∃ x,x=wr:=⟨_,rfl⟩
    clear HU8
    by_cases hlt:k+1<L.length
    ·have HS1:=hdd (@best_hit L (k+1) hlt)
     have HS2:=hdd (@best_miss L (k+1) hlt);have hpos:=bestK_pos L (k+1) (by omega);obtain ⟨g',u,e1,_,hcu,hou⟩:=(HO8.out.below hb).at (k+1) hlt;injection e1 with e1;injection e1 with e1;subst e1;obtain ⟨av,cv,rfl,_⟩:=own_shape hou;have hcp:=HCD.out _ (List.getElem_mem hlt);have hW:=worstI_any n m _ _ L L[k+1] wk ((HO8.out.below hb).rows fun x hx=>code_in64 (HCD.out x hx)) (hou.toInts (code_in64 hcp)) HCD.out hcp (by omega);obtain ⟨x,hx⟩:∃ x,x=L[k+1]:=⟨_,rfl⟩
     rw[←hx] at HS1 HS2 hcu hou hW;obtain ⟨W,hWn⟩:∃ W:Int,W=(worstN L x:Int):=⟨_,rfl⟩
     unfold GrownInt at hW;rw[←hWn] at HS1 HS2 hW;obtain ⟨l,hl⟩:∃ l,l=(bestK L (k+1)).2:=⟨_,rfl⟩
     rw[←hl] at HS1 HS2 hpos ⊢;obtain ⟨y,hy⟩:∃ y,y=(bestK L (k+1)).1:=⟨_,rfl⟩
     rw[←hy] at ho ⊢;have HY:=hdd (show bestK L (k+1)=(y,l) from Prod.ext hy.symm hl.symm);have HO:=hdd ho;have HB:=hdd hb;have HOU2:=hdd hou;rw[show k+1=1+k from Nat.add_comm _ _] at hcu;have hi0:(0:Int)≤(k:Int):=by omega
     have hi1:(k:Int)<((L.length-1:Nat):Int):=by omega
     clear hx hWn hl hy ho hb hou hcp
     by_cases hl1:W<l
     ·have HN:=hdd (HS1.out (.inr hl1))
      clear HS1 HS2;go_wp2_with fail;refine hW.mono ?_;rintro e w4 ⟨rfl,hb4⟩;have HO4:=hdd (OwnI.below HOU2.out hb4);have HB4:=hdd (HB.out.trans (hb4.mono HB.out.size));clear hW hb4;go_wp2;go_roundw
      case rel=>exact ⟨k+1,av,cv,by omega,by go_num,by rw[HN.out],by rw[HN.out],by rw[HN.out]; exact HO4.out,HB4.out⟩
      case measure=>simp[intOf]; omega
     ·have HN:=hdd ((HS2.out (by omega) hl1).trans HY.out)
      clear HS1 HS2;go_wp2_with fail;refine hW.mono ?_;rintro e w4 ⟨rfl,hb4⟩;have HO4:=hdd (OwnI.below HO.out hb4);have HB4:=hdd (HB.out.trans (hb4.mono HB.out.size));clear hW hb4;go_wp2;go_roundw
      case rel=>exact ⟨k+1,ak,ck,by omega,by go_num,by rw[HN.out],by rw[HN.out],by rw[HN.out]; exact HO4.out,HB4.out⟩
      case measure=>simp[intOf]; omega
    ·have e:k+1=L.length:=by omega
     have HR:=hdd (show (bestK L (k+1)).1=nextL L from by rw[e]; rfl);have HD:=hdd (show decide (0<L.length)=true from decide_eq_true h0);have HO:=hdd ho;have HB:=hdd hb;clear e ho hb;go_wp2;go_ret2;exact ⟨ak,ck,by rw[HD.out,HR.out]; rfl,by rw[←HR.out]; exact HO.out,(HB2.out.trans (HB8.out.mono HB2.out.size)).trans (HB.out.mono (Nat.le_trans HB2.out.size HB8.out.size))⟩
  ·have hd1':d=1:=by omega
   subst hd1';have hL1:L.length=1:=by omega
   have HR:=hdd (show (x0:List Int)=nextL L from by unfold nextL; rw[hL1,HONE.out]);have HD:=hdd (show decide (0<L.length)=true from decide_eq_true h0);have HL1:=hdd hL1;clear hL1;go_wp2;go_loopw [9,10,32] (fun s l i wr=>i=.int .i64 0∧s=.slice au x0.length cu∧wr=w8) (fun _ _ i _=>L.length-(intOf i).toNat)
   case atStart=>exact ⟨rfl,rfl,rfl⟩
   case round=>
    obtain ⟨rfl,rfl,rfl⟩:=hrel;have hl1:=HL1.out;have hz:L.length-1=0:=by omega
    clear hl1;go_wp2;go_ret2;exact ⟨au,cu,by rw[HD.out,HR.out]; rfl,by rw[←HR.out]; exact HU8.out,HB2.out.trans (HB8.out.mono HB2.out.size)⟩
def dkV (p c:Int) (v:Value):Value:=.agg #[.int .i64 p,.int .i64 c,v]
def deskB (p c:Int) (gs:List Gs):Bool:=decide (0<(fitL p c gs).length)
theorem deskB_no {p c:Int} {gs:List Gs} (h:guessesB p c gs=false):deskB p c gs=false:=by unfold deskB fitL; rw[h]; rfl
theorem deskOkI_any {B:Nat} (p c:Int) (v:Value) (gs:List Gs) (w:World) (h:GL B w v gs):
  Calls Tryz.prog 23 #[dkV p c v] w fun e w'=>e=.returned (.bool (deskB p c gs))∧Below w.heap.size w w':=by
 have hsh:∃ a cap,v=.slice a gs.length cap:=by obtain ⟨a,cap,_,hv,_⟩:=h; exact ⟨a,cap,hv⟩
 obtain ⟨a,cap,rfl⟩:=hsh;have hb1:Below w.heap.size w (w.alloc (.cells #[.int .i64 p,.int .i64 c,.slice a gs.length cap] 30)):=(Below.refl _ _).alloc (Nat.le_refl _) _;have hF:=fitI_any p c _ gs _ (h.below hb1);have HB1:=hdd hb1;unfold deskB;obtain ⟨n,hn⟩:∃ n,n=(fitL p c gs).length:=⟨_,rfl⟩
 unfold FreshR at hF;rw[←hn] at hF ⊢;unfold dkV;clear hb1 h hn
 cases hd:decide (0<n)
 ·have HD:=hdd hd
  have hn0:¬(0<(n:Int)):=by have:=of_decide_eq_false hd; omega
  clear hd;go_enter Tryz.func23,Tryz.ntmps23;go_wp2_with fail;refine hF.mono ?_;rintro e w2 ⟨b,d,rfl,_,hb2⟩;have HB2:=hdd (HB1.out.trans (hb2.mono HB1.out.size));clear hF hb2;go_wp2;go_ret;exact ⟨ret_bool (by simpa using HD.out),HB2.out⟩
 ·have HD:=hdd hd
  have hn0:0<(n:Int):=by have:=of_decide_eq_true hd; omega
  clear hd;go_enter Tryz.func23,Tryz.ntmps23;go_wp2_with fail;refine hF.mono ?_;rintro e w2 ⟨b,d,rfl,_,hb2⟩;have HB2:=hdd (HB1.out.trans (hb2.mono HB1.out.size));clear hF hb2;go_wp2;go_ret;exact ⟨ret_bool (by simpa using HD.out),HB2.out⟩
theorem deskOkS_any {B:Nat} (p c:Int) (v:Value) (gs:List Gs) (w:World) (h:GL B w v gs):
  Calls Tryz.prog 13 #[dkV p c v] w fun e w'=>e=.returned (.bool (deskB p c gs))∧Below w.heap.size w w':=by
 have hsh:∃ a cap,v=.slice a gs.length cap:=by obtain ⟨a,cap,_,hv,_⟩:=h; exact ⟨a,cap,hv⟩
 obtain ⟨a,cap,rfl⟩:=hsh;have hb1:Below w.heap.size w (w.alloc (.cells #[.int .i64 p,.int .i64 c,.slice a gs.length cap] 30)):=(Below.refl _ _).alloc (Nat.le_refl _) _;have hG:=guessesS_any p c _ gs _ (h.below hb1);have hF:=fitS_any p c _ gs _ (h.below hb1);have HB1:=hdd hb1;have HDN:=hdd (@deskB_no p c gs);unfold dkV;clear hb1 h
 cases hg:guessesB p c gs
 ·rw[hg] at hG
  have HR:=hdd (HDN.out hg);clear hF hg;go_enter Tryz.func13,Tryz.ntmps13;go_wp2_with fail;refine hG.mono ?_;rintro e w2 ⟨rfl,rfl⟩;clear hG;go_wp2;go_ret;exact ⟨ret_bool (by rw[HR.out]),HB1.out⟩
 ·rw[hg] at hG
  clear hg;unfold deskB;obtain ⟨n,hn⟩:∃ n,n=(fitL p c gs).length:=⟨_,rfl⟩
  unfold FreshR at hF;rw[←hn] at hF ⊢;clear hn
  cases hd:decide (0<n)
  ·have HD:=hdd hd
   have hn0:¬(0<(n:Int)):=by have:=of_decide_eq_false hd; omega
   clear hd;go_enter Tryz.func13,Tryz.ntmps13;go_wp2_with fail;refine hG.mono ?_;rintro e w2 ⟨rfl,rfl⟩;clear hG;go_wp2_with fail;refine hF.mono ?_;rintro e w2 ⟨b,d,rfl,_,hb2⟩;have HB2:=hdd (HB1.out.trans (hb2.mono HB1.out.size));clear hF hb2;go_wp2;go_ret;exact ⟨ret_bool (by simpa using HD.out),HB2.out⟩
  ·have HD:=hdd hd
   have hn0:0<(n:Int):=by have:=of_decide_eq_true hd; omega
   clear hd;go_enter Tryz.func13,Tryz.ntmps13;go_wp2_with fail;refine hG.mono ?_;rintro e w2 ⟨rfl,rfl⟩;clear hG;go_wp2_with fail;refine hF.mono ?_;rintro e w2 ⟨b,d,rfl,_,hb2⟩;have HB2:=hdd (HB1.out.trans (hb2.mono HB1.out.size));clear hF hb2;go_wp2;go_ret;exact ⟨ret_bool (by simpa using HD.out),HB2.out⟩
theorem results_cell_tmp {P:Program} {fn:Func} {p q:Tmp} {ty:TypeId} (h:fn.results=#[.cell p ty,.tmp q]) (tmps:Array Value) (w:World) (g:Nat) (t:TypeId) (cs:Array Value) (fr:Nat×Nat) (d:TypeDesc)
  (hp:tmps.getD p undef=.pointer (some ⟨g,0,none⟩)) (hg:w.heap[g]?=some (.cells cs t fr))
  (hu:P.underlying ty=some d) (hd:(match d with | .struct _ | .array _ _=>true | _=>false)=true) (hi:(P.info? ty).map (·.size)=some cs.size):
  (results fn tmps).run P w=.ok (.tuple #[.agg cs,tmps.getD q undef]) w:=by
 have hp':tmps[p]?.getD undef=.pointer (some ⟨g,0,none⟩):=by simpa using hp
 simp[results,h,hp',asAddr,run_loadVar_row w g t ty cs fr d hg hu hd hi]
end
end Go.Proofs.YtenlngclocfnlaaGreatDoor
