/- Texts of this claim, put together: BunM. -/
import Derived.Test.YtenlngclocfnlaaGreatDoorPdG
import Derived.Test.YtenlngclocfnlaaGreatDoorPdA
import Derived.Lib.SplitLaws
namespace Go.Proofs.YtenlngclocfnlaaGreatDoor
set_option linter.unusedVariables false
section
structure Dd where
 back:Bool
 code:List Int
 right:Int
 near:Int
def Dd.gs (d:Dd):Gs:=⟨d.code,d.right,d.near⟩
def Dd.undo:Dd:=⟨true,[],0,0⟩
theorem deskB_iff {p c:Int} {gs:List Gs}:deskB p c gs=true↔∃ x,x∈fitL p c gs:=by
 unfold deskB;rw[decide_eq_true_iff,List.length_pos_iff_exists_mem]
theorem guesses_take {p c:Int} {gs:List Gs} (h:guessesB p c gs=true) (k:Nat):guessesB p c (gs.take k)=true:=by
 unfold guessesB at h ⊢;rw[Bool.and_eq_true,Bool.and_eq_true,decide_eq_true_iff,List.all_eq_true] at h ⊢;exact ⟨h.1,by rw[List.length_take]; omega,fun g hg=>h.2.2 g (List.mem_of_mem_take hg)⟩
theorem fits_take {x:List Int} {gs:List Gs} (h:fitsB x gs=true) (k:Nat):fitsB x (gs.take k)=true:=by
 unfold fitsB at h ⊢;rw[List.all_eq_true] at h ⊢;exact fun g hg=>h g (List.mem_of_mem_take hg)
theorem deskB_take {p c:Int} {gs:List Gs} (h:deskB p c gs=true) (k:Nat):deskB p c (gs.take k)=true:=by
 obtain ⟨x,hx⟩:=deskB_iff.1 h;obtain ⟨h1,h2,h3⟩:=fitL_mem.1 hx;exact deskB_iff.2 ⟨x,fitL_mem.2 ⟨guesses_take h1 k,h2,fits_take h3 k⟩⟩
theorem deskB_len {p c:Int} {gs:List Gs} (h:deskB p c gs=true):gs.length≤9:=by
 obtain ⟨x,hx⟩:=deskB_iff.1 h;have h1:=(fitL_mem.1 hx).1;unfold guessesB at h1;rw[Bool.and_eq_true,Bool.and_eq_true,decide_eq_true_iff] at h1;exact h1.2.1
def doneG (p c:Int) (gs:List Gs) (d:Dd):List Gs×Bool:=
 if d.back=true then (if nothingB d.code d.right d.near=true∧0<gs.length then (gs.take (gs.length-1),true) else (gs,false))
 else if deskB p c (gs++[d.gs])=true then (gs++[d.gs],true) else (gs,false)
theorem done_back {p c:Int} {gs:List Gs} {xs:List Int} {r n:Int} (h:nothingB xs r n=true) (hl:0<gs.length):doneG p c gs ⟨true,xs,r,n⟩=(gs.take (gs.length-1),true):=by
 unfold doneG; rw[if_pos rfl,if_pos ⟨h,hl⟩]
theorem done_bad {p c:Int} {gs:List Gs} {xs:List Int} {r n:Int} (h:nothingB xs r n=false):doneG p c gs ⟨true,xs,r,n⟩=(gs,false):=by
 unfold doneG; rw[if_pos rfl,if_neg (by simp[h])]
theorem done_none {p c:Int} {gs:List Gs} {xs:List Int} {r n:Int} (hl:gs.length=0):doneG p c gs ⟨true,xs,r,n⟩=(gs,false):=by
 unfold doneG; rw[if_pos rfl,if_neg (by omega)]
theorem done_yes {p c:Int} {gs:List Gs} {xs:List Int} {r n:Int} (h:deskB p c (gs++[⟨xs,r,n⟩])=true):doneG p c gs ⟨false,xs,r,n⟩=(gs++[⟨xs,r,n⟩],true):=by
 unfold doneG; rw[if_neg (by simp)]; exact if_pos h
theorem done_no {p c:Int} {gs:List Gs} {xs:List Int} {r n:Int} (h:deskB p c (gs++[⟨xs,r,n⟩])=false):doneG p c gs ⟨false,xs,r,n⟩=(gs,false):=by
 unfold doneG; rw[if_neg (by simp)]; exact if_neg (by simp[Dd.gs,h])
theorem done_desk {p c:Int} {gs:List Gs} {d:Dd} (h:deskB p c gs=true):deskB p c (doneG p c gs d).1=true:=by
 unfold doneG
 split
 ·split
  ·exact deskB_take h _
  ·exact h
 ·split
  ·assumption
  ·exact h
theorem done_same {p c:Int} {gs:List Gs} {d:Dd} (h:(doneG p c gs d).2=false):(doneG p c gs d).1=gs:=by
 revert h
 unfold doneG
 split
 ·split <;> simp
 ·split <;> simp
def runG (p c:Int):List Gs→List Dd→List Gs×Nat
 | gs,[]=>(gs,0)
 | gs,d::t=>((runG p c (doneG p c gs d).1 t).1,(runG p c (doneG p c gs d).1 t).2+if (doneG p c gs d).2=true then 1 else 0)
theorem run_desk {p c:Int}:∀ (a:List Dd) (gs:List Gs),deskB p c gs=true→deskB p c (runG p c gs a).1=true
 | [],gs,h=>h
 | d::t,gs,h=>run_desk t _ (done_desk h)
def dg (n:Int):UInt8:=UInt8.ofNat (48+n.toNat)
def ud (b:UInt8):Int:=(b.toNat:Int)-48
def isD (b:UInt8):Bool:=decide (48≤b.toNat)&&decide (b.toNat≤57)
def wordBack:List UInt8:=[98,97,99,107]
def wordGuess:List UInt8:=[103,117,101,115,115]
def textOk (xs:List Int) (r n:Int):Bool:=inB xs.length 1 3&&xs.all (fun x=>inB x 0 9)&&inB r 0 9&&inB n 0 9
def guessText (xs:List Int) (r n:Int):List UInt8:=wordGuess++32::(xs.map dg++32::(dg r::32::[dg n]))
def textD (d:Dd):List UInt8:=
 if d.back=true then (if nothingB d.code d.right d.near=true then wordBack else []) else if textOk d.code d.right d.near=true then guessText d.code d.right d.near else []
theorem inB_iff {x lo hi:Int}:inB x lo hi=true↔lo≤x∧x≤hi:=by simp[inB]
theorem dg_toNat {n:Int} (h:inB n 0 9=true):(dg n).toNat=48+n.toNat:=by
 obtain ⟨h1,h2⟩:=inB_iff.1 h;unfold dg;rw[UInt8.toNat_ofNat'];omega
theorem isD_dg {n:Int} (h:inB n 0 9=true):isD (dg n)=true:=by
 obtain ⟨h1,h2⟩:=inB_iff.1 h;simp only[isD,dg_toNat h,Bool.and_eq_true,decide_eq_true_eq];omega
theorem ud_dg {n:Int} (h:inB n 0 9=true):ud (dg n)=n:=by
 obtain ⟨h1,h2⟩:=inB_iff.1 h;unfold ud;rw[dg_toNat h];omega
theorem dg_ne32 {n:Int} (h:inB n 0 9=true):dg n≠32:=by
 intro e;have:=dg_toNat h;rw[e] at this;have h2:(32:UInt8).toNat=32:=rfl;omega
theorem map_ud_dg:∀ {xs:List Int},xs.all (fun x=>inB x 0 9)=true→(xs.map dg).map ud=xs
 | [],_=>rfl
 | x::xs,h=>by
  rw[List.all_cons,Bool.and_eq_true] at h;simp only[List.map_cons,ud_dg h.1,map_ud_dg h.2]
theorem all_isD:∀ {xs:List Int},xs.all (fun x=>inB x 0 9)=true→(xs.map dg).all isD=true
 | [],_=>rfl
 | x::xs,h=>by
  rw[List.all_cons,Bool.and_eq_true] at h;simp only[List.map_cons,List.all_cons,isD_dg h.1,all_isD h.2,Bool.and_self]
theorem no32 {xs:List Int} (h:xs.all (fun x=>inB x 0 9)=true):∀ b∈xs.map dg,b≠32:=by
 intro b hb;obtain ⟨x,hx,rfl⟩:=List.mem_map.1 hb;exact dg_ne32 (List.all_eq_true.1 h x hx)
theorem textOk_iff {xs:List Int} {r n:Int}:textOk xs r n=true↔(1≤xs.length∧xs.length≤3)∧xs.all (fun x=>inB x 0 9)=true∧inB r 0 9=true∧inB n 0 9=true:=by
 unfold textOk;simp only[Bool.and_eq_true,inB_iff,and_assoc]
 constructor
 ·rintro ⟨h1,h2,h3⟩; exact ⟨by omega,by omega,h3⟩
 ·rintro ⟨h1,h2,h3⟩; exact ⟨by omega,by omega,h3⟩
def words (sep:UInt8):List UInt8→List (List UInt8)
 | []=>[[]]
 | b::t=>if b=sep then []::words sep t else match words sep t with
  | []=>[[b]]
  | u::us=>(b::u)::us
theorem words_ne (sep:UInt8):∀ l,words sep l≠[]
 | []=>by simp[words]
 | b::t=>by
  unfold words
  split
  ·simp
  ·split <;> simp
theorem words_app (sep:UInt8):∀ (u t:List UInt8),(∀ b∈u,b≠sep)→words sep (u++sep::t)=u::words sep t
 | [],t,_=>by simp[words]
 | b::u,t,h=>by
  rw[List.cons_append,words,if_neg (h b (by simp)),words_app sep u t (fun c hc=>h c (by simp[hc]))]
theorem words_one (sep:UInt8):∀ (u:List UInt8),(∀ b∈u,b≠sep)→words sep u=[u]
 | [],_=>rfl
 | b::u,h=>by
  unfold words;rw[if_neg (h b (by simp)),words_one sep u (fun c hc=>h c (by simp[hc]))]
theorem words_text {xs:List Int} {r n:Int} (h:textOk xs r n=true):words 32 (guessText xs r n)=[wordGuess,xs.map dg,[dg r],[dg n]]:=by
 obtain ⟨_,h2,h3,h4⟩:=textOk_iff.1 h;unfold guessText;rw[words_app 32 wordGuess _ (by decide),words_app 32 _ _ (no32 h2)];have e:dg r::32::[dg n]=[dg r]++32::[dg n]:=rfl;rw[e,words_app 32 _ _ (by intro b hb; rw[List.mem_singleton.1 hb]; exact dg_ne32 h3),words_one 32 _ (by intro b hb; rw[List.mem_singleton.1 hb]; exact dg_ne32 h4)]
theorem textD_undo:textD Dd.undo=wordBack:=rfl
theorem textD_cases {d:Dd} (h:textD d≠[]):d=Dd.undo∨(d.back=false∧textOk d.code d.right d.near=true∧textD d=guessText d.code d.right d.near):=by
 unfold textD at h ⊢
 by_cases hb:d.back=true
 ·rw[if_pos hb] at h
  by_cases hn:nothingB d.code d.right d.near=true
  ·left
   unfold nothingB at hn;rw[decide_eq_true_iff] at hn;obtain ⟨a,b,c,e⟩:=d;simp only at hb hn;obtain ⟨rfl,rfl,rfl⟩:=hn;subst hb
   rfl
  ·rw[if_neg hn] at h; exact absurd rfl h
 ·right
  rw[if_neg hb] at h ⊢
  by_cases ho:textOk d.code d.right d.near=true
  ·rw[if_pos ho]
   exact ⟨by simpa using hb,ho,rfl⟩
  ·rw[if_neg ho] at h; exact absurd rfl h
theorem textD_guess {xs:List Int} {r n:Int} (h:textOk xs r n=true):textD ⟨false,xs,r,n⟩=guessText xs r n:=by
 unfold textD;simp[h]
theorem textD_bad {xs:List Int} {r n:Int} (h:textOk xs r n=false):textD ⟨false,xs,r,n⟩=[]:=by
 unfold textD;simp[h]
def readD (l:List UInt8):Option Dd:=
 if l=wordBack then some Dd.undo else
  match words 32 l with
  | [_,c,r,n]=>match r,n with
   | [r],[n]=>if textD ⟨false,c.map ud,ud r,ud n⟩=l then some ⟨false,c.map ud,ud r,ud n⟩ else none
   | _,_=>none
  | _=>none
theorem readD_text {d:Dd} (h:textD d≠[]):readD (textD d)=some d:=by
 rcases textD_cases h with rfl | ⟨h1,h2,h3⟩
 ·rfl
 ·rw[h3]
  obtain ⟨_,a2,a3,a4⟩:=textOk_iff.1 h2;unfold readD;rw[if_neg (by simp[wordBack,guessText,wordGuess]),words_text h2];simp only[map_ud_dg a2,ud_dg a3,ud_dg a4];rw[if_pos (textD_guess h2)];obtain ⟨a,b,c,f⟩:=d;simp only at h1;subst h1
  rfl
theorem readD_some {l:List UInt8} {d:Dd} (h:readD l=some d) (hl:l≠[]):textD d=l:=by
 unfold readD at h
 split at h
 ·rename_i e; cases h; exact e.symm
 ·split at h
  ·split at h
   ·split at h
    ·rename_i e; cases h; exact e
    ·cases h
   ·cases h
  ·cases h
theorem readD_nil:readD []=none:=rfl
theorem readD_ne {l:List UInt8} {d:Dd} (h:readD l=some d):l≠[]:=by
 rintro rfl;rw[readD_nil] at h
 cases h
theorem readD_iff {l:List UInt8} {d:Dd}:readD l=some d↔textD d=l∧l≠[]:=by
 constructor
 ·intro h; exact ⟨readD_some h (readD_ne h),readD_ne h⟩
 ·rintro ⟨rfl,h⟩; exact readD_text h
def readW:List (List UInt8)→List Dd×Nat
 | []=>([],0)
 | [_]=>([],0)
 | u::v::t=>match readD u with
  | none=>([],0)
  | some d=>(d::(readW (v::t)).1,u.length+1+(readW (v::t)).2)
def readJ (l:List UInt8):List Dd×Nat:=readW (words 10 l)
theorem readJ_line {u t:List UInt8} (h:∀ b∈u,b≠10):readJ (u++10::t)=match readD u with
  | none=>([],0)
  | some d=>(d::(readJ t).1,u.length+1+(readJ t).2):=by
 unfold readJ;rw[words_app 10 u t h]
 rcases e:words 10 t with _ | ⟨v,w⟩
 ·exact absurd e (words_ne 10 t)
 ·rfl
theorem readJ_end {u:List UInt8} (h:∀ b∈u,b≠10):readJ u=([],0):=by
 unfold readJ;rw[words_one 10 u h]
 rfl
theorem readJ_yes {u t:List UInt8} {d:Dd} (h:∀ b∈u,b≠10) (hd:readD u=some d):readJ (u++10::t)=(d::(readJ t).1,u.length+1+(readJ t).2):=by
 rw[readJ_line h,hd]
theorem readJ_no {u t:List UInt8} (h:∀ b∈u,b≠10) (hd:readD u=none):readJ (u++10::t)=([],0):=by
 rw[readJ_line h,hd]
theorem line_cases:∀ l:List UInt8,(∀ b∈l,b≠10)∨∃ u t,l=u++10::t∧∀ b∈u,b≠10
 | []=>.inl (by simp)
 | b::l=>by
  by_cases hb:b=10
  ·exact .inr ⟨[],l,by rw[hb]; rfl,by simp⟩
  ·rcases line_cases l with h | ⟨u,t,h1,h2⟩
   ·exact .inl (by intro c hc; exact (List.mem_cons.1 hc).elim (fun e=>e ▸ hb) (h c))
   ·exact .inr ⟨b::u,t,by rw[h1]; rfl,by intro c hc; exact (List.mem_cons.1 hc).elim (fun e=>e ▸ hb) (h2 c)⟩
def linesJ (ds:List Dd):List UInt8:=ds.flatMap (fun d=>textD d++[10])
theorem linesJ_cons (d:Dd) (ds:List Dd):linesJ (d::ds)=textD d++10::linesJ ds:=by simp[linesJ]
def allText (ds:List Dd):Bool:=ds.all (fun d=>decide (textD d≠[]))
theorem allText_cons (d:Dd) (ds:List Dd):allText (d::ds)=true↔textD d≠[]∧allText ds=true:=by simp[allText]
theorem readJ_spec (n:Nat):∀ l:List UInt8,l.length≤n→allText (readJ l).1=true∧(readJ l).2≤l.length∧linesJ (readJ l).1=l.take (readJ l).2:=by
 induction n with
 | zero=>
  intro l hl;have:l=[]:=List.eq_nil_of_length_eq_zero (by omega);subst this;exact ⟨rfl,Nat.le_refl _,rfl⟩
 | succ n ih=>
  intro l hl
  rcases line_cases l with h | ⟨u,t,rfl,h⟩
  ·rw[readJ_end h]; exact ⟨rfl,Nat.zero_le _,rfl⟩
  ·rcases e:readD u with _ | d
   ·rw[readJ_no h e]; exact ⟨rfl,Nat.zero_le _,rfl⟩
   ·rw[readJ_yes h e]
    simp only[List.length_append,List.length_cons] at hl;obtain ⟨q1,q2,q3⟩:=ih t (by omega);obtain ⟨r1,r2⟩:=readD_iff.1 e;refine ⟨(allText_cons _ _).2 ⟨by rw[r1]; exact r2,q1⟩,?_,?_⟩
    ·simp only[List.length_append,List.length_cons]; omega
    ·rw[linesJ_cons,r1,q3]
     simp only;have e2:u++10::t=(u++[10])++t:=by simp
     have e3:u.length+1+(readJ t).2=(u++[10]).length+(readJ t).2:=by simp
     rw[e2,e3,List.take_length_add_append];simp
end
section
open Go
theorem byte_in (c:UInt8):∀ (u t:List UInt8),(∀ b∈u,b≠c)→Lib.indexByte (u++c::t) c=u.length
 | [],t,_=>by simp[Lib.indexByte]
 | b::u,t,h=>by
  have ih:=byte_in c u t (fun x hx=>h x (by simp[hx]));rw[List.cons_append];unfold Lib.indexByte;rw[ih];simp[h b (by simp)]
theorem first_cases (c:UInt8):∀ l:List UInt8,(∀ b∈l,b≠c)∨∃ u t,l=u++c::t∧∀ b∈u,b≠c
 | []=>.inl (by simp)
 | b::l=>by
  by_cases hb:b=c
  ·exact .inr ⟨[],l,by rw[hb]; rfl,by simp⟩
  ·rcases first_cases c l with h | ⟨u,t,h1,h2⟩
   ·exact .inl (by intro x hx; exact (List.mem_cons.1 hx).elim (fun e=>e ▸ hb) (h x))
   ·exact .inr ⟨b::u,t,by rw[h1]; rfl,by intro x hx; exact (List.mem_cons.1 hx).elim (fun e=>e ▸ hb) (h2 x)⟩
theorem splitK_words (c:UInt8) (n:Nat):∀ l:List UInt8,l.length≤n→Lib.splitK [c] 0 (Lib.count l [c]) l=words c l:=by
 induction n with
 | zero=>
  intro l hl;obtain rfl:l=[]:=List.eq_nil_of_length_eq_zero (by omega);rw[Lib.count_one]; rfl
 | succ n ih=>
  intro l hl
  rcases first_cases c l with h | ⟨u,t,rfl,h⟩
  ·rw[Lib.count_one,List.count_eq_zero_of_not_mem (fun hc=>h c hc rfl),words_one c l h]
   rfl
  ·have e1:Lib.count (u++c::t) [c]=Lib.count t [c]+1:=by
    rw[Lib.count_one,Lib.count_one,List.count_append,List.count_eq_zero_of_not_mem (fun hc=>h c hc rfl),List.count_cons_self];omega
   have e2:Lib.index (u++c::t) [c]=u.length:=by rw[Lib.index_one]; exact byte_in c u t h
   rw[e1,Lib.splitK,e2,if_neg (by simp),words_app c u t h];simp only[List.length_append,List.length_cons] at hl
   congr 1
   ·simp
   ·rw[show ((u.length:Int).toNat+[c].length)=(u++[c]).length by simp,show u++c::t=(u++[c])++t by simp,List.drop_left]
    exact ih t (by omega)
theorem split_words (l:List UInt8) (c:UInt8):(Lib.splitB ⟨#[c]⟩ 0 (Lib.countB ⟨l.toArray⟩ ⟨#[c]⟩) ⟨l.toArray⟩).map (·.data.toList)=words c l:=by
 rw[Lib.splitB_data];exact splitK_words c l.length l (Nat.le_refl _)
end
section
def rowX (l:List UInt8):List Int:=if l.all isD=true then l.map ud else []
def rowB (l:List UInt8):Bool:=l.all isD&&decide (0<l.length)
theorem row_bad {l:List UInt8} (h:∃ b∈l,isD b=false):rowX l=[]∧rowB l=false:=by
 obtain ⟨b,hb,he⟩:=h;have hn:¬(l.all isD=true):=fun q=>by
  have:=List.all_eq_true.1 q b hb;rw[he] at this; cases this
 have hn':l.all isD=false:=by simpa using hn
 unfold rowX rowB;rw[if_neg hn,hn'];exact ⟨rfl,rfl⟩
theorem row_good {l:List UInt8} (h:l.all isD=true):rowX l=l.map ud∧rowB l=decide (0<l.length):=by
 unfold rowX rowB;rw[if_pos h,h];exact ⟨rfl,by simp⟩
theorem isD_iff {b:UInt8}:isD b=true↔48≤b.toNat∧b.toNat≤57:=by simp[isD]
def numL (l:List UInt8):Int:=if decide (1≤l.length)&&decide (l.length≤3)&&!(decide (1<l.length)&&l.head?==some 48)&&l.all isD then l.foldl (fun n b=>10*n+ud b) 0 else -1
theorem numL_one {b:UInt8} (h:isD b=true):numL [b]=ud b:=by
 unfold numL;simp[h]
theorem rowX_map {xs:List Int} (h:xs.all (fun x=>inB x 0 9)=true) (hl:0<xs.length):rowX (xs.map dg)=xs∧rowB (xs.map dg)=true:=by
 have hd:=all_isD h;unfold rowX rowB;rw[if_pos hd,hd,map_ud_dg h];simp;exact hl
theorem read_words {l:List UInt8} {d:Dd} (h:readD l=some d) (hb:l≠wordBack):d.back=false∧words 32 l=[wordGuess,d.code.map dg,[dg d.right],[dg d.near]]∧textOk d.code d.right d.near=true:=by
 obtain ⟨h1,h2⟩:=readD_iff.1 h;have hne:textD d≠[]:=by rw[h1]; exact h2
 rcases textD_cases hne with rfl | ⟨q1,q2,q3⟩
 ·exact absurd h1.symm (by rw[textD_undo]; exact hb)
 ·exact ⟨q1,by rw[←h1,q3]; exact words_text q2,q2⟩
theorem read_len {l:List UInt8} (hb:l≠wordBack) (h:(words 32 l).length≠4):readD l=none:=by
 rcases e:readD l with _ | d
 ·rfl
 ·have:=(read_words e hb).2.1
  rw[this] at h;exact absurd rfl h
theorem read_word {l u0 u1 u2 u3:List UInt8} (hb:l≠wordBack) (hw:words 32 l=[u0,u1,u2,u3]) (h:u0≠wordGuess):readD l=none:=by
 rcases e:readD l with _ | d
 ·rfl
 ·have:=(read_words e hb).2.1
  rw[hw] at this;simp only[List.cons.injEq] at this;exact absurd this.1 h
theorem read_parts {l u0 u1 u2 u3:List UInt8} {d:Dd} (hb:l≠wordBack) (hw:words 32 l=[u0,u1,u2,u3]) (e:readD l=some d):
  u0=wordGuess∧u1=d.code.map dg∧u2=[dg d.right]∧u3=[dg d.near]∧d.back=false∧textOk d.code d.right d.near=true:=by
 obtain ⟨h1,h2,h3⟩:=read_words e hb;rw[hw] at h2;simp only[List.cons.injEq,and_true] at h2;exact ⟨h2.1,h2.2.1,h2.2.2.1,h2.2.2.2,h1,h3⟩
theorem read_row {l u0 u1 u2 u3:List UInt8} (hb:l≠wordBack) (hw:words 32 l=[u0,u1,u2,u3]) (h:rowB u1=false∨rowB u2=false∨rowB u3=false):readD l=none:=by
 rcases e:readD l with _ | d
 ·rfl
 ·obtain ⟨_,h1,h2,h3,_,h4⟩:=read_parts hb hw e
  obtain ⟨q1,q2,q3,q4⟩:=textOk_iff.1 h4;have r1:=(rowX_map q2 (by omega)).2;have r2:=(rowX_map (xs:=[d.right]) (by simp[q3]) (by simp)).2;have r3:=(rowX_map (xs:=[d.near]) (by simp[q4]) (by simp)).2;simp only[List.map_cons,List.map_nil] at r2 r3;rw[h1,h2,h3] at h
  rcases h with h | h | h
  ·rw[r1] at h; cases h
  ·rw[r2] at h; cases h
  ·rw[r3] at h; cases h
theorem read_made {l u0 u1 u2 u3:List UInt8} {x:List Int} {r n:Int} (hb:l≠wordBack) (hw:words 32 l=[u0,u1,u2,u3])
  (hx:∀ d,readD l=some d→x=d.code∧r=d.right∧n=d.near):readD l=if textD ⟨false,x,r,n⟩=l then some ⟨false,x,r,n⟩ else none:=by
 by_cases h:textD ⟨false,x,r,n⟩=l
 ·rw[if_pos h]
  by_cases hl:l=[]
  ·subst hl
   simp[words] at hw
  ·exact readD_iff.2 ⟨h,hl⟩
 ·rw[if_neg h]
  rcases e:readD l with _ | d
  ·rfl
  ·exfalso
   obtain ⟨h1,h2,h3⟩:=hx d e;have h4:=(read_words e hb).1;apply h;have:(⟨false,x,r,n⟩:Dd)=d:=by
    obtain ⟨a,b,c,f⟩:=d;simp only at h1 h2 h3 h4;subst h1 h2 h3 h4
    rfl
   rw[this];exact (readD_iff.1 e).1
theorem read_impl {l u0 u1 u2 u3:List UInt8} {r n:Int} {t2 t3:List Int} (hb:l≠wordBack) (hw:words 32 l=[u0,u1,u2,u3]) (h2:rowX u2=r::t2) (h3:rowX u3=n::t3):
  readD l=if textD ⟨false,rowX u1,r,n⟩=l then some ⟨false,rowX u1,r,n⟩ else none:=by
 refine read_made hb hw fun d e=>?_
 obtain ⟨_,p1,p2,p3,_,p4⟩:=read_parts hb hw e;obtain ⟨q1,q2,q3,q4⟩:=textOk_iff.1 p4;have r1:=(rowX_map q2 (by omega)).1;have r2:=(rowX_map (xs:=[d.right]) (by simp[q3]) (by simp)).1;have r3:=(rowX_map (xs:=[d.near]) (by simp[q4]) (by simp)).1;simp only[List.map_cons,List.map_nil] at r2 r3;rw[p2,r2] at h2;rw[p3,r3] at h3;rw[p1,r1];simp only[List.cons.injEq] at h2 h3;exact ⟨rfl,h2.1.symm,h3.1.symm⟩
theorem read_spec {l u0 u1 u2 u3:List UInt8} (hb:l≠wordBack) (hw:words 32 l=[u0,u1,u2,u3]):
  readD l=if textD ⟨false,rowX u1,numL u2,numL u3⟩=l then some ⟨false,rowX u1,numL u2,numL u3⟩ else none:=by
 refine read_made hb hw fun d e=>?_
 obtain ⟨_,p1,p2,p3,_,p4⟩:=read_parts hb hw e;obtain ⟨q1,q2,q3,q4⟩:=textOk_iff.1 p4;have r1:=(rowX_map q2 (by omega)).1;rw[p1,p2,p3,r1,numL_one (isD_dg q3),numL_one (isD_dg q4),ud_dg q3,ud_dg q4];exact ⟨rfl,rfl,rfl⟩
theorem rowB_cons {u:List UInt8} (h:rowB u=true):∃ b t,rowX u=b::t:=by
 unfold rowB at h;rw[Bool.and_eq_true,decide_eq_true_iff] at h;unfold rowX;rw[if_pos h.1]
 match u,h.2 with
 | b::t,_=>exact ⟨ud b,t.map ud,rfl⟩
def rdD (l:List UInt8):Dd:=(readD l).getD ⟨false,[],0,0⟩
def rdB (l:List UInt8):Bool:=(readD l).isSome
theorem rd_none {l:List UInt8} (h:readD l=none):rdD l=⟨false,[],0,0⟩∧rdB l=false:=by unfold rdD rdB; rw[h]; exact ⟨rfl,rfl⟩
theorem rd_some {l:List UInt8} {d:Dd} (h:readD l=some d):rdD l=d∧rdB l=true:=by unfold rdD rdB; rw[h]; exact ⟨rfl,rfl⟩
theorem rd_back:rdD wordBack=Dd.undo∧rdB wordBack=true:=rd_some rfl
theorem rd_code (l:List UInt8):(rdD l).code.length≤3∧∀ y∈(rdD l).code,0≤y∧y≤9:=by
 rcases e:readD l with _ | d
 ·rw[(rd_none e).1]; simp
 ·rw[(rd_some e).1]
  obtain ⟨h1,h2⟩:=readD_iff.1 e
  rcases textD_cases (by rw[h1]; exact h2) with rfl | ⟨_,q2,_⟩
  ·simp[Dd.undo]
  ·obtain ⟨⟨_,r1⟩,r2,_⟩:=textOk_iff.1 q2
   exact ⟨r1,fun y hy=>inB_iff.1 (List.all_eq_true.1 r2 y hy)⟩
end
end Go.Proofs.YtenlngclocfnlaaGreatDoor
