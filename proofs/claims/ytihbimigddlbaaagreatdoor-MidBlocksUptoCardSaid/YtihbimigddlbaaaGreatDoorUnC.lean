/- A part of the proof: PmV8 PmV9 PmV10 PmV11 PmV12 PmV13 PmV14 PmV15 PmV16 PmV17. -/
import Derived.Test.YtihbimigddlbaaaGreatDoorUnB
import Derived.Test.YtihbimigddlbaaaGreatDoorProg
import Derived.WalkKit
import Derived.Defers
import Derived.Recover
import Derived.Laws.Pointers
noncomputable section
set_option linter.all false
namespace Go.Proofs.YtihbimigddlbaaaGreatDoor.L
open Go Go.RowKit Go.Proofs.YtihbimigddlbaaaGreatDoor.Pl
variable [Gm]
set_option maxRecDepth 10000
section
structure PS where
 l:List (List TV)
 a:List (List TV)
 e:List (List TV)
 m:List (List TV)
 b:List (List TV)
def restOf (c:Fm):List Fm:=c.kids.drop 1
def cmdsOf (c:Fm):List Fm:=((restOf c).take ((restOf c).length-1)).drop 1
def finOf (c:Fm):Fm:=(restOf c).getD ((restOf c).length-1) w0
def r0 (c:Fm):Fm:=(restOf c).getD 0 w0
def r1 (c:Fm):Fm:=(restOf c).getD 1 w0
def locT (c:Fm):List TV:=tS (r0 c).text::(cellsX (r1 c)++[encs ((restOf c).drop 2)])
def blkT (c:Fm):List TV:=tS (r0 c).text::encs (cmdsOf c)::cellsX (finOf c)
def stepP (S:PS) (c:Fm):PS :=
 if hEq c sRequires=true then { S with a:=S.a++[cellsX (r0 c)] }
 else if hEq c sEnsures=true then { S with e:=S.e++[cellsX (r0 c)] }
 else if hEq c sModifies=true then { S with m:=S.m++(restOf c).map txt }
 else if hEq c sLocal=true then { S with l:=S.l++[locT c] }
 else if hEq c sBlock=true then { S with b:=S.b++[blkT c] }
 else S
def restP (cs:List Fm):PS:=cs.foldl stepP ⟨[],[],[],[],[]⟩
omit [Gm] in
theorem restP_snoc (l:List Fm) (c:Fm):restP (l++[c])=stepP (restP l) c:=by simp[restP]
def clauseOK (c:Fm):Bool :=
 if hEq c sRequires=true then lenIs (restOf c) 1
 else if hEq c sEnsures=true then lenIs (restOf c) 1
 else if hEq c sModifies=true then (restOf c).all isNm
 else if hEq c sLocal=true then (lenIs (restOf c) 2||lenIs (restOf c) 3)&&isNm (r0 c)
 else if hEq c sBlock=true then (lenGe (restOf c) 2&&isNm (r0 c))&&blockOK (cmdsOf c) (finOf c)
 else false
def clKind (c:Fm):Bool:=(c.kind==3)&&lenGe c.kids 1
def clsOK:PS→List Fm→Bool
 | _,[]=>true
 | S,c::r=>((clKind c&&(hEq c sBlock||((S.b.length:Int)==0)))&&clauseOK c)&&clsOK (stepP S c) r
def procOK (f:Fm):Bool :=
 lenGe f.kids 4&&((isNm (f.kids.getD 1 w0)&&varsOK (f.kids.getD 2 w0))&&varsOK (f.kids.getD 3 w0))&&clsOK ⟨[],[],[],[],[]⟩ (f.kids.drop 4)
def procT (f:Fm):TV :=
 .agg [tS (f.kids.getD 1 w0).text,varsT (f.kids.getD 2 w0),varsT (f.kids.getD 3 w0),.sl 6 (restP (f.kids.drop 4)).l,.sl 4 (restP (f.kids.drop 4)).a,.sl 4 (restP (f.kids.drop 4)).e,.sl 1 (restP (f.kids.drop 4)).m,.sl 6 (restP (f.kids.drop 4)).b]
theorem typed_specX (L:LF) (f:Fm) (hf:Fit f) (hb2:f.kind=3→f.kids.length≤1000000):SC Tryz.prog 71 [] [.t (.agg (cellsX f))] (orP (varsT f) (varsOK f=true)):=by
 rw[←cellsX_eq];exact typed_spec L f hf hb2
theorem readProc_ent:Ent Tryz.prog 41:=fun a w=>Tryz.call41 a w
def Rnd (n:Nat) (cls:List Fm) (x:Nat×PS):Prop :=
 x.1≤n∧clsOK ⟨[],[],[],[],[]⟩ cls=clsOK x.2 (cls.drop x.1)∧x.2=restP (cls.take x.1)∧x.2.l.length≤x.1∧x.2.a.length≤x.1∧x.2.e.length≤x.1∧x.2.m.length≤x.1*1000000∧x.2.b.length≤x.1
theorem readProc_spec (L:LF) (f:Fm) (hf:Fit f) (hk:f.kids.length≤1000000) (hkk:∀ c∈f.kids,c.kind=3→c.kids.length≤1000000) :
  SC Tryz.prog 41 [] [.t f.enc] (orP (procT f) (procOK f=true)):=by
 cases hf with
 | @mk k n t ks hl hb ht hks =>
 have hk:ks.length≤1000000:=hk
 have hkk:∀ c∈ks,c.kind=3→c.kids.length≤1000000:=hkk
 have hpk:procOK (.mk k n t ks)=(lenGe ks 4&&((isNm (ks.getD 1 w0)&&varsOK (ks.getD 2 w0))&&varsOK (ks.getD 3 w0))&&clsOK ⟨[],[],[],[],[]⟩ (ks.drop 4)):=rfl
 have hpt:procT (.mk k n t ks)=.agg [tS (ks.getD 1 w0).text,varsT (ks.getD 2 w0),varsT (ks.getD 3 w0),.sl 6 (restP (ks.drop 4)).l,.sl 4 (restP (ks.drop 4)).a,.sl 4 (restP (ks.drop 4)).e,.sl 1 (restP (ks.drop 4)).m,.sl 6 (restP (ks.drop 4)).b]:=rfl
 generalize hB:procOK (.mk k n t ks)=B at hpk
 generalize hP:procT (.mk k n t ks)=P at hpt
 have hin:∀ n,n<ks.length→ks.getD n w0∈ks:=fun n h=>by simp only[List.getD,List.getElem?_eq_getElem h,Option.getD_some];exact List.getElem_mem h
 have hty:∀ n,n<ks.length→SC Tryz.prog 71 [] [.t (.agg (cellsX (ks.getD n w0)))] (orP (varsT (ks.getD n w0)) (varsOK (ks.getD n w0)=true)):=fun n h=>typed_specX L _ (hks _ (hin n h)) (hkk _ (hin n h))
 have hat:∀ n,n<ks.length→(0:Int)≤(n:Int)∧(rows ks)[((n:Nat):Int).toNat]?=some (cellsX (ks.getD n w0)):=fun n h=>rows_atX h
 have hnm:=name_specX L (ks.getD 1 w0)
 have hdr:∀ c∈ks.drop 4,c∈ks:=fun c h=>List.mem_of_mem_drop h
 refine SC.of_ok tok Tryz.func41 rfl (Nat.le_of_ble_eq_true rfl) (Nat.le_of_ble_eq_true rfl) (ev_sound ctx (own:=[9999,10038,10070,10071,10072,10073,122,74,88,96,152]) _ _ _ ?_)
 refine⟨want_ent,[],[],[.t (tB (lenGe ks 4))],_,want_or _,rfl,rfl,trivial,fun r os' _ hv=>?_,fun r os' _ hv=>?_⟩
 rotate_left
 ·have hr:=(orP_pan hv).1;have hw:=(orP_pan hv).2
  exact⟨[],.inr ⟨congrArg SE.pan hr,by rw[hpk,show lenGe ks 4=false from Bool.eq_false_iff.2 hw];simp⟩,rfl,rfl,trivial⟩
 have h4:=(orP_ret hv).2
 have hlen:=lenGe_le (n:=4) h4
 have hbad:((isNm (ks.getD 1 w0)&&varsOK (ks.getD 2 w0))&&varsOK (ks.getD 3 w0))=false→¬ B=true:=fun h hh=>by rw[hpk,h] at hh;simp at hh
 refine⟨cellsX (ks.getD 1 w0),fun _=>hat 1 (by omega),?_⟩
 refine⟨name_ent,tS (ks.getD 1 w0).text,isNm (ks.getD 1 w0)=true,orX hnm (fun hA=>⟨rfl,[],.inr ⟨rfl,hbad (by rw[Bool.eq_false_iff.2 hA];rfl)⟩,rfl,rfl,trivial⟩),?_⟩
 refine⟨cellsX (ks.getD 2 w0),fun _=>hat 2 (by omega),?_⟩
 refine⟨typed_ent,varsT (ks.getD 2 w0),varsOK (ks.getD 2 w0)=true,orX (hty 2 (by omega)) (fun hA=>⟨rfl,[],.inr ⟨rfl,hbad (by rw[Bool.eq_false_iff.2 hA];simp)⟩,rfl,rfl,trivial⟩),?_⟩
 refine⟨cellsX (ks.getD 3 w0),fun _=>hat 3 (by omega),?_⟩
 refine⟨typed_ent,varsT (ks.getD 3 w0),varsOK (ks.getD 3 w0)=true,orX (hty 3 (by omega)) (fun hA=>⟨rfl,[],.inr ⟨rfl,hbad (by rw[Bool.eq_false_iff.2 hA];simp)⟩,rfl,rfl,trivial⟩),?_⟩
 intro hA1 hA2 hA3
 have hbad4:clsOK ⟨[],[],[],[],[]⟩ (ks.drop 4)=false→¬ B=true:=fun h hh=>by rw[hpk,h] at hh;simp at hh
 have hgood:clsOK ⟨[],[],[],[],[]⟩ (ks.drop 4)=true→B=true:=fun h=>by rw[hpk,h,h4,hA1,hA2,hA3];rfl
 have hcl:(ks.drop 4).length≤1000000:=by rw[List.length_drop];omega
 have hclM:(ks.drop 4).length≤maxLen:=by simp only[maxLen] at hl ⊢;rw[List.length_drop];omega
 have hfit:∀ g∈ks.drop 4,Fit g:=fun g h=>hks g (hdr g h)
 have hsm:∀ g∈ks.drop 4,g.kind=3→g.kids.length≤1000000:=fun g h=>hkk g (hdr g h)
 have htk:((rows ks).take ((rows ks).length:Int).toNat).drop (Int.toNat 4)=rows (ks.drop 4):=by rw[Int.toNat_natCast,List.take_length];exact rows_drop 4 ks
 clear hB hP
 generalize ks.drop 4=cls at hpt hbad4 hgood hcl hclM hfit hsm htk
 refine⟨⟨by decide,by rw[rows_len];omega,Int.le_refl _⟩,?_⟩
 refine Ok.loop (st:=fun x:Nat×PS=>⟨[(32,vi x.1),(31,vi cls.length),(30,.t (encs cls)),(4,.ptr 4 0),(2,.ptr 2 0)],[(4,.var [.t (tS (ks.getD 1 w0).text),.t (varsT (ks.getD 2 w0)),.t (varsT (ks.getD 3 w0)),.sl 122,.sl 74,.sl 88,.sl 96,.sl 152]),(122,.row 86 6 x.2.l),(74,.row 24 4 x.2.a),(88,.row 24 4 x.2.e),(96,.row 9 1 x.2.m),(152,.row 94 6 x.2.b),(2,.var [.t (tS ⟨#[]⟩),.t (.v (.slice none 0 0)),.t (.v (.slice none 0 0)),.t (.v (.slice none 0 0)),.t (.v (.slice none 0 0)),.t (.v (.slice none 0 0)),.t (.v (.slice none 0 0)),.t (.v (.slice none 0 0))])]⟩)
  (R:=Rnd cls.length cls) (μ:=fun x=>cls.length-x.1) (0,⟨[],[],[],[],[]⟩)
  ((Wk.nilCell 4 122 3 86 6 _ (by decide) (by decide) rfl rfl).trans ((Wk.nilCell 4 74 4 24 4 _ (by decide) (by decide) rfl rfl).trans ((Wk.nilCell 4 88 5 24 4 _ (by decide) (by decide) rfl rfl).trans ((Wk.nilCell 4 96 6 9 1 _ (by decide) (by decide) rfl rfl).trans ((Wk.nilCell 4 152 7 94 6 _ (by decide) (by decide) rfl rfl).trans
   (Wk.sub ⟨rfl,slotI (by rw[htk,rows_len]),slotT (by rw[htk];rfl),rfl,rfl,trivial⟩ ⟨rfl,rfl,rfl,rfl,rfl,rfl,rfl,trivial⟩)))))) ⟨Nat.zero_le _,rfl,rfl,Nat.le_refl _,Nat.le_refl _,Nat.le_refl _,Nat.le_refl _,Nat.le_refl _⟩ ?_
 rintro⟨i,S⟩ ⟨hi,hR,hS,hb1,hb2,hb3,hb4,hb5⟩
 have hi:i≤cls.length:=hi
 have hR:clsOK ⟨[],[],[],[],[]⟩ cls=clsOK S (cls.drop i):=hR
 have hS:S=restP (cls.take i):=hS
 have hb1:S.l.length≤i:=hb1
 have hb2:S.a.length≤i:=hb2
 have hb3:S.e.length≤i:=hb3
 have hb4:S.m.length≤i*1000000:=hb4
 have hb5:S.b.length≤i:=hb5
 refine ev_sound ctx (own:=[9999,10038,10070,10071,10072,10073,122,74,88,96,152]) _ _ _ ?_
 refine⟨fun h=>?_,fun h=>?_⟩
 ·have hlt:i<cls.length:=ltOf h
  have hget:=rows_get hlt
  have hmem:cls[i]∈cls:=List.getElem_mem hlt
  have hfg:=hfit _ hmem
  have hsg:=hsm _ hmem
  have hR0:=hR
  clear hR
  rw[List.drop_eq_getElem_cons hlt] at hR0
  have hS':restP (cls.take (i+1))=stepP S cls[i]:=by
   rw[List.take_add_one,List.getElem?_eq_getElem hlt,hS]
   exact restP_snoc _ _
  generalize cls[i]=c at hget hfg hsg hR0 hS'
  have hhd:=head_spec c
  have hR:clsOK ⟨[],[],[],[],[]⟩ cls=(((clKind c&&(hEq c sBlock||((S.b.length:Int)==0)))&&clauseOK c)&&clsOK (stepP S c) (cls.drop (i+1))):=hR0
  clear hR0
  have hE:∀ s,hEq c s=((headOf c).toList==s.toList):=fun _=>rfl
  have hcm:clauseOK c=(if hEq c sRequires=true then lenIs (restOf c) 1
   else if hEq c sEnsures=true then lenIs (restOf c) 1
   else if hEq c sModifies=true then (restOf c).all isNm
   else if hEq c sLocal=true then (lenIs (restOf c) 2||lenIs (restOf c) 3)&&isNm ((restOf c).getD 0 w0)
   else if hEq c sBlock=true then (lenGe (restOf c) 2&&isNm ((restOf c).getD 0 w0))&&blockOK (((restOf c).take ((restOf c).length-1)).drop 1) ((restOf c).getD ((restOf c).length-1) w0)
   else false):=rfl
  have hst:stepP S c=(if hEq c sRequires=true then (PS.mk S.l (S.a++[cellsX ((restOf c).getD 0 w0)]) S.e S.m S.b)
   else if hEq c sEnsures=true then (PS.mk S.l S.a (S.e++[cellsX ((restOf c).getD 0 w0)]) S.m S.b)
   else if hEq c sModifies=true then (PS.mk S.l S.a S.e (S.m++(restOf c).map txt) S.b)
   else if hEq c sLocal=true then (PS.mk (S.l++[tS ((restOf c).getD 0 w0).text::(cellsX ((restOf c).getD 1 w0)++[encs ((restOf c).drop 2)])]) S.a S.e S.m S.b)
   else if hEq c sBlock=true then (PS.mk S.l S.a S.e S.m (S.b++[tS ((restOf c).getD 0 w0).text::encs (((restOf c).take ((restOf c).length-1)).drop 1)::cellsX ((restOf c).getD ((restOf c).length-1) w0)]))
   else S):=rfl
  have hrst:restOf c=c.kids.drop 1:=rfl
  have hbad:((clKind c&&(hEq c sBlock||((S.b.length:Int)==0)))&&clauseOK c)=false→¬ B=true:=fun h=>hbad4 (by rw[hR,h];rfl)
  have hck:clKind c=((c.kind==3)&&lenGe c.kids 1):=rfl
  generalize clKind c=CK at hR hbad hck
  generalize hEq c=H at hR hbad hcm hst hE
  generalize headOf c=hd at hhd hE
  generalize clauseOK c=C at hR hbad hcm
  generalize stepP S c=S1 at hR hst hS'
  generalize restOf c=rst at hcm hst hrst
  cases hfg with
  | @mk k' n' t' ks' hl' hb' ht' hks' =>
  have hsg:k'=3→ks'.length≤1000000:=hsg
  have hrst:rst=ks'.drop 1:=hrst
  have hck:CK=((k'==3)&&lenGe ks' 1):=hck
  refine⟨_,hget,?_⟩
  refine⟨want_ent,[],[],[.t (tB ((k'==3)&&lenGe ks' 1))],_,want_or _,rfl,rfl,trivial,fun r os' _ hv=>?_,fun r os' _ hv=>?_⟩
  rotate_left
  ·have hr:=(orP_pan hv).1;have hw:=(orP_pan hv).2
   exact⟨[],.inr ⟨congrArg SE.pan hr,hbad (by rw[hck,Bool.eq_false_iff.2 hw];rfl)⟩,rfl,rfl,trivial⟩
  have hw1:=(orP_ret hv).2
  have hCK:CK=true:=hck.trans hw1
  have hk3:k'=3:=by rw[Bool.and_eq_true] at hw1;exact eq_of_beq hw1.1
  have hk1:1≤ks'.length:=by rw[Bool.and_eq_true] at hw1;exact lenGe_le (n:=1) hw1.2
  have hkl:=hsg hk3
  have hrl:rst.length≤1000000:=by rw[hrst,List.length_drop];omega
  have hRR:((rows ks').take ((rows ks').length:Int).toNat).drop (Int.toNat 1)=rows rst:=by rw[Int.toNat_natCast,List.take_length,hrst];exact rows_drop 1 ks'
  have hfr:∀ g∈rst,Fit g:=fun g h=>hks' g (List.mem_of_mem_drop (hrst ▸ h))
  refine⟨⟨by decide,by rw[rows_len];omega,Int.le_refl _⟩,?_⟩
  refine⟨head_ent,.inl ⟨_,hhd,?_⟩⟩
  refine⟨want_ent,[],[],[.t (tB ((hd.toList==sBlock.toList)||((S.b.length:Int)==0)))],_,want_or _,rfl,rfl,trivial,fun r os' _ hv=>?_,fun r os' _ hv=>?_⟩
  rotate_left
  ·have hr:=(orP_pan hv).1;have hw:=(orP_pan hv).2
   exact⟨[],.inr ⟨congrArg SE.pan hr,hbad (by rw[hE,Bool.eq_false_iff.2 hw,Bool.and_false];rfl)⟩,rfl,rfl,trivial⟩
  have hw2:=(orP_ret hv).2
  have hw2:(H sBlock||((S.b.length:Int)==0))=true:=by rw[hE];exact hw2
  have hbadC:C=false→¬ B=true:=fun h=>hbad (by rw[h,Bool.and_false])
  have hnext:∀ S2,S1=S2→C=true→S2.l.length≤i+1→S2.a.length≤i+1→S2.e.length≤i+1→S2.m.length≤(i+1)*1000000→S2.b.length≤i+1→Rnd cls.length cls (i+1,S2):=fun S2 e hc h1 h2 h3 h4 h5 =>
   ⟨hlt,by rw[hR,hCK,hw2,hc,e];rfl,by rw[←e];exact hS'.symm,h1,h2,h3,h4,h5⟩
  have hidx:∀ n,n<rst.length→(0:Int)≤(n:Int)∧(((rows ks').take ((rows ks').length:Int).toNat).drop (Int.toNat 1))[((n:Nat):Int).toNat]?=some (cellsX (rst.getD n w0)):=fun n h=>by rw[hRR];exact rows_atX h
  have hLI:∀ n:Int,(((((rows ks').take ((rows ks').length:Int).toNat).drop (Int.toNat 1)).length:Int)==n)=lenIs rst n:=fun n=>by rw[hRR];rfl
  have hLG:∀ n:Int,(decide (((((rows ks').take ((rows ks').length:Int).toNat).drop (Int.toNat 1)).length:Int)≥n))=lenGe rst n:=fun n=>by rw[hRR];rfl
  have hns:SC Tryz.prog 72 [] [.t (.sl 4 (((rows ks').take ((rows ks').length:Int).toNat).drop (Int.toNat 1)))] (orP (.sl 1 (rst.map txt)) (rst.all isNm=true)):=by rw[hRR];exact names_spec L rst (by simp only[maxLen];omega) (by omega)
  have hq1:S.l.length≤i+1:=Nat.le_succ_of_le hb1
  have hq2:S.a.length≤i+1:=Nat.le_succ_of_le hb2
  have hq3:S.e.length≤i+1:=Nat.le_succ_of_le hb3
  have hq4:S.m.length≤(i+1)*1000000:=Nat.le_trans hb4 (Nat.mul_le_mul_right _ (Nat.le_succ i))
  have hq5:S.b.length≤i+1:=Nat.le_succ_of_le hb5
  have hML:10000000000000≤maxLen:=by decide
  have hup:∀ (X:List (List TV)) (x:List TV),X.length≤i→(X++[x]).length≤i+1:=fun X x h=>by simp;exact h
  refine⟨fun h1=>?_,fun h1=>?_⟩
  ·have h1:H sRequires=true:=by rw[hE];exact h1
   rw[if_pos h1] at hcm hst
   refine⟨want_ent,[],[],[.t (tB (((((rows ks').take ((rows ks').length:Int).toNat).drop (Int.toNat 1)).length:Int)==1))],_,want_or _,rfl,rfl,trivial,fun r os' _ hv=>?_,fun r os' _ hv=>?_⟩
   rotate_left
   ·have hr:=(orP_pan hv).1;have hw:=(orP_pan hv).2
    exact⟨[],.inr ⟨congrArg SE.pan hr,hbadC (by rw[hcm,←hLI];exact Bool.eq_false_iff.2 hw)⟩,rfl,rfl,trivial⟩
   have hw3:=(orP_ret hv).2
   have hc1:lenIs rst 1=true:=by rw[←hLI];exact hw3
   have hl1:=lenIs_eq (n:=1) hc1
   refine⟨cellsX (rst.getD 0 w0),fun _=>hidx 0 (by omega),?_⟩
   exact⟨by show (S.a.length+1)*56≤_;omega,by show S.a.length+1≤maxLen;omega,trivial,(i+1,PS.mk S.l (S.a++[cellsX (rst.getD 0 w0)]) S.e S.m S.b),Wk.sub ⟨slotI (wr1 hlt hclM),rfl,rfl,rfl,rfl,trivial⟩ ⟨rfl,rfl,rfl,rfl,rfl,rfl,rfl,trivial⟩,hnext _ hst (hcm.trans hc1) hq1 (hup _ _ hb2) hq3 hq4 hq5,dec hlt⟩
  have f1:¬ H sRequires=true:=by rw[hE,show (hd.toList==sRequires.toList)=false from h1];simp
  rw[if_neg f1] at hcm hst
  refine⟨fun h1=>?_,fun h1=>?_⟩
  ·have h1:H sEnsures=true:=by rw[hE];exact h1
   rw[if_pos h1] at hcm hst
   refine⟨want_ent,[],[],[.t (tB (((((rows ks').take ((rows ks').length:Int).toNat).drop (Int.toNat 1)).length:Int)==1))],_,want_or _,rfl,rfl,trivial,fun r os' _ hv=>?_,fun r os' _ hv=>?_⟩
   rotate_left
   ·have hr:=(orP_pan hv).1;have hw:=(orP_pan hv).2
    exact⟨[],.inr ⟨congrArg SE.pan hr,hbadC (by rw[hcm,←hLI];exact Bool.eq_false_iff.2 hw)⟩,rfl,rfl,trivial⟩
   have hw3:=(orP_ret hv).2
   have hc1:lenIs rst 1=true:=by rw[←hLI];exact hw3
   have hl1:=lenIs_eq (n:=1) hc1
   refine⟨cellsX (rst.getD 0 w0),fun _=>hidx 0 (by omega),?_⟩
   exact⟨by show (S.e.length+1)*56≤_;omega,by show S.e.length+1≤maxLen;omega,trivial,(i+1,PS.mk S.l S.a (S.e++[cellsX (rst.getD 0 w0)]) S.m S.b),Wk.sub ⟨slotI (wr1 hlt hclM),rfl,rfl,rfl,rfl,trivial⟩ ⟨rfl,rfl,rfl,rfl,rfl,rfl,rfl,trivial⟩,hnext _ hst (hcm.trans hc1) hq1 hq2 (hup _ _ hb3) hq4 hq5,dec hlt⟩
  have f2:¬ H sEnsures=true:=by rw[hE,show (hd.toList==sEnsures.toList)=false from h1];simp
  rw[if_neg f2] at hcm hst
  refine⟨fun h1=>?_,fun h1=>?_⟩
  ·have h1:H sModifies=true:=by rw[hE];exact h1
   rw[if_pos h1] at hcm hst
   refine⟨names_ent,.sl 1 (rst.map txt),rst.all isNm=true,orX hns (fun hA=>⟨rfl,[],.inr ⟨rfl,hbadC (by rw[hcm];exact Bool.eq_false_iff.2 hA)⟩,rfl,rfl,trivial⟩),?_⟩
   intro hA
   have hlm:(S.m++rst.map txt).length≤(i+1)*1000000:=by rw[List.length_append,List.length_map];omega
   exact⟨by show (S.m.length+(rst.map txt).length)*16≤_;rw[List.length_map];omega,by show S.m.length+(rst.map txt).length≤maxLen;rw[List.length_map];omega,trivial,(i+1,PS.mk S.l S.a S.e (S.m++rst.map txt) S.b),Wk.sub ⟨slotI (wr1 hlt hclM),rfl,rfl,rfl,rfl,trivial⟩ ⟨rfl,rfl,rfl,rfl,rfl,rfl,rfl,trivial⟩,hnext _ hst (hcm.trans hA) hq1 hq2 hq3 hlm hq5,dec hlt⟩
  have f3:¬ H sModifies=true:=by rw[hE,show (hd.toList==sModifies.toList)=false from h1];simp
  rw[if_neg f3] at hcm hst
  refine⟨fun h1=>?_,fun h1=>?_⟩
  ·have h1:H sLocal=true:=by rw[hE];exact h1
   rw[if_pos h1] at hcm hst
   refine⟨want_ent,[],[],[.t (tB ((((((rows ks').take ((rows ks').length:Int).toNat).drop (Int.toNat 1)).length:Int)==2)||(((((rows ks').take ((rows ks').length:Int).toNat).drop (Int.toNat 1)).length:Int)==3)))],_,want_or _,rfl,rfl,trivial,fun r os' _ hv=>?_,fun r os' _ hv=>?_⟩
   rotate_left
   ·have hr:=(orP_pan hv).1;have hw:=(orP_pan hv).2
    exact⟨[],.inr ⟨congrArg SE.pan hr,hbadC (by rw[hcm,←hLI,←hLI,Bool.eq_false_iff.2 hw];rfl)⟩,rfl,rfl,trivial⟩
   have hw3:=(orP_ret hv).2
   have hc1:(lenIs rst 2||lenIs rst 3)=true:=by rw[←hLI,←hLI];exact hw3
   have hl1:2≤rst.length:=by
    rcases Bool.or_eq_true _ _ ▸ hc1 with h | h
    ·have:=lenIs_eq (n:=2) h;omega
    ·have:=lenIs_eq (n:=3) h;omega
   have hln:((((rows ks').take ((rows ks').length:Int).toNat).drop (Int.toNat 1)).length:Int)=(rst.length:Int):=by rw[hRR,rows_len]
   have hd2:((((rows ks').take ((rows ks').length:Int).toNat).drop (Int.toNat 1)).take ((((rows ks').take ((rows ks').length:Int).toNat).drop (Int.toNat 1)).length:Int).toNat).drop (Int.toNat 2)=rows (rst.drop 2):=by rw[hRR,Int.toNat_natCast,List.take_length];exact rows_drop 2 rst
   refine⟨cellsX (rst.getD 0 w0),fun _=>hidx 0 (by omega),?_⟩
   refine⟨name_ent,tS (rst.getD 0 w0).text,isNm (rst.getD 0 w0)=true,orX (name_specX L (rst.getD 0 w0)) (fun hA=>⟨rfl,[],.inr ⟨rfl,hbadC (by rw[hcm,Bool.eq_false_iff.2 hA,Bool.and_false])⟩,rfl,rfl,trivial⟩),?_⟩
   refine⟨cellsX (rst.getD 1 w0),fun _=>hidx 1 (by omega),?_⟩
   refine⟨fun _=>⟨by decide,by rw[hln];omega,Int.le_refl _⟩,?_⟩
   intro hA
   have hel:∀ D,D=rows (rst.drop 2)→some (AO.row 86 6 (S.l++[tS (rst.getD 0 w0).text::(cellsX (rst.getD 1 w0)++[.sl 4 D])]))=some (AO.row 86 6 (S.l++[tS (rst.getD 0 w0).text::(cellsX (rst.getD 1 w0)++[encs (rst.drop 2)])])):=fun D h=>by rw[h];rfl
   exact⟨by show (S.l.length+1)*96≤_;omega,by show S.l.length+1≤maxLen;omega,trivial,(i+1,PS.mk (S.l++[tS (rst.getD 0 w0).text::(cellsX (rst.getD 1 w0)++[encs (rst.drop 2)])]) S.a S.e S.m S.b),Wk.sub ⟨slotI (wr1 hlt hclM),rfl,rfl,rfl,rfl,trivial⟩ ⟨rfl,hel _ hd2,rfl,rfl,rfl,rfl,rfl,trivial⟩,hnext _ hst (by rw[hcm,hc1,hA];rfl) (hup _ _ hb1) hq2 hq3 hq4 hq5,dec hlt⟩
  have f4:¬ H sLocal=true:=by rw[hE,show (hd.toList==sLocal.toList)=false from h1];simp
  rw[if_neg f4] at hcm hst
  refine⟨fun h1=>?_,fun h1=>?_⟩
  ·have h1:H sBlock=true:=by rw[hE];exact h1
   rw[if_pos h1] at hcm hst
   refine⟨want_ent,[],[],[.t (tB (decide (((((rows ks').take ((rows ks').length:Int).toNat).drop (Int.toNat 1)).length:Int)≥2)))],_,want_or _,rfl,rfl,trivial,fun r os' _ hv=>?_,fun r os' _ hv=>?_⟩
   rotate_left
   ·have hr:=(orP_pan hv).1;have hw:=(orP_pan hv).2
    exact⟨[],.inr ⟨congrArg SE.pan hr,hbadC (by rw[hcm,←hLG,Bool.eq_false_iff.2 hw];rfl)⟩,rfl,rfl,trivial⟩
   have hw3:=(orP_ret hv).2
   have hc1:lenGe rst 2=true:=by rw[←hLG];exact hw3
   have hl1:=lenGe_le (n:=2) hc1
   have hln:((((rows ks').take ((rows ks').length:Int).toNat).drop (Int.toNat 1)).length:Int)=(rst.length:Int):=by rw[hRR,rows_len]
   have hwl:IntKind.i64.wrap (((((rows ks').take ((rows ks').length:Int).toNat).drop (Int.toNat 1)).length:Int)-1)=((rst.length-1:Nat):Int):=by rw[hln,wr (by omega) (by omega)];omega
   have hcd:((((rows ks').take ((rows ks').length:Int).toNat).drop (Int.toNat 1)).take (IntKind.i64.wrap (((((rows ks').take ((rows ks').length:Int).toNat).drop (Int.toNat 1)).length:Int)-1)).toNat).drop (Int.toNat 1)=rows ((rst.take (rst.length-1)).drop 1):=by rw[hwl,hRR,Int.toNat_natCast,rows_take];exact rows_drop 1 _
   have hlast:(0:Int)≤IntKind.i64.wrap (((((rows ks').take ((rows ks').length:Int).toNat).drop (Int.toNat 1)).length:Int)-1)∧(((rows ks').take ((rows ks').length:Int).toNat).drop (Int.toNat 1))[(IntKind.i64.wrap (((((rows ks').take ((rows ks').length:Int).toNat).drop (Int.toNat 1)).length:Int)-1)).toNat]?=some (cellsX (rst.getD (rst.length-1) w0)):=by rw[hwl];exact hidx _ (by omega)
   have hbk:SC Tryz.prog 73 [] [.t (.agg (tS (rst.getD 0 w0).text::.sl 4 (((((rows ks').take ((rows ks').length:Int).toNat).drop (Int.toNat 1)).take (IntKind.i64.wrap (((((rows ks').take ((rows ks').length:Int).toNat).drop (Int.toNat 1)).length:Int)-1)).toNat).drop (Int.toNat 1))::cellsX (rst.getD (rst.length-1) w0)))] (orP (.tup []) (blockOK ((rst.take (rst.length-1)).drop 1) (rst.getD (rst.length-1) w0)=true)):=by
    rw[hcd,←cellsX_eq]
    refine readBlock_spec L _ _ _ ?_ (fun g hg=>hfr g (List.mem_of_mem_take (List.mem_of_mem_drop hg))) ?_
    ·rw[List.length_drop,List.length_take];omega
    ·simp only[List.getD,List.getElem?_eq_getElem (show rst.length-1<rst.length by omega),Option.getD_some];exact hfr _ (List.getElem_mem _)
   refine⟨cellsX (rst.getD 0 w0),fun _=>hidx 0 (by omega),?_⟩
   refine⟨name_ent,tS (rst.getD 0 w0).text,isNm (rst.getD 0 w0)=true,orX (name_specX L (rst.getD 0 w0)) (fun hA=>⟨rfl,[],.inr ⟨rfl,hbadC (by rw[hcm,Bool.eq_false_iff.2 hA,Bool.and_false];rfl)⟩,rfl,rfl,trivial⟩),?_⟩
   refine⟨fun _=>trivial,?_⟩
   refine⟨fun _=>⟨by decide,?_,?_⟩,?_⟩
   ·rw[hwl];show (1:Int)≤_;omega
   ·rw[hwl,hln];omega
   refine⟨fun _=>trivial,?_⟩
   refine⟨cellsX (rst.getD (rst.length-1) w0),fun _=>hlast,?_⟩
   intro hA
   refine⟨readBlock_ent,[],[],_,_,hbk,rfl,rfl,trivial,fun r os' _ hv=>?_,fun r os' _ hv=>?_⟩
   ·have hw8:=(orP_ret hv).2
    have hel:∀ D,D=rows ((rst.take (rst.length-1)).drop 1)→some (AO.row 94 6 (S.b++[tS (rst.getD 0 w0).text::.sl 4 D::cellsX (rst.getD (rst.length-1) w0)]))=some (AO.row 94 6 (S.b++[tS (rst.getD 0 w0).text::encs ((rst.take (rst.length-1)).drop 1)::cellsX (rst.getD (rst.length-1) w0)])):=fun D h=>by rw[h];rfl
    exact⟨by show (S.b.length+1)*96≤_;omega,by show S.b.length+1≤maxLen;omega,trivial,(i+1,PS.mk S.l S.a S.e S.m (S.b++[tS (rst.getD 0 w0).text::encs ((rst.take (rst.length-1)).drop 1)::cellsX (rst.getD (rst.length-1) w0)])),Wk.sub ⟨slotI (wr1 hlt hclM),rfl,rfl,rfl,rfl,trivial⟩ ⟨rfl,rfl,rfl,rfl,rfl,hel _ hcd,rfl,trivial⟩,hnext _ hst (by rw[hcm,hc1,hA,hw8];rfl) hq1 hq2 hq3 hq4 (hup _ _ hb5),dec hlt⟩
   ·have hr:=(orP_pan hv).1;have hw:=(orP_pan hv).2
    exact⟨[],.inr ⟨congrArg SE.pan hr,hbadC (by rw[hcm,Bool.eq_false_iff.2 hw,Bool.and_false])⟩,rfl,rfl,trivial⟩
  have f5:¬ H sBlock=true:=by rw[hE,show (hd.toList==sBlock.toList)=false from h1];simp
  rw[if_neg f5] at hcm hst
  refine⟨want_ent,[],[],[.t (tB (false))],_,want_or _,rfl,rfl,trivial,fun r os' _ hv=>?_,fun r os' _ hv=>?_⟩
  ·exact Bool.noConfusion (orP_ret hv).2
  ·have hr:=(orP_pan hv).1;have hw:=(orP_pan hv).2
   exact⟨[],.inr ⟨congrArg SE.pan hr,hbadC hcm⟩,rfl,rfl,trivial⟩
 ·have hge:cls.length≤i:=geOf h
  have:i=cls.length:=Nat.le_antisymm hi hge
  rw[List.drop_eq_nil_of_le hge] at hR
  rw[List.take_of_length_le hge] at hS
  rw[←hS] at hpt
  exact⟨[],.inl ⟨congrArg SE.ret hpt.symm,hgood hR⟩,rfl,rfl,trivial⟩
end
section
def blkIs (s:ByteArray) (c:Fm):Bool:=(r0 c).text.toList==s.toList
theorem bIs_ent:Ent Tryz.prog 75:=fun a w=>Tryz.call75 a w
theorem bIs_spec (c:Fm) (s:ByteArray):PC Tryz.prog 75 [.agg (blkT c),.ptr [tS s]] (tB (blkIs s c)):=by
 unfold blkT blkIs
 generalize r0 c=q
 generalize cmdsOf c=l
 generalize finOf c=p
 refine PC.of_ok tok Tryz.func75 rfl (Nat.le_of_ble_eq_true rfl) (ev_sound ctx (own:=[]) _ _ _ ?_)
 exact rfl
theorem bIdx_ent:Ent Tryz.prog 74:=fun a w=>Tryz.call74 a w
theorem bIdx_spec (bs:List Fm) (hb:bs.length≤maxLen) (s:ByteArray):PC Tryz.prog 74 [.sl 6 (bs.map blkT),.fn 75 [.ptr [tS s]]] (tI (idxI (blkIs s) bs)):=by
 refine PC.of_ok tok Tryz.func74 rfl (Nat.le_of_ble_eq_true rfl) (ev_sound ctx (own:=[]) _ _ _ ?_)
 refine Ok.loop (st:=fun i:Nat=>⟨[(8,vi i),(7,vi bs.length),(1,.t (.fn 75 [.ptr [tS s]])),(0,.t (.sl 6 (bs.map blkT)))],[]⟩) (R:=fun i=>i≤bs.length∧∀ j (hj:j<bs.length),j<i→blkIs s bs[j]=false)
  (μ:=fun i=>bs.length-i) 0 (Wk.sub ⟨rfl,slotI (by simp),rfl,rfl,trivial⟩ trivial) ⟨Nat.zero_le _,fun j _ h=>absurd h (Nat.not_lt_zero j)⟩ ?_
 rintro i ⟨hi,hno⟩
 refine ev_sound ctx (own:=[]) _ _ _ ?_
 refine⟨fun h=>?_,fun h=>?_⟩
 ·have hlt:i<bs.length:=ltOf h
  have hsp:=bIs_spec bs[i] s
  refine⟨blkT bs[i],getM hlt,?_⟩
  refine⟨bIs_ent,.inl ⟨_,hsp,?_⟩⟩
  refine⟨fun h2=>toEq ?_,fun h2=>?_⟩
  ·rw[idxI_some hlt h2 hno];rfl
  ·exact⟨trivial,i+1,Wk.sub ⟨slotI (wr1 hlt hb),rfl,rfl,rfl,trivial⟩ trivial,⟨hlt,noHit hlt hno h2⟩,dec hlt⟩
 ·have hge:=geOf h
  refine toEq ?_
  rw[idxI_none fun j hj=>hno j hj (by omega)];rfl
def prC (cs:List TV) (bs:List Fm):List TV:=[cs.getD 0 (.v .nilFunc),cs.getD 1 (.v .nilFunc),cs.getD 2 (.v .nilFunc),cs.getD 3 (.v .nilFunc),cs.getD 4 (.v .nilFunc),cs.getD 5 (.v .nilFunc),cs.getD 6 (.v .nilFunc),.sl 6 (bs.map blkT)]
theorem pIndex_ent:Ent Tryz.prog 42:=fun a w=>Tryz.call42 a w
theorem pIndex_spec (cs:List TV) (bs:List Fm) (hb:bs.length≤maxLen) (s:ByteArray):PC Tryz.prog 42 [.ptr (prC cs bs),tS s] (tI (idxI (blkIs s) bs)):=by
 have hsp:=bIdx_spec bs hb s
 unfold prC
 generalize idxI (blkIs s) bs=n at hsp ⊢
 refine PC.of_ok tok Tryz.func42 rfl (Nat.le_of_ble_eq_true rfl) (ev_sound ctx (own:=[]) _ _ _ ?_)
 refine⟨bIdx_ent,.inl ⟨_,hsp,?_⟩⟩
 exact rfl
end
section
def blksOf (cs:List Fm):List Fm:=cs.filter fun c=>hEq c sBlock
def tgtsOf (b:Fm):List Fm:=(finOf b).kids.drop 1
def namedB (bs:List Fm):Bool:=bs.all fun b=>(tgtsOf b).all fun k=>decide (0≤idxI (blkIs k.text) bs)
def shapedB (f:Fm):Bool:=((pvalidB f&&hEq f sProc)&&procOK f)&&namedB (blksOf (f.kids.drop 4))
def formB (f:Fm):Bool:=(pvalidB f&&hEq f sProc)&&procOK f
def shErr (f:Fm):Int:=if formB f=true then 6 else 4
def EE (f:Fm) (e:Int):Prop:=e=shErr f
omit [Gm] in
theorem EE.ne {f:Fm} {e:Int} (h:EE f e):e≠0:=by
 unfold EE shErr at h
 subst h
 split <;> decide
omit [Gm] in
theorem hEq_ne {c:Fm} {s u:ByteArray} (h:hEq c s=true) (hn:(s.data.toList==u.data.toList)=false):hEq c u=false:=by
 unfold hEq at h ⊢
 rw[eq_of_beq h,ByteArray.toList_eq,ByteArray.toList_eq];exact hn
omit [Gm] in
theorem stepP_b (S:PS) (c:Fm):(stepP S c).b=if hEq c sBlock=true then S.b++[blkT c] else S.b:=by
 unfold stepP
 by_cases h:hEq c sBlock=true
 ·have h1:hEq c sRequires=false:=hEq_ne h (by decide)
  have h2:hEq c sEnsures=false:=hEq_ne h (by decide)
  have h3:hEq c sModifies=false:=hEq_ne h (by decide)
  have h4:hEq c sLocal=false:=hEq_ne h (by decide)
  rw[h1,h2,h3,h4,h];rfl
 ·rw[if_neg h,if_neg h]
  (repeat' split) <;> rfl
omit [Gm] in
theorem restP_b:∀ (cs:List Fm) (S:PS),(cs.foldl stepP S).b=S.b++(blksOf cs).map blkT
 | [],S=>by simp[blksOf]
 | c::cs,S=>by
  rw[List.foldl_cons,restP_b cs,stepP_b]
  unfold blksOf
  by_cases h:hEq c sBlock=true
  ·rw[if_pos h,List.filter_cons_of_pos (p:=fun c=>hEq c sBlock) h];simp
  ·rw[if_neg h,List.filter_cons_of_neg (p:=fun c=>hEq c sBlock) h]
omit [Gm] in
theorem restP_blks (cs:List Fm):(restP cs).b=(blksOf cs).map blkT:=by
 unfold restP;rw[restP_b];rfl
omit [Gm] in
theorem clsOK_all:∀ (cs:List Fm) (S:PS),clsOK S cs=true→∀ c∈cs,clKind c=true∧clauseOK c=true
 | c::cs,S,h,d,hd=>by
  unfold clsOK at h
  simp only[Bool.and_eq_true] at h
  rcases List.mem_cons.1 hd with e | hd
  ·subst e;exact⟨h.1.1.1,h.1.2⟩
  ·exact clsOK_all cs _ h.2 d hd
omit [Gm] in
theorem endOK_kids {f:Fm} (h:endOK f=true):1≤f.kids.length:=by
 unfold endOK at h
 have one:∀ s:ByteArray,0<s.size→hEq f s=true→1≤f.kids.length:=fun s hs h=>by
  obtain⟨a,r,e⟩:=(head_kids hs h).2
  rw[e];simp
 split at h
 ·rename_i h1;exact one sGoto (by decide) h1
 ·split at h
  ·rename_i h1;exact one sReturn (by decide) h1
  ·cases h
omit [Gm] in
theorem clause_blk {c:Fm} (h:clauseOK c=true) (hb:hEq c sBlock=true):lenGe (restOf c) 2=true∧isNm (r0 c)=true∧cmdsOK true (cmdsOf c)=true∧endOK (finOf c)=true:=by
 unfold clauseOK at h
 rw[hEq_ne hb (show (sBlock.data.toList==sRequires.data.toList)=false by decide),hEq_ne hb (show (sBlock.data.toList==sEnsures.data.toList)=false by decide),hEq_ne hb (show (sBlock.data.toList==sModifies.data.toList)=false by decide),hEq_ne hb (show (sBlock.data.toList==sLocal.data.toList)=false by decide),hb] at h
 simp only[Bool.false_eq_true,if_false,if_true,Bool.and_eq_true] at h
 unfold blockOK at h
 rw[Bool.and_eq_true] at h
 exact⟨h.1.1,h.1.2,h.2.1,h.2.2⟩
omit [Gm] in
theorem mem_blks {cs:List Fm} {b:Fm} (h:b∈blksOf cs):b∈cs∧hEq b sBlock=true:=by
 unfold blksOf at h
 exact List.mem_filter.1 h
omit [Gm] in
theorem procOK_cls {f:Fm} (h:procOK f=true):4≤f.kids.length∧isNm (f.kids.getD 1 w0)=true∧varsOK (f.kids.getD 2 w0)=true∧varsOK (f.kids.getD 3 w0)=true∧clsOK ⟨[],[],[],[],[]⟩ (f.kids.drop 4)=true:=by
 unfold procOK at h
 simp only[Bool.and_eq_true] at h
 exact⟨lenGe_le (n:=4) h.1.1,h.1.2.1.1,h.1.2.1.2,h.1.2.2,h.2⟩
omit [Gm] in
theorem fin_kids {f:Fm} (h:procOK f=true) {b:Fm} (hb:b∈blksOf (f.kids.drop 4)):1≤(finOf b).kids.length:=by
 have h1:=mem_blks hb
 exact endOK_kids (clause_blk (clsOK_all _ _ (procOK_cls h).2.2.2.2 b h1.1).2 h1.2).2.2.2
omit [Gm] in
theorem fit_fin {b:Fm} (h:Fit b) (hk:1≤(finOf b).kids.length):Fit (finOf b):=by
 cases h with
 | @mk k n t ks _ _ _ h =>
 unfold finOf restOf at *
 simp only[Fm.kids] at hk ⊢
 generalize hq:(ks.drop 1).length-1=j at hk ⊢
 by_cases hj:j<(ks.drop 1).length
 ·simp only[List.getD,List.getElem?_eq_getElem hj,Option.getD_some]
  exact h _ (List.mem_of_mem_drop (List.getElem_mem hj))
 ·have h0:(ks.drop 1)[j]?=none:=List.getElem?_eq_none (by omega)
  have:(ks.drop 1).getD j w0=w0:=by simp only[List.getD,h0,Option.getD_none]
  rw[this] at hk
  simp[w0,wd] at hk
def Low (f:Fm):Prop:=f.kind=3→f.kids.length≤1000000∧∀ c∈f.kids,c.kind=3→c.kids.length≤1000000
def zero8:List TV:=[tS ⟨#[]⟩,.v (.slice none 0 0),.v (.slice none 0 0),.v (.slice none 0 0),.v (.slice none 0 0),.v (.slice none 0 0),.v (.slice none 0 0),.v (.slice none 0 0)]
def pr8 (cs:List TV):List TV:=[cs.getD 0 (tI 0),cs.getD 1 (tI 0),cs.getD 2 (tI 0),cs.getD 3 (tI 0),cs.getD 4 (tI 0),cs.getD 5 (tI 0),cs.getD 6 (tI 0),cs.getD 7 (tI 0)]
def fc (f:Fm):List AV:=[.t (tI f.kind),.t (tI f.num),.t (tS f.text),.t (encs f.kids)]
def shR (f:Fm) (x:SE) (os':List AO):Prop :=
 (x=.ret (.tup [])∧shapedB f=true∧∃ cs,os'=[.var (fc f),.var ((prC cs (blksOf (f.kids.drop 4))).map .t)]) ∨
 (∃ e,x=.pan (fault e)∧EE f e∧¬ shapedB f=true∧∃ cs,os'=[.var (fc f),.var ((pr8 cs).map .t)])
omit [Gm] in
theorem procT_prC (f:Fm):∃ cs,procT f=.agg (prC cs (blksOf (f.kids.drop 4))):=by
 refine⟨[tS (f.kids.getD 1 w0).text,varsT (f.kids.getD 2 w0),varsT (f.kids.getD 3 w0),.sl 6 (restP (f.kids.drop 4)).l,.sl 4 (restP (f.kids.drop 4)).a,.sl 4 (restP (f.kids.drop 4)).e,.sl 1 (restP (f.kids.drop 4)).m],?_⟩
 unfold procT prC
 rw[restP_blks];rfl
theorem readProc_specX (L:LF) (f:Fm) (hf:Fit f) (hk:f.kids.length≤1000000) (hkk:∀ c∈f.kids,c.kind=3→c.kids.length≤1000000) :
  ∃ cs,SC Tryz.prog 41 [] [.t f.enc] (orP (.agg (prC cs (blksOf (f.kids.drop 4)))) (procOK f=true)):=by
 obtain⟨cs,h⟩:=procT_prC f
 exact⟨cs,h ▸ readProc_spec L f hf hk hkk⟩
theorem shaped1_ent:Ent Tryz.prog 37:=fun a w=>Tryz.call37 a w
theorem shaped1_spec (L:LF) (f:Fm) (hf:Fit f) (hlow:Low f):SC Tryz.prog 37 [.var (fc f),.var (zero8.map .t)] [.ptr 1000 0,.ptr 1001 0] (shR f):=by
 have hpv:=pvalid_spec L f hf
 have hhd:=head_spec f
 have hsh:shapedB f=(((pvalidB f&&hEq f sProc)&&procOK f)&&namedB (blksOf (f.kids.drop 4))):=rfl
 have hse:shErr f=if ((pvalidB f&&hEq f sProc)&&procOK f)=true then 6 else 4:=rfl
 have hE:hEq f sProc=((headOf f).toList==sProc.toList):=rfl
 have hrp:hEq f sProc=true→∃ cs,SC Tryz.prog 41 [] [.t f.enc] (orP (.agg (prC cs (blksOf (f.kids.drop 4)))) (procOK f=true)):=fun h =>
  have h3:=(head_kids (s:=sProc) (by decide) h).1
  readProc_specX L f hf (hlow h3).1 (hlow h3).2
 have hfk:procOK f=true→∀ b∈blksOf (f.kids.drop 4),1≤(finOf b).kids.length:=fun h b hb=>fin_kids h hb
 have hff:procOK f=true→∀ b∈blksOf (f.kids.drop 4),Fit (finOf b):=fun h b hb=>by
  refine fit_fin ?_ (fin_kids h hb)
  have:=List.mem_of_mem_drop (mem_blks hb).1
  cases hf with
  | mk _ _ _ hq=>exact hq b this
 have hbl:hEq f sProc=true→(blksOf (f.kids.drop 4)).length≤1000000:=fun h=>by
  have h3:=(hlow (head_kids (s:=sProc) (by decide) h).1).1
  have h1:(blksOf (f.kids.drop 4)).length≤(f.kids.drop 4).length:=List.length_filter_le _ _
  rw[List.length_drop] at h1;omega
 unfold shR
 have hfc:fc f=fc f:=rfl
 conv at hfc=>rhs;unfold fc
 have hen:f.enc=.agg [tI f.kind,tI f.num,tS f.text,encs f.kids]:=by cases f;rfl
 rw[hfc]
 rw[hen] at hpv hhd hrp
 generalize hbs:blksOf (f.kids.drop 4)=bs at hsh hrp hfk hff hbl ⊢
 generalize shapedB f=A at hsh ⊢
 generalize pvalidB f=V at hsh hse hpv
 generalize procOK f=PO at hsh hse hrp hfk hff
 rw[hE] at hsh hse hrp hbl
 generalize headOf f=hd at hsh hse hrp hhd hbl
 generalize f.kind=k at hpv hhd hrp ⊢
 generalize f.num=n at hpv hhd hrp ⊢
 generalize f.text=t at hpv hhd hrp ⊢
 generalize f.kids=ks at hpv hhd hrp ⊢
 refine SC.of_ok tok Tryz.func37 rfl (Nat.le_of_ble_eq_true rfl) (Nat.le_of_ble_eq_true rfl) (ev_sound ctx (own:=[9999,10038,10041,10043]) _ _ _ ?_)
 refine⟨pvalid_ent,.inl ⟨_,hpv,?_⟩⟩
 refine⟨head_ent,_,fun _=>hhd,?_⟩
 refine⟨want_ent,[],[],[.t (tB (V&&(hd.toList==sProc.toList)))],_,want_or _,rfl,rfl,trivial,fun r os' _ hv=>?_,fun r os' _ hv=>?_⟩
 rotate_left
 ·have hr:=(orP_pan hv).1;have hw:=(orP_pan hv).2
  exact⟨_,.inr ⟨4,congrArg SE.pan hr,by unfold EE;rw[hse,Bool.eq_false_iff.2 hw];simp,by rw[hsh,Bool.eq_false_iff.2 hw];simp,zero8,rfl⟩,rfl,rfl,rfl,rfl,trivial⟩
 have hw1:=(orP_ret hv).2
 have hw2:=hw1
 rw[Bool.and_eq_true] at hw2
 have hrc:=(hrp hw2.2).choose_spec
 generalize (hrp hw2.2).choose=cs at hrc
 refine⟨readProc_ent,[],[],_,_,hrc,rfl,rfl,trivial,fun r os' _ hv=>?_,fun r os' _ hv=>?_⟩
 rotate_left
 ·have hr:=(orP_pan hv).1;have hw:=(orP_pan hv).2
  exact⟨_,.inr ⟨4,congrArg SE.pan hr,by unfold EE;rw[hse,Bool.eq_false_iff.2 hw];simp,by rw[hsh,Bool.eq_false_iff.2 hw];simp,zero8,rfl⟩,rfl,rfl,rfl,rfl,trivial⟩
 have hw3:=(orP_ret hv).2
 have hr:=(orP_ret hv).1
 clear hv
 subst hr
 have hbl:=hbl hw2.2
 have hfk:=hfk hw3
 have hff:=hff hw3
 have hA:A=namedB bs:=by rw[hsh,hw1,hw3];rfl
 have hnb:namedB bs=(bs.all fun b=>(tgtsOf b).all fun k=>decide (0≤idxI (blkIs k.text) bs)):=rfl
 have hpi:=fun s=>pIndex_spec cs bs (by simp only[maxLen];omega) s
 refine Ok.loop (st:=fun i:Nat=>⟨[(19,vi i),(18,vi bs.length),(17,.t (.sl 6 (bs.map blkT))),(1,.ptr 1001 0),(0,.ptr 1000 0)],[(1000,.var [.t (tI k),.t (tI n),.t (tS t),.t (encs ks)]),(1001,.var ((prC cs bs).map .t))]⟩)
  (R:=fun i=>i≤bs.length∧(bs.take i).all (fun b=>(tgtsOf b).all fun k=>decide (0≤idxI (blkIs k.text) bs))=true) (μ:=fun i=>bs.length-i) 0
  (Wk.sub ⟨rfl,slotI (by simp),rfl,rfl,rfl,trivial⟩ ⟨rfl,rfl,trivial⟩) ⟨Nat.zero_le _,rfl⟩ ?_
 rintro i ⟨hi,hall⟩
 have hi:i≤bs.length:=hi
 refine ev_sound ctx (own:=[9999,10038,10041,10043]) _ _ _ ?_
 refine⟨fun h=>?_,fun h=>?_⟩
 rotate_left
 ·have hge:bs.length≤i:=geOf h
  rw[List.take_of_length_le hge] at hall
  exact⟨_,.inl ⟨rfl,by rw[hA,hnb];exact hall,cs,rfl⟩,rfl,rfl,rfl,rfl,trivial⟩
 have hlt:i<bs.length:=ltOf h
 have hget:(0:Int)≤(i:Int)∧(bs.map blkT)[((i:Nat):Int).toNat]?=some (blkT bs[i]):=getM hlt
 have hmem:bs[i]∈bs:=List.getElem_mem hlt
 have hk1:=hfk _ hmem
 have hft:=hff _ hmem
 have htk:bs.take (i+1)=bs.take i++[bs[i]]:=by rw[List.take_add_one,List.getElem?_eq_getElem hlt];rfl
 have hbT:blkT bs[i]=[tS (r0 bs[i]).text,encs (cmdsOf bs[i]),tI (finOf bs[i]).kind,tI (finOf bs[i]).num,tS (finOf bs[i]).text,encs (finOf bs[i]).kids]:=rfl
 have htg:tgtsOf bs[i]=(finOf bs[i]).kids.drop 1:=rfl
 rw[hbT] at hget
 generalize bs[i]=b at hget hmem hk1 hft htk htg
 generalize htl:tgtsOf b=tl at htg
 generalize r0 b=rb at hget
 generalize cmdsOf b=cb at hget
 generalize finOf b=fb at hget htg hk1 hft
 cases hft with
 | @mk k' n' t' ks' hl' hb' ht' hks' =>
 have htg:tl=ks'.drop 1:=htg
 have hk1:1≤ks'.length:=hk1
 have htll:tl.length≤maxLen:=by rw[htg,List.length_drop];omega
 have hRR:((rows ks').take ((rows ks').length:Int).toNat).drop (Int.toNat 1)=rows tl:=by rw[Int.toNat_natCast,List.take_length,htg];exact rows_drop 1 ks'
 have hAb:(tl.all fun k=>decide (0≤idxI (blkIs k.text) bs))=false→¬ A=true:=fun h hh=>by
  rw[hA,hnb] at hh
  have:=List.all_eq_true.1 hh _ hmem
  rw[htl] at this
  exact Bool.noConfusion (this.symm.trans h)
 have hAn:(tl.all fun k=>decide (0≤idxI (blkIs k.text) bs))=true→(bs.take (i+1)).all (fun b=>(tgtsOf b).all fun k=>decide (0≤idxI (blkIs k.text) bs))=true:=fun h=>by
  rw[htk,List.all_append,hall]
  simp only[List.all_cons,List.all_nil,Bool.true_and,Bool.and_true]
  rw[htl];exact h
 refine⟨_,hget,?_⟩
 refine⟨⟨by decide,by show (1:Int)≤((rows ks').length:Int);rw[rows_len];omega,Int.le_refl _⟩,?_⟩
 refine Ok.loop (st:=fun j:Nat=>⟨[(28,vi j),(27,vi tl.length),(26,.t (encs tl)),(19,vi i),(18,vi bs.length),(17,.t (.sl 6 (bs.map blkT))),(1,.ptr 1001 0),(0,.ptr 1000 0)],[(1000,.var [.t (tI k),.t (tI n),.t (tS t),.t (encs ks)]),(1001,.var ((prC cs bs).map .t))]⟩)
  (R:=fun j=>j≤tl.length∧(tl.take j).all (fun k=>decide (0≤idxI (blkIs k.text) bs))=true) (μ:=fun j=>tl.length-j) 0
  (Wk.sub ⟨rfl,slotI (by rw[←rows_len tl,←hRR];rfl),slotT (by unfold encs;rw[←hRR];rfl),rfl,rfl,rfl,rfl,rfl,trivial⟩ ⟨rfl,rfl,trivial⟩) ⟨Nat.zero_le _,rfl⟩ ?_
 rintro j ⟨hj,hjall⟩
 have hj:j≤tl.length:=hj
 refine ev_sound ctx (own:=[9999,10038,10041,10043]) _ _ _ ?_
 refine⟨fun h=>?_,fun h=>?_⟩
 rotate_left
 ·have hge:tl.length≤j:=geOf h
  rw[List.take_of_length_le hge] at hjall
  exact⟨trivial,i+1,Wk.sub ⟨slotI (wr1 hlt (by simp only[maxLen];omega)),rfl,rfl,rfl,rfl,trivial⟩ ⟨rfl,rfl,trivial⟩,⟨hlt,hAn hjall⟩,dec hlt⟩
 have hltj:j<tl.length:=ltOf h
 have hgetj:=rows_get hltj
 have hmemj:tl[j]∈tl:=List.getElem_mem hltj
 have htkj:tl.take (j+1)=tl.take j++[tl[j]]:=by rw[List.take_add_one,List.getElem?_eq_getElem hltj];rfl
 rw[cellsX_eq] at hgetj
 generalize tl[j]=g at hgetj hmemj htkj
 have hpg:=hpi g.text
 have hix:decide (0≤idxI (blkIs g.text) bs)=decide (0≤idxI (blkIs g.text) bs):=rfl
 have hAg:(decide (0≤idxI (blkIs g.text) bs))=false→¬ A=true:=fun h=>hAb (by
  cases hq:tl.all fun k=>decide (0≤idxI (blkIs k.text) bs) with
  | false=>rfl
  | true=>exact Bool.noConfusion ((List.all_eq_true.1 hq _ hmemj).symm.trans h))
 have hjn:(decide (0≤idxI (blkIs g.text) bs))=true→(tl.take (j+1)).all (fun k=>decide (0≤idxI (blkIs k.text) bs))=true:=fun h=>by
  rw[htkj,List.all_append,hjall]
  simp only[List.all_cons,List.all_nil,Bool.true_and,Bool.and_true]
  exact h
 generalize idxI (blkIs g.text) bs=z at hpg hAg hjn
 refine⟨_,hgetj,?_⟩
 refine⟨pIndex_ent,.inl ⟨_,hpg,?_⟩⟩
 refine⟨fun h2=>?_,fun h2=>?_⟩
 ·have h2:z<0:=of_decide_eq_true h2
  refine⟨fail_ent,[],[],[.t (tI 6)],_,fail_spec 6,rfl,rfl,trivial,fun r os' _ h=>?_,fun r os' _ h=>?_⟩
  ·cases h
  ·exact⟨_,.inr ⟨6,h,by unfold EE;rw[hse,hw1,hw3];rfl,hAg (decide_eq_false (by omega)),prC cs bs,rfl⟩,rfl,rfl,rfl,rfl,trivial⟩
 ·have h2:¬ z<0:=of_decide_eq_false h2
  exact⟨trivial,j+1,Wk.sub ⟨slotI (wr1 hltj htll),rfl,rfl,rfl,rfl,rfl,rfl,rfl,trivial⟩ ⟨rfl,rfl,trivial⟩,⟨hltj,hjn (decide_eq_true (by omega))⟩,dec hltj⟩
end
end Go.Proofs.YtihbimigddlbaaaGreatDoor.L
end
noncomputable section
set_option linter.all false
namespace Go.Proofs.YtihbimigddlbaaaGreatDoor.L
open Go Go.RowKit
set_option maxRecDepth 100000
theorem catch_pan (p:Addr) (x e:Int) (older:List PanicEntry) (w:World) (hc:w.cell? p=some (.int .i64 x)) (hz:w.frozen? p=false) (hp:p.block<w.heap.size) :
  CallsD Tryz.prog 67 #[.pointer (some p)] (.panicking ({ v:=.iface 131 (.agg #[.int .i64 e]),recovered:=false }::older)) w fun en u' w' =>
   en=.returned (.tuple #[])∧u'=.panicking ({ v:=.iface 131 (.agg #[.int .i64 e]),recovered:=true }::older)∧w'=(w.alloc (.cells #[.int .i64 e] 131)).setCell p (.int .i64 e):=by
 have hta:∀ (w:World),(Instr.typeAssert (.iface 131 (.agg #[.int .i64 e])) 20 131 true).run Tryz.prog w=.ok (.tuple #[.agg #[.int .i64 e],.bool true]) w:=fun w=>by kernel_rfl
 refine callsD_of_wpS Tryz.func67 rfl fun c₀ cs hu=>?_
 apply wpS_seq
 apply wpS_region
 simp[wpOpsS,go_sem,recoverD,hu,Tryz.ntmps67,Exit.thenS]
 apply wpS_seq
 apply wpS_region
 simp[wpOpsS,go_sem,Exit.thenS]
 refine wpS_cond (t:=true) (by simp[Act.eval,Array.replicate]) ?_
 simp only[if_true]
 apply wpS_seq
 apply wpS_region
 simp[wpOpsS,go_sem,Exit.thenS,hta]
 apply wpS_seq
 apply wpS_seq
 apply wpS_region
 simp[wpOpsS,go_sem,Exit.thenS]
 refine wpS_cond (t:=false) (by simp[Act.eval,Array.replicate]) ?_
 simp only[Bool.false_eq_true,if_false]
 refine wpS_of_wp (wp_skip ?_)
 simp only[Exit.thenS]
 apply wpS_region
 have hb:∀ o:Obj,(w.alloc o).heap[p.block]?=w.heap[p.block]?:=fun o=>by
  simp only[World.alloc]
  rw[Array.getElem?_push_lt hp,Array.getElem?_eq_getElem hp]
 have hc':(w.alloc (.cells #[.int .i64 e] 131)).cell? p=some (.int .i64 x):=by rw[World.cell?_of_block (hb _)];exact hc
 have hz':(w.alloc (.cells #[.int .i64 e] 131)).frozen? p=false:=by
  have:(w.alloc (.cells #[.int .i64 e] 131)).frozen? p=w.frozen? p:=by unfold World.frozen?;rw[hb]
  rw[this];exact hz
 simp[wpOpsS,go_sem,Exit.thenS,hc',hz']
 cases c₀
 simp_all [bodyPostS,results,Tryz.results67]
end Go.Proofs.YtihbimigddlbaaaGreatDoor.L
namespace Go.Proofs.YtihbimigddlbaaaGreatDoor.L
open Go Go.RowKit Go.Proofs.YtihbimigddlbaaaGreatDoor.Pl
theorem catch_idle (p:Addr) (w:World) :
  CallsD Tryz.prog 67 #[.pointer (some p)] .returning w fun en u' w'=>en=.returned (.tuple #[])∧u'=.returning∧w'=w:=by
 refine callsD_of_wpS Tryz.func67 rfl fun c₀ cs hu=>?_
 apply wpS_seq
 apply wpS_region
 simp[wpOpsS,go_sem,recoverD,hu,Tryz.ntmps67,Exit.thenS]
 apply wpS_seq
 apply wpS_region
 simp[wpOpsS,go_sem,Exit.thenS]
 refine wpS_cond (t:=false) (by simp[Act.eval,Array.replicate]) ?_
 simp only[Bool.false_eq_true,if_false]
 refine wpS_of_wp (wp_skip ?_)
 cases c₀
 simp_all [bodyPostS,results,Tryz.results67]
variable [Gm]
omit [Gm] in
theorem set_read {w:World} {g:Nat} {x v:Value} {t:TypeId} (h:w.heap[g]?=some (.cells #[x] t (0,0))):(w.setCell ⟨g,0,none⟩ v).cell? ⟨g,0,none⟩=some v:=by
 obtain⟨hlt,he⟩:=Array.getElem?_eq_some_iff.1 h
 have h2:(w.setCell ⟨g,0,none⟩ v).heap[g]?=some (.cells #[v] t (0,0)):=by
  simp only[World.setCell]
  rw[Array.getElem?_eq_getElem (by simpa using hlt),Array.getElem_modify_self,he]
  rfl
 simp only[World.cell?,h2]
 rfl
theorem caught_walk {fdo:FuncId} {cus:Array Value} {w:World} {A:Ending→World→Prop} {R:Ending→World→Prop}
  (hent:Ent Tryz.prog fdo) (hdo:Calls Tryz.prog fdo cus (w.alloc (.cells #[.int .i64 0] 28)) A)
  (hret:∀ v w2,A (.returned v) w2→w2.heap[w.heap.size]?=some (.cells #[.int .i64 0] 28 (0,0))∧R (.returned (.int .i64 0)) (w2.setCell ⟨w.heap.size,0,none⟩ (.int .i64 0)))
  (hpan:∀ ch w2,A (.panicked ch) w2→∃ e,ch=[{ v:=.iface 131 (.agg #[.int .i64 e]),recovered:=false }]∧w2.heap[w.heap.size]?=some (.cells #[.int .i64 0] 28 (0,0))∧R (.returned (.int .i64 e)) ((w2.alloc (.cells #[.int .i64 e] 131)).setCell ⟨w.heap.size,0,none⟩ (.int .i64 e)))
  (hout:∀ w2,¬ A .outgrown w2):Calls Tryz.prog 36 #[.func (.func fdo) #[] cus] w R:=by
 have hmf:∀ (fn:Fn) (first cap:Array Value) (w:World),(Instr.makeFunc fn first cap).run Tryz.prog w=.ok (.func fn first cap) w:=fun _ _ _ _=>rfl
 refine calls_of_wp_defers Tryz.func36 rfl ?_
 simp only[Tryz.ntmps36]
 apply wp_seq
 apply wp_region
 simp[wpOps,go_sem,Exit.then]
 refine .inl ?_
 apply wp_seq
 apply wp_region
 simp[wpOps,go_sem,hmf,Exit.then]
 refine .inl ?_
 refine .inl ?_
 apply wp_seq
 apply wp_region
 simp[wpOps,go_sem,Exit.then]
 refine .inl (.inl ?_)
 rw[hent,Oper.upon_enter]
 refine hdo.mono ?_
 intro en w2 hA
 cases en with
 | returned v =>
  obtain⟨hb,hR⟩:=hret v w2 hA
  have hlt:=(Array.getElem?_eq_some_iff.1 hb).1
  have hc:w2.cell? ⟨w.heap.size,0,none⟩=some (.int .i64 0):=by simp[World.cell?,hb]
  have hz:w2.frozen? ⟨w.heap.size,0,none⟩=false:=by simp[World.frozen?,hb]
  simp only
  apply wp_seq
  apply wp_region
  simp[wpOps,go_sem,hc,hz,Exit.then,Act.put]
  refine .inl ?_
  refine wp_ret ?_
  simp only[bodyPostD]
  refine leaves_cons (f:=67) (args:=#[.pointer (some ⟨w.heap.size,0,none⟩)]) (by simp) (by simp[go_sem]) ?_
  refine (catch_idle ⟨w.heap.size,0,none⟩ _).mono ?_
  rintro e' u' w'' ⟨rfl,rfl,rfl⟩
  simp[Leaves,settle,results,Tryz.results36,go_sem]
  rw[set_read hb]
  exact⟨_,rfl,hR⟩
 | panicked ch =>
  obtain⟨e,rfl,hb,hR⟩:=hpan ch w2 hA
  have hlt:=(Array.getElem?_eq_some_iff.1 hb).1
  have hc:w2.cell? ⟨w.heap.size,0,none⟩=some (.int .i64 0):=by simp[World.cell?,hb]
  have hz:w2.frozen? ⟨w.heap.size,0,none⟩=false:=by simp[World.frozen?,hb]
  simp only[Exit.then,bodyPostD]
  refine leaves_cons (f:=67) (args:=#[.pointer (some ⟨w.heap.size,0,none⟩)]) (by simp) (by simp[go_sem]) ?_
  refine (catch_pan ⟨w.heap.size,0,none⟩ 0 e [] _ hc hz hlt).mono ?_
  rintro e' u' w'' ⟨rfl,rfl,rfl⟩
  simp[Leaves,settle,results,Tryz.results36,go_sem]
  have hb':(w2.alloc (.cells #[.int .i64 e] 131)).heap[w.heap.size]?=some (.cells #[.int .i64 0] 28 (0,0)):=by
   simp only[World.alloc]
   rw[Array.getElem?_push_lt hlt,←Array.getElem?_eq_getElem hlt];exact hb
  rw[set_read hb']
  exact⟨_,rfl,hR⟩
 | outgrown=>exact (hout w2 hA).elim
theorem caught_spec {fdo:FuncId} {os:List AO} {caps:List AV} {R:SE→List AO→Prop} (hent:Ent Tryz.prog fdo) (h:SC Tryz.prog fdo os caps R) (hpan:∀ r os',R (.pan r) os'→∃ e,r=.iface 131 (.agg [.v (.int .i64 e)])) :
  SC Tryz.prog 36 os [.fn fdo caps] (fun x os'=>(x=.ret (.v (.int .i64 0))∧∃ r,R (.ret r) os')∨∃ e,x=.ret (.v (.int .i64 e))∧R (.pan (.iface 131 (.agg [.v (.int .i64 e)]))) os'):=by
 intro B0 F0 w m kk us H hF hr
 simp only[AV.relL,AV.rel] at hr
 obtain⟨u,us',rfl,⟨cus,rfl,hcr⟩,rfl⟩:=hr
 have hsz:=H.newB
 generalize hg:w.heap.size=g
 have hB1:∀ b,(B0 b∧b≠g)→B0 b:=fun b h=>h.1
 have hold:∀ b,b<w.heap.size→(w.alloc (.cells #[.int .i64 0] 28)).heap[b]?=w.heap[b]?:=fun b hb=>by
  simp only[World.alloc]
  rw[Array.getElem?_push_lt hb,Array.getElem?_eq_getElem hb]
 have hnew:(w.alloc (.cells #[.int .i64 0] 28)).heap[g]?=some (.cells #[.int .i64 0] 28 (0,0)):=by
  subst hg
  simp only[World.alloc]
  rw[Array.getElem?_push_size]
 have hk:Keeps w (Fc F0 B0 (lab 1000 os) m) (w.alloc (.cells #[.int .i64 0] 28)) (Fc F0 (fun b=>B0 b∧b≠g) (lab 1000 os) m):=fun b hb hlt =>
  ⟨⟨hb.1.imp id (fun h=>⟨h,by omega⟩),hb.2⟩,hold b hlt⟩
 have hsize:(w.alloc (.cells #[.int .i64 0] 28)).heap.size=g+1:=by simp only[World.alloc,Array.size_push,hg]
 have H1:Heap (fun b=>B0 b∧b≠g) F0 (w.alloc (.cells #[.int .i64 0] 28)) (lab 1000 os) m kk (w.alloc (.cells #[.int .i64 0] 28)):=by
  refine⟨fun b hb=>⟨hsz b (by omega),by omega⟩,⟨rfl,rfl,rfl,Nat.le_refl _,fun _ _ _=>rfl⟩,fun w' hk'=>?_,fun l o hl=>?_,H.dj⟩
  ·refine H.gm w' ⟨hk'.os,hk'.tape,hk'.output,by have:=hk'.size;omega,fun b hb hno=>?_⟩
   rw[hk'.block b (by omega) (fun h=>hno h.1),hold b hb]
  ·have h0:=H.ob l o hl
   have h1:=AO.rel_keep hk (fun b hb=>hold b (AO.blk_lt h0 hb).2) h0
   exact AO.rel_sub (keeps_mono fun _ h=>h) (fun b hb=>⟨(AO.blk_lt h0 hb).1,by have:=(AO.blk_lt h0 hb).2;omega⟩) h1
 have hdo:=h _ F0 _ m kk cus H1 (fun b hb=>by have:=hF b hb;omega) (AV.relL_same hk _ _ hcr)
 have fin:∀ (w2 w3:World) (os':List AO),Heap (fun b=>B0 b∧b≠g) F0 (w.alloc (.cells #[.int .i64 0] 28)) (lab 1000 os') m kk w2→w3.os=w2.os→w3.tape=w2.tape→w3.output=w2.output→w2.heap.size≤w3.heap.size →
   (∀ b,b<w2.heap.size→b≠g→w3.heap[b]?=w2.heap[b]?)→Heap B0 F0 w (lab 1000 os') m kk w3:=by
  intro w2 w3 os' H2 h1 h2 h3 h4 h5
  have hsz2:=H2.below.size
  refine⟨fun b hb=>H.base b hb,⟨h1.trans H2.below.os,h2.trans H2.below.tape,h3.trans H2.below.output,by omega,fun b hb hno=>?_⟩,H.gm,fun l o hl=>?_,H2.dj⟩
  ·rw[h5 b (by omega) (by omega),H2.below.block b (by omega) (fun h=>hno h.1),hold b hb]
  ·have h0:=H2.ob l o hl
   have hk3:Keeps w2 (Fc F0 (fun b=>B0 b∧b≠g) (lab 1000 os') m) w3 (Fc F0 B0 (lab 1000 os') m):=fun b hb hlt=>by
    have hne:b≠g:=by
     intro e
     rcases hb.1 with h | h
     ·have:=hF b h;omega
     ·exact h.2 e
    exact⟨⟨hb.1.imp id (fun h=>h.1),hb.2⟩,h5 b hlt hne⟩
   have h1:=AO.rel_keep hk3 (fun b hb=>h5 b (AO.blk_lt h0 hb).2 (AO.blk_lt h0 hb).1.2) h0
   exact AO.rel_sub (keeps_mono fun _ h=>h) (fun b hb=>(AO.blk_lt h0 hb).1.1) h1
 have hkeep:∀ (w2:World) (os':List AO),Heap (fun b=>B0 b∧b≠g) F0 (w.alloc (.cells #[.int .i64 0] 28)) (lab 1000 os') m kk w2→w2.heap[g]?=some (.cells #[.int .i64 0] 28 (0,0)):=fun w2 os' H2=>by
  rw[H2.below.block g (by omega) (fun h=>h.2 rfl)];exact hnew
 have hset:∀ (w2:World) (v:Value) (b:Nat),b≠g→(w2.setCell ⟨g,0,none⟩ v).heap[b]?=w2.heap[b]?:=fun w2 v b hb=>by
  simp only[World.setCell]
  rw[Array.getElem?_modify,if_neg (fun e=>hb e.symm)]
 subst hg
 refine caught_walk hent hdo ?_ ?_ ?_
 ·rintro v w2 ⟨x,os',hR,hl,H2,hfit⟩
  cases x with
  | pan r=>obtain⟨_,h1,_⟩:=hfit;cases h1
  | ret r =>
   refine⟨hkeep w2 os' H2,.ret (.v (.int .i64 0)),os',.inl ⟨rfl,r,hR⟩,hl,fin w2 _ os' H2 rfl rfl rfl (by simp[World.setCell]) (fun b _ hb=>hset w2 _ b hb),_,rfl,?_⟩
   simp only[TV.rel];exact⟨trivial,rfl⟩
 ·rintro ch w2 ⟨x,os',hR,hl,H2,hfit⟩
  cases x with
  | ret r=>obtain⟨_,h1,_⟩:=hfit;cases h1
  | pan r =>
   obtain⟨v,h1,h2⟩:=hfit
   injection h1 with h1
   obtain⟨e,rfl⟩:=hpan r os' hR
   simp only[TV.rel,TV.relL] at h2
   obtain⟨u,rfl,us,rfl,⟨u1,us1,rfl,⟨rfl,_⟩,rfl⟩,_⟩:=h2
   have hw2:=(Array.getElem?_eq_some_iff.1 (hkeep w2 os' H2)).1
   refine⟨e,h1,hkeep w2 os' H2,.ret (.v (.int .i64 e)),os',.inr ⟨e,rfl,hR⟩,hl,fin w2 _ os' H2 rfl rfl rfl (by simp only[World.setCell,World.alloc,Array.size_modify,Array.size_push];omega) (fun b hb hbg=>?_),_,rfl,?_⟩
   ·rw[hset _ _ b hbg]
    simp only[World.alloc]
    rw[Array.getElem?_push_lt hb,Array.getElem?_eq_getElem hb]
   ·simp only[TV.rel];exact⟨trivial,rfl⟩
 ·rintro w2 ⟨x,os',hR,hl,H2,hfit⟩
  cases x with
  | ret r=>obtain⟨_,h1,_⟩:=hfit;cases h1
  | pan r=>obtain⟨_,h1,_⟩:=hfit;cases h1
end Go.Proofs.YtihbimigddlbaaaGreatDoor.L
end
noncomputable section
set_option linter.all false
namespace Go.Proofs.YtihbimigddlbaaaGreatDoor.L
open Go Go.RowKit Go.Proofs.YtihbimigddlbaaaGreatDoor.Pl
variable [Gm]
set_option maxRecDepth 10000
section
def shpR (f:Fm) (x:SE) (_:List AO):Prop :=
 (∃ cs,x=.ret (.tup [.agg (prC cs (blksOf (f.kids.drop 4))),tI 0])∧shapedB f=true) ∨
 (∃ e cs,x=.ret (.tup [.agg (pr8 cs),tI e])∧EE f e∧¬ shapedB f=true)
theorem caught_ent:Ent Tryz.prog 36:=fun a w=>Tryz.call36 a w
theorem caughtSh (L:LF) (f:Fm) (hf:Fit f) (hlow:Low f):SC Tryz.prog 36 [.var (fc f),.var (zero8.map .t)] [.fn 37 [.ptr 1000 0,.ptr 1001 0]]
  (fun x os'=>(x=.ret (tI 0)∧shapedB f=true∧∃ cs,os'=[.var (fc f),.var ((prC cs (blksOf (f.kids.drop 4))).map .t)])∨∃ e,x=.ret (tI e)∧EE f e∧¬ shapedB f=true∧∃ cs,os'=[.var (fc f),.var ((pr8 cs).map .t)]):=by
 refine SC.mono ?_ (caught_spec shaped1_ent (shaped1_spec L f hf hlow) ?_)
 ·rintro x os' (⟨hx,r,h⟩ | ⟨e,hx,h⟩)
  ·rcases h with⟨_,h⟩ | ⟨e,h,_⟩
   ·exact .inl ⟨hx,h⟩
   ·cases h
  ·rcases h with⟨h,_⟩ | ⟨e',h,h2⟩
   ·cases h
   ·injection h with h
    unfold fault tI at h
    injection h with _ h
    injection h with h
    injection h with h
    injection h with h
    injection h with _ h
    subst h
    exact .inr ⟨e,hx,h2⟩
 ·rintro r os' (⟨h,_⟩ | ⟨e,h,_⟩)
  ·cases h
  ·injection h with h
   exact⟨e,h⟩
theorem shaped_ent:Ent Tryz.prog 19:=fun a w=>Tryz.call19 a w
theorem shaped_spec (L:LF) (f:Fm) (hf:Fit f) (hlow:Low f):SC Tryz.prog 19 [] [.t f.enc] (shpR f):=by
 have hc:=caughtSh L f hf hlow
 unfold shpR
 have hen:f.enc=.agg [tI f.kind,tI f.num,tS f.text,encs f.kids]:=by cases f;rfl
 have hfc:fc f=[.t (tI f.kind),.t (tI f.num),.t (tS f.text),.t (encs f.kids)]:=rfl
 rw[hfc] at hc
 rw[hen]
 generalize blksOf (f.kids.drop 4)=bs at hc ⊢
 generalize shapedB f=A at hc ⊢
 generalize f.kind=k at hc ⊢
 generalize f.num=n at hc ⊢
 generalize f.text=t at hc ⊢
 generalize f.kids=ks at hc ⊢
 refine SC.of_ok tok Tryz.func19 rfl (Nat.le_of_ble_eq_true rfl) (Nat.le_of_ble_eq_true rfl) (ev_sound ctx (own:=[]) _ _ _ ?_)
 refine⟨caught_ent,.inr (.inr (.inl ⟨[1,4],_,_,_,hc,rfl,rfl,⟨rfl,rfl,trivial⟩,fun r os' _ h=>?_,fun r os' _ h=>?_⟩))⟩
 ·rcases h with⟨h1,h2,cs,h3⟩ | ⟨e,h1,h2,h3,cs,h4⟩
  ·injection h1 with h1
   subst h1;subst h3
   exact⟨[],.inl ⟨cs,rfl,h2⟩,rfl,rfl,trivial⟩
  ·injection h1 with h1
   subst h1;subst h4
   exact⟨[],.inr ⟨e,cs,rfl,h2,h3⟩,rfl,rfl,trivial⟩
 ·rcases h with⟨h1,_⟩ | ⟨e,h1,_⟩ <;> cases h1
end
section
def tgtIx (bs:List Fm) (k:Fm):Nat:=(idxI (blkIs k.text) bs).toNat
def sucG (bs:List Fm):Gr:=bs.map fun b=>(tgtsOf b).map (tgtIx bs)
theorem psucc_ent:Ent Tryz.prog 20:=fun a w=>Tryz.call20 a w
theorem psucc_spec (cs:List TV) (bs:List Fm) (hb:bs.length≤1000000) (hfk:∀ b∈bs,1≤(finOf b).kids.length) (hff:∀ b∈bs,Fit (finOf b)) (hn:namedB bs=true) :
  PC Tryz.prog 20 [.ptr (prC cs bs)] (encG (sucG bs)):=by
 have hpi:=fun s=>pIndex_spec cs bs (by simp only[maxLen];omega) s
 have hG:sucG bs=bs.map (fun b=>(tgtsOf b).map (tgtIx bs)):=rfl
 have hbM:bs.length≤maxLen:=by simp only[maxLen];omega
 refine PC.of_ok tok Tryz.func20 rfl (Nat.le_of_ble_eq_true rfl) (ev_sound ctx (own:=[33,38]) _ _ _ ?_)
 refine Ok.loop (st:=fun i:Nat=>⟨[(14,vi i),(13,vi bs.length),(12,.t (.sl 6 (bs.map blkT))),(3,.sl 38),(0,.t (.ptr (prC cs bs)))],[(38,.row 32 1 ((sucG bs).take i |>.map fun l=>[encN l]))]⟩)
  (R:=fun i=>i≤bs.length) (μ:=fun i=>bs.length-i) 0
  ((Wk.nil 3 38 32 1 (by decide) rfl).trans (Wk.sub ⟨rfl,slotI (by simp),rfl,rfl,rfl,trivial⟩ ⟨rfl,trivial⟩)) (Nat.zero_le _) ?_
 rintro i hi
 have hi:i≤bs.length:=hi
 have hGl:(sucG bs).length=bs.length:=by rw[hG,List.length_map]
 refine ev_sound ctx (own:=[33,38]) _ _ _ ?_
 refine⟨fun h=>?_,fun h=>?_⟩
 rotate_left
 ·have hge:bs.length≤i:=geOf h
  refine toEq ?_
  rw[List.take_of_length_le (by omega)];rfl
 have hlt:i<bs.length:=ltOf h
 have hget:(0:Int)≤(i:Int)∧(bs.map blkT)[((i:Nat):Int).toNat]?=some (blkT bs[i]):=getM hlt
 have hmem:bs[i]∈bs:=List.getElem_mem hlt
 have hk1:=hfk _ hmem
 have hft:=hff _ hmem
 have htk:(sucG bs).take (i+1)=(sucG bs).take i++[(tgtsOf bs[i]).map (tgtIx bs)]:=by
  rw[hG,List.take_add_one,List.getElem?_eq_getElem (by rw[List.length_map];exact hlt),List.getElem_map];rfl
 have hall:(tgtsOf bs[i]).all (fun k=>decide (0≤idxI (blkIs k.text) bs))=true:=List.all_eq_true.1 hn _ hmem
 have hbT:blkT bs[i]=[tS (r0 bs[i]).text,encs (cmdsOf bs[i]),tI (finOf bs[i]).kind,tI (finOf bs[i]).num,tS (finOf bs[i]).text,encs (finOf bs[i]).kids]:=rfl
 have htg:tgtsOf bs[i]=(finOf bs[i]).kids.drop 1:=rfl
 rw[hbT] at hget
 generalize hsl:((sucG bs).take i).map (fun l=>[encN l])=rws
 have hrl:rws.length≤i:=by rw[←hsl,List.length_map,List.length_take];omega
 have hrn:rws++[[encN ((tgtsOf bs[i]).map (tgtIx bs))]]=((sucG bs).take (i+1)).map (fun l=>[encN l]):=by rw[htk,List.map_append,hsl];rfl
 clear htk
 generalize bs[i]=b at hget hmem hk1 hft htg hall hrn
 generalize htl:tgtsOf b=tl at htg hall hrn
 generalize r0 b=rb at hget
 generalize cmdsOf b=cb at hget
 generalize finOf b=fb at hget htg hk1 hft
 cases hft with
 | @mk k' n' t' ks' hl' hb' ht' hks' =>
 have htg:tl=ks'.drop 1:=htg
 have hk1:1≤ks'.length:=hk1
 have htll:tl.length≤maxLen:=by rw[htg,List.length_drop];omega
 have htlb:tl.length*56≤140737488355328:=by rw[htg,List.length_drop];omega
 have hRR:((rows ks').take ((rows ks').length:Int).toNat).drop (Int.toNat 1)=rows tl:=by rw[Int.toNat_natCast,List.take_length,htg];exact rows_drop 1 ks'
 refine⟨_,hget,?_⟩
 refine⟨⟨by decide,by show (1:Int)≤((rows ks').length:Int);rw[rows_len];omega,Int.le_refl _⟩,?_⟩
 refine Ok.loop (st:=fun j:Nat=>⟨[(23,vi j),(22,vi tl.length),(21,.t (encs tl)),(6,.sl 33),(14,vi i),(13,vi bs.length),(12,.t (.sl 6 (bs.map blkT))),(3,.sl 38),(0,.t (.ptr (prC cs bs)))],[(33,.row 3 1 ((tl.take j).map fun k=>cI (tgtIx bs k))),(38,.row 32 1 rws)]⟩)
  (R:=fun j=>j≤tl.length) (μ:=fun j=>tl.length-j) 0
  ((Wk.nil 6 33 3 1 (by decide) rfl).trans (Wk.sub ⟨rfl,slotI (by rw[←rows_len tl,←hRR];rfl),slotT (by unfold encs;rw[←hRR];rfl),rfl,rfl,rfl,rfl,rfl,rfl,trivial⟩ ⟨rfl,rfl,trivial⟩)) (Nat.zero_le _) ?_
 rintro j hj
 have hj:j≤tl.length:=hj
 refine ev_sound ctx (own:=[33,38]) _ _ _ ?_
 refine⟨fun h=>?_,fun h=>?_⟩
 rotate_left
 ·have hge:tl.length≤j:=geOf h
  have hlast:(tl.take j).map (fun k=>cI (tgtIx bs k))=(tl.map (tgtIx bs)).map fun x=>cI x:=by rw[List.take_of_length_le hge,List.map_map];rfl
  refine⟨by show (rws.length+1)*24≤_;omega,by show rws.length+1≤maxLen;simp only[maxLen];omega,trivial,i+1,Wk.sub ⟨slotI (wr1 hlt hbM),rfl,rfl,rfl,rfl,trivial⟩ ⟨congrArg (fun x=>some (AO.row 32 1 x)) ?_,trivial⟩,hlt,dec hlt⟩
  rw[←hrn]
  show rws++[[TV.sl 1 _]]=_
  unfold encN
  rw[hlast]
 have hltj:j<tl.length:=ltOf h
 have hgetj:=rows_get hltj
 have hmemj:tl[j]∈tl:=List.getElem_mem hltj
 have htkj:tl.take (j+1)=tl.take j++[tl[j]]:=by rw[List.take_add_one,List.getElem?_eq_getElem hltj];rfl
 rw[cellsX_eq] at hgetj
 generalize tl[j]=g at hgetj hmemj htkj
 have hpg:=hpi g.text
 have hpos:0≤idxI (blkIs g.text) bs:=of_decide_eq_true (List.all_eq_true.1 hall g hmemj)
 have hcell:[tI (idxI (blkIs g.text) bs)]=cI (tgtIx bs g):=by
  show [tI _]=[tI _]
  unfold tgtIx
  rw[Int.toNat_of_nonneg hpos]
 have hln:((tl.take j).map fun k=>cI (tgtIx bs k)).length=j:=by rw[List.length_map,List.length_take];omega
 have hfin:((tl.take j).map fun k=>cI (tgtIx bs k))++[[tI (idxI (blkIs g.text) bs)]]=(tl.take (j+1)).map fun k=>cI (tgtIx bs k):=by
  rw[htkj,List.map_append,hcell];rfl
 generalize idxI (blkIs g.text) bs=z at hpg hfin
 refine⟨_,hgetj,?_⟩
 refine⟨pIndex_ent,.inl ⟨_,hpg,?_⟩⟩
 exact⟨by show (((tl.take j).map fun k=>cI (tgtIx bs k)).length+1)*8≤_;rw[hln];omega,by show ((tl.take j).map fun k=>cI (tgtIx bs k)).length+1≤maxLen;rw[hln];omega,trivial,j+1,Wk.sub ⟨slotI (wr1 hltj htll),rfl,rfl,rfl,rfl,rfl,rfl,rfl,rfl,trivial⟩ ⟨congrArg (fun x=>some (AO.row 3 1 x)) hfin,rfl,trivial⟩,hltj,dec hltj⟩
end
section
def graphOf (f:Fm):Gr:=sucG (blksOf (f.kids.drop 4))
omit [Gm] in
theorem idxI_lt {α:Type} {p:α→Bool} {l:List α}:idxI p l<l.length∨l=[]:=by
 unfold idxI
 cases h:l.findIdx? p with
 | none =>
  cases l with
  | nil=>exact .inr rfl
  | cons a l=>left;simp;omega
 | some i =>
  left
  have:=List.findIdx?_eq_some_iff_getElem.1 h
  obtain⟨hi,_⟩:=this
  show (i:Int)<_
  omega
structure Pre (bs:List Fm):Prop where
 len:bs.length≤1000000
 kid:∀ b∈bs,1≤(finOf b).kids.length
 fit:∀ b∈bs,Fit (finOf b)
 nam:namedB bs=true
omit [Gm] in
theorem shaped_pre (f:Fm) (hf:Fit f) (hlow:Low f) (h:shapedB f=true):Pre (blksOf (f.kids.drop 4)):=by
 unfold shapedB at h
 simp only[Bool.and_eq_true] at h
 obtain⟨⟨⟨_,h2⟩,h3⟩,h4⟩:=h
 refine⟨?_,fun b hb=>fin_kids h3 hb,fun b hb=>?_,h4⟩
 ·have h5:=(hlow (head_kids (s:=sProc) (by decide) h2).1).1
  have h1:(blksOf (f.kids.drop 4)).length≤(f.kids.drop 4).length:=List.length_filter_le _ _
  rw[List.length_drop] at h1;omega
 ·refine fit_fin ?_ (fin_kids h3 hb)
  have:=List.mem_of_mem_drop (mem_blks hb).1
  cases hf with
  | mk _ _ _ hq=>exact hq b this
omit [Gm] in
theorem pre_gr {bs:List Fm} (h:Pre bs):GrOK (sucG bs):=by
 have hl:(sucG bs).length=bs.length:=by unfold sucG;rw[List.length_map]
 refine⟨?_,by have:=h.len;simp only[maxLen];omega,by have:=h.len;omega,?_⟩
 ·intro l hl' n hn
  obtain⟨b,hb,rfl⟩:=List.mem_map.1 hl'
  obtain⟨k,hk,rfl⟩:=List.mem_map.1 hn
  have h1:=List.all_eq_true.1 (List.all_eq_true.1 h.nam b hb) k hk
  have h1:0≤idxI (blkIs k.text) bs:=of_decide_eq_true h1
  unfold tgtIx
  rcases idxI_lt (p:=blkIs k.text) (l:=bs) with h2 | h2
  ·omega
  ·subst h2;simp at hb
 ·intro l hl'
  obtain⟨b,hb,rfl⟩:=List.mem_map.1 hl'
  have h1:=h.fit b hb
  generalize hq:finOf b=q at h1
  cases h1 with
  | @mk k n t ks hl _ _ _ =>
  unfold tgtsOf
  rw[List.length_map,hq,List.length_drop]
  show ks.length-1≤_
  omega
def nilT:TV:=.v (.slice none 0 0)
theorem psucc_specX (cs:List TV) {bs:List Fm} (h:Pre bs):PC Tryz.prog 20 [.ptr (prC cs bs)] (encG (sucG bs)):=psucc_spec cs bs h.len h.kid h.fit h.nam
def sucR (f:Fm) (x:SE) (_:List AO):Prop :=
 (x=.ret (.tup [encG (graphOf f),tI 0])∧shapedB f=true)∨(∃ e,x=.ret (.tup [nilT,tI e])∧EE f e∧¬ shapedB f=true)
theorem pSucc_ent:Ent Tryz.prog 6:=fun a w=>Tryz.call6 a w
theorem pSucc_spec (L:LF) (f:Fm) (hf:Fit f) (hlow:Low f):SC Tryz.prog 6 [] [.t f.enc] (sucR f):=by
 have hsp:=shaped_spec L f hf hlow
 have hpre:=shaped_pre f hf hlow
 unfold sucR graphOf
 unfold shpR at hsp
 have hen:f.enc=.agg [tI f.kind,tI f.num,tS f.text,encs f.kids]:=by cases f;rfl
 rw[hen] at hsp ⊢
 generalize blksOf (f.kids.drop 4)=bs at hsp hpre ⊢
 generalize shapedB f=A at hsp hpre ⊢
 generalize f.kind=k at hsp ⊢
 generalize f.num=n at hsp ⊢
 generalize f.text=t at hsp ⊢
 generalize f.kids=ks at hsp ⊢
 refine SC.of_ok tok Tryz.func6 rfl (Nat.le_of_ble_eq_true rfl) (Nat.le_of_ble_eq_true rfl) (ev_sound ctx (own:=[9999,10019]) _ _ _ ?_)
 refine⟨shaped_ent,[],[],_,_,hsp,rfl,rfl,trivial,fun r os' _ h=>?_,fun r os' _ h=>?_⟩
 ·rcases h with⟨cs,h1,h2⟩ | ⟨e,cs,h1,h2,h3⟩
  ·injection h1 with h1
   subst h1
   refine⟨fun h=>absurd h (by decide),fun _=>?_⟩
   refine⟨psucc_ent,.inl ⟨_,psucc_specX cs (hpre h2),?_⟩⟩
   exact⟨[],.inl ⟨rfl,h2⟩,rfl,rfl,trivial⟩
  ·injection h1 with h1
   subst h1
   refine⟨fun _=>?_,fun h=>?_⟩
   ·exact⟨[],.inr ⟨e,rfl,h2,h3⟩,rfl,rfl,trivial⟩
   ·have h:(e != 0)=false:=h
    exact absurd (by simpa using h) h2.ne
 ·rcases h with⟨cs,h1,_⟩ | ⟨e,cs,h1,_⟩ <;> cases h1
def lpsR (f:Fm) (x:SE) (_:List AO):Prop :=
 (x=.ret (.tup [encN (headsK (graphOf f)),tB (!circ (graphOf f) (headsK (graphOf f))),tI 0])∧shapedB f=true)∨(∃ e,x=.ret (.tup [nilT,tB false,tI e])∧EE f e∧¬ shapedB f=true)
theorem pLoops_ent:Ent Tryz.prog 9:=fun a w=>Tryz.call9 a w
theorem pLoops_spec (L:LF) (f:Fm) (hf:Fit f) (hlow:Low f):SC Tryz.prog 9 [] [.t f.enc] (lpsR f):=by
 have hsp:=shaped_spec L f hf hlow
 have hpre:=shaped_pre f hf hlow
 unfold lpsR graphOf
 unfold shpR at hsp
 have hen:f.enc=.agg [tI f.kind,tI f.num,tS f.text,encs f.kids]:=by cases f;rfl
 rw[hen] at hsp ⊢
 generalize blksOf (f.kids.drop 4)=bs at hsp hpre ⊢
 generalize shapedB f=A at hsp hpre ⊢
 generalize f.kind=k at hsp ⊢
 generalize f.num=n at hsp ⊢
 generalize f.text=t at hsp ⊢
 generalize f.kids=ks at hsp ⊢
 refine SC.of_ok tok Tryz.func9 rfl (Nat.le_of_ble_eq_true rfl) (Nat.le_of_ble_eq_true rfl) (ev_sound ctx (own:=[9999,10019]) _ _ _ ?_)
 refine⟨shaped_ent,[],[],_,_,hsp,rfl,rfl,trivial,fun r os' _ h=>?_,fun r os' _ h=>?_⟩
 ·rcases h with⟨cs,h1,h2⟩ | ⟨e,cs,h1,h2,h3⟩
  ·injection h1 with h1
   subst h1
   refine⟨fun h=>absurd h (by decide),fun _=>?_⟩
   have hp:=hpre h2
   have hg:=pre_gr hp
   have hsx:=psucc_specX cs hp
   generalize sucG bs=g at hg hsx ⊢
   have hh:=heads_spec g hg
   have hc:=circle_spec g hg (headsK g)
   refine⟨psucc_ent,.inl ⟨_,hsx,?_⟩⟩
   refine⟨heads_ent,.inl ⟨_,hh,?_⟩⟩
   refine⟨circle_ent,.inl ⟨_,hc,?_⟩⟩
   exact⟨[],.inl ⟨rfl,h2⟩,rfl,rfl,trivial⟩
  ·injection h1 with h1
   subst h1
   refine⟨fun _=>?_,fun h=>?_⟩
   ·exact⟨[],.inr ⟨e,rfl,h2,h3⟩,rfl,rfl,trivial⟩
   ·have h:(e != 0)=false:=h
    exact absurd (by simpa using h) h2.ne
 ·rcases h with⟨cs,h1,_⟩ | ⟨e,cs,h1,_⟩ <;> cases h1
end
section
theorem SC.pc {P:Program} {f:FuncId} {args:List TV} {r:TV} {R:SE→List AO→Prop} (h:SC P f [] (args.map .t) R) (hR:∀ x os',R x os'→x=.ret r):PC P f args r:=by
 intro w F us hg hF hr
 have hk:Keeps w F w (Fc F (fun g=>w.heap.size≤g) [] (fun _=>.nilFunc)):=keeps_mono fun b hb=>⟨.inl hb,fun l o h=>by simp[Pl.look] at h⟩
 refine (h (fun g=>w.heap.size≤g) F w (fun _=>.nilFunc) (fun _=>0) us
  ⟨fun _ h=>h,⟨rfl,rfl,rfl,Nat.le_refl _,fun _ _ _=>rfl⟩,fun w' hk=>Gm.keep _ _ hk hg,fun l o h=>by simp[lab,Pl.look] at h,fun l l' o o' h=>by simp[lab,Pl.look] at h⟩ hF
  (relL_map.1 (TV.relL_keep hk _ _ hr))).mono ?_
 rintro e w' ⟨x,os',hx,hl,H,hfit⟩
 have:=hR x os' hx
 subst this
 obtain⟨v,rfl,hv⟩:=hfit
 exact⟨v,rfl,H.below.to_below,TV.rel_keep (keeps_mono fun b hb=>hb.1) _ _ hv⟩
theorem lps_good (L:LF) (f:Fm) (hf:Fit f) (hlow:Low f) (hs:shapedB f=true):PC Tryz.prog 9 [f.enc] (.tup [encN (headsK (graphOf f)),tB (!circ (graphOf f) (headsK (graphOf f))),tI 0]) :=
 SC.pc (args:=[f.enc]) (pLoops_spec L f hf hlow) (fun x os' h=>by
  rcases h with⟨h,_⟩ | ⟨_,_,_,h⟩
  ·exact h
  ·exact absurd hs h)
theorem suc_good (L:LF) (f:Fm) (hf:Fit f) (hlow:Low f) (hs:shapedB f=true):PC Tryz.prog 6 [f.enc] (.tup [encG (graphOf f),tI 0]) :=
 SC.pc (args:=[f.enc]) (pSucc_spec L f hf hlow) (fun x os' h=>by
  rcases h with⟨h,_⟩ | ⟨_,_,_,h⟩
  ·exact h
  ·exact absurd hs h)
theorem lps_bad (L:LF) (f:Fm) (hf:Fit f) (hlow:Low f) (hs:¬ shapedB f=true):PC Tryz.prog 9 [f.enc] (.tup [nilT,tB false,tI (shErr f)]) :=
 SC.pc (args:=[f.enc]) (pLoops_spec L f hf hlow) (fun x os' h=>by
  rcases h with⟨_,h⟩ | ⟨e,h1,h2,_⟩
  ·exact absurd h hs
  ·have h2:e=shErr f:=h2
   rw[←h2];exact h1)
theorem suc_bad (L:LF) (f:Fm) (hf:Fit f) (hlow:Low f) (hs:¬ shapedB f=true):PC Tryz.prog 6 [f.enc] (.tup [nilT,tI (shErr f)]) :=
 SC.pc (args:=[f.enc]) (pSucc_spec L f hf hlow) (fun x os' h=>by
  rcases h with⟨_,h⟩ | ⟨e,h1,h2,_⟩
  ·exact absurd h hs
  ·have h2:e=shErr f:=h2
   rw[←h2];exact h1)
theorem f_enc (f:Fm):f.enc=.agg [tI f.kind,tI f.num,tS f.text,encs f.kids]:=by cases f;rfl
end
section
def rdT (c:Fm):List TV:=tS (c.kids.getD 1 w0).text::encs ((c.kids.take (c.kids.length-1)).drop 2)::cellsX (c.kids.getD (c.kids.length-1) w0)
end
section
def asgNames (c:Fm):List ByteArray :=
 if hEq c sAssign=true then [(c.kids.getD 1 w0).text]
 else if hEq c sHavoc=true then (c.kids.drop 1).map Fm.text
 else if hEq c sInvoke=true then (c.kids.getD 1 w0).kids.map Fm.text
 else []
end
end Go.Proofs.YtihbimigddlbaaaGreatDoor.L
end
