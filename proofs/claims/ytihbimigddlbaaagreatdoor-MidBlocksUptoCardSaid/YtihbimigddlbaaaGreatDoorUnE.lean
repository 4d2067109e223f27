/- A part of the proof: PmW1 PmW2 PmW3 PmW4 PmW5. -/
import Derived.Test.YtihbimigddlbaaaGreatDoorUnC
noncomputable section
set_option linter.all false
namespace Go.Proofs.YtihbimigddlbaaaGreatDoor.L
open Go Go.RowKit Go.Proofs.YtihbimigddlbaaaGreatDoor.Pl
variable [Gm]
set_option maxRecDepth 10000
section
omit [Gm] in
theorem fit_w0:Fit w0:=.mk (by decide) (by decide) (by decide) (fun g h=>by cases h)
omit [Gm] in
theorem fit_getD {ks:List Fm} (h:∀ g∈ks,Fit g) (n:Nat):Fit (ks.getD n w0):=by
 by_cases hn:n<ks.length
 ·simp only[List.getD,List.getElem?_eq_getElem hn,Option.getD_some];exact h _ (List.getElem_mem hn)
 ·simp only[List.getD,List.getElem?_eq_none (Nat.le_of_not_lt hn),Option.getD_none];exact fit_w0
theorem risName_specX (c:Fm) (hf:Fit c):PC Tryz.prog 78 [.agg (cellsX c)] (tB (isNm c)):=by rw[←cellsX_eq];exact risName_spec c hf
omit [Gm] in
theorem bool3 (a b c:Bool):((a&&b)&&c)=!((!a||!b)||!c):=by cases a <;> cases b <;> cases c <;> rfl
def rvT (c:Fm):List TV:=tS (c.kids.getD 0 w0).text::(cellsX (c.kids.getD 1 w0)++[tI 0,tI 0,tS ⟨#[]⟩,nilT,tB false])
def rvars (f:Fm):TV:=if varsOK f=true then .tup [.sl 10 (f.kids.map rvT),tB true] else .tup [nilT,tB false]
theorem rvars_ent:Ent Tryz.prog 79:=fun a w=>Tryz.call79 a w
theorem rvars_spec (f:Fm) (hf:Fit f) (hb2:f.kind=3→f.kids.length≤1000000):PC Tryz.prog 79 [f.enc] (rvars f):=by
 cases hf with
 | @mk k n t ks hl hb ht hks =>
 have hb2:k=3→ks.length≤1000000:=hb2
 have hT1:(k==3)=true→ks.all varOK=true→rvars (.mk k n t ks)=.tup [.sl 10 (ks.map rvT),tB true]:=fun h1 h2=>by
  unfold rvars
  rw[if_pos (by show ((k==3)&&ks.all varOK)=true;rw[h1,h2];rfl)];rfl
 have hT2:((k==3)&&ks.all varOK)=false→rvars (.mk k n t ks)=.tup [nilT,tB false]:=fun h1=>by
  unfold rvars
  rw[if_neg (by show ¬ ((k==3)&&ks.all varOK)=true;rw[h1];simp)]
 generalize rvars (.mk k n t ks)=T at hT1 hT2
 refine PC.of_ok tok Tryz.func79 rfl (Nat.le_of_ble_eq_true rfl) (ev_sound ctx (own:=[52]) _ _ _ ?_)
 refine⟨fun h=>?_,fun h=>?_⟩
 ·have h:(k==3)=false:=by have h:(k != 3)=true:=h;simpa using h
  exact toEq (hT2 (by rw[h];rfl)).symm
 have h3:(k==3)=true:=by have h:(k != 3)=false:=h;simpa using h
 have hb2:ks.length≤1000000:=hb2 (eq_of_beq h3)
 refine Ok.loop (st:=fun i:Nat=>⟨[(5,vi i),(4,.sl 52),(1,.ptr 1 0)],[(52,.row 188 10 ((ks.take i).map rvT)),(1,.var [.t (tI k),.t (tI n),.t (tS t),.t (encs ks)])]⟩)
  (R:=fun i=>i≤ks.length∧(ks.take i).all varOK=true) (μ:=fun i=>ks.length-i) 0
  ((Wk.nil 4 52 188 10 (by decide) rfl).trans (Wk.sub ⟨rfl,rfl,rfl,trivial⟩ ⟨rfl,rfl,trivial⟩)) ⟨Nat.zero_le _,rfl⟩ ?_
 rintro i ⟨hi,hall⟩
 have hi:i≤ks.length:=hi
 have hall:(ks.take i).all varOK=true:=hall
 refine ev_sound ctx (own:=[52]) _ _ _ ?_
 refine⟨fun h=>?_,fun h=>?_⟩
 rotate_left
 ·have hge:ks.length≤i:=geOf (by rw[←rows_len];exact h)
  rw[List.take_of_length_le hge] at hall
  refine toEq ?_
  rw[hT1 h3 hall,List.take_of_length_le hge];rfl
 have hlt:i<ks.length:=ltOf (by rw[←rows_len ks];exact h)
 have hget:=rows_get hlt
 have hmem:ks[i]∈ks:=List.getElem_mem hlt
 have hfg:=hks _ hmem
 have htk:ks.take (i+1)=ks.take i++[ks[i]]:=by rw[List.take_add_one,List.getElem?_eq_getElem hlt];rfl
 rw[cellsX_eq] at hget
 have hnx:varOK ks[i]=true→(ks.take (i+1)).all varOK=true:=fun h=>by rw[htk,List.all_append,hall];simp[h]
 have hbd:varOK ks[i]=false→T=.tup [nilT,tB false]:=fun h=>hT2 (by
  cases hq:ks.all varOK with
  | false=>rw[Bool.and_false]
  | true=>rw[List.all_eq_true.1 hq _ hmem] at h;cases h)
 have hrw:(ks.take i).map rvT++[tS (ks[i].kids.getD 0 w0).text::(cellsX (ks[i].kids.getD 1 w0)++[tI 0,tI 0,tS ⟨#[]⟩,nilT,tB false])]=(ks.take (i+1)).map rvT:=by rw[htk,List.map_append];rfl
 have hln:((ks.take i).map rvT).length=i:=by rw[List.length_map,List.length_take];omega
 generalize ks[i]=c at hget hfg hnx hbd hrw
 cases hfg with
 | @mk k' n' t' ks' hl' hb' ht' hks' =>
 have hat:∀ n,n<ks'.length→(0:Int)≤(n:Int)∧(rows ks')[((n:Nat):Int).toNat]?=some (cellsX (ks'.getD n w0)):=fun n h=>rows_atX h
 have hvo:varOK (.mk k' n' t' ks')=(((k'==3)&&lenIs ks' 2)&&isNm (ks'.getD 0 w0)):=rfl
 have hnm:=risName_specX (ks'.getD 0 w0) (fit_getD hks' 0)
 refine⟨_,hget,?_⟩
 refine⟨_,hget,?_⟩
 refine⟨cellsX (ks'.getD 0 w0),fun hG=>hat 0 ?_,?_⟩
 ·have hG:((k' != 3)||(((rows ks').length:Int) != 2))=false:=hG
  rw[rows_len] at hG
  simp at hG
  omega
 refine⟨risName_ent,_,fun _=>hnm,?_⟩
 refine⟨fun h=>?_,fun h=>?_⟩
 ·have h:(((k' != 3)||(((rows ks').length:Int) != 2))||!isNm (ks'.getD 0 w0))=true:=h
  have hneg:varOK (.mk k' n' t' ks')=!(((k' != 3)||(((rows ks').length:Int) != 2))||!isNm (ks'.getD 0 w0)):=by
   rw[hvo];exact bool3 _ _ _
  exact toEq (hbd (by rw[hneg,h];rfl)).symm
 ·have h:(((k' != 3)||(((rows ks').length:Int) != 2))||!isNm (ks'.getD 0 w0))=false:=h
  have hneg:varOK (.mk k' n' t' ks')=!(((k' != 3)||(((rows ks').length:Int) != 2))||!isNm (ks'.getD 0 w0)):=by
   rw[hvo];exact bool3 _ _ _
  have hv:varOK (.mk k' n' t' ks')=true:=by rw[hneg,h];rfl
  have hl2:2≤ks'.length:=by
   rw[hvo] at hv
   simp only[Bool.and_eq_true] at hv
   have:=lenIs_eq (n:=2) hv.1.2;omega
  have hrw:(ks.take i).map rvT++[tS (ks'.getD 0 w0).text::(cellsX (ks'.getD 1 w0)++[tI 0,tI 0,tS ⟨#[]⟩,nilT,tB false])]=(ks.take (i+1)).map rvT:=hrw
  refine⟨cellsX (ks'.getD 0 w0),fun _=>hat 0 (by omega),?_⟩
  refine⟨cellsX (ks'.getD 1 w0),fun _=>hat 1 (by omega),?_⟩
  exact⟨by show (((ks.take i).map rvT).length+1)*136≤_;rw[hln];omega,by show ((ks.take i).map rvT).length+1≤maxLen;rw[hln];simp only[maxLen];omega,trivial,i+1,Wk.sub ⟨slotI (wr1 hlt hl),rfl,rfl,trivial⟩ ⟨congrArg (fun x=>some (AO.row 188 10 x)) hrw,rfl,trivial⟩,⟨hlt,hnx hv⟩,dec hlt⟩
end
section
theorem rnames_drop (ks:List Fm) (hl:ks.length≤maxLen) (hf:∀ g∈ks,Fit g) (h1:1≤ks.length):PC Tryz.prog 118 [.sl 4 (((rows ks).take ((rows ks).length:Int).toNat).drop (Int.toNat 1))] (tB ((ks.drop 1).all isNm)):=by
 rw[Int.toNat_natCast,List.take_length]
 rw[show (rows ks).drop (Int.toNat 1)=rows (ks.drop 1) from rows_drop 1 ks]
 exact rnames_spec (ks.drop 1) (by rw[List.length_drop];omega) (fun g h=>hf g (List.mem_of_mem_drop h))
omit [Gm] in
theorem and1 {a b:Bool} (h:(a&&b)=true):a=true:=by cases a <;> simp_all
theorem rcmd_ent:Ent Tryz.prog 119:=fun a w=>Tryz.call119 a w
theorem rcmd_spec (c:Fm) (hf:Fit c):PC Tryz.prog 119 [c.enc] (tB (cmdOK c)):=by
 have hhd:=rhead_spec c
 have hE:∀ s,hEq c s=((headOf c).toList==s.toList):=fun _=>rfl
 have hkids:∀ s:ByteArray,0<s.size→hEq c s=true→1≤c.kids.length:=fun s hs h=>by
  obtain⟨a,r,e⟩:=(head_kids hs h).2
  rw[e];simp
 have hcm:cmdOK c=(if hEq c sAssign=true then lenIs c.kids 3&&isNm (c.kids.getD 1 w0)
  else if hEq c sHavoc=true then (c.kids.drop 1).all isNm
  else if hEq c sAssume=true then lenIs c.kids 2
  else if hEq c sAssert=true then lenIs c.kids 3&&isNm (c.kids.getD 1 w0)
  else if hEq c sInv=true then lenIs c.kids 3&&isNm (c.kids.getD 1 w0)
  else if hEq c sInvoke=true then ((lenGe c.kids 3&&((c.kids.getD 1 w0).kind==3))&&(c.kids.getD 1 w0).kids.all isNm)&&isNm (c.kids.getD 2 w0)
  else false):=rfl
 generalize cmdOK c=C at hcm
 generalize hEq c=H at hE hcm hkids
 generalize headOf c=hd at hhd hE
 cases hf with
 | @mk k n t ks hl hb ht hks =>
 have hkids:∀ s:ByteArray,0<s.size→H s=true→1≤ks.length:=hkids
 have hcm:C=(if H sAssign=true then lenIs ks 3&&isNm (ks.getD 1 w0)
  else if H sHavoc=true then (ks.drop 1).all isNm
  else if H sAssume=true then lenIs ks 2
  else if H sAssert=true then lenIs ks 3&&isNm (ks.getD 1 w0)
  else if H sInv=true then lenIs ks 3&&isNm (ks.getD 1 w0)
  else if H sInvoke=true then ((lenGe ks 3&&((ks.getD 1 w0).kind==3))&&(ks.getD 1 w0).kids.all isNm)&&isNm (ks.getD 2 w0)
  else false):=hcm
 have hat:∀ n,n<ks.length→(0:Int)≤(n:Int)∧(rows ks)[((n:Nat):Int).toNat]?=some (cellsX (ks.getD n w0)):=fun n h=>rows_atX h
 have hnm:∀ n,PC Tryz.prog 78 [.agg (cellsX (ks.getD n w0))] (tB (isNm (ks.getD n w0))):=fun n=>risName_specX _ (fit_getD hks n)
 have hl3:∀ n:Nat,(((rows ks).length:Int)==(n:Int))=true→ks.length=n:=fun n h=>lenIs_eq h
 have hg3:∀ n:Nat,decide (((rows ks).length:Int)≥(n:Int))=true→n≤ks.length:=fun n h=>lenGe_le h
 have hqn:PC Tryz.prog 118 [encs (ks.getD 1 w0).kids] (tB ((ks.getD 1 w0).kids.all isNm)):=by
  have hfq:=fit_getD hks 1
  generalize ks.getD 1 w0=q at hfq
  cases hfq with
  | mk h1 _ _ h2=>exact rnames_spec _ h1 h2
 refine PC.of_ok tok Tryz.func119 rfl (Nat.le_of_ble_eq_true rfl) (ev_sound ctx (own:=[]) _ _ _ ?_)
 refine⟨rhead_ent,.inl ⟨_,hhd,?_⟩⟩
 refine⟨fun h=>?_,fun h=>?_⟩
 ·have h1:H sAssign=true:=by rw[hE];exact h
  rw[if_pos h1] at hcm
  refine⟨cellsX (ks.getD 1 w0),fun hG=>hat 1 (by have:=hl3 3 hG;omega),?_⟩
  refine⟨risName_ent,_,fun _=>hnm 1,?_⟩
  exact toEq (congrArg tB hcm.symm)
 have f1:¬ H sAssign=true:=by rw[hE,show (hd.toList==sAssign.toList)=false from h];simp
 rw[if_neg f1] at hcm
 refine⟨fun h=>?_,fun h=>?_⟩
 ·have h1:H sHavoc=true:=by rw[hE];exact h
  rw[if_pos h1] at hcm
  have hk1:=hkids sHavoc (by decide) h1
  refine⟨⟨by decide,by rw[rows_len];omega,Int.le_refl _⟩,?_⟩
  refine⟨rnames_ent,.inl ⟨_,rnames_drop ks hl hks hk1,?_⟩⟩
  exact toEq (congrArg tB hcm.symm)
 have f2:¬ H sHavoc=true:=by rw[hE,show (hd.toList==sHavoc.toList)=false from h];simp
 rw[if_neg f2] at hcm
 refine⟨fun h=>?_,fun h=>?_⟩
 ·have h1:H sAssume=true:=by rw[hE];exact h
  rw[if_pos h1] at hcm
  exact toEq (congrArg tB hcm.symm)
 have f3:¬ H sAssume=true:=by rw[hE,show (hd.toList==sAssume.toList)=false from h];simp
 rw[if_neg f3] at hcm
 refine⟨fun h=>?_,fun h=>?_⟩
 ·have h1:H sAssert=true:=by rw[hE];exact h
  rw[if_pos h1] at hcm
  refine⟨fun _=>?_,fun h'=>?_⟩
  ·refine⟨cellsX (ks.getD 1 w0),fun hG=>hat 1 (by have:=hl3 3 hG;omega),?_⟩
   refine⟨risName_ent,_,fun _=>hnm 1,?_⟩
   exact toEq (congrArg tB hcm.symm)
  ·have h:(hd.toList==sAssert.toList)=true:=h
   have h':(hd.toList==sAssert.toList)=false:=h'
   exact Bool.noConfusion (h.symm.trans h')
 have f4:¬ H sAssert=true:=by rw[hE,show (hd.toList==sAssert.toList)=false from h];simp
 rw[if_neg f4] at hcm
 refine⟨fun h=>?_,fun h=>?_⟩
 ·have h1:H sInv=true:=by rw[hE];exact h
  rw[if_pos h1] at hcm
  refine⟨cellsX (ks.getD 1 w0),fun hG=>hat 1 (by have:=hl3 3 hG;omega),?_⟩
  refine⟨risName_ent,_,fun _=>hnm 1,?_⟩
  exact toEq (congrArg tB hcm.symm)
 have f5:¬ H sInv=true:=by rw[hE,show (hd.toList==sInv.toList)=false from h];simp
 rw[if_neg f5] at hcm
 refine⟨fun h=>?_,fun h=>?_⟩
 ·have h1:H sInvoke=true:=by rw[hE];exact h
  rw[if_pos h1] at hcm
  have hin:∀ n:Nat,n<3→(decide (((rows ks).length:Int)≥((3:Nat):Int)))=true→(0:Int)≤(n:Int)∧(rows ks)[((n:Nat):Int).toNat]?=some (cellsX (ks.getD n w0)):=fun n hn h=>hat n (by have:=hg3 3 h;omega)
  refine⟨cellsX (ks.getD 1 w0),fun hG=>hin 1 (by omega) hG,?_⟩
  refine⟨cellsX (ks.getD 1 w0),fun hG=>hin 1 (by omega) (and1 hG),?_⟩
  refine⟨rnames_ent,_,fun _=>hqn,?_⟩
  refine⟨cellsX (ks.getD 2 w0),fun hG=>hin 2 (by omega) (and1 (and1 hG)),?_⟩
  refine⟨risName_ent,_,fun _=>hnm 2,?_⟩
  exact toEq (congrArg tB hcm.symm)
 have f6:¬ H sInvoke=true:=by rw[hE,show (hd.toList==sInvoke.toList)=false from h];simp
 rw[if_neg f6] at hcm
 exact toEq (congrArg tB hcm.symm)
end
section
def zBlk:TV:=.agg [tS ⟨#[]⟩,nilT,tI 0,tI 0,tS ⟨#[]⟩,nilT]
def preB (c:Fm):Bool:=!((!hEq c sBlock||decide (((rows c.kids).length:Int)<3))||!isNm (c.kids.getD 1 w0))
def rcm (c:Fm):List Fm:=(c.kids.take (c.kids.length-1)).drop 2
def rfin (c:Fm):Fm:=c.kids.getD (c.kids.length-1) w0
def rendT (x:TV) (f:Fm):TV :=
 if hEq f sGoto=true then .tup [x,tB (lenGe f.kids 2&&(f.kids.drop 1).all isNm)]
 else if hEq f sReturn=true then .tup [x,tB (lenIs f.kids 1)] else .tup [zBlk,tB false]
def rblock (c:Fm):TV :=
 if preB c=true then (if cmdsOK true (rcm c)=true then rendT (.agg (rdT c)) (rfin c) else .tup [zBlk,tB false]) else .tup [zBlk,tB false]
omit [Gm] in
theorem badC {C i p:Bool} (h:((!C)||(i&&p))=true) (r:Bool):(((!i||!p)&&C)&&r)=false:=by cases C <;> cases i <;> cases p <;> simp_all
omit [Gm] in
theorem goodC {C i p:Bool} (h:((!C)||(i&&p))=false):((!i||!p)&&C)=true:=by cases C <;> cases i <;> cases p <;> simp_all
omit [Gm] in
theorem notC (i p:Bool):(!p&&i)=!(p||!i):=by cases i <;> cases p <;> rfl
theorem rblock_ent:Ent Tryz.prog 81:=fun a w=>Tryz.call81 a w
theorem rblock_no (c:Fm) (hf:Fit c) (hp:preB c=false):PC Tryz.prog 81 [c.enc] (.tup [zBlk,tB false]):=by
 have hhd:=rhead_spec c
 have hE:hEq c sBlock=((headOf c).toList==sBlock.toList):=rfl
 unfold preB at hp
 rw[hE] at hp
 generalize headOf c=hd at hhd hp
 cases hf with
 | @mk k n t ks hl hb ht hks =>
 have hp:(!((!(hd.toList==sBlock.toList)||decide (((rows ks).length:Int)<3))||!isNm (ks.getD 1 w0)))=false:=hp
 have hnm:=risName_specX (ks.getD 1 w0) (fit_getD hks 1)
 have hat:(!(hd.toList==sBlock.toList)||decide (((rows ks).length:Int)<3))=false→(0:Int)≤1∧(rows ks)[Int.toNat 1]?=some (cellsX (ks.getD 1 w0)):=fun h=>rows_atX (n:=1) (by
  rw[Bool.or_eq_false_iff] at h
  have:=of_decide_eq_false h.2
  rw[rows_len] at this;omega)
 refine PC.of_ok tok Tryz.func81 rfl (Nat.le_of_ble_eq_true rfl) (ev_sound ctx (own:=[]) _ _ _ ?_)
 refine⟨rhead_ent,.inl ⟨_,hhd,?_⟩⟩
 refine⟨cellsX (ks.getD 1 w0),fun hG=>hat hG,?_⟩
 refine⟨risName_ent,_,fun _=>hnm,?_⟩
 refine⟨fun _=>?_,fun h=>?_⟩
 ·exact rfl
 ·have h:((!(hd.toList==sBlock.toList)||decide (((rows ks).length:Int)<3))||!isNm (ks.getD 1 w0))=false:=h
  rw[h] at hp;cases hp
theorem rblock_go (c:Fm) (hf:Fit c) (hp:preB c=true):PC Tryz.prog 81 [c.enc] (if cmdsOK true (rcm c)=true then rendT (.agg (rdT c)) (rfin c) else .tup [zBlk,tB false]):=by
 have hhd:=rhead_spec c
 have hE:hEq c sBlock=((headOf c).toList==sBlock.toList):=rfl
 unfold preB at hp
 rw[hE] at hp
 have hR1:cmdsOK true (rcm c)=true→∀ T,T=rendT (.agg (rdT c)) (rfin c)→T=(if cmdsOK true (rcm c)=true then rendT (.agg (rdT c)) (rfin c) else .tup [zBlk,tB false]):=fun h T e=>by rw[if_pos h];exact e
 have hR2:cmdsOK true (rcm c)=false→(TV.tup [zBlk,tB false])=(if cmdsOK true (rcm c)=true then rendT (.agg (rdT c)) (rfin c) else .tup [zBlk,tB false]):=fun h=>by rw[if_neg (by rw[h];simp)]
 generalize (if cmdsOK true (rcm c)=true then rendT (.agg (rdT c)) (rfin c) else .tup [zBlk,tB false])=T at hR1 hR2 ⊢
 have hrd:rdT c=tS (c.kids.getD 1 w0).text::encs (rcm c)::cellsX (rfin c):=rfl
 have hrend:∀ x f,rendT x f=(if hEq f sGoto=true then .tup [x,tB (lenGe f.kids 2&&(f.kids.drop 1).all isNm)] else if hEq f sReturn=true then .tup [x,tB (lenIs f.kids 1)] else .tup [zBlk,tB false]):=fun _ _=>rfl
 rw[hrd,hrend] at hR1
 have hcmE:rcm c=(c.kids.take (c.kids.length-1)).drop 2:=rfl
 have hfnE:rfin c=c.kids.getD (c.kids.length-1) w0:=rfl
 generalize headOf c=hd at hhd hp
 cases hf with
 | @mk k n t ks hl hb ht hks =>
 have hp:(!((!(hd.toList==sBlock.toList)||decide (((rows ks).length:Int)<3))||!isNm (ks.getD 1 w0)))=true:=hp
 have hnm:=risName_specX (ks.getD 1 w0) (fit_getD hks 1)
 have hcmE:rcm (.mk k n t ks)=(ks.take (ks.length-1)).drop 2:=hcmE
 have hfnE:rfin (.mk k n t ks)=ks.getD (ks.length-1) w0:=hfnE
 have hnmE:(Fm.mk k n t ks).kids.getD 1 w0=ks.getD 1 w0:=rfl
 rw[hnmE] at hR1
 have h3:3≤ks.length:=by
  simp only[Bool.not_eq_true',Bool.or_eq_false_iff] at hp
  have:=of_decide_eq_false hp.1.2
  rw[rows_len] at this;omega
 have hat:∀ n,n<ks.length→(0:Int)≤(n:Int)∧(rows ks)[((n:Nat):Int).toNat]?=some (cellsX (ks.getD n w0)):=fun n h=>rows_atX h
 have hln:((rows ks).length:Int)=(ks.length:Int):=by rw[rows_len]
 have hwl:IntKind.i64.wrap (((rows ks).length:Int)-1)=((ks.length-1:Nat):Int):=by rw[hln,wr (by omega) (by simp only[maxLen] at hl;omega)];omega
 have hcd:((rows ks).take (IntKind.i64.wrap (((rows ks).length:Int)-1)).toNat).drop (Int.toNat 2)=rows (rcm (.mk k n t ks)):=by rw[hcmE,hwl,Int.toNat_natCast,rows_take];exact rows_drop 2 _
 have hlast:(0:Int)≤IntKind.i64.wrap (((rows ks).length:Int)-1)∧(rows ks)[(IntKind.i64.wrap (((rows ks).length:Int)-1)).toNat]?=some (cellsX (rfin (.mk k n t ks))):=by rw[hwl,hfnE];exact hat _ (by omega)
 have hcf:∀ g∈rcm (.mk k n t ks),Fit g:=fun g hg=>by rw[hcmE] at hg;exact hks g (List.mem_of_mem_take (List.mem_of_mem_drop hg))
 have hcl:(rcm (.mk k n t ks)).length≤maxLen:=by rw[hcmE,List.length_drop,List.length_take];omega
 have hff:Fit (rfin (.mk k n t ks)):=by rw[hfnE];exact fit_getD hks _
 clear hcmE hfnE hnmE hrd hrend
 generalize rcm (.mk k n t ks)=cm at hR1 hR2 hcd hcf hcl
 generalize rfin (.mk k n t ks)=fin at hR1 hlast hff
 have hfh:=rhead_spec fin
 have hfE:∀ s,hEq fin s=((headOf fin).toList==s.toList):=fun _=>rfl
 have hfk:∀ s:ByteArray,0<s.size→hEq fin s=true→1≤fin.kids.length:=fun s hs h=>by
  obtain⟨a,r,e⟩:=(head_kids hs h).2
  rw[e];simp
 generalize hEq fin=HF at hR1 hfE hfk
 generalize headOf fin=fhd at hfh hfE
 cases hff with
 | @mk fk fn ft fks hfl hfb hft hfks =>
 have hR1:cmdsOK true cm=true→∀ T',T'=(if HF sGoto=true then TV.tup [.agg [tS (ks.getD 1 w0).text,encs cm,tI fk,tI fn,tS ft,encs fks],tB (lenGe fks 2&&(fks.drop 1).all isNm)] else if HF sReturn=true then .tup [.agg [tS (ks.getD 1 w0).text,encs cm,tI fk,tI fn,tS ft,encs fks],tB (lenIs fks 1)] else .tup [zBlk,tB false])→T'=T:=hR1
 have hfk:∀ s:ByteArray,0<s.size→HF s=true→1≤fks.length:=hfk
 refine PC.of_ok tok Tryz.func81 rfl (Nat.le_of_ble_eq_true rfl) (ev_sound ctx (own:=[]) _ _ _ ?_)
 refine⟨rhead_ent,.inl ⟨_,hhd,?_⟩⟩
 refine⟨cellsX (ks.getD 1 w0),fun _=>hat 1 (by omega),?_⟩
 refine⟨risName_ent,_,fun _=>hnm,?_⟩
 refine⟨fun h=>?_,fun _=>?_⟩
 ·have h:((!(hd.toList==sBlock.toList)||decide (((rows ks).length:Int)<3))||!isNm (ks.getD 1 w0))=true:=h
  exact Bool.noConfusion (hp.symm.trans (congrArg (fun b=>!b) h))
 refine⟨cellsX (ks.getD 1 w0),fun _=>hat 1 (by omega),?_⟩
 refine⟨fun _=>trivial,?_⟩
 refine⟨fun _=>⟨by decide,by rw[hwl];show (2:Int)≤_;omega,by rw[hwl,hln];omega⟩,?_⟩
 refine⟨fun _=>trivial,?_⟩
 refine⟨_,fun _=>hlast,?_⟩
 have hobj:∀ D,D=rows cm→some (AO.var [.t (tS (ks.getD 1 w0).text),.t (.sl 4 D),.t (tI fk),.t (tI fn),.t (tS ft),.t (encs fks)])=some (AO.var [.t (tS (ks.getD 1 w0).text),.t (encs cm),.t (tI fk),.t (tI fn),.t (tS ft),.t (encs fks)]):=fun D h=>by rw[h];rfl
 refine Ok.loop (st:=fun x:Nat×Bool=>⟨[(7,vi x.1),(6,vb x.2),(5,.ptr 5 0),(2,.ptr 2 0)],[(5,.var [.t (tS (ks.getD 1 w0).text),.t (encs cm),.t (tI fk),.t (tI fn),.t (tS ft),.t (encs fks)]),(2,.var [.t (tS ⟨#[]⟩),.t nilT,.t (tI 0),.t (tI 0),.t (tS ⟨#[]⟩),.t nilT])]⟩)
  (R:=fun x=>x.1≤cm.length∧cmdsOK true cm=cmdsOK (!x.2) (cm.drop x.1)) (μ:=fun x=>cm.length-x.1) (0,false) (Wk.sub ⟨rfl,rfl,rfl,rfl,trivial⟩ ⟨hobj _ hcd,rfl,trivial⟩) ⟨Nat.zero_le _,rfl⟩ ?_
 rintro⟨i,pa⟩ ⟨hi,hR⟩
 have hi:i≤cm.length:=hi
 have hR:cmdsOK true cm=cmdsOK (!pa) (cm.drop i):=hR
 refine ev_sound ctx (own:=[]) _ _ _ ?_
 refine⟨fun h=>?_,fun h=>?_⟩
 ·have hlt:i<cm.length:=ltOf (by rw[←rows_len cm];exact h)
  have hget:=rows_get hlt
  have hmem:cm[i]∈cm:=List.getElem_mem hlt
  have hfg:=hcf _ hmem
  rw[List.drop_eq_getElem_cons hlt] at hR
  rw[cellsX_eq] at hget
  generalize cm[i]=g at hget hfg hR
  have hgh:=rhead_spec g
  have hgc:=rcmd_spec g hfg
  have hR:cmdsOK true cm=(((!hEq g sInv||!pa)&&cmdOK g)&&cmdsOK (!pa&&hEq g sInv) (cm.drop (i+1))):=hR
  have hgE:hEq g sInv=((headOf g).toList==sInv.toList):=rfl
  rw[hgE] at hR
  generalize cmdOK g=C at hgc hR
  generalize headOf g=gh at hgh hR
  have hge:g.enc=.agg (cellsX g):=by rw[←cellsX_eq];cases g;rfl
  rw[hge] at hgh hgc
  refine⟨_,hget,?_⟩
  refine⟨rhead_ent,.inl ⟨_,hgh,?_⟩⟩
  refine⟨_,hget,?_⟩
  refine⟨rcmd_ent,.inl ⟨_,hgc,?_⟩⟩
  refine⟨fun h=>?_,fun h=>?_⟩
  ·have h:((!C)||((gh.toList==sInv.toList)&&pa))=true:=h
   refine toEq (hR2 ?_)
   rw[hR]
   exact badC h _
  ·have h:((!C)||((gh.toList==sInv.toList)&&pa))=false:=h
   have hg:=goodC h
   exact⟨trivial,(i+1,pa||!(gh.toList==sInv.toList)),Wk.sub ⟨slotI (wr1 hlt hcl),rfl,rfl,rfl,trivial⟩ ⟨rfl,rfl,trivial⟩,⟨hlt,by rw[hR,hg,Bool.true_and];exact congrArg (fun b=>cmdsOK b _) (notC _ _)⟩,dec hlt⟩
 ·have hge:cm.length≤i:=geOf (by rw[←rows_len cm];exact h)
  rw[List.drop_eq_nil_of_le hge] at hR
  have hR:cmdsOK true cm=true:=hR
  have hR1:=hR1 hR
  refine⟨rhead_ent,.inl ⟨_,hfh,?_⟩⟩
  refine⟨fun h=>?_,fun h=>?_⟩
  ·have h1:HF sGoto=true:=by rw[hfE];exact h
   have hfl1:=hfk sGoto (by decide) h1
   have hnd:=rnames_drop fks hfl hfks hfl1
   have hR1:=fun T'=>hR1 T'
   simp only[h1,if_true] at hR1
   refine⟨fun hG=>⟨by decide,by rw[rows_len];omega,by rw[rows_len];omega⟩,?_⟩
   refine⟨rnames_ent,_,fun _=>hnd,?_⟩
   exact toEq (hR1 _ rfl)
  ·have h1:HF sGoto=false:=by
    have h:(fhd.toList==sGoto.toList)=false:=h
    rw[hfE];exact h
   refine⟨fun h2=>?_,fun h2=>?_⟩
   ·have h2:HF sReturn=true:=by rw[hfE];exact h2
    simp only[h1,h2,if_true] at hR1
    exact toEq (hR1 _ rfl)
   ·have h2:HF sReturn=false:=by
     have h:(fhd.toList==sReturn.toList)=false:=h2
     rw[hfE];exact h
    simp only[h1,h2] at hR1
    exact toEq (hR1 _ rfl)
theorem rblock_spec (c:Fm) (hf:Fit c):PC Tryz.prog 81 [c.enc] (rblock c):=by
 unfold rblock
 cases hp:preB c with
 | true=>rw[if_pos rfl];exact rblock_go c hf hp
 | false=>rw[if_neg (by simp)];exact rblock_no c hf hp
end
section
def rIs (s:ByteArray) (c:Fm):Bool:=(c.kids.getD 1 w0).text.toList==s.toList
def prR (cs:List TV) (bs:List Fm):List TV:=[cs.getD 0 (.v .nilFunc),cs.getD 1 (.v .nilFunc),cs.getD 2 (.v .nilFunc),cs.getD 3 (.v .nilFunc),cs.getD 4 (.v .nilFunc),cs.getD 5 (.v .nilFunc),cs.getD 6 (.v .nilFunc),.sl 6 (bs.map rdT)]
theorem rat_ent:Ent Tryz.prog 82:=fun a w=>Tryz.call82 a w
theorem rat_spec (cs:List TV) (bs:List Fm) (hb:bs.length≤maxLen) (s:ByteArray):PC Tryz.prog 82 [.agg (prR cs bs),tS s] (tI (idxI (rIs s) bs)):=by
 unfold prR
 refine PC.of_ok tok Tryz.func82 rfl (Nat.le_of_ble_eq_true rfl) (ev_sound ctx (own:=[]) _ _ _ ?_)
 refine Ok.loop (st:=fun i:Nat=>⟨[(5,vi i),(2,.ptr 2 0),(1,.t (tS s))],[(2,.var [.t (cs.getD 0 (.v .nilFunc)),.t (cs.getD 1 (.v .nilFunc)),.t (cs.getD 2 (.v .nilFunc)),.t (cs.getD 3 (.v .nilFunc)),.t (cs.getD 4 (.v .nilFunc)),.t (cs.getD 5 (.v .nilFunc)),.t (cs.getD 6 (.v .nilFunc)),.t (.sl 6 (bs.map rdT))])]⟩)
  (R:=fun i=>i≤bs.length∧∀ j (hj:j<bs.length),j<i→rIs s bs[j]=false)
  (μ:=fun i=>bs.length-i) 0 (Wk.sub ⟨rfl,rfl,rfl,trivial⟩ ⟨rfl,trivial⟩) ⟨Nat.zero_le _,fun j _ h=>absurd h (Nat.not_lt_zero j)⟩ ?_
 rintro i ⟨hi,hno⟩
 have hi:i≤bs.length:=hi
 refine ev_sound ctx (own:=[]) _ _ _ ?_
 refine⟨fun h=>?_,fun h=>?_⟩
 ·have hlt:i<bs.length:=ltOf (by rw[←List.length_map (f:=rdT)];exact h)
  have hget:(0:Int)≤(i:Int)∧(bs.map rdT)[((i:Nat):Int).toNat]?=some (rdT bs[i]):=getM hlt
  have hrd:rdT bs[i]=tS (bs[i].kids.getD 1 w0).text::encs ((bs[i].kids.take (bs[i].kids.length-1)).drop 2)::cellsX (bs[i].kids.getD (bs[i].kids.length-1) w0):=rfl
  rw[hrd] at hget
  have hT:rIs s bs[i]=true→(TV.v (.int .i64 (i:Int)))=tI (idxI (rIs s) bs):=fun h2=>by rw[idxI_some hlt h2 hno];rfl
  have hF:rIs s bs[i]=false→∀ j (hj:j<bs.length),j<i+1→rIs s bs[j]=false:=fun h2=>noHit hlt hno h2
  have hrs:rIs s bs[i]=((bs[i].kids.getD 1 w0).text.toList==s.toList):=rfl
  rw[hrs] at hT hF
  generalize (bs[i].kids.getD 1 w0).text=nm at hget hT hF
  refine⟨_,hget,?_⟩
  refine⟨fun h2=>toEq (hT h2),fun h2=>?_⟩
  exact⟨trivial,i+1,Wk.sub ⟨slotI (wr1 hlt hb),rfl,rfl,trivial⟩ ⟨rfl,trivial⟩,⟨hlt,hF h2⟩,dec hlt⟩
 ·have hge:bs.length≤i:=geOf (by rw[←List.length_map (f:=rdT)];exact h)
  refine toEq ?_
  rw[idxI_none fun j hj=>hno j hj (by omega)];rfl
end
section
def rtg (b:Fm):List Fm:=(rfin b).kids.drop 1
def rix (bs:List Fm) (k:Fm):List TV:=[tI (idxI (rIs k.text) bs)]
def rsucT (bs:List Fm):TV:=.sl 1 (bs.map fun b=>[.sl 1 ((rtg b).map (rix bs))])
def pv8 (cs:List TV) (bs:List Fm):List AV:=[.t (cs.getD 0 (.v .nilFunc)),.t (cs.getD 1 (.v .nilFunc)),.t (cs.getD 2 (.v .nilFunc)),.t (cs.getD 3 (.v .nilFunc)),.t (cs.getD 4 (.v .nilFunc)),.t (cs.getD 5 (.v .nilFunc)),.t (cs.getD 6 (.v .nilFunc)),.t (.sl 6 (bs.map rdT))]
theorem rsucc_ent:Ent Tryz.prog 45:=fun a w=>Tryz.call45 a w
theorem rsucc_spec (cs:List TV) (bs:List Fm) (hb:bs.length≤1000000) (hff:∀ b∈bs,Fit (rfin b)):PC Tryz.prog 45 [.agg (prR cs bs)] (rsucT bs):=by
 have hpi:=fun s=>rat_spec cs bs (by simp only[maxLen];omega) s
 have hbM:bs.length≤maxLen:=by simp only[maxLen];omega
 have hmr:((bs.map rdT).length:Int)=(bs.length:Int):=by rw[List.length_map]
 have hT:rsucT bs=.sl 1 (bs.map fun b=>[.sl 1 ((rtg b).map (rix bs))]):=rfl
 unfold prR at hpi ⊢
 refine PC.of_ok tok Tryz.func45 rfl (Nat.le_of_ble_eq_true rfl) (ev_sound ctx (own:=[41,45]) _ _ _ ?_)
 refine Ok.loop (st:=fun i:Nat=>⟨[(4,vi i),(3,.sl 45),(1,.ptr 1 0)],[(45,.row 32 1 ((bs.take i).map fun b=>[.sl 1 ((rtg b).map (rix bs))])),(1,.var (pv8 cs bs))]⟩)
  (R:=fun i=>i≤bs.length) (μ:=fun i=>bs.length-i) 0
  ((Wk.nil 3 45 32 1 (by decide) rfl).trans (Wk.sub ⟨rfl,rfl,rfl,trivial⟩ ⟨rfl,rfl,trivial⟩)) (Nat.zero_le _) ?_
 rintro i hi
 have hi:i≤bs.length:=hi
 refine ev_sound ctx (own:=[41,45]) _ _ _ ?_
 refine⟨fun h=>?_,fun h=>?_⟩
 rotate_left
 ·have hge:bs.length≤i:=geOf (by rw[←hmr];exact h)
  refine toEq ?_
  rw[List.take_of_length_le hge];rfl
 have hlt:i<bs.length:=ltOf (by rw[←hmr];exact h)
 have hget:(0:Int)≤(i:Int)∧(bs.map rdT)[((i:Nat):Int).toNat]?=some (rdT bs[i]):=getM hlt
 have hmem:bs[i]∈bs:=List.getElem_mem hlt
 have hft:=hff _ hmem
 have htk:bs.take (i+1)=bs.take i++[bs[i]]:=by rw[List.take_add_one,List.getElem?_eq_getElem hlt];rfl
 have hrd:rdT bs[i]=[tS (bs[i].kids.getD 1 w0).text,encs (rcm bs[i]),tI (rfin bs[i]).kind,tI (rfin bs[i]).num,tS (rfin bs[i]).text,encs (rfin bs[i]).kids]:=rfl
 rw[hrd] at hget
 have hrows:((bs.take i).map fun b=>[TV.sl 1 ((rtg b).map (rix bs))])++[[TV.sl 1 (((rfin bs[i]).kids.drop 1).map (rix bs))]]=(bs.take (i+1)).map fun b=>[.sl 1 ((rtg b).map (rix bs))]:=by rw[htk,List.map_append];rfl
 have hrl:((bs.take i).map fun b=>[TV.sl 1 ((rtg b).map (rix bs))]).length≤i:=by rw[List.length_map,List.length_take];omega
 generalize ((bs.take i).map fun b=>[TV.sl 1 ((rtg b).map (rix bs))])=rws at hrows hrl ⊢
 clear htk
 generalize rcm bs[i]=cb at hget
 generalize (bs[i].kids.getD 1 w0).text=rb at hget
 generalize rfin bs[i]=fb at hget hft hrows
 cases hft with
 | @mk k' n' t' ks' hl' hb' ht' hks' =>
 have hrows:rws++[[TV.sl 1 ((ks'.drop 1).map (rix bs))]]=(bs.take (i+1)).map fun b=>[.sl 1 ((rtg b).map (rix bs))]:=hrows
 refine Ok.loop (st:=fun j:Nat=>⟨[(6,vi ((j+1:Nat):Int)),(5,.sl 41),(4,vi i),(3,.sl 45),(1,.ptr 1 0)],[(41,.row 3 1 (((ks'.drop 1).take j).map (rix bs))),(45,.row 32 1 rws),(1,.var (pv8 cs bs))]⟩)
  (R:=fun j=>j≤ks'.length) (μ:=fun j=>ks'.length-j) 0
  ((Wk.nil 5 41 3 1 (by decide) rfl).trans (Wk.sub ⟨rfl,rfl,rfl,rfl,rfl,trivial⟩ ⟨rfl,rfl,rfl,trivial⟩)) (Nat.zero_le _) ?_
 rintro j hj
 have hj:j≤ks'.length:=hj
 refine ev_sound ctx (own:=[41,45]) _ _ _ ?_
 refine⟨_,hget,?_⟩
 refine⟨fun h=>?_,fun h=>?_⟩
 ·have hltj:j+1<ks'.length:=by
   have h:decide (((j+1:Nat):Int)<((rows ks').length:Int))=true:=h
   have h:=of_decide_eq_true h
   rw[rows_len] at h;omega
  have hgetj:=rows_get hltj
  have hltd:j<(ks'.drop 1).length:=by rw[List.length_drop];omega
  have hel:(ks'.drop 1)[j]=ks'[j+1]:=by rw[List.getElem_drop];congr 1;omega
  have htkj:(ks'.drop 1).take (j+1)=(ks'.drop 1).take j++[ks'[j+1]]:=by rw[List.take_add_one,List.getElem?_eq_getElem hltd,hel];rfl
  have hrow2:some (AO.row 3 1 (((ks'.drop 1).take j).map (rix bs)++[[tI (idxI (rIs ks'[j+1].text) bs)]]))=some (AO.row 3 1 (((ks'.drop 1).take (j+1)).map (rix bs))):=by rw[htkj,List.map_append];rfl
  have hln:(((ks'.drop 1).take j).map (rix bs)).length=j:=by rw[List.length_map,List.length_take];omega
  rw[cellsX_eq] at hgetj
  generalize ks'[j+1]=g at hgetj hrow2
  have hpg:=hpi g.text
  generalize idxI (rIs g.text) bs=z at hpg hrow2
  refine⟨_,fun _=>hget,?_⟩
  refine⟨_,fun _=>hgetj,?_⟩
  refine⟨rat_ent,_,fun _=>hpg,?_⟩
  exact⟨by show ((((ks'.drop 1).take j).map (rix bs)).length+1)*8≤_;rw[hln];simp only[maxLen] at hl';omega,by show (((ks'.drop 1).take j).map (rix bs)).length+1≤maxLen;rw[hln];omega,trivial,j+1,Wk.sub ⟨slotI (wr1 hltj hl'),rfl,rfl,rfl,rfl,trivial⟩ ⟨hrow2,rfl,rfl,trivial⟩,Nat.le_of_lt hltj,by show ks'.length-(j+1)<ks'.length-j;omega⟩
 ·have hge:ks'.length≤j+1:=by
   have h:decide (((j+1:Nat):Int)<((rows ks').length:Int))=false:=h
   have h:=of_decide_eq_false h
   rw[rows_len] at h;omega
  have hall:(ks'.drop 1).take j=ks'.drop 1:=List.take_of_length_le (by rw[List.length_drop];omega)
  have hrow2:some (AO.row 32 1 (rws++[[TV.sl 1 (((ks'.drop 1).take j).map (rix bs))]]))=some (AO.row 32 1 ((bs.take (i+1)).map fun b=>[.sl 1 ((rtg b).map (rix bs))])):=by rw[hall,hrows]
  have h24:(rws.length+1)*24≤140737488355328:=by omega
  have hmx:rws.length+1≤maxLen:=by simp only[maxLen];omega
  have hdc:bs.length-(i+1)<bs.length-i:=by omega
  refine And.intro h24 (And.intro hmx ?_)
  refine And.intro trivial ?_
  refine Exists.intro (i+1) ?_
  refine And.intro ?_ (And.intro hlt hdc)
  exact Wk.sub ⟨slotI (wr1 hlt hbM),rfl,rfl,trivial⟩ ⟨hrow2,rfl,trivial⟩
end
end Go.Proofs.YtihbimigddlbaaaGreatDoor.L
end
