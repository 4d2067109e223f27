/- A part of the proof: PmX9 PmX10 PmX11 PmX12 PmX13 PmX14 PmX15 PmX16 PmX17. -/
import Derived.Test.YtihbimigddlbaaaGreatDoorUnG
import Derived.Test.YtihbimigddlbaaaGreatDoorUnH
import Derived.Sort.Walk0
noncomputable section
set_option linter.all false
namespace Go.Proofs.YtihbimigddlbaaaGreatDoor.L
open Go Go.RowKit Go.Proofs.YtihbimigddlbaaaGreatDoor.Pl
section
mutual
def Fm.cnt:Fm→Nat
 | .mk _ _ _ ks=>cntL ks+1
def cntL:List Fm→Nat
 | []=>0
 | f::r=>f.cnt+cntL r
end
theorem cnt_pos (f:Fm):0<f.cnt:=by cases f;simp only[Fm.cnt];omega
theorem cntL_mem {f:Fm}:∀ {l:List Fm},f∈l→f.cnt≤cntL l
 | g::l,h=>by
  simp only[cntL]
  rcases List.mem_cons.1 h with rfl | h
  ·omega
  ·have:=cntL_mem h;omega
theorem cntL_len:∀ l:List Fm,l.length≤cntL l
 | []=>Nat.le_refl _
 | g::l=>by
  have:=cntL_len l
  have:=cnt_pos g
  simp only[cntL,List.length_cons];omega
theorem cnt_kids (f:Fm):f.cnt=cntL f.kids+1:=by cases f;rfl
mutual
def Fm.sz:Fm→Nat
 | .mk k _ _ ks=>if k=3 then szL ks+1 else 1
def szL:List Fm→Nat
 | []=>0
 | f::r=>f.sz+szL r
end
mutual
def Fm.dp:Fm→Nat
 | .mk k _ _ ks=>if k=3 then dpL ks+1 else 1
def dpL:List Fm→Nat
 | []=>0
 | f::r=>max f.dp (dpL r)
end
mutual
theorem sz_le:∀ f:Fm,f.sz≤f.cnt
 | .mk k n t ks=>by
  have:=szL_le ks
  simp only[Fm.sz,Fm.cnt]
  split <;> omega
theorem szL_le:∀ l:List Fm,szL l≤cntL l
 | []=>Nat.le_refl _
 | f::r=>by
  have:=sz_le f
  have:=szL_le r
  simp only[szL,cntL];omega
end
mutual
theorem dp_le:∀ f:Fm,f.dp≤f.cnt
 | .mk k n t ks=>by
  have:=dpL_le ks
  simp only[Fm.dp,Fm.cnt]
  split <;> omega
theorem dpL_le:∀ l:List Fm,dpL l≤cntL l
 | []=>Nat.le_refl _
 | f::r=>by
  have:=dp_le f
  have:=dpL_le r
  simp only[dpL,cntL];omega
end
theorem wrN {z:Int} (h1:-1000000000≤z) (h2:z≤1000000000):IntKind.i64.wrap z=z:=by
 unfold IntKind.wrap
 simp[IntKind.signed,IntKind.bits]
 omega
mutual
theorem zs_eq:∀ f:Fm,f.cnt≤1000000→f.zs=(f.sz:Int)
 | .mk k n t ks,h=>by
  simp only[Fm.cnt] at h
  simp only[Fm.zs,Fm.sz]
  split
  ·have:=zsl_eq ks 1 (by omega) (by omega)
   rw[show (1:Int)=((1:Nat):Int) from rfl,this];push_cast;omega
  ·rfl
theorem zsl_eq:∀ (l:List Fm) (a:Nat),cntL l≤1000000→a+cntL l≤2000000→zsl a l=(a+szL l:Nat)
 | [],a,_,_=>by simp[zsl,szL]
 | f::r,a,h,h'=>by
  simp only[cntL] at h h'
  have h1:=zs_eq f (by omega)
  have h2:=sz_le f
  simp only[zsl,szL]
  rw[h1,wrN (by omega) (by omega)]
  have:=zsl_eq r (a+f.sz) (by omega) (by omega)
  push_cast at this
  rw[this];push_cast;omega
end
mutual
theorem zd_eq:∀ f:Fm,f.cnt≤1000000→f.zd=(f.dp:Int)
 | .mk k n t ks,h=>by
  simp only[Fm.cnt] at h
  have hd:=dpL_le ks
  simp only[Fm.zd,Fm.dp]
  split
  ·have:=zdl_eq ks 0 (by omega)
   simp only[Nat.zero_max] at this
   rw[show (0:Int)=((0:Nat):Int) from rfl,this,wrN (by omega) (by omega)];push_cast;omega
  ·rw[wrN (by omega) (by omega)];rfl
theorem zdl_eq:∀ (l:List Fm) (a:Nat),cntL l≤1000000→zdl a l=(max a (dpL l):Nat)
 | [],a,_=>by simp[zdl,dpL]
 | f::r,a,h=>by
  simp only[cntL] at h
  have h1:=zd_eq f (by omega)
  simp only[zdl,dpL]
  rw[h1]
  by_cases hc:(f.dp:Int)>(a:Int)
  ·rw[if_pos hc,zdl_eq r f.dp (by omega)]
   congr 1;omega
  ·rw[if_neg hc,zdl_eq r a (by omega)]
   congr 1;omega
end
end
section
theorem leaf_kids {k n:Int} {t:ByteArray} {ks:List Fm} (h:leafB k n t ks=true) (h3:k≠3):ks=[]:=by
 have key:nokids ks=true→ks=[]:=fun h=>by
  unfold nokids at h
  rw[rows_len] at h
  have:=eq_of_beq h
  exact List.eq_nil_of_length_eq_zero (by omega)
 unfold leafB at h
 split at h
 ·simp only[Bool.and_eq_true] at h;exact key h.1.1.2
 ·split at h
  ·simp only[Bool.and_eq_true] at h;exact key h.2
  ·split at h
   ·simp only[Bool.and_eq_true] at h;exact key h.2
   ·split at h
    ·rename_i h';exact absurd (eq_of_beq h') h3
    ·cases h
theorem wini_eq (t:ByteArray):(wini t&&allB visB t)=wordB t:=by
 unfold wini wordB notE
 rw[noneEmpty]
 have:decide (0<t.size)=decide ((t.size:Int)≥1):=by rw[decide_eq_decide];omega
 rw[this]
 cases allB visB t <;> cases decide ((t.size:Int)≥1) <;> cases decide ((t.size:Int)≤30) <;> cases digits t <;> rfl
theorem fl_eq (k n:Int) (t:ByteArray) (ks:List Fm):(Fm.mk k n t ks).fl=(leafB k n t ks&&fls ks):=by
 have hkz:ks=[]→fls ks=true:=fun h=>by rw[h];rfl
 have hnk:decide (((rows ks).length:Int)>0)=!nokids ks:=by
  unfold nokids
  rw[rows_len]
  cases ks with
  | nil=>rfl
  | cons a l =>
   simp
   omega
 have hem:notE t=!emp t:=rfl
 have hk0:nokids ks=true→ks=[]:=fun h=>by
  unfold nokids at h
  rw[rows_len] at h
  have:=eq_of_beq h
  exact List.eq_nil_of_length_eq_zero (by omega)
 unfold Fm.fl
 rw[hnk,hem]
 by_cases h0:k=0
 ·subst h0
  unfold leafB
  cases hn:nokids ks with
  | false=>cases emp t <;> simp
  | true=>rw[hkz (hk0 hn)];cases emp t <;> simp
 ·have e0:(k==0)=false:=by simpa using h0
  have e0':(k != 0)=true:=by simpa using h0
  unfold leafB
  rw[e0,e0']
  by_cases h1:k=1
  ·subst h1
   rw[←wini_eq]
   cases hn:nokids ks with
   | false=>cases (n==0) <;> simp
   | true =>
    rw[hkz (hk0 hn)]
    have:(n != 0)=!(n==0):=rfl
    rw[this]
    cases (n==0) <;> simp
  ·have e1:(k==1)=false:=by simpa using h1
   have e1':(k != 1)=true:=by simpa using h1
   rw[e1,e1']
   by_cases h2:k=2
   ·subst h2
    unfold textB
    have:(n != 0)=!(n==0):=rfl
    rw[this]
    cases hn:nokids ks with
    | false=>cases (n==0) <;> simp
    | true =>
     rw[hkz (hk0 hn)]
     cases (n==0) <;> cases allB (fun c=>!badT c) t <;> cases decide ((t.size:Int)≤2000) <;> simp
   ·have e2:(k==2)=false:=by simpa using h2
    have e2':(k != 2)=true:=by simpa using h2
    rw[e2,e2']
    have:(n != 0)=!(n==0):=rfl
    rw[this]
    by_cases h3:k=3
    ·subst h3
     cases (n==0) <;> cases emp t <;> simp
    ·have e3:(k==3)=false:=by simpa using h3
     rw[e3]
     cases (n==0) <;> cases emp t <;> simp
mutual
theorem vl_eq:∀ (f:Fm) (p d:Nat),f.cnt≤1000000→p≤1000000000→d≤1000000000 →
  (f.fl=true→f.sz≤p→f.dp≤d→vl f p d=(true,((p-f.sz:Nat):Int)))∧((vl f p d).1=true→f.fl=true∧f.sz≤p∧f.dp≤d)
 | .mk k n t ks,p,d,hc,hp,hd=>by
  simp only[Fm.cnt] at hc
  have hdp:dn (p:Int)=(p:Int)-1:=by unfold dn;exact wrN (by omega) (by omega)
  have hdd:dn (d:Int)=(d:Int)-1:=by unfold dn;exact wrN (by omega) (by omega)
  rw[fl_eq]
  unfold vl
  rw[hdp,hdd]
  cases hl:leafB k n t ks with
  | false =>
   simp
  | true =>
   by_cases hp0:p=0
   ·subst hp0
    have h1:1≤(Fm.mk k n t ks).sz:=by simp only[Fm.sz];split <;> omega
    refine⟨fun _ h2 _=>by omega,fun h=>?_⟩
    simp at h
   ·by_cases hd0:d=0
    ·subst hd0
     have h1:1≤(Fm.mk k n t ks).dp:=by simp only[Fm.dp];split <;> omega
     refine⟨fun _ _ h2=>by omega,fun h=>?_⟩
     simp at h
    ·have c1:decide ((p:Int)-1<0)=false:=decide_eq_false (by omega)
     have c2:((d:Int)==0)=false:=by
      have:¬ (d:Int)=0:=by omega
      simpa using this
     rw[c1,c2]
     simp only[Bool.or_self,Bool.not_true,Bool.false_eq_true,if_false,Bool.true_and]
     have ep:(p:Int)-1=((p-1:Nat):Int):=by omega
     have ed:(d:Int)-1=((d-1:Nat):Int):=by omega
     rw[ep,ed]
     have ih:=vls_eq ks (p-1) (d-1) (by omega) (by omega) (by omega)
     by_cases h3:k=3
     ·have es:(Fm.mk k n t ks).sz=szL ks+1:=by simp only[Fm.sz,h3,if_true]
      have edp:(Fm.mk k n t ks).dp=dpL ks+1:=by simp only[Fm.dp,h3,if_true]
      rw[es,edp]
      refine⟨fun h1 h2 h4=>?_,fun h=>?_⟩
      ·rw[ih.1 h1 (by omega) (by omega)]
       congr 2;omega
      ·obtain⟨h1,h2,h4⟩:=ih.2 h
       exact⟨h1,by omega,by omega⟩
     ·have hk:=leaf_kids hl h3
      subst hk
      have es:(Fm.mk k n t []).sz=1:=by simp only[Fm.sz,h3,if_false]
      have edp:(Fm.mk k n t []).dp=1:=by simp only[Fm.dp,h3,if_false]
      rw[es,edp]
      exact⟨fun _ _ _=>rfl,fun _=>⟨rfl,by omega,by omega⟩⟩
theorem vls_eq:∀ (l:List Fm) (p d:Nat),cntL l≤1000000→p≤1000000000→d≤1000000000 →
  (fls l=true→szL l≤p→dpL l≤d→vls l p d=(true,((p-szL l:Nat):Int)))∧((vls l p d).1=true→fls l=true∧szL l≤p∧dpL l≤d)
 | [],p,d,_,_,_=>by simp[vls,fls,szL,dpL]
 | f::r,p,d,hc,hp,hd=>by
  simp only[cntL] at hc
  have h1:=vl_eq f p d (by omega) hp hd
  simp only[fls,szL,dpL,Bool.and_eq_true]
  constructor
  ·rintro⟨a1,a2⟩ a3 a4
   have e:=h1.1 a1 (by omega) (by omega)
   have h2:=(vls_eq r (p-f.sz) d (by omega) (by omega) hd).1 a2 (by omega) (by omega)
   simp only[vls,e,h2]
   congr 2;omega
  ·intro h
   simp only[vls] at h
   cases hv:vl f p d with
   | mk b q =>
    rw[hv] at h
    cases b with
    | false=>simp at h
    | true =>
     simp only at h
     obtain⟨a1,a2,a3⟩:=h1.2 (by rw[hv])
     have e:=h1.1 a1 a2 a3
     rw[hv] at e
     injection e with _ e
     rw[e] at h
     obtain⟨b1,b2,b3⟩:=(vls_eq r (p-f.sz) d (by omega) (by omega) hd).2 h
     exact⟨⟨a1,b1⟩,by omega,by omega⟩
end
theorem valid_eq (f:Fm) (h:f.cnt≤1000000):pvalidB f=validB f:=by
 unfold pvalidB validB
 rw[zs_eq f h,zd_eq f h]
 have hv:=vl_eq f 20000 100 h (by omega) (by omega)
 rw[Bool.eq_iff_iff]
 simp only[Bool.and_eq_true,decide_eq_true_eq]
 constructor
 ·intro h
  obtain⟨a,b,c⟩:=hv.2 h
  exact⟨a,by omega,by omega⟩
 ·rintro⟨a,b,c⟩
  have:=hv.1 a (by omega) (by omega)
  have e:vl f 20000 100=vl f ((20000:Nat):Int) ((100:Nat):Int):=rfl
  rw[e,this]
end
section
theorem lenIs_dec (ks:List Fm) (n:Nat):lenIs ks (n:Int)=decide (ks.length=n):=by
 unfold lenIs
 rw[rows_len,Bool.eq_iff_iff]
 simp only[beq_iff_eq,decide_eq_true_eq]
 omega
theorem lenGe_dec (ks:List Fm) (n:Nat):lenGe ks (n:Int)=decide (n≤ks.length):=by
 unfold lenGe
 rw[rows_len,decide_eq_decide]
 omega
theorem cm_eq {c:Fm} (h:2≤c.kids.length):cmdsOf c=rcm c:=by
 unfold cmdsOf rcm restOf
 rw[List.length_drop,List.drop_take,List.drop_take,List.drop_drop]
 congr 1
theorem clk_true {c:Fm} {s:ByteArray} (hs:0<s.size) (h:hEq c s=true):clKind c=true∧∃ g r,c.kids=g::r:=by
 obtain⟨h1,g,r,h2⟩:=head_kids hs h
 refine⟨?_,g,r,h2⟩
 have h3:lenGe c.kids 1=true:=by
  have:=lenGe_dec c.kids 1
  rw[h2] at this
  rw[h2]
  exact this.trans (by simp)
 unfold clKind
 rw[h3,h1];rfl
theorem cl_eq (c:Fm) (hb:hEq c sBlock=false):(clKind c&&clauseOK c)=rclB c:=by
 unfold clauseOK rclB
 cases h0:hEq c sRequires with
 | true =>
  obtain⟨hk,g,r,e⟩:=clk_true (by decide) h0
  rw[hk]
  simp only[if_true,Bool.true_and]
  have h1:=lenIs_dec (restOf c) 1
  have h2:=lenIs_dec c.kids 2
  unfold restOf at h1 ⊢
  rw[e] at h1 h2 ⊢
  refine h1.trans (Eq.trans ?_ h2.symm)
  simp
 | false =>
 cases h1:hEq c sEnsures with
 | true =>
  obtain⟨hk,g,r,e⟩:=clk_true (by decide) h1
  rw[hk]
  simp only[if_true,Bool.true_and,Bool.false_eq_true,if_false]
  have h1:=lenIs_dec (restOf c) 1
  have h2:=lenIs_dec c.kids 2
  unfold restOf at h1 ⊢
  rw[e] at h1 h2 ⊢
  refine h1.trans (Eq.trans ?_ h2.symm)
  simp
 | false =>
 cases h2:hEq c sModifies with
 | true =>
  obtain⟨hk,g,r,e⟩:=clk_true (by decide) h2
  rw[hk]
  simp only[if_true,Bool.true_and,Bool.false_eq_true,if_false]
  rfl
 | false =>
 cases h3:hEq c sLocal with
 | true =>
  obtain⟨hk,g,r,e⟩:=clk_true (by decide) h3
  rw[hk,r0_eq]
  simp only[if_true,Bool.true_and,Bool.false_eq_true,if_false]
  have h1:=lenIs_dec (restOf c) 2
  have h2:=lenIs_dec (restOf c) 3
  have h1:lenIs (restOf c) 2=_:=h1
  have h2:lenIs (restOf c) 3=_:=h2
  rw[h1,h2,rows_len]
  have hl:c.kids.length=(restOf c).length+1:=by unfold restOf;rw[e];simp
  generalize isNm (c.kids.getD 1 w0)=b
  generalize (restOf c).length=n at hl
  rw[hl,Bool.eq_iff_iff]
  simp only[Bool.and_eq_true,Bool.or_eq_true,decide_eq_true_eq,Bool.not_eq_true',Bool.or_eq_false_iff,decide_eq_false_iff_not,Bool.not_eq_false']
  constructor
  ·rintro⟨h,hb⟩;exact⟨⟨by omega,by omega⟩,hb⟩
  ·rintro⟨⟨h1,h2⟩,hb⟩;exact⟨by omega,hb⟩
 | false =>
  rw[hb]
  simp only[Bool.false_eq_true,if_false,Bool.and_false]
theorem blk_eq (c:Fm) (hb:hEq c sBlock=true):(clKind c&&clauseOK c)=rblkB c:=by
 have h0:hEq c sRequires=false:=hEq_ne hb (by decide)
 have h1:hEq c sEnsures=false:=hEq_ne hb (by decide)
 have h2:hEq c sModifies=false:=hEq_ne hb (by decide)
 have h3:hEq c sLocal=false:=hEq_ne hb (by decide)
 obtain⟨hk,g,r,e⟩:=clk_true (by decide) hb
 unfold clauseOK rblkB preB blockOK
 rw[h0,h1,h2,h3,hb,hk,r0_eq]
 simp only[if_true,Bool.true_and,Bool.false_eq_true,if_false,Bool.not_true,Bool.false_or]
 have hg:lenGe (restOf c) 2=decide (2≤(restOf c).length):=lenGe_dec (restOf c) 2
 have hl:c.kids.length=(restOf c).length+1:=by unfold restOf;rw[e];simp
 rw[hg,rows_len]
 by_cases h:2≤(restOf c).length
 ·rw[cm_eq (by omega),←fin_eq (by omega),decide_eq_true h,decide_eq_false (by omega)]
  simp
 ·rw[decide_eq_false h,decide_eq_true (by omega)]
  simp
theorem nb_false {c:Fm} (h:hEq c sBlock=true):nb c=false:=by unfold nb;rw[h];rfl
theorem nb_true {c:Fm} (h:hEq c sBlock=false):nb c=true:=by unfold nb;rw[h];rfl
theorem rblkB_head {c:Fm} (h:rblkB c=true):hEq c sBlock=true:=by
 unfold rblkB preB at h
 cases hb:hEq c sBlock with
 | true=>rfl
 | false=>rw[hb] at h;simp at h
theorem cls_blk:∀ (l:List Fm) (S:PS),0<S.b.length→clsOK S l=l.all rblkB
 | [],S,_=>rfl
 | c::l,S,h=>by
  have hz:((S.b.length:Int)==0)=false:=by
   have:¬ (S.b.length:Int)=0:=by omega
   simpa using this
  have hs:0<(stepP S c).b.length:=by
   rw[stepP_b]
   split
   ·rw[List.length_append];omega
   ·exact h
  unfold clsOK
  rw[cls_blk l _ hs,hz,Bool.or_false,List.all_cons]
  congr 1
  cases hb:hEq c sBlock with
  | true=>rw[Bool.and_true,blk_eq c hb]
  | false =>
   rw[Bool.and_false,Bool.false_and]
   cases hr:rblkB c with
   | false=>rfl
   | true=>rw[rblkB_head hr] at hb;cases hb
theorem cls_eq:∀ (l:List Fm) (S:PS),S.b=[]→clsOK S l=rd1 l
 | [],S,_=>rfl
 | c::l,S,h=>by
  unfold clsOK rd1
  have hz:((S.b.length:Int)==0)=true:=by rw[h];rfl
  rw[hz,Bool.or_true,Bool.and_true]
  cases hb:hEq c sBlock with
  | true =>
   have hs:0<(stepP S c).b.length:=by rw[stepP_b,hb,if_pos rfl,List.length_append];simp
   rw[cls_blk l _ hs,blk_eq c hb]
   simp only[List.takeWhile,List.dropWhile,nb_false hb,List.all_nil,List.all_cons,Bool.true_and]
  | false =>
   have hs:(stepP S c).b=[]:=by rw[stepP_b,hb];simpa using h
   rw[cls_eq l _ hs,cl_eq c hb]
   unfold rd1
   simp only[List.takeWhile,List.dropWhile,nb_true hb,List.all_cons,Bool.and_assoc]
theorem bs_eq {l:List Fm} (h:rd1 l=true):l.dropWhile nb=blksOf l:=by
 unfold rd1 at h
 rw[Bool.and_eq_true] at h
 have key:∀ m:List Fm,(m.dropWhile nb).all rblkB=true→m.dropWhile nb=blksOf m:=by
  intro m
  induction m with
  | nil=>intro _;rfl
  | cons c m ih =>
   intro h
   cases hb:hEq c sBlock with
   | true =>
    simp only[List.dropWhile,nb_false hb] at h ⊢
    unfold blksOf
    symm
    rw[List.filter_eq_self]
    intro x hx
    exact rblkB_head (List.all_eq_true.1 h x hx)
   | false =>
    simp only[List.dropWhile,nb_true hb] at h ⊢
    rw[ih h]
    unfold blksOf
    rw[List.filter_cons_of_neg (by simp[hb])]
 exact key l h.2
theorem shaped_eq (f:Fm) (h:f.cnt≤1000000):shapedB f=(rdB f&&namedB (blksOf (f.kids.drop 4))):=by
 unfold shapedB rdB rd0 rdV procOK
 rw[valid_eq f h,cls_eq _ _ rfl]
 have hg:lenGe f.kids 4=decide (4≤f.kids.length):=lenGe_dec f.kids 4
 have hd:decide (((rows f.kids).length:Int)<4)=!decide (4≤f.kids.length):=by
  rw[rows_len]
  by_cases h:4≤f.kids.length
  ·rw[decide_eq_true h,decide_eq_false (by omega)];rfl
  ·rw[decide_eq_false h,decide_eq_true (by omega)];rfl
 rw[hg,hd]
 cases validB f <;> cases hEq f sProc <;> cases decide (4≤f.kids.length) <;> cases isNm (f.kids.getD 1 w0) <;> cases varsOK (f.kids.getD 2 w0) <;> cases varsOK (f.kids.getD 3 w0) <;> simp
end
section
theorem cget {C:List Nat} {i c:Nat} (hi:i<C.length) (j:Nat):(C.set i c).getD j 0=if j=i then c else C.getD j 0:=by
 simp only[List.getD,List.getElem?_set]
 by_cases h:j=i
 ·subst h;simp[hi]
 ·have:¬ i=j:=fun e=>h e.symm
  simp[h,this]
theorem cbeq (x c:Nat):((x:Int)==(c:Int))=decide (x=c):=by
 rw[Bool.eq_iff_iff];simp only[beq_iff_eq,decide_eq_true_eq];omega
theorem cir_step (g:Gr) (f i:Nat) (C:List Nat):cirF g [] (f+1) i C=if C.getD i 0=2 then (false,C) else if C.getD i 0=1 then (true,C) else
   match anyK (cirF g [] f) (g.getD i []) (C.set i 1) with
   | (true,C')=>(true,C')
   | (false,C')=>(false,C'.set i 2):=by
 have h2:((C.getD i 0:Int)==2)=decide (C.getD i 0=2):=cbeq _ 2
 have h1:((C.getD i 0:Int)==1)=decide (C.getD i 0=1):=cbeq _ 1
 conv=>lhs;unfold cirF
 rw[h2,h1]
 unfold isHd
 simp only[List.any_nil,Bool.false_or,decide_eq_true_eq]
 rfl
def Gry (C C':List Nat):Prop:=C'.length=C.length∧(∀ j,C'.getD j 0=1↔C.getD j 0=1)∧∀ j,C.getD j 0=2→C'.getD j 0=2
theorem Gry.refl (C:List Nat):Gry C C:=⟨rfl,fun _=>Iff.rfl,fun _ h=>h⟩
theorem Gry.trans {A B C:List Nat} (h:Gry A B) (h':Gry B C):Gry A C:=⟨h'.1.trans h.1,fun j=>(h'.2.1 j).trans (h.2.1 j),fun j e=>h'.2.2 j (h.2.2 j e)⟩
theorem any_gry {F:Nat→List Nat→Bool×List Nat} {n:Nat} (hF:∀ k C C',k<n→C.length=n→F k C=(false,C')→Gry C C'):∀ (l C C':List Nat),(∀ k∈l,k<n)→C.length=n→anyK F l C=(false,C')→Gry C C'
 | [],C,C',_,_,h=>by
  simp only[anyK,Prod.mk.injEq,true_and] at h
  subst h;exact Gry.refl _
 | k::l,C,C',hl,hn,h=>by
  unfold anyK at h
  split at h
  ·cases h
  ·rename_i D e
   have h1:=hF k C D (hl k (by simp)) hn e
   exact h1.trans (any_gry hF l D C' (fun x hx=>hl x (by simp[hx])) (h1.1.trans hn) h)
theorem cir_gry (g:Gr) (hg:GrOK g):∀ (f i:Nat) (C C':List Nat),i<g.length→C.length=g.length→cirF g [] f i C=(false,C')→Gry C C'
 | 0,i,C,C',_,_,h=>by
  simp only[cirF,Prod.mk.injEq,true_and] at h
  subst h;exact Gry.refl _
 | f+1,i,C,C',hi,hn,h=>by
  rw[cir_step] at h
  split at h
  ·injection h with _ h;subst h;exact Gry.refl _
  ·rename_i h2
   split at h
   ·cases h
   ·rename_i h1
    split at h
    ·cases h
    ·rename_i D e
     injection h with _ h
     subst h
     have hs:∀ k∈g.getD i [],k<g.length:=fun k hk=>by
      rw[getD_at hi] at hk
      exact hg.lt _ (List.getElem_mem hi) k hk
     have hG:=any_gry (n:=g.length) (fun k C C' hk hC e=>cir_gry g hg f k C C' hk hC e) _ _ _ hs (by simpa using hn) e
     have hDl:D.length=g.length:=by rw[hG.1];simpa using hn
     refine⟨by simp[hDl,hn],fun j=>?_,fun j hj=>?_⟩
     ·rw[cget (by omega)]
      by_cases ej:j=i
      ·rw[if_pos ej];subst ej
       exact⟨fun h=>absurd h (by decide),fun h=>absurd h h1⟩
      ·rw[if_neg ej,hG.2.1 j,cget (by omega),if_neg ej]
     ·rw[cget (by omega)]
      by_cases ej:j=i
      ·subst ej;exact absurd hj h2
      ·rw[if_neg ej]
       refine hG.2.2 j ?_
       rw[cget (by omega),if_neg ej];exact hj
def Cir (g:Gr) (b:Nat):Prop:=∃ s∈g.getD b [],Rch g (-1) s b
theorem any_true {F:Nat→List Nat→Bool×List Nat} {n:Nat} {P:Prop} (G:List Nat→Prop) (hF:∀ k C C',k<n→C.length=n→F k C=(false,C')→G C→C'.length=n∧G C') :
  ∀ (l C C':List Nat),(∀ k∈l,k<n)→C.length=n→G C→(∀ k∈l,∀ C C',C.length=n→G C→F k C=(true,C')→P)→anyK F l C=(true,C')→P
 | [],C,C',_,_,_,_,h=>by simp[anyK] at h
 | k::l,C,C',hl,hn,hG,hP,h=>by
  unfold anyK at h
  split at h
  ·rename_i D e;exact hP k (by simp) C D hn hG e
  ·rename_i D e
   have h1:=hF k C D (hl k (by simp)) hn e hG
   exact any_true G hF l D C' (fun x hx=>hl x (by simp[hx])) h1.1 h1.2 (fun x hx=>hP x (by simp[hx])) h
theorem cir_true (g:Gr) (hg:GrOK g):∀ (f i p:Nat) (C C':List Nat),i<g.length→C.length=g.length→(∀ j,C.getD j 0=1→Rch g (-1) j p)→i∈g.getD p []→cirF g [] f i C=(true,C')→∃ b,Rch g (-1) p b∧Cir g b
 | 0,i,p,C,C',_,_,_,_,h=>by simp[cirF] at h
 | f+1,i,p,C,C',hi,hn,hgr,hip,h=>by
  rw[cir_step] at h
  split at h
  ·cases h
  ·split at h
   ·rename_i h1
    exact⟨p,.refl (neg1 _),i,hip,hgr i h1⟩
   ·split at h
    ·rename_i D e
     have hs:∀ k∈g.getD i [],k<g.length:=fun k hk=>by
      rw[getD_at hi] at hk
      exact hg.lt _ (List.getElem_mem hi) k hk
     have hpi:Rch g (-1) p i:=.step (.refl (neg1 _)) hip (neg1 _)
     have:=any_true (n:=g.length) (P:=∃ b,Rch g (-1) i b∧Cir g b) (fun C=>∀ j,C.getD j 0=1→Rch g (-1) j i)
      (fun k C C' hk hC e hG=>by
       have:=cir_gry g hg f k C C' hk hC e
       exact⟨this.1.trans hC,fun j hj=>hG j ((this.2.1 j).1 hj)⟩) _ _ _ hs (by simpa using hn)
      (fun j hj=>by
       rw[cget (by omega)] at hj
       by_cases ej:j=i
       ·subst ej;exact .refl (neg1 _)
       ·rw[if_neg ej] at hj
        exact (hgr j hj).trans hpi)
      (fun k hk C C' hC hG e=>cir_true g hg f k i C C' (hs k hk) hC hG hk e) e
     obtain⟨b,h1,h2⟩:=this
     exact⟨b,hpi.trans h1,h2⟩
    ·cases h
def Blk (g:Gr) (C:List Nat):Prop:=∀ b,C.getD b 0=2→(∀ s∈g.getD b [],C.getD s 0=2)∧¬ Cir g b
theorem Blk.rch {g:Gr} {C:List Nat} (h:Blk g C) {a b:Nat} (ha:C.getD a 0=2) (hr:Rch g (-1) a b):C.getD b 0=2:=by
 induction hr with
 | refl _=>exact ha
 | step _ hc _ ih=>exact (h _ ih).1 _ hc
theorem any_false {F:Nat→List Nat→Bool×List Nat} {n f:Nat} {g:Gr} (hF:∀ k C C',k<n→C.length=n→white C<f→Blk g C→F k C=(false,C')→Blk g C'∧C'.getD k 0=2∧Gry C C'∧white C'≤white C) :
  ∀ (l C C':List Nat),(∀ k∈l,k<n)→C.length=n→white C<f→Blk g C→anyK F l C=(false,C')→Blk g C'∧(∀ k∈l,C'.getD k 0=2)∧Gry C C'∧white C'≤white C
 | [],C,C',_,_,_,hB,h=>by
  simp only[anyK,Prod.mk.injEq,true_and] at h
  subst h;exact⟨hB,fun k hk=>by simp at hk,Gry.refl _,Nat.le_refl _⟩
 | k::l,C,C',hl,hn,hw,hB,h=>by
  unfold anyK at h
  split at h
  ·cases h
  ·rename_i D e
   obtain⟨a1,a2,a3,a4⟩:=hF k C D (hl k (by simp)) hn hw hB e
   obtain⟨b1,b2,b3,b4⟩:=any_false hF l D C' (fun x hx=>hl x (by simp[hx])) (a3.1.trans hn) (by omega) a1 h
   refine⟨b1,fun x hx=>?_,a3.trans b3,by omega⟩
   rcases List.mem_cons.1 hx with rfl | hx
   ·exact b3.2.2 _ a2
   ·exact b2 x hx
theorem cir_false (g:Gr) (hg:GrOK g):∀ (f i:Nat) (C C':List Nat),i<g.length→C.length=g.length→white C<f→Blk g C→cirF g [] f i C=(false,C')→Blk g C'∧C'.getD i 0=2∧Gry C C'∧white C'≤white C
 | 0,i,C,C',_,_,hw,_,_=>by omega
 | f+1,i,C,C',hi,hn,hw,hB,h=>by
  have hgr:=cir_gry g hg (f+1) i C C' hi hn h
  have hwh:=(cirF_inv g [] g.length (f+1) i C hn).2
  rw[h] at hwh
  rw[cir_step] at h
  split at h
  ·rename_i h2
   injection h with _ h;subst h
   exact⟨hB,h2,hgr,Nat.le_refl _⟩
  ·rename_i h2
   split at h
   ·cases h
   ·rename_i h1
    split at h
    ·cases h
    ·rename_i D e
     injection h with _ h
     have hs:∀ k∈g.getD i [],k<g.length:=fun k hk=>by
      rw[getD_at hi] at hk
      exact hg.lt _ (List.getElem_mem hi) k hk
     have hw1:=white_lt C i (by omega) h1 h2
     have hB1:Blk g (C.set i 1):=by
      intro b hb
      rw[cget (by omega)] at hb
      by_cases eb:b=i
      ·rw[if_pos eb] at hb;cases hb
      ·rw[if_neg eb] at hb
       refine⟨fun s hs=>?_,(hB b hb).2⟩
       have:=(hB b hb).1 s hs
       rw[cget (by omega)]
       by_cases es:s=i
       ·subst es;exact absurd this h2
       ·rw[if_neg es];exact this
     obtain⟨a1,a2,a3,a4⟩:=any_false (n:=g.length) (f:=f) (fun k C C' hk hC hw hB e=>cir_false g hg f k C C' hk hC hw hB e) _ _ _ hs (by simpa using hn) (by omega) hB1 e
     have hDl:D.length=g.length:=by rw[a3.1];simpa using hn
     have hDi:D.getD i 0=1:=(a3.2.1 i).2 (by rw[cget (by omega),if_pos rfl])
     subst h
     refine⟨fun b hb=>?_,by rw[cget (by omega),if_pos rfl],hgr,hwh⟩
     have hsd:∀ s,D.getD s 0=2→(D.set i 2).getD s 0=2:=fun s h=>by
      rw[cget (by omega)]
      by_cases es:s=i
      ·rw[if_pos es]
      ·rw[if_neg es];exact h
     rw[cget (by omega)] at hb
     by_cases eb:b=i
     ·subst eb
      refine⟨fun s hs=>hsd s (a2 s hs),?_⟩
      rintro⟨s,hs,hr⟩
      have:=a1.rch (a2 s hs) hr
      rw[hDi] at this;cases this
     ·rw[if_neg eb] at hb
      exact⟨fun s hs=>hsd s ((a1 b hb).1 s hs),(a1 b hb).2⟩
end
section
inductive Lp (g:Gr) (h:Nat):Nat→Prop
 | base:Lp g h h
 | step {b k:Nat} (h1:Rch g (-1) 0 b) (h2:¬ Rch g h 0 b) (h3:k∈g.getD b []) (h4:Lp g h k):Lp g h b
theorem Lp.lt {g:Gr} (hg:GrOK g) {h b:Nat} (hh:h<g.length) (hl:Lp g h b):b<g.length:=by
 cases hl with
 | base=>exact hh
 | step h1 _ _ _=>exact Rch.lt hg (by omega) h1
end
section
def okB (h:Nat) (Pa ks:List Nat) (s:Nat):Prop:=s≠h∧(s∈ks∨s∈Pa)
def okN (g:Gr) (h:Nat) (Pa ks:List Nat) (n:Nat):Prop:=∀ s∈g.getD n [],okB h Pa ks s
theorem okB.mono {h:Nat} {Pa ks ks':List Nat} (hs:∀ x∈ks,x∈ks') {s:Nat} (ho:okB h Pa ks s):okB h Pa ks' s:=⟨ho.1,ho.2.imp (hs s) id⟩
theorem okN.mono {g:Gr} {h:Nat} {Pa ks ks':List Nat} (hs:∀ x∈ks,x∈ks') {n:Nat} (ho:okN g h Pa ks n):okN g h Pa ks' n:=fun s hx=>(ho s hx).mono hs
end
end Go.Proofs.YtihbimigddlbaaaGreatDoor.L
end
noncomputable section
set_option linter.all false
namespace Go.Proofs.YtihbimigddlbaaaGreatDoor.L
open Go Go.RowKit Go.Proofs.YtihbimigddlbaaaGreatDoor.Pl Go.Sort
section
end
end Go.Proofs.YtihbimigddlbaaaGreatDoor.L
end
noncomputable section
set_option linter.all false
namespace Go.Proofs.YtihbimigddlbaaaGreatDoor.L
open Go Go.RowKit Go.Proofs.YtihbimigddlbaaaGreatDoor.Pl
section
theorem kid_len {f c:Fm} (h:f.cnt≤1000000) (hc:c∈f.kids):c.kids.length≤1000000:=by
 have h1:=cntL_mem hc
 have h2:=cnt_kids c
 have h3:=cntL_len c.kids
 have h4:=cnt_kids f
 omega
theorem low_of (f:Fm) (h:f.cnt≤1000000):Low f:=fun _=>by
 have h2:=cnt_kids f
 have h3:=cntL_len f.kids
 exact⟨by omega,fun c hc _=>kid_len h hc⟩
end
end Go.Proofs.YtihbimigddlbaaaGreatDoor.L
end
noncomputable section
set_option linter.all false
namespace Go.Proofs.YtihbimigddlbaaaGreatDoor.L
open Go Go.RowKit Go.Proofs.YtihbimigddlbaaaGreatDoor.Pl
variable [Gm]
set_option maxRecDepth 10000
section
omit [Gm] in
theorem kids_small {f:Fm} (hs:f.sz≤3000) (h:hEq f sProc=true):f.kids.length≤10000:=by
 obtain⟨h3,_⟩:=head_kids (s:=sProc) (by decide) h
 obtain⟨k,n,t,ks⟩:=f
 have h3:k=3:=h3
 simp only[Fm.sz,h3,if_true] at hs
 have:∀ l:List Fm,l.length≤szL l:=by
  intro l
  induction l with
  | nil=>exact Nat.le_refl _
  | cons x l ih =>
   have:1≤x.sz:=by cases x;simp only[Fm.sz];split <;> omega
   simp only[szL,List.length_cons];omega
 have:=this ks
 show ks.length≤10000
 omega
omit [Gm] in
theorem rd0_head {f:Fm} (h:rd0 f=true):hEq f sProc=true:=by
 unfold rd0 at h
 cases hq:hEq f sProc with
 | true=>rfl
 | false=>rw[hq] at h;simp at h
theorem read_good (f:Fm) (hf:Fit f) (hc:f.cnt≤1000000) (hs:f.sz≤3000) (h:rdB f=true):PC Tryz.prog 44 [f.enc] (.tup [.agg (prR (rdC f) (rdBs f)),tB true]):=by
 unfold rdB at h
 simp only[Bool.and_eq_true] at h
 obtain⟨h1,h2,h3⟩:=h
 exact rread_go f hf h1 h2 (kids_small hs (rd0_head h1)) (fun c hm=>kid_len hc hm) _ (fun _=>rfl) (fun h=>by rw[h3] at h;cases h)
theorem read_bad (f:Fm) (hf:Fit f) (hc:f.cnt≤1000000) (hs:f.sz≤3000) (h:rdB f=false):PC Tryz.prog 44 [f.enc] rbadT:=by
 unfold rdB at h
 cases h1:rd0 f with
 | false=>exact rread_b0 f hf h1
 | true =>
 rw[h1,Bool.true_and] at h
 cases h2:rdV f with
 | false=>exact rread_b1 f hf h1 h2 (fun c hm=>kid_len hc hm)
 | true =>
 rw[h2,Bool.true_and] at h
 exact rread_go f hf h1 h2 (kids_small hs (rd0_head h1)) (fun c hm=>kid_len hc hm) _ (fun h3=>by rw[h3] at h;cases h) (fun _=>rfl)
omit [Gm] in
theorem rd_blk {f:Fm} (h:rdB f=true):rdBs f=blksOf (f.kids.drop 4)∧∀ b∈rdBs f,rblkB b=true:=by
 unfold rdB at h
 simp only[Bool.and_eq_true] at h
 obtain⟨_,_,h3⟩:=h
 refine⟨bs_eq h3,fun b hb=>?_⟩
 unfold rd1 at h3
 rw[Bool.and_eq_true] at h3
 exact List.all_eq_true.1 h3.2 b hb
omit [Gm] in
theorem blk3 {b:Fm} (h:rblkB b=true):3≤b.kids.length:=by
 unfold rblkB preB at h
 simp only[Bool.and_eq_true,Bool.not_eq_true',Bool.or_eq_false_iff] at h
 have:=of_decide_eq_false h.1.1.2
 rw[rows_len] at this;omega
omit [Gm] in
theorem bs_mem {f b:Fm} (h:b∈rdBs f):b∈f.kids:=by
 unfold rdBs at h
 exact List.mem_of_mem_drop ((List.dropWhile_suffix _).subset h)
theorem graph_of (f:Fm) (hf:Fit f) (hc:f.cnt≤1000000) (hs:f.sz≤3000) (h:rdB f=true):PC Tryz.prog 21 [f.enc] (grT (ixs (rdBs f))):=by
 have hrd:=read_good f hf hc hs h
 obtain⟨_,h2⟩:=rd_blk h
 have hk:=cnt_kids f
 have hkl:=cntL_len f.kids
 have hbl:(rdBs f).length≤1000000:=by
  have h1:(rdBs f).length≤(f.kids.drop 4).length:=(List.dropWhile_suffix (p:=nb) (l:=f.kids.drop 4)).length_le
  rw[List.length_drop] at h1;omega
 have hsc:=rsucc_spec (rdC f) (rdBs f) hbl (fun b hb=>by
  have hfb:Fit b:=by
   have:=bs_mem hb
   cases hf with
   | mk _ _ _ hq=>exact hq b this
  cases hfb with
  | mk _ _ _ hq=>exact fit_getD hq _)
 rw[rsuc_ixs _ (fun b hb=>by have:=blk3 (h2 b hb);omega)] at hsc
 rw[f_enc] at hrd ⊢
 refine graph_good _ rfl (prR (rdC f) (rdBs f)) rfl (ixs (rdBs f)) (by unfold ixs;rw[List.length_map];simp only[maxLen];omega) (fun r hr=>?_) hrd hsc
 unfold ixs at hr
 obtain⟨b,hb,rfl⟩:=List.mem_map.1 hr
 rw[List.length_map]
 unfold tgtsOf
 rw[List.length_drop]
 have hb3:=blk3 (h2 b hb)
 rw[←fin_eq (by omega)]
 have hm:rfin b∈b.kids:=by
  unfold rfin
  rw[List.getD_eq_getElem?_getD,List.getElem?_eq_getElem (by omega)];exact List.getElem_mem _
 have c1:=cntL_mem hm
 have c2:=cntL_mem (bs_mem hb)
 have c3:=cnt_kids b
 have c4:=cnt_kids (rfin b)
 have c5:=cntL_len (rfin b).kids
 simp only[maxLen];omega
theorem suc_ok (f:Fm) (hf:Fit f) (hc:f.cnt≤1000000) (hs:f.sz≤3000) (h:shapedB f=true):PC Tryz.prog 7 [f.enc] (.tup [encG (graphOf f),tI 0]):=by
 have h':=h
 rw[shaped_eq f hc,Bool.and_eq_true] at h'
 have hg:=graph_of f hf hc hs h'.1
 rw[(rd_blk h'.1).1,grT_named _ h'.2] at hg
 rw[f_enc] at hg ⊢
 exact rsucc_of _ rfl _ _ hg
theorem gr_ok (f:Fm) (hf:Fit f) (hc:f.cnt≤1000000) (h:shapedB f=true):GrOK (graphOf f):=pre_gr (shaped_pre f hf (low_of f hc) h)
end
end Go.Proofs.YtihbimigddlbaaaGreatDoor.L
end
