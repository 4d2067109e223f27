/- A part of the proof: PlX9 PlX10 PlX11 PlX12 PlX13 PlX14 PlX15 PlX16 PlX17. -/
import Derived.Test.YtaenfjplagiioaaGreatDoorUnG
import Derived.Test.YtaenfjplagiioaaGreatDoorUnH
import Derived.Sort.Walk0
noncomputable section
set_option linter.all false
namespace Go.Proofs.YtaenfjplagiioaaGreatDoor.L
open Go Go.RowKit Go.Proofs.YtaenfjplagiioaaGreatDoor.Pl
section
mutual
def Fm.cnt:Fm→Nat
 | .mk _ _ _ ks=>cntL ks+1
def cntL:List Fm→Nat
 | []=>0
 | f::r=>f.cnt+cntL r
end
theorem cnt_pos (f:Fm):0<f.cnt:=by cases f;simp only[Fm.cnt];omega
theorem cntL_mem {f:Fm}:∀ {l:List Fm},f∈l→f.cnt≤cntL l
 | g::l,h=>by
  simp only[cntL]
  rcases List.mem_cons.1 h with rfl | h
  ·omega
  ·have:=cntL_mem h;omega
theorem cntL_len:∀ l:List Fm,l.length≤cntL l
 | []=>Nat.le_refl _
 | g::l=>by
  have:=cntL_len l
  have:=cnt_pos g
  simp only[cntL,List.length_cons];omega
theorem cnt_kids (f:Fm):f.cnt=cntL f.kids+1:=by cases f;rfl
mutual
def Fm.sz:Fm→Nat
 | .mk k _ _ ks=>if k=3 then szL ks+1 else 1
def szL:List Fm→Nat
 | []=>0
 | f::r=>f.sz+szL r
end
mutual
def Fm.dp:Fm→Nat
 | .mk k _ _ ks=>if k=3 then dpL ks+1 else 1
def dpL:List Fm→Nat
 | []=>0
 | f::r=>max f.dp (dpL r)
end
mutual
theorem sz_le:∀ f:Fm,f.sz≤f.cnt
 | .mk k n t ks=>by
  have:=szL_le ks
  simp only[Fm.sz,Fm.cnt]
  split <;> omega
theorem szL_le:∀ l:List Fm,szL l≤cntL l
 | []=>Nat.le_refl _
 | f::r=>by
  have:=sz_le f
  have:=szL_le r
  simp only[szL,cntL];omega
end
mutual
theorem dp_le:∀ f:Fm,f.dp≤f.cnt
 | .mk k n t ks=>by
  have:=dpL_le ks
  simp only[Fm.dp,Fm.cnt]
  split <;> omega
theorem dpL_le:∀ l:List Fm,dpL l≤cntL l
 | []=>Nat.le_refl _
 | f::r=>by
  have:=dp_le f
  have:=dpL_le r
  simp only[dpL,cntL];omega
end
theorem wrN {z:Int} (h1:-1000000000≤z) (h2:z≤1000000000):IntKind.i64.wrap z=z:=by
 unfold IntKind.wrap
 simp[IntKind.signed,IntKind.bits]
 omega
mutual
theorem zs_eq:∀ f:Fm,f.cnt≤1000000→f.zs=(f.sz:Int)
 | .mk k n t ks,h=>by
  simp only[Fm.cnt] at h
  simp only[Fm.zs,Fm.sz]
  split
  ·have:=zsl_eq ks 1 (by omega) (by omega)
   rw[show (1:Int)=((1:Nat):Int) from rfl,this];push_cast;omega
  ·rfl
theorem zsl_eq:∀ (l:List Fm) (a:Nat),cntL l≤1000000→a+cntL l≤2000000→zsl a l=(a+szL l:Nat)
 | [],a,_,_=>by simp[zsl,szL]
 | f::r,a,h,h'=>by
  simp only[cntL] at h h'
  have h1:=zs_eq f (by omega)
  have h2:=sz_le f
  simp only[zsl,szL]
  rw[h1,wrN (by omega) (by omega)]
  have:=zsl_eq r (a+f.sz) (by omega) (by omega)
  push_cast at this
  rw[this];push_cast;omega
end
mutual
theorem zd_eq:∀ f:Fm,f.cnt≤1000000→f.zd=(f.dp:Int)
 | .mk k n t ks,h=>by
  simp only[Fm.cnt] at h
  have hd:=dpL_le ks
  simp only[Fm.zd,Fm.dp]
  split
  ·have:=zdl_eq ks 0 (by omega)
   simp only[Nat.zero_max] at this
   rw[show (0:Int)=((0:Nat):Int) from rfl,this,wrN (by omega) (by omega)];push_cast;omega
  ·rw[wrN (by omega) (by omega)];rfl
theorem zdl_eq:∀ (l:List Fm) (a:Nat),cntL l≤1000000→zdl a l=(max a (dpL l):Nat)
 | [],a,_=>by simp[zdl,dpL]
 | f::r,a,h=>by
  simp only[cntL] at h
  have h1:=zd_eq f (by omega)
  simp only[zdl,dpL]
  rw[h1]
  by_cases hc:(f.dp:Int)>(a:Int)
  ·rw[if_pos hc,zdl_eq r f.dp (by omega)]
   congr 1;omega
  ·rw[if_neg hc,zdl_eq r a (by omega)]
   congr 1;omega
end
end
section
theorem leaf_kids {k n:Int} {t:ByteArray} {ks:List Fm} (h:leafB k n t ks=true) (h3:k≠3):ks=[]:=by
 have key:nokids ks=true→ks=[]:=fun h=>by
  unfold nokids at h
  rw[rows_len] at h
  have:=eq_of_beq h
  exact List.eq_nil_of_length_eq_zero (by omega)
 unfold leafB at h
 split at h
 ·simp only[Bool.and_eq_true] at h;exact key h.1.1.2
 ·split at h
  ·simp only[Bool.and_eq_true] at h;exact key h.2
  ·split at h
   ·simp only[Bool.and_eq_true] at h;exact key h.2
   ·split at h
    ·rename_i h';exact absurd (eq_of_beq h') h3
    ·cases h
theorem wini_eq (t:ByteArray):(wini t&&allB visB t)=wordB t:=by
 unfold wini wordB notE
 rw[noneEmpty]
 have:decide (0<t.size)=decide ((t.size:Int)≥1):=by rw[decide_eq_decide];omega
 rw[this]
 cases allB visB t <;> cases decide ((t.size:Int)≥1) <;> cases decide ((t.size:Int)≤30) <;> cases digits t <;> rfl
theorem fl_eq (k n:Int) (t:ByteArray) (ks:List Fm):(Fm.mk k n t ks).fl=(leafB k n t ks&&fls ks):=by
 have hkz:ks=[]→fls ks=true:=fun h=>by rw[h];rfl
 have hnk:decide (((rows ks).length:Int)>0)=!nokids ks:=by
  unfold nokids
  rw[rows_len]
  cases ks with
  | nil=>rfl
  | cons a l =>
   simp
   omega
 have hem:notE t=!emp t:=rfl
 have hk0:nokids ks=true→ks=[]:=fun h=>by
  unfold nokids at h
  rw[rows_len] at h
  have:=eq_of_beq h
  exact List.eq_nil_of_length_eq_zero (by omega)
 unfold Fm.fl
 rw[hnk,hem]
 by_cases h0:k=0
 ·subst h0
  unfold leafB
  cases hn:nokids ks with
  | false=>cases emp t <;> simp
  | true=>rw[hkz (hk0 hn)];cases emp t <;> simp
 ·have e0:(k==0)=false:=by simpa using h0
  have e0':(k != 0)=true:=by simpa using h0
  unfold leafB
  rw[e0,e0']
  by_cases h1:k=1
  ·subst h1
   rw[←wini_eq]
   cases hn:nokids ks with
   | false=>cases (n==0) <;> simp
   | true =>
    rw[hkz (hk0 hn)]
    have:(n != 0)=!(n==0):=rfl
    rw[this]
    cases (n==0) <;> simp
  ·have e1:(k==1)=false:=by simpa using h1
   have e1':(k != 1)=true:=by simpa using h1
   rw[e1,e1']
   by_cases h2:k=2
   ·subst h2
    unfold textB
    have:(n != 0)=!(n==0):=rfl
    rw[this]
    cases hn:nokids ks with
    | false=>cases (n==0) <;> simp
    | true =>
     rw[hkz (hk0 hn)]
     cases (n==0) <;> cases allB (fun c=>!badT c) t <;> cases decide ((t.size:Int)≤2000) <;> simp
   ·have e2:(k==2)=false:=by simpa using h2
    have e2':(k != 2)=true:=by simpa using h2
    rw[e2,e2']
    have:(n != 0)=!(n==0):=rfl
    rw[this]
    by_cases h3:k=3
    ·subst h3
     cases (n==0) <;> cases emp t <;> simp
    ·have e3:(k==3)=false:=by simpa using h3
     rw[e3]
     cases (n==0) <;> cases emp t <;> simp
mutual
theorem vl_eq:∀ (f:Fm) (p d:Nat),f.cnt≤1000000→p≤1000000000→d≤1000000000 →
  (f.fl=true→f.sz≤p→f.dp≤d→vl f p d=(true,((p-f.sz:Nat):Int)))∧((vl f p d).1=true→f.fl=true∧f.sz≤p∧f.dp≤d)
 | .mk k n t ks,p,d,hc,hp,hd=>by
  simp only[Fm.cnt] at hc
  have hdp:dn (p:Int)=(p:Int)-1:=by unfold dn;exact wrN (by omega) (by omega)
  have hdd:dn (d:Int)=(d:Int)-1:=by unfold dn;exact wrN (by omega) (by omega)
  rw[fl_eq]
  unfold vl
  rw[hdp,hdd]
  cases hl:leafB k n t ks with
  | false =>
   simp
  | true =>
   by_cases hp0:p=0
   ·subst hp0
    have h1:1≤(Fm.mk k n t ks).sz:=by simp only[Fm.sz];split <;> omega
    refine⟨fun _ h2 _=>by omega,fun h=>?_⟩
    simp at h
   ·by_cases hd0:d=0
    ·subst hd0
     have h1:1≤(Fm.mk k n t ks).dp:=by simp only[Fm.dp];split <;> omega
     refine⟨fun _ _ h2=>by omega,fun h=>?_⟩
     simp at h
    ·have c1:decide ((p:Int)-1<0)=false:=decide_eq_false (by omega)
     have c2:((d:Int)==0)=false:=by
      have:¬ (d:Int)=0:=by omega
      simpa using this
     rw[c1,c2]
     simp only[Bool.or_self,Bool.not_true,Bool.false_eq_true,if_false,Bool.true_and]
     have ep:(p:Int)-1=((p-1:Nat):Int):=by omega
     have ed:(d:Int)-1=((d-1:Nat):Int):=by omega
     rw[ep,ed]
     have ih:=vls_eq ks (p-1) (d-1) (by omega) (by omega) (by omega)
     by_cases h3:k=3
     ·have es:(Fm.mk k n t ks).sz=szL ks+1:=by simp only[Fm.sz,h3,if_true]
      have edp:(Fm.mk k n t ks).dp=dpL ks+1:=by simp only[Fm.dp,h3,if_true]
      rw[es,edp]
      refine⟨fun h1 h2 h4=>?_,fun h=>?_⟩
      ·rw[ih.1 h1 (by omega) (by omega)]
       congr 2;omega
      ·obtain⟨h1,h2,h4⟩:=ih.2 h
       exact⟨h1,by omega,by omega⟩
     ·have hk:=leaf_kids hl h3
      subst hk
      have es:(Fm.mk k n t []).sz=1:=by simp only[Fm.sz,h3,if_false]
      have edp:(Fm.mk k n t []).dp=1:=by simp only[Fm.dp,h3,if_false]
      rw[es,edp]
      exact⟨fun _ _ _=>rfl,fun _=>⟨rfl,by omega,by omega⟩⟩
theorem vls_eq:∀ (l:List Fm) (p d:Nat),cntL l≤1000000→p≤1000000000→d≤1000000000 →
  (fls l=true→szL l≤p→dpL l≤d→vls l p d=(true,((p-szL l:Nat):Int)))∧((vls l p d).1=true→fls l=true∧szL l≤p∧dpL l≤d)
 | [],p,d,_,_,_=>by simp[vls,fls,szL,dpL]
 | f::r,p,d,hc,hp,hd=>by
  simp only[cntL] at hc
  have h1:=vl_eq f p d (by omega) hp hd
  simp only[fls,szL,dpL,Bool.and_eq_true]
  constructor
  ·rintro⟨a1,a2⟩ a3 a4
   have e:=h1.1 a1 (by omega) (by omega)
   have h2:=(vls_eq r (p-f.sz) d (by omega) (by omega) hd).1 a2 (by omega) (by omega)
   simp only[vls,e,h2]
   congr 2;omega
  ·intro h
   simp only[vls] at h
   cases hv:vl f p d with
   | mk b q =>
    rw[hv] at h
    cases b with
    | false=>simp at h
    | true =>
     simp only at h
     obtain⟨a1,a2,a3⟩:=h1.2 (by rw[hv])
     have e:=h1.1 a1 a2 a3
     rw[hv] at e
     injection e with _ e
     rw[e] at h
     obtain⟨b1,b2,b3⟩:=(vls_eq r (p-f.sz) d (by omega) (by omega) hd).2 h
     exact⟨⟨a1,b1⟩,by omega,by omega⟩
end
theorem valid_eq (f:Fm) (h:f.cnt≤1000000):pvalidB f=validB f:=by
 unfold pvalidB validB
 rw[zs_eq f h,zd_eq f h]
 have hv:=vl_eq f 20000 100 h (by omega) (by omega)
 rw[Bool.eq_iff_iff]
 simp only[Bool.and_eq_true,decide_eq_true_eq]
 constructor
 ·intro h
  obtain⟨a,b,c⟩:=hv.2 h
  exact⟨a,by omega,by omega⟩
 ·rintro⟨a,b,c⟩
  have:=hv.1 a (by omega) (by omega)
  have e:vl f 20000 100=vl f ((20000:Nat):Int) ((100:Nat):Int):=rfl
  rw[e,this]
end
section
theorem lenIs_dec (ks:List Fm) (n:Nat):lenIs ks (n:Int)=decide (ks.length=n):=by
 unfold lenIs
 rw[rows_len,Bool.eq_iff_iff]
 simp only[beq_iff_eq,decide_eq_true_eq]
 omega
theorem lenGe_dec (ks:List Fm) (n:Nat):lenGe ks (n:Int)=decide (n≤ks.length):=by
 unfold lenGe
 rw[rows_len,decide_eq_decide]
 omega
theorem cm_eq {c:Fm} (h:2≤c.kids.length):cmdsOf c=rcm c:=by
 unfold cmdsOf rcm restOf
 rw[List.length_drop,List.drop_take,List.drop_take,List.drop_drop]
 congr 1
theorem clk_true {c:Fm} {s:ByteArray} (hs:0<s.size) (h:hEq c s=true):clKind c=true∧∃ g r,c.kids=g::r:=by
 obtain⟨h1,g,r,h2⟩:=head_kids hs h
 refine⟨?_,g,r,h2⟩
 have h3:lenGe c.kids 1=true:=by
  have:=lenGe_dec c.kids 1
  rw[h2] at this
  rw[h2]
  exact this.trans (by simp)
 unfold clKind
 rw[h3,h1];rfl
theorem cl_eq (c:Fm) (hb:hEq c sBlock=false):(clKind c&&clauseOK c)=rclB c:=by
 unfold clauseOK rclB
 cases h0:hEq c sRequires with
 | true =>
  obtain⟨hk,g,r,e⟩:=clk_true (by decide) h0
  rw[hk]
  simp only[if_true,Bool.true_and]
  have h1:=lenIs_dec (restOf c) 1
  have h2:=lenIs_dec c.kids 2
  unfold restOf at h1 ⊢
  rw[e] at h1 h2 ⊢
  refine h1.trans (Eq.trans ?_ h2.symm)
  simp
 | false =>
 cases h1:hEq c sEnsures with
 | true =>
  obtain⟨hk,g,r,e⟩:=clk_true (by decide) h1
  rw[hk]
  simp only[if_true,Bool.true_and,Bool.false_eq_true,if_false]
  have h1:=lenIs_dec (restOf c) 1
  have h2:=lenIs_dec c.kids 2
  unfold restOf at h1 ⊢
  rw[e] at h1 h2 ⊢
  refine h1.trans (Eq.trans ?_ h2.symm)
  simp
 | false =>
 cases h2:hEq c sModifies with
 | true =>
  obtain⟨hk,g,r,e⟩:=clk_true (by decide) h2
  rw[hk]
  simp only[if_true,Bool.true_and,Bool.false_eq_true,if_false]
  rfl
 | false =>
 cases h3:hEq c sLocal with
 | true =>
  obtain⟨hk,g,r,e⟩:=clk_true (by decide) h3
  rw[hk,r0_eq]
  simp only[if_true,Bool.true_and,Bool.false_eq_true,if_false]
  have h1:=lenIs_dec (restOf c) 2
  have h2:=lenIs_dec (restOf c) 3
  have h1:lenIs (restOf c) 2=_:=h1
  have h2:lenIs (restOf c) 3=_:=h2
  rw[h1,h2,rows_len]
  have hl:c.kids.length=(restOf c).length+1:=by unfold restOf;rw[e];simp
  generalize isNm (c.kids.getD 1 w0)=b
  generalize (restOf c).length=n at hl
  rw[hl,Bool.eq_iff_iff]
  simp only[Bool.and_eq_true,Bool.or_eq_true,decide_eq_true_eq,Bool.not_eq_true',Bool.or_eq_false_iff,decide_eq_false_iff_not,Bool.not_eq_false']
  constructor
  ·rintro⟨h,hb⟩;exact⟨⟨by omega,by omega⟩,hb⟩
  ·rintro⟨⟨h1,h2⟩,hb⟩;exact⟨by omega,hb⟩
 | false =>
  rw[hb]
  simp only[Bool.false_eq_true,if_false,Bool.and_false]
theorem blk_eq (c:Fm) (hb:hEq c sBlock=true):(clKind c&&clauseOK c)=rblkB c:=by
 have h0:hEq c sRequires=false:=hEq_ne hb (by decide)
 have h1:hEq c sEnsures=false:=hEq_ne hb (by decide)
 have h2:hEq c sModifies=false:=hEq_ne hb (by decide)
 have h3:hEq c sLocal=false:=hEq_ne hb (by decide)
 obtain⟨hk,g,r,e⟩:=clk_true (by decide) hb
 unfold clauseOK rblkB preB blockOK
 rw[h0,h1,h2,h3,hb,hk,r0_eq]
 simp only[if_true,Bool.true_and,Bool.false_eq_true,if_false,Bool.not_true,Bool.false_or]
 have hg:lenGe (restOf c) 2=decide (2≤(restOf c).length):=lenGe_dec (restOf c) 2
 have hl:c.kids.length=(restOf c).length+1:=by unfold restOf;rw[e];simp
 rw[hg,rows_len]
 by_cases h:2≤(restOf c).length
 ·rw[cm_eq (by omega),←fin_eq (by omega),decide_eq_true h,decide_eq_false (by omega)]
  simp
 ·rw[decide_eq_false h,decide_eq_true (by omega)]
  simp
theorem nb_false {c:Fm} (h:hEq c sBlock=true):nb c=false:=by unfold nb;rw[h];rfl
theorem nb_true {c:Fm} (h:hEq c sBlock=false):nb c=true:=by unfold nb;rw[h];rfl
theorem rblkB_head {c:Fm} (h:rblkB c=true):hEq c sBlock=true:=by
 unfold rblkB preB at h
 cases hb:hEq c sBlock with
 | true=>rfl
 | false=>rw[hb] at h;simp at h
theorem cls_blk:∀ (l:List Fm) (S:PS),0<S.b.length→clsOK S l=l.all rblkB
 | [],S,_=>rfl
 | c::l,S,h=>by
  have hz:((S.b.length:Int)==0)=false:=by
   have:¬ (S.b.length:Int)=0:=by omega
   simpa using this
  have hs:0<(stepP S c).b.length:=by
   rw[stepP_b]
   split
   ·rw[List.length_append];omega
   ·exact h
  unfold clsOK
  rw[cls_blk l _ hs,hz,Bool.or_false,List.all_cons]
  congr 1
  cases hb:hEq c sBlock with
  | true=>rw[Bool.and_true,blk_eq c hb]
  | false =>
   rw[Bool.and_false,Bool.false_and]
   cases hr:rblkB c with
   | false=>rfl
   | true=>rw[rblkB_head hr] at hb;cases hb
theorem cls_eq:∀ (l:List Fm) (S:PS),S.b=[]→clsOK S l=rd1 l
 | [],S,_=>rfl
 | c::l,S,h=>by
  unfold clsOK rd1
  have hz:((S.b.length:Int)==0)=true:=by rw[h];rfl
  rw[hz,Bool.or_true,Bool.and_true]
  cases hb:hEq c sBlock with
  | true =>
   have hs:0<(stepP S c).b.length:=by rw[stepP_b,hb,if_pos rfl,List.length_append];simp
   rw[cls_blk l _ hs,blk_eq c hb]
   simp only[List.takeWhile,List.dropWhile,nb_false hb,List.all_nil,List.all_cons,Bool.true_and]
  | false =>
   have hs:(stepP S c).b=[]:=by rw[stepP_b,hb];simpa using h
   rw[cls_eq l _ hs,cl_eq c hb]
   unfold rd1
   simp only[List.takeWhile,List.dropWhile,nb_true hb,List.all_cons,Bool.and_assoc]
theorem bs_eq {l:List Fm} (h:rd1 l=true):l.dropWhile nb=blksOf l:=by
 unfold rd1 at h
 rw[Bool.and_eq_true] at h
 have key:∀ m:List Fm,(m.dropWhile nb).all rblkB=true→m.dropWhile nb=blksOf m:=by
  intro m
  induction m with
  | nil=>intro _;rfl
  | cons c m ih =>
   intro h
   cases hb:hEq c sBlock with
   | true =>
    simp only[List.dropWhile,nb_false hb] at h ⊢
    unfold blksOf
    symm
    rw[List.filter_eq_self]
    intro x hx
    exact rblkB_head (List.all_eq_true.1 h x hx)
   | false =>
    simp only[List.dropWhile,nb_true hb] at h ⊢
    rw[ih h]
    unfold blksOf
    rw[List.filter_cons_of_neg (by simp[hb])]
 exact key l h.2
theorem shaped_eq (f:Fm) (h:f.cnt≤1000000):shapedB f=(rdB f&&namedB (blksOf (f.kids.drop 4))):=by
 unfold shapedB rdB rd0 rdV procOK
 rw[valid_eq f h,cls_eq _ _ rfl]
 have hg:lenGe f.kids 4=decide (4≤f.kids.length):=lenGe_dec f.kids 4
 have hd:decide (((rows f.kids).length:Int)<4)=!decide (4≤f.kids.length):=by
  rw[rows_len]
  by_cases h:4≤f.kids.length
  ·rw[decide_eq_true h,decide_eq_false (by omega)];rfl
  ·rw[decide_eq_false h,decide_eq_true (by omega)];rfl
 rw[hg,hd]
 cases validB f <;> cases hEq f sProc <;> cases decide (4≤f.kids.length) <;> cases isNm (f.kids.getD 1 w0) <;> cases varsOK (f.kids.getD 2 w0) <;> cases varsOK (f.kids.getD 3 w0) <;> simp
end
section
theorem cget {C:List Nat} {i c:Nat} (hi:i<C.length) (j:Nat):(C.set i c).getD j 0=if j=i then c else C.getD j 0:=by
 simp only[List.getD,List.getElem?_set]
 by_cases h:j=i
 ·subst h;simp[hi]
 ·have:¬ i=j:=fun e=>h e.symm
  simp[h,this]
theorem cbeq (x c:Nat):((x:Int)==(c:Int))=decide (x=c):=by
 rw[Bool.eq_iff_iff];simp only[beq_iff_eq,decide_eq_true_eq];omega
theorem cir_step (g:Gr) (f i:Nat) (C:List Nat):cirF g [] (f+1) i C=if C.getD i 0=2 then (false,C) else if C.getD i 0=1 then (true,C) else
   match anyK (cirF g [] f) (g.getD i []) (C.set i 1) with
   | (true,C')=>(true,C')
   | (false,C')=>(false,C'.set i 2):=by
 have h2:((C.getD i 0:Int)==2)=decide (C.getD i 0=2):=cbeq _ 2
 have h1:((C.getD i 0:Int)==1)=decide (C.getD i 0=1):=cbeq _ 1
 conv=>lhs;unfold cirF
 rw[h2,h1]
 unfold isHd
 simp only[List.any_nil,Bool.false_or,decide_eq_true_eq]
 rfl
def Gry (C C':List Nat):Prop:=C'.length=C.length∧(∀ j,C'.getD j 0=1↔C.getD j 0=1)∧∀ j,C.getD j 0=2→C'.getD j 0=2
theorem Gry.refl (C:List Nat):Gry C C:=⟨rfl,fun _=>Iff.rfl,fun _ h=>h⟩
theorem Gry.trans {A B C:List Nat} (h:Gry A B) (h':Gry B C):Gry A C:=⟨h'.1.trans h.1,fun j=>(h'.2.1 j).trans (h.2.1 j),fun j e=>h'.2.2 j (h.2.2 j e)⟩
theorem any_gry {F:Nat→List Nat→Bool×List Nat} {n:Nat} (hF:∀ k C C',k<n→C.length=n→F k C=(false,C')→Gry C C'):∀ (l C C':List Nat),(∀ k∈l,k<n)→C.length=n→anyK F l C=(false,C')→Gry C C'
 | [],C,C',_,_,h=>by
  simp only[anyK,Prod.mk.injEq,true_and] at h
  subst h;exact Gry.refl _
 | k::l,C,C',hl,hn,h=>by
  unfold anyK at h
  split at h
  ·cases h
  ·rename_i D e
   have h1:=hF k C D (hl k (by simp)) hn e
   exact h1.trans (any_gry hF l D C' (fun x hx=>hl x (by simp[hx])) (h1.1.trans hn) h)
theorem cir_gry (g:Gr) (hg:GrOK g):∀ (f i:Nat) (C C':List Nat),i<g.length→C.length=g.length→cirF g [] f i C=(false,C')→Gry C C'
 | 0,i,C,C',_,_,h=>by
  simp only[cirF,Prod.mk.injEq,true_and] at h
  subst h;exact Gry.refl _
 | f+1,i,C,C',hi,hn,h=>by
  rw[cir_step] at h
  split at h
  ·injection h with _ h;subst h;exact Gry.refl _
  ·rename_i h2
   split at h
   ·cases h
   ·rename_i h1
    split at h
    ·cases h
    ·rename_i D e
     injection h with _ h
     subst h
     have hs:∀ k∈g.getD i [],k<g.length:=fun k hk=>by
      rw[getD_at hi] at hk
      exact hg.lt _ (List.getElem_mem hi) k hk
     have hG:=any_gry (n:=g.length) (fun k C C' hk hC e=>cir_gry g hg f k C C' hk hC e) _ _ _ hs (by simpa using hn) e
     have hDl:D.length=g.length:=by rw[hG.1];simpa using hn
     refine⟨by simp[hDl,hn],fun j=>?_,fun j hj=>?_⟩
     ·rw[cget (by omega)]
      by_cases ej:j=i
      ·rw[if_pos ej];subst ej
       exact⟨fun h=>absurd h (by decide),fun h=>absurd h h1⟩
      ·rw[if_neg ej,hG.2.1 j,cget (by omega),if_neg ej]
     ·rw[cget (by omega)]
      by_cases ej:j=i
      ·subst ej;exact absurd hj h2
      ·rw[if_neg ej]
       refine hG.2.2 j ?_
       rw[cget (by omega),if_neg ej];exact hj
def Cir (g:Gr) (b:Nat):Prop:=∃ s∈g.getD b [],Rch g (-1) s b
theorem any_true {F:Nat→List Nat→Bool×List Nat} {n:Nat} {P:Prop} (G:List Nat→Prop) (hF:∀ k C C',k<n→C.length=n→F k C=(false,C')→G C→C'.length=n∧G C') :
  ∀ (l C C':List Nat),(∀ k∈l,k<n)→C.length=n→G C→(∀ k∈l,∀ C C',C.length=n→G C→F k C=(true,C')→P)→anyK F l C=(true,C')→P
 | [],C,C',_,_,_,_,h=>by simp[anyK] at h
 | k::l,C,C',hl,hn,hG,hP,h=>by
  unfold anyK at h
  split at h
  ·rename_i D e;exact hP k (by simp) C D hn hG e
  ·rename_i D e
   have h1:=hF k C D (hl k (by simp)) hn e hG
   exact any_true G hF l D C' (fun x hx=>hl x (by simp[hx])) h1.1 h1.2 (fun x hx=>hP x (by simp[hx])) h
theorem cir_true (g:Gr) (hg:GrOK g):∀ (f i p:Nat) (C C':List Nat),i<g.length→C.length=g.length→(∀ j,C.getD j 0=1→Rch g (-1) j p)→i∈g.getD p []→cirF g [] f i C=(true,C')→∃ b,Rch g (-1) p b∧Cir g b
 | 0,i,p,C,C',_,_,_,_,h=>by simp[cirF] at h
 | f+1,i,p,C,C',hi,hn,hgr,hip,h=>by
  rw[cir_step] at h
  split at h
  ·cases h
  ·split at h
   ·rename_i h1
    exact⟨p,.refl (neg1 _),i,hip,hgr i h1⟩
   ·split at h
    ·rename_i D e
     have hs:∀ k∈g.getD i [],k<g.length:=fun k hk=>by
      rw[getD_at hi] at hk
      exact hg.lt _ (List.getElem_mem hi) k hk
     have hpi:Rch g (-1) p i:=.step (.refl (neg1 _)) hip (neg1 _)
     have:=any_true (n:=g.length) (P:=∃ b,Rch g (-1) i b∧Cir g b) (fun C=>∀ j,C.getD j 0=1→Rch g (-1) j i)
      (fun k C C' hk hC e hG=>by
       have:=cir_gry g hg f k C C' hk hC e
       exact⟨this.1.trans hC,fun j hj=>hG j ((this.2.1 j).1 hj)⟩) _ _ _ hs (by simpa using hn)
      (fun j hj=>by
       rw[cget (by omega)] at hj
       by_cases ej:j=i
       ·subst ej;exact .refl (neg1 _)
       ·rw[if_neg ej] at hj
        exact (hgr j hj).trans hpi)
      (fun k hk C C' hC hG e=>cir_true g hg f k i C C' (hs k hk) hC hG hk e) e
     obtain⟨b,h1,h2⟩:=this
     exact⟨b,hpi.trans h1,h2⟩
    ·cases h
def Blk (g:Gr) (C:List Nat):Prop:=∀ b,C.getD b 0=2→(∀ s∈g.getD b [],C.getD s 0=2)∧¬ Cir g b
theorem Blk.rch {g:Gr} {C:List Nat} (h:Blk g C) {a b:Nat} (ha:C.getD a 0=2) (hr:Rch g (-1) a b):C.getD b 0=2:=by
 induction hr with
 | refl _=>exact ha
 | step _ hc _ ih=>exact (h _ ih).1 _ hc
theorem any_false {F:Nat→List Nat→Bool×List Nat} {n f:Nat} {g:Gr} (hF:∀ k C C',k<n→C.length=n→white C<f→Blk g C→F k C=(false,C')→Blk g C'∧C'.getD k 0=2∧Gry C C'∧white C'≤white C) :
  ∀ (l C C':List Nat),(∀ k∈l,k<n)→C.length=n→white C<f→Blk g C→anyK F l C=(false,C')→Blk g C'∧(∀ k∈l,C'.getD k 0=2)∧Gry C C'∧white C'≤white C
 | [],C,C',_,_,_,hB,h=>by
  simp only[anyK,Prod.mk.injEq,true_and] at h
  subst h;exact⟨hB,fun k hk=>by simp at hk,Gry.refl _,Nat.le_refl _⟩
 | k::l,C,C',hl,hn,hw,hB,h=>by
  unfold anyK at h
  split at h
  ·cases h
  ·rename_i D e
   obtain⟨a1,a2,a3,a4⟩:=hF k C D (hl k (by simp)) hn hw hB e
   obtain⟨b1,b2,b3,b4⟩:=any_false hF l D C' (fun x hx=>hl x (by simp[hx])) (a3.1.trans hn) (by omega) a1 h
   refine⟨b1,fun x hx=>?_,a3.trans b3,by omega⟩
   rcases List.mem_cons.1 hx with rfl | hx
   ·exact b3.2.2 _ a2
   ·exact b2 x hx
theorem cir_false (g:Gr) (hg:GrOK g):∀ (f i:Nat) (C C':List Nat),i<g.length→C.length=g.length→white C<f→Blk g C→cirF g [] f i C=(false,C')→Blk g C'∧C'.getD i 0=2∧Gry C C'∧white C'≤white C
 | 0,i,C,C',_,_,hw,_,_=>by omega
 | f+1,i,C,C',hi,hn,hw,hB,h=>by
  have hgr:=cir_gry g hg (f+1) i C C' hi hn h
  have hwh:=(cirF_inv g [] g.length (f+1) i C hn).2
  rw[h] at hwh
  rw[cir_step] at h
  split at h
  ·rename_i h2
   injection h with _ h;subst h
   exact⟨hB,h2,hgr,Nat.le_refl _⟩
  ·rename_i h2
   split at h
   ·cases h
   ·rename_i h1
    split at h
    ·cases h
    ·rename_i D e
     injection h with _ h
     have hs:∀ k∈g.getD i [],k<g.length:=fun k hk=>by
      rw[getD_at hi] at hk
      exact hg.lt _ (List.getElem_mem hi) k hk
     have hw1:=white_lt C i (by omega) h1 h2
     have hB1:Blk g (C.set i 1):=by
      intro b hb
      rw[cget (by omega)] at hb
      by_cases eb:b=i
      ·rw[if_pos eb] at hb;cases hb
      ·rw[if_neg eb] at hb
       refine⟨fun s hs=>?_,(hB b hb).2⟩
       have:=(hB b hb).1 s hs
       rw[cget (by omega)]
       by_cases es:s=i
       ·subst es;exact absurd this h2
       ·rw[if_neg es];exact this
     obtain⟨a1,a2,a3,a4⟩:=any_false (n:=g.length) (f:=f) (fun k C C' hk hC hw hB e=>cir_false g hg f k C C' hk hC hw hB e) _ _ _ hs (by simpa using hn) (by omega) hB1 e
     have hDl:D.length=g.length:=by rw[a3.1];simpa using hn
     have hDi:D.getD i 0=1:=(a3.2.1 i).2 (by rw[cget (by omega),if_pos rfl])
     subst h
     refine⟨fun b hb=>?_,by rw[cget (by omega),if_pos rfl],hgr,hwh⟩
     have hsd:∀ s,D.getD s 0=2→(D.set i 2).getD s 0=2:=fun s h=>by
      rw[cget (by omega)]
      by_cases es:s=i
      ·rw[if_pos es]
      ·rw[if_neg es];exact h
     rw[cget (by omega)] at hb
     by_cases eb:b=i
     ·subst eb
      refine⟨fun s hs=>hsd s (a2 s hs),?_⟩
      rintro⟨s,hs,hr⟩
      have:=a1.rch (a2 s hs) hr
      rw[hDi] at this;cases this
     ·rw[if_neg eb] at hb
      exact⟨fun s hs=>hsd s ((a1 b hb).1 s hs),(a1 b hb).2⟩
theorem circ_iff (g:Gr) (hg:GrOK g):circ g []=true↔¬ NoCirc g:=by
 have hno:NoCirc g↔∀ i,Rch g (-1) 0 i→¬ Cir g i:=by
  unfold NoCirc Cir
  constructor
  ·rintro h i hi ⟨s,h1,h2⟩;exact h i s hi h1 h2
  ·intro h i k h1 h2 h3;exact h i h1 ⟨k,h2,h3⟩
 have hrng:∀ k∈List.range g.length,k<g.length:=fun k hk=>List.mem_range.1 hk
 have hrep:∀ j,(List.replicate g.length 0).getD j 0=0:=fun j=>by
  simp only[List.getD,List.getElem?_replicate]
  split <;> rfl
 constructor
 ·intro h hn
  unfold circ at h
  rw[hno] at hn
  have h:∃ D,anyK (fun k C=>if (reachL g (-1)).getD k false=true then cirF g [] (g.length+1) k C else (false,C)) (List.range g.length) (List.replicate g.length 0)=(true,D):=⟨_,Prod.ext h rfl⟩
  obtain⟨D,h⟩:=h
  refine any_true (n:=g.length) (P:=False) (fun C=>∀ j,C.getD j 0≠1) (fun k C C' hk hC e hG=>?_) _ _ _ hrng (by simp) (fun j=>by rw[hrep];omega) (fun k hk C C' hC hG e=>?_) h
  ·by_cases hr:(reachL g (-1)).getD k false=true
   ·rw[if_pos hr] at e
    have:=cir_gry g hg _ k C C' hk hC e
    exact⟨this.1.trans hC,fun j hj=>hG j ((this.2.1 j).1 hj)⟩
   ·rw[if_neg hr] at e
    injection e with _ e;subst e
    exact⟨hC,hG⟩
  ·have hk:=hrng k hk
   by_cases hr:(reachL g (-1)).getD k false=true
   ·rw[if_pos hr] at e
    have h0k:=(reachL_get g hg (-1) k hk).1 hr
    rw[cir_step] at e
    split at e
    ·cases e
    ·split at e
     ·rename_i h1;exact hG k h1
     ·split at e
      ·rename_i E e2
       have hs:∀ x∈g.getD k [],x<g.length:=fun x hx=>by
        rw[getD_at hk] at hx
        exact hg.lt _ (List.getElem_mem hk) x hx
       have:=any_true (n:=g.length) (P:=∃ b,Rch g (-1) k b∧Cir g b) (fun C=>∀ j,C.getD j 0=1→Rch g (-1) j k)
        (fun x C C' hx hC e hG=>by
         have:=cir_gry g hg _ x C C' hx hC e
         exact⟨this.1.trans hC,fun j hj=>hG j ((this.2.1 j).1 hj)⟩) _ _ _ hs (by simpa using hC)
        (fun j hj=>by
         rw[cget (by omega)] at hj
         by_cases ej:j=k
         ·subst ej;exact .refl (neg1 _)
         ·rw[if_neg ej] at hj
          exact absurd hj (hG j))
        (fun x hx C C' hC hG e=>cir_true g hg _ x k C C' (hs x hx) hC hG hx e) e2
       obtain⟨b,h1,h2⟩:=this
       exact hn b (h0k.trans h1) h2
      ·cases e
   ·rw[if_neg hr] at e;cases e
 ·intro h
  cases hc:circ g [] with
  | true=>rfl
  | false =>
   refine absurd (hno.2 fun i hi=>?_) h
   unfold circ at hc
   have hc:∃ D,anyK (fun k C=>if (reachL g (-1)).getD k false=true then cirF g [] (g.length+1) k C else (false,C)) (List.range g.length) (List.replicate g.length 0)=(false,D):=⟨_,Prod.ext hc rfl⟩
   obtain⟨D,hc⟩:=hc
   by_cases h0:0<g.length
   ·have hil:=Rch.lt hg h0 hi
    have key:∀ (l C D:List Nat),(∀ k∈l,k<g.length)→C.length=g.length→white C<g.length+1→Blk g C →
      anyK (fun k C=>if (reachL g (-1)).getD k false=true then cirF g [] (g.length+1) k C else (false,C)) l C=(false,D)→Blk g D∧(∀ k∈l,Rch g (-1) 0 k→D.getD k 0=2)∧∀ j,C.getD j 0=2→D.getD j 0=2:=by
     intro l
     induction l with
     | nil =>
      intro C D _ _ _ hB h
      simp only[anyK,Prod.mk.injEq,true_and] at h
      subst h;exact⟨hB,fun k hk=>by simp at hk,fun _ h=>h⟩
     | cons k l ih =>
      intro C D hl hn hw hB h
      unfold anyK at h
      split at h
      ·cases h
      ·rename_i E e
       have hk:=hl k (by simp)
       by_cases hr:(reachL g (-1)).getD k false=true
       ·rw[if_pos hr] at e
        obtain⟨a1,a2,a3,a4⟩:=cir_false g hg _ k C E hk hn hw hB e
        obtain⟨b1,b2,b3⟩:=ih E D (fun x hx=>hl x (by simp[hx])) (a3.1.trans hn) (by omega) a1 h
        refine⟨b1,fun x hx hrx=>?_,fun j hj=>b3 j (a3.2.2 j hj)⟩
        rcases List.mem_cons.1 hx with rfl | hx
        ·exact b3 _ a2
        ·exact b2 x hx hrx
       ·rw[if_neg hr] at e
        injection e with _ e;subst e
        obtain⟨b1,b2,b3⟩:=ih C D (fun x hx=>hl x (by simp[hx])) hn hw hB h
        refine⟨b1,fun x hx hrx=>?_,b3⟩
        rcases List.mem_cons.1 hx with rfl | hx
        ·exact absurd ((reachL_get g hg (-1) _ hk).2 hrx) hr
        ·exact b2 x hx hrx
    have hwh:white (List.replicate g.length 0)<g.length+1:=by
     have:white (List.replicate g.length 0)≤(List.replicate g.length 0).length:=List.countP_le_length
     rw[List.length_replicate] at this
     omega
    obtain⟨a1,a2,_⟩:=key _ _ D hrng (by simp) hwh (fun b hb=>by rw[hrep] at hb;cases hb) hc
    exact (a1 i (a2 i (List.mem_range.2 hil) hi)).2
   ·have:g=[]:=List.eq_nil_of_length_eq_zero (by omega)
    subst this
    rintro⟨s,h1,_⟩
    simp[List.getD] at h1
theorem acyc_eq (g:Gr) (hg:GrOK g):(!circ g (headsK g)&&((headsK g).length:Int)==0)=racyc g:=by
 cases hr:racyc g with
 | true =>
  have hn:=(racyc_iff g hg).1 hr
  rw[heads_none g hg hn]
  have:circ g []=false:=by
   cases hc:circ g [] with
   | false=>rfl
   | true=>exact absurd hn ((circ_iff g hg).1 hc)
  rw[this];rfl
 | false =>
  have hn:¬ NoCirc g:=fun h=>by rw[(racyc_iff g hg).2 h] at hr;cases hr
  by_cases hz:headsK g=[]
  ·rw[hz,(circ_iff g hg).2 hn];rfl
  ·have:(((headsK g).length:Int)==0)=false:=by
    have:(headsK g).length≠0:=fun e=>hz (List.eq_nil_of_length_eq_zero e)
    have:¬ ((headsK g).length:Int)=0:=by omega
    simpa using this
   rw[this,Bool.and_false]
end
section
inductive Lp (g:Gr) (h:Nat):Nat→Prop
 | base:Lp g h h
 | step {b k:Nat} (h1:Rch g (-1) 0 b) (h2:¬ Rch g h 0 b) (h3:k∈g.getD b []) (h4:Lp g h k):Lp g h b
theorem Lp.past {g:Gr} {h b:Nat} (hl:Lp g h b) (hb:b≠h):¬ Rch g h 0 b:=by
 cases hl with
 | base=>exact absurd rfl hb
 | step _ h2 _ _=>exact h2
theorem Lp.lt {g:Gr} (hg:GrOK g) {h b:Nat} (hh:h<g.length) (hl:Lp g h b):b<g.length:=by
 cases hl with
 | base=>exact hh
 | step h1 _ _ _=>exact Rch.lt hg (by omega) h1
theorem fold_flag {α:Type} {step:List Nat×Bool→α→List Nat×Bool} (h:∀ s b,(step s b).2=false→step s b=s):∀ (l:List α) (s:List Nat×Bool),(l.foldl step s).2=false→l.foldl step s=s∧∀ b∈l,step s b=s
 | [],s,_=>⟨rfl,fun b hb=>by simp at hb⟩
 | b::l,s,hf=>by
  rw[List.foldl_cons] at hf
  obtain⟨h1,h2⟩:=fold_flag h l (step s b) hf
  have h3:step s b=s:=h s b (by rw[h1] at hf;exact hf)
  rw[List.foldl_cons,h1,h3]
  refine⟨rfl,fun x hx=>?_⟩
  rcases List.mem_cons.1 hx with rfl | hx
  ·exact h3
  ·have:=h2 x hx
   rw[h3] at this;exact this
theorem grow_gen {g:Gr} {n:Nat} {step:List Nat×Bool→Nat→List Nat×Bool} {G:Nat→List Nat→List Nat}
  (hG:∀ f ks,G (f+1) ks=if ((List.range n).foldl step (ks,false)).2=true then G f ((List.range n).foldl step (ks,false)).1 else ((List.range n).foldl step (ks,false)).1)
  {Sd:Nat→Prop} {Cl:List Nat→Nat→Prop}
  (h1:∀ (s:List Nat×Bool) (b:Nat),b<n→(∀ x∈s.1,Sd x)→∀ x∈(step s b).1,Sd x)
  (h2:∀ (s:List Nat×Bool) (b:Nat),(step s b).2=false→step s b=s)
  (h3:∀ (ks:List Nat) (b:Nat),b<n→step (ks,false) b=(ks,false)→Cl ks b)
  (h4:∀ (s:List Nat×Bool) (b x:Nat),x∈s.1→x∈(step s b).1)
  (hm:∀ ks,((List.range n).foldl step (ks,false)).2=true→unseen g ((List.range n).foldl step (ks,false)).1<unseen g ks) :
  ∀ (f:Nat) (ks:List Nat),unseen g ks<f→(∀ x∈ks,Sd x)→(∀ x∈G f ks,Sd x)∧(∀ x∈ks,x∈G f ks)∧∀ b,b<n→Cl (G f ks) b
 | 0,ks,h,_=>by omega
 | f+1,ks,hf,hs=>by
  have hs1:∀ (l:List Nat) (s:List Nat×Bool),(∀ b∈l,b<n)→(∀ x∈s.1,Sd x)→(∀ x∈(l.foldl step s).1,Sd x)∧∀ x∈s.1,x∈(l.foldl step s).1:=by
   intro l
   induction l with
   | nil=>intro s _ h;exact⟨h,fun x hx=>hx⟩
   | cons b l ih =>
    intro s hb h
    obtain⟨a1,a2⟩:=ih (step s b) (fun x hx=>hb x (by simp[hx])) (h1 s b (hb b (by simp)) h)
    exact⟨a1,fun x hx=>a2 x (h4 s b x hx)⟩
  have hp:=hs1 (List.range n) (ks,false) (fun b hb=>List.mem_range.1 hb) hs
  rw[hG]
  cases hq:((List.range n).foldl step (ks,false)).2 with
  | true =>
   rw[if_pos rfl]
   obtain⟨a1,a2,a3⟩:=grow_gen hG h1 h2 h3 h4 hm f _ (by have:=hm ks hq;omega) hp.1
   exact⟨a1,fun x hx=>a2 x (hp.2 x hx),a3⟩
  | false =>
   rw[if_neg (by simp)]
   obtain⟨a1,a2⟩:=fold_flag h2 _ _ hq
   rw[a1]
   exact⟨hs,fun x hx=>hx,fun b hb=>h3 ks b hb (a2 b (List.mem_range.2 hb))⟩
theorem past_iff (g:Gr) (hg:GrOK g) (h:Nat) (h0:0<g.length) (b:Nat):b∈pastK g h↔Rch g h 0 b:=by
 unfold pastK
 by_cases e:h=0
 ·rw[if_pos e]
  subst e
  refine⟨fun h=>by simp at h,fun h=>?_⟩
  exact absurd rfl h.start
 ·rw[if_neg e]
  exact reachK_iff g hg h 0 h0 b
theorem inK_iff (g:Gr) (hg:GrOK g) (h:Nat) (hh:h<g.length) (b:Nat):b∈inK g h↔Lp g h b:=by
 have h0:0<g.length:=by omega
 have hall:∀ x,x∈reachK g 0 (-1)↔Rch g (-1) 0 x:=reachK_iff g hg (-1) 0 h0
 have hpas:=past_iff g hg h h0
 unfold inK
 generalize hA:reachK g 0 (-1)=A at hall
 generalize hPa:pastK g h=Pa at hpas
 have hst:∀ (s:List Nat×Bool) (b:Nat),stepK g A Pa s b=if (b∈A∧b∉s.1∧b∉Pa∧∃ k∈g.getD b [],k∈s.1) then (s.1++[b],true) else s:=by
  intro s b
  unfold stepK
  by_cases c1:b∈A <;> by_cases c2:b∈s.1 <;> by_cases c3:b∈Pa <;> by_cases c4:∃ k∈g.getD b [],k∈s.1 <;> simp_all
 have key:=grow_gen (g:=g) (n:=g.length) (step:=stepK g A Pa) (G:=growK g A Pa) (fun f ks=>rfl) (Sd:=Lp g h) (Cl:=fun ks b=>b∈A→b∉Pa→(∃ k∈g.getD b [],k∈ks)→b∈ks)
  (fun s b _ hs x hx=>by
   rw[hst] at hx
   split at hx
   ·rename_i hc
    obtain⟨c1,_,c3,k,c4,c5⟩:=hc
    rcases List.mem_append.1 hx with hx | hx
    ·exact hs x hx
    ·rw[List.mem_singleton] at hx
     subst hx
     exact .step ((hall _).1 c1) (fun hr=>c3 ((hpas _).2 hr)) c4 (hs k c5)
   ·exact hs x hx)
  (fun s b hf=>by
   rw[hst] at hf ⊢
   split at hf
   ·cases hf
   ·rename_i hc;rw[if_neg hc])
  (fun ks b _ he c1 c3 c4=>by
   rw[hst] at he
   split at he
   ·injection he with _ he;cases he
   ·rename_i hc
    apply Classical.byContradiction
    intro c2
    exact hc ⟨c1,c2,c3,c4⟩)
  (fun s b x hx=>by
   rw[hst]
   split
   ·exact List.mem_append_left _ hx
   ·exact hx)
  (fun ks hf=>(pass_mono g A Pa ks g.length (Nat.le_refl _)).2 hf) (g.length+1) [h] (unseen_lt g _) (fun x hx=>by rw[List.mem_singleton] at hx;subst hx;exact .base)
 obtain⟨a1,a2,a3⟩:=key
 refine⟨a1 b,fun hl=>?_⟩
 induction hl with
 | base=>exact a2 _ (by simp)
 | step h1 h2 h3 _ ih =>
  exact a3 _ (Rch.lt hg h0 h1) ((hall _).2 h1) (fun hp=>h2 ((hpas _).1 hp)) ⟨_,h3,ih⟩
theorem rIn_iff (g:Gr) (hg:GrOK g) (h:Nat) (hh:h<g.length) (b:Nat):b∈rIn g h↔Lp g h b:=by
 have h0:0<g.length:=by omega
 have hall:∀ x,x<g.length→((rRL g 0 (-1)).getD x false=true↔Rch g (-1) 0 x):=fun x hx=>rRL_get g hg (-1) 0 h0 x hx
 have hpas:∀ x,x<g.length→((rRL g 0 h).getD x false=true↔Rch g h 0 x):=fun x hx=>rRL_get g hg h 0 h0 x hx
 unfold rIn
 generalize rRL g 0 (-1)=A at hall
 generalize rRL g 0 h=Pa at hpas
 have hst:∀ (b:Nat) (s:List Nat×Bool) (k:Nat),lS A Pa h b s k=if (A.getD b false=true∧b∉s.1∧((k=h∧¬ Pa.getD b false=true)∨(k≠h∧k∈s.1))) then (s.1++[b],true) else s:=by
  intro b s k
  unfold lS
  have hk:((k:Int)==(h:Int))=decide (k=h):=cbeq k h
  have hk2:((k:Int) != (h:Int))=!decide (k=h):=by rw[←hk];rfl
  rw[hk,hk2]
  by_cases c1:A.getD b false=true <;> by_cases c2:b∈s.1 <;> by_cases c3:k=h <;> by_cases c4:Pa.getD b false=true <;> by_cases c5:k∈s.1 <;> simp_all
 have hfl:∀ (b:Nat) (s:List Nat×Bool) (k:Nat),(lS A Pa h b s k).2=false→lS A Pa h b s k=s:=fun b s k hf=>by
  rw[hst] at hf ⊢
  split at hf
  ·cases hf
  ·rename_i hc;rw[if_neg hc]
 have key:=grow_gen (g:=g) (n:=g.length) (step:=lB g A Pa h) (G:=lGrow g A Pa h) (fun f ks=>rfl) (Sd:=Lp g h) (Cl:=fun ks b=>A.getD b false=true→(∃ k∈g.getD b [],((k=h∧¬ Pa.getD b false=true)∨(k≠h∧k∈ks)))→b∈ks)
  (fun s b hb hs=>by
   have:∀ (l:List Nat) (s:List Nat×Bool),(∀ k∈l,k∈g.getD b [])→(∀ x∈s.1,Lp g h x)→∀ x∈(l.foldl (lS A Pa h b) s).1,Lp g h x:=by
    intro l
    induction l with
    | nil=>intro s _ h;exact h
    | cons k l ih =>
     intro s hk hs
     rw[List.foldl_cons]
     refine ih _ (fun x hx=>hk x (by simp[hx])) (fun x hx=>?_)
     rw[hst] at hx
     split at hx
     ·rename_i hc
      obtain⟨c1,_,c3⟩:=hc
      rcases List.mem_append.1 hx with hx | hx
      ·exact hs x hx
      ·rw[List.mem_singleton] at hx
       subst hx
       have hr:=(hall _ hb).1 c1
       rcases c3 with⟨rfl,c4⟩ | ⟨c4,c5⟩
       ·exact .step hr (fun hp=>c4 ((hpas _ hb).2 hp)) (hk _ (by simp)) .base
       ·refine .step hr (fun hp=>?_) (hk _ (by simp)) (hs k c5)
        exact (hs k c5).past c4 (.step hp (hk _ (by simp)) (by omega))
     ·exact hs x hx
   exact this _ s (fun k hk=>hk) hs)
  (fun s b hf=>(fold_flag (hfl b) _ _ hf).1)
  (fun ks b _ he c1 c2=>by
   have hf:((g.getD b []).foldl (lS A Pa h b) (ks,false)).2=false:=by
    have:(lB g A Pa h (ks,false) b).2=false:=by rw[he]
    exact this
   obtain⟨k,hk,hc⟩:=c2
   have:=(fold_flag (hfl b) _ _ hf).2 k hk
   rw[hst] at this
   split at this
   ·injection this with _ this;cases this
   ·rename_i hn
    apply Classical.byContradiction
    intro c3
    exact hn ⟨c1,c3,hc⟩)
  (fun s b x hx=>by
   have:∀ (l:List Nat) (s:List Nat×Bool),x∈s.1→x∈(l.foldl (lS A Pa h b) s).1:=by
    intro l
    induction l with
    | nil=>intro s h;exact h
    | cons k l ih =>
     intro s hs
     rw[List.foldl_cons]
     refine ih _ ?_
     rw[hst]
     split
     ·exact List.mem_append_left _ hs
     ·exact hs
   exact this _ s hx)
  (fun ks hf=>(lP_mono g A Pa h ks g.length (Nat.le_refl _)).2 hf) (g.length+1) [h] (unseen_lt g _) (fun x hx=>by rw[List.mem_singleton] at hx;subst hx;exact .base)
 obtain⟨a1,a2,a3⟩:=key
 refine⟨a1 b,fun hl=>?_⟩
 induction hl with
 | base=>exact a2 _ (by simp)
 | @step b k h1 h2 h3 h4 ih =>
  have hb:=Rch.lt hg h0 h1
  refine a3 _ hb ((hall _ hb).2 h1) ⟨k,h3,?_⟩
  by_cases e:k=h
  ·exact .inl ⟨e,fun hp=>h2 ((hpas _ hb).1 hp)⟩
  ·exact .inr ⟨e,ih⟩
end
section
def okB (h:Nat) (Pa ks:List Nat) (s:Nat):Prop:=s≠h∧(s∈ks∨s∈Pa)
def okN (g:Gr) (h:Nat) (Pa ks:List Nat) (n:Nat):Prop:=∀ s∈g.getD n [],okB h Pa ks s
theorem okB.mono {h:Nat} {Pa ks ks':List Nat} (hs:∀ x∈ks,x∈ks') {s:Nat} (ho:okB h Pa ks s):okB h Pa ks' s:=⟨ho.1,ho.2.imp (hs s) id⟩
theorem okN.mono {g:Gr} {h:Nat} {Pa ks ks':List Nat} (hs:∀ x∈ks,x∈ks') {n:Nat} (ho:okN g h Pa ks n):okN g h Pa ks' n:=fun s hx=>(ho s hx).mono hs
theorem any_bk {g:Gr} {h f:Nat} {Pa:List Nat} (ih:∀ i ks ks',i<g.length→unseen g ks<f→bkF g h Pa f i ks=(false,ks')→okB h Pa ks' i∧(∀ x∈ks,x∈ks')∧∀ x∈ks',x∈ks∨okN g h Pa ks' x) :
  ∀ (l ks ks':List Nat),(∀ k∈l,k<g.length)→unseen g ks<f→anyK (bkF g h Pa f) l ks=(false,ks')→(∀ k∈l,okB h Pa ks' k)∧(∀ x∈ks,x∈ks')∧∀ x∈ks',x∈ks∨okN g h Pa ks' x
 | [],ks,ks',_,_,he=>by
  simp only[anyK,Prod.mk.injEq,true_and] at he
  subst he
  exact⟨fun k hk=>by simp at hk,fun x hx=>hx,fun x hx=>.inl hx⟩
 | k::l,ks,ks',hl,hu,he=>by
  unfold anyK at he
  split at he
  ·cases he
  ·rename_i D e
   obtain⟨a1,a2,a3⟩:=ih k ks D (hl k (by simp)) hu e
   have hu2:unseen g D<f:=Nat.lt_of_le_of_lt (unseen_le g a2) hu
   obtain⟨b1,b2,b3⟩:=any_bk ih l D ks' (fun x hx=>hl x (by simp[hx])) hu2 he
   refine⟨fun x hx=>?_,fun x hx=>b2 x (a2 x hx),fun x hx=>?_⟩
   ·rcases List.mem_cons.1 hx with rfl | hx
    ·exact a1.mono b2
    ·exact b1 x hx
   ·rcases b3 x hx with h | h
    ·rcases a3 x h with h | h
     ·exact .inl h
     ·exact .inr (h.mono b2)
    ·exact .inr h
theorem bk_false {g:Gr} (hg:GrOK g) {h:Nat} {Pa:List Nat}:∀ (f i:Nat) (ks ks':List Nat),i<g.length→unseen g ks<f→bkF g h Pa f i ks=(false,ks')→okB h Pa ks' i∧(∀ x∈ks,x∈ks')∧∀ x∈ks',x∈ks∨okN g h Pa ks' x
 | 0,_,ks,_,_,hu,_=>by omega
 | f+1,i,ks,ks',hi,hu,he=>by
  unfold bkF at he
  split at he
  ·cases he
  ·rename_i hih
   split at he
   ·rename_i hc
    injection he with _ he
    subst he
    rw[Bool.or_eq_true] at hc
    refine⟨⟨hih,hc.imp (fun h=>by simpa using h) (fun h=>by simpa using h)⟩,fun x hx=>hx,fun x hx=>.inl hx⟩
   ·rename_i hc
    have hni:ks.contains i=false:=by
     cases hq:ks.contains i with
     | false=>rfl
     | true=>exact absurd (by rw[hq];rfl) hc
    have hs:∀ k∈g.getD i [],k<g.length:=fun k hk=>by
     rw[getD_at hi] at hk
     exact hg.lt _ (List.getElem_mem hi) k hk
    have hu2:=unseen_add g hi hni
    obtain⟨a1,a2,a3⟩:=any_bk (fun i ks ks' h1 h2 h3=>bk_false hg f i ks ks' h1 h2 h3) _ _ _ hs (by omega) he
    refine⟨⟨hih,.inl (a2 i (by simp))⟩,fun x hx=>a2 x (by simp[hx]),fun x hx=>?_⟩
    rcases a3 x hx with h | h
    ·rcases List.mem_append.1 h with h | h
     ·exact .inl h
     ·rw[List.mem_singleton] at h
      subst h
      exact .inr a1
    ·exact .inr h
theorem back_true {g:Gr} (hg:GrOK g) {h:Nat} (hh:h<g.length) {b:Nat} (hl:Lp g h b) (hb:b≠h):reachesB g (g.getD b []) h (pastK g h)=true:=by
 have h0:0<g.length:=by omega
 have hbl:=hl.lt hg hh
 cases hr:reachesB g (g.getD b []) h (pastK g h) with
 | true=>rfl
 | false =>
  exfalso
  unfold reachesB at hr
  obtain⟨D,hr⟩:∃ D,anyK (bkF g h (pastK g h) (g.length+1)) (g.getD b []) []=(false,D):=⟨_,Prod.ext hr rfl⟩
  have hs:∀ k∈g.getD b [],k<g.length:=fun k hk=>by
   rw[getD_at hbl] at hk
   exact hg.lt _ (List.getElem_mem hbl) k hk
  obtain⟨a1,_,a3⟩:=any_bk (fun i ks ks' h1 h2 h3=>bk_false hg (g.length+1) i ks ks' h1 h2 h3) _ _ _ hs (unseen_lt g _) hr
  have key:∀ k,Lp g h k→¬ okB h (pastK g h) D k:=by
   intro k hk
   induction hk with
   | base=>exact fun ho=>ho.1 rfl
   | @step b k g1 g2 g3 g4 ih =>
    rintro⟨_,ho | ho⟩
    ·rcases a3 b ho with h | h
     ·simp at h
     ·exact ih (h k g3)
    ·exact g2 ((past_iff g hg h h0 b).1 ho)
  cases hl with
  | base=>exact hb rfl
  | step g1 g2 g3 g4=>exact key _ g4 (a1 _ g3)
theorem loop_eq (g:Gr) (hg:GrOK g) (h:Nat) (hh:h<g.length):loopK g h=rLoopK g h:=by
 unfold loopK rLoopK idxOf
 rw[toL_len]
 refine List.filter_congr fun b hb=>?_
 have hb:b<g.length:=List.mem_range.1 hb
 rw[List.getD,toL_get hb,Option.getD_some,Bool.eq_iff_iff]
 have h1:=inK_iff g hg h hh b
 have h2:=rIn_iff g hg h hh b
 unfold isK
 rw[Bool.and_eq_true,Bool.or_eq_true]
 constructor
 ·rintro⟨a,_⟩
  have a:b∈inK g h:=by simpa using a
  simpa using h2.2 (h1.1 a)
 ·intro a
  have a:b∈rIn g h:=by simpa using a
  have hl:=h2.1 a
  refine⟨by simpa using h1.2 hl,?_⟩
  by_cases e:b=h
  ·left;subst e;simp
  ·right;exact back_true hg hh hl e
theorem hd_eq (g:Gr) (hg:GrOK g) (k:Int):((headsK g).any fun x:Nat=>k==(x:Int))=!((decide (k<0)||decide (k≥(g.length:Int)))||!(rheads g).getD k.toNat false):=by
 rw[Bool.eq_iff_iff]
 simp only[List.any_eq_true,beq_iff_eq,Bool.not_eq_true',Bool.or_eq_false_iff,decide_eq_false_iff_not,Bool.not_eq_false']
 constructor
 ·rintro⟨x,hx,rfl⟩
  have hlt:=headsK_lt hx
  unfold headsK at hx
  rw[List.mem_filter] at hx
  refine⟨⟨by omega,by omega⟩,?_⟩
  rw[Int.toNat_natCast]
  exact (rheads_iff g hg x hlt).2 ((hitK_iff g hg x hlt).1 hx.2)
 ·rintro⟨⟨h1,h2⟩,h3⟩
  have hlt:k.toNat<g.length:=by omega
  refine⟨k.toNat,?_,by omega⟩
  unfold headsK
  rw[List.mem_filter]
  exact⟨List.mem_range.2 hlt,(hitK_iff g hg _ hlt).2 ((rheads_iff g hg _ hlt).1 h3)⟩
end
end Go.Proofs.YtaenfjplagiioaaGreatDoor.L
end
noncomputable section
set_option linter.all false
namespace Go.Proofs.YtaenfjplagiioaaGreatDoor.L
open Go Go.RowKit Go.Proofs.YtaenfjplagiioaaGreatDoor.Pl Go.Sort
section
theorem cmpW_eq (a b:ByteArray):cmpW a b=if bts a<bts b then -1 else if bts a=bts b then 0 else 1:=by
 unfold cmpW sgn bts
 rw[bytesLess_eq,ByteArray.toList_eq,ByteArray.toList_eq]
 by_cases h:a.data.toList<b.data.toList
 ·simp[h]
 ·by_cases e:a.data.toList=b.data.toList
  ·simp[e]
  ·have hb:(a.data.toList==b.data.toList)=false:=beq_eq_false_iff_ne.2 e
   rw[hb,decide_eq_false h,if_neg h,if_neg e];rfl
theorem cmp_lt (a b:ByteArray):decide (cmpW a b<0)=decide (bts a<bts b):=by
 rw[cmpW_eq,decide_eq_decide]
 by_cases h:bts a<bts b
 ·simp[h]
 ·by_cases e:bts a=bts b
  ·rw[if_neg h,if_pos e]
   exact⟨fun h=>by omega,fun h'=>absurd h' h⟩
  ·rw[if_neg h,if_neg e]
   exact⟨fun h=>by omega,fun h'=>absurd h' h⟩
theorem cmp_eq0 (a b:ByteArray):(cmpW a b==0)=decide (bts a=bts b):=by
 rw[cmpW_eq,Bool.eq_iff_iff]
 simp only[beq_iff_eq,decide_eq_true_eq]
 by_cases h:bts a<bts b
 ·have:bts a≠bts b:=fun e=>by rw[e] at h;exact List.lt_irrefl _ h
  simp[h,this]
 ·by_cases e:bts a=bts b
  ·simp[e]
  ·simp[h,e]
def Str (l:List Fm):Prop:=(l.map fun f=>bts f.text).Pairwise (· < ·)
theorem nI_spec (f:Fm):∀ (l:List Fm),Str l→nI f l≤l.length∧(∀ g∈l.take (nI f l),bts g.text<bts f.text)∧(∀ g∈l.drop (nI f l),¬ bts g.text<bts f.text)
 | [],_=>by simp[nI]
 | g::r,h=>by
  unfold nI
  rw[cmp_lt]
  have hr:Str r:=(List.pairwise_cons.1 h).2
  have hg:=(List.pairwise_cons.1 h).1
  obtain⟨h1,h2,h3⟩:=nI_spec f r hr
  by_cases hc:bts g.text<bts f.text
  ·rw[if_pos (decide_eq_true hc)]
   refine⟨by simp only[List.length_cons];omega,fun x hx=>?_,fun x hx=>?_⟩
   ·rw[List.take_succ_cons] at hx
    rcases List.mem_cons.1 hx with rfl | hx
    ·exact hc
    ·exact h2 x hx
   ·rw[List.drop_succ_cons] at hx
    exact h3 x hx
  ·rw[if_neg (by simpa using hc)]
   refine⟨Nat.zero_le _,fun x hx=>by simp at hx,fun x hx=>?_⟩
   rw[List.drop_zero] at hx
   rcases List.mem_cons.1 hx with rfl | hx
   ·exact hc
   ·intro hx2
    exact hc (List.lt_trans (hg _ (List.mem_map.2 ⟨x,hx,rfl⟩)) hx2)
theorem lt_of_not {a b:List UInt8} (h1:¬ a<b) (h2:a≠b):b<a:=by
 rcases Std.le_total (a:=a) (b:=b) with h | h
 ·exfalso
  have:¬ b<a:=List.not_lt.2 h
  exact h2 (Std.le_antisymm h (List.not_lt.1 h1))
 ·have:¬ a<b:=List.not_lt.2 h
  apply Classical.byContradiction
  intro hn
  exact h2 (Std.le_antisymm (List.not_lt.1 hn) h)
theorem insW_str {out:List Fm} {f:Fm} (h:Str out):Str (insW out f)∧∀ s,(∃ g∈insW out f,bts g.text=s)↔(∃ g∈out,bts g.text=s)∨bts f.text=s:=by
 obtain⟨h1,h2,h3⟩:=nI_spec f out h
 unfold insW
 rw[cmp_eq0]
 have hsp:out=out.take (nI f out)++out.drop (nI f out):=(List.take_append_drop _ _).symm
 by_cases hlt:nI f out<out.length
 ·have hd:out.drop (nI f out)=out[nI f out]::out.drop (nI f out+1):=List.drop_eq_getElem_cons hlt
  have hgd:out.getD (nI f out) w0=out[nI f out]:=by simp[List.getD,hlt]
  rw[hgd]
  by_cases he:bts (out[nI f out]).text=bts f.text
  ·rw[if_pos (by rw[decide_eq_true he,decide_eq_true (by omega)];rfl)]
   refine⟨h,fun s=>⟨.inl,?_⟩⟩
   rintro (h | h)
   ·exact h
   ·exact⟨_,List.getElem_mem hlt,he.trans h⟩
  ·rw[if_neg (by rw[decide_eq_false he];simp)]
   have hgt:bts f.text<bts (out[nI f out]).text:=lt_of_not (h3 _ (by rw[hd];exact List.mem_cons_self ..)) he
   refine⟨?_,fun s=>?_⟩
   ·unfold Str at h ⊢
    rw[hsp,List.map_append,List.pairwise_append] at h
    obtain⟨a1,a2,a3⟩:=h
    rw[List.map_append,List.map_cons,List.pairwise_append,List.pairwise_cons]
    have hall:∀ x∈(out.drop (nI f out)).map (fun g=>bts g.text),bts f.text<x:=by
     rw[hd,List.map_cons] at a2 ⊢
     intro x hx
     rcases List.mem_cons.1 hx with rfl | hx
     ·exact hgt
     ·exact List.lt_trans hgt ((List.pairwise_cons.1 a2).1 x hx)
    refine⟨a1,⟨hall,a2⟩,fun x hx y hy=>?_⟩
    rcases List.mem_cons.1 hy with rfl | hy
    ·obtain⟨g,hg,rfl⟩:=List.mem_map.1 hx
     exact h2 g hg
    ·exact a3 x hx y hy
   ·constructor
    ·rintro⟨g,hg,rfl⟩
     rcases List.mem_append.1 hg with hg | hg
     ·exact .inl ⟨g,List.mem_of_mem_take hg,rfl⟩
     ·rcases List.mem_cons.1 hg with rfl | hg
      ·exact .inr rfl
      ·exact .inl ⟨g,List.mem_of_mem_drop hg,rfl⟩
    ·rintro (⟨g,hg,rfl⟩ | rfl)
     ·rw[hsp] at hg
      rcases List.mem_append.1 hg with hg | hg
      ·exact⟨g,List.mem_append_left _ hg,rfl⟩
      ·exact⟨g,List.mem_append_right _ (List.mem_cons_of_mem _ hg),rfl⟩
     ·exact⟨f,List.mem_append_right _ (List.mem_cons_self ..),rfl⟩
 ·have hn:nI f out=out.length:=by omega
  rw[if_neg (by rw[decide_eq_false (by omega)];simp),hn,List.take_length,List.drop_length]
  rw[hn,List.take_length] at h2
  refine⟨?_,fun s=>?_⟩
  ·unfold Str at h ⊢
   rw[List.map_append,List.pairwise_append]
   refine⟨h,by simp,fun x hx y hy=>?_⟩
   obtain⟨g,hg,rfl⟩:=List.mem_map.1 hx
   simp only[List.map_cons,List.map_nil,List.mem_singleton] at hy
   subst hy
   exact h2 g hg
  ·constructor
   ·rintro⟨g,hg,rfl⟩
    rcases List.mem_append.1 hg with hg | hg
    ·exact .inl ⟨g,hg,rfl⟩
    ·rw[List.mem_singleton] at hg
     subst hg;exact .inr rfl
   ·rintro (⟨g,hg,rfl⟩ | rfl)
    ·exact⟨g,List.mem_append_left _ hg,rfl⟩
    ·exact⟨f,by simp,rfl⟩
theorem sortW_str (l:List Fm):Str (sortW l)∧∀ s,(∃ g∈sortW l,bts g.text=s)↔∃ g∈l,bts g.text=s:=by
 have key:∀ (l out:List Fm),Str out→Str (l.foldl insW out)∧∀ s,(∃ g∈l.foldl insW out,bts g.text=s)↔(∃ g∈out,bts g.text=s)∨∃ g∈l,bts g.text=s:=by
  intro l
  induction l with
  | nil=>intro out h;exact⟨h,fun s=>by simp⟩
  | cons f l ih =>
   intro out h
   obtain⟨a1,a2⟩:=insW_str (f:=f) h
   obtain⟨b1,b2⟩:=ih (insW out f) a1
   refine⟨b1,fun s=>?_⟩
   rw[List.foldl_cons,b2,a2]
   constructor
   ·rintro ((h | h) | ⟨g,hg,h⟩)
    ·exact .inl h
    ·exact .inr ⟨f,by simp,h⟩
    ·exact .inr ⟨g,by simp[hg],h⟩
   ·rintro (h | ⟨g,hg,h⟩)
    ·exact .inl (.inl h)
    ·rcases List.mem_cons.1 hg with rfl | hg
     ·exact .inl (.inr h)
     ·exact .inr ⟨g,hg,h⟩
 obtain⟨h1,h2⟩:=key l [] (by unfold Str;simp)
 refine⟨h1,fun s=>?_⟩
 rw[show sortW l=l.foldl insW [] from rfl,h2]
 simp
theorem addS_mem (M:List ByteArray) (s x:ByteArray):x∈addS M s↔x∈M∨x=s:=by
 unfold addS
 split
 ·rename_i h
  rw[List.any_eq_true] at h
  obtain⟨y,hy,he⟩:=h
  have:=of_bbeq he
  subst this
  exact⟨.inl,fun h=>h.elim id (fun e=>by rw[e];exact hy)⟩
 ·simp
theorem addAll_mem:∀ (l M:List ByteArray) (x:ByteArray),x∈addAll M l↔x∈M∨x∈l
 | [],M,x=>by simp[addAll]
 | s::l,M,x=>by
  have:=addAll_mem l (addS M s) x
  unfold addAll at this ⊢
  rw[List.foldl_cons,this,addS_mem]
  simp only[List.mem_cons]
  constructor
  ·rintro ((h | h) | h)
   ·exact .inl h
   ·exact .inr (.inl h)
   ·exact .inr (.inr h)
  ·rintro (h | h | h)
   ·exact .inl (.inl h)
   ·exact .inl (.inr h)
   ·exact .inr h
theorem bts_inj {a b:ByteArray} (h:bts a=bts b):a=b:=ByteArray.ext (Array.ext' h)
theorem names_eq (W:List Fm) (M:List ByteArray) (h:W.map Fm.text=M):(sortW W).map (fun g=>bts g.text)=srt ((addAll [] M).map bts):=by
 have hnd:(addAll [] M).Nodup:=(addAll_ok (A:=M) M [] (by simp) (fun x hx=>by simp at hx) (fun x hx=>hx)).1
 have hnd2:((addAll [] M).map bts).Nodup:=List.Pairwise.map bts (fun a b hab e=>hab (bts_inj e)) hnd
 obtain⟨h1,h2⟩:=sortW_str W
 have hp1:((sortW W).map fun g=>bts g.text).Nodup:=h1.imp (fun {a b} hab e=>by rw[e] at hab;exact List.lt_irrefl _ hab)
 have hmem:∀ s,s∈((sortW W).map fun g=>bts g.text)↔s∈(addAll [] M).map bts:=by
  intro s
  rw[List.mem_map,List.mem_map]
  constructor
  ·intro hs
   obtain⟨g,hg,rfl⟩:=(h2 s).1 hs
   refine⟨g.text,(addAll_mem M [] _).2 (.inr ?_),rfl⟩
   rw[←h];exact List.mem_map.2 ⟨g,hg,rfl⟩
  ·rintro⟨x,hx,rfl⟩
   rcases (addAll_mem M [] x).1 hx with hx | hx
   ·simp at hx
   ·rw[←h] at hx
    obtain⟨g,hg,rfl⟩:=List.mem_map.1 hx
    exact (h2 _).2 ⟨g,hg,rfl⟩
 have hperm:((sortW W).map fun g=>bts g.text).Perm (srt ((addAll [] M).map bts)) :=
  ((List.perm_ext_iff_of_nodup hp1 hnd2).2 hmem).trans (List.mergeSort_perm _ _).symm
 have hle1:((sortW W).map fun g=>bts g.text).Pairwise (·≤·):=h1.imp (fun {a b} hab=>List.le_of_lt hab)
 have hle2:(srt ((addAll [] M).map bts)).Pairwise (·≤·):=by
  have:=List.pairwise_mergeSort (le:=fun x y:List UInt8=>decide (x≤y)) (fun a b c h1 h2=>by
   simp only[decide_eq_true_eq] at *;exact List.le_trans h1 h2) (fun a b=>by
   simp only[Bool.or_eq_true,decide_eq_true_eq];exact List.le_total a b) ((addAll [] M).map bts)
  exact this.imp (fun {a b} hab=>by simpa using hab)
 exact hperm.eq_of_pairwise (fun a b _ _ h1 h2=>List.le_antisymm h1 h2) hle1 hle2
end
end Go.Proofs.YtaenfjplagiioaaGreatDoor.L
end
noncomputable section
set_option linter.all false
namespace Go.Proofs.YtaenfjplagiioaaGreatDoor.L
open Go Go.RowKit Go.Proofs.YtaenfjplagiioaaGreatDoor.Pl
section
theorem cntL_append (a b:List Fm):cntL (a++b)=cntL a+cntL b:=by
 induction a with
 | nil=>simp[cntL]
 | cons x a ih=>simp only[List.cons_append,cntL,ih];omega
theorem cntL_drop (n:Nat) (l:List Fm):cntL (l.drop n)≤cntL l:=by
 have:=cntL_append (l.take n) (l.drop n)
 rw[List.take_append_drop] at this;omega
theorem cntL_take (n:Nat) (l:List Fm):cntL (l.take n)≤cntL l:=by
 have:=cntL_append (l.take n) (l.drop n)
 rw[List.take_append_drop] at this;omega
theorem cntL_filter (p:Fm→Bool):∀ l:List Fm,cntL (l.filter p)≤cntL l
 | []=>Nat.le_refl _
 | x::l=>by
  have:=cntL_filter p l
  rw[List.filter_cons]
  split <;> simp only[cntL] <;> omega
theorem asgF_len (c:Fm):(asgF c).length≤c.cnt:=by
 have h1:=cnt_kids c
 have h2:=cntL_len c.kids
 unfold asgF
 split
 ·simp only[List.length_cons,List.length_nil];omega
 ·split
  ·rw[List.length_drop];omega
  ·split
   ·by_cases h:1<c.kids.length
    ·have hm:c.kids.getD 1 w0∈c.kids:=by
      rw[List.getD_eq_getElem?_getD,List.getElem?_eq_getElem h];exact List.getElem_mem h
     have h3:=cntL_mem hm
     have h4:=cntL_len (c.kids.getD 1 w0).kids
     have h5:=cnt_kids (c.kids.getD 1 w0)
     omega
    ·have:c.kids.getD 1 w0=w0:=by simp[List.getD,List.getElem?_eq_none (Nat.le_of_not_lt h)]
     rw[this]
     simp[w0,wd,Fm.kids]
   ·simp
theorem asgN_eq (c:Fm):asgNames c=(asgF c).map Fm.text:=by
 unfold asgNames asgF
 repeat' split
 all_goals rfl
theorem flat_len:∀ l:List Fm,(l.flatMap asgF).length≤cntL l
 | []=>Nat.le_refl _
 | c::l=>by
  have:=flat_len l
  have:=asgF_len c
  simp only[List.flatMap_cons,List.length_append,cntL];omega
theorem flatN (l:List Fm):l.flatMap asgNames=(l.flatMap asgF).map Fm.text:=by
 induction l with
 | nil=>rfl
 | cons c l ih=>simp only[List.flatMap_cons,List.map_append,ih,asgN_eq]
theorem rFms_len (b:Fm):(rFms b).length≤b.cnt:=by
 have h1:=flat_len (b.kids.drop 2)
 have h2:=cntL_drop 2 b.kids
 have h3:=cnt_kids b
 unfold rFms;omega
theorem bNames_len (b:Fm):(bNames b).length≤b.cnt:=by
 unfold bNames
 rw[flatN,List.length_map]
 have h1:=flat_len ((b.kids.take (b.kids.length-1)).drop 2)
 have h2:=cntL_drop 2 (b.kids.take (b.kids.length-1))
 have h3:=cntL_take (b.kids.length-1) b.kids
 have h4:=cnt_kids b
 omega
theorem few_of (f:Fm) (h:f.cnt≤1000000):Few f:=by
 unfold Few
 have key:∀ l:List Fm,(l.flatMap bNames).length≤cntL l:=by
  intro l
  induction l with
  | nil=>exact Nat.le_refl _
  | cons b l ih =>
   have:=bNames_len b
   simp only[List.flatMap_cons,List.length_append,cntL];omega
 have h1:=key (blksOf f.kids)
 have h2:=cntL_filter (fun c=>hEq c sBlock) f.kids
 have h3:=cnt_kids f
 have h2:cntL (blksOf f.kids)≤cntL f.kids:=h2
 omega
theorem kid_len {f c:Fm} (h:f.cnt≤1000000) (hc:c∈f.kids):c.kids.length≤1000000:=by
 have h1:=cntL_mem hc
 have h2:=cnt_kids c
 have h3:=cntL_len c.kids
 have h4:=cnt_kids f
 omega
theorem low_of (f:Fm) (h:f.cnt≤1000000):Low f:=fun _=>by
 have h2:=cnt_kids f
 have h3:=cntL_len f.kids
 exact⟨by omega,fun c hc _=>kid_len h hc⟩
theorem cmd_asg {c:Fm} (h:cmdOK c=true) (hh:hEq c sAssign=true):c.kids.length=3∧isNm (c.kids.getD 1 w0)=true:=by
 unfold cmdOK at h
 rw[if_pos hh,Bool.and_eq_true] at h
 exact⟨lenIs_eq (n:=3) h.1,h.2⟩
theorem cmd_hav {c:Fm} (h:cmdOK c=true) (hh:hEq c sHavoc=true):(c.kids.drop 1).all isNm=true:=by
 unfold cmdOK at h
 rw[if_neg (by rw[hEq_ne hh (by decide)];simp),if_pos hh] at h
 exact h
theorem cmd_inv {c:Fm} (h:cmdOK c=true) (hh:hEq c sInvoke=true):3≤c.kids.length∧(c.kids.getD 1 w0).kids.all isNm=true:=by
 unfold cmdOK at h
 rw[if_neg (by rw[hEq_ne hh (by decide)];simp),if_neg (by rw[hEq_ne hh (by decide)];simp),if_neg (by rw[hEq_ne hh (by decide)];simp),if_neg (by rw[hEq_ne hh (by decide)];simp),if_neg (by rw[hEq_ne hh (by decide)];simp),if_pos hh] at h
 simp only[Bool.and_eq_true] at h
 exact⟨lenGe_le (n:=3) h.1.1.1,h.1.2⟩
theorem end_none {c:Fm} (h:endOK c=true):hEq c sAssign=false∧hEq c sHavoc=false∧hEq c sInvoke=false:=by
 unfold endOK at h
 split at h
 ·rename_i h1
  exact⟨hEq_ne h1 (by decide),hEq_ne h1 (by decide),hEq_ne h1 (by decide)⟩
 ·split at h
  ·rename_i h1
   exact⟨hEq_ne h1 (by decide),hEq_ne h1 (by decide),hEq_ne h1 (by decide)⟩
  ·cases h
theorem drop2 {b:Fm} (h:3≤b.kids.length):b.kids.drop 2=rcm b++[rfin b]:=by
 unfold rcm rfin
 generalize b.kids=l at h
 have hl:l.length-1<l.length:=by omega
 have e:l=l.take (l.length-1)++[l.getD (l.length-1) w0]:=by
  have h1:=List.take_append_drop (l.length-1) l
  rw[List.drop_eq_getElem_cons hl,List.drop_of_length_le (by omega)] at h1
  rw[List.getD_eq_getElem?_getD,List.getElem?_eq_getElem hl]
  exact h1.symm
 conv=>lhs;rw[e]
 rw[List.drop_append_of_le_length (by rw[List.length_take];omega)]
theorem nm_kind {c:Fm} (h:isNm c=true):c.kind=1:=by
 unfold isNm at h
 rw[Bool.and_eq_true] at h
 exact eq_of_beq h.1
theorem blk_facts {f:Fm} (h:shapedB f=true) {b:Fm} (hb:b∈blksOf f.kids):3≤b.kids.length∧(∀ c∈rcm b,cmdOK c=true)∧endOK (rfin b)=true:=by
 have hd:=blks_drop h
 unfold shapedB at h
 simp only[Bool.and_eq_true] at h
 obtain⟨⟨⟨_,h2⟩,h3⟩,_⟩:=h
 have hcl:=clsOK_all _ _ (procOK_cls h3).2.2.2.2
 rw[hd] at hb
 have hm:=mem_blks hb
 obtain⟨a1,a2,a3,a4⟩:=clause_blk (hcl b hm.1).2 hm.2
 have h3:=blk_long a1
 rw[cm_eq (by omega)] at a3
 rw[←fin_eq (by omega)] at a4
 exact⟨h3,fun c hc=>cmds_all _ _ a3 c hc,a4⟩
theorem rs_ok (f:Fm) (hf:Fit f) (h:shapedB f=true) (hc:f.cnt≤1000000) (l:List Int) (hl:l.length≤2000000):RsOK (blksOf f.kids) l:=by
 have hB:=fun b (hb:b∈blksOf f.kids)=>blk_facts h hb
 have hcase:∀ b∈blksOf f.kids,∀ c∈b.kids.drop 2,cmdOK c=true∨endOK c=true:=fun b hb c hcm=>by
  obtain⟨h1,h2,h3⟩:=hB b hb
  rw[drop2 h1] at hcm
  rcases List.mem_append.1 hcm with h | h
  ·exact .inl (h2 c h)
  ·rw[List.mem_singleton] at h
   subst h;exact .inr h3
 refine⟨fun b hb=>?_,fun b hb c hcm hh=>?_,fun b hb c hcm hh=>?_,fun b hb c hcm hh=>?_,fun b hb c hcm w hw=>?_,?_⟩
 ·have:=(mem_blks hb).1
  cases hf with
  | mk _ _ _ hq=>exact hq b this
 ·rcases hcase b hb c hcm with h | h
  ·have:=(cmd_asg h hh).1;omega
  ·rw[(end_none h).1] at hh;cases hh
 ·obtain⟨a,r,e⟩:=(head_kids (by decide) hh).2
  rw[e];simp
 ·rcases hcase b hb c hcm with h | h
  ·have:=(cmd_inv h hh).1;omega
  ·rw[(end_none h).2.2] at hh;cases hh
 ·rcases hcase b hb c hcm with h | h
  ·unfold asgF at hw
   split at hw
   ·rename_i hh
    rw[List.mem_singleton] at hw
    subst hw;exact nm_kind (cmd_asg h hh).2
   ·split at hw
    ·rename_i hh
     exact nm_kind (List.all_eq_true.1 (cmd_hav h hh) w hw)
    ·split at hw
     ·rename_i hh
      exact nm_kind (List.all_eq_true.1 (cmd_inv h hh).2 w hw)
     ·simp at hw
  ·unfold asgF at hw
   obtain⟨e1,e2,e3⟩:=end_none h
   rw[e1,e2,e3] at hw
   simp at hw
 ·have key:∀ l:List Int,(rNms (blksOf f.kids) l).length≤l.length*1000000:=by
   intro l
   induction l with
   | nil=>exact Nat.le_refl _
   | cons i l ih =>
    have h1:(rFms ((blksOf f.kids).getD i.toNat w0)).length≤1000000:=by
     by_cases hi:i.toNat<(blksOf f.kids).length
     ·have hm:(blksOf f.kids).getD i.toNat w0∈blksOf f.kids:=by
       rw[List.getD_eq_getElem?_getD,List.getElem?_eq_getElem hi];exact List.getElem_mem hi
      have h1:=rFms_len ((blksOf f.kids).getD i.toNat w0)
      have h2:=cntL_mem (mem_blks hm).1
      have h3:=cnt_kids f
      omega
     ·have:(blksOf f.kids).getD i.toNat w0=w0:=by simp[List.getD,List.getElem?_eq_none (Nat.le_of_not_lt hi)]
      rw[this];simp[rFms,w0,wd,Fm.kids]
    unfold rNms at ih ⊢
    simp only[List.flatMap_cons,List.length_append,List.length_cons]
    omega
  have:=key l
  omega
theorem nms_eq (f:Fm) (h:shapedB f=true) (l:List Int):(rNms (blksOf f.kids) l).map Fm.text=nmsOf (blksOf f.kids) l:=by
 have hb:∀ b,b∈blksOf f.kids∨b=w0→(rFms b).map Fm.text=bNames b:=by
  rintro b (hb | rfl)
  ·obtain⟨h1,h2,h3⟩:=blk_facts h hb
   obtain⟨e1,e2,e3⟩:=end_none h3
   have e:asgF (rfin b)=[]:=by unfold asgF;rw[e1,e2,e3];simp
   unfold rFms bNames
   rw[drop2 h1,List.flatMap_append,List.flatMap_cons,e,flatN]
   simp[rcm]
  ·rfl
 unfold rNms nmsOf
 induction l with
 | nil=>rfl
 | cons i l ih =>
  simp only[List.flatMap_cons,List.map_append,ih]
  congr 1
  refine hb _ ?_
  by_cases hi:i.toNat<(blksOf f.kids).length
  ·left
   rw[List.getD_eq_getElem?_getD,List.getElem?_eq_getElem hi];exact List.getElem_mem hi
  ·right
   simp[List.getD,List.getElem?_eq_none (Nat.le_of_not_lt hi)]
end
end Go.Proofs.YtaenfjplagiioaaGreatDoor.L
end
noncomputable section
set_option linter.all false
namespace Go.Proofs.YtaenfjplagiioaaGreatDoor.L
open Go Go.RowKit Go.Proofs.YtaenfjplagiioaaGreatDoor.Pl
variable [Gm]
set_option maxRecDepth 10000
section
omit [Gm] in
theorem kids_small {f:Fm} (hs:f.sz≤800) (h:hEq f sProc=true):f.kids.length≤10000:=by
 obtain⟨h3,_⟩:=head_kids (s:=sProc) (by decide) h
 obtain⟨k,n,t,ks⟩:=f
 have h3:k=3:=h3
 simp only[Fm.sz,h3,if_true] at hs
 have:∀ l:List Fm,l.length≤szL l:=by
  intro l
  induction l with
  | nil=>exact Nat.le_refl _
  | cons x l ih =>
   have:1≤x.sz:=by cases x;simp only[Fm.sz];split <;> omega
   simp only[szL,List.length_cons];omega
 have:=this ks
 show ks.length≤10000
 omega
omit [Gm] in
theorem rd0_head {f:Fm} (h:rd0 f=true):hEq f sProc=true:=by
 unfold rd0 at h
 cases hq:hEq f sProc with
 | true=>rfl
 | false=>rw[hq] at h;simp at h
theorem read_good (f:Fm) (hf:Fit f) (hc:f.cnt≤1000000) (hs:f.sz≤800) (h:rdB f=true):PC Tryz.prog 63 [f.enc] (.tup [.agg (prR (rdC f) (rdBs f)),tB true]):=by
 unfold rdB at h
 simp only[Bool.and_eq_true] at h
 obtain⟨h1,h2,h3⟩:=h
 exact rread_go f hf h1 h2 (kids_small hs (rd0_head h1)) (fun c hm=>kid_len hc hm) _ (fun _=>rfl) (fun h=>by rw[h3] at h;cases h)
theorem read_bad (f:Fm) (hf:Fit f) (hc:f.cnt≤1000000) (hs:f.sz≤800) (h:rdB f=false):PC Tryz.prog 63 [f.enc] rbadT:=by
 unfold rdB at h
 cases h1:rd0 f with
 | false=>exact rread_b0 f hf h1
 | true =>
 rw[h1,Bool.true_and] at h
 cases h2:rdV f with
 | false=>exact rread_b1 f hf h1 h2 (fun c hm=>kid_len hc hm)
 | true =>
 rw[h2,Bool.true_and] at h
 exact rread_go f hf h1 h2 (kids_small hs (rd0_head h1)) (fun c hm=>kid_len hc hm) _ (fun h3=>by rw[h3] at h;cases h) (fun _=>rfl)
omit [Gm] in
theorem rd_blk {f:Fm} (h:rdB f=true):rdBs f=blksOf (f.kids.drop 4)∧∀ b∈rdBs f,rblkB b=true:=by
 unfold rdB at h
 simp only[Bool.and_eq_true] at h
 obtain⟨_,_,h3⟩:=h
 refine⟨bs_eq h3,fun b hb=>?_⟩
 unfold rd1 at h3
 rw[Bool.and_eq_true] at h3
 exact List.all_eq_true.1 h3.2 b hb
omit [Gm] in
theorem blk3 {b:Fm} (h:rblkB b=true):3≤b.kids.length:=by
 unfold rblkB preB at h
 simp only[Bool.and_eq_true,Bool.not_eq_true',Bool.or_eq_false_iff] at h
 have:=of_decide_eq_false h.1.1.2
 rw[rows_len] at this;omega
omit [Gm] in
theorem bs_mem {f b:Fm} (h:b∈rdBs f):b∈f.kids:=by
 unfold rdBs at h
 exact List.mem_of_mem_drop ((List.dropWhile_suffix _).subset h)
theorem graph_of (f:Fm) (hf:Fit f) (hc:f.cnt≤1000000) (hs:f.sz≤800) (h:rdB f=true):PC Tryz.prog 37 [f.enc] (grT (ixs (rdBs f))):=by
 have hrd:=read_good f hf hc hs h
 obtain⟨_,h2⟩:=rd_blk h
 have hk:=cnt_kids f
 have hkl:=cntL_len f.kids
 have hbl:(rdBs f).length≤1000000:=by
  have h1:(rdBs f).length≤(f.kids.drop 4).length:=(List.dropWhile_suffix (p:=nb) (l:=f.kids.drop 4)).length_le
  rw[List.length_drop] at h1;omega
 have hsc:=rsucc_spec (rdC f) (rdBs f) hbl (fun b hb=>by
  have hfb:Fit b:=by
   have:=bs_mem hb
   cases hf with
   | mk _ _ _ hq=>exact hq b this
  cases hfb with
  | mk _ _ _ hq=>exact fit_getD hq _)
 rw[rsuc_ixs _ (fun b hb=>by have:=blk3 (h2 b hb);omega)] at hsc
 rw[f_enc] at hrd ⊢
 refine graph_good _ rfl (prR (rdC f) (rdBs f)) rfl (ixs (rdBs f)) (by unfold ixs;rw[List.length_map];simp only[maxLen];omega) (fun r hr=>?_) hrd hsc
 unfold ixs at hr
 obtain⟨b,hb,rfl⟩:=List.mem_map.1 hr
 rw[List.length_map]
 unfold tgtsOf
 rw[List.length_drop]
 have hb3:=blk3 (h2 b hb)
 rw[←fin_eq (by omega)]
 have hm:rfin b∈b.kids:=by
  unfold rfin
  rw[List.getD_eq_getElem?_getD,List.getElem?_eq_getElem (by omega)];exact List.getElem_mem _
 have c1:=cntL_mem hm
 have c2:=cntL_mem (bs_mem hb)
 have c3:=cnt_kids b
 have c4:=cnt_kids (rfin b)
 have c5:=cntL_len (rfin b).kids
 simp only[maxLen];omega
theorem rsuc_bad (f:Fm) (hf:Fit f) (hc:f.cnt≤1000000) (hs:f.sz≤800) (h:¬ shapedB f=true):∃ e,e≠0∧PC Tryz.prog 17 [f.enc] (.tup [nilT,tI e]):=by
 rw[shaped_eq f hc] at h
 cases hr:rdB f with
 | false =>
  have hb:=read_bad f hf hc hs hr
  rw[f_enc] at hb ⊢
  exact⟨4,by decide,rsucc_of _ rfl _ _ (graph_bad _ rfl zero8 rfl hb)⟩
 | true =>
  rw[hr,Bool.true_and] at h
  have hg:=graph_of f hf hc hs hr
  rw[(rd_blk hr).1,grT_not _ h] at hg
  rw[f_enc] at hg ⊢
  exact⟨6,by decide,rsucc_of _ rfl _ _ hg⟩
theorem suc_ok (f:Fm) (hf:Fit f) (hc:f.cnt≤1000000) (hs:f.sz≤800) (h:shapedB f=true):PC Tryz.prog 17 [f.enc] (.tup [encG (graphOf f),tI 0]):=by
 have h':=h
 rw[shaped_eq f hc,Bool.and_eq_true] at h'
 have hg:=graph_of f hf hc hs h'.1
 rw[(rd_blk h'.1).1,grT_named _ h'.2] at hg
 rw[f_enc] at hg ⊢
 exact rsucc_of _ rfl _ _ hg
theorem gr_ok (f:Fm) (hf:Fit f) (hc:f.cnt≤1000000) (h:shapedB f=true):GrOK (graphOf f):=pre_gr (shaped_pre f hf (low_of f hc) h)
theorem rLoop_A (f:Fm) (hf:Fit f) (hc:f.cnt≤1000000) (hs:f.sz≤800) (k:Int):PC Tryz.prog 7 [f.enc,tI k] (.tup [encN (loopA f k).1,tI (loopA f k).2]):=by
 unfold loopA
 by_cases h:shapedB f=true
 ·rw[if_pos h]
  have hg:=gr_ok f hf hc h
  have hsu:=suc_ok f hf hc hs h
  rw[f_enc] at hsu ⊢
  have hd:=hd_eq (graphOf f) hg k
  cases hk:(headsK (graphOf f)).any fun x:Nat=>k==(x:Int) with
  | true =>
   rw[if_pos rfl]
   rw[hk] at hd
   have hd:=hd.symm
   simp only[Bool.not_eq_true',Bool.or_eq_false_iff,decide_eq_false_iff_not,Bool.not_eq_false'] at hd
   obtain⟨⟨g1,g2⟩,g3⟩:=hd
   have hlt:k.toNat<(graphOf f).length:=by omega
   have:=rLoop_in _ rfl (graphOf f) hg k.toNat hlt hsu g3
   rw[loop_eq _ hg _ hlt]
   rw[Int.toNat_of_nonneg (by omega)] at this
   exact this
  | false =>
   rw[if_neg (by simp)]
   rw[hk] at hd
   have hd:((decide (k<0)||decide (k≥((graphOf f).length:Int)))||!(rheads (graphOf f)).getD k.toNat false)=true:=by
    have:=hd.symm
    rw[Bool.not_eq_false'] at this
    exact this
   exact pc_nil 1 (by decide) (rLoop_out _ rfl (graphOf f) hg k hsu hd)
 ·rw[if_neg h]
  obtain⟨e,he,hsu⟩:=rsuc_bad f hf hc hs h
  rw[f_enc] at hsu ⊢
  exact pc_nil 1 (by decide) (rLoop_bad _ rfl k e he hsu)
def acyA (f:Fm):Bool×Int:=if shapedB f=true then (racyc (graphOf f),0) else (false,1)
theorem uAcy_A (L:LF) (f:Fm) (hf:Fit f) (hc:f.cnt≤1000000):PC Tryz.prog 10 [f.enc] (.tup [tB (acyA f).1,tI (acyA f).2]):=by
 have h:=uAcyc_spec L f hf (low_of f hc)
 unfold uAcyc at h
 unfold acyA
 by_cases hs:shapedB f=true
 ·rw[if_pos hs] at h ⊢
  rw[acyc_eq _ (gr_ok f hf hc hs)] at h
  exact h
 ·rw[if_neg hs] at h ⊢
  exact h
theorem rAcy_A (f:Fm) (hf:Fit f) (hc:f.cnt≤1000000) (hs:f.sz≤800):PC Tryz.prog 11 [f.enc] (.tup [tB (acyA f).1,tI (acyA f).2]):=by
 unfold acyA
 by_cases h:shapedB f=true
 ·rw[if_pos h]
  have hsu:=suc_ok f hf hc hs h
  rw[f_enc] at hsu ⊢
  exact rAcyc_good _ rfl _ (gr_ok f hf hc h) hsu
 ·rw[if_neg h]
  obtain⟨e,he,hsu⟩:=rsuc_bad f hf hc hs h
  rw[f_enc] at hsu ⊢
  exact rAcyc_bad _ rfl e he hsu
theorem rAsg_A (f:Fm) (hf:Fit f) (hc:f.cnt≤1000000) (hs:f.sz≤800) (l:List Int) (hl:l.length≤2000000):PC Tryz.prog 9 [f.enc,.sl 1 (l.map fun n=>[tI n])] (.tup [.sl 1 ((asgA f l).1.map cw),tI (asgA f l).2]):=by
 unfold asgA
 by_cases h:shapedB f=true
 ·rw[if_pos h]
  have hsu:=suc_ok f hf hc hs h
  have hok:=rs_ok f hf h hc l hl
  have hnm:=nms_eq f h l
  have hd:=blks_drop h
  have hgl:(graphOf f).length=(blksOf f.kids).length:=by unfold graphOf sucG;rw[List.length_map,hd]
  have hkl:f.kids.length≤1000000:=by have:=cnt_kids f;have:=cntL_len f.kids;omega
  have key:PC Tryz.prog 9 [f.enc,.sl 1 (l.map fun n=>[tI n])] (rAsgT (blksOf f.kids) l):=by
   obtain⟨k,n,t,ks⟩:=f
   exact rAsg_good k n t ks hkl _ hgl l hok hsu
  unfold rAsgT at key
  cases hin:l.all (inB (blksOf f.kids).length) with
  | true =>
   rw[if_pos rfl]
   rw[hin,if_pos rfl] at key
   have e:(sortW (rNms (blksOf f.kids) l)).map txt=(((srt ((addAll [] (nmsOf (blksOf f.kids) l)).map bts)).map fun s=>(⟨s.toArray⟩:ByteArray))).map cw:=by
    rw[←names_eq _ _ hnm,List.map_map,List.map_map]
    refine List.map_congr_left fun w _=>?_
    show [tS w.text]=[tS ⟨(bts w.text).toArray⟩]
    unfold bts
    simp
   rw[e] at key
   exact key
  | false =>
   rw[if_neg (by simp)]
   rw[hin,if_neg (by simp)] at key
   exact pc_nil 1 (by decide) key
 ·rw[if_neg h]
  obtain⟨e,he,hsu⟩:=rsuc_bad f hf hc hs h
  rw[f_enc] at hsu ⊢
  exact pc_nil 1 (by decide) (rAsg_bad _ rfl _ e he hsu)
theorem law_all (L:LF) (hsane:PC Tryz.prog 5 [] (tB true)) (f:Fm) (hf:Fit f) (hc:f.cnt≤1000000) (k:Int) (l:List Int) (hl:l.length≤2000000):PC Tryz.prog 3 [f.enc,tI k,.sl 1 (l.map fun n=>[tI n])] (tB true):=by
 have hsz:=size_spec f hf
 have hz:=zs_eq f hc
 by_cases hb:f.zs>800
 ·rw[f_enc] at hsz ⊢
  exact law_big _ rfl k _ f.zs (decide_eq_true hb) hsz hsane
 ·have hs:f.sz≤800:=by omega
  have hlow:=low_of f hc
  have h6:=uLoop_nil L f hf hlow k
  have h7:=rLoop_A f hf hc hs k
  have h8:=uAsg_nil L f hf hlow (few_of f hc) l
  have h9:=rAsg_A f hf hc hs l hl
  have h10:=uAcy_A L f hf hc
  have h11:=rAcy_A f hf hc hs
  have hA:(loopA f k).1.length≤maxLen:=by
   unfold loopA
   by_cases h:shapedB f=true
   ·rw[if_pos h]
    split
    ·have hg:=gr_ok f hf hc h
     have h1:(loopK (graphOf f) k.toNat).length≤(graphOf f).length:=by unfold loopK;exact filLen _ _
     exact Nat.le_trans h1 hg.len
    ·simp
   ·rw[if_neg h];simp
  have hB:(asgA f l).1.length≤maxLen:=by
   unfold asgA
   by_cases h:shapedB f=true
   ·rw[if_pos h]
    split
    ·rw[←names_eq _ _ (nms_eq f h l),List.length_map,List.length_map]
     have h1:=sortW_len (rNms (blksOf f.kids) l)
     have h2:=(rs_ok f hf h hc l hl).all
     simp only[maxLen];omega
    ·simp
   ·rw[if_neg h];simp
  rw[f_enc] at *
  exact law_small _ rfl k _ f.zs (decide_eq_false hb) hsz hsane _ hA _ hB _ _ _ _ h6 h7 h8 h9 h10 h11
end
end Go.Proofs.YtaenfjplagiioaaGreatDoor.L
end
