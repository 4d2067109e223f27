/- A part of the proof: Kx16 Kx17 Kx18 Kx19 Kx20 Kx21. -/
import Derived.Test.YtihbimigddlbaaaGreatDoorKxD
import Derived.RangeFuncLeaves
import Derived.Recover
import Derived.Test.YtihbimigddlbaaaGreatDoorPlD
import Derived.Lib.Bytealg
noncomputable section
set_option linter.all false
namespace Go.Proofs.YtihbimigddlbaaaGreatDoor.Kx
open Go.RowKit Go.Proofs.YtihbimigddlbaaaGreatDoor.Pl
section
def bindsAll (o:Oper) (p:Nat→Bool):Bool:=o.after.toList.all fun e=>!Region.binds .any e||p e.on
def bindsTo (o:Oper) (j:Nat):Bool:=o.after.toList.any fun e=>Region.binds .any e&&Nat.beq e.on j
def chooseE (o0 o1 o2 o3:Oper):Bool :=
 bindsAll o0 (fun _=>false)&&bindsAll o1 (fun j=>Nat.beq j 0)&&bindsTo o1 0&&bindsAll o2 (fun j=>Nat.beq j 0)&&bindsTo o2 0&&bindsAll o3 (fun j=>Nat.blt j 3)&&bindsTo o3 1&&bindsTo o3 2&&o0.guard.isNone
def chooseC (T:TyTab) (G:Gl) (cl:Cl) (N:Nat) (c:Code) (s:Fs):Option (Fs×Fs) :=
 match c with
 | .region _ ops true=>match ops.toList with
  | [o0,o1,o2,o3]=>bif chooseE o0 o1 o2 o3 then (match opC T G cl o0 s with
    | some (.val v h ds)=>match putφ N o0.dst v s.φ with
     | some φ=>match opsC T G cl N ops [o1,o2,o3] ⟨φ,h,ds⟩,opsC T G cl N ops [o2,o1,o3] ⟨φ,h,ds⟩ with
      | some (.nrm,s1),some (.nrm,s2)=>some (s1,s2)
      | _,_=>none
     | none=>none
    | _=>none) else none
  | _=>none
 | _=>none
def eqEs:List (CV×CV×Nat)→List (CV×CV×Nat)→Bool
 | [],[]=>true
 | (k,v,b)::r,(k',v',b')::r'=>eqC k k'&&eqC v v'&&Nat.beq b b'&&eqEs r r'
 | _,_=>false
def eqO:CO→CO→Bool
 | .cells e cs,.cells e' cs'=>Nat.beq e e'&&eqCs cs cs'
 | .map es c,.map es' c'=>Nat.beq c c'&&eqEs es es'
 | .dead,.dead=>true
 | _,_=>false
def Tr.meet {α:Type} (eq:α→α→Bool):Tr α→Tr α→Tr α
 | .n l v r,.n l' v' r'=>.n (Tr.meet eq l l') (match v,v' with | some x,some y=>bif eq x y then some x else none | _,_=>none) (Tr.meet eq r r')
 | _,_=>.e
def eqX:Ex→Ex→Bool
 | .nrm,.nrm | .ret,.ret=>true
 | .exit i,.exit j=>Nat.beq i j
 | _,_=>false
def meetF (s t:Fs):Option Fs :=
 match s.ds,t.ds with
 | [],[]=>bif Nat.beq s.h.n t.h.n then some ⟨Tr.meet eqC s.φ t.φ,⟨Tr.meet eqO s.h.σ t.h.σ,s.h.n⟩,[]⟩ else none
 | _,_=>none
def meetR:Option (Ex×Fs)→Option (Ex×Fs)→Option (Ex×Fs)
 | some (x,s),some (y,t)=>bif eqX x y then (match meetF s t with | some u=>some (x,u) | none=>none) else none
 | _,_=>none
def codeC (T:TyTab) (G:Gl) (cl:Cl) (N:Nat):Nat→Code→Fs→Option (Ex×Fs)
 | 0,_,_=>none
 | n+1,c,s=>match c with
  | .skip=>some (.nrm,s)
  | .region _ ops false=>opsC T G cl N ops ops.toList s
  | .region _ ops true=>match drawC T G cl N ops s with
   | some s'=>some (.nrm,s')
   | none=>match drawF T G cl N ops s with
    | some s'=>some (.nrm,s')
    | none=>drawL T G cl N ops s
  | .seq a b=>match chooseC T G cl N a s with
   | some (s1,s2)=>meetR (codeC T G cl N n b s1) (codeC T G cl N n b s2)
   | none=>match codeC T G cl N n a s with
    | some (.nrm,s')=>codeC T G cl N n b s'
    | r=>r
  | .cond c a b=>match evalC s.φ c with
   | some (.v (.bool true))=>codeC T G cl N n a s
   | some (.v (.bool false))=>codeC T G cl N n b s
   | _=>none
  | .block i b=>match codeC T G cl N n b s with
   | some (.exit j,s')=>bif Nat.beq j i then some (.nrm,s') else some (.exit j,s')
   | r=>r
  | .loop b=>match codeC T G cl N n b s with
   | some (.nrm,s')=>codeC T G cl N n (.loop b) s'
   | r=>r
  | .exit i=>some (.exit i,s)
  | .ret=>some (.ret,s)
  | .label _=>some (.nrm,s)
  | .rangeFunc f _ _ _=>match evalC s.φ f with
   | some (.fn g caps)=>match cl g (.yld (s.h.n+1)::caps) ((s.h.new .dfr).new .dead) with
    | some (.val _,h2)=>some (.nrm,⟨s.φ,h2,markD s.h.n::s.ds⟩)
    | _=>none
   | _=>none
  | _=>none
section
variable {P:Program} {T:TyTab} {G:Gl} {w0:World} {N:Nat} {cl:Cl}
theorem exR_then {m0:Pm} {h0:Hp} {w_0:World} {x:Ex} {s':Fs} {Q:Exit→Act→World→Prop} {K:Act→World→Prop}
  (hn:x=.nrm→∀ m a w,FsR G w0 N m s' a w→Stp m0 h0 w_0 m s'.h w→K a w) (ho:x≠.nrm→∀ e a w,CodeR G w0 N m0 h0 w_0 x s' e a w→Q e a w) :
  ∀ e a w,CodeR G w0 N m0 h0 w_0 x s' e a w→Exit.then K Q e a w:=by
 intro e a w h
 by_cases hx:x=.nrm
 ·subst hx
  obtain⟨m',F,St,he⟩:=h
  simp only[exR] at he;subst he
  exact hn rfl m' a w F St
 ·have:=ho hx e a w h
  obtain⟨m',F,St,he⟩:=h
  cases x with
  | nrm=>exact absurd rfl hx
  | exit i=>simp only[exR] at he;subst he;exact this
  | ret=>simp only[exR] at he;subst he;exact this
  | pan v=>simp only[exR] at he;obtain⟨ch,rfl,_⟩:=he;exact this
theorem bindsAll_spec {o:Oper} {p:Nat→Bool} (h:bindsAll o p=true):∀ e∈o.after,Region.binds .any e=true→p e.on=true:=by
 intro e he hb
 unfold bindsAll at h
 rw[List.all_eq_true] at h
 have:=h e (Array.mem_toList_iff.2 he)
 simpa [hb] using this
theorem bindsTo_spec {o:Oper} {j:Nat} (h:bindsTo o j=true):∃ e∈o.after,Region.binds .any e=true∧e.on=j:=by
 unfold bindsTo at h
 rw[List.any_eq_true] at h
 obtain⟨e,h1,h2⟩:=h
 simp only[Bool.and_eq_true] at h2
 exact⟨e,Array.mem_toList_iff.1 h1,h2.1,beq_eq h2.2⟩
theorem wpAny_only {ops:Array Oper} {Q:Exit→Act→World→Prop} {listed:Array Bool} {i:Nat} {fuel:Nat} {a:Act} {w:World} (hi:i∈Region.ready .any ops listed) (ho:∀ j∈Region.ready .any ops listed,j=i) (h:wpOp P ops Q i (wpAny P .any ops Q fuel (listed.setIfInBounds i true)) a w):wpAny P .any ops Q (fuel+1) listed a w:=by
 refine⟨fun h0=>by rw[h0] at hi;simp at hi,fun j hj=>?_⟩
 have:=ho j hj;subst this;exact h
theorem wpOp_cons {ops:Array Oper} {Q:Exit→Act→World→Prop} {i:Nat} {o:Oper} (ho:ops[i]?=some o) {r:List Oper} {K:Act→World→Prop} {a:Act} {w:World} (h:wpList P ops Q (o::r) a w) (hK:∀ a w,wpList P ops Q r a w→K a w):wpOp P ops Q i K a w:=by
 refine wpOp_mono hK ?_
 unfold wpOp
 simp only[ho]
 exact h
theorem chooseC_sound (C:Cx P T) (hcl:ClOK P G w0 cl) {m0:Pm} {h0:Hp} {w_0:World} {c:Code} {s s1 s2:Fs} (hx:chooseC T G cl N c s=some (s1,s2)) {m:Pm} {a:Act} {w:World}
  (F:FsR G w0 N m s a w) (St:Stp m0 h0 w_0 m s.h w):c.wp P (fun e a w=>CodeR G w0 N m0 h0 w_0 .nrm s1 e a w∨CodeR G w0 N m0 h0 w_0 .nrm s2 e a w) a w:=by
 unfold chooseC at hx
 split at hx
 ·rename_i id ops
  split at hx
  ·rename_i o0 o1 o2 o3 hops
   have hops':ops=#[o0,o1,o2,o3]:=by rw[←Array.toArray_toList (xs:=ops),hops]
   cases hE:chooseE o0 o1 o2 o3 with
   | false=>rw[hE] at hx;cases hx
   | true =>
    rw[hE,cond_true] at hx
    split at hx
    ·rename_i v h ds hop
     split at hx
     ·rename_i φ hφ
      split at hx
      ·rename_i t1 t2 ht1 ht2
       simp only[Option.some.injEq,Prod.mk.injEq] at hx
       rw[hx.1] at ht1
       rw[hx.2] at ht2
       simp only[chooseE,Bool.and_eq_true] at hE
       obtain⟨⟨⟨⟨⟨⟨⟨⟨e0,e1⟩,e1'⟩,e2⟩,e2'⟩,e3⟩,e31⟩,e32⟩,eg⟩:=hE
       subst hops'
       have hg0:o0.guard=none:=by simpa using eg
       have b0:=bindsAll_spec e0
       have b1:=bindsAll_spec e1
       have b2:=bindsAll_spec e2
       have b3:=bindsAll_spec e3
       obtain⟨d1,d1m,d1b,d1o⟩:=bindsTo_spec e1'
       obtain⟨d2,d2m,d2b,d2o⟩:=bindsTo_spec e2'
       obtain⟨d31,d31m,d31b,d31o⟩:=bindsTo_spec e31
       obtain⟨d32,d32m,d32b,d32o⟩:=bindsTo_spec e32
       refine wp_region_any C.mixed ?_
       show wpAny P .any #[o0,o1,o2,o3] _ 4 #[false,false,false,false] a _
       have cases4:∀ {j:Nat} {o:Oper},(#[o0,o1,o2,o3]:Array Oper)[j]?=some o→(j=0∧o=o0)∨(j=1∧o=o1)∨(j=2∧o=o2)∨(j=3∧o=o3):=by
        intro j o hj
        match j,hj with
        | 0,hj=>simp at hj;exact .inl ⟨rfl,hj.symm⟩
        | 1,hj=>simp at hj;exact .inr (.inl ⟨rfl,hj.symm⟩)
        | 2,hj=>simp at hj;exact .inr (.inr (.inl ⟨rfl,hj.symm⟩))
        | 3,hj=>simp at hj;exact .inr (.inr (.inr ⟨rfl,hj.symm⟩))
        | j+4,hj=>simp at hj
       refine wpAny_only (i:=0) ?_ ?_ ?_
       ·refine mem_ready.2 ⟨rfl,o0,rfl,fun e he hb=>?_⟩
        have:=b0 e he hb;cases this
       ·intro j hj
        obtain⟨h1,o,ho,hall⟩:=mem_ready.1 hj
        rcases cases4 ho with⟨rfl,rfl⟩ | ⟨rfl,rfl⟩ | ⟨rfl,rfl⟩ | ⟨rfl,rfl⟩
        ·rfl
        ·have:=hall _ d1m d1b;rw[d1o] at this;cases this
        ·have:=hall _ d2m d2b;rw[d2o] at this;cases this
        ·have:=hall _ d31m d31b;rw[d31o] at this;cases this
       show wpOp P #[o0,o1,o2,o3] _ 0 (wpAny P .any #[o0,o1,o2,o3] _ 3 #[true,false,false,false]) a _
       unfold wpOp
       simp only[List.getElem?_toArray,List.getElem?_cons_zero]
       rw[if_pos (by simp[Region.wanted,hg0])]
       have F':FsR G w0 N m s a { w with drawn:=w.drawn+1 }:=⟨F.mem.drawn,F.fr,F.sz,F.df⟩
       have St0:Stp m0 h0 w_0 m s.h { w with drawn:=w.drawn+1 }:=⟨St.ext,⟨St.keep.os,St.keep.tape,St.keep.output,St.keep.size,St.keep.block⟩,St.img⟩
       refine .inl (opC_sound C hcl F' hop ?_ ?_)
       ·intro v2 h2 ds2 he y m' w' dfs M' St' hy hd
        injection he with q1 q2 q3;subst q1;subst q2;subst q3
        obtain⟨f1,f2,f3⟩:=putφ_rel (a:={ a with defers:=dfs }) (FrR.ext (a:={ a with defers:=dfs }) St'.ext F.fr) F.sz hy hφ
        have FF:FsR G w0 N m' (⟨φ,h,ds⟩:Fs) ({ a with defers:=dfs }.put o0.dst y) w':=⟨M',f1,f2,by rw[f3];exact hd⟩
        have SS:=St0.trans St'
        have g1':=opsC_soundQ (m0:=m0) (h0:=h0) (w_0:=w_0) (Q:=fun e a w=>CodeR G w0 N m0 h0 w_0 .nrm s1 e a w∨CodeR G w0 N m0 h0 w_0 .nrm s2 e a w) C hcl _ _ _ _ _ _ _ FF SS ht1 (fun _ _ _ h=>.inl h)
        have g2':=opsC_soundQ (m0:=m0) (h0:=h0) (w_0:=w_0) (Q:=fun e a w=>CodeR G w0 N m0 h0 w_0 .nrm s1 e a w∨CodeR G w0 N m0 h0 w_0 .nrm s2 e a w) C hcl _ _ _ _ _ _ _ FF SS ht2 (fun _ _ _ h=>.inr h)
        have last:∀ a w,wpList P #[o0,o1,o2,o3] (fun e a w=>CodeR G w0 N m0 h0 w_0 .nrm s1 e a w∨CodeR G w0 N m0 h0 w_0 .nrm s2 e a w) [o3] a w→wpAny P .any #[o0,o1,o2,o3] (fun e a w=>CodeR G w0 N m0 h0 w_0 .nrm s1 e a w∨CodeR G w0 N m0 h0 w_0 .nrm s2 e a w) 1 #[true,true,true,false] a w:=by
         intro a w hw
         refine wpAny_only (i:=3) ?_ ?_ ?_
         ·refine mem_ready.2 ⟨rfl,o3,rfl,fun e he hb=>?_⟩
          have:=blt_lt (b3 e he hb)
          match e.on,this with
          | 0,_=>rfl
          | 1,_=>rfl
          | 2,_=>rfl
         ·intro j hj
          obtain⟨h1,o,ho,hall⟩:=mem_ready.1 hj
          rcases cases4 ho with⟨rfl,rfl⟩ | ⟨rfl,rfl⟩ | ⟨rfl,rfl⟩ | ⟨rfl,rfl⟩
          ·cases h1
          ·cases h1
          ·cases h1
          ·rfl
         show wpOp P #[o0,o1,o2,o3] _ 3 (wpAny P .any #[o0,o1,o2,o3] _ 0 #[true,true,true,true]) a w
         refine wpOp_cons (o:=o3) rfl hw ?_
         intro a w h
         refine⟨?_,h⟩
         rw[List.eq_nil_iff_forall_not_mem]
         intro j hj
         obtain⟨h1,o,ho,_⟩:=mem_ready.1 hj
         rcases cases4 ho with⟨rfl,rfl⟩ | ⟨rfl,rfl⟩ | ⟨rfl,rfl⟩ | ⟨rfl,rfl⟩ <;> cases h1
        refine⟨fun h0=>?_,fun i hi=>?_⟩
        ·have:1∈Region.ready .any #[o0,o1,o2,o3] #[true,false,false,false]:=mem_ready.2 ⟨rfl,o1,rfl,fun e he hb=>by
          have:=beq_eq (b1 e he hb);rw[this];rfl⟩
         rw[h0] at this;simp at this
        ·obtain⟨h1,o,ho,hall⟩:=mem_ready.1 hi
         rcases cases4 ho with⟨rfl,rfl⟩ | ⟨rfl,rfl⟩ | ⟨rfl,rfl⟩ | ⟨rfl,rfl⟩
         ·cases h1
         ·show wpOp P #[o0,o,o2,o3] _ 1 (wpAny P .any #[o0,o,o2,o3] _ 2 #[true,true,false,false]) _ _
          refine wpOp_cons (o:=o) rfl g1' ?_
          intro a w h
          refine wpAny_only (i:=2) ?_ ?_ ?_
          ·refine mem_ready.2 ⟨rfl,o2,rfl,fun e he hb=>?_⟩
           have:=beq_eq (b2 e he hb);rw[this];rfl
          ·intro j hj
           obtain⟨h1,o',ho',hall'⟩:=mem_ready.1 hj
           rcases cases4 ho' with⟨rfl,rfl⟩ | ⟨rfl,rfl⟩ | ⟨rfl,rfl⟩ | ⟨rfl,rfl⟩
           ·cases h1
           ·cases h1
           ·rfl
           ·have:=hall' _ d32m d32b;rw[d32o] at this;cases this
          show wpOp P #[o0,o,o2,o3] _ 2 (wpAny P .any #[o0,o,o2,o3] _ 1 #[true,true,true,false]) a w
          exact wpOp_cons (o:=o2) rfl h (fun a w h=>last a w h)
         ·show wpOp P #[o0,o1,o,o3] _ 2 (wpAny P .any #[o0,o1,o,o3] _ 2 #[true,false,true,false]) _ _
          refine wpOp_cons (o:=o) rfl g2' ?_
          intro a w h
          refine wpAny_only (i:=1) ?_ ?_ ?_
          ·refine mem_ready.2 ⟨rfl,o1,rfl,fun e he hb=>?_⟩
           have:=beq_eq (b1 e he hb);rw[this];rfl
          ·intro j hj
           obtain⟨h1,o',ho',hall'⟩:=mem_ready.1 hj
           rcases cases4 ho' with⟨rfl,rfl⟩ | ⟨rfl,rfl⟩ | ⟨rfl,rfl⟩ | ⟨rfl,rfl⟩
           ·cases h1
           ·rfl
           ·cases h1
           ·have:=hall' _ d31m d31b;rw[d31o] at this;cases this
          show wpOp P #[o0,o1,o,o3] _ 1 (wpAny P .any #[o0,o1,o,o3] _ 1 #[true,true,true,false]) a w
          exact wpOp_cons (o:=o1) rfl h (fun a w h=>last a w h)
         ·have:=hall _ d31m d31b;rw[d31o] at this;cases this
       ·intro v2 h2 he;cases he
      ·cases hx
     ·cases hx
    ·cases hx
  ·cases hx
 ·cases hx
theorem eqEs_eq:∀ {a b:List (CV×CV×Nat)},eqEs a b=true→a=b
 | [],[],_=>rfl
 | (k,v,b)::r,(k',v',b')::r',h=>by
  simp only[eqEs,Bool.and_eq_true] at h
  obtain⟨⟨⟨h1,h2⟩,h3⟩,h4⟩:=h
  rw[eqC_eq _ _ h1,eqC_eq _ _ h2,beq_eq h3,eqEs_eq h4]
 | [],_::_,h=>by simp[eqEs] at h
 | _::_,[],h=>by simp[eqEs] at h
theorem eqO_eq {a b:CO} (h:eqO a b=true):a=b:=by
 unfold eqO at h
 split at h
 ·rw[Bool.and_eq_true] at h;rw[beq_eq h.1,eqCs_eq _ _ h.2]
 ·rw[Bool.and_eq_true] at h;rw[beq_eq h.1,eqEs_eq h.2]
 ·rfl
 ·cases h
theorem Tr.meet_get {α:Type} {eq:α→α→Bool} (he:∀ x y,eq x y=true→x=y):∀ (s t:Tr α) (k:Nat) (x:α),(Tr.meet eq s t).get k=some x→s.get k=some x∧t.get k=some x
 | .e,t,k,x,h=>by simp[Tr.meet,Tr.get_e] at h
 | .n l v r,.e,k,x,h=>by simp[Tr.meet,Tr.get_e] at h
 | .n l v r,.n l' v' r',k,x,h=>by
  simp only[Tr.meet,Tr.get_n,cond_beq] at h ⊢
  split at h
  ·rename_i hk
   rw[if_pos hk,if_pos hk]
   split at h
   ·rename_i a b
    cases hq:eq a b with
    | false=>rw[hq] at h;cases h
    | true =>
     rw[hq,cond_true] at h
     have:=he _ _ hq;subst this
     exact⟨h,h⟩
   ·cases h
  ·rename_i hk
   rw[if_neg hk,if_neg hk]
   split at h
   ·rename_i h1
    rw[if_pos h1,if_pos h1];exact Tr.meet_get he l l' _ x h
   ·rename_i h1
    rw[if_neg h1,if_neg h1];exact Tr.meet_get he r r' _ x h
theorem FsR.less {m:Pm} {s t:Fs} {a:Act} {w:World} (F:FsR G w0 N m s a w) (h1:∀ k c,t.φ.get k=some c→s.φ.get k=some c) (h2:∀ l o,t.h.σ.get l=some o→s.h.σ.get l=some o) (hn:t.h.n=s.h.n) (hd:t.ds=s.ds):FsR G w0 N m t a w:=by
 refine⟨⟨F.mem.below,fun l o h=>by rw[hn];exact F.mem.lt l o (h2 l o h),fun l o h=>by rw[hn];exact F.mem.ob l o (h2 l o h),fun l o h=>F.mem.own l o (h2 l o h),fun l l' o o' h h'=>F.mem.dj l l' o o' (h2 l o h) (h2 l' o' h'),F.mem.gl⟩,fun k c h=>by rw[hn];exact F.fr k c (h1 k c h),F.sz,by rw[hn,hd];exact F.df⟩
theorem Stp.less {m m':Pm} {h s t:Hp} {w w':World} (S:Stp m h w m' s w') (h2:∀ l o,t.σ.get l=some o→s.σ.get l=some o) (hn:t.n=s.n):Stp m h w m' t w' :=
 ⟨by rw[hn];exact S.ext,S.keep,fun l o hl ho=>S.img l o (h2 l o hl) ho⟩
theorem CodeR.less {m0:Pm} {h0:Hp} {w_0:World} {x:Ex} {s t:Fs} {e:Exit} {a:Act} {w:World} (F:CodeR G w0 N m0 h0 w_0 x s e a w) (h1:∀ k c,t.φ.get k=some c→s.φ.get k=some c) (h2:∀ l o,t.h.σ.get l=some o→s.h.σ.get l=some o) (hn:t.h.n=s.h.n) (hd:t.ds=s.ds):CodeR G w0 N m0 h0 w_0 x t e a w:=by
 obtain⟨m',F,St,he⟩:=F
 exact⟨m',F.less h1 h2 hn hd,St.less h2 hn,by rw[hn];exact he⟩
theorem meetF_spec {s t u:Fs} (h:meetF s t=some u):(∀ k c,u.φ.get k=some c→s.φ.get k=some c∧t.φ.get k=some c)∧(∀ l o,u.h.σ.get l=some o→s.h.σ.get l=some o∧t.h.σ.get l=some o)∧u.h.n=s.h.n∧u.h.n=t.h.n∧u.ds=s.ds∧u.ds=t.ds:=by
 unfold meetF at h
 split at h
 ·rename_i h1 h2
  cases hb:Nat.beq s.h.n t.h.n with
  | false=>rw[hb] at h;cases h
  | true =>
   rw[hb,cond_true] at h
   injection h with h;subst h
   exact⟨fun k c h=>Tr.meet_get eqC_eq _ _ _ _ h,fun l o h=>Tr.meet_get (fun _ _=>eqO_eq) _ _ _ _ h,rfl,beq_eq hb,h1.symm,h2.symm⟩
 ·cases h
theorem eqX_eq {x y:Ex} (h:eqX x y=true):x=y:=by
 unfold eqX at h
 split at h
 ·rfl
 ·rfl
 ·rw[beq_eq h]
 ·cases h
theorem meetR_spec {r1 r2:Option (Ex×Fs)} {x:Ex} {u:Fs} (h:meetR r1 r2=some (x,u)):∃ s t,r1=some (x,s)∧r2=some (x,t)∧meetF s t=some u:=by
 unfold meetR at h
 split at h
 ·rename_i x1 s y1 t
  cases hb:eqX x1 y1 with
  | false=>rw[hb] at h;cases h
  | true =>
   rw[hb,cond_true] at h
   have:=eqX_eq hb;subst this
   split at h
   ·rename_i u' hu
    simp only[Option.some.injEq,Prod.mk.injEq] at h
    obtain⟨rfl,rfl⟩:=h
    exact⟨s,t,rfl,rfl,hu⟩
   ·cases h
 ·cases h
theorem Mem.touch {m m0:Pm} {h h0:Hp} {w w' w_0:World} (M:Mem G w0 m h w) (St:Stp m0 h0 w_0 m h w) {b:Nat} (hb0:w0.heap.size≤b) (hb1:w_0.heap.size≤b) (hne:∀ l o,h.σ.get l=some o→o.live=true→m.b l≠b)
  (h1:w'.os=w.os) (h2:w'.tape=w.tape) (h3:w'.output=w.output) (h4:w'.heap.size=w.heap.size) (h5:∀ k,k≠b→w'.heap[k]?=w.heap[k]?):Mem G w0 m h w'∧Stp m0 h0 w_0 m h w':=by
 refine⟨⟨⟨h1.trans M.below.os,h2.trans M.below.tape,h3.trans M.below.output,by rw[h4];exact M.below.size,fun k hk=>by rw[h5 k (by omega)];exact M.below.block k hk⟩,M.lt,fun l o hl=>?_,M.own,M.dj,M.gl⟩,⟨St.ext,⟨h1.trans St.keep.os,h2.trans St.keep.tape,h3.trans St.keep.output,by rw[h4];exact St.keep.size,fun k hk hn=>by rw[h5 k (by omega)];exact St.keep.block k hk hn⟩,St.img⟩⟩
 exact CO.rel_keep (Ext.refl _ _) (M.lt l o hl) (fun ho=>h5 _ (hne l o hl ho)) (M.ob l o hl)
theorem rangeFunc_sound (C:Cx P T) (hcl:ClOK P G w0 cl) {m0:Pm} {h0:Hp} {w_0:World} {f:Operand} {ps:Array Tmp} {as b:Code} {s:Fs} {g:FuncId} {caps:List CV} {v:CV} {h2:Hp} (hf:evalC s.φ f=some (.fn g caps)) (hc:cl g (.yld (s.h.n+1)::caps) ((s.h.new .dfr).new .dead)=some (.val v,h2))
  {m:Pm} {a:Act} {w:World} (F:FsR G w0 N m s a w) (St:Stp m0 h0 w_0 m s.h w):(Code.rangeFunc f ps as b).wp P (CodeR G w0 N m0 h0 w_0 .nrm ⟨s.φ,h2,markD s.h.n::s.ds⟩) a w:=by
 have hfr:=evalC_rel F.fr _ _ hf
 simp only[CV.rel] at hfr
 obtain⟨cs,hfe,hcr⟩:=hfr
 refine (wpIn_wide (n:=0)).1 (wpIn_rangeFunc fun fn _=>?_)
 have he:(Instr.enterLoop fn a.tmps ps as b Fence.wide.round).run P w=.ok (w.heap.size+1,[{ target:=.collected w.heap.size,args:=#[] }])
   { w with heap:=(w.heap.push (.deferred (some []))).push (.loop { state:=.ready,pending:=none,fn,tmps:=a.tmps,params:=ps,assign:=as,body:=b,defers:=w.heap.size }) }:=by
  simp[Instr.enterLoop,newObj,Sem.run,Fence.wide]
  rfl
 generalize hw1:({ w with heap:=(w.heap.push (.deferred (some []))).push (.loop { state:=.ready,pending:=none,fn,tmps:=a.tmps,params:=ps,assign:=as,body:=b,defers:=w.heap.size }) }:World)=w1 at he
 obtain⟨M1,S1⟩:=F.mem.new .dfr 0 (w':={ w with heap:=w.heap.push (.deferred (some [])) }) rfl rfl rfl (by simp) (fun k hk=>by simp only[Array.getElem?_push];rw[if_neg (by omega)]) (by
  show (w.heap.push (.deferred (some [])))[(m.put s.h.n w.heap.size 0).b s.h.n]?=_
  rw[Pm.put_b];simp)
 obtain⟨M2,S2⟩:=M1.new .dead 0 (w':=w1) (by rw[←hw1]) (by rw[←hw1]) (by rw[←hw1]) (by rw[←hw1];simp) (fun k hk=>by rw[←hw1];simp only[Array.getElem?_push];simp only[Array.size_push] at hk ⊢;rw[if_neg (by omega)]) trivial
 have hsz1:({ w with heap:=w.heap.push (.deferred (some [])) }:World).heap.size=w.heap.size+1:=by simp
 have hlive:∀ l o,((s.h.new .dfr).new .dead).σ.get l=some o→o.live=true→(((m.put s.h.n w.heap.size 0).put (s.h.n+1) ({ w with heap:=w.heap.push (.deferred (some [])) }:World).heap.size 0)).b l≠w.heap.size+1:=by
  intro l o hl ho
  simp only[Hp.new] at hl
  rw[Tr.get_set] at hl
  split at hl
  ·injection hl with hl;subst hl;cases ho
  ·rename_i hne
   have h1:=CO.rel_lt (M1.ob l o hl) ho
   rw[hsz1] at h1
   have:(((m.put s.h.n w.heap.size 0).put (s.h.n+1) ({ w with heap:=w.heap.push (.deferred (some [])) }:World).heap.size 0)).b l=(m.put s.h.n w.heap.size 0).b l:=by
    simp only[Pm.put];rw[if_neg hne]
   rw[this];omega
 have hlb:(((m.put s.h.n w.heap.size 0).put (s.h.n+1) ({ w with heap:=w.heap.push (.deferred (some [])) }:World).heap.size 0)).b (s.h.n+1)=w.heap.size+1:=by rw[Pm.put_b,hsz1]
 generalize hm2:((m.put s.h.n w.heap.size 0).put (s.h.n+1) ({ w with heap:=w.heap.push (.deferred (some [])) }:World).heap.size 0)=m2 at M2 S2 hlive hlb
 have S12:=S1.trans S2
 have hrel:CV.relL m2 (s.h.n+1+1) (.yld (s.h.n+1)::caps) (.func (.yield (w.heap.size+1)) #[] #[]::cs):=by
  simp only[CV.relL,CV.rel]
  exact⟨_,_,rfl,⟨by omega,by rw[hlb]⟩,CV.relL_ext S12.ext _ _ hcr⟩
 have hcall:=hcl g _ _ _ _ m2 w1 _ hc M2 hrel
 rcases hcall with⟨hent,hcall⟩ | ⟨hfl,_⟩
 ·refine⟨w.heap.size+1,[{ target:=.collected w.heap.size,args:=#[] }],w1,{ target:=.fn (.func g) cs.toArray,args:=#[.func (.yield (w.heap.size+1)) #[] #[]] },w1,g,(Value.func (.yield (w.heap.size+1)) #[] #[]::cs).toArray,w1,he,?_,fun _ _=>trivial,?_,fun h=>by simp[Fence.wide] at h,?_⟩
  ·have hev:a.eval (.const (.func (.yield (w.heap.size+1)) #[] #[]))=.func (.yield (w.heap.size+1)) #[] #[]:=rfl
   simp[rangeCall,resolve,hfe,hev,Deferred.ofValue]
  ·rw[←hent]
   congr 1
   simp[invoke]
  ·refine callsIn_wide.2 (Calls.mono hcall ?_)
   rintro e w3 ⟨m3,M3,S3,u,rfl,hu⟩
   have hkeep:w3.heap[w.heap.size+1]?=w1.heap[w.heap.size+1]?:=S3.keep.block _ (by rw[←hw1];simp) (fun l o hl ho=>hlive l o hl ho)
   have hrec:w3.heap[w.heap.size+1]?=some (.loop { state:=.ready,pending:=none,fn,tmps:=a.tmps,params:=ps,assign:=as,body:=b,defers:=w.heap.size }):=by
    rw[hkeep,←hw1]
    simp only[Array.getElem?_push,Array.size_push]
    simp
   refine⟨none,{ w3 with heap:=w3.heap.setIfInBounds (w.heap.size+1) (.loop { state:=.exhausted,pending:=none,fn,tmps:=a.tmps,params:=ps,assign:=as,body:=b,defers:=w.heap.size }) },?_,?_⟩
   ·simp[Instr.endLoop,Instr.getLoop,getObj,setObj,Sem.run,hrec]
   ·have S:Stp m0 h0 w_0 m3 h2 w3:=(St.trans S12).trans S3
    have hne:∀ l o,h2.σ.get l=some o→o.live=true→m3.b l≠w.heap.size+1:=by
     intro l o hl ho
     rcases S3.img l o hl ho with⟨l0,o0,g1,g2,g3⟩ | g1
     ·rw[←g3];exact hlive l0 o0 g1 g2
     ·rw[←hw1] at g1;simp at g1;omega
    obtain⟨M4,S4⟩:=M3.touch S (b:=w.heap.size+1) (Nat.le_trans F.mem.below.size (Nat.le_succ _)) (Nat.le_trans St.keep.size (Nat.le_succ _)) hne (w':={ w3 with heap:=w3.heap.setIfInBounds (w.heap.size+1) (.loop { state:=.exhausted,pending:=none,fn,tmps:=a.tmps,params:=ps,assign:=as,body:=b,defers:=w.heap.size }) }) rfl rfl rfl (by simp) (fun k hk=>by simp[Array.getElem?_setIfInBounds,Ne.symm hk])
    have hext:Ext m s.h.n m3 h2.n:=S12.ext.trans S3.ext
    refine⟨m3,⟨M4,FrR.ext (a:={ a with defers:=_ }) hext F.fr,F.sz,?_⟩,S4,rfl⟩
    simp only[defR,markD,isMark]
    refine⟨?_,a.defers,?_,defR_ext hext F.df⟩
    ·have:=S3.ext.le
     simp only[Hp.new] at this
     omega
    ·have e1:m3.b s.h.n=m2.b s.h.n:=S3.ext.b _ (by simp only[Hp.new];omega)
     have e2:m2.b s.h.n=w.heap.size:=by
      rw[←hm2];simp[Pm.put]
     rw[e1,e2];rfl
 ·simp[flat.go,flat] at hfl
theorem codeC_sound (C:Cx P T) (hcl:ClOK P G w0 cl) {m0:Pm} {h0:Hp} {w_0:World}:∀ (n k:Nat),k≤n→∀ (c:Code) (s:Fs) (x:Ex) (s':Fs),codeC T G cl N k c s=some (x,s')→∀ (m:Pm) (a:Act) (w:World),
  FsR G w0 N m s a w→Stp m0 h0 w_0 m s.h w→c.wp P (CodeR G w0 N m0 h0 w_0 x s') a w:=by
 intro n
 induction n with
 | zero =>
  intro k hk c s x s' hx
  have:k=0:=by omega
  subst this
  simp[codeC] at hx
 | succ n ih =>
  intro k hk c s x s' hx m a w F St
  cases k with
  | zero=>simp[codeC] at hx
  | succ k =>
   have hk:k≤n:=by omega
   cases c with
   | skip =>
    simp only[codeC,Option.some.injEq,Prod.mk.injEq] at hx
    obtain⟨rfl,rfl⟩:=hx
    exact wp_skip ⟨m,F,St,rfl⟩
   | label l =>
    simp only[codeC,Option.some.injEq,Prod.mk.injEq] at hx
    obtain⟨rfl,rfl⟩:=hx
    exact wp_label ⟨m,F,St,rfl⟩
   | exit i =>
    simp only[codeC,Option.some.injEq,Prod.mk.injEq] at hx
    obtain⟨rfl,rfl⟩:=hx
    exact wp_exit ⟨m,F,St,rfl⟩
   | ret =>
    simp only[codeC,Option.some.injEq,Prod.mk.injEq] at hx
    obtain⟨rfl,rfl⟩:=hx
    exact wp_ret ⟨m,F,St,rfl⟩
   | goto l=>simp[codeC] at hx
   | scope b=>simp[codeC] at hx
   | refuse w=>simp[codeC] at hx
   | rangeFunc f ps as b =>
    simp only[codeC] at hx
    split at hx
    ·rename_i g caps hf
     split at hx
     ·rename_i v h2 hc
      simp only[Option.some.injEq,Prod.mk.injEq] at hx
      obtain⟨rfl,rfl⟩:=hx
      exact rangeFunc_sound C hcl hf hc F St
     ·cases hx
    ·cases hx
   | region id ops draw =>
    cases draw with
    | false =>
     simp only[codeC] at hx
     exact wp_region_list (opsC_sound C hcl ops.toList s a w m x s' F St hx)
    | true =>
     simp only[codeC] at hx
     split at hx
     ·rename_i s1 hs
      simp only[Option.some.injEq,Prod.mk.injEq] at hx
      obtain⟨rfl,rfl⟩:=hx
      exact drawC_sound C hcl F St hs
     ·split at hx
      ·rename_i s1 hs
       simp only[Option.some.injEq,Prod.mk.injEq] at hx
       obtain⟨rfl,rfl⟩:=hx
       exact drawF_sound C hcl F St hs
      ·exact drawL_sound C hcl F St hx
   | seq c1 c2 =>
    simp only[codeC] at hx
    split at hx
    ·rename_i s1 s2 hch
     obtain⟨t1,t2,r1,r2,hm⟩:=meetR_spec hx
     obtain⟨p1,p2,p3,p4,p5,p6⟩:=meetF_spec hm
     refine wp_seq (wp_mono (chooseC_sound C hcl hch F St) ?_)
     have go:∀ {s1:Fs} {t1:Fs},codeC T G cl N k c2 s1=some (x,t1)→(∀ k c,s'.φ.get k=some c→t1.φ.get k=some c)→(∀ l o,s'.h.σ.get l=some o→t1.h.σ.get l=some o)→s'.h.n=t1.h.n→s'.ds=t1.ds→∀ e a w,CodeR G w0 N m0 h0 w_0 .nrm s1 e a w→Exit.then (c2.wp P (CodeR G w0 N m0 h0 w_0 x s')) (CodeR G w0 N m0 h0 w_0 x s') e a w:=by
      rintro s1 t1 hc q1 q2 q3 q4 e a1 w1 ⟨m1,F1,St1,he⟩
      simp only[exR] at he;subst he
      exact wp_mono (ih k hk c2 s1 x t1 hc m1 a1 w1 F1 St1) (fun e a w h=>h.less q1 q2 q3 q4)
     intro e a1 w1 hq
     rcases hq with hq | hq
     ·exact go r1 (fun k c h=>(p1 k c h).1) (fun l o h=>(p2 l o h).1) p3 p5 e a1 w1 hq
     ·exact go r2 (fun k c h=>(p1 k c h).2) (fun l o h=>(p2 l o h).2) p4 p6 e a1 w1 hq
    split at hx
    ·rename_i s1 h1
     refine wp_seq (wp_mono (ih k hk c1 s _ s1 h1 m a w F St) (exR_then (fun _ m1 a1 w1 F1 St1=>ih k hk c2 s1 x s' hx m1 a1 w1 F1 St1) (fun h=>absurd rfl h)))
    ·rename_i hne
     refine wp_seq (wp_mono (ih k hk c1 s x s' hx m a w F St) (exR_then (fun h=>?_) (fun _ e a w h=>h)))
     subst h
     exact absurd hx (hne _)
   | cond c1 c2 c3 =>
    simp only[codeC] at hx
    split at hx
    ·rename_i hc
     have:=evalC_rel F.fr _ _ hc
     simp only[CV.rel] at this
     exact wp_cond_true this.1 (ih k hk c2 s x s' hx m a w F St)
    ·rename_i hc
     have:=evalC_rel F.fr _ _ hc
     simp only[CV.rel] at this
     exact wp_cond_false this.1 (ih k hk c3 s x s' hx m a w F St)
    ·cases hx
   | block i b =>
    simp only[codeC] at hx
    refine wp_block ?_
    split at hx
    ·rename_i j s1 h1
     refine wp_mono (ih k hk b s _ s1 h1 m a w F St) ?_
     rintro e a1 w1 ⟨m1,F1,St1,he⟩
     simp only[exR] at he;subst he
     cases hb:Nat.beq j i with
     | true =>
      rw[hb,cond_true] at hx
      simp only[Option.some.injEq,Prod.mk.injEq] at hx
      obtain⟨rfl,rfl⟩:=hx
      simp only[Exit.inBlock,beq_eq hb,if_true]
      exact⟨m1,F1,St1,rfl⟩
     | false =>
      rw[hb,cond_false] at hx
      simp only[Option.some.injEq,Prod.mk.injEq] at hx
      obtain⟨rfl,rfl⟩:=hx
      have:¬ j=i:=beq_false.1 hb
      simp only[Exit.inBlock,this,if_false]
      exact⟨m1,F1,St1,rfl⟩
    ·rename_i hne
     refine wp_mono (ih k hk b s x s' hx m a w F St) ?_
     rintro e a1 w1 ⟨m1,F1,St1,he⟩
     cases x with
     | exit j=>exact absurd hx (hne _ _)
     | nrm=>simp only[exR] at he;subst he;exact⟨m1,F1,St1,rfl⟩
     | ret=>simp only[exR] at he;subst he;exact⟨m1,F1,St1,rfl⟩
     | pan v=>simp only[exR] at he;obtain⟨ch,rfl,hp⟩:=he;exact⟨m1,F1,St1,ch,rfl,hp⟩
   | loop b =>
    let LP:Nat→Act→World→Prop:=fun j a w=>j≤n+1∧∃ s1 m1,FsR G w0 N m1 s1 a w∧Stp m0 h0 w_0 m1 s1.h w∧codeC T G cl N j (.loop b) s1=some (x,s')
    let μ:Act→World→Nat:=fun a w=>open Classical in if h:∃ j,LP j a w then Classical.choose (least h) else 0
    have hμ:∀ {j a w},LP j a w→LP (μ a w) a w∧μ a w≤j:=by
     intro j a w h
     have hex:∃ j,LP j a w:=⟨j,h⟩
     have:=Classical.choose_spec (least hex)
     simp only[μ,dif_pos hex]
     exact⟨this.1,this.2 j h⟩
    refine wp_loop (fun a w=>∃ j,LP j a w) μ ⟨k+1,by omega,s,m,F,St,hx⟩ ?_
    rintro a1 w1 ⟨j0,hj0⟩
    obtain⟨⟨hle,s1,m1,F1,St1,hx1⟩,_⟩:=hμ hj0
    generalize hj:μ a1 w1=j at hle hx1
    cases j with
    | zero=>simp[codeC] at hx1
    | succ j =>
     simp only[codeC] at hx1
     split at hx1
     ·rename_i s2 h2
      refine wp_mono (ih j (by omega) b s1 _ s2 h2 m1 a1 w1 F1 St1) (exR_then (fun _ m3 a3 w3 F3 St3=>?_) (fun h=>absurd rfl h))
      have hLP:LP j a3 w3:=⟨by omega,s2,m3,F3,St3,hx1⟩
      exact⟨⟨j,hLP⟩,by have:=(hμ hLP).2;omega⟩
     ·rename_i hne
      refine wp_mono (ih j (by omega) b s1 x s' hx1 m1 a1 w1 F1 St1) (exR_then (fun h=>?_) (fun _ e a w h=>h))
      subst h
      exact absurd hx1 (hne _)
def resC (T:TyTab) (G:Gl) (s:Fs):ResultVar→Option CV
 | .tmp t=>s.φ.get t
 | .cell p ty=>match T ty,s.φ.get p with
  | some ti,some v=>loadC G s.h.σ ti v
  | _,_=>none
def resAllC (T:TyTab) (G:Gl) (s:Fs):List ResultVar→Option (List CV)
 | []=>some []
 | r::rs=>match resC T G s r with
  | some v=>match resAllC T G s rs with
   | some vs=>some (v::vs)
   | none=>none
  | none=>none
def handC (T:TyTab) (G:Gl) (s:Fs) (rs:List ResultVar):Option CV :=
 match resAllC T G s rs with
 | some [v]=>some v
 | some vs=>some (.tup vs)
 | none=>none
theorem resC_run (hT:TOK P T) {m:Pm} {s:Fs} {a:Act} {w:World} (F:FsR G w0 N m s a w) {r:ResultVar} {v:CV} (h:resC T G s r=some v):∃ y,v.rel m s.h.n y∧(resSem a.tmps r).run P w=.ok y w:=by
 cases r with
 | tmp t=>exact⟨_,F.fr t v h,rfl⟩
 | cell p ty =>
  simp only[resC] at h
  split at h
  ·rename_i ti x hti hp
   have hpr:=F.fr p _ hp
   obtain⟨z,hz,hrun⟩:=loadC_sound (P:=P) hT F.mem hti hpr h
   have hx:∃ A,a.tmps.getD p undef=.pointer (some A):=by
    unfold loadC at h
    split at h
    ·rename_i cs off hc
     obtain⟨b,us,he,_⟩:=cellsAt_sound F.mem hpr hc
     exact⟨_,he⟩
    ·cases h
   obtain⟨A,hA⟩:=hx
   refine⟨z,hz,?_⟩
   rw[hA] at hrun
   simp only[Instr.loadAt,Instr.sureAddr,Sem.run_bind,Sem.run_pure,Result.andThen_ok] at hrun
   simp only[resSem,hA,asAddr,Sem.run_bind,Sem.run_pure,Result.andThen_ok,hrun]
  ·cases h
theorem resAllC_run (hT:TOK P T) {m:Pm} {s:Fs} {a:Act} {w:World} (F:FsR G w0 N m s a w):∀ {rs:List ResultVar} {vs:List CV},resAllC T G s rs=some vs →
  ∃ ys,CV.relL m s.h.n vs ys∧(rs.mapM (resSem a.tmps)).run P w=.ok ys w
 | [],vs,h=>by simp only[resAllC,Option.some.injEq] at h;subst h;exact⟨[],by simp[CV.relL],rfl⟩
 | r::rs,vs,h=>by
  simp only[resAllC] at h
  split at h
  ·rename_i v hv
   split at h
   ·rename_i vs' hvs
    injection h with h;subst h
    obtain⟨y,h1,h2⟩:=resC_run hT F hv
    obtain⟨ys,h3,h4⟩:=resAllC_run hT F hvs
    refine⟨y::ys,by simp only[CV.relL];exact⟨_,_,rfl,h1,h3⟩,?_⟩
    simp only[List.mapM_cons,Sem.run_bind,h2,h4,Result.andThen_ok,Sem.run_pure]
   ·cases h
  ·cases h
theorem handC_run (hT:TOK P T) {fn:Func} {m:Pm} {s:Fs} {a:Act} {w:World} (F:FsR G w0 N m s a w) {v:CV} (h:handC T G s fn.results.toList=some v):∃ y,v.rel m s.h.n y∧(results fn a.tmps).run P w=.ok y w:=by
 unfold handC at h
 have key:∀ {vs:List CV},resAllC T G s fn.results.toList=some vs→∃ ys,CV.relL m s.h.n vs ys∧(results fn a.tmps).run P w=.ok (if h:ys.toArray.size=1 then ys.toArray[0] else .tuple ys.toArray) w:=by
  intro vs hvs
  obtain⟨ys,h1,h2⟩:=resAllC_run hT F hvs
  refine⟨ys,h1,?_⟩
  rw[results_eq,Array.mapM_eq_mapM_toList]
  simp only[Sem.run_bind,Sem.run_map,h2,Result.andThen_ok,Sem.run_pure]
 split at h
 ·rename_i v' hvs
  injection h with h;subst h
  obtain⟨ys,h1,h2⟩:=key hvs
  simp only[CV.relL] at h1
  obtain⟨u,us',rfl,h3,rfl⟩:=h1
  exact⟨u,h3,by simpa using h2⟩
 ·rename_i vs hne hvs
  injection h with h;subst h
  obtain⟨ys,h1,h2⟩:=key hvs
  have hlen:=relL_length h1
  have:ys.toArray.size≠1:=by
   intro h1'
   have:vs.length=1:=by rw[←hlen];simpa using h1'
   match vs,this with
   | [x],_=>exact hne x rfl
  rw[dif_neg this] at h2
  exact⟨_,by simp only[CV.rel];exact⟨ys,rfl,h1⟩,h2⟩
 ·cases h
end
end
section
def argφ:List CV→Nat→Tr CV→Tr CV
 | [],_,φ=>φ
 | v::vs,i,φ=>argφ vs (i+1) (φ.set v i)
def isRec:Op→Bool
 | .call { callee:=.builtin .recover,args:=as,.. }=>Nat.beq as.size 0
 | _=>false
def opsS (T:TyTab) (G:Gl) (cl:Cl) (N:Nat) (ops:Array Oper):List Oper→Fs→Option (Ex×Fs)
 | [],s=>some (.nrm,s)
 | o::r,s=>match wantedC ops s.φ o with
  | some true=>bif isRec o.op then (match putφ N o.dst (.v .nilIface) s.φ with
    | some φ=>opsS T G cl N ops r ⟨φ,s.h,s.ds⟩
    | none=>none)
   else (match opC T G cl o s with
   | some (.val v h ds)=>match putφ N o.dst v s.φ with
    | some φ=>opsS T G cl N ops r ⟨φ,h,ds⟩
    | none=>none
   | _=>none)
  | some false=>match putφ N o.dst unitC s.φ with
   | some φ=>opsS T G cl N ops r ⟨φ,s.h,s.ds⟩
   | none=>none
  | none=>none
def codeS (T:TyTab) (G:Gl) (cl:Cl) (N:Nat):Nat→Code→Fs→Option (Ex×Fs)
 | 0,_,_=>none
 | n+1,c,s=>match c with
  | .region _ ops false=>opsS T G cl N ops ops.toList s
  | .seq a b=>match codeS T G cl N n a s with
   | some (.nrm,s')=>codeS T G cl N n b s'
   | r=>r
  | .cond c a b=>match evalC s.φ c with
   | some (.v (.bool true))=>codeS T G cl N n a s
   | some (.v (.bool false))=>codeS T G cl N n b s
   | _=>none
  | c=>codeC T G cl N n c s
def opsR (T:TyTab) (G:Gl) (cl:Cl) (N:Nat) (ops:Array Oper) (v:CV):List Oper→Fs→Option (Ex×Fs×Bool)
 | [],s=>some (.nrm,s,false)
 | o::r,s=>match wantedC ops s.φ o with
  | some true=>bif isRec o.op then (match putφ N o.dst v s.φ with
    | some φ=>match opsS T G cl N ops r ⟨φ,s.h,s.ds⟩ with
     | some (x,s')=>some (x,s',true)
     | none=>none
    | none=>none)
   else (match opC T G cl o s with
   | some (.val u h ds)=>match putφ N o.dst u s.φ with
    | some φ=>opsR T G cl N ops v r ⟨φ,h,ds⟩
    | none=>none
   | _=>none)
  | some false=>match putφ N o.dst unitC s.φ with
   | some φ=>opsR T G cl N ops v r ⟨φ,s.h,s.ds⟩
   | none=>none
  | none=>none
def codeR (T:TyTab) (G:Gl) (cl:Cl) (N:Nat) (v:CV):Nat→Code→Fs→Option (Ex×Fs×Bool)
 | 0,_,_=>none
 | n+1,c,s=>match c with
  | .region _ ops false=>opsR T G cl N ops v ops.toList s
  | .seq a b=>match codeR T G cl N v n a s with
   | some (.nrm,s',false)=>codeR T G cl N v n b s'
   | some (.nrm,s',true)=>match codeS T G cl N n b s' with
    | some (x,s'')=>some (x,s'',true)
    | none=>none
   | r=>r
  | .cond c a b=>match evalC s.φ c with
   | some (.v (.bool true))=>codeR T G cl N v n a s
   | some (.v (.bool false))=>codeR T G cl N v n b s
   | _=>none
  | _=>none
abbrev PF:=Nat→Option Func
def FUEL:Nat:=100000
def leaveC (T:TyTab) (G:Gl) (F:PF) (cl:Cl):List (FuncId×List CV×List CV)→Hp→Option Hp
 | [],h=>some h
 | x::ds,h=>match isMark x with
  | some d=>match h.σ.get d with
   | some .dfr=>leaveC T G F cl ds (h.put d .dead)
   | _=>none
  | none=>match F x.1 with
   | some fn=>match fn.body with
    | some body=>bif Nat.ble (x.2.2++x.2.1).length fn.ntmps then (match codeS T G cl fn.ntmps FUEL body ⟨argφ (x.2.2++x.2.1) 0 .e,h,[]⟩ with
     | some (.nrm,s) | some (.ret,s)=>match s.ds,handC T G s fn.results.toList with
      | [],some _=>leaveC T G F cl ds s.h
      | _,_=>none
     | _=>none) else none
    | none=>none
   | none=>none
def endC (T:TyTab) (G:Gl) (F:PF) (cl:Cl) (fn:Func) (s:Fs):Option (Rs×Hp) :=
 match leaveC T G F cl s.ds s.h with
 | some h=>match handC T G ⟨s.φ,h,[]⟩ fn.results.toList with
  | some v=>some (.val v,h)
  | none=>none
 | none=>none
def panC (T:TyTab) (G:Gl) (F:PF) (cl:Cl) (fn:Func) (v:CV) (x:FuncId×List CV×List CV) (ds:List (FuncId×List CV×List CV)) (s0:Fs):Option (Rs×Hp) :=
 match isMark x with
 | some _=>none
 | none=>match F x.1 with
  | some gn=>match gn.body with
   | some body=>bif Nat.ble (x.2.2++x.2.1).length gn.ntmps then (match codeR T G cl gn.ntmps v FUEL body ⟨argφ (x.2.2++x.2.1) 0 .e,s0.h,[]⟩ with
    | some (.nrm,s,true) | some (.ret,s,true)=>match s.ds,handC T G s gn.results.toList with
     | [],some _=>endC T G F cl fn ⟨s0.φ,s.h,ds⟩
     | _,_=>none
    | _=>none) else none
   | none=>none
  | none=>none
abbrev Orc:=FuncId→List CV→Hp→Option (CV×Hp)
def callN (T:TyTab) (G:Gl) (F:PF) (O:Orc):Nat→Cl
 | 0,_,_,_=>none
 | d+1,f,vs,h=>match O f vs h with
  | some (v,h')=>some (.val v,h')
  | none=>match F f with
   | some fn=>match fn.body with
    | some body=>bif Nat.ble vs.length fn.ntmps then (match codeC T G (callN T G F O d) fn.ntmps FUEL body ⟨argφ vs 0 .e,h,[]⟩ with
     | some (.nrm,s) | some (.ret,s)=>endC T G F (callN T G F O d) fn s
     | some (.pan v,s)=>match s.ds with
      | []=>some (.pan v,s.h)
      | x::ds=>panC T G F (callN T G F O d) fn v x ds s
     | _=>none) else none
    | none=>none
   | none=>none
theorem argφ_get:∀ (vs:List CV) (i:Nat) (φ:Tr CV) (t:Nat) (c:CV),(argφ vs i φ).get t=some c→(i≤t∧vs[t-i]?=some c)∨φ.get t=some c
 | [],i,φ,t,c,h=>.inr h
 | v::vs,i,φ,t,c,h=>by
  rcases argφ_get vs (i+1) _ t c h with⟨h1,h2⟩ | h1
  ·exact .inl ⟨by omega,by rw[show t-i=t-(i+1)+1 by omega];simpa using h2⟩
  ·rw[Tr.get_set] at h1
   split at h1
   ·rename_i e;subst e
    exact .inl ⟨Nat.le_refl _,by simpa using h1⟩
   ·exact .inr h1
section
variable {P:Program} {T:TyTab} {G:Gl} {w0:World} {F:PF} {cl:Cl}
theorem relL_get {m:Pm} {n:Nat}:∀ {xs:List CV} {us:List Value} {i:Nat} {x:CV},CV.relL m n xs us→xs[i]?=some x→∃ u,us[i]?=some u∧x.rel m n u
 | [],us,i,x,h,e=>by simp at e
 | y::xs,us,0,x,h,e=>by
  simp at e;subst e
  simp only[CV.relL] at h
  obtain⟨u,us',rfl,h0,_⟩:=h
  exact⟨u,rfl,h0⟩
 | y::xs,us,i+1,x,h,e=>by
  simp only[CV.relL] at h
  obtain⟨u,us',rfl,_,h1⟩:=h
  obtain⟨u',h2,h3⟩:=relL_get h1 (by simpa using e)
  exact⟨u',by simpa using h2,h3⟩
theorem start_rel {m:Pm} {h:Hp} {w:World} (M:Mem G w0 m h w) {vs:List CV} {us:List Value} (hr:CV.relL m h.n vs us) {N:Nat} (hn:vs.length≤N) :
  FsR G w0 N m ⟨argφ vs 0 .e,h,[]⟩ { tmps:=us.toArray++Array.replicate (N-us.toArray.size) undef,defers:=[] } w:=by
 have hl:=relL_length hr
 refine⟨M,?_,by simp;omega,rfl⟩
 intro t c hc
 rcases argφ_get vs 0 .e t c hc with⟨_,h2⟩ | h2
 ·obtain⟨u,h3,h4⟩:=relL_get hr h2
  have hlt:=(List.getElem?_eq_some_iff.1 h3).1
  simp only[Nat.sub_zero] at h3 hlt
  rw[Array.getD_eq_getD_getElem?,Array.getElem?_append_left (by simpa using hlt)]
  simp only[List.getElem?_toArray,h3,Option.getD_some]
  exact h4
 ·simp[Tr.get_e] at h2
def PFOK (P:Program) (F:PF):Prop:=∀ f fn,F f=some fn→P.funcs[f]?=some fn∧Ent P f
theorem opsS_sound (C:Cx P T) (hcl:ClOK P G w0 cl) {N:Nat} {ops:Array Oper} {m0:Pm} {h0:Hp} {w_0:World} {cs:List Frame} (hcs:recoverD cs=none):∀ (l:List Oper) (k:Nat),(∀ j,l[j]?=ops[k+j]?)→∀ (s:Fs) (a:Act) (w:World) (m:Pm) (x:Ex) (s':Fs),
  FsR G w0 N m s a w→Stp m0 h0 w_0 m s.h w→opsS T G cl N ops l s=some (x,s')→wpOpsS P ops (fun e a' cs' w'=>cs'=cs∧CodeR G w0 N m0 h0 w_0 x s' e a' w') (List.range' k l.length) a cs w
 | [],k,hl,s,a,w,m,x,s',S,St,h=>by
  simp only[opsS,Option.some.injEq,Prod.mk.injEq] at h
  obtain⟨rfl,rfl⟩:=h
  exact⟨rfl,m,S,St,rfl⟩
 | o::r,k,hl,s,a,w,m,x,s',S,St,h=>by
  have ho:ops[k]?=some o:=by have:=hl 0;simp at this;exact this.symm
  have hr:∀ j,r[j]?=ops[k+1+j]?:=fun j=>by have:=hl (j+1);simp only[List.getElem?_cons_succ] at this;rw[this];congr 1;omega
  simp only[opsS] at h
  rw[List.length_cons,List.range'_succ]
  simp only[wpOpsS,ho]
  split at h
  ·rename_i hw
   rw[if_pos (wantedC_spec S.fr hw)]
   cases hrec:isRec o.op with
   | true =>
    rw[hrec,cond_true] at h
    split at h
    ·rename_i φ hφ
     have hrun:(execOp a.eval o).run P w=.ok .recover w:=by
      unfold isRec at hrec
      split at hrec
      ·rename_i as ts hop
       have:as=#[]:=Array.eq_empty_of_size_eq_zero (beq_eq hrec)
       subst this
       simp[execOp,hop,resolve,invoke,Go.builtin]
      ·cases hrec
     rw[hrun]
     simp only[hcs]
     obtain⟨f1,f2,f3⟩:=putφ_rel (v:=.v .nilIface) (y:=.nilIface) S.fr S.sz (by simp[CV.rel,scal]) hφ
     exact opsS_sound C hcl hcs r (k+1) hr (⟨φ,s.h,s.ds⟩:Fs) _ w m x s' ⟨S.mem,f1,f2,by rw[f3];exact S.df⟩ St h
    ·cases h
   | false =>
    rw[hrec,cond_false] at h
    split at h
    ·rename_i v h' ds' hop
     split at h
     ·rename_i φ hφ
      have key:o.wp P a w (fun a' w'=>wpOpsS P ops (fun e a' cs' w'=>cs'=cs∧CodeR G w0 N m0 h0 w_0 x s' e a' w') (List.range' (k+1) r.length) a' cs w') (fun e a' w'=>(cs=cs∧CodeR G w0 N m0 h0 w_0 x s' e a' w')):=by
       refine opC_sound C hcl S hop ?_ ?_
       ·intro v2 h2 ds2 he y m' w' dfs M' St' hy hd
        injection he with e1 e2 e3;subst e1;subst e2;subst e3
        obtain⟨f1,f2,f3⟩:=putφ_rel (a:={ a with defers:=dfs }) (FrR.ext (a:={ a with defers:=dfs }) St'.ext S.fr) S.sz hy hφ
        exact opsS_sound C hcl hcs r (k+1) hr (⟨φ,_,_⟩:Fs) _ w' m' x s' ⟨M',f1,f2,by rw[f3];exact hd⟩ (St.trans St') h
       ·intro v2 h2 he;cases he
      unfold Oper.wp at key
      generalize (execOp a.eval o).run P w=res at key ⊢
      split
      ·simp only[Oper.upon] at key
      ·simpa using key
     ·cases h
    ·cases h
  ·rename_i hw
   rw[if_neg (by rw[wantedC_spec S.fr hw];simp)]
   split at h
   ·rename_i φ hφ
    obtain⟨f1,f2,f3⟩:=putφ_rel S.fr S.sz rel_unit hφ
    exact opsS_sound C hcl hcs r (k+1) hr (⟨φ,s.h,s.ds⟩:Fs) _ w m x s' ⟨S.mem,f1,f2,by rw[f3];exact S.df⟩ St h
   ·cases h
  ·cases h
theorem codeS_sound (C:Cx P T) (hcl:ClOK P G w0 cl) {N:Nat} {m0:Pm} {h0:Hp} {w_0:World} {cs:List Frame} (hcs:recoverD cs=none):∀ (n:Nat) (c:Code) (s:Fs) (x:Ex) (s':Fs),codeS T G cl N n c s=some (x,s')→∀ (m:Pm) (a:Act) (w:World),
  FsR G w0 N m s a w→Stp m0 h0 w_0 m s.h w→c.wpS P (fun e a' cs' w'=>cs'=cs∧CodeR G w0 N m0 h0 w_0 x s' e a' w') a cs w:=by
 intro n
 induction n with
 | zero=>intro c s x s' hx;simp[codeS] at hx
 | succ n ih =>
  intro c s x s' hx m a w F St
  have plain:codeC T G cl N n c s=some (x,s')→c.wpS P (fun e a' cs' w'=>cs'=cs∧CodeR G w0 N m0 h0 w_0 x s' e a' w') a cs w:=fun hx =>
   wpS_of_wp (wp_mono (codeC_sound C hcl n n (Nat.le_refl _) c s x s' hx m a w F St) (fun e a w h=>⟨rfl,h⟩))
  cases c with
  | region id ops draw =>
   cases draw with
   | true=>exact plain (by simpa only[codeS] using hx)
   | false =>
    simp only[codeS] at hx
    refine wpS_region ?_
    have:=opsS_sound C hcl (ops:=ops) hcs ops.toList 0 (fun j=>by simp) s a w m x s' F St hx
    rw[List.range_eq_range',←Array.length_toList];exact this
  | seq c1 c2 =>
   simp only[codeS] at hx
   have thenS:∀ {x1:Ex} {s1:Fs} {K:Act→List Frame→World→Prop},(x1=.nrm→∀ m a w,FsR G w0 N m s1 a w→Stp m0 h0 w_0 m s1.h w→K a cs w)→(x1≠.nrm→x1=x∧s1=s') →
     c1.wpS P (fun e a' cs' w'=>cs'=cs∧CodeR G w0 N m0 h0 w_0 x1 s1 e a' w') a cs w→c1.wpS P (Exit.thenS K (fun e a' cs' w'=>cs'=cs∧CodeR G w0 N m0 h0 w_0 x s' e a' w')) a cs w:=by
    intro x1 s1 K hn ho hw b k hb hk
    obtain⟨e,a',cs',w',⟨rfl,hq⟩,harr⟩:=hw b k hb hk
    refine⟨e,a',_,w',?_,harr⟩
    have hq':=hq
    obtain⟨m',F',St',he⟩:=hq'
    cases x1 with
    | nrm=>simp only[exR] at he;subst he;exact hn rfl m' a' w' F' St'
    | exit i=>obtain⟨rfl,rfl⟩:=ho (by simp);simp only[exR] at he;subst he;exact⟨rfl,hq⟩
    | ret=>obtain⟨rfl,rfl⟩:=ho (by simp);simp only[exR] at he;subst he;exact⟨rfl,hq⟩
    | pan v=>obtain⟨rfl,rfl⟩:=ho (by simp);simp only[exR] at he;obtain⟨ch,rfl,_⟩:=he;exact⟨rfl,hq⟩
   refine wpS_seq ?_
   split at hx
   ·rename_i s1 h1
    exact thenS (fun _ m1 a1 w1 F1 St1=>ih c2 s1 x s' hx m1 a1 w1 F1 St1) (fun h=>absurd rfl h) (ih c1 s _ s1 h1 m a w F St)
   ·rename_i hne
    exact thenS (fun h=>by subst h;exact absurd hx (hne _)) (fun _=>⟨rfl,rfl⟩) (ih c1 s x s' hx m a w F St)
  | cond c1 c2 c3 =>
   simp only[codeS] at hx
   split at hx
   ·rename_i hc
    have:=evalC_rel F.fr _ _ hc
    simp only[CV.rel] at this
    exact wpS_cond this.1 (ih c2 s x s' hx m a w F St)
   ·rename_i hc
    have:=evalC_rel F.fr _ _ hc
    simp only[CV.rel] at this
    exact wpS_cond this.1 (ih c3 s x s' hx m a w F St)
   ·cases hx
  | skip=>exact plain (by simpa only[codeS] using hx)
  | label l=>exact plain (by simpa only[codeS] using hx)
  | exit i=>exact plain (by simpa only[codeS] using hx)
  | ret=>exact plain (by simpa only[codeS] using hx)
  | goto l=>exact plain (by simpa only[codeS] using hx)
  | scope b=>exact plain (by simpa only[codeS] using hx)
  | refuse w=>exact plain (by simpa only[codeS] using hx)
  | rangeFunc f ps as b=>exact plain (by simpa only[codeS] using hx)
  | block i b=>exact plain (by simpa only[codeS] using hx)
  | loop b=>exact plain (by simpa only[codeS] using hx)
theorem opsR_sound (C:Cx P T) (hcl:ClOK P G w0 cl) {N:Nat} {ops:Array Oper} {m0:Pm} {h0:Hp} {w_0:World} {cs0 cs1:List Frame} {v:CV} {u:Value} (hc0:recoverD cs0=some (u,cs1)) (hc1:recoverD cs1=none) (hv:v.rel m0 h0.n u):∀ (l:List Oper) (k:Nat),(∀ j,l[j]?=ops[k+j]?)→∀ (s:Fs) (a:Act) (w:World) (m:Pm) (x:Ex) (s':Fs) (b:Bool),
  FsR G w0 N m s a w→Stp m0 h0 w_0 m s.h w→opsR T G cl N ops v l s=some (x,s',b)→wpOpsS P ops (fun e a' cs' w'=>cs'=(bif b then cs1 else cs0)∧CodeR G w0 N m0 h0 w_0 x s' e a' w') (List.range' k l.length) a cs0 w
 | [],k,hl,s,a,w,m,x,s',b,S,St,h=>by
  simp only[opsR,Option.some.injEq,Prod.mk.injEq] at h
  obtain⟨rfl,rfl,rfl⟩:=h
  exact⟨rfl,m,S,St,rfl⟩
 | o::r,k,hl,s,a,w,m,x,s',b,S,St,h=>by
  have ho:ops[k]?=some o:=by have:=hl 0;simp at this;exact this.symm
  have hr:∀ j,r[j]?=ops[k+1+j]?:=fun j=>by have:=hl (j+1);simp only[List.getElem?_cons_succ] at this;rw[this];congr 1;omega
  simp only[opsR] at h
  rw[List.length_cons,List.range'_succ]
  simp only[wpOpsS,ho]
  split at h
  ·rename_i hw
   rw[if_pos (wantedC_spec S.fr hw)]
   cases hrec:isRec o.op with
   | true =>
    rw[hrec,cond_true] at h
    split at h
    ·rename_i φ hφ
     split at h
     ·rename_i x2 s2 hs2
      simp only[Option.some.injEq,Prod.mk.injEq] at h
      obtain⟨rfl,rfl,rfl⟩:=h
      have hrun:(execOp a.eval o).run P w=.ok .recover w:=by
       unfold isRec at hrec
       split at hrec
       ·rename_i as ts hop
        have:as=#[]:=Array.eq_empty_of_size_eq_zero (beq_eq hrec)
        subst this
        simp[execOp,hop,resolve,invoke,Go.builtin]
       ·cases hrec
      rw[hrun]
      simp only[hc0]
      obtain⟨f1,f2,f3⟩:=putφ_rel (v:=v) (y:=u) S.fr S.sz (CV.rel_ext St.ext _ _ hv) hφ
      exact opsS_sound C hcl hc1 r (k+1) hr (⟨φ,s.h,s.ds⟩:Fs) _ w m x2 s2 ⟨S.mem,f1,f2,by rw[f3];exact S.df⟩ St hs2
     ·cases h
    ·cases h
   | false =>
    rw[hrec,cond_false] at h
    split at h
    ·rename_i v' h' ds' hop
     split at h
     ·rename_i φ hφ
      have key:o.wp P a w (fun a' w'=>wpOpsS P ops (fun e a' cs' w'=>cs'=(bif b then cs1 else cs0)∧CodeR G w0 N m0 h0 w_0 x s' e a' w') (List.range' (k+1) r.length) a' cs0 w') (fun e a' w'=>(cs0=(bif b then cs1 else cs0)∧CodeR G w0 N m0 h0 w_0 x s' e a' w')):=by
       refine opC_sound C hcl S hop ?_ ?_
       ·intro v2 h2 ds2 he y m' w' dfs M' St' hy hd
        injection he with e1 e2 e3;subst e1;subst e2;subst e3
        obtain⟨f1,f2,f3⟩:=putφ_rel (a:={ a with defers:=dfs }) (FrR.ext (a:={ a with defers:=dfs }) St'.ext S.fr) S.sz hy hφ
        exact opsR_sound C hcl hc0 hc1 hv r (k+1) hr (⟨φ,_,_⟩:Fs) _ w' m' x s' b ⟨M',f1,f2,by rw[f3];exact hd⟩ (St.trans St') h
       ·intro v2 h2 he;cases he
      unfold Oper.wp at key
      generalize (execOp a.eval o).run P w=res at key ⊢
      split
      ·simp only[Oper.upon] at key
      ·simpa using key
     ·cases h
    ·cases h
  ·rename_i hw
   rw[if_neg (by rw[wantedC_spec S.fr hw];simp)]
   split at h
   ·rename_i φ hφ
    obtain⟨f1,f2,f3⟩:=putφ_rel S.fr S.sz rel_unit hφ
    exact opsR_sound C hcl hc0 hc1 hv r (k+1) hr (⟨φ,s.h,s.ds⟩:Fs) _ w m x s' b ⟨S.mem,f1,f2,by rw[f3];exact S.df⟩ St h
   ·cases h
  ·cases h
theorem codeR_sound (C:Cx P T) (hcl:ClOK P G w0 cl) {N:Nat} {m0:Pm} {h0:Hp} {w_0:World} {cs0 cs1:List Frame} {v:CV} {u:Value} (hc0:recoverD cs0=some (u,cs1)) (hc1:recoverD cs1=none) (hv:v.rel m0 h0.n u):∀ (n:Nat) (c:Code) (s:Fs) (x:Ex) (s':Fs) (b:Bool),codeR T G cl N v n c s=some (x,s',b)→∀ (m:Pm) (a:Act) (w:World),
  FsR G w0 N m s a w→Stp m0 h0 w_0 m s.h w→c.wpS P (fun e a' cs' w'=>cs'=(bif b then cs1 else cs0)∧CodeR G w0 N m0 h0 w_0 x s' e a' w') a cs0 w:=by
 intro n
 induction n with
 | zero=>intro c s x s' b hx;simp[codeR] at hx
 | succ n ih =>
  intro c s x s' b hx m a w F St
  cases c with
  | region id ops draw =>
   cases draw with
   | true=>simp[codeR] at hx
   | false =>
    simp only[codeR] at hx
    refine wpS_region ?_
    have:=opsR_sound C hcl (ops:=ops) hc0 hc1 hv ops.toList 0 (fun j=>by simp) s a w m x s' b F St hx
    rw[List.range_eq_range',←Array.length_toList];exact this
  | seq c1 c2 =>
   simp only[codeR] at hx
   have thenR:∀ {x1:Ex} {s1:Fs} {b1:Bool} {K:Act→List Frame→World→Prop},(x1=.nrm→∀ m a w,FsR G w0 N m s1 a w→Stp m0 h0 w_0 m s1.h w→K a (bif b1 then cs1 else cs0) w)→(x1≠.nrm→x1=x∧s1=s'∧b1=b) →
     c1.wpS P (fun e a' cs' w'=>cs'=(bif b1 then cs1 else cs0)∧CodeR G w0 N m0 h0 w_0 x1 s1 e a' w') a cs0 w→c1.wpS P (Exit.thenS K (fun e a' cs' w'=>cs'=(bif b then cs1 else cs0)∧CodeR G w0 N m0 h0 w_0 x s' e a' w')) a cs0 w:=by
    intro x1 s1 b1 K hn ho hw b' k hb hk
    obtain⟨e,a',cs',w',⟨rfl,hq⟩,harr⟩:=hw b' k hb hk
    refine⟨e,a',_,w',?_,harr⟩
    have hq':=hq
    obtain⟨m',F',St',he⟩:=hq'
    cases x1 with
    | nrm=>simp only[exR] at he;subst he;exact hn rfl m' a' w' F' St'
    | exit i=>obtain⟨rfl,rfl,rfl⟩:=ho (by simp);simp only[exR] at he;subst he;exact⟨rfl,hq⟩
    | ret=>obtain⟨rfl,rfl,rfl⟩:=ho (by simp);simp only[exR] at he;subst he;exact⟨rfl,hq⟩
    | pan v=>obtain⟨rfl,rfl,rfl⟩:=ho (by simp);simp only[exR] at he;obtain⟨ch,rfl,_⟩:=he;exact⟨rfl,hq⟩
   refine wpS_seq ?_
   split at hx
   ·rename_i s1 h1
    exact thenR (b1:=false) (fun _ m1 a1 w1 F1 St1=>ih c2 s1 x s' b hx m1 a1 w1 F1 St1) (fun h=>absurd rfl h) (ih c1 s _ s1 false h1 m a w F St)
   ·rename_i s1 h1
    split at hx
    ·rename_i x2 s2 h2
     simp only[Option.some.injEq,Prod.mk.injEq] at hx
     obtain⟨rfl,rfl,rfl⟩:=hx
     exact thenR (b1:=true) (fun _ m1 a1 w1 F1 St1=>codeS_sound C hcl hc1 n c2 s1 x2 s2 h2 m1 a1 w1 F1 St1) (fun h=>absurd rfl h) (ih c1 s _ s1 true h1 m a w F St)
    ·cases hx
   ·rename_i hne hne2
    exact thenR (fun h=>by subst h;cases b with
     | false=>exact absurd hx (hne _)
     | true=>exact absurd hx (hne2 _)) (fun _=>⟨rfl,rfl,rfl⟩) (ih c1 s x s' b hx m a w F St)
  | cond c1 c2 c3 =>
   simp only[codeR] at hx
   split at hx
   ·rename_i hc
    have:=evalC_rel F.fr _ _ hc
    simp only[CV.rel] at this
    exact wpS_cond this.1 (ih c2 s x s' b hx m a w F St)
   ·rename_i hc
    have:=evalC_rel F.fr _ _ hc
    simp only[CV.rel] at this
    exact wpS_cond this.1 (ih c3 s x s' b hx m a w F St)
   ·cases hx
  | skip=>simp[codeR] at hx
  | label l=>simp[codeR] at hx
  | exit i=>simp[codeR] at hx
  | ret=>simp[codeR] at hx
  | goto l=>simp[codeR] at hx
  | scope b=>simp[codeR] at hx
  | refuse w=>simp[codeR] at hx
  | rangeFunc f ps as b=>simp[codeR] at hx
  | block i b=>simp[codeR] at hx
  | loop b=>simp[codeR] at hx
def LvP (P:Program) (fn:Func) (tmps:Array Value) (R:Ending→World→Prop) (dfs:List Deferred) (w:World):Prop :=
 ∀ (fr:Frame) (cs:List Frame),fr.mode=.returning→fr.defers=dfs→fr.tmps=tmps→P.funcs[fr.fn]?=some fn→fr.kind=.normal →
  ∃ e w' fr',R e w'∧Comes P (lone fr cs w) (lone fr' cs w') e∧fr'.fn=fr.fn∧fr'.leaving P w' e
theorem LvP.done {fn:Func} {tmps:Array Value} {R:Ending→World→Prop} {w:World} {v:Value} (h:(results fn tmps).run P w=.ok v w) (hR:R (.returned v) w):LvP P fn tmps R [] w :=
 fun fr _ hu hd ht hf hk=>⟨.returned v,w,fr,hR,Steps.refl P _,rfl,hu,hd,hk,fn,hf,ht ▸ h⟩
theorem LvP.mark {fn:Func} {tmps:Array Value} {R:Ending→World→Prop} {w w':World} {r:Nat} {ds:List Deferred} (hk:(Instr.takeDeferred r).run P w=.ok [] w') (h:LvP P fn tmps R ds w'):LvP P fn tmps R ({ target:=.collected r,args:=#[] }::ds) w:=by
 intro fr cs hu hd ht hf hkind
 have h1:=step_collected (fr:=fr) (cs:=cs) (by rw[hu];simp) hd rfl hk
 obtain⟨e,w'',fr',hR,hs,hfn,hl⟩:=h { fr with defers:=[]++ds } cs hu rfl ht hf hkind
 exact⟨e,w'',fr',hR,Comes.of_steps (.one h1) hs,hfn,hl⟩
theorem LvP.defer {fn:Func} {tmps:Array Value} {R:Ending→World→Prop} {w:World} {fv:Fn} {cap dargs:Array Value} {f:FuncId} {args:Array Value} {ds:List Deferred} (hi:(invoke (.fn fv cap) dargs).run P w=.ok (.enter f args) w)
  (h:CallsD P f args .returning w fun e u w'=>∃ v,e=.returned v∧u=.returning∧LvP P fn tmps R ds w'):LvP P fn tmps R ({ target:=.fn fv cap,args:=dargs }::ds) w:=by
 intro fr cs hu hd ht hf hkind
 have h1:=step_defer (fr:=fr) (cs:=cs) (by rw[hu];simp) hd rfl hi
 obtain⟨e,u',w',frX,⟨v,rfl,rfl,hL⟩,hsteps,hkX,hgo⟩:=h { fr with defers:=ds } cs hu
 have h2:=step_going_returned (c:={ { fr with defers:=ds } with mode:=.returning }) (cs:=cs) hkX hgo
 obtain⟨e',w'',fr',hR,hs,hfn,hl⟩:=hL { { { fr with defers:=ds } with mode:=.returning } with mode:=settle .returning } cs rfl rfl ht hf hkind
 exact⟨e',w'',fr',hR,Comes.of_steps (.head h1 (Steps.trans hsteps (.one h2))) hs,hfn,hl⟩
def LvQ (P:Program) (fn:Func) (tmps:Array Value) (R:Ending→World→Prop) (dfs:List Deferred) (chain:List PanicEntry) (w:World):Prop :=
 ∀ (fr:Frame) (cs:List Frame),fr.mode=.panicking chain→fr.defers=dfs→fr.tmps=tmps→P.funcs[fr.fn]?=some fn→fr.kind=.normal →
  ∃ e w' fr',R e w'∧Comes P (lone fr cs w) (lone fr' cs w') e∧fr'.fn=fr.fn∧fr'.leaving P w' e
theorem LvQ.defer {fn:Func} {tmps:Array Value} {R:Ending→World→Prop} {w:World} {chain:List PanicEntry} {fv:Fn} {cap dargs:Array Value} {f:FuncId} {args:Array Value} {ds:List Deferred} (hi:(invoke (.fn fv cap) dargs).run P w=.ok (.enter f args) w)
  (h:CallsD P f args (.panicking chain) w fun e u w'=>∃ v,e=.returned v∧settle u=.returning∧LvP P fn tmps R ds w'):LvQ P fn tmps R ({ target:=.fn fv cap,args:=dargs }::ds) chain w:=by
 intro fr cs hu hd ht hf hkind
 have h1:=step_defer (fr:=fr) (cs:=cs) (by rw[hu];simp) hd rfl hi
 obtain⟨e,u',w',frX,⟨v,rfl,hset,hL⟩,hsteps,hkX,hgo⟩:=h { fr with defers:=ds } cs hu
 have h2:=step_going_returned (c:={ { fr with defers:=ds } with mode:=u' }) (cs:=cs) hkX hgo
 obtain⟨e',w'',fr',hR,hs,hfn,hl⟩:=hL { { { fr with defers:=ds } with mode:=u' } with mode:=settle u' } cs hset rfl ht hf hkind
 exact⟨e',w'',fr',hR,Comes.of_steps (.head h1 (Steps.trans hsteps (.one h2))) hs,hfn,hl⟩
def postLv (P:Program) (fn:Func) (R:Ending→World→Prop):Exit→Act→World→Prop
 | .normal,a,w | .ret,a,w=>LvP P fn a.tmps R a.defers w
 | .panic chain,a,w=>(a.defers=[]∧R (.panicked chain) w)∨LvQ P fn a.tmps R a.defers chain w
 | _,_,_=>False
theorem calls_of_lv {f:FuncId} {fn:Func} {c:Code} {args:Array Value} {w:World} {R:Ending→World→Prop} (hf:P.funcs[f]?=some fn) (hb:fn.body=some c)
  (h:c.wp P (postLv P fn R) { tmps:=args++Array.replicate (fn.ntmps-args.size) undef,defers:=[] } w):Calls P f args w R:=by
 intro cs
 let b:Frame:={ (default:Frame) with fn:=f,kind:=.normal }
 have henter:Frame.enter P f args .normal=b.at { tmps:=args++Array.replicate (fn.ntmps-args.size) undef,defers:=[] } [.code c]:=by
  simp[Frame.enter,Frame.at,hf,hb,b]
 obtain⟨e,a',w',hq,harr⟩:=h b [] cs
 rw[←henter] at harr
 cases e with
 | normal =>
  obtain⟨e',w'',fr',hR,hs,hfn,hl⟩:=hq { b.at a' [] with mode:=.returning } cs rfl rfl rfl hf rfl
  exact⟨e',w'',fr',hR,Comes.of_steps (Steps.trans harr (.one step_end)) hs,hfn,hl⟩
 | ret =>
  obtain⟨todo,hs₀⟩:=harr
  obtain⟨e',w'',fr',hR,hs,hfn,hl⟩:=hq { b.at a' todo with mode:=.returning } cs rfl rfl rfl hf rfl
  exact⟨e',w'',fr',hR,Comes.of_steps hs₀ hs,hfn,hl⟩
 | panic chain =>
  obtain⟨todo,hs⟩:=harr
  rcases hq with⟨hd,hR⟩ | hq
  ·exact⟨.panicked chain,w',_,hR,hs,rfl,rfl,hd,fn,hf⟩
  ·obtain⟨e',w'',fr',hR,hs2,hfn,hl⟩:=hq { b.at a' todo with mode:=.panicking chain } cs rfl rfl rfl hf rfl
   exact⟨e',w'',fr',hR,Comes.of_steps hs hs2,hfn,hl⟩
 | exit id=>exact hq.elim
 | goto l=>exact hq.elim
 | outgrown=>exact hq.elim
theorem leaveC_sound (C:Cx P T) (hF:PFOK P F) (hcl:ClOK P G w0 cl) {fn:Func} {tmps:Array Value} {m0:Pm} {h0:Hp} {w_0:World} {R:Ending→World→Prop}:∀ (ds:List (FuncId×List CV×List CV)) (h h':Hp) (m:Pm) (w:World) (dfs:List Deferred),leaveC T G F cl ds h=some h'→Mem G w0 m h w→Stp m0 h0 w_0 m h w→defR m h.n ds dfs →
  (∀ m' w',Mem G w0 m' h' w'→Stp m h w m' h' w'→Stp m0 h0 w_0 m' h' w'→∃ v,(results fn tmps).run P w'=.ok v w'∧R (.returned v) w')→LvP P fn tmps R dfs w
 | [],h,h',m,w,dfs,hx,M,St,hd,hR=>by
  simp only[leaveC,Option.some.injEq] at hx;subst hx
  simp only[defR] at hd;subst hd
  obtain⟨v,h1,h2⟩:=hR m w M (Stp.refl _ _ _) St
  exact .done h1 h2
 | x::ds,h,h',m,w,dfs,hx,M,St,hd,hR=>by
  simp only[leaveC] at hx
  simp only[defR] at hd
  split at hx
  ·rename_i d hmk
   rw[hmk] at hd
   obtain⟨hdn,l',rfl,hd'⟩:=hd
   split at hx
   ·rename_i hget
    have hblk:w.heap[m.b d]?=some (.deferred (some [])):=M.ob d _ hget
    obtain⟨M',S'⟩:=M.write (o':=.dead) hget rfl (w':={ w with heap:=w.heap.setIfInBounds (m.b d) (.deferred none) }) rfl rfl rfl (by simp) (fun b hb=>by simp[Array.getElem?_setIfInBounds,Ne.symm hb]) trivial
    refine .mark (w':={ w with heap:=w.heap.setIfInBounds (m.b d) (.deferred none) }) ?_ ?_
    ·simp[Instr.takeDeferred,getObj,setObj,Sem.run,hblk]
    ·exact leaveC_sound C hF hcl ds _ h' m _ l' hx M' (St.trans S') hd' (fun m2 w2 M2 S2 S3=>hR m2 w2 M2 (S'.trans S2) S3)
   ·cases hx
  ·rename_i hmk
   rw[hmk] at hd
   obtain⟨cs,us,l',rfl,h1,h2,h3⟩:=hd
   split at hx
   ·rename_i gn hg
    obtain⟨hgf,hent⟩:=hF x.1 gn hg
    split at hx
    ·rename_i body hb
     cases hn:Nat.ble (x.2.2++x.2.1).length gn.ntmps with
     | false=>rw[hn] at hx;cases hx
     | true =>
      rw[hn,cond_true] at hx
      have hrel:=relL_append h2 h1
      have fin:∀ (y:Ex) (s:Fs),codeS T G cl gn.ntmps FUEL body ⟨argφ (x.2.2++x.2.1) 0 .e,h,[]⟩=some (y,s)→(y=.nrm∨y=.ret)→(match s.ds,handC T G s gn.results.toList with
        | [],some _=>leaveC T G F cl ds s.h
        | _,_=>none)=some h'→LvP P fn tmps R ({ target:=.fn (.func x.1) cs,args:=us }::l') w:=by
       intro y s hs hxx hx
       split at hx
       ·rename_i v hds hv
        refine .defer (f:=x.1) (args:=us++cs) (by rw[←hent (us++cs) w];simp[invoke]) ?_
        refine callsD_of_wpS hgf hb ?_
        intro c₀ fs hc₀
        have hrc:recoverD (c₀::fs)=none:=by simp[recoverD,hc₀]
        have hstart:=start_rel M hrel (N:=gn.ntmps) (ble_le hn)
        rw[show (us.toList++cs.toList).toArray=us++cs by simp] at hstart
        have:=codeS_sound (m0:=m) (h0:=h) (w_0:=w) C hcl hrc FUEL body _ y s hs m _ w hstart (Stp.refl _ _ _)
        intro b k hb' hk'
        obtain⟨e,a',cs',w',⟨rfl,m',F',St',he⟩,harr⟩:=this b k hb' hk'
        refine⟨e,a',_,w',?_,harr⟩
        have hdf:=F'.df
        rw[hds] at hdf
        simp only[defR] at hdf
        obtain⟨z,hz,hrun⟩:=handC_run C.tok F' hv
        have hgo:a'.defers=[]∧∃ u',c₀::fs={ c₀ with mode:=u' }::fs∧∃ v,(results gn a'.tmps).run P w'=.ok v w'∧∃ v',Ending.returned v=.returned v'∧u'=.returning∧LvP P fn tmps R l' w':=by
         refine⟨hdf,.returning,by rw[←hc₀],z,hrun,z,rfl,rfl,?_⟩
         exact leaveC_sound C hF hcl ds s.h h' m' w' l' hx F'.mem (St.trans St') (defR_ext St'.ext h3) (fun m2 w2 M2 St2 St3=>hR m2 w2 M2 (St'.trans St2) St3)
        rcases hxx with rfl | rfl
        ·simp only[exR] at he;subst he;exact hgo
        ·simp only[exR] at he;subst he;exact hgo
       ·cases hx
      split at hx
      ·rename_i s hs;exact fin _ s hs (.inl rfl) hx
      ·rename_i s hs;exact fin _ s hs (.inr rfl) hx
      ·cases hx
    ·cases hx
   ·cases hx
def OrcOK (P:Program) (G:Gl) (w0:World) (O:Orc):Prop :=
 ∀ f vs h v h' m w us,O f vs h=some (v,h')→Mem G w0 m h w→CV.relL m h.n vs us→CallOK P G w0 f vs us.toArray m h w (.val v) h'
theorem callN_ok (C:Cx P T) (hF:PFOK P F) {O:Orc} (hO:OrcOK P G w0 O):∀ d,ClOK P G w0 (callN T G F O d)
 | 0=>fun f vs h r h' m w us hx=>by simp[callN] at hx
 | d+1=>fun f vs h r h' m w us hx M hr=>by
  have ih:=callN_ok C hF hO d
  simp only[callN] at hx
  split at hx
  ·rename_i v h1 ho
   simp only[Option.some.injEq,Prod.mk.injEq] at hx
   obtain⟨rfl,rfl⟩:=hx
   exact hO f vs h v h1 m w us ho M hr
  ·split at hx
   ·rename_i fn hf
    obtain⟨hff,hent⟩:=hF f fn hf
    refine .inl ⟨hent,?_⟩
    split at hx
    ·rename_i body hb
     cases hn:Nat.ble vs.length fn.ntmps with
     | false=>rw[hn] at hx;cases hx
     | true =>
      rw[hn,cond_true] at hx
      have hstart:=start_rel M hr (N:=fn.ntmps) (ble_le hn)
      refine calls_of_lv hff hb ?_
      have fin:∀ (x:Ex) (s:Fs),codeC T G (callN T G F O d) fn.ntmps FUEL body ⟨argφ vs 0 .e,h,[]⟩=some (x,s)→(x=.nrm∨x=.ret)→endC T G F (callN T G F O d) fn s=some (r,h') →
        body.wp P (postLv P fn (fun e w'=>∃ m',Mem G w0 m' h' w'∧Stp m h w m' h' w'∧rsR m' h'.n e r)) { tmps:=us.toArray++Array.replicate (fn.ntmps-us.toArray.size) undef,defers:=[] } w:=by
       intro x s hs hxx hx
       refine wp_mono (codeC_sound (m0:=m) (h0:=h) (w_0:=w) C ih FUEL FUEL (Nat.le_refl _) body _ x s hs m _ w hstart (Stp.refl _ _ _)) ?_
       rintro e a' w' ⟨m',F',St',he⟩
       unfold endC at hx
       split at hx
       ·rename_i h2 hl
        split at hx
        ·rename_i v hv
         simp only[Option.some.injEq,Prod.mk.injEq] at hx
         obtain⟨rfl,rfl⟩:=hx
         have hgo:LvP P fn a'.tmps _ a'.defers w':=leaveC_sound (m0:=m) (h0:=h) (w_0:=w) C hF ih (fn:=fn) (tmps:=a'.tmps) (R:=fun e w'=>∃ m',Mem G w0 m' h2 w'∧Stp m h w m' h2 w'∧∃ u,e=.returned u∧v.rel m' h2.n u) s.ds s.h h2 m' w' a'.defers hl F'.mem St' F'.df (fun m2 w2 M2 St2 St3=>by
          obtain⟨y,hy,hrun⟩:=handC_run (P:=P) (fn:=fn) (s:=⟨s.φ,h2,[]⟩) (a:={ a' with defers:=[] }) C.tok ⟨M2,FrR.ext St2.ext F'.fr,F'.sz,rfl⟩ hv
          exact⟨y,hrun,m2,M2,St3,y,rfl,hy⟩)
         rcases hxx with rfl | rfl
         ·simp only[exR] at he;subst he;exact hgo
         ·simp only[exR] at he;subst he;exact hgo
        ·cases hx
       ·cases hx
      split at hx
      ·rename_i s hs;exact fin _ s hs (.inl rfl) hx
      ·rename_i s hs;exact fin _ s hs (.inr rfl) hx
      ·rename_i v s hs
       split at hx
       ·rename_i hds
        simp only[Option.some.injEq,Prod.mk.injEq] at hx
        obtain⟨rfl,rfl⟩:=hx
        refine wp_mono (codeC_sound (m0:=m) (h0:=h) (w_0:=w) C ih FUEL FUEL (Nat.le_refl _) body _ _ s hs m _ w hstart (Stp.refl _ _ _)) ?_
        rintro e a' w' ⟨m',F',St',he⟩
        simp only[exR] at he
        obtain⟨ch,rfl,hp⟩:=he
        have hdf:=F'.df
        rw[hds] at hdf
        simp only[defR] at hdf
        exact .inl ⟨hdf,m',F'.mem,St',ch,rfl,hp⟩
       ·rename_i x ds hds
        refine wp_mono (codeC_sound (m0:=m) (h0:=h) (w_0:=w) C ih FUEL FUEL (Nat.le_refl _) body _ _ s hs m _ w hstart (Stp.refl _ _ _)) ?_
        rintro e a' w' ⟨m',F',St',he⟩
        simp only[exR] at he
        obtain⟨ch,rfl,u,rfl,hu⟩:=he
        refine .inr ?_
        have hdf:=F'.df
        rw[hds] at hdf
        unfold panC at hx
        split at hx
        ·cases hx
        rename_i hmk
        simp only[defR,hmk] at hdf
        obtain⟨cs,us',l',hl',h1,h2,h3⟩:=hdf
        rw[hl']
        split at hx
        ·rename_i gn hg
         obtain⟨hgf,hent'⟩:=hF x.1 gn hg
         split at hx
         ·rename_i gbody hgb
          cases hgn:Nat.ble (x.2.2++x.2.1).length gn.ntmps with
          | false=>rw[hgn] at hx;cases hx
          | true =>
           rw[hgn,cond_true] at hx
           have hrel:=relL_append h2 h1
           have fin2:∀ (y:Ex) (s2:Fs),codeR T G (callN T G F O d) gn.ntmps v FUEL gbody ⟨argφ (x.2.2++x.2.1) 0 .e,s.h,[]⟩=some (y,s2,true)→(y=.nrm∨y=.ret)→(match s2.ds,handC T G s2 gn.results.toList with
             | [],some _=>endC T G F (callN T G F O d) fn ⟨s.φ,s2.h,ds⟩
             | _,_=>none)=some (r,h')→LvQ P fn a'.tmps (fun e w'=>∃ m',Mem G w0 m' h' w'∧Stp m h w m' h' w'∧rsR m' h'.n e r) ({ target:=.fn (.func x.1) cs,args:=us' }::l') [{ v:=u,recovered:=false }] w':=by
            intro y s2 hs2 hxx hx
            split at hx
            ·rename_i vv hds2 hvv
             refine .defer (f:=x.1) (args:=us'++cs) (by rw[←hent' (us'++cs) w'];simp[invoke]) ?_
             refine callsD_of_wpS hgf hgb ?_
             intro c₀ fs hc₀
             have hrc0:recoverD (c₀::fs)=some (u,{ c₀ with mode:=.panicking [{ v:=u,recovered:=true }] }::fs):=by simp[recoverD,hc₀]
             have hrc1:recoverD ({ c₀ with mode:=.panicking [{ v:=u,recovered:=true }] }::fs)=none:=by simp[recoverD]
             have hstart2:=start_rel F'.mem hrel (N:=gn.ntmps) (ble_le hgn)
             rw[show (us'.toList++cs.toList).toArray=us'++cs by simp] at hstart2
             have:=codeR_sound (m0:=m') (h0:=s.h) (w_0:=w') C ih hrc0 hrc1 hu FUEL gbody _ y s2 true hs2 m' _ w' hstart2 (Stp.refl _ _ _)
             intro b k hb' hk'
             obtain⟨e,a2,cs2,w2,⟨rfl,m2,F2,St2,he⟩,harr⟩:=this b k hb' hk'
             refine⟨e,a2,_,w2,?_,harr⟩
             have hdf2:=F2.df
             rw[hds2] at hdf2
             simp only[defR] at hdf2
             obtain⟨z,hz,hrun⟩:=handC_run C.tok F2 hvv
             have hgo:a2.defers=[]∧∃ u',({ c₀ with mode:=.panicking [{ v:=u,recovered:=true }] }::fs)={ c₀ with mode:=u' }::fs∧∃ v,(results gn a2.tmps).run P w2=.ok v w2∧∃ v',Ending.returned v=.returned v'∧settle u'=.returning∧LvP P fn a'.tmps (fun e w'=>∃ m',Mem G w0 m' h' w'∧Stp m h w m' h' w'∧rsR m' h'.n e r) l' w2:=by
              refine⟨hdf2,.panicking [{ v:=u,recovered:=true }],rfl,z,hrun,z,rfl,by simp[settle],?_⟩
              unfold endC at hx
              split at hx
              ·rename_i h3' hl3
               split at hx
               ·rename_i v4 hv4
                simp only[Option.some.injEq,Prod.mk.injEq] at hx
                obtain⟨rfl,rfl⟩:=hx
                exact leaveC_sound (m0:=m) (h0:=h) (w_0:=w) C hF ih (fn:=fn) (tmps:=a'.tmps) (R:=fun e w'=>∃ m',Mem G w0 m' h3' w'∧Stp m h w m' h3' w'∧∃ u,e=.returned u∧v4.rel m' h3'.n u) ds s2.h h3' m2 w2 l' hl3 F2.mem (St'.trans St2) (defR_ext St2.ext h3) (fun m5 w5 M5 St5 St6=>by
                 obtain⟨y,hy,hrun⟩:=handC_run (P:=P) (fn:=fn) (s:=⟨s.φ,h3',[]⟩) (a:={ a' with defers:=[] }) C.tok ⟨M5,FrR.ext (St2.trans St5).ext F'.fr,F'.sz,rfl⟩ hv4
                 exact⟨y,hrun,m5,M5,St6,y,rfl,hy⟩)
               ·cases hx
              ·cases hx
             rcases hxx with rfl | rfl
             ·simp only[exR] at he;subst he;exact hgo
             ·simp only[exR] at he;subst he;exact hgo
            ·cases hx
           split at hx
           ·rename_i s2 hs2;exact fin2 _ s2 hs2 (.inl rfl) hx
           ·rename_i s2 hs2;exact fin2 _ s2 hs2 (.inr rfl) hx
           ·cases hx
         ·cases hx
        ·cases hx
      ·cases hx
    ·cases hx
   ·cases hx
end
end
section
def Tr.all {α:Type}:Tr α→(Nat→Nat)→(Nat→α→Bool)→Bool
 | .e,_,_=>true
 | .n l v r,g,p=>(match v with | some x=>p (g 0) x | none=>true)&&Tr.all l (fun j=>g (2*j+1)) p&&Tr.all r (fun j=>g (2*(j+1))) p
theorem Tr.all_spec {α:Type} {p:Nat→α→Bool}:∀ {t:Tr α} {g:Nat→Nat},Tr.all t g p=true→∀ k x,t.get k=some x→p (g k) x=true
 | .e,g,_,k,x,h=>by simp[Tr.get_e] at h
 | .n l v r,g,ha,k,x,h=>by
  simp only[Tr.all,Bool.and_eq_true] at ha
  obtain⟨⟨h1,h2⟩,h3⟩:=ha
  simp only[Tr.get_n,cond_beq] at h
  split at h
  ·rename_i hk;subst hk;subst h;exact h1
  ·rename_i hk
   split at h
   ·rename_i h0
    have:=Tr.all_spec h2 _ x h
    rw[show 2*(k / 2)+1=k by omega] at this;exact this
   ·rename_i h0
    have:=Tr.all_spec h3 _ x h
    rw[show 2*(k / 2-1+1)=k by omega] at this;exact this
def Tr.allP {α:Type} (p:Nat→α→Prop):Tr α→(Nat→Nat)→Prop
 | .e,_=>True
 | .n l v r,g=>(match v with | some x=>p (g 0) x | none=>True)∧Tr.allP p l (fun j=>g (2*j+1))∧Tr.allP p r (fun j=>g (2*(j+1)))
theorem Tr.allP_spec {α:Type} {p:Nat→α→Prop}:∀ {t:Tr α} {g:Nat→Nat},Tr.allP p t g→∀ k x,t.get k=some x→p (g k) x
 | .e,g,_,k,x,h=>by simp[Tr.get_e] at h
 | .n l v r,g,ha,k,x,h=>by
  simp only[Tr.allP] at ha
  obtain⟨h1,h2,h3⟩:=ha
  simp only[Tr.get_n,cond_beq] at h
  split at h
  ·rename_i hk;subst hk;subst h;exact h1
  ·rename_i hk
   split at h
   ·rename_i h0
    have:=Tr.allP_spec h2 _ x h
    rw[show 2*(k / 2)+1=k by omega] at this;exact this
   ·rename_i h0
    have:=Tr.allP_spec h3 _ x h
    rw[show 2*(k / 2-1+1)=k by omega] at this;exact this
def isAgg:Value→Bool
 | .agg _=>true
 | _=>false
def rowIs (P:Program) (tr:Tr TI) (t:TypeId) (i:TI):Bool :=
 tiIs P t i&&(match i.d with
  | .struct fs=>fs.all fun p=>(tr.get p.2).isSome
  | _=>true)&&(match P.info? t with
  | some info=>match info.zero with
   | some z=>i.d.agg==isAgg z
   | none=>false
  | none=>false)
theorem tab_of {P:Program} {tr:Tr TI} (h:tr.all (fun j=>j) (rowIs P tr)=true) (hm:P.follows .mixedOrders=true):Cx P tr.get:=by
 refine⟨?_,?_,hm⟩
 ·intro t i hi
  have h1:=Tr.all_spec h t i hi
  simp only[rowIs,Bool.and_eq_true] at h1
  obtain⟨⟨h1,h2⟩,h3⟩:=h1
  unfold tiIs at h1
  split at h1
  ·rename_i info d hinfo hd
   simp only[Bool.and_eq_true] at h1
   obtain⟨⟨⟨a1,a2⟩,a3⟩,a4⟩:=h1
   refine⟨info,d,hinfo,hd,tyIs_spec a1,Nat.eq_of_beq_eq_true a2,Nat.eq_of_beq_eq_true a3,?_,?_⟩
   ·split at a4
    ·rename_i z hz
     simp only[Bool.and_eq_true] at a4
     obtain⟨b1,b2⟩:=cellsAre_spec a4.1.1
     exact⟨z,hz,b1,b2,Nat.eq_of_beq_eq_true a4.1.2⟩
    ·cases a4
   ·refine⟨?_,?_⟩
    ·intro fs hfs p hp
     simp only[hfs,List.all_eq_true] at h2
     exact Option.isSome_iff_exists.1 (h2 p hp)
    ·intro z hz
     rw[hz] at a4
     simp only[Bool.and_eq_true] at a4
     have:=a4.2
     unfold sameB at this
     split at this <;> simp_all
  ·cases h1
 ·intro t i hi
  have h1:=Tr.all_spec h t i hi
  simp only[rowIs,Bool.and_eq_true] at h1
  obtain⟨⟨h1,h2⟩,h3⟩:=h1
  unfold tiIs at h1
  split at h1
  ·rename_i info d hinfo hd
   simp only[Bool.and_eq_true] at h1
   obtain⟨⟨⟨a1,a2⟩,a3⟩,a4⟩:=h1
   split at a4
   ·rename_i z hz
    simp only[Bool.and_eq_true] at a4
    obtain⟨b1,b2⟩:=cellsAre_spec a4.1.1
    refine⟨z,?_,b1,b2,Nat.eq_of_beq_eq_true a4.1.2,?_,?_⟩
    ·intro w
     simp[zeroValue,typeInfo,hinfo,hz]
    ·intro hagg
     rw[hinfo] at h3
     simp only[hz,hagg] at h3
     cases z <;> simp[isAgg] at h3
     exact⟨_,rfl⟩
    ·intro hagg cs hz'
     rw[hinfo] at h3
     subst hz'
     simp[hz,hagg,isAgg] at h3
   ·cases a4
  ·cases h1
end
section
mutual
theorem flat_rel {m m':Pm} {n n':Nat}:∀ (x:CV) (y:Value),flat x=true→x.rel m n y→x.rel m' n' y
 | .v x,y,_,h=>by simpa only[CV.rel] using h
 | .str bs,y,_,h=>by simpa only[CV.rel] using h
 | .ptr l off,y,hf,h=>by simp[flat] at hf
 | .gp g off,y,_,h=>by simpa only[CV.rel] using h
 | .sl l k off len c ex,y,hf,h=>by simp[flat] at hf
 | .e0,y,_,h=>by simpa only[CV.rel] using h
 | .eu,y,_,h=>by simpa only[CV.rel] using h
 | .mp l,y,hf,h=>by simp[flat] at hf
 | .agg cs,y,hf,h=>by
  simp only[CV.rel] at h ⊢
  obtain⟨us,h1,h2,h3⟩:=h
  exact⟨us,h1,flat_relL cs us (by simpa [flat] using hf) h2,h3⟩
 | .tup cs,y,hf,h=>by
  simp only[CV.rel] at h ⊢
  obtain⟨us,h1,h2⟩:=h
  exact⟨us,h1,flat_relL cs us (by simpa [flat] using hf) h2⟩
 | .fn f cs,y,hf,h=>by
  simp only[CV.rel] at h ⊢
  obtain⟨us,h1,h2⟩:=h
  exact⟨us,h1,flat_relL cs us (by simpa [flat] using hf) h2⟩
 | .yld l,y,hf,h=>by simp[flat] at hf
 | .ifc t x,y,hf,h=>by
  simp only[CV.rel] at h ⊢
  obtain⟨u,h1,h2⟩:=h
  exact⟨u,h1,flat_rel x u (by simpa [flat] using hf) h2⟩
theorem flat_relL {m m':Pm} {n n':Nat}:∀ (xs:List CV) (us:List Value),flat.go xs=true→CV.relL m n xs us→CV.relL m' n' xs us
 | [],us,_,h=>by simpa only[CV.relL] using h
 | c::cs,us,hf,h=>by
  simp only[CV.relL] at h ⊢
  simp only[flat.go,Bool.and_eq_true] at hf
  obtain⟨u,us',h1,h2,h3⟩:=h
  exact⟨u,us',h1,flat_rel c u hf.1 h2,flat_relL cs us' hf.2 h3⟩
end
section
variable {P:Program} {T:TyTab} {G:Gl}
def MemoOK (P:Program) (G:Gl) (f:FuncId) (vs:List CV) (v:CV):Prop :=
 ∀ (w0:World) (h:Hp) (m:Pm) (w:World) (us:List Value),Mem G w0 m h w→CV.relL m h.n vs us→CallOK P G w0 f vs us.toArray m h w (.val v) h
theorem Mem.none {w0:World} {m:Pm} {h:Hp} {w:World} (M:Mem G w0 m h w):Mem G w0 m ⟨.e,0⟩ w :=
 ⟨M.below,fun l o h=>by simp[Tr.get_e] at h,fun l o h=>by simp[Tr.get_e] at h,fun l o h=>by simp[Tr.get_e] at h,fun l l' o o' h=>by simp[Tr.get_e] at h,M.gl⟩
theorem memo_of (C:Cx P T) {F:PF} (hF:PFOK P F) {O:Orc} (hO:∀ w0,OrcOK P G w0 O) {d:Nat} {f:FuncId} {vs:List CV} {v:CV}
  (hrun:(match callN T G F O d f vs ⟨.e,0⟩ with | some (.val v',_)=>eqC v' v | _=>false)=true) (hvs:flat.go vs=true) (hv:flat v=true):MemoOK P G f vs v:=by
 intro w0 h m w us M hr
 split at hrun
 ·rename_i v' h' hc
  have:=eqC_eq _ _ hrun;subst this
  have hr0:CV.relL m (⟨.e,0⟩:Hp).n vs us:=flat_relL vs us hvs hr
  rcases callN_ok C hF (hO w0) d f vs ⟨.e,0⟩ _ h' m w us hc M.none hr0 with⟨hent,hcall⟩ | ⟨hfl,v2,y,e,he,hy,hrun2⟩
  ·refine .inl ⟨hent,?_⟩
   refine hcall.mono ?_
   rintro e w' ⟨m',M',St,u,rfl,hu⟩
   have hkeep:∀ b,b<w.heap.size→w'.heap[b]?=w.heap[b]?:=fun b hb=>St.keep.block b hb (fun l o hl=>by simp[Tr.get_e] at hl)
   refine⟨m,⟨M'.below,M.lt,fun l o hl=>?_,M.own,M.dj,M.gl⟩,⟨Ext.refl _ _,⟨St.keep.os,St.keep.tape,St.keep.output,St.keep.size,fun b hb _=>hkeep b hb⟩,fun l o hl ho=>.inl ⟨l,o,hl,ho,rfl⟩⟩,u,rfl,flat_rel _ _ hv hu⟩
   exact CO.rel_keep (Ext.refl _ _) (M.lt l o hl) (fun ho=>hkeep _ (CO.rel_lt (M.ob l o hl) ho)) (M.ob l o hl)
  ·injection e with e;subst e
   exact .inr ⟨hfl,_,y,rfl,rfl,flat_rel _ _ hv hy,hrun2⟩
 ·cases hrun
def memoO:List (FuncId×List CV×CV)→Orc→Orc
 | [],O,f,vs,h=>O f vs h
 | (g,us,v)::r,O,f,vs,h=>bif Nat.beq f g&&eqCs vs us then some (v,h) else memoO r O f vs h
theorem memoO_ok {O:Orc} (hO:∀ w0,OrcOK P G w0 O):∀ (l:List (FuncId×List CV×CV)),(∀ e∈l,MemoOK P G e.1 e.2.1 e.2.2)→∀ w0,OrcOK P G w0 (memoO l O)
 | [],_,w0=>fun f vs h v h' m w us hx M hr=>hO w0 f vs h v h' m w us hx M hr
 | (g,as,v0)::r,hl,w0=>fun f vs h v h' m w us hx M hr=>by
  simp only[memoO] at hx
  cases hb:(Nat.beq f g&&eqCs vs as) with
  | false=>rw[hb] at hx;exact memoO_ok hO r (fun e he=>hl e (List.mem_cons_of_mem _ he)) w0 f vs h v h' m w us hx M hr
  | true =>
   rw[hb,cond_true] at hx
   simp only[Option.some.injEq,Prod.mk.injEq] at hx
   obtain⟨rfl,rfl⟩:=hx
   rw[Bool.and_eq_true] at hb
   have h1:=beq_eq hb.1;subst h1
   have h2:=eqCs_eq _ _ hb.2;subst h2
   exact hl _ List.mem_cons_self w0 h m w us M hr
theorem MemoOK.calls {f:FuncId} {v:CV} (h:MemoOK P G f [] v) (hv:flat v=true) {w:World} (hg:GRel G w) (hent:Ent P f):Calls P f #[] w fun e w'=>∃ u,e=.returned u∧Below w.heap.size w w'∧v.rel ⟨fun _=>0,fun _=>0⟩ 0 u:=by
 have M:Mem G w ⟨fun _=>0,fun _=>0⟩ ⟨.e,0⟩ w:=⟨Below.refl _ _,fun l o h=>by simp[Tr.get_e] at h,fun l o h=>by simp[Tr.get_e] at h,fun l o h=>by simp[Tr.get_e] at h,fun l l' o o' h=>by simp[Tr.get_e] at h,hg⟩
 rcases h w ⟨.e,0⟩ _ w [] M (by simp[CV.relL]) with⟨_,hc⟩ | ⟨_,v',y,e,_,hy,hrun⟩
 ·refine Calls.mono hc ?_
  rintro e w' ⟨m',M',St,u,rfl,hu⟩
  exact⟨u,rfl,⟨St.keep.os,St.keep.tape,St.keep.output,St.keep.size,fun b hb=>St.keep.block b hb (fun l o hl=>by simp[Tr.get_e] at hl)⟩,flat_rel _ _ hv hu⟩
 ·have:=hent #[] w
  rw[this] at hrun;cases hrun
def idxB (c:Nat):List Nat→Nat→Int
 | [],_=>-1
 | b::r,i=>bif Nat.beq b c then .ofNat i else idxB c r (i+1)
def indexByteO (g:FuncId):Orc:=fun f vs h=>bif Nat.beq f g then (match vs with
 | [.str bs,.v (.int .u8 (.ofNat c))]=>bif Nat.blt c 256 then some (.v (.int .i64 (idxB c bs 0)),h) else none
 | _=>none) else none
theorem idxB_eq (c:Nat) (hc:c<256):∀ (l:List UInt8) (i:Nat),idxB c (l.map UInt8.toNat) i=(if Lib.indexByte l c.toUInt8=-1 then -1 else Lib.indexByte l c.toUInt8+i)
 | [],i=>by simp[idxB,Lib.indexByte]
 | b::l,i=>by
  have ih:=idxB_eq c hc l (i+1)
  have hge:=Lib.indexByte_ge l c.toUInt8
  have hbe:(Nat.beq b.toNat c=true)↔b=c.toUInt8:=by
   rw[beq_true]
   constructor
   ·intro h
    subst h
    exact (UInt8.ofNat_toNat).symm
   ·intro h
    subst h
    simp[Nat.toUInt8,UInt8.toNat_ofNat']
    omega
  have hcons:Lib.indexByte (b::l) c.toUInt8=if b==c.toUInt8 then 0 else if Lib.indexByte l c.toUInt8==-1 then -1 else Lib.indexByte l c.toUInt8+1:=rfl
  generalize hL:Lib.indexByte (b::l) c.toUInt8=L at hcons ⊢
  simp only[List.map_cons,idxB]
  by_cases h:b=c.toUInt8
  ·rw[hbe.2 h,cond_true]
   simp[h] at hcons
   simp[hcons]
  ·have hb:Nat.beq b.toNat c=false:=by
    cases hq:Nat.beq b.toNat c with
    | false=>rfl
    | true=>exact absurd (hbe.1 hq) h
   have hb2:(b==c.toUInt8)=false:=by simpa using h
   rw[hb,cond_false,ih]
   simp only[hb2,Bool.false_eq_true,if_false,beq_iff_eq] at hcons
   by_cases h1:Lib.indexByte l c.toUInt8=-1
   ·rw[if_pos h1] at hcons
    rw[if_pos h1,if_pos hcons]
   ·rw[if_neg h1] at hcons
    rw[if_neg h1,hcons,if_neg (by omega)]
    omega
theorem indexByteO_ok {g:FuncId} (hx:∀ (args:Array Value) (w:World),(callFunc g args).run P w=((Extern.BytealgIndexByte.indexByte args).run P w).andThen fun v w'=>.ok (.value v) w') (w0:World):OrcOK P G w0 (indexByteO g):=by
 intro f vs h v h' m w us ho M hr
 unfold indexByteO at ho
 cases hb:Nat.beq f g with
 | false=>rw[hb] at ho;cases ho
 | true =>
  rw[hb,cond_true] at ho
  have:=beq_eq hb;subst this
  split at ho
  ·rename_i bs c
   cases hc:Nat.blt c 256 with
   | false=>rw[hc] at ho;cases ho
   | true =>
    rw[hc,cond_true] at ho
    simp only[Option.some.injEq,Prod.mk.injEq] at ho
    obtain⟨rfl,rfl⟩:=ho
    simp only[CV.relL,CV.rel] at hr
    obtain⟨u1,us1,rfl,⟨s,rfl,hs⟩,u2,us2,rfl,⟨rfl,_⟩,rfl⟩:=hr
    refine .inr ⟨rfl,_,_,rfl,rfl,rel_ci,?_⟩
    rw[hx]
    have:=Lib.run_indexByteString (P:=P) s (Int.ofNat c) w
    rw[show [Value.string s,Value.int .u8 (Int.ofNat c)].toArray=#[Value.string s,Value.int .u8 (Int.ofNat c)] from rfl,this]
    have e:Lib.indexByte s.data.toList (Int.ofNat c).toNat.toUInt8=idxB c bs 0:=by
     rw[←hs]
     show _=idxB c (s.data.toList.map UInt8.toNat) 0
     rw[idxB_eq c (blt_lt hc)]
     simp only[Int.ofNat_eq_natCast,Int.toNat_natCast]
     split
     ·rename_i h;rw[h]
     ·simp
    rw[e];rfl
  ·cases ho
def orO (O O':Orc):Orc:=fun f vs h=>match O f vs h with
 | some r=>some r
 | none=>O' f vs h
theorem orO_ok {O O':Orc} {w0:World} (h:OrcOK P G w0 O) (h':OrcOK P G w0 O'):OrcOK P G w0 (orO O O'):=by
 intro f vs hh v h1 m w us ho M hr
 unfold orO at ho
 split at ho
 ·rename_i r hr'
  injection ho with ho;subst ho
  exact h f vs hh v h1 m w us hr' M hr
 ·exact h' f vs hh v h1 m w us ho M hr
end
end
section
@[reducible] def gmOf (G:Gl):Gm where
 g:=GRel G
 keep w w' hk h:=by
  intro g cs hg
  obtain⟨us,e,h1,h2⟩:=h g cs hg
  have hlt:g<w.heap.size:=(Array.getElem?_eq_some_iff.1 h1).1
  exact⟨us,e,by rw[hk.block g hlt (by omega)];exact h1,h2⟩
theorem MemoOK.pc {P:Program} {G:Gl} {f:FuncId} {v:Value} (h:MemoOK P G f [] (.v v)) (hent:Ent P f):@PC (gmOf G) P f [] (.v v):=by
 intro w F us hg _ hr
 simp only[TV.relL] at hr
 subst hr
 refine (h.calls rfl hg hent).mono ?_
 rintro e w' ⟨u,rfl,hb,hu⟩
 exact⟨u,rfl,hb,by simpa only[TV.rel,CV.rel] using hu⟩
end
end Go.Proofs.YtihbimigddlbaaaGreatDoor.Kx
end
noncomputable section
set_option linter.all false
namespace Go.Proofs.YtihbimigddlbaaaGreatDoor.Kx
open Go.RowKit Go.Proofs.YtihbimigddlbaaaGreatDoor.Pl
variable {P:Program} {T:TyTab} {G:Gl}
section
end
end Go.Proofs.YtihbimigddlbaaaGreatDoor.Kx
end
