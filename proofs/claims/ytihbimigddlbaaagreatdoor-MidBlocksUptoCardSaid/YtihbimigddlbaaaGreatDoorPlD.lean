/- A part of the proof: PlDraw2 PlDraw3 PlDraw4 PlDraw5 PlDraw6 PlDraw7 PlDraw8 PlEval PlTab PlEq PlLib. -/
import Derived.Test.YtihbimigddlbaaaGreatDoorPlC
import Derived.KernelRfl
import Derived.Laws.StructEq
import Derived.Laws.Runes
noncomputable section
set_option linter.all false
namespace Go.Proofs.YtihbimigddlbaaaGreatDoor.Pl
open Go.RowKit
variable [Gm]
section
structure DR where
 o:Oper
 d:Nat
 e:GE
 al:Option AO
 A:Prop:=True
section
variable {P:Program} {T:TyTab} {N:Nat} {B0:Nat→Prop} {F0:Nat→Prop} {w0:PW}
def RecOK (own:List Nat) (X:TV→Prop) (T:TyTab) (P:Program) (N:Nat) (ops:Array Oper) (s:St) (ψ:List (Nat×GE)) (r:DR):Prop :=
 r.o.dst=some r.d∧r.d<N∧clashG r.d ψ=false ∧
 (match r.o.guard with | none=>r.e.gs=[]∧r.e.G=True | some (j,want)=>guardOf ops ψ s.φ j want=some (r.e.gs,r.e.G)∧namesG r.d r.e.gs=false) ∧
 ((∃ t ti,r.o.op=.alloc t∧r.o.guard=none∧T t=some ti∧r.e.v=.ptr r.d 0∧r.al=some (.var (ti.zero.map .t))∧r.A) ∨
  (r.al=none∧r.A∧((∃ t n ps,r.o.op=.buildSlice t n ps∧r.o.guard=none∧bsG T t n ps.toList (opd ψ s.φ []) (·=r.e.v)) ∨
   (∃ c a b x,r.o.op=.pick c a b∧pickV (opd ψ s.φ) r.e.gs c a b=some x∧r.e.v=vb x) ∨
   (evG T P r.e.G r.o (opd ψ s.φ r.e.gs) s (·=r.e.v)))) ∨
  (r.al=none∧r.o.guard=none∧∃ g vs xs t,flagC own (opd ψ s.φ []) r.o.op=some (g,vs)∧mapO (borrow s.σ 8) vs=some xs∧Ent P g ∧
   SC P g [] (xs.map .t) (fun x _=>(x=.ret t∧r.A)∨∃ e,x=.pan e∧e.flat=true∧X e)∧(t.plain=true∨(allT vs).isSome=true)∧r.e.v=.t t))
def recψ:List DR→List (Nat×GE)→List (Nat×GE)
 | [],ψ=>ψ
 | r::rs,ψ=>recψ rs ((r.d,r.e)::ψ)
def recν:List DR→List (Nat×AO)→List (Nat×AO)
 | [],ν=>ν
 | r::rs,ν=>recν rs (match r.al with | some o=>(r.d,o)::ν | none=>ν)
def RecsOK (own:List Nat) (X:TV→Prop) (T:TyTab) (P:Program) (N:Nat) (ops:Array Oper) (s:St):List DR→List (Nat×GE)→Prop
 | [],_=>True
 | r::rs,ψ=>RecOK own X T P N ops s ψ r∧RecsOK own X T P N ops s rs ((r.d,r.e)::ψ)
omit [Gm] in
theorem kindD_alloc {op:Op} {t:TypeId} (h:kindD op=.alloc t):op=.alloc t:=by cases op <;> simp[kindD] at h;rw[h]
omit [Gm] in
theorem kindD_lit {op:Op} {t:TypeId} {n:Nat} {ps:Array (Nat×Operand)} (h:kindD op=.lit t n ps):op=.buildSlice t n ps:=by cases op <;> simp[kindD] at h;obtain⟨rfl,rfl,rfl⟩:=h;rfl
omit [Gm] in
theorem kindD_pick {op:Op} {c a b:Operand} (h:kindD op=.pick c a b):op=.pick c a b:=by cases op <;> simp[kindD] at h;obtain⟨rfl,rfl,rfl⟩:=h;rfl
omit [Gm] in
theorem bsG_det {t:TypeId} {n:Nat} {ps:List (Nat×Operand)} {lk:Operand→Option AV} {K:AV→Prop} (h:bsG T t n ps lk K):∃ v,K v∧bsG T t n ps lk (·=v):=by
 unfold bsG at h ⊢
 simp only[Bool.cond_eq_ite] at h ⊢
 (repeat' split at h) <;> first | exact h.elim | exact⟨_,h,by simp_all⟩
theorem evD_recs {own:List Nat} {z:Nat} {X:TV→Prop} {ops:Array Oper} {s:St}:∀ (l:List Oper) (ψ:List (Nat×GE)) (ν:List (Nat×AO)) (K:List (Nat×GE)→List (Nat×AO)→List Oper→List Prop→Prop),evD own z X T P N ops s l ψ ν K →
  ∃ recs rest,l=recs.map (·.o)++rest∧recs.length=preLen own z l∧RecsOK own X T P N ops s recs ψ∧∃ l,((∀ r∈recs,r.A)→∀ A∈l,A)∧K (recψ recs ψ) (recν recs ν) rest l
 | [],ψ,ν,K,h=>⟨[],[],rfl,rfl,trivial,[],(fun _ A hA=>by simp at hA),h⟩
 | o::os,ψ,ν,K,h=>by
  simp only[evD] at h
  cases he:stopD own z o.op with
  | true =>
   rw[he,cond_true] at h
   exact⟨[],o::os,rfl,by simp[preLen,he],trivial,[],(fun _ A hA=>by simp at hA),h⟩
  | false =>
   rw[he,cond_false] at h
   have step:∀ (r:DR) (ν':List (Nat×AO)),r.o=o→ν'=(match r.al with | some o=>(r.d,o)::ν | none=>ν)→RecOK own X T P N ops s ψ r→∀ {K':List (Nat×GE)→List (Nat×AO)→List Oper→List Prop→Prop},(∀ ψ ν rest l,K' ψ ν rest l→∃ l',((r.A∧∀ A∈l,A)→∀ A∈l',A)∧K ψ ν rest l')→evD own z X T P N ops s os ((r.d,r.e)::ψ) ν' K' →
     ∃ recs rest,o::os=recs.map (·.o)++rest∧recs.length=preLen own z (o::os)∧RecsOK own X T P N ops s recs ψ∧∃ l,((∀ r∈recs,r.A)→∀ A∈l,A)∧K (recψ recs ψ) (recν recs ν) rest l:=by
    intro r ν' ho hν hr K' hcv hev
    obtain⟨recs,rest,h1,h2,h3,l,hl,h4⟩:=evD_recs os _ _ _ hev
    refine⟨r::recs,rest,by rw[List.map_cons,List.cons_append,←h1,ho],by simp[preLen,he,h2],⟨hr,h3⟩,?_⟩
    simp only[recψ,recν]
    rw[←hν]
    obtain⟨l',hl',h5⟩:=hcv _ _ _ _ h4
    exact⟨l',fun hA=>hl' ⟨hA r (List.mem_cons_self ..),hl (fun r' hr'=>hA r' (List.mem_cons_of_mem _ hr'))⟩,h5⟩
   split at h
   ·exact h.elim
   ·rename_i d hd
    cases hb:Nat.blt d N&&!clashG d ψ with
    | false=>rw[hb] at h;exact h.elim
    | true =>
     rw[hb,cond_true] at h
     simp only[Bool.and_eq_true,Bool.not_eq_true'] at hb
     have hlt:=Nat.le_of_ble_eq_true hb.1
     have hcl:=hb.2
     split at h
     ·rename_i hg
      split at h
      ·rename_i t hk
       split at h
       ·rename_i ti ht
        exact step ⟨o,d,⟨[],True,.ptr d 0⟩,some (.var (ti.zero.map .t)),True⟩ _ rfl rfl ⟨hd,hlt,hcl,by simp[hg],.inl ⟨t,ti,kindD_alloc hk,hg,ht,rfl,rfl,trivial⟩⟩ (fun _ _ _ l h=>⟨l,And.right,h⟩) h
       ·exact h.elim
      ·rename_i t n ps hk
       obtain⟨v,h1,h2⟩:=bsG_det h
       exact step ⟨o,d,⟨[],True,v⟩,none,True⟩ _ rfl rfl ⟨hd,hlt,hcl,by simp[hg],.inr (.inl ⟨rfl,trivial,.inl ⟨t,n,ps,kindD_lit hk,hg,h2⟩⟩)⟩ (fun _ _ _ l h=>⟨l,And.right,h⟩) h1
      ·rename_i c a b hk
       split at h
       ·rename_i x hx
        exact step ⟨o,d,⟨[],True,vb x⟩,none,True⟩ _ rfl rfl ⟨hd,hlt,hcl,by simp[hg],.inr (.inl ⟨rfl,trivial,.inr (.inl ⟨c,a,b,x,kindD_pick hk,hx,rfl⟩)⟩)⟩ (fun _ _ _ l h=>⟨l,And.right,h⟩) h
       ·exact h.elim
      ·split at h
       ·rename_i g vs hfl
        unfold callX at h
        split at h
        ·rename_i xs hxs
         obtain⟨hent,t,A,hsc,h⟩:=h
         have go:(t.plain=true∨(allT vs).isSome=true)→evD own z X T P N ops s os ((d,⟨[],True,.t t⟩)::ψ) ν (fun ψ ν rest l=>K ψ ν rest (A::l))→_:=fun hp h =>
          step ⟨o,d,⟨[],True,.t t⟩,none,A⟩ _ rfl rfl ⟨hd,hlt,hcl,by simp[hg],.inr (.inr ⟨rfl,hg,g,vs,xs,t,hfl,hxs,hent,hsc,hp,rfl⟩)⟩ (fun _ _ _ l h=>⟨_,all_cons,h⟩) h
         cases hp:t.plain with
         | true=>rw[hp,cond_true] at h;exact go (.inl hp) h
         | false =>
          rw[hp,cond_false] at h
          cases hall:(allT vs).isSome with
          | false=>rw[hall] at h;exact h.elim
          | true=>rw[hall,cond_true] at h;exact go (.inr hall) h
        ·exact h.elim
       ·cases hdt:detOp T o.op with
        | false=>rw[hdt] at h;exact h.elim
        | true =>
         rw[hdt,cond_true] at h
         obtain⟨v,h1,h2⟩:=evG_det hdt h
         exact step ⟨o,d,⟨[],True,v⟩,none,True⟩ _ rfl rfl ⟨hd,hlt,hcl,by simp[hg],.inr (.inl ⟨rfl,trivial,.inr (.inr h2)⟩)⟩ (fun _ _ _ l h=>⟨l,And.right,h⟩) h1
     ·rename_i j want hg
      split at h
      ·rename_i gs G hgo
       cases hng:namesG d gs with
       | true=>rw[hng] at h;exact h.elim
       | false =>
        rw[hng,cond_false] at h
        split at h
        ·rename_i c a b hk
         split at h
         ·rename_i x hx
          exact step ⟨o,d,⟨gs,G,vb x⟩,none,True⟩ _ rfl rfl ⟨hd,hlt,hcl,by simp only[hg];exact⟨hgo,hng⟩,.inr (.inl ⟨rfl,trivial,.inr (.inl ⟨c,a,b,x,kindD_pick hk,hx,rfl⟩)⟩)⟩ (fun _ _ _ l h=>⟨l,And.right,h⟩) h
         ·exact h.elim
        ·cases hdt:detOp T o.op with
         | false=>rw[hdt] at h;exact h.elim
         | true =>
          rw[hdt,cond_true] at h
          obtain⟨v,h1,h2⟩:=evG_det hdt h
          exact step ⟨o,d,⟨gs,G,v⟩,none,True⟩ _ rfl rfl ⟨hd,hlt,hcl,by simp only[hg];exact⟨hgo,hng⟩,.inr (.inl ⟨rfl,trivial,.inr (.inr h2)⟩)⟩ (fun _ _ _ l h=>⟨l,And.right,h⟩) h1
        ·exact h.elim
      ·exact h.elim
theorem RecsOK.at_ {own:List Nat} {X:TV→Prop} {ops:Array Oper} {s:St}:∀ {recs:List DR} {ψ:List (Nat×GE)} {i:Nat} {r:DR},RecsOK own X T P N ops s recs ψ→recs[i]?=some r→RecOK own X T P N ops s (recψ (recs.take i) ψ) r
 | [],_,_,_,_,h=>by simp at h
 | x::xs,ψ,0,r,h,hi=>by simp at hi;subst hi;exact h.1
 | x::xs,ψ,i+1,r,h,hi=>by
  simp only[List.take_succ_cons,recψ]
  exact RecsOK.at_ h.2 (by simpa using hi)
omit [Gm] in
theorem recψ_mem:∀ {recs:List DR} {ψ:List (Nat×GE)} {p:Nat×GE},p∈recψ recs ψ↔p∈ψ∨∃ r∈recs,p=(r.d,r.e)
 | [],ψ,p=>by simp[recψ]
 | x::xs,ψ,p=>by
  simp only[recψ,recψ_mem (recs:=xs),List.mem_cons]
  constructor
  ·rintro ((h | h) | ⟨r,h1,h2⟩)
   ·exact .inr ⟨x,.inl rfl,h⟩
   ·exact .inl h
   ·exact .inr ⟨r,.inr h1,h2⟩
  ·rintro (h | ⟨r,(rfl | h1),h2⟩)
   ·exact .inl (.inr h)
   ·exact .inl (.inl h2)
   ·exact .inr ⟨r,h1,h2⟩
omit [Gm] in
theorem look_none {α:Type} {t:Nat}:∀ {l:List (Nat×α)},look t l=none→∀ p∈l,p.1≠t
 | [],_,p,h=>by simp at h
 | (k,v)::r,h,p,hp=>by
  rw[look_cons] at h
  by_cases e:t=k
  ·simp[e] at h
  ·simp only[e,if_false] at h
   rcases List.mem_cons.1 hp with rfl | hp
   ·exact fun e'=>e e'.symm
   ·exact look_none h p hp
omit [Gm] in
theorem clashG_spec {d:Nat}:∀ {ψ:List (Nat×GE)},clashG d ψ=false→∀ p∈ψ,p.1≠d∧∀ q∈p.2.gs,q.1≠d
 | [],_,p,h=>by simp at h
 | (t,e)::r,h,p,hp=>by
  simp only[clashG,Bool.or_eq_false_iff] at h
  rcases List.mem_cons.1 hp with rfl | hp
  ·refine⟨fun e'=>?_,namesG_spec h.1.2⟩
   have h1:=h.1.1
   simp only at e'
   rw[e'] at h1;simp at h1
  ·exact clashG_spec h.2 p hp
end
end
section
section
variable {P:Program} {T:TyTab} {N:Nat} {B0:Nat→Prop} {F0:Nat→Prop} {w0:PW}
def newsD (listed:Nat→Bool):Nat→List DR→List (Nat×AO)
 | _,[]=>[]
 | i,r::rs=>match r.al with
  | some o=>bif listed i then (r.d,o)::newsD listed (i+1) rs else newsD listed (i+1) rs
  | none=>newsD listed (i+1) rs
omit [Gm] in
theorem newsD_mem {L:Nat→Bool}:∀ {rs:List DR} {i:Nat} {p:Nat×AO},p∈newsD L i rs↔∃ j r,rs[j]?=some r∧L (i+j)=true∧r.al=some p.2∧r.d=p.1
 | [],i,p=>by simp[newsD]
 | r::rs,i,p=>by
  have hrec:(∃ j r',rs[j]?=some r'∧L (i+1+j)=true∧r'.al=some p.2∧r'.d=p.1)↔∃ j r',(r::rs)[j+1]?=some r'∧L (i+(j+1))=true∧r'.al=some p.2∧r'.d=p.1:=by
   have e:∀ j,i+1+j=i+(j+1):=fun j=>by omega
   simp only[List.getElem?_cons_succ,e]
  have hsplit:(∃ j r',(r::rs)[j]?=some r'∧L (i+j)=true∧r'.al=some p.2∧r'.d=p.1)↔(L i=true∧r.al=some p.2∧r.d=p.1)∨∃ j r',(r::rs)[j+1]?=some r'∧L (i+(j+1))=true∧r'.al=some p.2∧r'.d=p.1:=by
   constructor
   ·rintro⟨j,r',h1,h2⟩
    cases j with
    | zero=>simp at h1;subst h1;exact .inl h2
    | succ j=>exact .inr ⟨j,r',h1,h2⟩
   ·rintro (h | ⟨j,r',h⟩)
    ·exact⟨0,r,rfl,h⟩
    ·exact⟨j+1,r',h⟩
  rw[hsplit,←hrec]
  simp only[newsD]
  cases ha:r.al with
  | none=>rw[newsD_mem (rs:=rs)];simp
  | some o =>
   simp only[Option.some.injEq]
   cases hl:L i with
   | false=>simp only[cond_false];rw[newsD_mem (rs:=rs)];simp
   | true =>
    simp only[cond_true,List.mem_cons]
    rw[newsD_mem (rs:=rs)]
    constructor
    ·rintro (rfl | h)
     ·exact .inl ⟨trivial,rfl,rfl⟩
     ·exact .inr h
    ·rintro (⟨_,h1,h2⟩ | h)
     ·left;obtain⟨a,b⟩:=p;simp_all
     ·exact .inr h
omit [Gm] in
theorem look_of_mem {α:Type}:∀ {l:List (Nat×α)} {t:Nat} {v:α},(t,v)∈l→(∀ p∈l,p.1=t→p.2=v)→look t l=some v
 | [],t,v,h,_=>by simp at h
 | (k,x)::r,t,v,h,hu=>by
  rw[look_cons]
  by_cases e:t=k
  ·subst e
   simp only[if_true]
   exact congrArg some (hu (t,x) (List.mem_cons_self ..) rfl)
  ·simp only[e,if_false]
   rcases List.mem_cons.1 h with h | h
   ·injection h with h1 h2;exact absurd h1 e
   ·exact look_of_mem h (fun p hp=>hu p (List.mem_cons_of_mem _ hp))
omit [Gm] in
theorem look_append {α:Type} (t:Nat):∀ (l r:List (Nat×α)),look t (l++r)=match look t l with | some v=>some v | none=>look t r
 | [],r=>rfl
 | (k,x)::l,r=>by
  rw[List.cons_append,look_cons,look_cons,look_append t l r]
  by_cases e:t=k <;> simp[e]
theorem Heap.look_eq {σ σ':List (Nat×AO)} {m:Nat→Value} {kk:Nat→Nat} {w:World} (H:Heap B0 F0 w0 σ m kk w) (h:∀ l,look l σ'=look l σ):Heap B0 F0 w0 σ' m kk w:=by
 have hF:∀ b,Fc F0 B0 σ m b↔Fc F0 B0 σ' m b:=fun b=>by simp only[Fc,h]
 have hF':Fc F0 B0 σ' m=Fc F0 B0 σ m:=funext fun b=>propext (hF b).symm
 refine⟨H.base,H.below,H.gm,fun l o hl=>?_,fun l l' o o' hl hl' hne=>?_⟩
 ·rw[h] at hl;rw[hF'];exact H.ob l o hl
 ·rw[h] at hl hl';exact H.dj l l' o o' hl hl' hne
omit [Gm] in
theorem Fc_look {σ σ':List (Nat×AO)} {m:Nat→Value} (h:∀ l,look l σ'=look l σ):Fc F0 B0 σ' m=Fc F0 B0 σ m :=
 funext fun b=>by simp only[Fc,h]
def Entry (F:Nat→Prop) (m:Nat→Value) (kk:Nat→Nat) (a:Act) (w:World) (r:DR):Prop :=
 (HoldsG r.e.gs a∧r.e.G∧r.e.v.rel w F m kk (a.tmps.getD r.d undef))∨(¬ HoldsG r.e.gs a∧a.tmps.getD r.d undef=undef)
structure RD (s:St) (recs:List DR) (L:Nat→Bool) (N:Nat) (B0:Nat→Prop) (F0:Nat→Prop) (w0:PW) (m:Nat→Value) (kk:Nat→Nat) (a:Act) (w:World):Prop where
 H:Heap B0 F0 w0 (newsD L 0 recs++s.σ) m kk w
 ph:∀ t v,look t s.φ=some v→(∀ (j:Nat) (r:DR),recs[j]?=some r→L j=true→r.d≠t)→v.rel w (Fc F0 B0 (newsD L 0 recs++s.σ) m) m kk (a.tmps.getD t undef)
 en:∀ i r,recs[i]?=some r→L i=true→Entry (Fc F0 B0 (newsD L 0 recs++s.σ) m) m kk a w r
 gd:∀ (i:Nat) (r:DR),recs[i]?=some r→L i=true→∀ q∈r.e.gs,(∃ (j:Nat) (r':DR),recs[j]?=some r'∧r'.d=q.1∧L j=true)∨∀ r'∈recs,r'.d≠q.1
 df:a.defers=[]
 sz:a.tmps.size=N
 pn:∀ l,N≤l→1000≤l→m l=w0.pin l∧kk l=w0.pk l
 ax:∀ (i:Nat) (r:DR),recs[i]?=some r→L i=true→r.A
structure Good (own:List Nat) (X:TV→Prop) (T:TyTab) (P:Program) (N:Nat) (ops:Array Oper) (s:St) (recs:List DR):Prop where
 ok:RecsOK own X T P N ops s recs []
 uniq:∀ (i j:Nat) (r r':DR),recs[i]?=some r→recs[j]?=some r'→r.d=r'.d→i=j
 fresh:∀ (i:Nat) (r:DR) (o:AO),recs[i]?=some r→r.al=some o→freeF r.d s.φ=true∧freeS r.d s.σ=true∧∀ (j:Nat) (r':DR),recs[j]?=some r'→j≠i→r'.e.v.free r.d=true
 wait:∀ (i:Nat) (r:DR),recs[i]?=some r→∀ t∈r.o.looksAt ops,∀ (j:Nat) (r':DR),recs[j]?=some r'→r'.d=t→(j<i∧∃ ed∈r.o.after,ed.on=j∧Region.binds .any ed=true)∨(r.o.guard=none∧i<j∧∃ ed∈r'.o.after,ed.on=i∧Region.binds .any ed=true)
omit [Gm] in
theorem newsD_same {L L':Nat→Bool}:∀ {rs:List DR} {i:Nat},(∀ (j:Nat) (r:DR),rs[j]?=some r→r.al≠none→L' (i+j)=L (i+j))→newsD L' i rs=newsD L i rs
 | [],_,_=>rfl
 | r::rs,i,h=>by
  have ih:newsD L' (i+1) rs=newsD L (i+1) rs:=newsD_same fun j r' h1 h2=>by
   have:=h (j+1) r' (by simpa using h1) h2
   have e:i+1+j=i+(j+1):=by omega
   rw[e];exact this
  simp only[newsD,ih]
  cases ha:r.al with
  | none=>rfl
  | some o=>have:=h 0 r rfl (by simp[ha]);simp only[Nat.add_zero] at this;simp only[this]
section
variable {ops:Array Oper} {s:St} {recs:List DR} {own:List Nat} {X:TV→Prop}
omit [Gm] in
theorem ahead_mem {i:Nat} {t:Nat} {e:GE} (h:look t (recψ (recs.take i) [])=some e):∃ (j:Nat) (r:DR),j<i∧recs[j]?=some r∧r.d=t∧r.e=e:=by
 have:=look_mem h
 rw[recψ_mem] at this
 rcases this with h | ⟨r,h1,h2⟩
 ·simp at h
 ·injection h2 with h3 h4
  obtain⟨j,hj⟩:=List.getElem?_of_mem h1
  rw[List.getElem?_take] at hj
  split at hj
  ·rename_i hlt;exact⟨j,r,hlt,hj,h3.symm,h4.symm⟩
  ·cases hj
omit [Gm] in
theorem ahead_none {i:Nat} {t:Nat} (h:look t (recψ (recs.take i) [])=none):∀ (j:Nat) (r:DR),j<i→recs[j]?=some r→r.d≠t:=by
 intro j r hj hr
 refine look_none h (r.d,r.e) ?_
 rw[recψ_mem]
 refine .inr ⟨r,?_,rfl⟩
 refine List.mem_of_getElem? (i:=j) ?_
 rw[List.getElem?_take,if_pos hj];exact hr
variable {L:Nat→Bool} {m:Nat→Value} {kk:Nat→Nat} {a:Act} {w:World}
theorem RD.slot (G:Good own X T P N ops s recs) (R:RD s recs L N B0 F0 w0 m kk a w) {i:Nat} {r:DR} (hi:recs[i]?=some r) (hdone:∀ ed∈r.o.after,Region.binds .any ed=true→L ed.on=true) (hbk:∀ (j:Nat) (r':DR),recs[j]?=some r'→(∃ ed∈r'.o.after,ed.on=i∧Region.binds .any ed=true)→L j=false) {t:Nat} (ht:t∈r.o.looksAt ops) :
  (∀ e,look t (recψ (recs.take i) [])=some e→∃ (j:Nat) (r':DR),recs[j]?=some r'∧r'.d=t∧r'.e=e∧L j=true∧Entry (Fc F0 B0 (newsD L 0 recs++s.σ) m) m kk a w r') ∧
  (look t (recψ (recs.take i) [])=none→(r.o.guard≠none→∀ r'∈recs,r'.d≠t)∧∀ v,look t s.φ=some v→v.rel w (Fc F0 B0 (newsD L 0 recs++s.σ) m) m kk (a.tmps.getD t undef)):=by
 refine⟨fun e he=>?_,fun he=>?_⟩
 ·obtain⟨j,r',hj,hr',hd,hee⟩:=ahead_mem he
  obtain⟨_,ed,hed,hon,hb⟩:=(G.wait i r hi t ht j r' hr' hd).resolve_right (fun h=>by omega)
  have hL:=hdone ed hed hb
  rw[hon] at hL
  exact⟨j,r',hr',hd,hee,hL,R.en j r' hr' hL⟩
 ·refine⟨fun hg r' hr' hd=>?_,fun v hv=>R.ph t v hv (fun j r' hj hLj hd=>?_)⟩
  ·obtain⟨j,hj⟩:=List.getElem?_of_mem hr'
   obtain⟨hlt,_⟩:=(G.wait i r hi t ht j r' hj hd).resolve_right (fun h=>hg h.1)
   exact ahead_none he j r' hlt hj hd
  ·rcases G.wait i r hi t ht j r' hj hd with⟨hlt,_⟩ | ⟨_,_,hw⟩
   ·exact ahead_none he j r' hlt hj hd
   ·rw[hbk j r' hj hw] at hLj;cases hLj
theorem RD.opnd (G:Good own X T P N ops s recs) (R:RD s recs L N B0 F0 w0 m kk a w) {i:Nat} {r:DR} (hi:recs[i]?=some r) (hdone:∀ ed∈r.o.after,Region.binds .any ed=true→L ed.on=true) (hbk:∀ (j:Nat) (r':DR),recs[j]?=some r'→(∃ ed∈r'.o.after,ed.on=i∧Region.binds .any ed=true)→L j=false) {gs:List (Nat×Bool)} (hg:HoldsG gs a) :
  ∀ x∈r.o.op.operands,∀ v,opd (recψ (recs.take i) []) s.φ gs x=some v→v.rel w (Fc F0 B0 (newsD L 0 recs++s.σ) m) m kk (a.eval x):=by
 intro x hx v hv
 cases x with
 | tmp t =>
  have ht:t∈r.o.looksAt ops:=by
   unfold Oper.looksAt
   rw[List.mem_append]
   left
   rw[List.mem_filterMap]
   exact⟨.tmp t,Array.mem_toList_iff.2 hx,rfl⟩
  obtain⟨h1,h2⟩:=R.slot G hi hdone hbk ht
  simp only[opd] at hv
  split at hv
  ·rename_i e he
   obtain⟨j,r',_,hd,hee,_,hE⟩:=h1 e he
   cases hs:sfx e.gs gs with
   | false=>rw[hs] at hv;cases hv
   | true =>
    rw[hs,cond_true] at hv
    injection hv with hv;subst hv
    subst hee
    rcases hE with⟨_,_,h3⟩ | ⟨h3,_⟩
    ·rw[hd] at h3;exact h3
    ·exact absurd (sfx_holds hs hg) h3
  ·rename_i he
   exact (h2 he).2 v hv
 | const c=>simp only[opd] at hv;exact constA_rel hv
 | func f =>
  simp only[opd,Option.some.injEq] at hv;subst hv
  simp only[AV.rel,TV.rel,Act.eval]
  exact⟨[],rfl,by simp[TV.relL]⟩
 | global g=>simp[opd] at hv
noncomputable def lkR (o:Oper) (lk:Operand→Option AV) (x:Operand):Option AV:=by
 classical exact if x∈o.op.operands then lk x else none
omit [Gm] in
theorem lkR_at {o:Oper} {lk:Operand→Option AV} {x:Operand} (h:x∈o.op.operands):lk x=lkR o lk x:=by simp[lkR,h]
omit [Gm] in
theorem lkR_of {o:Oper} {lk:Operand→Option AV} {x:Operand} {v:AV} (h:lkR o lk x=some v):x∈o.op.operands∧lk x=some v:=by
 unfold lkR at h
 split at h
 ·rename_i hx;exact⟨hx,h⟩
 ·cases h
theorem RD.guard (G:Good own X T P N ops s recs) (R:RD s recs L N B0 F0 w0 m kk a w) {i:Nat} {r:DR} (hi:recs[i]?=some r) (hdone:∀ ed∈r.o.after,Region.binds .any ed=true→L ed.on=true) (hbk:∀ (j:Nat) (r':DR),recs[j]?=some r'→(∃ ed∈r'.o.after,ed.on=i∧Region.binds .any ed=true)→L j=false) {j:Nat} {want:Bool} (ho:r.o.guard=some (j,want))
  (h:guardOf ops (recψ (recs.take i) []) s.φ j want=some (r.e.gs,r.e.G)) :
  (Region.wanted r.o (yielded ops a.tmps)=true→HoldsG r.e.gs a∧r.e.G)∧(Region.wanted r.o (yielded ops a.tmps)=false→¬ HoldsG r.e.gs a):=by
 generalize hgs:r.e.gs=gs at h ⊢
 generalize hG:r.e.G=Gp at h ⊢
 unfold guardOf at h
 split at h
 ·rename_i oj hj
  split at h
  ·rename_i g hg
   have ht:g∈r.o.looksAt ops:=by
    unfold Oper.looksAt
    rw[List.mem_append,ho]
    right
    simp[hj,hg]
   obtain⟨s1,s2⟩:=R.slot G hi hdone hbk ht
   have hw:Region.wanted r.o (yielded ops a.tmps)=true↔a.tmps.getD g undef=.bool want:=by
    unfold Region.wanted
    simp only[ho]
    rw[←yielded_iff hj hg]
    simp
   have hnw:Region.wanted r.o (yielded ops a.tmps)=false→a.tmps.getD g undef≠.bool want:=fun h e=>by rw[hw.2 e] at h;cases h
   split at h
   ·rename_i e he
    obtain⟨j',r',_,hd,hee,_,hE⟩:=s1 e he
    subst hee
    split at h
    ·rename_i b hb
     simp only[Option.some.injEq,Prod.mk.injEq] at h
     obtain⟨rfl,rfl⟩:=h
     refine⟨fun h=>?_,fun h hH=>hnw h (hH (g,want) (List.mem_cons_self ..))⟩
     have hval:=hw.1 h
     rcases hE with⟨h1,h2,h3⟩ | ⟨_,h2⟩
     ·rw[hb] at h3
      simp only[AV.rel,TV.rel] at h3
      rw[hd] at h3
      rw[h3.1] at hval
      injection hval with hval
      refine⟨?_,h2,hval⟩
      intro p hp
      rcases List.mem_cons.1 hp with rfl | hp
      ·exact hw.1 h
      ·exact h1 p hp
     ·rw[hd] at h2;rw[h2] at hval;cases hval
    ·cases h
   ·rename_i he
    obtain⟨_,s3⟩:=s2 he
    split at h
    ·rename_i b hb
     simp only[Option.some.injEq,Prod.mk.injEq] at h
     obtain⟨rfl,rfl⟩:=h
     refine⟨fun h=>?_,fun h hH=>hnw h (hH (g,want) (List.mem_cons_self ..))⟩
     have hval:=hw.1 h
     have h3:=s3 _ hb
     simp only[AV.rel,TV.rel] at h3
     rw[h3.1] at hval
     injection hval with hval
     refine⟨?_,hval⟩
     intro p hp
     simp only[List.mem_singleton] at hp
     subst hp;exact hw.1 h
    ·cases h
  ·cases h
 ·cases h
end
end
end
section
section
variable {P:Program} {T:TyTab} {N:Nat} {B0:Nat→Prop} {F0:Nat→Prop} {w0:PW}
variable {ops:Array Oper} {s:St} {recs:List DR} {own:List Nat} {X:TV→Prop} {L:Nat→Bool} {m:Nat→Value} {kk:Nat→Nat} {a:Act} {w:World}
def setL (L:Nat→Bool) (i:Nat):Nat→Bool:=fun j=>if j=i then true else L j
omit [Gm] in
theorem pickV_run {F:Nat→Prop} {o:Oper} {c x y:Operand} (ho:o.op=.pick c x y) {lk:List (Nat×Bool)→Operand→Option AV} {gs:List (Nat×Bool)} (hg:HoldsG gs a)
  (hl:∀ gs',HoldsG gs' a→∀ z∈o.op.operands,∀ v,lk gs' z=some v→v.rel w F m kk (a.eval z)) {r:Bool} (h:pickV lk gs c x y=some r):(execOp a.eval o).run P w=.ok (.value (.bool r)) w:=by
 have mc:c∈o.op.operands:=by rw[ho];simp[Op.operands]
 have mx:x∈o.op.operands:=by rw[ho];simp[Op.operands]
 have my:y∈o.op.operands:=by rw[ho];simp[Op.operands]
 unfold pickV at h
 split at h
 ·rename_i ct p hp
  have hc:=hl gs hg _ mc _ hp
  simp only[AV.rel,TV.rel] at hc
  have hc:=hc.1
  have hgp:HoldsG ((ct,p)::gs) a:=by
   intro q hq
   rcases List.mem_cons.1 hq with rfl | hq
   ·exact hc
   ·exact hg q hq
  have key:∀ {z:Operand} {v:Bool},z∈o.op.operands→lk ((ct,p)::gs) z=some (.t (.v (.bool v)))→a.eval z=.bool v:=by
   intro z v hm hz
   have:=hl _ hgp _ hm _ hz
   simp only[AV.rel,TV.rel] at this
   exact this.1
  have hrun:(execOp a.eval o).run P w=.ok (.value (if p then a.eval x else a.eval y)) w:=by
   simp[execOp,ho,hc,asBool]
  rw[hrun]
  congr 2
  cases hb1:isConstB false y with
  | true =>
   rw[hb1,cond_true] at h
   split at h
   ·rename_i v hv
    injection h with h;subst h
    have hy:=isConstB_spec hb1
    cases p with
    | true=>rw[key mx hv];rfl
    | false=>rw[hy];rfl
   ·cases h
  | false =>
   rw[hb1,cond_false] at h
   cases hb2:isConstB true x with
   | true =>
    rw[hb2,cond_true] at h
    split at h
    ·rename_i v hv
     injection h with h;subst h
     have hx:=isConstB_spec hb2
     cases p with
     | true=>rw[hx];rfl
     | false=>rw[key my hv];rfl
    ·cases h
   | false =>
    rw[hb2,cond_false] at h
    split at h
    ·rename_i v u hv hu
     injection h with h;subst h
     cases p with
     | true=>rw[key mx hv];rfl
     | false=>rw[key my hu];rfl
    ·cases h
 ·cases h
theorem RD.done (G:Good own X T P N ops s recs) (R:RD s recs L N B0 F0 w0 m kk a w) {i:Nat} {r:DR} (hi:recs[i]?=some r) (hL:L i=false)
  (hal:r.al=none) (hA:r.A) (hd:r.d<N) (hself:∀ q∈r.e.gs,q.1≠r.d) (hgd:∀ q∈r.e.gs,(∃ (j:Nat) (r':DR),recs[j]?=some r'∧r'.d=q.1∧L j=true)∨∀ r'∈recs,r'.d≠q.1)
  {y:Value} {w':World} (hb:Below w.heap.size w w')
  (hE:(HoldsG r.e.gs a∧r.e.G∧r.e.v.rel w' (Fc F0 B0 (newsD L 0 recs++s.σ) m) m kk y)∨(¬ HoldsG r.e.gs a∧y=undef)) :
  RD s recs (setL L i) N B0 F0 w0 m kk (a.put (some r.d) y) w':=by
 have hn:newsD (setL L i) 0 recs=newsD L 0 recs:=by
  refine newsD_same fun j r' hj hne=>?_
  simp only[Nat.zero_add,setL]
  by_cases e:j=i
  ·subst e;rw[hi] at hj;injection hj with hj;subst hj;exact absurd hal hne
  ·simp[e]
 have hdsz:r.d<a.tmps.size:=by rw[R.sz];exact hd
 have hget:∀ t,(a.put (some r.d) y).tmps.getD t undef=if t=r.d then y else a.tmps.getD t undef:=fun t=>by simp only[Act.put];exact getD_set hdsz
 have hk:Keeps w (Fc F0 B0 (newsD L 0 recs++s.σ) m) w' (Fc F0 B0 (newsD L 0 recs++s.σ) m):=Keeps.below hb (Nat.le_refl _) (fun _ h _=>h)
 have hmemd:r∈recs:=List.mem_of_getElem? hi
 have hH:∀ gs:List (Nat×Bool),(∀ q∈gs,q.1≠r.d)→(HoldsG gs (a.put (some r.d) y)↔HoldsG gs a):=by
  intro gs hg
  unfold HoldsG
  constructor
  ·intro h p hp
   have:=h p hp
   rw[hget,if_neg (hg p hp)] at this;exact this
  ·intro h p hp
   rw[hget,if_neg (hg p hp)];exact h p hp
 have hgne:∀ (j:Nat) (r':DR),recs[j]?=some r'→L j=true→∀ q∈r'.e.gs,q.1≠r.d:=by
  intro j r' hj hLj q hq he
  rcases R.gd j r' hj hLj q hq with⟨j',r'',h1,h2,h3⟩ | h
  ·have:=G.uniq j' i r'' r h1 hi (h2.trans he)
   subst this;rw[hL] at h3;cases h3
  ·exact h r hmemd he.symm
 refine⟨by rw[hn];exact R.H.grow hb,?_,?_,?_,R.df,by simp[Act.put,R.sz],R.pn,fun j r' hj hLj=>?_⟩
 rotate_left 3
 ·by_cases e:j=i
  ·subst e
   rw[hi] at hj;injection hj with hj;subst hj;exact hA
  ·exact R.ax j r' hj (by simpa [setL,e] using hLj)
 ·intro t v hv hno
  rw[hn,hget,if_neg (fun e=>hno i r hi (by simp[setL]) e.symm)]
  exact AV.rel_same hk _ _ (R.ph t v hv (fun j r' hj hLj=>hno j r' hj (by simp only[setL];split <;> simp[hLj])))
 ·intro j r' hj hLj
  rw[hn]
  by_cases e:j=i
  ·subst e
   rw[hi] at hj;injection hj with hj;subst hj
   unfold Entry
   rw[hH _ hself,hget,if_pos rfl]
   exact hE
  ·have hLj':L j=true:=by simpa [setL,e] using hLj
   have hne:r'.d≠r.d:=fun h=>e (G.uniq j i r' r hj hi h)
   unfold Entry
   rw[hH _ (hgne j r' hj hLj'),hget,if_neg hne]
   rcases R.en j r' hj hLj' with⟨h1,h2,h3⟩ | h1
   ·exact .inl ⟨h1,h2,AV.rel_same hk _ _ h3⟩
   ·exact .inr h1
 ·intro j r' hj hLj q hq
  have up:((∃ (j:Nat) (r':DR),recs[j]?=some r'∧r'.d=q.1∧L j=true)∨∀ r'∈recs,r'.d≠q.1)→(∃ (j:Nat) (r':DR),recs[j]?=some r'∧r'.d=q.1∧setL L i j=true)∨∀ r'∈recs,r'.d≠q.1:=by
   rintro (⟨j',r'',h1,h2,h3⟩ | h)
   ·exact .inl ⟨j',r'',h1,h2,by simp only[setL];split <;> simp[h3]⟩
   ·exact .inr h
  by_cases e:j=i
  ·subst e
   rw[hi] at hj;injection hj with hj;subst hj
   exact up (hgd q hq)
  ·exact up (R.gd j r' hj (by simpa [setL,e] using hLj) q hq)
omit [Gm] in
theorem freeL_spec (l:Nat):∀ {φ:List (Nat×AV)},freeF l φ=true→∀ t v,look t φ=some v→v.free l=true
 | [],_,t,v,h=>by simp[look] at h
 | (k,x)::r,hf,t,v,h=>by
  simp only[freeF,Bool.and_eq_true] at hf
  rw[look_cons] at h
  by_cases e:t=k
  ·simp only[e,if_true,Option.some.injEq] at h;subst h;exact hf.1
  ·simp only[e,if_false] at h;exact freeL_spec l hf.2 t v h
theorem RD.laid (G:Good own X T P N ops s recs) (R:RD s recs L N B0 F0 w0 m kk a w) {i:Nat} {r:DR} (hi:recs[i]?=some r) (hL:L i=false) {t:TypeId} {ti:TI} (hv:r.e.v=.ptr r.d 0)
  (hgs:r.e.gs=[]) (hG:r.e.G) (hal:r.al=some (.var (ti.zero.map .t))) (hA:r.A) (hd:r.d<N) {z:Value} (hz2:∀ w F,TV.relL w F ti.zero z.cells.toList) (hz3:OneAll z.cells.toList)
  (alone:∀ (j:Nat) (r':DR) (o':AO),recs[j]?=some r'→r'.al=some o'→∃ zs:List TV,o'=.var (zs.map .t)) :
  ∃ m' kk',RD s recs (setL L i) N B0 F0 w0 m' kk' (a.put (some r.d) (.pointer (some ⟨w.heap.size,0,none⟩))) (w.alloc (.cells z.cells t)):=by
 obtain⟨f1,f2,f3⟩:=G.fresh i r _ hi hal
 have hmemd:r∈recs:=List.mem_of_getElem? hi
 have hnews:∀ p∈newsD L 0 recs,p.1≠r.d∧∃ zs:List TV,p.2=.var (zs.map .t):=by
  intro p hp
  obtain⟨j,r',h1,h2,h3,h4⟩:=newsD_mem.1 hp
  simp only[Nat.zero_add] at h2
  refine⟨fun e=>?_,alone j r' _ h1 h3⟩
  have:=G.uniq j i r' r h1 hi (h4.trans e)
  subst this;rw[hL] at h2;cases h2
 have hfreeS:∀ (l:List (Nat×AO)),(∀ p∈l,p.1≠r.d∧∃ zs:List TV,p.2=.var (zs.map .t))→freeS r.d (l++s.σ)=true:=by
  intro l
  induction l with
  | nil=>intro _;simpa using f2
  | cons p l ih =>
   intro h
   obtain⟨h1,zs,h2⟩:=h p (List.mem_cons_self ..)
   obtain⟨pk,po⟩:=p
   simp only at h1 h2
   subst h2
   simp only[List.cons_append,freeS,Bool.and_eq_true,Bool.not_eq_true']
   refine⟨⟨?_,?_⟩,ih (fun q hq=>h q (List.mem_cons_of_mem _ hq))⟩
   ·cases hb:Nat.beq pk r.d with
    | true=>exact absurd (Nat.eq_of_beq_eq_true hb) h1
    | false=>rfl
   ·simp only[AO.free]
    have:∀ zs:List TV,AV.freeL r.d (zs.map .t)=true:=by
     intro zs
     induction zs with
     | nil=>rfl
     | cons z zs ih=>simp only[List.map_cons,AV.freeL,AV.free,ih];rfl
    exact this zs
 have hS:=hfreeS _ hnews
 have S0:Sim N B0 F0 w0 ⟨[],newsD L 0 recs++s.σ⟩ m kk a w:=⟨R.H,fun t v h=>by simp[look] at h,R.df,R.sz,R.pn⟩
 obtain⟨H',hk⟩:=heap_new S0 r.d (ti.zero.map .t) z.cells.toList t (relL_map.1 (hz2 _ _)) hz3
 rw[killT] at H' hk
 simp only[killS_free r.d hS] at H' hk
 have e0:z.cells.toList.toArray=z.cells:=by simp
 rw[e0] at H' hk
 have hlook:∀ l,look l (newsD (setL L i) 0 recs++s.σ)=look l ((r.d,.var (ti.zero.map .t))::(newsD L 0 recs++s.σ)):=by
  intro l
  rw[look_append,look_cons,look_append]
  have huni:∀ (L':Nat→Bool),∀ p∈newsD L' 0 recs,∀ q∈newsD L' 0 recs,p.1=q.1→p.2=q.2:=by
   intro L' p hp q hq e
   obtain⟨j1,r1,a1,a2,a3,a4⟩:=newsD_mem.1 hp
   obtain⟨j2,r2,b1,b2,b3,b4⟩:=newsD_mem.1 hq
   have:=G.uniq j1 j2 r1 r2 a1 b1 (by rw[a4,b4,e])
   subst this
   rw[a1] at b1;injection b1 with b1;subst b1
   rw[a3] at b3;exact Option.some.inj b3
  by_cases e:l=r.d
  ·subst e
   simp only[if_true]
   have hin:(r.d,AO.var (ti.zero.map .t))∈newsD (setL L i) 0 recs:=newsD_mem.2 ⟨i,r,hi,by simp[setL],hal,rfl⟩
   rw[look_of_mem hin (fun p hp e=>(huni _ p hp _ hin e))]
  ·simp only[e,if_false]
   have heq:look l (newsD (setL L i) 0 recs)=look l (newsD L 0 recs):=by
    have dir:∀ (L1 L2:Nat→Bool) (o:AO),(∀ j,j≠i→L1 j=L2 j)→look l (newsD L1 0 recs)=some o→look l (newsD L2 0 recs)=some o:=by
     intro L1 L2 o hLL h
     obtain⟨j,r',h1,h2,h3,h4⟩:=newsD_mem.1 (look_mem h)
     have hji:j≠i:=by
      intro e';subst e'
      rw[hi] at h1;injection h1 with h1;subst h1
      exact e h4.symm
     have hin:(l,o)∈newsD L2 0 recs:=newsD_mem.2 ⟨j,r',h1,by rw[←h2];simp only[Nat.zero_add];exact (hLL j hji).symm,h3,h4⟩
     exact look_of_mem hin (fun p hp e=>huni _ p hp _ hin e)
    cases h1:look l (newsD L 0 recs) with
    | some o=>exact dir L (setL L i) o (fun j hj=>by simp[setL,hj]) h1
    | none =>
     cases h2:look l (newsD (setL L i) 0 recs) with
     | none=>rfl
     | some o=>rw[dir (setL L i) L o (fun j hj=>by simp[setL,hj]) h2] at h1;cases h1
   rw[heq]
 have hF:=Fc_look (F0:=F0) (B0:=B0) (m:=upd m r.d (.pointer (some ⟨w.heap.size,0,none⟩))) hlook
 have hdsz:r.d<a.tmps.size:=by rw[R.sz];exact hd
 have hget:∀ t y,(a.put (some r.d) y).tmps.getD t undef=if t=r.d then y else a.tmps.getD t undef:=fun t y=>by simp only[Act.put];exact getD_set hdsz
 have hm:∀ l',l'≠r.d→upd m r.d (.pointer (some ⟨w.heap.size,0,none⟩)) l'=m l'∧upd kk r.d 0 l'=kk l':=fun l' h=>⟨upd_ne _ _ h,upd_ne _ _ h⟩
 have hHd:∀ (y:Value) (gs:List (Nat×Bool)),(∀ q∈gs,q.1≠r.d)→(HoldsG gs (a.put (some r.d) y)↔HoldsG gs a):=by
  intro y gs hg
  unfold HoldsG
  constructor
  ·intro h p hp
   have:=h p hp
   rw[hget,if_neg (hg p hp)] at this;exact this
  ·intro h p hp
   rw[hget,if_neg (hg p hp)];exact h p hp
 refine⟨_,_,⟨H'.look_eq hlook,?_,?_,?_,R.df,by simp[Act.put,R.sz],pn_upd R.pn hd _ _,fun j r' hj hLj=>?_⟩⟩
 rotate_left 3
 ·by_cases e:j=i
  ·subst e
   rw[hi] at hj;injection hj with hj;subst hj;exact hA
  ·exact R.ax j r' hj (by simpa [setL,e] using hLj)
 ·intro t' v hv' hno
  rw[hF,hget,if_neg (fun e=>hno i r hi (by simp[setL]) e.symm)]
  exact AV.rel_keep hk hm v _ (freeL_spec r.d f1 t' v hv') (R.ph t' v hv' (fun j r' hj hLj=>hno j r' hj (by simp only[setL];split <;> simp[hLj])))
 ·intro j r' hj hLj
  rw[hF]
  by_cases e:j=i
  ·subst e
   rw[hi] at hj;injection hj with hj;subst hj
   unfold Entry
   rw[hget,if_pos rfl,hgs,hv]
   refine .inl ⟨fun q hq=>by simp at hq,hG,?_⟩
   simp only[AV.rel]
   exact⟨w.heap.size,upd_same _ _ _,by simp[Addr.add]⟩
  ·have hLj':L j=true:=by simpa [setL,e] using hLj
   have hne:r'.d≠r.d:=fun h=>e (G.uniq j i r' r hj hi h)
   have hgne:∀ q∈r'.e.gs,q.1≠r.d:=by
    intro q hq he
    rcases R.gd j r' hj hLj' q hq with⟨j',r'',h1,h2,h3⟩ | h
    ·have:=G.uniq j' i r'' r h1 hi (h2.trans he)
     subst this;rw[hL] at h3;cases h3
    ·exact h r hmemd he.symm
   unfold Entry
   rw[hHd _ _ hgne,hget,if_neg hne]
   rcases R.en j r' hj hLj' with⟨h1,h2,h3⟩ | h1
   ·exact .inl ⟨h1,h2,AV.rel_keep hk hm _ _ (f3 j r' hj e) h3⟩
   ·exact .inr h1
 ·intro j r' hj hLj q hq
  by_cases e:j=i
  ·subst e
   rw[hi] at hj;injection hj with hj;subst hj
   rw[hgs] at hq;simp at hq
  ·rcases R.gd j r' hj (by simpa [setL,e] using hLj) q hq with⟨j',r'',h1,h2,h3⟩ | h
   ·exact .inl ⟨j',r'',h1,h2,by simp only[setL];split <;> simp[h3]⟩
   ·exact .inr h
end
end
section
section
variable {P:Program} {T:TyTab} {N:Nat} {B0:Nat→Prop} {F0:Nat→Prop} {w0:PW}
variable {ops:Array Oper} {s:St} {recs:List DR} {own:List Nat} {X:TV→Prop} {L:Nat→Bool} {m:Nat→Value} {kk:Nat→Nat} {a:Act} {w:World}
theorem lit_goes (C:Ctx P T) {σ:List (Nat×AO)} (H:Heap B0 F0 w0 σ m kk w) (hdf:a.defers=[]) (hpn:∀ l,a.tmps.size≤l→1000≤l→m l=w0.pin l∧kk l=w0.pk l) {o:Oper} {t:TypeId} {n:Nat} {ps:Array (Nat×Operand)} (ho:o.op=.buildSlice t n ps)
  {lk:Operand→Option AV} (hl:∀ x v,lk x=some v→v.rel w (Fc F0 B0 σ m) m kk (a.eval x)) {v:AV} (h:bsG T t n ps.toList lk (·=v)) :
  ∃ y w',(execOp a.eval o).run P w=.ok (.value y) w'∧Below w.heap.size w w'∧v.rel w' (Fc F0 B0 σ m) m kk y:=by
 let S0:Sim a.tmps.size B0 F0 w0 ⟨[],σ⟩ m kk a w:=⟨H,fun t v h=>by simp[look] at h,hdf,rfl,hpn⟩
 have hsz0:=H.newB
 unfold bsG at h
 split at h
 ·rename_i e sz by' z q ht
  split at h
  ·rename_i ei vs hei hvs
   split at h
   ·rename_i xs hxs
    split at h
    ·rename_i es hes
     cases hb:seqFrom 0 ps.toList&&Nat.beq ps.toList.length n&&allLen ei.size es&&Nat.ble (n*ei.size) 16777216&&Nat.blt 0 ei.size with
     | false=>rw[hb] at h;exact h.elim
     | true =>
      rw[hb,cond_true] at h
      subst h
      obtain⟨cells',us,hrun,hlen,hrel,h1,hcell,hmax,hpos⟩:=lit_run C ht rfl hei ho (relL_allT (lkAll_rel hl _ _ hvs) hxs) hes hb
      have hbel:=below_alloc w (.cells cells' e)
      have hkp:Keeps w (Fc F0 B0 σ m) (w.alloc (.cells cells' e)) (Fc F0 B0 σ m):=Keeps.below hbel (Nat.le_refl _) (fun _ h _=>h)
      refine⟨_,_,hrun,hbel,?_⟩
      simp only[AV.rel,TV.rel]
      refine⟨_,n,us,by rw[hlen],by rw[hlen];exact Nat.le_refl _,hmax,hpos,TV.relR_keep hkp _ _ _ hrel,h1,?_⟩
      refine .inr ⟨_,rfl,⟨.inr (hsz0 _ (Nat.le_refl _)),?_⟩,hcell⟩
      intro l o' hl' e'
      exact absurd (AO.blk_lt (H.ob l o' hl') e').2 (Nat.lt_irrefl _)
    ·exact h.elim
   ·exact h.elim
  ·exact h.elim
 ·exact h.elim
omit [Gm] in
theorem bsG_congr {t:TypeId} {n:Nat} {ps:List (Nat×Operand)} {lk lk':Operand→Option AV} {K:AV→Prop} (h:∀ p∈ps,lk p.2=lk' p.2) (hb:bsG T t n ps lk K):bsG T t n ps lk' K:=by
 have:lkAll lk (ps.map (·.2))=lkAll lk' (ps.map (·.2)):=lkAll_congr (fun x hx=>by
  obtain⟨p,hp,rfl⟩:=List.mem_map.1 hx
  exact h p hp)
 unfold bsG at hb ⊢
 rw[←this];exact hb
theorem RD.step (C:Ctx P T) (G:Good own X T P N ops s recs) (R:RD s recs L N B0 F0 w0 m kk a w) {i:Nat} {r:DR} (hi:recs[i]?=some r) (hL:L i=false) (hdone:∀ ed∈r.o.after,Region.binds .any ed=true→L ed.on=true) (hbk:∀ (j:Nat) (r':DR),recs[j]?=some r'→(∃ ed∈r'.o.after,ed.on=i∧Region.binds .any ed=true)→L j=false)
  {next:Act→World→Prop} {Q:Exit→Act→World→Prop} (hn:∀ a' w' m' kk',RD s recs (setL L i) N B0 F0 w0 m' kk' a' w'→Below w.heap.size w w'→(r.al=none→m'=m∧kk'=kk)→next a' w')
  (hX:∀ e v w',X e→Below w.heap.size w w'→(∀ w F,e.rel w F v)→Q (.panic [{ v:=v,recovered:=false }]) a w') :
  if Region.wanted r.o (yielded ops a.tmps) then r.o.wp P a w next Q else next (a.put r.o.dst undef) w:=by
 have hok:=G.ok.at_ hi
 obtain⟨hdst,hdN,hcl,hgd,hkind⟩:=hok
 have hop:=fun (gs:List (Nat×Bool)) (hg:HoldsG gs a)=>R.opnd G hi hdone hbk hg
 have hσ:∀ l o,look l s.σ=some o→look l (⟨s.φ,newsD L 0 recs++s.σ⟩:St).σ=some o:=by
  intro l o hl
  simp only
  rw[look_append]
  cases hq:look l (newsD L 0 recs) with
  | none=>exact hl
  | some o' =>
   obtain⟨j,r',h1,h2,h3,h4⟩:=newsD_mem.1 (look_mem hq)
   have hf:=(G.fresh j r' _ h1 h3).2.1
   rw[h4] at hf
   have:∀ (σ:List (Nat×AO)),freeS l σ=true→look l σ=none:=by
    intro σ
    induction σ with
    | nil=>intro _;rfl
    | cons p σ ih =>
     obtain⟨k,o⟩:=p
     intro h
     simp only[freeS,Bool.and_eq_true,Bool.not_eq_true'] at h
     rw[look_cons]
     have:l≠k:=by intro e;rw[e] at h;simp at h
     simp only[this,if_false];exact ih h.2
   rw[this s.σ hf] at hl;cases hl
 have hguard:(Region.wanted r.o (yielded ops a.tmps)=true→HoldsG r.e.gs a∧r.e.G)∧(Region.wanted r.o (yielded ops a.tmps)=false→¬ HoldsG r.e.gs a):=by
  cases hg:r.o.guard with
  | none =>
   simp only[hg] at hgd
   have hw:Region.wanted r.o (yielded ops a.tmps)=true:=by simp[Region.wanted,hg]
   refine⟨fun _=>⟨by rw[hgd.1];exact fun q hq=>by simp at hq,by rw[hgd.2];trivial⟩,fun h=>by rw[hw] at h;cases h⟩
  | some p =>
   obtain⟨j,want⟩:=p
   simp only[hg] at hgd
   exact R.guard G hi hdone hbk hg hgd.1
 have hself:∀ q∈r.e.gs,q.1≠r.d:=by
  cases hg:r.o.guard with
  | none=>simp only[hg] at hgd;rw[hgd.1];intro q hq;simp at hq
  | some p=>simp only[hg] at hgd;exact namesG_spec hgd.2
 have hgdone:∀ q∈r.e.gs,(∃ (j:Nat) (r':DR),recs[j]?=some r'∧r'.d=q.1∧L j=true)∨∀ r'∈recs,r'.d≠q.1:=by
  cases hg:r.o.guard with
  | none=>simp only[hg] at hgd;rw[hgd.1];intro q hq;simp at hq
  | some p =>
   obtain⟨j,want⟩:=p
   simp only[hg] at hgd
   have hgo:=hgd.1
   unfold guardOf at hgo
   split at hgo
   ·rename_i oj hj
    split at hgo
    ·rename_i g hgdst
     have ht:g∈r.o.looksAt ops:=by
      unfold Oper.looksAt
      rw[List.mem_append,hg]
      right
      simp[hj,hgdst]
     obtain⟨s1,s2⟩:=R.slot G hi hdone hbk ht
     split at hgo
     ·rename_i e he
      obtain⟨j',r',h1,h2,h3,h4,_⟩:=s1 e he
      split at hgo
      ·simp only[Option.some.injEq,Prod.mk.injEq] at hgo
       rw[←hgo.1]
       intro q hq
       rcases List.mem_cons.1 hq with rfl | hq
       ·exact .inl ⟨j',r',h1,h2,h4⟩
       ·rw[←h3] at hq;exact R.gd j' r' h1 h4 q hq
      ·cases hgo
     ·rename_i he
      split at hgo
      ·simp only[Option.some.injEq,Prod.mk.injEq] at hgo
       rw[←hgo.1]
       intro q hq
       simp only[List.mem_singleton] at hq
       subst hq
       exact .inr ((s2 he).1 (by rw[hg];simp))
      ·cases hgo
    ·cases hgo
   ·cases hgo
 have skip:r.al=none→r.A→Region.wanted r.o (yielded ops a.tmps)=false→next (a.put r.o.dst undef) w:=by
  intro hal hA hw
  rw[hdst]
  exact hn _ _ _ _ (R.done G hi hL hal hA hdN hself hgdone (Below.refl _ _) (.inr ⟨hguard.2 hw,rfl⟩)) (Below.refl _ _) (fun _=>⟨rfl,rfl⟩)
 have fin:r.al=none→r.A→Region.wanted r.o (yielded ops a.tmps)=true→∀ {y:Value} {w':World},Below w.heap.size w w'→r.e.v.rel w' (Fc F0 B0 (newsD L 0 recs++s.σ) m) m kk y→next (a.put r.o.dst y) w':=by
  intro hal hA hw y w' hb hv
  rw[hdst]
  exact hn _ _ _ _ (R.done G hi hL hal hA hdN hself hgdone hb (.inl ⟨(hguard.1 hw).1,(hguard.1 hw).2,hv⟩)) hb (fun _=>⟨rfl,rfl⟩)
 rcases hkind with⟨t,ti,ho,hg,ht,hv,hal,hA⟩ | ⟨hal,hA,hk⟩ | ⟨hal,hg,g,vs,xs,t,hfl,hxs,hent,hsc,hp,hev⟩
 ·have hw:Region.wanted r.o (yielded ops a.tmps)=true:=by simp[Region.wanted,hg]
  rw[if_pos hw]
  simp only[hg] at hgd
  obtain⟨z,hz,hz2,hz3⟩:=C.tok.zero (w:=w) ht
  obtain⟨m',kk',R'⟩:=R.laid G hi hL (t:=t) hv hgd.1 (by rw[hgd.2];trivial) hal hA hdN hz2 hz3 (fun j r' o' hj ho'=>by
   have:=G.ok.at_ hj
   rcases this.2.2.2.2 with⟨_,ti',_,_,_,_,hal',_⟩ | ⟨hal',_⟩ | ⟨hal',_⟩
   ·rw[hal'] at ho';injection ho' with ho';exact⟨_,ho'.symm⟩
   ·rw[hal'] at ho';cases ho'
   ·rw[hal'] at ho';cases ho')
  unfold Oper.wp
  have hrun:(execOp a.eval r.o).run P w=.ok (.value (.pointer (some ⟨w.heap.size,0,none⟩))) (w.alloc (.cells z.cells t)):=by
   simp[execOp,ho,Instr.alloc,hz,newVar,newRow]
  rw[hrun,Oper.upon_value,hdst]
  exact hn _ _ _ _ R' (below_alloc _ _) (fun h=>by rw[hal] at h;cases h)
 ·rcases hk with⟨t,n,ps,ho,hg,hbs⟩ | ⟨c,x,y,b,ho,hp,hv⟩ | hev
  ·have hw:Region.wanted r.o (yielded ops a.tmps)=true:=by simp[Region.wanted,hg]
   rw[if_pos hw]
   have hbs':=bsG_congr (lk':=lkR r.o (opd (recψ (recs.take i) []) s.φ [])) (fun p hp=>lkR_at (by rw[ho];simp only[Op.operands,List.mem_toArray,List.mem_map];exact⟨p,hp,rfl⟩)) hbs
   obtain⟨y,w',hrun,hb,hrel⟩:=lit_goes C R.H R.df (fun l hl=>R.pn l (by rw[←R.sz];exact hl)) ho (fun x v hx=>hop [] (fun q hq=>by simp at hq) x (lkR_of hx).1 v (lkR_of hx).2) hbs'
   unfold Oper.wp
   rw[hrun,Oper.upon_value]
   exact fin hal hA hw hb hrel
  ·split
   ·rename_i hw
    unfold Oper.wp
    rw[pickV_run ho (hguard.1 hw).1 (fun gs' hg'=>hop gs' hg') hp,Oper.upon_value]
    refine fin hal hA hw (Below.refl _ _) ?_
    rw[hv];exact rel_vb
   ·rename_i hw;exact skip hal hA (by simpa using hw)
  ·split
   ·rename_i hw
    have hev':=evG_more (s':=⟨[],newsD L 0 recs++s.σ⟩) hσ (evG_congr (lk':=lkR r.o (opd (recψ (recs.take i) []) s.φ r.e.gs)) (fun x hx=>lkR_at hx) hev)
    have S0:Sim N B0 F0 w0 ⟨[],newsD L 0 recs++s.σ⟩ m kk a w:=⟨R.H,fun t v h=>by simp[look] at h,R.df,R.sz,R.pn⟩
    refine evG_sound C (hguard.1 hw).2 S0 (fun x v hx=>hop _ (hguard.1 hw).1 x (lkR_of hx).1 v (lkR_of hx).2) hev' next Q ?_
    intro v y w' hvv hb hrel
    subst hvv
    exact fin hal hA hw hb hrel
   ·rename_i hw;exact skip hal hA (by simpa using hw)
 ·have hw:Region.wanted r.o (yielded ops a.tmps)=true:=by simp[Region.wanted,hg]
  rw[if_pos hw]
  have S0:Sim N B0 F0 w0 ⟨[],newsD L 0 recs++s.σ⟩ m kk a w:=⟨R.H,fun t v h=>by simp[look] at h,R.df,R.sz,R.pn⟩
  have h0:HoldsG ([]:List (Nat×Bool)) a:=fun q hq=>by simp at hq
  have hxs':=mapO_borrow_more (σ':=newsD L 0 recs++s.σ) hσ 8 _ _ hxs
  have call:∀ (us:List Value),AV.relL w (Fc F0 B0 (newsD L 0 recs++s.σ) m) m kk vs us→(execOp a.eval r.o).run P w=(callFunc g us.toArray).run P w→r.o.wp P a w next Q:=fun us hr hrun =>
   callX_goes S0 hr hxs' hent hsc hp hrun (fun y w' hA hb hv=>fin hal hA hw hb (by rw[hev];exact hv)) (fun e v w' hx hb hv=>hX e v w' hx hb hv)
  unfold flagC at hfl
  split at hfl
  ·rename_i f as ts ho
   have mf:f∈r.o.op.operands:=by rw[ho];simp[Op.operands,Call.operands]
   have mas:∀ x∈as.toList,x∈r.o.op.operands:=fun x hx=>by rw[ho];simp only[Op.operands,Call.operands,Array.mem_append];exact .inr (Array.mem_toList_iff.1 hx)
   have hall:∀ ws,lkAll (opd (recψ (recs.take i) []) s.φ []) as.toList=some ws→AV.relL w (Fc F0 B0 (newsD L 0 recs++s.σ) m) m kk ws (as.toList.map a.eval):=fun ws h=>by
    rw[lkAll_congr (lk':=lkR r.o (opd (recψ (recs.take i) []) s.φ [])) (fun x hx=>lkR_at (mas x hx))] at h
    exact lkAll_rel (fun x v hx=>hop [] h0 x (lkR_of hx).1 v (lkR_of hx).2) _ _ h
   split at hfl
   ·rename_i g' caps ws hf hws
    have hfr:=hop [] h0 f mf _ hf
    simp only[AV.rel,TV.rel] at hfr
    obtain⟨us,hfe,hcr⟩:=hfr
    cases hm:mem (10000+g') own with
    | false=>rw[hm] at hfl;cases hfl
    | true =>
     rw[hm,cond_true] at hfl
     injection hfl with hfl
     injection hfl with h1 h2
     subst h1;subst h2
     refine call _ (AV.relL_append (hall _ hws) (relL_map.1 hcr)) ?_
     simp only[execOp,ho,resolve,hfe,Deferred.ofValue,Sem.run_bind,Sem.run_pure,Result.andThen_ok,invoke]
     congr 2
     simp
   ·rename_i g' caps ws hf hws
    have hfr:=hop [] h0 f mf _ hf
    simp only[AV.rel] at hfr
    obtain⟨us,hfe,hcr⟩:=hfr
    cases hm:mem (10000+g') own with
    | false=>rw[hm] at hfl;cases hfl
    | true =>
     rw[hm,cond_true] at hfl
     injection hfl with hfl
     injection hfl with h1 h2
     subst h1;subst h2
     refine call _ (AV.relL_append (hall _ hws) hcr) ?_
     simp only[execOp,ho,resolve,hfe,Deferred.ofValue,Sem.run_bind,Sem.run_pure,Result.andThen_ok,invoke]
     congr 2
     simp
   ·cases hfl
  ·cases hfl
end
end
section
section
variable {P:Program} {T:TyTab} {N:Nat} {B0:Nat→Prop} {F0:Nat→Prop} {w0:PW}
variable {ops:Array Oper} {s:St} {recs:List DR} {own:List Nat} {X:TV→Prop} {Q:Exit→Act→World→Prop}
omit [Gm] in
theorem getD_tf {listed:Array Bool} {i:Nat} (h:i<listed.size):listed.getD i true=listed.getD i false:=by simp[h]
omit [Gm] in
theorem hasEdge_spec {j:Nat} {o:Oper} (h:hasEdge j o=true):∃ e∈o.after,e.on=j∧Region.binds .any e=true:=by
 unfold hasEdge at h
 rw[List.any_eq_true] at h
 obtain⟨e,h1,h2⟩:=h
 simp only[Bool.and_eq_true] at h2
 exact⟨e,Array.mem_toList_iff.1 h1,Nat.eq_of_beq_eq_true h2.1,h2.2⟩
def Closed (ops:Array Oper) (L:Nat→Bool):Prop:=∀ (i:Nat) (o:Oper),ops[i]?=some o→L i=true→∀ e∈o.after,Region.binds .any e=true→L e.on=true
omit [Gm] in
theorem coverB_spec {j:Nat} {L:Nat→Bool} (hc:Closed ops L):∀ {f:Nat} {o:Oper},coverB ops j f o=true→(∀ e∈o.after,Region.binds .any e=true→L e.on=true)→L j=true
 | 0,o,h,ho=>by
  obtain⟨e,h1,h2,h3⟩:=hasEdge_spec h
  rw[←h2];exact ho e h1 h3
 | f+1,o,h,ho=>by
  simp only[coverB,Bool.or_eq_true,List.any_eq_true,Bool.and_eq_true] at h
  rcases h with h | ⟨e,h1,h2,h3⟩
  ·obtain⟨e,h1,h2,h3⟩:=hasEdge_spec h
   rw[←h2];exact ho e h1 h3
  ·split at h3
   ·rename_i o' ho'
    exact coverB_spec hc h3 (hc e.on o' ho' (ho e (Array.mem_toList_iff.1 h1) h2))
   ·cases h3
structure DrawOK (h:Nat) (ops:Array Oper) (n:Nat):Prop where
 back:∀ (i:Nat) (o:Oper),ops[i]?=some o→∀ e∈o.after,Region.binds .any e=true→e.on<i
 pre:∀ (i:Nat) (o:Oper),ops[i]?=some o→i<n→∀ (j:Nat) (oj:Oper) (t:Tmp),j<n→ops[j]?=some oj→oj.dst=some t→t∈o.looksAt ops→(∃ e∈o.after,e.on=j∧Region.binds .any e=true)∨(o.guard=none∧i<j∧∃ e∈oj.after,e.on=i∧Region.binds .any e=true)
 post:∀ (i:Nat) (o:Oper),ops[i]?=some o→n<i→∃ e∈o.after,e.on=i-1∧Region.binds .any e=true
 turn:∀ (o:Oper),ops[n]?=some o→∀ j,h≤j→j<n→∀ L,Closed ops L→(∀ e∈o.after,Region.binds .any e=true→L e.on=true)→L j=true
omit [Gm] in
theorem drawOK_spec {hd n:Nat} (h:drawOK hd ops n=true):DrawOK hd ops n:=by
 unfold drawOK at h
 simp only[List.all_eq_true] at h
 have key:∀ (i:Nat) (o:Oper),ops[i]?=some o→(∀ e∈o.after,Region.binds .any e=true→e.on<i)∧(if i<n then ∀ j,j<n→(o.looksAt ops).any (fun t=>dstIs ops j t)=true→(hasEdge j o||(o.guard.isNone&&Nat.blt i j&&(match ops[j]? with | some oj=>hasEdge i oj | none=>false)))=true else if i=n then ∀ j,hd≤j→j<n→coverB ops j 12 o=true else hasEdge (i-1) o=true):=by
  intro i o ho
  have hi:i<ops.size:=(Array.getElem?_eq_some_iff.1 ho).1
  have h1:=h i (List.mem_range.2 hi)
  simp only[ho,Bool.and_eq_true,List.all_eq_true,Bool.or_eq_true,Bool.not_eq_true'] at h1
  refine⟨fun e he hb=>?_,?_⟩
  ·rcases h1.1 e (Array.mem_toList_iff.2 he) with h2 | h2
   ·rw[hb] at h2;cases h2
   ·exact Nat.le_of_ble_eq_true h2
  ·have h2:=h1.2
   by_cases hn:i<n
   ·rw[if_pos hn]
    have hb:Nat.blt i n=true:=Nat.ble_eq_true_of_le hn
    rw[hb,cond_true] at h2
    simp only[List.all_eq_true,Bool.or_eq_true,Bool.not_eq_true'] at h2
    intro j hj hany
    rcases h2 j (List.mem_range.2 hj) with h3 | h3
    ·rw[hany] at h3;cases h3
    ·rw[Bool.or_eq_true];exact h3
   ·rw[if_neg hn]
    have hb:Nat.blt i n=false:=by
     cases hq:Nat.blt i n with
     | true=>exact absurd (Nat.le_of_ble_eq_true hq) hn
     | false=>rfl
    rw[hb,cond_false] at h2
    by_cases he:i=n
    ·rw[if_pos he]
     have hb:Nat.beq i n=true:=by rw[he];exact Nat.beq_refl n
     rw[hb,cond_true] at h2
     simp only[List.all_eq_true,Bool.or_eq_true] at h2
     intro j hdj hj
     rcases h2 j (List.mem_range.2 hj) with h3 | h3
     ·have:=Nat.le_of_ble_eq_true h3;omega
     ·exact h3
    ·rw[if_neg he]
     have hb:Nat.beq i n=false:=by
      cases hq:Nat.beq i n with
      | true=>exact absurd (Nat.eq_of_beq_eq_true hq) he
      | false=>rfl
     rw[hb,cond_false] at h2
     exact h2
 refine⟨fun i o ho=>(key i o ho).1,?_,?_,?_⟩
 ·intro i o ho hi j oj t hj hoj hd ht
  have:=(key i o ho).2
  rw[if_pos hi] at this
  have hany:(o.looksAt ops).any (fun t=>dstIs ops j t)=true:=by
   rw[List.any_eq_true]
   exact⟨t,ht,by simp[dstIs,hoj,hd]⟩
  have h3:=this j hj hany
  rw[Bool.or_eq_true] at h3
  rcases h3 with h3 | h3
  ·exact .inl (hasEdge_spec h3)
  ·rw[Bool.and_eq_true,Bool.and_eq_true,hoj] at h3
   exact .inr ⟨by simpa using h3.1.1,Nat.le_of_ble_eq_true h3.1.2,hasEdge_spec h3.2⟩
 ·intro i o ho hi
  have:=(key i o ho).2
  rw[if_neg (by omega),if_neg (by omega)] at this
  exact hasEdge_spec this
 ·intro o ho j hdj hj L hc hL
  have:=(key n o ho).2
  rw[if_neg (by omega),if_pos rfl] at this
  exact coverB_spec hc (this j hdj hj) hL
omit [Gm] in
theorem wpAny_chainB {n:Nat} (back:∀ (i:Nat) (o:Oper),ops[i]?=some o→∀ e∈o.after,Region.binds .any e=true→e.on<i) (post:∀ (i:Nat) (o:Oper),ops[i]?=some o→n<i→∃ e∈o.after,e.on=i-1∧Region.binds .any e=true):∀ (l:List Oper) (k:Nat) (listed:Array Bool) (a:Act) (w:World),n≤k→k≤ops.size→(∀ j,l[j]?=ops[k+j]?)→listed.size=ops.size →
  (∀ i,i<ops.size→(listed.getD i false=true↔i<k))→wpList P ops Q l a w→wpAny P .any ops Q l.length listed a w
 | [],k,listed,a,w,hn,hk,hl,hsz,hL,h=>by
  have hk':ops.size≤k:=by
   have:=hl 0
   simp only[List.getElem?_nil,Nat.add_zero] at this
   rcases Nat.lt_or_ge k ops.size with h' | h'
   ·rw[Array.getElem?_eq_getElem h'] at this;cases this
   ·exact h'
  refine⟨?_,h⟩
  refine List.eq_nil_iff_forall_not_mem.2 fun i hi=>?_
  obtain⟨h1,o,ho,_⟩:=mem_ready.1 hi
  have hi':i<ops.size:=(Array.getElem?_eq_some_iff.1 ho).1
  rw[getD_tf (by omega)] at h1
  rw[(hL i hi').2 (by omega)] at h1;cases h1
 | o::os,k,listed,a,w,hn,hk,hl,hsz,hL,h=>by
  have ho:ops[k]?=some o:=by have:=hl 0;simpa using this.symm
  have hklt:k<ops.size:=(Array.getElem?_eq_some_iff.1 ho).1
  have only:∀ i∈Region.ready .any ops listed,i=k:=by
   intro i hi
   obtain⟨h1,oi,hoi,hall⟩:=mem_ready.1 hi
   have hi':i<ops.size:=(Array.getElem?_eq_some_iff.1 hoi).1
   rw[getD_tf (by omega)] at h1
   have hge:k≤i:=by
    rcases Nat.lt_or_ge i k with h' | h'
    ·rw[(hL i hi').2 h'] at h1;cases h1
    ·exact h'
   rcases Nat.lt_or_ge k i with h' | h'
   ·obtain⟨e,he,hon,hb⟩:=post i oi hoi (by omega)
    have:=hall e he hb
    rw[hon] at this
    have:=(hL (i-1) (by omega)).1 this
    omega
   ·omega
  have hready:k∈Region.ready .any ops listed:=by
   refine mem_ready.2 ⟨?_,o,ho,fun e he hb=>?_⟩
   ·rw[getD_tf (by omega)]
    cases hq:listed.getD k false with
    | true=>have:=(hL k hklt).1 hq;omega
    | false=>rfl
   ·have:=back k o ho e he hb
    exact (hL e.on (by omega)).2 this
  refine⟨fun h0=>by rw[h0] at hready;simp at hready,fun i hi=>?_⟩
  have:=only i hi;subst this
  have ih:∀ a w,wpList P ops Q os a w→wpAny P .any ops Q os.length (listed.setIfInBounds i true) a w:=fun a w h =>
   wpAny_chainB back post os (i+1) _ a w (by omega) (by omega) (fun j=>by have:=hl (j+1);simp only[List.getElem?_cons_succ] at this;rw[this];congr 1;omega) (by simp[hsz]) (fun i' hi'=>by
    by_cases e:i'=i
    ·subst e;simp[hsz,hi']
    ·rw[getD_set_ne false (Ne.symm e),hL i' hi'];omega) h
  unfold wpOp
  simp only[ho]
  unfold wpList at h
  split
  ·rename_i hw
   rw[if_pos hw] at h
   rcases h with h | h
   ·exact .inl (Oper.wp_mono ih h)
   ·exact .inr h
  ·rename_i hw
   rw[if_neg hw] at h
   exact ih _ _ h
omit [Gm] in
theorem wpAny_chain {hd n:Nat} (D:DrawOK hd ops n) (l:List Oper) (k:Nat) (listed:Array Bool) (a:Act) (w:World) (h1:n≤k) (h2:k≤ops.size) (h3:∀ j,l[j]?=ops[k+j]?) (h4:listed.size=ops.size)
  (h5:∀ i,i<ops.size→(listed.getD i false=true↔i<k)) (h6:wpList P ops Q l a w):wpAny P .any ops Q l.length listed a w :=
 wpAny_chainB D.back D.post l k listed a w h1 h2 h3 h4 h5 h6
def left (n:Nat) (L:Nat→Bool):Nat:=((List.range n).filter fun i=>!L i).length
omit [Gm] in
theorem left_set {L:Nat→Bool} {i:Nat} (hL:L i=false):∀ {n:Nat},left n (setL L i)+(if i<n then 1 else 0)=left n L
 | 0=>by simp[left]
 | n+1=>by
  have ih:=left_set hL (n:=n)
  unfold left at ih ⊢
  rw[List.range_succ,List.filter_append,List.filter_append,List.length_append,List.length_append]
  by_cases e:n=i
  ·subst e
   have h1:¬ n<n:=by omega
   rw[if_neg h1] at ih
   have h2:n<n+1:=by omega
   rw[if_pos h2]
   simp[setL,hL] at ih ⊢
   omega
  ·have h1:(i<n+1)=(i<n):=by simp only[eq_iff_iff];omega
   simp only[h1]
   have h2:setL L i n=L n:=by simp[setL,e]
   simp only[List.filter_cons,List.filter_nil,h2]
   omega
omit [Gm] in
theorem left_zero {L:Nat→Bool}:∀ {n:Nat},left n L=0→∀ i,i<n→L i=true
 | 0,_,i,h=>by omega
 | n+1,h,i,hi=>by
  unfold left at h
  rw[List.range_succ,List.filter_append,List.length_append] at h
  have h1:left n L=0:=by unfold left;omega
  rcases Nat.lt_or_ge i n with h' | h'
  ·exact left_zero h1 i h'
  ·have:i=n:=by omega
   subst this
   cases hq:L i with
   | true=>rfl
   | false=>simp[hq] at h
theorem wpAny_pre (C:Ctx P T) {hd n:Nat} (D:DrawOK hd ops n) (G:Good own X T P N ops s recs) (hrec:recs.length=n) (hop:∀ (i:Nat) (r:DR),recs[i]?=some r→ops[i]?=some r.o) (rest:List Oper) (hrest:∀ j,rest[j]?=ops[n+j]?) (hnle:n≤ops.size)
  (fin:∀ (L:Nat→Bool) m kk a w,(∀ i,i<n→L i=true)→RD s recs L N B0 F0 w0 m kk a w→wpList P ops Q rest a w)
  (hX:∀ (L:Nat→Bool) m kk a w w' e v,RD s recs L N B0 F0 w0 m kk a w→X e→Below w.heap.size w w'→(∀ w F,e.rel w F v)→Q (.panic [{ v:=v,recovered:=false }]) a w') :
  ∀ (fuel:Nat) (listed:Array Bool) (m:Nat→Value) (kk:Nat→Nat) (a:Act) (w:World),listed.size=ops.size→(∀ k,n≤k→listed.getD k false=false)→(∀ k,k<hd→listed.getD k false=true)→Closed ops (fun i=>listed.getD i false)→fuel=left n (fun i=>listed.getD i false)+rest.length →
   RD s recs (fun i=>listed.getD i false) N B0 F0 w0 m kk a w→wpAny P .any ops Q fuel listed a w:=by
 intro fuel
 induction fuel with
 | zero =>
  intro listed m kk a w hsz hpost hhd hcl hf R
  have h0:left n (fun i=>listed.getD i false)=0:=by omega
  have hr:rest=[]:=List.eq_nil_of_length_eq_zero (by omega)
  have hall:=left_zero h0
  have:=wpAny_chain (P:=P) D rest n listed a w (Nat.le_refl _) hnle hrest hsz (fun i hi=>⟨fun h=>(Nat.lt_or_ge i n).elim id (fun h'=>by rw[hpost i h'] at h;cases h),fun h=>hall i h⟩) (fin _ m kk a w hall R)
  rw[hr] at this;exact this
 | succ fuel ih =>
  intro listed m kk a w hsz hpost hhd hcl hf R
  rcases Nat.eq_zero_or_pos (left n (fun i=>listed.getD i false)) with h0 | hpos
  ·have hall:=left_zero h0
   have:=wpAny_chain (P:=P) D rest n listed a w (Nat.le_refl _) hnle hrest hsz (fun i hi=>⟨fun h=>(Nat.lt_or_ge i n).elim id (fun h'=>by rw[hpost i h'] at h;cases h),fun h=>hall i h⟩) (fin _ m kk a w hall R)
   have e:rest.length=fuel+1:=by omega
   rw[e] at this;exact this
  ·
   have hex:∃ i,i<n∧listed.getD i false=false:=by
    apply Classical.byContradiction
    intro hno
    have:left n (fun i=>listed.getD i false)=0:=by
     unfold left
     rw[List.filter_eq_nil_iff.2]
     ·rfl
     ·intro i hi
      rw[List.mem_range] at hi
      cases hq:listed.getD i false with
      | true=>simpa using hq
      | false=>exact absurd ⟨i,hi,hq⟩ hno
    omega
   obtain⟨i0,⟨hi0,hL0⟩,hmin⟩:=least hex
   have only:∀ i∈Region.ready .any ops listed,i<n:=by
    intro i hi
    obtain⟨h1,oi,hoi,hall⟩:=mem_ready.1 hi
    rcases Nat.lt_or_ge i n with h' | h'
    ·exact h'
    ·rcases Nat.lt_or_ge n i with h'' | h''
     ·obtain⟨e,he,hon,hb⟩:=D.post i oi hoi h''
      have:=hall e he hb
      rw[hon,hpost (i-1) (by omega)] at this;cases this
     ·have e:i=n:=by omega
      subst e
      have hd0:hd≤i0:=by
       rcases Nat.lt_or_ge i0 hd with h' | h'
       ·rw[hhd i0 h'] at hL0;cases hL0
       ·exact h'
      have:=D.turn oi hoi i0 hd0 hi0 _ hcl hall
      rw[hL0] at this;cases this
   have hready:i0∈Region.ready .any ops listed:=by
    have hlt:i0<ops.size:=by omega
    refine mem_ready.2 ⟨by rw[getD_tf (by omega)];exact hL0,ops[i0],Array.getElem?_eq_getElem hlt,fun e he hb=>?_⟩
    have hb':=D.back i0 _ (Array.getElem?_eq_getElem hlt) e he hb
    cases hq:listed.getD e.on false with
    | true=>rfl
    | false=>have:=hmin e.on ⟨by omega,hq⟩;omega
   refine⟨fun h0=>by rw[h0] at hready;simp at hready,fun i hi=>?_⟩
   have hin:=only i hi
   obtain⟨h1,oi,hoi,hall⟩:=mem_ready.1 hi
   have hlt:i<ops.size:=by omega
   rw[getD_tf (by omega)] at h1
   obtain⟨r,hr⟩:∃ r,recs[i]?=some r:=⟨recs[i]'(by omega),List.getElem?_eq_getElem (by omega)⟩
   have hro:=hop i r hr
   have heo:oi=r.o:=by rw[hoi] at hro;exact Option.some.inj hro
   subst heo
   have hset:(fun j=>(listed.setIfInBounds i true).getD j false)=setL (fun j=>listed.getD j false) i:=by
    funext j
    by_cases e:j=i
    ·subst e;simp[setL,hsz,hlt]
    ·rw[getD_set_ne false (Ne.symm e)];simp[setL,e]
   have hbk:∀ (j:Nat) (r':DR),recs[j]?=some r'→(∃ ed∈r'.o.after,ed.on=i∧Region.binds .any ed=true)→listed.getD j false=false:=by
    rintro j r' hj ⟨ed,hed,hon,hb⟩
    cases hq:listed.getD j false with
    | false=>rfl
    | true =>
     have:=hcl j r'.o (hop j r' hj) hq ed hed hb
     rw[hon] at this
     exact absurd (h1.symm.trans this) (by simp)
   have hstep:=R.step C G hr h1 hall hbk (next:=wpAny P .any ops Q fuel (listed.setIfInBounds i true)) (Q:=Q) (fun a' w' m' kk' R' _ _=>by
    refine ih _ m' kk' a' w' (by simp[hsz]) ?_ ?_ ?_ ?_ (by rw[hset];exact R')
    ·intro k hk
     rw[getD_set_ne false (by omega)];exact hpost k hk
    ·intro k hk
     exact getD_set_true (hhd k hk)
    ·rw[hset]
     intro i' o' ho' hL' e' he' hb'
     simp only[setL] at hL' ⊢
     by_cases e1:e'.on=i
     ·simp[e1]
     ·rw[if_neg e1]
      by_cases e2:i'=i
      ·subst e2
       rw[hoi] at ho';injection ho' with ho';subst ho'
       exact hall e' he' hb'
      ·rw[if_neg e2] at hL'
       exact hcl i' o' ho' hL' e' he' hb'
    ·rw[hset]
     have:=left_set (L:=fun j=>listed.getD j false) h1 (n:=n)
     rw[if_pos hin] at this
     omega) (fun e v w' hx hb hv=>hX _ _ _ _ _ w' e v R hx hb hv)
   unfold wpOp
   simp only[hoi]
   split
   ·rename_i hw;rw[if_pos hw] at hstep;exact .inl hstep
   ·rename_i hw;rw[if_neg hw] at hstep;exact hstep
end
end
section
section
variable {P:Program} {T:TyTab} {N:Nat} {B0:Nat→Prop} {F0:Nat→Prop} {w0:PW}
variable {ops:Array Oper} {s:St} {recs:List DR} {own:List Nat} {X:TV→Prop}
omit [Gm] in
theorem toF_look {t:Nat} {v:AV}:∀ {ψ:List (Nat×GE)} {φ:List (Nat×AV)},look t (toF ψ φ)=some v→(∃ e,look t ψ=some e∧((e.gs=[]∧v=e.v)∨v=.junk))∨(look t ψ=none∧look t φ=some v)
 | [],φ,h=>.inr ⟨rfl,h⟩
 | (d,⟨[],G,x⟩)::r,φ,h=>by
  simp only[toF] at h
  rw[look_cons] at h ⊢
  by_cases e:t=d
  ·simp only[e,if_true] at h ⊢
   injection h with h
   exact .inl ⟨_,rfl,.inl ⟨rfl,h.symm⟩⟩
  ·simp only[e,if_false] at h ⊢
   exact toF_look h
 | (d,⟨g::gs,G,x⟩)::r,φ,h=>by
  simp only[toF] at h
  rw[look_cons] at h ⊢
  by_cases e:t=d
  ·simp only[e,if_true] at h ⊢
   injection h with h
   exact .inl ⟨_,rfl,.inr h.symm⟩
  ·simp only[e,if_false] at h ⊢
   exact toF_look h
omit [Gm] in
theorem recν_mem:∀ {recs:List DR} {ν:List (Nat×AO)} {p:Nat×AO},p∈recν recs ν↔p∈ν∨∃ r∈recs,r.al=some p.2∧r.d=p.1
 | [],ν,p=>by simp[recν]
 | x::xs,ν,p=>by
  simp only[recν,recν_mem (recs:=xs)]
  cases ha:x.al with
  | none =>
   simp only[List.mem_cons]
   constructor
   ·rintro (h | ⟨r,h1,h2⟩)
    ·exact .inl h
    ·exact .inr ⟨r,.inr h1,h2⟩
   ·rintro (h | ⟨r,(rfl | h1),h2⟩)
    ·exact .inl h
    ·rw[ha] at h2;cases h2.1
    ·exact .inr ⟨r,h1,h2⟩
  | some o =>
   simp only[List.mem_cons]
   constructor
   ·rintro ((rfl | h) | ⟨r,h1,h2⟩)
    ·exact .inr ⟨x,.inl rfl,ha,rfl⟩
    ·exact .inl h
    ·exact .inr ⟨r,.inr h1,h2⟩
   ·rintro (h | ⟨r,(rfl | h1),h2,h3⟩)
    ·exact .inl (.inr h)
    ·left;left
     rw[ha] at h2;injection h2 with h2
     obtain⟨a,b⟩:=p;simp_all
    ·exact .inr ⟨r,h1,h2,h3⟩
omit [Gm] in
theorem freeD_spec {d:Nat}:∀ {ψ:List (Nat×GE)},freeD d ψ=true→∀ p∈ψ,p.1=d∨p.2.v.free d=true
 | [],_,p,h=>by simp at h
 | (t,e)::r,h,p,hp=>by
  simp only[freeD,Bool.and_eq_true,Bool.or_eq_true] at h
  rcases List.mem_cons.1 hp with rfl | hp
  ·exact h.1.imp (fun h=>Nat.eq_of_beq_eq_true h) id
  ·exact freeD_spec h.2 p hp
omit [Gm] in
theorem freshD_spec {ψ:List (Nat×GE)}:∀ {ν:List (Nat×AO)},freshD s ψ ν=true→∀ p∈ν,freeF p.1 s.φ=true∧freeS p.1 s.σ=true∧freeD p.1 ψ=true
 | [],_,p,h=>by simp at h
 | (d,o)::r,h,p,hp=>by
  simp only[freshD,Bool.and_eq_true] at h
  rcases List.mem_cons.1 hp with rfl | hp
  ·exact⟨h.1.1.1,h.1.1.2,h.1.2⟩
  ·exact freshD_spec h.2 p hp
theorem recs_uniq (hok:RecsOK own X T P N ops s recs []):∀ (i j:Nat) (r r':DR),recs[i]?=some r→recs[j]?=some r'→r.d=r'.d→i=j:=by
 have key:∀ (i j:Nat) (r r':DR),i<j→recs[i]?=some r→recs[j]?=some r'→r.d≠r'.d:=by
  intro i j r r' hij hi hj
  have:=(hok.at_ hj).2.2.1
  refine (clashG_spec this (r.d,r.e) ?_).1
  rw[recψ_mem]
  refine .inr ⟨r,List.mem_of_getElem? (i:=i) ?_,rfl⟩
  rw[List.getElem?_take,if_pos hij];exact hi
 intro i j r r' hi hj he
 rcases Nat.lt_trichotomy i j with h | h | h
 ·exact absurd he (key i j r r' h hi hj)
 ·exact h
 ·exact absurd he.symm (key j i r' r h hj hi)
omit [Gm] in
theorem newsD_none {L:Nat→Bool} (h:∀ i,L i=false):∀ (i:Nat) (rs:List DR),newsD L i rs=[]
 | _,[]=>rfl
 | i,r::rs=>by
  simp only[newsD,h,newsD_none h (i+1) rs]
  cases r.al <;> rfl
theorem begin_draw (C:Ctx P T) {z:Nat} {own:List Nat} {X:TV→Prop} {Q:Exit→St→Prop} {hn:Nat} {recs:List DR} {rest:List Oper} {m:Nat→Value} {kk:Nat→Nat} {a:Act} {w:World} {B0 F0:Nat→Prop} {w0:PW}
  (D:DrawOK hn ops recs.length) (G:Good own X T P N ops s recs) (hop:∀ (i:Nat) (r:DR),recs[i]?=some r→ops[i]?=some r.o) (hrest:∀ j,rest[j]?=ops[recs.length+j]?) (hsize:ops.size=recs.length+rest.length)
  (hhn:hn=0∨hn=1∧headOK ops=true) (hL0:∀ i,(Array.replicate ops.size false).getD i false=false) (hleft0:left recs.length (fun i=>(Array.replicate ops.size false).getD i false)=recs.length)
  (hcl0:Closed ops (fun i=>(Array.replicate ops.size false).getD i false)) (start:RD s recs (fun i=>(Array.replicate ops.size false).getD i false) N B0 F0 w0 m kk a w)
  (hlen:recs.length=preLen own z ops.toList)
  (main:∀ (fuel:Nat) (listed:Array Bool) (m:Nat→Value) (kk:Nat→Nat) (a:Act) (w:World),listed.size=ops.size→(∀ k,recs.length≤k→listed.getD k false=false)→(∀ k,k<hn→listed.getD k false=true)→Closed ops (fun i=>listed.getD i false) →
   fuel=left recs.length (fun i=>listed.getD i false)+rest.length→RD s recs (fun i=>listed.getD i false) N B0 F0 w0 m kk a w→wpAny P .any ops (Post N B0 F0 w0 Q) fuel listed a w) :
  wpAny P .any ops (Post N B0 F0 w0 Q) ops.size (Array.replicate ops.size false) a w:=by
 rcases hhn with rfl | ⟨rfl,hh⟩
 ·exact main ops.size _ m kk a w (by simp) (fun k _=>hL0 k) (fun k hk=>absurd hk (Nat.not_lt_zero k)) hcl0 (by omega) start
 ·unfold headOK at hh
  split at hh
  ·rename_i o ho
   simp only[Bool.and_eq_true,Option.isNone_iff_eq_none] at hh
   obtain⟨⟨⟨hmv,hg⟩,hns⟩,hfree⟩:=hh
   obtain⟨x,hx⟩:∃ x,o.op=.move x:=by
    unfold isMoveB at hmv
    split at hmv
    ·exact⟨_,by assumption⟩
    ·cases hmv
   have h0lt:0<ops.size:=(Array.getElem?_eq_some_iff.1 ho).1
   by_cases hrec:recs.length=0
   ·
    exfalso
    have htl:ops.toList[0]?=some o:=by simpa using ho
    cases hops:ops.toList with
    | nil=>rw[hops] at htl;cases htl
    | cons o' tl =>
     rw[hops] at htl;simp at htl;subst htl
     rw[hops] at hlen
     have hst:stopD own z o'.op=false:=by rw[hx];rfl
     simp only[preLen,hst,cond_false] at hlen
     omega
   ·obtain⟨r,hr⟩:∃ r,recs[0]?=some r:=⟨recs[0]'(by omega),List.getElem?_eq_getElem (by omega)⟩
    have hro:=hop 0 r hr
    rw[ho] at hro;injection hro with hro;subst hro
    have hrun:∀ w,(execOp a.eval r.o).run P w=.ok (.value (a.eval x)) w:=fun w=>by simp[execOp,hx]
    have hback:∀ e∈r.o.after,Region.binds .any e=true→False:=fun e he hb=>by have:=D.back 0 r.o ho e he hb;omega
    have hwant:Region.wanted r.o (yielded ops a.tmps)=true:=by simp[Region.wanted,hg]
    obtain⟨f,hf⟩:∃ f,ops.size=f+1:=⟨ops.size-1,by omega⟩
    have hset:(fun j=>((Array.replicate ops.size false).setIfInBounds 0 true).getD j false)=setL (fun j=>(Array.replicate ops.size false).getD j false) 0:=by
     funext j
     by_cases e:j=0
     ·subst e;simp[setL,h0lt]
     ·rw[getD_set_ne false (Ne.symm e)];simp[setL,e]
    have hstep:=RD.step C G start hr (hL0 0) (fun e he hb=>(hback e he hb).elim) (fun j r' _ _=>hL0 j)
     (next:=fun a' w'=>∃ m' kk',RD s recs (setL (fun i=>(Array.replicate ops.size false).getD i false) 0) N B0 F0 w0 m' kk' a' w') (Q:=fun _ _ _=>True) (fun a' w' m' kk' R' _ _=>⟨m',kk',R'⟩) (fun _ _ _ _ _ _=>trivial)
    rw[if_pos hwant] at hstep
    unfold Oper.wp at hstep
    rw[hrun,Oper.upon_value] at hstep
    obtain⟨m',kk',R'⟩:=hstep
    have key:=main f ((Array.replicate ops.size false).setIfInBounds 0 true) m' kk' (a.put r.o.dst (a.eval x)) w (by simp) (fun k hk=>by rw[getD_set_ne false (by omega)];exact hL0 k) (fun k hk=>by
      have:k=0:=by omega
      subst this;simp[h0lt]) (by
      rw[hset]
      intro i' o' ho' hL' e' he' hb'
      simp only[setL] at hL' ⊢
      by_cases e2:i'=0
      ·subst e2
       rw[ho] at ho';injection ho' with ho';subst ho'
       exact (hback e' he' hb').elim
      ·rw[if_neg e2,hL0] at hL';cases hL') (by
      rw[hset]
      have:=left_set (L:=fun j=>(Array.replicate ops.size false).getD j false) (hL0 0) (n:=recs.length)
      rw[if_pos (by omega)] at this
      omega) (by rw[hset];exact R')
    have hgoal:∀ n,n=f+1→wpAny P .any ops (Post N B0 F0 w0 Q) n (Array.replicate ops.size false) a w:=by
     rintro n rfl
     refine wpAny_take ho hns hfree ?_ ?_ (.inl ⟨hwant,hrun⟩) key
     ·rw[List.contains_iff_mem]
      exact mem_ready.2 ⟨by rw[getD_tf (by simpa using h0lt)];exact hL0 0,r.o,ho,fun e he hb=>(hback e he hb).elim⟩
     ·rintro c a2 w2 ⟨s2,m2,kk2,hq,S2⟩
      refine⟨⟨[],s2.σ⟩,m2,kk2,hq,S2.toHeap,fun t v h=>by simp[look] at h,by have:=S2.df;cases hd2:r.o.dst <;> simpa [Act.put,hd2] using this,?_,S2.pn⟩
      have:=S2.sz
      cases hd2:r.o.dst <;> simpa [Act.put,hd2] using this
    exact hgoal _ hf
  ·cases hh
theorem evDrawZ_sound (C:Ctx P T) {z:Nat} {own:List Nat} {id:Nat} {Q:Exit→St→Prop} {hn:Nat} (hhn:hn=0∨hn=1∧headOK ops=true) (hd:drawOK hn ops (preLen own z ops.toList)=true) (h:evDrawZ z T P own N ops s Q):Ok P N (.region id ops true) Q s:=by
 intro B0 F0 w0 m kk a w S
 unfold evDrawZ at h
 ·have D:=drawOK_spec hd
  obtain⟨recs,rest,hl,hlen,hok,la,hla,hK⟩:=evD_recs _ _ _ _ h
  cases hf:freshD s (recψ recs []) (recν recs []) with
  | false=>rw[hf] at hK;exact hK.elim
  | true =>
   rw[hf,cond_true] at hK
   rw[←hlen] at D
   have hop:∀ (i:Nat) (r:DR),recs[i]?=some r→ops[i]?=some r.o:=by
    intro i r hi
    have hlt:i<recs.length:=(List.getElem?_eq_some_iff.1 hi).1
    rw[←Array.getElem?_toList,hl,List.getElem?_append_left (by simpa using hlt)]
    simp[hi]
   have hrest:∀ j,rest[j]?=ops[recs.length+j]?:=by
    intro j
    rw[←Array.getElem?_toList,hl,List.getElem?_append_right (by simp)]
    simp
   have hsize:ops.size=recs.length+rest.length:=by
    rw[←Array.length_toList,hl];simp
   have huniq:=recs_uniq hok
   have G:Good own (fun e=>mem 9999 own=true∧Q (.panic []) ⟨[(0,.t e)],s.σ⟩) T P N ops s recs:=by
    refine⟨hok,huniq,?_,?_⟩
    ·intro i r o hi ho
     have hin:(r.d,o)∈recν recs []:=recν_mem.2 (.inr ⟨r,List.mem_of_getElem? hi,ho,rfl⟩)
     obtain⟨f1,f2,f3⟩:=freshD_spec hf _ hin
     refine⟨f1,f2,fun j r' hj hne=>?_⟩
     have hin':(r'.d,r'.e)∈recψ recs []:=recψ_mem.2 (.inr ⟨r',List.mem_of_getElem? hj,rfl⟩)
     rcases freeD_spec f3 _ hin' with h | h
     ·exact absurd (huniq j i r' r hj hi h) hne
     ·exact h
    ·intro i r hi t ht j r' hj hrd
     have hilt:i<recs.length:=(List.getElem?_eq_some_iff.1 hi).1
     have hjlt:j<recs.length:=(List.getElem?_eq_some_iff.1 hj).1
     have hdst:r'.o.dst=some t:=by rw[(hok.at_ hj).1,hrd]
     rcases D.pre i r.o (hop i r hi) hilt j r'.o t hjlt (hop j r' hj) hdst ht with⟨ed,hed,hon,hb⟩ | h
     ·have:=D.back i r.o (hop i r hi) ed hed hb
      exact .inl ⟨by omega,ed,hed,hon,hb⟩
     ·exact .inr h
   refine wp_region_any C.mixed ?_
   have hbel:Below w.heap.size w { w with drawn:=w.drawn+1 }:=⟨rfl,rfl,rfl,Nat.le_refl _,fun _ _=>rfl⟩
   have S1:=S.grow hbel
   have hL0:∀ i,(Array.replicate ops.size false).getD i false=false:=by
    intro i
    rw[Array.getD_eq_getD_getElem?,Array.getElem?_replicate]
    split <;> rfl
   have e0:=newsD_none (L:=fun i=>(Array.replicate ops.size false).getD i false) hL0 0 recs
   have start:RD s recs (fun i=>(Array.replicate ops.size false).getD i false) N B0 F0 w0 m kk a { w with drawn:=w.drawn+1 }:=by
    refine⟨?_,?_,?_,?_,S1.df,S1.sz,S1.pn,fun i r _ h=>by rw[hL0] at h;cases h⟩
    ·rw[e0];exact S1.toHeap
    ·intro t v hv _
     rw[e0];exact S1.fr t v hv
    ·intro i r _ h
     rw[hL0] at h;cases h
    ·intro i r _ h
     rw[hL0] at h;cases h
   have hleft0:left recs.length (fun i=>(Array.replicate ops.size false).getD i false)=recs.length:=by
    unfold left
    rw[List.filter_eq_self.2 (fun i _=>by show (!((Array.replicate ops.size false).getD i false))=true;rw[hL0 i];rfl),List.length_range]
   have hcl0:Closed ops (fun i=>(Array.replicate ops.size false).getD i false):=fun i o _ h=>absurd ((hL0 i).symm.trans h) (by simp)
   refine begin_draw C D G hop hrest hsize hhn hL0 hleft0 hcl0 start (z:=z) hlen (wpAny_pre C D G rfl hop rest hrest (by omega) ?_ ?_ (B0:=B0) (F0:=F0) (w0:=w0))
   ·intro L m kk a w hall R
    have hlook:∀ l,look l (recν recs []++s.σ)=look l (newsD L 0 recs++s.σ):=by
     intro l
     have huni:∀ (j1 j2:Nat) (r1 r2:DR) (o1 o2:AO),recs[j1]?=some r1→recs[j2]?=some r2→r1.al=some o1→r2.al=some o2→r1.d=r2.d→o1=o2:=by
      intro j1 j2 r1 r2 o1 o2 h1 h2 a1 a2 e
      have:=huniq j1 j2 r1 r2 h1 h2 e
      subst this
      rw[h1] at h2;injection h2 with h2;subst h2
      rw[a1] at a2;exact Option.some.inj a2
     have u1:∀ p∈recν recs [],∀ q∈recν recs [],p.1=q.1→p.2=q.2:=by
      intro p hp q hq e
      rcases recν_mem.1 hp with h | ⟨r1,h1,a1,d1⟩
      ·simp at h
      rcases recν_mem.1 hq with h | ⟨r2,h2,a2,d2⟩
      ·simp at h
      obtain⟨j1,h1⟩:=List.getElem?_of_mem h1
      obtain⟨j2,h2⟩:=List.getElem?_of_mem h2
      exact huni j1 j2 r1 r2 _ _ h1 h2 a1 a2 (by rw[d1,d2,e])
     have same:∀ p,p∈recν recs []↔p∈newsD L 0 recs:=by
      intro p
      rw[recν_mem,newsD_mem]
      constructor
      ·rintro (h | ⟨r,h1,h2,h3⟩)
       ·simp at h
       ·obtain⟨j,hj⟩:=List.getElem?_of_mem h1
        exact⟨j,r,hj,by rw[Nat.zero_add];exact hall j (List.getElem?_eq_some_iff.1 hj).1,h2,h3⟩
      ·rintro⟨j,r,h1,_,h2,h3⟩
       exact .inr ⟨r,List.mem_of_getElem? h1,h2,h3⟩
     rw[look_append,look_append]
     have:look l (recν recs [])=look l (newsD L 0 recs):=by
      cases hq:look l (recν recs []) with
      | some o =>
       have hin:=look_mem hq
       rw[look_of_mem ((same _).1 hin) (fun p hp e=>u1 p ((same _).2 hp) _ hin e)]
      | none =>
       cases hr:look l (newsD L 0 recs) with
       | none=>rfl
       | some o=>exact absurd rfl (look_none hq _ ((same _).2 (look_mem hr)))
     rw[this]
    have hF:=Fc_look (F0:=F0) (B0:=B0) (m:=m) hlook
    have S':Sim N B0 F0 w0 ⟨toF (recψ recs []) s.φ,recν recs []++s.σ⟩ m kk a w:=by
     refine⟨R.H.look_eq hlook,?_,R.df,R.sz,R.pn⟩
     intro t v hv
     rw[hF]
     rcases toF_look hv with⟨e,he,hc⟩ | ⟨hn,hv⟩
     ·rcases hc with⟨hg,rfl⟩ | rfl
      ·have hin:=look_mem he
       rw[recψ_mem] at hin
       rcases hin with h | ⟨r,h1,h2⟩
       ·simp at h
       injection h2 with h2 h3
       subst h2;subst h3
       obtain⟨j,hj⟩:=List.getElem?_of_mem h1
       rcases R.en j r hj (hall j (List.getElem?_eq_some_iff.1 hj).1) with⟨_,_,h⟩ | ⟨h,_⟩
       ·exact h
       ·exact absurd (by rw[hg];exact fun p hp=>by simp at hp) h
      ·simp only[AV.rel]
     ·refine R.ph t v hv (fun j r hr _ e=>?_)
      exact look_none hn (r.d,r.e) (recψ_mem.2 (.inr ⟨r,List.mem_of_getElem? hr,rfl⟩)) e
    exact evOps_sound C rest [] _ m kk a w S' psi_nil (ifAll_of hK (hla fun r hr=>by obtain⟨j,hj⟩:=List.getElem?_of_mem hr;exact R.ax j r hj (hall j (List.getElem?_eq_some_iff.1 hj).1)))
   ·rintro L m' kk' a' w1 w' e v R ⟨_,hq⟩ hb hv
    have key:∀ (l:Nat) (o:AO),look l s.σ=some o→look l (newsD L 0 recs++s.σ)=some o:=by
     intro l o hl'
     rw[look_append]
     cases hq':look l (newsD L 0 recs) with
     | none=>exact hl'
     | some o' =>
      obtain⟨j,r',h1,h2,h3,h4⟩:=newsD_mem.1 (look_mem hq')
      have hf':=(G.fresh j r' _ h1 h3).2.1
      rw[h4] at hf'
      have:∀ (σ:List (Nat×AO)),freeS l σ=true→look l σ=none:=by
       intro σ
       induction σ with
       | nil=>intro _;rfl
       | cons p σ ih =>
        obtain⟨k,o⟩:=p
        intro h
        simp only[freeS,Bool.and_eq_true,Bool.not_eq_true'] at h
        rw[look_cons]
        have:l≠k:=by intro e;rw[e] at h;simp at h
        simp only[this,if_false];exact ih h.2
      rw[this s.σ hf'] at hl';cases hl'
    have R2:=R.H.grow hb
    have hk:Keeps w' (Fc F0 B0 (newsD L 0 recs++s.σ) m') w' (Fc F0 B0 s.σ m'):=keeps_mono fun b hb=>Fc.mono (fun l o h=>⟨o,key l o h⟩) hb
    refine⟨⟨[],s.σ⟩,m',kk',⟨e,v,hq,rfl,hv _ _⟩,⟨R2.base,R2.below,R2.gm,?_,?_⟩,fun t x h=>by simp[look] at h,R.df,R.sz,R.pn⟩
    ·intro l o hl
     exact AO.rel_keep hk (fun _ _=>rfl) (R2.ob l o (key l o hl))
    ·intro l l' o o' hl hl' hne
     exact R2.dj l l' o o' (key l o hl) (key l' o' hl') hne
end
end
section
section
variable {P:Program} {T:TyTab} {N:Nat} {B0:Nat→Prop} {F0:Nat→Prop} {w0:PW}
variable {ops:Array Oper} {s:St} {recs:List DR} {own:List Nat} {X:TV→Prop} {Q:Exit→Act→World→Prop}
theorem RD.congrL {L L':Nat→Bool} {m:Nat→Value} {kk:Nat→Nat} {a:Act} {w:World} (h:∀ i,i<recs.length→L' i=L i) (R:RD s recs L N B0 F0 w0 m kk a w):RD s recs L' N B0 F0 w0 m kk a w:=by
 have hi:∀ {i:Nat} {r:DR},recs[i]?=some r→L' i=L i:=fun hr=>h _ (List.getElem?_eq_some_iff.1 hr).1
 have hn:newsD L' 0 recs=newsD L 0 recs:=newsD_same fun j r hj _=>by rw[Nat.zero_add];exact hi hj
 refine⟨by rw[hn];exact R.H,fun t v hv hno=>?_,fun i r hr hL=>?_,fun i r hr hL q hq=>?_,R.df,R.sz,R.pn,fun i r hr hL=>R.ax i r hr (by rw[←hi hr];exact hL)⟩
 ·rw[hn];exact R.ph t v hv (fun j r hj hLj=>hno j r hj (by rw[hi hj];exact hLj))
 ·rw[hn];exact R.en i r hr (by rw[←hi hr];exact hL)
 ·rcases R.gd i r hr (by rw[←hi hr];exact hL) q hq with⟨j,r',h1,h2,h3⟩ | h
  ·exact .inl ⟨j,r',h1,h2,by rw[hi h1];exact h3⟩
  ·exact .inr h
structure DrawS (ops:Array Oper) (n:Nat):Prop where
 back:∀ (i:Nat) (o:Oper),ops[i]?=some o→∀ e∈o.after,Region.binds .any e=true→e.on<i
 pre:∀ (i:Nat) (o:Oper),ops[i]?=some o→i≤n→∀ (j:Nat) (oj:Oper) (t:Tmp),j<n→ops[j]?=some oj→oj.dst=some t→t∈o.looksAt ops→j<i∧∃ e∈o.after,e.on=j∧Region.binds .any e=true
 post:∀ (i:Nat) (o:Oper),ops[i]?=some o→n+1<i→∃ e∈o.after,e.on=i-1∧Region.binds .any e=true
 turn:∀ (o:Oper),ops[n+1]?=some o→∀ j,j≤n→∀ L,Closed ops L→(∀ e∈o.after,Region.binds .any e=true→L e.on=true)→L j=true
omit [Gm] in
theorem drawOKS_spec {n:Nat} (h:drawOKS ops n=true):DrawS ops n:=by
 unfold drawOKS at h
 simp only[List.all_eq_true] at h
 have key:∀ (i:Nat) (o:Oper),ops[i]?=some o→(∀ e∈o.after,Region.binds .any e=true→e.on<i)∧(if i<n+1 then ∀ j,j<n→(o.looksAt ops).any (fun t=>dstIs ops j t)=true→(Nat.blt j i&&hasEdge j o)=true else if i=n+1 then ∀ j,j<n+1→coverB ops j 12 o=true else hasEdge (i-1) o=true):=by
  intro i o ho
  have hi:i<ops.size:=(Array.getElem?_eq_some_iff.1 ho).1
  have h1:=h i (List.mem_range.2 hi)
  simp only[ho,Bool.and_eq_true,List.all_eq_true,Bool.or_eq_true,Bool.not_eq_true'] at h1
  refine⟨fun e he hb=>?_,?_⟩
  ·rcases h1.1 e (Array.mem_toList_iff.2 he) with h2 | h2
   ·rw[hb] at h2;cases h2
   ·exact Nat.le_of_ble_eq_true h2
  ·have h2:=h1.2
   by_cases hn:i<n+1
   ·rw[if_pos hn]
    have hb:Nat.blt i (n+1)=true:=Nat.ble_eq_true_of_le hn
    rw[hb,cond_true] at h2
    simp only[List.all_eq_true,Bool.or_eq_true,Bool.not_eq_true'] at h2
    intro j hj hany
    rcases h2 j (List.mem_range.2 hj) with h3 | h3
    ·rw[hany] at h3;cases h3
    ·exact h3
   ·rw[if_neg hn]
    have hb:Nat.blt i (n+1)=false:=by
     cases hq:Nat.blt i (n+1) with
     | true=>exact absurd (Nat.le_of_ble_eq_true hq) hn
     | false=>rfl
    rw[hb,cond_false] at h2
    by_cases he:i=n+1
    ·rw[if_pos he]
     have hb:Nat.beq i (n+1)=true:=by rw[he];exact Nat.beq_refl (n+1)
     rw[hb,cond_true] at h2
     simp only[List.all_eq_true] at h2
     intro j hj
     exact h2 j (List.mem_range.2 hj)
    ·rw[if_neg he]
     have hb:Nat.beq i (n+1)=false:=by
      cases hq:Nat.beq i (n+1) with
      | true=>exact absurd (Nat.eq_of_beq_eq_true hq) he
      | false=>rfl
     rw[hb,cond_false] at h2
     exact h2
 refine⟨fun i o ho=>(key i o ho).1,?_,?_,?_⟩
 ·intro i o ho hi j oj t hj hoj hd ht
  have:=(key i o ho).2
  rw[if_pos (by omega)] at this
  have hany:(o.looksAt ops).any (fun t=>dstIs ops j t)=true:=by
   rw[List.any_eq_true]
   exact⟨t,ht,by simp[dstIs,hoj,hd]⟩
  have h3:=this j hj hany
  rw[Bool.and_eq_true] at h3
  exact⟨Nat.le_of_ble_eq_true h3.1,hasEdge_spec h3.2⟩
 ·intro i o ho hi
  have:=(key i o ho).2
  rw[if_neg (by omega),if_neg (by omega)] at this
  exact hasEdge_spec this
 ·intro o ho j hj L hc hL
  have:=(key (n+1) o ho).2
  rw[if_neg (by omega),if_pos rfl] at this
  exact coverB_spec hc (this j (by omega)) hL
theorem wpAny_preS (C:Ctx P T) {n:Nat} (D:DrawS ops n) (G:Good own (fun _=>False) T P N ops s recs) (hrec:recs.length=n) (hop:∀ (i:Nat) (r:DR),recs[i]?=some r→ops[i]?=some r.o) (hal:∀ r∈recs,r.al=none)
  (rest:List Oper) (hrest:∀ j,rest[j]?=ops[n+1+j]?) (hnlt:n<ops.size) {st:Oper} (hst:ops[n]?=some st) (hguard:st.guard=none) (hdst:st.dst=none) {V:(Nat→Value)→World→Prop}
  (hV:∀ m w w',V m w→Below w.heap.size w w'→V m w')
  (hstore:∀ (L:Nat→Bool) m kk a w,(∀ e∈st.after,Region.binds .any e=true→L e.on=true)→RD s recs L N B0 F0 w0 m kk a w→∃ w',(execOp a.eval st).run P w=.ok .skip w'∧RD s recs L N B0 F0 w0 m kk a w'∧V m w')
  (fin:∀ (L:Nat→Bool) m kk a w,(∀ i,i<n→L i=true)→RD s recs L N B0 F0 w0 m kk a w→V m w→wpList P ops Q rest a w) :
  ∀ (fuel:Nat) (listed:Array Bool) (m:Nat→Value) (kk:Nat→Nat) (a:Act) (w:World),listed.size=ops.size→(∀ k,n<k→listed.getD k false=false)→Closed ops (fun i=>listed.getD i false)→fuel=left (n+1) (fun i=>listed.getD i false)+rest.length →
   RD s recs (fun i=>listed.getD i false) N B0 F0 w0 m kk a w→(listed.getD n false=true→V m w)→wpAny P .any ops Q fuel listed a w:=by
 have done:∀ (listed:Array Bool) m kk a w,listed.size=ops.size→(∀ k,n<k→listed.getD k false=false)→left (n+1) (fun i=>listed.getD i false)=0→RD s recs (fun i=>listed.getD i false) N B0 F0 w0 m kk a w→(listed.getD n false=true→V m w)→wpAny P .any ops Q rest.length listed a w:=by
  intro listed m kk a w hsz hpost h0 R hv
  have hall:=left_zero h0
  exact wpAny_chainB (P:=P) D.back D.post rest (n+1) listed a w (Nat.le_refl _) hnlt hrest hsz (fun i hi=>⟨fun h=>(Nat.lt_or_ge i (n+1)).elim id (fun h'=>by rw[hpost i h'] at h;cases h),fun h=>hall i h⟩) (fin _ m kk a w (fun i hi=>hall i (by omega)) R (hv (hall n (by omega))))
 intro fuel
 induction fuel with
 | zero =>
  intro listed m kk a w hsz hpost hcl hf R hv
  have h0:left (n+1) (fun i=>listed.getD i false)=0:=by omega
  have:=done listed m kk a w hsz hpost h0 R hv
  have hr:rest=[]:=List.eq_nil_of_length_eq_zero (by omega)
  rw[hr] at this;exact this
 | succ fuel ih =>
  intro listed m kk a w hsz hpost hcl hf R hv
  rcases Nat.eq_zero_or_pos (left (n+1) (fun i=>listed.getD i false)) with h0 | hpos
  ·have:=done listed m kk a w hsz hpost h0 R hv
   have e:rest.length=fuel+1:=by omega
   rw[e] at this;exact this
  ·have hex:∃ i,i<n+1∧listed.getD i false=false:=by
    apply Classical.byContradiction
    intro hno
    have:left (n+1) (fun i=>listed.getD i false)=0:=by
     unfold left
     rw[List.filter_eq_nil_iff.2]
     ·rfl
     ·intro i hi
      rw[List.mem_range] at hi
      cases hq:listed.getD i false with
      | true=>simpa using hq
      | false=>exact absurd ⟨i,hi,hq⟩ hno
    omega
   obtain⟨i0,⟨hi0,hL0⟩,hmin⟩:=least hex
   have only:∀ i∈Region.ready .any ops listed,i≤n:=by
    intro i hi
    obtain⟨h1,oi,hoi,hall⟩:=mem_ready.1 hi
    rcases Nat.lt_or_ge n i with h' | h'
    ·rcases Nat.lt_or_ge (n+1) i with h'' | h''
     ·obtain⟨e,he,hon,hb⟩:=D.post i oi hoi h''
      have:=hall e he hb
      rw[hon,hpost (i-1) (by omega)] at this;cases this
     ·have e:i=n+1:=by omega
      subst e
      have:=D.turn oi hoi i0 (by omega) _ hcl hall
      rw[hL0] at this;cases this
    ·exact h'
   have hready:i0∈Region.ready .any ops listed:=by
    have hlt:i0<ops.size:=by omega
    refine mem_ready.2 ⟨by rw[getD_tf (by omega)];exact hL0,ops[i0],Array.getElem?_eq_getElem hlt,fun e he hb=>?_⟩
    have hb':=D.back i0 _ (Array.getElem?_eq_getElem hlt) e he hb
    cases hq:listed.getD e.on false with
    | true=>rfl
    | false=>have:=hmin e.on ⟨by omega,hq⟩;omega
   refine⟨fun h0=>by rw[h0] at hready;simp at hready,fun i hi=>?_⟩
   have hin:=only i hi
   obtain⟨h1,oi,hoi,hall⟩:=mem_ready.1 hi
   have hlt:i<ops.size:=by omega
   rw[getD_tf (by omega)] at h1
   have hset:(fun j=>(listed.setIfInBounds i true).getD j false)=setL (fun j=>listed.getD j false) i:=by
    funext j
    by_cases e:j=i
    ·subst e;simp[setL,hsz,hlt]
    ·rw[getD_set_ne false (Ne.symm e)];simp[setL,e]
   have hpost':∀ k,n<k→(listed.setIfInBounds i true).getD k false=false:=fun k hk=>by
    rw[getD_set_ne false (by omega)];exact hpost k hk
   have hcl':Closed ops (fun j=>(listed.setIfInBounds i true).getD j false):=by
    rw[hset]
    intro i' o' ho' hL' e' he' hb'
    simp only[setL] at hL' ⊢
    by_cases e1:e'.on=i
    ·simp[e1]
    ·rw[if_neg e1]
     by_cases e2:i'=i
     ·subst e2
      rw[hoi] at ho';injection ho' with ho';subst ho'
      exact hall e' he' hb'
     ·rw[if_neg e2] at hL'
      exact hcl i' o' ho' hL' e' he' hb'
   have hfuel:fuel=left (n+1) (fun j=>(listed.setIfInBounds i true).getD j false)+rest.length:=by
    rw[hset]
    have:=left_set (L:=fun j=>listed.getD j false) h1 (n:=n+1)
    rw[if_pos (by omega)] at this
    omega
   unfold wpOp
   simp only[hoi]
   by_cases hlti:i<n
   ·obtain⟨r,hr⟩:∃ r,recs[i]?=some r:=⟨recs[i]'(by omega),List.getElem?_eq_getElem (by omega)⟩
    have hro:=hop i r hr
    have heo:oi=r.o:=by rw[hoi] at hro;exact Option.some.inj hro
    subst heo
    have hbk:∀ (j:Nat) (r':DR),recs[j]?=some r'→(∃ ed∈r'.o.after,ed.on=i∧Region.binds .any ed=true)→listed.getD j false=false:=by
     rintro j r' hj ⟨ed,hed,hon,hb⟩
     cases hq:listed.getD j false with
     | false=>rfl
     | true =>
      have:=hcl j r'.o (hop j r' hj) hq ed hed hb
      rw[hon] at this
      exact absurd (h1.symm.trans this) (by simp)
    have hstep:=R.step C G hr h1 hall hbk (next:=wpAny P .any ops Q fuel (listed.setIfInBounds i true)) (Q:=Q) (fun a' w' m' kk' R' hb hm=>by
     obtain⟨rfl,rfl⟩:=hm (hal r (List.mem_of_getElem? hr))
     refine ih _ m' kk' a' w' (by simp[hsz]) hpost' hcl' hfuel (by rw[hset];exact R') (fun h=>hV _ _ _ (hv ?_) hb)
     rw[getD_set_ne false (by omega)] at h;exact h) (fun e v w' hx _ _=>hx.elim)
    split
    ·rename_i hw;rw[if_pos hw] at hstep;exact .inl hstep
    ·rename_i hw;rw[if_neg hw] at hstep;exact hstep
   ·have hi':i=n:=by omega
    subst hi'
    rw[hst] at hoi;injection hoi with hoi;subst hoi
    have hw:Region.wanted st (yielded ops a.tmps)=true:=by simp[Region.wanted,hguard]
    rw[if_pos hw]
    obtain⟨w',hrun,R',hv'⟩:=hstore _ m kk a w hall R
    refine .inl ?_
    unfold Oper.wp
    rw[hrun,Oper.upon_skip,hdst]
    refine ih _ m kk a w' (by simp[hsz]) hpost' hcl' hfuel (RD.congrL (fun j hj=>?_) R') (fun _=>hv')
    rw[getD_set_ne false (by omega)]
omit [Gm] in
theorem junkL_len:∀ (cs:List AV),(junkL cs).length=cs.length
 | []=>rfl
 | _::r=>by simp[junkL,junkL_len r]
omit [Gm] in
theorem junkL_rel {w:World} {F:Nat→Prop} {m:Nat→Value} {kk:Nat→Nat}:∀ (cs:List AV) (us:List Value),us.length=cs.length→AV.relL w F m kk (junkL cs) us
 | [],us,h=>by
  have:us=[]:=List.eq_nil_of_length_eq_zero h
  subst this;simp[junkL,AV.relL]
 | _::r,u::us,h=>by
  simp only[junkL,AV.relL]
  exact⟨u,us,rfl,by simp only[AV.rel],junkL_rel r us (by simpa using h)⟩
 | _::_,[],h=>by simp at h
theorem evDrawS_sound (C:Ctx P T) {own:List Nat} {id:Nat} {Q:Exit→St→Prop} (h:evDrawS T P own N ops s Q):Ok P N (.region id ops true) Q s:=by
 intro B0 F0 w0 m kk a w S
 unfold evDrawS at h
 generalize hn:preLen own 0 ops.toList=n at h
 cases hd:drawOKS ops n with
 | false=>rw[hd] at h;exact h.elim
 | true =>
 rw[hd,cond_true] at h
 have D:=drawOKS_spec hd
 split at h
 rotate_left 1
 ·exact h.elim
 rename_i st hst
 split at h
 rotate_left 1
 ·exact h.elim
 rename_i t tp x hop0 hdst hguard
 cases hft:freeT ops tp with
 | false=>rw[hft] at h;exact h.elim
 | true =>
 rw[hft,cond_true] at h
 split at h
 rotate_left 1
 ·exact h.elim
 rename_i l ti hlt hti
 split at h
 rotate_left 1
 ·exact h.elim
 rename_i cs hcs
 cases hcl:Nat.beq cs.length ti.size with
 | false=>rw[hcl] at h;exact h.elim
 | true =>
 rw[hcl,cond_true] at h
 have hcl:=Nat.eq_of_beq_eq_true hcl
 obtain⟨recs,rest0,hl,hlen,hok,la,hla,hK⟩:=evD_recs _ _ _ _ h
 rw[hn] at hlen
 split at hK
 rotate_left 1
 ·exact hK.elim
 rename_i st' rest hν
 split at hK
 rotate_left 1
 ·exact hK.elim
 rename_i v hv
 split at hK
 rotate_left 1
 ·exact hK.elim
 rename_i vs hvs
 split at hK
 rotate_left 1
 ·exact hK.elim
 rename_i new hnew
 cases hnl:Nat.beq new.length ti.size with
 | false=>rw[hnl] at hK;exact hK.elim
 | true =>
 rw[hnl,cond_true] at hK
 have hnl:=Nat.eq_of_beq_eq_true hnl
 have hop:∀ (i:Nat) (r:DR),recs[i]?=some r→ops[i]?=some r.o:=by
  intro i r hi
  have hlt:i<recs.length:=(List.getElem?_eq_some_iff.1 hi).1
  rw[←Array.getElem?_toList,hl,List.getElem?_append_left (by simpa using hlt)]
  simp[hi]
 have hst':st'=st:=by
  have:ops[n]?=some st':=by
   rw[←Array.getElem?_toList,hl,List.getElem?_append_right (by simp[hlen])]
   simp[hlen]
  rw[hst] at this;exact (Option.some.inj this).symm
 subst hst'
 have hrest:∀ j,rest[j]?=ops[n+1+j]?:=by
  intro j
  rw[←Array.getElem?_toList,hl,List.getElem?_append_right (by simp[hlen];omega)]
  simp only[List.length_map,hlen]
  rw[show n+1+j-n=j+1 by omega]
  simp
 have hsize:ops.size=n+1+rest.length:=by
  rw[←Array.length_toList,hl];simp[hlen];omega
 have hal:∀ r∈recs,r.al=none:=by
  intro r hr
  cases ha:r.al with
  | none=>rfl
  | some o =>
   have:(r.d,o)∈recν recs []:=recν_mem.2 (.inr ⟨r,hr,ha,rfl⟩)
   rw[hν] at this;simp at this
 have hnews:∀ (L:Nat→Bool),newsD L 0 recs=[]:=by
  intro L
  refine List.eq_nil_iff_forall_not_mem.2 fun p hp=>?_
  obtain⟨j,r,h1,_,h2,_⟩:=newsD_mem.1 hp
  rw[hal r (List.mem_of_getElem? h1)] at h2;cases h2
 have huniq:=recs_uniq hok
 have G:Good own (fun _=>False) T P N ops ⟨s.φ,(l,.var (junkL cs))::s.σ⟩ recs:=by
  refine⟨hok,huniq,?_,?_⟩
  ·intro i r o hi ho
   rw[hal r (List.mem_of_getElem? hi)] at ho;cases ho
  ·intro i r hi t ht j r' hj hrd
   have hilt:i<recs.length:=(List.getElem?_eq_some_iff.1 hi).1
   have hjlt:j<recs.length:=(List.getElem?_eq_some_iff.1 hj).1
   have hdst:r'.o.dst=some t:=by rw[(hok.at_ hj).1,hrd]
   obtain⟨h1,ed,hed,hon,hb⟩:=D.pre i r.o (hop i r hi) (by omega) j r'.o t (by omega) (hop j r' hj) hdst ht
   exact .inl ⟨h1,ed,hed,hon,hb⟩
 refine wp_region_any C.mixed ?_
 have hbel:Below w.heap.size w { w with drawn:=w.drawn+1 }:=⟨rfl,rfl,rfl,Nat.le_refl _,fun _ _=>rfl⟩
 have S1:=S.grow hbel
 have hL0:∀ i,(Array.replicate ops.size false).getD i false=false:=by
  intro i
  rw[Array.getD_eq_getD_getElem?,Array.getElem?_replicate]
  split <;> rfl
 have hlook:∀ (o':AO) (l':Nat),look l' ((l,o')::s.σ)=if l'=l then some o' else look l' s.σ:=fun o' l'=>look_cons _ _ _ _
 have hFq:∀ (o':AO),Fc F0 B0 ((l,o')::s.σ) m=Fc F0 B0 s.σ m:=by
  intro o'
  funext b
  refine propext ⟨fun h=>Fc.mono (fun l' q hq=>?_) h,fun h=>Fc.mono (fun l' q hq=>?_) h⟩
  ·rw[hlook]
   by_cases e:l'=l
   ·exact⟨o',by rw[if_pos e]⟩
   ·exact⟨q,by rw[if_neg e];exact hq⟩
  ·rw[hlook] at hq
   by_cases e:l'=l
   ·subst e;exact⟨_,hcs⟩
   ·rw[if_neg e] at hq;exact⟨q,hq⟩
 have hFq2:∀ (m':Nat→Value) (o' o'':AO),Fc F0 B0 ((l,o')::s.σ) m'=Fc F0 B0 ((l,o'')::s.σ) m':=by
  intro m' o' o''
  funext b
  refine propext ⟨fun h=>Fc.mono (fun l' q hq=>?_) h,fun h=>Fc.mono (fun l' q hq=>?_) h⟩ <;>
  ·rw[hlook] at hq ⊢
   by_cases e:l'=l
   ·simp[e]
   ·simp only[e,if_false] at hq ⊢;exact⟨q,hq⟩
 have S2:Sim N B0 F0 w0 ⟨s.φ,(l,.var (junkL cs))::s.σ⟩ m kk a { w with drawn:=w.drawn+1 }:=by
  refine⟨⟨S1.base,S1.below,S1.gm,fun l' q hq=>?_,fun l1 l2 o1 o2 h1 h2 hne=>?_⟩,fun t v hv=>by rw[hFq];exact S1.fr t v hv,S1.df,S1.sz,S1.pn⟩
  ·rw[hFq]
   rw[hlook] at hq
   by_cases e:l'=l
   ·subst e
    rw[if_pos rfl] at hq;injection hq with hq;subst hq
    obtain⟨g,us,t',h1,h2,h3,h4,h5⟩:=S1.ob l' _ hcs
    exact⟨g,us,t',h1,h2,h3,junkL_rel _ _ (by have:=AV.relL_length h4;omega),h5⟩
   ·rw[if_neg e] at hq;exact S1.ob l' q hq
  ·have up:∀ l' q,look l' ((l,AO.var (junkL cs))::s.σ)=some q→∃ q',look l' s.σ=some q':=by
    intro l' q hq
    rw[hlook] at hq
    by_cases e:l'=l
    ·subst e;exact⟨_,hcs⟩
    ·rw[if_neg e] at hq;exact⟨q,hq⟩
   obtain⟨q1,h1⟩:=up l1 o1 h1
   obtain⟨q2,h2⟩:=up l2 o2 h2
   exact S1.dj l1 l2 _ _ h1 h2 hne
 have start:RD ⟨s.φ,(l,.var (junkL cs))::s.σ⟩ recs (fun i=>(Array.replicate ops.size false).getD i false) N B0 F0 w0 m kk a { w with drawn:=w.drawn+1 }:=by
  refine⟨?_,?_,?_,?_,S2.df,S2.sz,S2.pn,fun i r _ h=>by rw[hL0] at h;cases h⟩
  ·rw[hnews];exact S2.toHeap
  ·intro t v hv _
   rw[hnews];exact S2.fr t v hv
  ·intro i r _ h
   rw[hL0] at h;cases h
  ·intro i r _ h
   rw[hL0] at h;cases h
 have hleft0:left (n+1) (fun i=>(Array.replicate ops.size false).getD i false)=n+1:=by
  unfold left
  rw[List.filter_eq_self.2 (fun i _=>by show (!((Array.replicate ops.size false).getD i false))=true;rw[hL0 i];rfl),List.length_range]
 have hcl0:Closed ops (fun i=>(Array.replicate ops.size false).getD i false):=fun i o _ h=>absurd ((hL0 i).symm.trans h) (by simp)
 refine wpAny_preS C D G hlen hop hal rest hrest (by omega) hst hguard hdst
  (V:=fun m w=>∃ g us t,m l=.pointer (some ⟨g,0,none⟩)∧w.heap[g]?=some (.cells us.toArray t (0,0))∧TV.relL w (Fc F0 B0 ((l,.var (junkL cs))::s.σ) m) new us∧OneAll us) ?_ ?_ ?_ ops.size _ m kk a _ (by simp) (fun k _=>hL0 k) hcl0 (by omega) start (fun h=>by rw[hL0] at h;cases h)
 ·rintro m w w' ⟨g,us,t,h1,h2,h3,h4⟩ hb
  have hglt:=(Array.getElem?_eq_some_iff.1 h2).1
  exact⟨g,us,t,h1,by rw[hb.block g hglt];exact h2,TV.relL_keep (Keeps.below hb (Nat.le_refl _) (fun _ h _=>h)) _ _ h3,h4⟩
 ·intro L m kk a w hdone R
  have Hp:=R.H
  have Ren:=R.en
  have Rph:=R.ph
  rw[hnews] at Hp
  simp only[hnews,List.nil_append] at Ren Rph Hp
  have hno:∀ t,t∈st'.looksAt ops→(∃ (j:Nat) (r:DR),recs[j]?=some r∧r.d=t∧L j=true)∨∀ r∈recs,r.d≠t:=by
   intro t ht
   by_cases hex:∃ r∈recs,r.d=t
   ·obtain⟨r,hr,hrd⟩:=hex
    obtain⟨j,hj⟩:=List.getElem?_of_mem hr
    have hjlt:j<recs.length:=(List.getElem?_eq_some_iff.1 hj).1
    obtain⟨_,ed,hed,hon,hb⟩:=D.pre n st' hst (Nat.le_refl _) j r.o t (by omega) (hop j r hj) (by rw[(hok.at_ hj).1,hrd]) ht
    exact .inl ⟨j,r,hj,hrd,by rw[←hon];exact hdone ed hed hb⟩
   ·exact .inr fun r hr e=>hex ⟨r,hr,e⟩
  have hlooks:∀ y∈st'.op.operands,∀ t,y=.tmp t→t∈st'.looksAt ops:=by
   rintro y hy t rfl
   unfold Oper.looksAt
   rw[List.mem_append]
   left
   rw[List.mem_filterMap]
   exact⟨.tmp t,Array.mem_toList_iff.2 hy,rfl⟩
  have hpe:a.eval (.tmp tp)=.pointer (some ⟨(match m l with | .pointer (some ad)=>ad.block | _=>0),0,none⟩)∧∃ g,m l=.pointer (some ⟨g,0,none⟩):=by
   have hnot:∀ (j:Nat) (r:DR),recs[j]?=some r→L j=true→r.d≠tp:=by
    intro j r hj _ e
    unfold freeT at hft
    rw[List.all_eq_true] at hft
    have:=hft r.o (by rw[hl];exact List.mem_append_left _ (List.mem_map.2 ⟨r,List.mem_of_getElem? hj,rfl⟩))
    rw[(hok.at_ hj).1] at this
    simp[e] at this
   have:=Rph tp _ hlt hnot
   simp only[AV.rel] at this
   obtain⟨g,hm,he⟩:=this
   refine⟨?_,g,hm⟩
   show a.tmps.getD tp undef=_
   rw[he,hm]
   simp[Addr.add]
  obtain⟨hpe,g,hm⟩:=hpe
  rw[hm] at hpe
  have hval:v.rel w (Fc F0 B0 ((l,.var (junkL cs))::s.σ) m) m kk (a.eval x):=by
   have hx:x∈st'.op.operands:=by rw[hop0];simp[Op.operands]
   cases x with
   | tmp t =>
    simp only[opd] at hv
    split at hv
    ·rename_i e he
     have hin:=look_mem he
     rw[recψ_mem] at hin
     rcases hin with h | ⟨r,h1,h2⟩
     ·simp at h
     injection h2 with h2 h3
     subst h2;subst h3
     cases hs:sfx r.e.gs [] with
     | false=>rw[hs] at hv;cases hv
     | true =>
      rw[hs,cond_true] at hv
      injection hv with hv;subst hv
      rcases hno r.d (hlooks _ hx _ rfl) with⟨j,r',hj,hrd,hLj⟩ | h
      ·have hjr:r'=r:=by
        obtain⟨j2,hj2⟩:=List.getElem?_of_mem h1
        have:=huniq j j2 r' r hj hj2 hrd
        subst this
        rw[hj] at hj2;exact Option.some.inj hj2
       subst hjr
       rcases Ren j r' hj hLj with⟨_,_,h3⟩ | ⟨h3,_⟩
       ·exact h3
       ·exact absurd (sfx_holds hs (fun q hq=>by simp at hq)) h3
      ·exact absurd rfl (h r h1)
    ·rename_i he
     refine Rph t v hv (fun j r hj _ e=>?_)
     exact look_none he (r.d,r.e) (recψ_mem.2 (.inr ⟨r,List.mem_of_getElem? hj,rfl⟩)) e
   | const c=>simp only[opd] at hv;exact constA_rel hv
   | func f =>
    simp only[opd,Option.some.injEq] at hv;subst hv
    simp only[AV.rel,TV.rel,Act.eval]
    exact⟨[],rfl,by simp[TV.relL]⟩
   | global g=>simp[opd] at hv
  have S3:Sim N B0 F0 w0 ⟨[],(l,.var (junkL cs))::s.σ⟩ m kk a w:=⟨Hp,fun t v h=>by simp[look] at h,R.df,R.sz,R.pn⟩
  have hl1:look l ((l,AO.var (junkL cs))::s.σ)=some (.var (junkL cs)):=by rw[hlook,if_pos rfl]
  obtain⟨g',us,t',hm',hB,hg,hr,h1⟩:=Hp.ob l _ hl1
  rw[hm] at hm';simp at hm';subst hm'
  obtain⟨hvr,hv1⟩:=rel_cellsOf hval hvs
  have hnr:=relL_allT hvr hnew
  have hul:us.length=cs.length:=by have:=AV.relL_length hr;rw[junkL_len] at this;omega
  have hvl:(a.eval x).cells.toList.length=ti.size:=by have:=TV.relL_length hnr;omega
  have hgo:obk (m l)=some g:=by rw[hm];rfl
  have hrun:=run_store_block (P:=P) (v:=a.eval x) C.tok hti hg rfl hvl (off:=0) (by omega) hv1
  simp only[List.take_zero,List.nil_append,Nat.zero_add] at hrun
  have e0:us.drop (a.eval x).cells.toList.length=[]:=List.drop_eq_nil_of_le (by omega)
  rw[e0,List.append_nil] at hrun
  have hk:=keep_set S3 hl1 hgo (a.eval x).cells.toList.toArray
  have S4:=S3.write hl1 hgo (a.eval x).cells.toList.toArray _ rfl (o':=.var (junkL cs)) ⟨g,_,t',hm,hB,setRow_heap w g _ _ t' _ hg,junkL_rel _ _ (by omega),hv1⟩
  have hk2:Keeps w (Fc F0 B0 ((l,.var (junkL cs))::s.σ) m) (w.setRow g (a.eval x).cells.toList.toArray) (Fc F0 B0 ((l,.var (junkL cs))::s.σ) m):=hk
  have hsame:∀ l',look l' ((l,AO.var (junkL cs))::(l,AO.var (junkL cs))::s.σ)=look l' ((l,AO.var (junkL cs))::s.σ):=by
   intro l'
   rw[look_cons,look_cons]
   by_cases e:l'=l <;> simp[e]
  have H4:=S4.toHeap.look_eq (fun l'=>(hsame l').symm)
  refine⟨w.setRow g (a.eval x).cells.toList.toArray,?_,⟨?_,?_,?_,R.gd,R.df,R.sz,R.pn,R.ax⟩,g,_,t',hm,setRow_heap w g _ _ t' _ hg,TV.relL_keep hk2 _ _ hnr,hv1⟩
  ·have hadd:(⟨g,0,none⟩:Addr).add 0=⟨g,0,none⟩:=by simp[Addr.add]
   rw[hadd] at hrun
   simp[execOp,hop0,hpe,hrun]
  ·rw[hnews];exact H4
  ·intro t v hv hno
   rw[hnews]
   exact AV.rel_same hk2 _ _ (Rph t v hv hno)
  ·intro i r hi hL
   rw[hnews]
   rcases Ren i r hi hL with⟨h1,h2,h3⟩ | h1
   ·exact .inl ⟨h1,h2,AV.rel_same hk2 _ _ h3⟩
   ·exact .inr h1
 ·rintro L m kk a w hall R ⟨g,us,t',hm,hg,hrel,h1⟩
  have Hp:=R.H
  have Ren:=R.en
  have Rph:=R.ph
  simp only[hnews,List.nil_append] at Ren Rph Hp
  have S':Sim N B0 F0 w0 ⟨toF (recψ recs []) s.φ,(l,.var (new.map .t))::s.σ⟩ m kk a w:=by
   have hFe:=hFq2 m (.var (new.map .t)) (.var (junkL cs))
   refine⟨⟨Hp.base,Hp.below,Hp.gm,fun l' q hq=>?_,fun l1 l2 o1 o2 g1 g2 hne=>?_⟩,?_,R.df,R.sz,R.pn⟩
   ·rw[hFe]
    rw[hlook] at hq
    by_cases e:l'=l
    ·subst e
     rw[if_pos rfl] at hq;injection hq with hq;subst hq
     obtain⟨g',us',t2,hm',hB,_⟩:=Hp.ob l' (.var (junkL cs)) (by rw[hlook,if_pos rfl])
     rw[hm] at hm';simp at hm';subst hm'
     exact⟨g,us,t',hm,hB,hg,relL_map.1 hrel,h1⟩
    ·rw[if_neg e] at hq;exact Hp.ob l' q (by rw[hlook,if_neg e];exact hq)
   ·have up:∀ l' q,look l' ((l,AO.var (new.map .t))::s.σ)=some q→∃ q',look l' ((l,AO.var (junkL cs))::s.σ)=some q':=by
     intro l' q hq
     rw[hlook] at hq ⊢
     by_cases e:l'=l
     ·exact⟨_,by rw[if_pos e]⟩
     ·rw[if_neg e] at hq;exact⟨q,by rw[if_neg e];exact hq⟩
    obtain⟨q1,g1⟩:=up l1 o1 g1
    obtain⟨q2,g2⟩:=up l2 o2 g2
    exact Hp.dj l1 l2 _ _ g1 g2 hne
   ·intro t v hv
    rw[hFe]
    rcases toF_look hv with⟨e,he,hc⟩ | ⟨hn,hv⟩
    ·rcases hc with⟨hg,rfl⟩ | rfl
     ·have hin:=look_mem he
      rw[recψ_mem] at hin
      rcases hin with h | ⟨r,h1,h2⟩
      ·simp at h
      injection h2 with h2 h3
      subst h2;subst h3
      obtain⟨j,hj⟩:=List.getElem?_of_mem h1
      rcases Ren j r hj (hall j (by rw[←hlen];exact (List.getElem?_eq_some_iff.1 hj).1)) with⟨_,_,h⟩ | ⟨h,_⟩
      ·exact h
      ·exact absurd (by rw[hg];exact fun p hp=>by simp at hp) h
     ·simp only[AV.rel]
    ·refine Rph t v hv (fun j r hr _ e=>?_)
     exact look_none hn (r.d,r.e) (recψ_mem.2 (.inr ⟨r,List.mem_of_getElem? hr,rfl⟩)) e
  exact evOps_sound C rest [] _ m kk a w S' psi_nil (ifAll_of hK (hla fun r hr=>by obtain⟨j,hj⟩:=List.getElem?_of_mem hr;exact R.ax j r hj (hall j (by rw[←hlen];exact (List.getElem?_eq_some_iff.1 hj).1))))
theorem evDraw_sound (C:Ctx P T) {own:List Nat} {id:Nat} {Q:Exit→St→Prop} (h:evDraw T P own N ops s Q):Ok P N (.region id ops true) Q s:=by
 unfold evDraw at h
 cases hd0:mem 9998 own&&drawOK 0 ops (preLen own 2 ops.toList) with
 | true =>
  rw[hd0,cond_true] at h
  rw[Bool.and_eq_true] at hd0
  exact evDrawZ_sound C (.inl rfl) hd0.2 h
 | false =>
 rw[hd0,cond_false] at h
 cases hd:drawOK 0 ops (preLen own 0 ops.toList) with
 | true=>rw[hd,cond_true] at h;exact evDrawZ_sound C (.inl rfl) hd h
 | false =>
  rw[hd,cond_false] at h
  cases hd':drawOK 0 ops (preLen own 1 ops.toList) with
  | true=>rw[hd',cond_true] at h;exact evDrawZ_sound C (.inl rfl) hd' h
  | false =>
   rw[hd',cond_false] at h
   cases hd2:drawOK 1 ops (preLen own 0 ops.toList) with
   | true =>
    rw[hd2,cond_true] at h
    exact evDrawZ_sound C (.inr ⟨rfl,h.1⟩) hd2 h.2
   | false=>rw[hd2] at h;exact evDrawS_sound C h
end
end
section
def lastOf:List Oper→Option (List Oper×Oper)
 | []=>none
 | [o]=>some ([],o)
 | o::r=>match lastOf r with | some (l,x)=>some (o::l,x) | none=>none
omit [Gm] in
theorem lastOf_spec:∀ {l r:List Oper} {o:Oper},lastOf l=some (r,o)→l=r++[o]
 | [],r,o,h=>by simp[lastOf] at h
 | [x],r,o,h=>by
  simp only[lastOf,Option.some.injEq,Prod.mk.injEq] at h
  obtain⟨rfl,rfl⟩:=h;rfl
 | x::y::l,r,o,h=>by
  simp only[lastOf] at h
  split at h
  ·rename_i l' x' hl
   simp only[Option.some.injEq,Prod.mk.injEq] at h
   obtain⟨rfl,rfl⟩:=h
   rw[lastOf_spec hl];rfl
  ·cases h
def lastK (T:TyTab) (P:Program) (own:List Nat) (N:Nat) (ops:Array Oper) (Q:Exit→St→Prop) (o:Oper) (s:St):Prop :=
 match o.guard with
 | some _=>False
 | none=>match o.op with
  | .panic x=>match opd [] s.φ [] x with
   | some (.t (.iface t y))=>Q (.panic []) ⟨[(0,.t (.iface t y))],s.σ⟩
   | _=>False
  | .call { callee:=.value f,args:=as,.. }=>match opd [] s.φ [] f,lkAll (opd [] s.φ []) as.toList with
   | some (.t (.fn g caps)),some vs=>bif mem (10000+g) own then Ent P g∧scallP P N o.dst s (Q .normal) (Q (.panic [])) g (vs++caps.map .t) else evOps T P own N ops [o] [] s (Q .normal)
   | some (.fn g caps),some vs=>bif mem (10000+g) own then Ent P g∧scallP P N o.dst s (Q .normal) (Q (.panic [])) g (vs++caps) else evOps T P own N ops [o] [] s (Q .normal)
   | _,_=>False
  | _=>evOps T P own N ops [o] [] s (Q .normal)
def mayP:Op→Bool
 | .panic _=>true
 | .call { callee:=.value _,.. }=>true
 | _=>false
def evRegL (T:TyTab) (P:Program) (own:List Nat) (N:Nat) (ops:Array Oper) (Q:Exit→St→Prop) (l:List Oper) (s:St):Prop :=
 match lastOf l with
 | some (l',o)=>bif mayP o.op then evOps T P own N ops l' [] s (lastK T P own N ops Q o) else evOps T P own N ops l [] s (Q .normal)
 | none=>Q .normal s
def flagS (own:List Nat) (o:Oper):Option FuncId :=
 match o.guard,o.op with
 | none,.call { callee:=.value (.func g),.. }=>bif mem (10000+g) own then some g else none
 | _,_=>none
def preP (own:List Nat):List Oper→List Oper
 | []=>[]
 | o::r=>match flagS own o with | some _=>[] | none=>o::preP own r
def postP (own:List Nat):List Oper→List Oper
 | []=>[]
 | o::r=>match flagS own o with | some _=>o::r | none=>postP own r
def argsOf:Op→Array Operand
 | .call { args:=as,.. }=>as
 | _=>#[]
def evRegQ (T:TyTab) (P:Program) (own:List Nat) (N:Nat) (ops:Array Oper) (Q:Exit→St→Prop):Nat→List Oper→St→Prop
 | 0,_,_=>False
 | f+1,l,s=>match postP own l with
  | o::rest=>evOps T P own N ops (preP own l) [] s (fun s1=>match flagS own o,lkAll (opd [] s1.φ []) (argsOf o.op).toList with
   | some g,some vs=>Ent P g∧scallP P N o.dst s1 (fun s2=>evRegQ T P own N ops Q f rest s2) (Q (.panic [])) g vs
   | _,_=>False)
  | []=>evRegL T P own N ops Q l s
def evRegP (T:TyTab) (P:Program) (own:List Nat) (N:Nat) (ops:Array Oper) (Q:Exit→St→Prop) (s:St):Prop :=
 evRegQ T P own N ops Q (ops.toList.length+1) ops.toList s
def ev (T:TyTab) (P:Program) (own:List Nat) (N:Nat):Code→(Exit→St→Prop)→St→Prop
 | .skip,Q,s=>Q .normal s
 | .label _,Q,s=>Q .normal s
 | .region _ ops draw,Q,s=>bif draw then evDraw T P own N ops s Q else bif mem 9999 own then evRegP T P own N ops Q s else evOps T P own N ops ops.toList [] s (Q .normal)
 | .seq x y,Q,s=>ev T P own N x (thenQ (ev T P own N y Q) Q) s
 | .cond c x y,Q,s=>match opd [] s.φ [] c with
  | some (.t (.v (.bool b)))=>(b=true→ev T P own N x Q s)∧(b=false→ev T P own N y Q s)
  | _=>False
 | .block id c,Q,s=>ev T P own N c (blockQ id Q) s
 | .loop c,Q,s=>Ok P N (.loop c) Q s
 | .exit id,Q,s=>Q (.exit id) s
 | .ret,Q,s=>Q .ret s
 | _,_,_=>False
section
variable {P:Program} {T:TyTab} {N:Nat}
theorem lastK_sound (C:Ctx P T) {own:List Nat} {ops:Array Oper} {Q:Exit→St→Prop} {o:Oper} {B0 F0:Nat→Prop} {w0:PW} {s:St} {m:Nat→Value} {kk:Nat→Nat} {a:Act} {w:World}
  (S:Sim N B0 F0 w0 s m kk a w) (h:lastK T P own N ops Q o s):wpList P ops (Post N B0 F0 w0 Q) [o] a w:=by
 unfold lastK at h
 split at h
 ·exact h.elim
 ·rename_i hg
  have hwant:Region.wanted o (yielded ops a.tmps)=true:=by simp[Region.wanted,hg]
  have hl:=opd_rel S psi_nil (gs:=[]) (fun p hp=>by simp at hp)
  split at h
  ·rename_i x ho
   split at h
   ·rename_i t y hx
    have hr:=hl x _ hx
    refine wpList_step fun K hK=>?_
    rw[if_pos hwant]
    have hr':=hr
    simp only[AV.rel,TV.rel] at hr'
    obtain⟨u,hu,_⟩:=hr'
    unfold Oper.wp
    have hrun:(execOp a.eval o).run P w=.halt (.panic (a.eval x)) w:=by
     rw[hu]
     simp only[execOp,ho,Instr.panic,goPanic,hu]
     rfl
    rw[hrun,Oper.upon_panic]
    simp only[AV.rel] at hr
    exact⟨s,m,kk,⟨_,_,h,rfl,hr⟩,S⟩
   ·exact h.elim
  ·rename_i f as ts ho
   split at h
   ·rename_i g caps vs hf hvs
    have hfr:=hl f _ hf
    simp only[AV.rel,TV.rel] at hfr
    obtain⟨us,hfe,hcr⟩:=hfr
    cases hm:mem (10000+g) own with
    | false=>rw[hm,cond_false] at h;exact evOps_sound C [o] [] s m kk a w S psi_nil h
    | true =>
     rw[hm,cond_true] at h
     refine wpList_step fun K hK=>?_
     rw[if_pos hwant]
     refine scallP_goes S h.1 (AV.relL_append (lkAll_rel hl _ _ hvs) (relL_map.1 hcr)) h.2 ?_ K _ (fun a' w' s' m' kk' hs S'=>hK _ _ (wpList_nil ⟨s',m',kk',hs,S'⟩)) (fun a' w' s' m' kk' r v hs S' hr=>⟨s',m',kk',⟨r,v,hs,rfl,hr⟩,S'⟩)
     simp only[execOp,ho,resolve,hfe,Deferred.ofValue,Sem.run_bind,Sem.run_pure,Result.andThen_ok,invoke]
     congr 2
     simp
   ·rename_i g caps vs hf hvs
    have hfr:=hl f _ hf
    simp only[AV.rel] at hfr
    obtain⟨us,hfe,hcr⟩:=hfr
    cases hm:mem (10000+g) own with
    | false=>rw[hm,cond_false] at h;exact evOps_sound C [o] [] s m kk a w S psi_nil h
    | true =>
     rw[hm,cond_true] at h
     refine wpList_step fun K hK=>?_
     rw[if_pos hwant]
     refine scallP_goes S h.1 (AV.relL_append (lkAll_rel hl _ _ hvs) hcr) h.2 ?_ K _ (fun a' w' s' m' kk' hs S'=>hK _ _ (wpList_nil ⟨s',m',kk',hs,S'⟩)) (fun a' w' s' m' kk' r v hs S' hr=>⟨s',m',kk',⟨r,v,hs,rfl,hr⟩,S'⟩)
     simp only[execOp,ho,resolve,hfe,Deferred.ofValue,Sem.run_bind,Sem.run_pure,Result.andThen_ok,invoke]
     congr 2
     simp
   ·exact h.elim
  ·exact evOps_sound C [o] [] s m kk a w S psi_nil h
omit [Gm] in
theorem lastOf_none {l:List Oper} (hn:lastOf l=none):l=[]:=by
 match l,hn with
 | [],_=>rfl
 | [x],hn=>simp[lastOf] at hn
 | x::y::l,hn =>
  exfalso
  have:∀ (l:List Oper) (y:Oper),lastOf (y::l)≠none:=by
   intro l
   induction l with
   | nil=>intro y;simp[lastOf]
   | cons z l ih =>
    intro y
    simp only[lastOf]
    cases hz:lastOf (z::l) with
    | none=>exact absurd hz (ih z)
    | some q=>simp
  exact this _ _ hn
theorem evRegL_sound (C:Ctx P T) {own:List Nat} {ops:Array Oper} {Q:Exit→St→Prop} {l:List Oper} {B0 F0:Nat→Prop} {w0:PW} {s:St} {m:Nat→Value} {kk:Nat→Nat} {a:Act} {w:World}
  (S:Sim N B0 F0 w0 s m kk a w) (h:evRegL T P own N ops Q l s):wpList P ops (Post N B0 F0 w0 Q) l a w:=by
 unfold evRegL at h
 split at h
 ·rename_i l' o hlo
  cases hp:mayP o.op with
  | true =>
   rw[hp,cond_true] at h
   rw[lastOf_spec hlo]
   exact evOps_go C (fun s m kk a w hk S=>lastK_sound C S hk) l' [] s m kk a w S psi_nil h
  | false =>
   rw[hp,cond_false] at h
   exact evOps_sound C _ [] s m kk a w S psi_nil h
 ·rename_i hn
  rw[lastOf_none hn]
  exact wpList_nil ⟨s,m,kk,h,S⟩
omit [Gm] in
theorem prePost (own:List Nat):∀ l:List Oper,l=preP own l++postP own l
 | []=>rfl
 | o::r=>by
  unfold preP postP
  cases flagS own o with
  | some g=>rfl
  | none=>simp only[List.cons_append];rw[←prePost own r]
omit [Gm] in
theorem flagS_spec {own:List Nat} {o:Oper} {g:FuncId} (h:flagS own o=some g):o.guard=none∧∃ c,o.op=.call c∧c.callee=.value (.func g):=by
 unfold flagS at h
 split at h
 ·rename_i g' as ts ho hop
  cases hm:mem (10000+g') own with
  | true=>rw[hm,cond_true] at h;injection h with h;subst h;exact⟨by assumption,_,hop,rfl⟩
  | false=>rw[hm] at h;cases h
 ·cases h
theorem evRegQ_sound (C:Ctx P T) {own:List Nat} {ops:Array Oper} {Q:Exit→St→Prop} {B0 F0:Nat→Prop} {w0:PW}:∀ (f:Nat) (l:List Oper) (s:St) (m:Nat→Value) (kk:Nat→Nat) (a:Act) (w:World),
  Sim N B0 F0 w0 s m kk a w→evRegQ T P own N ops Q f l s→wpList P ops (Post N B0 F0 w0 Q) l a w
 | 0,_,_,_,_,_,_,_,h=>h.elim
 | f+1,l,s,m,kk,a,w,S,h=>by
  unfold evRegQ at h
  split at h
  ·rename_i o rest hpo
   rw[prePost own l,hpo]
   refine evOps_go C (fun s1 m1 kk1 a1 w1 hk S1=>?_) _ [] s m kk a w S psi_nil h
   split at hk
   ·rename_i g vs hfl hvs
    obtain⟨hg,c,hop,hcal⟩:=flagS_spec hfl
    have hl:=opd_rel S1 psi_nil (gs:=[]) (fun p hp=>by simp at hp)
    have hwant:Region.wanted o (yielded ops a1.tmps)=true:=by simp[Region.wanted,hg]
    refine wpList_step fun K hK=>?_
    rw[if_pos hwant]
    have hargs:argsOf o.op=c.args:=by rw[hop];rfl
    rw[hargs] at hvs
    refine scallP_goes S1 hk.1 (lkAll_rel hl _ _ hvs) hk.2 ?_ K _ (fun a' w' s' m' kk' hs S'=>hK _ _ (evRegQ_sound C f rest s' m' kk' a' w' S' hs)) (fun a' w' s' m' kk' r v hs S' hr=>⟨s',m',kk',⟨r,v,hs,rfl,hr⟩,S'⟩)
    have hmk:c.args.map a1.eval=(c.args.toList.map a1.eval).toArray:=by rw[←Array.toList_map]
    simp only[execOp,hop,resolve,hcal,Act.eval,Deferred.ofValue,Sem.run_bind,Sem.run_pure,Result.andThen_ok,invoke]
    rw[hmk]
    simp
   ·exact hk.elim
  ·exact evRegL_sound C S h
theorem evRegP_sound (C:Ctx P T) {own:List Nat} {i:Nat} {ops:Array Oper} {Q:Exit→St→Prop} {s:St} (h:evRegP T P own N ops Q s):Ok P N (.region i ops false) Q s:=by
 intro B0 F0 w0 m kk a w S
 refine wp_region_list ?_
 exact evRegQ_sound C _ _ s m kk a w S h
theorem ev_sound (C:Ctx P T) {own:List Nat}:∀ (c:Code) (Q:Exit→St→Prop) (s:St),ev T P own N c Q s→Ok P N c Q s
 | .skip,Q,s,h=>fun B0 F0 w0 m kk a w S=>wp_skip ⟨s,m,kk,h,S⟩
 | .label _,Q,s,h=>fun B0 F0 w0 m kk a w S=>wp_label ⟨s,m,kk,h,S⟩
 | .region i ops draw,Q,s,h=>by
  cases draw with
  | true=>exact evDraw_sound C h
  | false =>
   simp only[ev,cond_false] at h
   cases hm:mem 9999 own with
   | true=>rw[hm,cond_true] at h;exact evRegP_sound C h
   | false =>
    rw[hm,cond_false] at h
    exact fun B0 F0 w0 m kk a w S=>wp_region_list (evOps_sound C ops.toList [] s m kk a w S psi_nil h)
 | .seq x y,Q,s,h=>Ok.seq (ev_sound C x _ s h) (fun s' h'=>ev_sound C y Q s' h')
 | .cond c x y,Q,s,h=>by
  intro B0 F0 w0 m kk a w S
  simp only[ev] at h
  split at h
  ·rename_i b hb
   have hr:=opd_rel S psi_nil (gs:=[]) (fun p hp=>by simp at hp) c _ hb
   simp only[AV.rel,TV.rel] at hr
   exact wp_cond_split hr.1 (fun e=>ev_sound C x Q s (h.1 e) B0 F0 w0 m kk a w S) (fun e=>ev_sound C y Q s (h.2 e) B0 F0 w0 m kk a w S)
  ·exact h.elim
 | .block id c,Q,s,h=>Ok.block (ev_sound C c _ s h)
 | .loop c,Q,s,h=>h
 | .exit id,Q,s,h=>fun B0 F0 w0 m kk a w S=>wp_exit ⟨s,m,kk,h,S⟩
 | .ret,Q,s,h=>fun B0 F0 w0 m kk a w S=>wp_ret ⟨s,m,kk,h,S⟩
 | .rangeFunc ..,_,_,h=>h.elim
 | .scope _,_,_,h=>h.elim
 | .goto _,_,_,h=>h.elim
 | .refuse _,_,_,h=>h.elim
end
end
section
def cellIs:TV→Value→Bool
 | .v (.int k n),.int k' n'=>sameKind k k'&&n==n'
 | .v (.bool b),.bool b'=>b==b'
 | .v (.string s),.string s'=>Nat.beq s.size 0&&Nat.beq s'.size 0
 | .v (.slice none 0 0),.slice none 0 0=>true
 | .v (.pointer none),.pointer none=>true
 | .v (.map none),.map none=>true
 | .v .nilFunc,.nilFunc=>true
 | .v .nilIface,.nilIface=>true
 | _,_=>false
def cellsAre:List TV→List Value→Bool
 | [],[]=>true
 | x::xs,u::us=>cellIs x u&&cellsAre xs us
 | _,_=>false
def pairsAre:List (Nat×TypeId)→List Field→Bool
 | [],[]=>true
 | (o,t)::r,f::fs=>Nat.beq o f.offset&&Nat.beq t f.type&&pairsAre r fs
 | _,_=>false
def tyIs:Ty→TypeDesc→Bool
 | .bool,.bool=>true
 | .int k,.int k'=>sameKind k k'
 | .string,.string=>true
 | .ptr,.pointer _=>true
 | .slice e,.slice e'=>Nat.beq e e'
 | .array n e,.array n' e'=>Nat.beq n n'&&Nat.beq e e'
 | .struct fs,.struct a=>pairsAre fs a.toList
 | .map k e,.map k' e'=>Nat.beq k k'&&Nat.beq e e'
 | .func,.func ..=>true
 | .iface,.interface _=>true
 | _,_=>false
def sameB:Bool→Bool→Bool
 | true,true=>true
 | false,false=>true
 | _,_=>false
def tiIs (P:Program) (t:TypeId) (i:TI):Bool :=
 match P.info? t,P.underlying t with
 | some info,some d=>tyIs i.d d&&Nat.beq info.size i.size&&Nat.beq info.bytes i.bytes&&(match info.zero with
  | some z=>cellsAre i.zero z.cells.toList&&Nat.beq z.cells.size i.size&&sameB (aggV z) i.d.agg
  | none=>false)
 | _,_=>false
def closedTI (l:List (Nat×TI)) (i:TI):Bool :=
 match i.d with
 | .struct fs=>fs.all fun p=>(look p.2 l).isSome
 | _=>true
def tabIs (P:Program) (all:List (Nat×TI)):List (Nat×TI)→Bool
 | []=>true
 | (t,i)::r=>tiIs P t i&&closedTI all i&&tabIs P all r
omit [Gm] in
theorem cellIs_spec {x:TV} {u:Value} (h:cellIs x u=true) (w:World) (F:Nat→Prop):x.rel w F u∧u.oneCell'=true:=by
 unfold cellIs at h
 split at h <;> first | (cases h;done) | skip
 ·simp only[Bool.and_eq_true] at h
  have:=sameKind_eq h.1;subst this
  have:=eq_of_beq h.2;subst this
  exact⟨by simp[TV.rel,scal],rfl⟩
 ·have:=eq_of_beq h;subst this
  exact⟨by simp[TV.rel,scal],rfl⟩
 ·rename_i s s'
  simp only[Bool.and_eq_true] at h
  have h1:=Nat.eq_of_beq_eq_true h.1
  have h2:=Nat.eq_of_beq_eq_true h.2
  have e:s'=s:=by
   obtain⟨⟨l⟩⟩:=s
   obtain⟨⟨l'⟩⟩:=s'
   have a1:l.length=0:=h1
   have a2:l'.length=0:=h2
   rw[List.eq_nil_of_length_eq_zero a1,List.eq_nil_of_length_eq_zero a2]
  subst e
  exact⟨by simp[TV.rel,scal],rfl⟩
 all_goals exact⟨by simp[TV.rel,scal],rfl⟩
omit [Gm] in
theorem cellsAre_spec:∀ {xs:List TV} {us:List Value},cellsAre xs us=true→(∀ w F,TV.relL w F xs us)∧OneAll us
 | [],[],_=>⟨fun w F=>by simp[TV.relL],fun u hu=>by simp at hu⟩
 | x::xs,u::us,h=>by
  simp only[cellsAre,Bool.and_eq_true] at h
  obtain⟨h1,h2⟩:=cellsAre_spec h.2
  refine⟨fun w F=>?_,?_⟩
  ·simp only[TV.relL];exact⟨u,us,rfl,(cellIs_spec h.1 w F).1,h1 w F⟩
  ·intro v hv
   rcases List.mem_cons.1 hv with rfl | hv
   ·exact (cellIs_spec h.1 default (fun _=>True)).2
   ·exact h2 v hv
 | [],_::_,h=>by cases h
 | _::_,[],h=>by cases h
omit [Gm] in
theorem pairsAre_spec:∀ {fs:List (Nat×TypeId)} {l:List Field},pairsAre fs l=true→fs=l.map (fun f=>(f.offset,f.type))
 | [],[],_=>rfl
 | (o,t)::r,f::fs,h=>by
  simp only[pairsAre,Bool.and_eq_true] at h
  rw[List.map_cons,←pairsAre_spec h.2,Nat.eq_of_beq_eq_true h.1.1,Nat.eq_of_beq_eq_true h.1.2]
 | [],_::_,h=>by cases h
 | _::_,[],h=>by cases h
omit [Gm] in
theorem tyIs_spec {d:Ty} {u:TypeDesc} (h:tyIs d u=true):d.fits u:=by
 unfold tyIs at h
 split at h <;> first | (cases h;done) | skip
 ·rfl
 ·have:=sameKind_eq h;subst this;rfl
 ·rfl
 ·exact⟨_,rfl⟩
 ·have:=Nat.eq_of_beq_eq_true h;subst this;rfl
 ·simp only[Bool.and_eq_true] at h
  have h1:=Nat.eq_of_beq_eq_true h.1
  have h2:=Nat.eq_of_beq_eq_true h.2
  subst h1;subst h2;rfl
 ·exact⟨_,rfl,pairsAre_spec h⟩
 ·simp only[Bool.and_eq_true] at h
  have h1:=Nat.eq_of_beq_eq_true h.1
  have h2:=Nat.eq_of_beq_eq_true h.2
  subst h1;subst h2;rfl
 ·exact⟨_,_,_,rfl⟩
 ·exact⟨_,rfl⟩
omit [Gm] in
theorem tabIs_mem {P:Program} {all:List (Nat×TI)}:∀ {l:List (Nat×TI)},tabIs P all l=true→∀ p∈l,tiIs P p.1 p.2=true∧closedTI all p.2=true
 | [],_,p,h=>by simp at h
 | (t,i)::r,h,p,hp=>by
  simp only[tabIs,Bool.and_eq_true] at h
  rcases List.mem_cons.1 hp with rfl | hp
  ·exact h.1
  ·exact tabIs_mem h.2 p hp
omit [Gm] in
theorem tok_of {P:Program} {l:List (Nat×TI)} (h:tabIs P l l=true):TOK P (fun t=>look t l):=by
 intro t i hi
 obtain⟨h1,h2⟩:=tabIs_mem h (t,i) (look_mem hi)
 unfold tiIs at h1
 split at h1
 ·rename_i info d hinfo hd
  simp only[Bool.and_eq_true] at h1
  obtain⟨⟨⟨a1,a2⟩,a3⟩,a4⟩:=h1
  refine⟨info,d,hinfo,hd,tyIs_spec a1,Nat.eq_of_beq_eq_true a2,Nat.eq_of_beq_eq_true a3,?_,?_⟩
  ·split at a4
   ·rename_i z hz
    simp only[Bool.and_eq_true] at a4
    obtain⟨b1,b2⟩:=cellsAre_spec a4.1.1
    exact⟨z,hz,b1,b2,Nat.eq_of_beq_eq_true a4.1.2⟩
   ·cases a4
  refine⟨?_,?_⟩
  ·intro fs hfs p hp
   unfold closedTI at h2
   simp only[hfs,List.all_eq_true] at h2
   exact Option.isSome_iff_exists.1 (h2 p hp)
  ·intro z hz
   rw[hz] at a4
   simp only[Bool.and_eq_true] at a4
   have:=a4.2
   unfold sameB at this
   split at this <;> simp_all
 ·cases h1
end
section
def leafIs:Nat→TypeDesc→Bool
 | 0,.int _=>true
 | 1,.bool=>true
 | 2,.string=>true
 | _,_=>false
def eqFieldsB (P:Program):Nat→List Nat→List Field→Bool
 | _,[],[]=>true
 | i, l :: ls, f :: fs => Nat.beq f.offset i && !(f.name == "_") && (match P.underlying f.type with | some d => leafIs l d | none => false) && eqFieldsB P (i + 1) ls fs
 | _,_,_=>false
def eqStructB (P:Program) (t:TypeId) (ls:List Nat):Bool :=
 (match P.underlying t with | some (.struct fs)=>eqFieldsB P 0 ls fs.toList | _=>false)&&!P.stoodInHeld t&&!P.eqGuardType P.depth t
section
variable {P:Program}
omit [Gm] in
theorem part_leaf {t:TypeId} {d:TypeDesc} {l:Nat} (hu:P.underlying t=some d) (hl:leafIs l d=true) {xs:Array Value} {off:Nat} {v:Value} (hx:xs[off]?=some v) (w:World):(part t xs off).run P w=.ok v w:=by
 unfold leafIs at hl
 split at hl <;> first | (cases hl;done) | skip
 all_goals simp[part,isAgg,Sem.run_bind,run_underlying hu,hx]
omit [Gm] in
theorem leaf_int {t:TypeId} {q:IntKind} (hu:P.underlying t=some (.int q)) (d:Nat) (k:IntKind) (a b:Int) (w:World):(Op.equalIn (d+1) t (.int k a) (.int k b)).run P w=.ok (a==b) w:=by
 simp[Op.equalIn,run_underlying hu]
omit [Gm] in
theorem leaf_bool {t:TypeId} (hu:P.underlying t=some .bool) (d:Nat) (a b:Bool) (w:World):(Op.equalIn (d+1) t (.bool a) (.bool b)).run P w=.ok (a==b) w:=by
 simp[Op.equalIn,run_underlying hu]
omit [Gm] in
theorem leaf_string {t:TypeId} (hu:P.underlying t=some .string) (d:Nat) (a b:ByteArray) (w:World):(Op.equalIn (d+1) t (.string a) (.string b)).run P w=.ok (a.toList==b.toList) w:=by
 simp[Op.equalIn,run_underlying hu,beq_toListBytes]
omit [Gm] in
theorem eqFields_run (w:World) (F:Nat→Prop) (X Y:List Value):∀ (ls:List Nat) (fs:List Field) (i:Nat) (xs ys:List TV) (us vs:List Value) (r:Bool),eqFieldsB P i ls fs=true→TV.relL w F xs us→TV.relL w F ys vs →
  X.drop i=us→Y.drop i=vs→eqCells ls xs ys=some r→(Op.eqFields 9999 X.toArray Y.toArray fs).run P w=.ok r w
 | [],[],i,xs,ys,us,vs,r,hb,hx,hy,hX,hY,h=>by
  cases xs <;> cases ys <;> simp[eqCells] at h
  subst h;simp[Op.eqFields]
 | [],f::fs,i,xs,ys,us,vs,r,hb,hx,hy,hX,hY,h=>by simp[eqFieldsB] at hb
 | l::ls,[],i,xs,ys,us,vs,r,hb,hx,hy,hX,hY,h=>by simp[eqFieldsB] at hb
 | l::ls,f::fs,i,xs,ys,us,vs,r,hb,hx,hy,hX,hY,h=>by
  simp only[eqFieldsB,Bool.and_eq_true,Bool.not_eq_true'] at hb
  obtain⟨⟨⟨h1,h2⟩,h3⟩,h4⟩:=hb
  have h1:=Nat.eq_of_beq_eq_true h1
  have hn : f.name ≠ "_" := by simpa using h2
  have step:∀ (x y:Value) (us' vs':List Value) (a s:Bool),us=x::us'→vs=y::vs'→(Op.equalIn 9999 f.type x y).run P w=.ok a w →
    (Op.eqFields 9999 X.toArray Y.toArray fs).run P w=.ok s w→(Op.eqFields 9999 X.toArray Y.toArray (f::fs)).run P w=.ok (a&&s) w:=by
   intro x y us' vs' a s e1 e2 he hr
   have gx:X.toArray[f.offset]?=some x:=by
    rw[h1,List.getElem?_toArray]
    have:=congrArg (fun l=>l[0]?) (hX.trans e1)
    simpa using this
   have gy:Y.toArray[f.offset]?=some y:=by
    rw[h1,List.getElem?_toArray]
    have:=congrArg (fun l=>l[0]?) (hY.trans e2)
    simpa using this
   split at h3
   ·rename_i d hd
    rw[Op.eqFields]
    simp only[if_pos hn,Sem.run_bind,part_leaf hd h3 gx w,part_leaf hd h3 gy w,he,Result.andThen_ok]
    cases a
    ·simp
    ·simpa using hr
   ·cases h3
  have drop1:∀ {Z:List Value} {z:Value} {zs:List Value},Z.drop i=z::zs→Z.drop (i+1)=zs:=by
   intro Z z zs e
   rw[←List.drop_drop,e];rfl
  have cells:∀ (x y:TV) (xs' ys':List TV) (a s:Bool),xs=x::xs'→ys=y::ys'→eqCells ls xs' ys'=some s →
    (∀ u v,x.rel w F u→y.rel w F v→(Op.equalIn 9999 f.type u v).run P w=.ok a w)→(Op.eqFields 9999 X.toArray Y.toArray (f::fs)).run P w=.ok (a&&s) w:=by
   intro x y xs' ys' a s e1 e2 hc hl
   subst e1;subst e2
   cases us with
   | nil=>simp[TV.relL] at hx
   | cons u us =>
    cases vs with
    | nil=>simp[TV.relL] at hy
    | cons v vs =>
     simp only[TV.relL] at hx hy
     obtain⟨u0,us0,e1,hx1,hx2⟩:=hx
     injection e1 with e1 e1';subst e1;subst e1'
     obtain⟨v0,vs0,e2,hy1,hy2⟩:=hy
     injection e2 with e2 e2';subst e2;subst e2'
     exact step u v us vs a s rfl rfl (hl u v hx1 hy1) (eqFields_run w F X Y ls fs (i+1) xs' ys' us vs s h4 hx2 hy2 (drop1 hX) (drop1 hY) hc)
  split at h3
  ·rename_i d hd
   unfold eqCells at h
   split at h
   ·rename_i e0;cases e0
   ·rename_i ls0 k a xs0 k2 b ys0 e0
    injection e0 with e0 e0';subst e0;subst e0'
    split at h
    ·rename_i s hs
     cases hk:sameKind k k2 with
     | false=>rw[hk] at h;cases h
     | true =>
      rw[hk,cond_true] at h
      injection h with h;subst h
      have hk:=sameKind_eq hk;subst hk
      refine cells _ _ _ _ _ _ rfl rfl hs ?_
      intro u v hu hv
      simp only[TV.rel] at hu hv
      obtain⟨rfl,_⟩:=hu
      obtain⟨rfl,_⟩:=hv
      cases d <;> simp[leafIs] at h3
      exact leaf_int hd 9998 k a b w
    ·cases h
   ·rename_i ls0 a xs0 b ys0 e0
    injection e0 with e0 e0';subst e0;subst e0'
    split at h
    ·rename_i s hs
     injection h with h;subst h
     refine cells _ _ _ _ _ _ rfl rfl hs ?_
     intro u v hu hv
     simp only[TV.rel] at hu hv
     obtain⟨rfl,_⟩:=hu
     obtain⟨rfl,_⟩:=hv
     cases d <;> simp[leafIs] at h3
     exact leaf_bool hd 9998 a b w
    ·cases h
   ·rename_i ls0 a xs0 b ys0 e0
    injection e0 with e0 e0';subst e0;subst e0'
    split at h
    ·rename_i s hs
     injection h with h;subst h
     refine cells _ _ _ _ _ _ rfl rfl hs ?_
     intro u v hu hv
     simp only[TV.rel] at hu hv
     obtain⟨rfl,_⟩:=hu
     obtain⟨rfl,_⟩:=hv
     cases d <;> simp[leafIs] at h3
     exact leaf_string hd 9998 a b w
    ·cases h
   ·cases h
  ·cases h3
omit [Gm] in
theorem eqFact_of {t:TypeId} {ls:List Nat} (h:eqStructB P t ls=true):EqFact P t ls:=by
 unfold eqStructB at h
 simp only[Bool.and_eq_true,Bool.not_eq_true'] at h
 obtain⟨⟨h1,h2⟩,h3⟩:=h
 split at h1
 ·rename_i fs hf
  have hfo:P.fieldsOf t=fs:=by simp[Program.fieldsOf,hf]
  refine⟨h3,fun w F xs ys us vs r hx hy hc=>?_⟩
  rw[run_equalIn_struct w 9999 t us.toArray vs.toArray (by rw[hfo];exact hf) h2,hfo]
  exact eqFields_run w F us vs ls fs.toList 0 xs ys us vs r h1 hx hy rfl rfl hc
 ·cases h1
end
def eqsAre (P:Program):List (Nat×TI)→Bool
 | []=>true
 | (t,i)::r=>(match i.eqs with | []=>true | l::ls=>eqStructB P t (l::ls))&&eqsAre P r
omit [Gm] in
theorem eqs_of {P:Program} {l:List (Nat×TI)} (h:eqsAre P l=true):∀ t i k ls,look t l=some i→i.eqs=k::ls→EqFact P t (k::ls):=by
 induction l with
 | nil=>intro t i k ls hl;simp[look] at hl
 | cons p r ih =>
  obtain⟨t',i'⟩:=p
  simp only[eqsAre,Bool.and_eq_true] at h
  intro t i k ls hl he
  rw[look_cons] at hl
  by_cases e:t=t'
  ·simp only[e,if_true,Option.some.injEq] at hl
   subst hl;subst e
   have:=h.1
   rw[he] at this
   exact eqFact_of this
  ·simp only[e,if_false] at hl
   exact ih h.2 t i k ls hl he
theorem ctx_of {P:Program} {l:List (Nat×TI)} (h1:tabIs P l l=true) (h2:eqsAre P l=true) (h3:P.follows .mixedOrders=true):Ctx P (fun t=>look t l) :=
 ⟨tok_of h1,eqs_of h2,h3⟩
end
end Go.Proofs.YtihbimigddlbaaaGreatDoor.Pl
end
noncomputable section
set_option linter.all false
namespace Go.Proofs.YtihbimigddlbaaaGreatDoor.Pl
open Go.RowKit
variable [Gm]
omit [Gm] in
theorem toEq {α:Type} {a b:α} (h:a=b):a=b:=h
omit [Gm] in
theorem wr {n:Int} (h0:0≤n) (h1:n<9223372036854775808):IntKind.i64.wrap n=n:=wrap_small n h0 h1
omit [Gm] in
theorem wr1 {i n:Nat} (h:i<n) (hn:n≤maxLen):IntKind.i64.wrap ((i:Int)+1)=((i+1:Nat):Int):=by
 simp only[maxLen] at hn
 rw[wr (by omega) (by omega)];simp
omit [Gm] in
theorem slotI {n n':Int} (h:n=n'):some (vi n)=some (vi n'):=by rw[h]
omit [Gm] in
theorem slotT {x y:TV} (h:x=y):some (AV.t x)=some (AV.t y):=by rw[h]
section
variable {P:Program}
theorem PC.have {f:FuncId} {args:List TV} {r:TV} {A:Prop} (h:∀ (w:World) (F:Nat→Prop) (us:List Value),TV.relL w F args us→A) (hA:A→PC P f args r):PC P f args r :=
 fun w F us hg hF hr=>hA (h w F us hr) w F us hg hF hr
theorem OC.have {f:FuncId} {args:List TV} {e:TypeId} {k:Nat} {es:List (List TV)} {A:Prop} (h:∀ (w:World) (F:Nat→Prop) (us:List Value),TV.relL w F args us→A) (hA:A→OC P f args e k es):OC P f args e k es :=
 fun w F us hg hF hr=>hA (h w F us hr) w F us hg hF hr
theorem IC.have {f:FuncId} {e:TypeId} {k:Nat} {es:List (List TV)} {args:List TV} {es':List (List TV)} (hA:es.length≤maxLen→IC P f e k es args es'):IC P f e k es args es':=by
 intro w F v vs us hg h1 h2 h3
 refine hA ?_ w F v vs us hg h1 h2 h3
 rcases h3.2 with⟨_,h0⟩ | ⟨g,cap,cur,_,_,_,h4,h5,_⟩
 ·rw[h0];exact Nat.zero_le _
 ·exact Nat.le_trans h4 h5
omit [Gm] in
theorem sl_len {w:World} {F:Nat→Prop} {k:Nat} {es:List (List TV)} {u:Value} (h:(TV.sl k es).rel w F u):es.length≤maxLen:=by
 simp only[TV.rel] at h
 obtain⟨A,c,us,_,h1,h2,_⟩:=h
 exact Nat.le_trans h1 h2
omit [Gm] in
theorem sl_len0 {w:World} {F:Nat→Prop} {k:Nat} {es:List (List TV)} {r:List TV} {us:List Value} (h:TV.relL w F (.sl k es::r) us):es.length≤maxLen:=by
 simp only[TV.relL] at h
 obtain⟨u,us',_,h,_⟩:=h
 exact sl_len h
end
def cI (n:Int):List TV:=[.v (.int .i64 n)]
def encI (l:List Int):TV:=.sl 1 (l.map cI)
def idxI {α:Type} (p:α→Bool) (l:List α):Int:=match l.findIdx? p with | some i=>(i:Int) | none=>-1
omit [Gm] in
theorem idxI_none {α:Type} {p:α→Bool} {l:List α} (h:∀ j (hj:j<l.length),p l[j]=false):idxI p l=-1:=by
 have:l.findIdx? p=none:=by
  rw[List.findIdx?_eq_none_iff]
  intro x hx
  obtain⟨j,hj,rfl⟩:=List.mem_iff_getElem.1 hx
  simp[h j hj]
 simp[idxI,this]
omit [Gm] in
theorem idxI_some {α:Type} {p:α→Bool} {l:List α} {i:Nat} (hi:i<l.length) (h1:p l[i]=true) (h:∀ j (hj:j<l.length),j<i→p l[j]=false):idxI p l=i:=by
 have:l.findIdx? p=some i:=by
  rw[List.findIdx?_eq_some_iff_getElem]
  exact⟨hi,h1,fun j hj=>by simp[h j (by omega) hj]⟩
 simp[idxI,this]
omit [Gm] in
theorem idxI_geq {α:Type} (p:α→Bool) (l:List α):decide (idxI p l≥0)=l.any p:=by
 by_cases h:l.any p=true
 ·rw[h]
  have:(l.findIdx? p).isSome=true:=by rw[List.findIdx?_isSome];exact h
  obtain⟨i,hi⟩:=Option.isSome_iff_exists.1 this
  simp[idxI,hi]
 ·have h':l.any p=false:=by simpa using h
  rw[h']
  rw[idxI_none]
  ·rfl
  ·intro j hj
   rw[List.any_eq_false] at h'
   simpa using h' l[j] (List.getElem_mem hj)
end Go.Proofs.YtihbimigddlbaaaGreatDoor.Pl
namespace Go.Proofs.YtihbimigddlbaaaGreatDoor.Pl
theorem getM {α:Type} {f:α→List TV} {l:List α} {i:Nat} (h:i<l.length):(0:Int)≤(i:Int)∧(l.map f)[((i:Int)).toNat]?=some (f l[i]):=⟨by omega,by simp[h]⟩
theorem ltOf {i n:Nat} (h:decide ((i:Int)<(n:Int))=true):i<n:=by have:=of_decide_eq_true h;omega
theorem geOf {i n:Nat} (h:decide ((i:Int)<(n:Int))=false):n≤i:=by have:=of_decide_eq_false h;omega
theorem noHit {α:Type} {p:α→Bool} {l:List α} {i:Nat} (hi:i<l.length) (h:∀ j (hj:j<l.length),j<i→p l[j]=false) (h1:p l[i]=false):∀ j (hj:j<l.length),j<i+1→p l[j]=false:=by
 intro j hj hlt
 by_cases e:j=i
 ·subst e;exact h1
 ·exact h j hj (by omega)
end Go.Proofs.YtihbimigddlbaaaGreatDoor.Pl
namespace Go.Proofs.YtihbimigddlbaaaGreatDoor.Pl
theorem dec {n i:Nat} (h:i<n):n-(i+1)<n-i:=by omega
end Go.Proofs.YtihbimigddlbaaaGreatDoor.Pl
namespace Go.Proofs.YtihbimigddlbaaaGreatDoor.Pl
end Go.Proofs.YtihbimigddlbaaaGreatDoor.Pl
end
