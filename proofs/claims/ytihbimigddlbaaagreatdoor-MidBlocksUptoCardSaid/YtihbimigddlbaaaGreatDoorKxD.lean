/- A part of the proof: Kx12 Kx13 Kx14 Kx15 Kx15F Kx15G Kx15L. -/
import Derived.Test.YtihbimigddlbaaaGreatDoorKxC
import Derived.Test.YtihbimigddlbaaaGreatDoorPlD
noncomputable section
set_option linter.all false
namespace Go.Proofs.YtihbimigddlbaaaGreatDoor.Kx
open Go.RowKit Go.Proofs.YtihbimigddlbaaaGreatDoor.Pl
section
inductive Ex where
 | nrm
 | exit (id:Nat)
 | ret
 | pan (v:CV)
inductive Rs where
 | val (v:CV)
 | pan (v:CV)
structure Fs where
 φ:Tr CV
 h:Hp
 ds:List (FuncId×List CV×List CV)
def markD (d:Nat):FuncId×List CV×List CV:=(0,[.yld d],[.e0])
def isMark:FuncId×List CV×List CV→Option Nat
 | (0,[.yld d],[.e0])=>some d
 | _=>none
abbrev Cl:=FuncId→List CV→Hp→Option (Rs×Hp)
def putφ (N:Nat) (d:Option Tmp) (v:CV) (φ:Tr CV):Option (Tr CV) :=
 match d with
 | some d=>bif Nat.blt d N then some (φ.set v d) else none
 | none=>some φ
def wantedC (ops:Array Oper) (φ:Tr CV) (o:Oper):Option Bool :=
 match o.guard with
 | none=>some true
 | some (j,want)=>match (ops[j]?).bind (·.dst) with
  | none=>some false
  | some t=>match φ.get t with
   | some (.v (.bool b))=>some (b==want)
   | some (.tup _)=>some false
   | _=>none
inductive Oc where
 | val (v:CV) (h:Hp) (ds:List (FuncId×List CV×List CV))
 | pan (v:CV) (h:Hp)
def callC (cl:Cl) (g:FuncId) (vs:List CV) (h:Hp) (ds:List (FuncId×List CV×List CV)):Option Oc :=
 match cl g vs h with
 | some (.val v,h')=>some (.val v h' ds)
 | some (.pan v,h')=>some (.pan v h')
 | none=>none
def opL (T:TyTab) (G:Gl) (cl:Cl) (lk:Operand→Option CV) (o:Oper) (h:Hp) (ds:List (FuncId×List CV×List CV)):Option Oc :=
 match yieldC T G h.σ lk o.op with
 | some v=>some (.val v h ds)
 | none=>match effC T h lk o.op with
  | some (v,h')=>some (.val v h' ds)
  | none=>match o.op with
   | .call { callee:=.value f,args:=as,.. }=>match lk f,lkAllC lk as.toList with
    | some (.fn g caps),some vs=>callC cl g (vs++caps) h ds
    | _,_=>none
   | .panic x=>match lk x with
    | some (.ifc t v)=>some (.pan (.ifc t v) h)
    | _=>none
   | .defer { callee:=.value f,args:=as,.. }=>match lk f,lkAllC lk as.toList with
    | some (.fn g caps),some vs=>bif (isMark (g,caps,vs)).isSome then none else some (.val unitC h ((g,caps,vs)::ds))
    | _,_=>none
   | _=>none
def opC (T:TyTab) (G:Gl) (cl:Cl) (o:Oper) (s:Fs):Option Oc:=opL T G cl (evalC s.φ) o s.h s.ds
def opsC (T:TyTab) (G:Gl) (cl:Cl) (N:Nat) (ops:Array Oper):List Oper→Fs→Option (Ex×Fs)
 | [],s=>some (.nrm,s)
 | o::r,s=>match wantedC ops s.φ o with
  | some true=>match opC T G cl o s with
   | some (.val v h ds)=>match putφ N o.dst v s.φ with
    | some φ=>opsC T G cl N ops r ⟨φ,h,ds⟩
    | none=>none
   | some (.pan v h)=>some (.pan v,⟨s.φ,h,s.ds⟩)
   | none=>none
  | some false=>match putφ N o.dst unitC s.φ with
   | some φ=>opsC T G cl N ops r ⟨φ,s.h,s.ds⟩
   | none=>none
  | none=>none
def defR (m:Pm) (n:Nat):List (FuncId×List CV×List CV)→List Deferred→Prop
 | [],l=>l=[]
 | x::r,l=>match isMark x with
  | some d=>d<n∧∃ l',l={ target:=.collected (m.b d),args:=#[] }::l'∧defR m n r l'
  | none=>∃ cs us l',l={ target:=.fn (.func x.1) cs,args:=us }::l'∧CV.relL m n x.2.1 cs.toList∧CV.relL m n x.2.2 us.toList∧defR m n r l'
theorem defR_ext {m m':Pm} {n n':Nat} (e:Ext m n m' n'):∀ {ds:List (FuncId×List CV×List CV)} {l:List Deferred},defR m n ds l→defR m' n' ds l
 | [],l,h=>h
 | x::r,l,h=>by
  simp only[defR] at h ⊢
  split at h
  ·obtain⟨hd,l',h1,h2⟩:=h
   exact⟨Nat.lt_of_lt_of_le hd e.le,l',by rw[e.b _ hd];exact h1,defR_ext e h2⟩
  ·obtain⟨cs,us,l',h1,h2,h3,h4⟩:=h
   exact⟨cs,us,l',h1,CV.relL_ext e _ _ h2,CV.relL_ext e _ _ h3,defR_ext e h4⟩
structure FsR (G:Gl) (w0:World) (N:Nat) (m:Pm) (s:Fs) (a:Act) (w:World):Prop where
 mem:Mem G w0 m s.h w
 fr:FrR m s.h.n s.φ a
 sz:a.tmps.size=N
 df:defR m s.h.n s.ds a.defers
theorem FrR.ext {m m':Pm} {n n':Nat} (e:Ext m n m' n') {φ:Tr CV} {a:Act} (h:FrR m n φ a):FrR m' n' φ a:=fun t c hc=>CV.rel_ext e _ _ (h t c hc)
def panR (m:Pm) (n:Nat) (v:CV) (chain:List PanicEntry):Prop:=∃ u,chain=[{ v:=u,recovered:=false }]∧v.rel m n u
def rsR (m:Pm) (n:Nat) (e:Ending):Rs→Prop
 | .val v=>∃ u,e=.returned u∧v.rel m n u
 | .pan v=>∃ ch,e=.panicked ch∧panR m n v ch
def CallR (P:Program) (G:Gl) (w0:World) (f:FuncId) (us:Array Value) (m:Pm) (h:Hp) (w:World) (r:Rs) (h':Hp):Prop :=
 Calls P f us w fun e w'=>∃ m',Mem G w0 m' h' w'∧Stp m h w m' h' w'∧rsR m' h'.n e r
def flat:CV→Bool
 | .v _ | .str _ | .gp _ _ | .e0 | .eu=>true
 | .ptr _ _ | .sl .. | .mp _ | .yld _=>false
 | .agg cs=>go cs
 | .tup cs=>go cs
 | .fn _ cs=>go cs
 | .ifc _ x=>flat x
where go:List CV→Bool
 | []=>true
 | c::cs=>flat c&&go cs
def CallOK (P:Program) (G:Gl) (w0:World) (f:FuncId) (vs:List CV) (us:Array Value) (m:Pm) (h:Hp) (w:World) (r:Rs) (h':Hp):Prop :=
 (Ent P f∧CallR P G w0 f us m h w r h')∨(flat.go vs=true∧∃ v y,r=.val v∧h'=h∧v.rel m h.n y∧(callFunc f us).run P w=.ok (.value y) w)
def ClOK (P:Program) (G:Gl) (w0:World) (cl:Cl):Prop :=
 ∀ f vs h r h' m w us,cl f vs h=some (r,h')→Mem G w0 m h w→CV.relL m h.n vs us→CallOK P G w0 f vs us.toArray m h w r h'
def exR (m:Pm) (n:Nat):Ex→Exit→Prop
 | .nrm,e=>e=.normal
 | .exit i,e=>e=.exit i
 | .ret,e=>e=.ret
 | .pan v,e=>∃ ch,e=.panic ch∧panR m n v ch
def CodeR (G:Gl) (w0:World) (N:Nat) (m:Pm) (h:Hp) (w:World) (x:Ex) (s':Fs):Exit→Act→World→Prop :=
 fun e a' w'=>∃ m',FsR G w0 N m' s' a' w'∧Stp m h w m' s'.h w'∧exR m' s'.h.n x e
section
variable {P:Program} {T:TyTab} {G:Gl} {w0 w:World} {m:Pm} {N:Nat}
theorem putφ_rel {n:Nat} {φ φ':Tr CV} {a:Act} {d:Option Tmp} {v:CV} {y:Value} (F:FrR m n φ a) (hsz:a.tmps.size=N) (hv:v.rel m n y) (hp:putφ N d v φ=some φ'):FrR m n φ' (a.put d y)∧(a.put d y).tmps.size=N∧(a.put d y).defers=a.defers:=by
 cases d with
 | none =>
  simp only[putφ,Option.some.injEq] at hp;subst hp
  exact⟨F,hsz,rfl⟩
 | some d =>
  simp only[putφ] at hp
  cases hb:Nat.blt d N with
  | false=>rw[hb] at hp;cases hp
  | true =>
   rw[hb,cond_true] at hp
   injection hp with hp;subst hp
   have hlt:=blt_lt hb
   refine⟨?_,by simp[Act.put,hsz],rfl⟩
   intro t c hc
   rw[Tr.get_set] at hc
   simp only[Act.put]
   rw[getD_set (by rw[hsz];exact hlt)]
   by_cases h:t=d
   ·simp only[h,if_true,Option.some.injEq] at hc ⊢;subst hc;exact hv
   ·simp only[h,if_false] at hc ⊢;exact F t c hc
theorem wantedC_spec {n:Nat} {φ:Tr CV} {a:Act} (F:FrR m n φ a) {ops:Array Oper} {o:Oper} {b:Bool} (h:wantedC ops φ o=some b):Region.wanted o (yielded ops a.tmps)=b:=by
 unfold wantedC at h
 unfold Region.wanted
 split at h
 ·rename_i hg
  injection h with h;subst h
  simp[hg]
 ·rename_i j want hg
  simp only[hg]
  split at h
  ·rename_i ht
   injection h with h;subst h
   simp[yielded,ht]
  ·rename_i t ht
   split at h
   ·rename_i b' hb
    injection h with h;subst h
    have hr:=F t _ hb
    simp only[CV.rel] at hr
    have h1:=hr.1
    rw[Array.getD_eq_getD_getElem?] at h1
    cases hq:a.tmps[t]? with
    | none=>rw[hq] at h1;simp[undef] at h1
    | some y =>
     rw[hq,Option.getD_some] at h1
     subst h1
     simp[yielded,ht,hq]
   ·rename_i vs hb
    injection h with h;subst h
    have hr:=F t _ hb
    simp only[CV.rel] at hr
    obtain⟨us,h1,_⟩:=hr
    rw[Array.getD_eq_getD_getElem?] at h1
    cases hq:a.tmps[t]? with
    | none=>simp[yielded,ht,hq]
    | some y =>
     rw[hq,Option.getD_some] at h1
     subst h1
     simp[yielded,ht,hq]
   ·cases h
theorem opL_sound (C:Cx P T) {cl:Cl} (hcl:ClOK P G w0 cl) {o:Oper} {lk:Operand→Option CV} {h:Hp} {ds:List (FuncId×List CV×List CV)} {a:Act} {w:World} {m:Pm} (M:Mem G w0 m h w) (hl:∀ x v,lk x=some v→v.rel m h.n (a.eval x)) (hd:defR m h.n ds a.defers) {x:Oc} (hx:opL T G cl lk o h ds=some x) {next:Act→World→Prop} {Q:Exit→Act→World→Prop}
  (hval:∀ v h' ds',x=.val v h' ds'→∀ y m' w' dfs,Mem G w0 m' h' w'→Stp m h w m' h' w'→v.rel m' h'.n y→defR m' h'.n ds' dfs→next ({ a with defers:=dfs }.put o.dst y) w')
  (hpan:∀ v h',x=.pan v h'→∀ m' w' ch,Mem G w0 m' h' w'→Stp m h w m' h' w'→panR m' h'.n v ch→Q (.panic ch) a w'):o.wp P a w next Q:=by
 have ha:∀ {n':Nat} {m':Pm},Ext m h.n m' n'→defR m' n' ds a.defers:=fun e=>defR_ext e hd
 have hself:({ a with defers:=a.defers }:Act)=a:=rfl
 unfold opL at hx
 split at hx
 ·rename_i v hv
  injection hx with hx
  obtain⟨z,hz,hrun⟩:=yieldC_sound C M hl hv
  unfold Oper.wp
  rw[hrun,Oper.upon_value]
  exact hval _ _ _ hx.symm z m w a.defers M (Stp.refl _ _ _) hz hd
 ·split at hx
  ·rename_i v h' hv
   injection hx with hx
   obtain⟨r,y,w',m',hrun,hr,hz,M',St⟩:=effC_sound C M hl hv
   unfold Oper.wp
   rw[hrun]
   have:=hval _ _ _ hx.symm y m' w' a.defers M' St hz (ha St.ext)
   rcases hr with rfl | ⟨rfl,rfl⟩
   ·rw[Oper.upon_value];exact this
   ·rw[Oper.upon_skip];exact this
  ·split at hx
   ·rename_i f as ts ho
    split at hx
    ·rename_i g caps vs hf hvs
     have hfr:=hl f _ hf
     simp only[CV.rel] at hfr
     obtain⟨cs,hfe,hcr⟩:=hfr
     have hrel:=relL_append (lkAllC_rel hl _ _ hvs) hcr
     unfold callC at hx
     have hrun:∀ us:List Value,us=as.toList.map a.eval++cs→(execOp a.eval o).run P w=(callFunc g us.toArray).run P w:=by
      rintro us rfl
      simp only[execOp,ho,resolve,hfe,Deferred.ofValue,Sem.run_bind,Sem.run_pure,Result.andThen_ok,invoke]
      congr 2
      simp
     split at hx
     ·rename_i v h' hc
      injection hx with hx
      rcases hcl g _ _ _ _ m w _ hc M hrel with⟨hent,hcall⟩ | ⟨_,v',y,e,rfl,hy,hval'⟩
      ·unfold Oper.wp
       rw[hrun _ rfl,hent,Oper.upon_enter]
       refine hcall.mono ?_
       rintro e w' ⟨m',M',St,u,rfl,hu⟩
       exact hval _ _ _ hx.symm u m' w' a.defers M' St hu (ha St.ext)
      ·injection e with e;subst e
       unfold Oper.wp
       rw[hrun _ rfl,hval',Oper.upon_value]
       exact hval _ _ _ hx.symm y m w a.defers M (Stp.refl _ _ _) hy hd
     ·rename_i v h' hc
      injection hx with hx
      rcases hcl g _ _ _ _ m w _ hc M hrel with⟨hent,hcall⟩ | ⟨_,v',y,e,rfl,hy,hval'⟩
      ·unfold Oper.wp
       rw[hrun _ rfl,hent,Oper.upon_enter]
       refine hcall.mono ?_
       rintro e w' ⟨m',M',St,ch,rfl,hu⟩
       exact hpan _ _ hx.symm m' w' ch M' St hu
      ·cases e
     ·cases hx
    ·cases hx
   ·rename_i x' ho
    split at hx
    ·rename_i t v hv
     injection hx with hx
     have hr:=hl x' _ hv
     have hr':=hr
     simp only[CV.rel] at hr'
     obtain⟨u,he,_⟩:=hr'
     unfold Oper.wp
     have hrun:(execOp a.eval o).run P w=.halt (.panic (a.eval x')) w:=by
      simp[execOp,ho,he,Instr.panic,goPanic,Sem.run]
     rw[hrun,Oper.upon_panic]
     exact hpan _ _ hx.symm m w _ M (Stp.refl _ _ _) ⟨_,rfl,hr⟩
    ·cases hx
   ·rename_i f as ts ho
    split at hx
    ·rename_i g caps vs hf hvs
     cases hmk:isMark (g,caps,vs) with
     | some d=>rw[hmk] at hx;cases hx
     | none =>
     rw[hmk] at hx
     simp only[Option.isSome_none,cond_false] at hx
     injection hx with hx
     have hfr:=hl f _ hf
     simp only[CV.rel] at hfr
     obtain⟨cs,hfe,hcr⟩:=hfr
     have hrun:(execOp a.eval o).run P w=.ok (.defer { target:=.fn (.func g) cs.toArray,args:=as.map a.eval }) w:=by
      simp[execOp,ho,resolve,hfe,Deferred.ofValue]
     unfold Oper.wp
     rw[hrun,Oper.upon_defer]
     refine hval _ _ _ hx.symm undef m w ({ target:=.fn (.func g) cs.toArray,args:=as.map a.eval }::a.defers) M (Stp.refl _ _ _) rel_unit ?_
     simp only[defR,hmk]
     exact⟨_,_,_,rfl,by simpa using hcr,by rw[Array.toList_map];exact lkAllC_rel hl _ _ hvs,hd⟩
    ·cases hx
   ·cases hx
theorem opC_sound (C:Cx P T) {cl:Cl} (hcl:ClOK P G w0 cl) {o:Oper} {s:Fs} {a:Act} {w:World} {m:Pm} (S:FsR G w0 N m s a w) {x:Oc} (hx:opC T G cl o s=some x) {next:Act→World→Prop} {Q:Exit→Act→World→Prop}
  (hval:∀ v h' ds',x=.val v h' ds'→∀ y m' w' dfs,Mem G w0 m' h' w'→Stp m s.h w m' h' w'→v.rel m' h'.n y→defR m' h'.n ds' dfs→next ({ a with defers:=dfs }.put o.dst y) w')
  (hpan:∀ v h',x=.pan v h'→∀ m' w' ch,Mem G w0 m' h' w'→Stp m s.h w m' h' w'→panR m' h'.n v ch→Q (.panic ch) a w'):o.wp P a w next Q :=
 opL_sound C hcl S.mem (evalC_rel S.fr) S.df hx hval hpan
theorem opsC_soundQ (C:Cx P T) {cl:Cl} (hcl:ClOK P G w0 cl) {ops:Array Oper} {m0:Pm} {h0:Hp} {w_0:World} {Q:Exit→Act→World→Prop}:∀ (l:List Oper) (s:Fs) (a:Act) (w:World) (m:Pm) (x:Ex) (s':Fs),
  FsR G w0 N m s a w→Stp m0 h0 w_0 m s.h w→opsC T G cl N ops l s=some (x,s')→(∀ e a w,CodeR G w0 N m0 h0 w_0 x s' e a w→Q e a w)→wpList P ops Q l a w
 | [],s,a,w,m,x,s',S,St,h,hQ=>by
  simp only[opsC,Option.some.injEq,Prod.mk.injEq] at h
  obtain⟨rfl,rfl⟩:=h
  exact hQ _ _ _ ⟨m,S,St,rfl⟩
 | o::r,s,a,w,m,x,s',S,St,h,hQ=>by
  simp only[opsC] at h
  refine wpList_step fun K hK=>?_
  split at h
  ·rename_i hw
   rw[if_pos (wantedC_spec S.fr hw)]
   split at h
   ·rename_i v h' ds' ho
    split at h
    ·rename_i φ hφ
     refine opC_sound C hcl S ho ?_ ?_
     ·intro v2 h2 ds2 he y m' w' dfs M' St' hy hd
      injection he with e1 e2 e3;subst e1;subst e2;subst e3
      obtain⟨f1,f2,f3⟩:=putφ_rel (a:={ a with defers:=dfs }) (FrR.ext (a:={ a with defers:=dfs }) St'.ext S.fr) S.sz hy hφ
      exact hK _ _ (opsC_soundQ C hcl r _ _ w' m' x s' ⟨M',f1,f2,by rw[f3];exact hd⟩ (St.trans St') h hQ)
     ·intro v2 h2 he;cases he
    ·cases h
   ·rename_i v h' ho
    injection h with h
    simp only[Prod.mk.injEq] at h
    obtain⟨rfl,rfl⟩:=h
    refine opC_sound C hcl S ho ?_ ?_
    ·intro v2 h2 ds2 he;cases he
    ·intro v2 h2 he m' w' ch M' St' hch
     injection he with e1 e2;subst e1;subst e2
     exact hQ _ _ _ ⟨m',⟨M',FrR.ext St'.ext S.fr,S.sz,defR_ext St'.ext S.df⟩,St.trans St',ch,rfl,hch⟩
   ·cases h
  ·rename_i hw
   rw[if_neg (by rw[wantedC_spec S.fr hw];simp)]
   split at h
   ·rename_i φ hφ
    obtain⟨f1,f2,f3⟩:=putφ_rel S.fr S.sz rel_unit hφ
    exact hK _ _ (opsC_soundQ C hcl r (⟨φ,s.h,s.ds⟩:Fs) _ w m x s' ⟨S.mem,f1,f2,by rw[f3];exact S.df⟩ St h hQ)
   ·cases h
  ·cases h
theorem opsC_sound (C:Cx P T) {cl:Cl} (hcl:ClOK P G w0 cl) {ops:Array Oper} {m0:Pm} {h0:Hp} {w_0:World} (l:List Oper) (s:Fs) (a:Act) (w:World) (m:Pm) (x:Ex) (s':Fs)
  (S:FsR G w0 N m s a w) (St:Stp m0 h0 w_0 m s.h w) (h:opsC T G cl N ops l s=some (x,s')):wpList P ops (CodeR G w0 N m0 h0 w_0 x s') l a w :=
 opsC_soundQ C hcl l s a w m x s' S St h (fun _ _ _ h=>h)
end
end
section
def effD:Op→Bool
 | .alloc .. | .box .. | .buildSlice .. | .makeSlice .. | .store .. | .makeMap .. | .mapUpdate .. | .insert .. | .range .. | .next .. | .panic .. | .defer ..=>true
 | .call { callee:=.builtin .len,.. } | .call { callee:=.builtin .cap,.. } | .call { callee:=.builtin .max,.. } | .call { callee:=.builtin .min,.. }=>false
 | .call ..=>true
 | _=>false
def readsD:Op→Bool
 | .load .. | .lookup .. | .call ..=>true
 | _=>false
def edgeM (acc:Tr Nat) (i:Nat):List Edge→Nat→Option Nat
 | [],s=>some s
 | e::r,s=>bif Region.binds .any e then (bif Nat.blt e.on i then edgeM acc i r (s ||| 2 ^ e.on ||| (match acc.get e.on with | some m=>m | none=>0)) else none) else edgeM acc i r s
def masksM:List Oper→Nat→Tr Nat→Option (Tr Nat)
 | [],_,acc=>some acc
 | o::r,i,acc=>match edgeM acc i o.after.toList 0 with
  | some s=>masksM r (i+1) (acc.set s i)
  | none=>none
def wq (ms:Tr Nat) (i j:Nat):Bool:=match ms.get i with
 | some s=>Nat.testBit s j
 | none=>false
inductive Wt (ops:Array Oper):Nat→Nat→Prop where
 | edge {i:Nat} {o:Oper} {e:Edge} (ho:ops[i]?=some o) (he:e∈o.after) (hb:Region.binds .any e=true):Wt ops i e.on
 | trans {i k j:Nat} (h:Wt ops i k) (h':Wt ops k j):Wt ops i j
theorem Wt.closed {ops:Array Oper} {L:Nat→Bool} (hc:Closed ops L):∀ {i j:Nat},Wt ops i j→L i=true→L j=true:=by
 intro i j h
 induction h with
 | edge ho he hb=>exact fun hL=>hc _ _ ho hL _ he hb
 | trans _ _ ih ih'=>exact fun hL=>ih' (ih hL)
theorem Wt.ready {ops:Array Oper} {L:Nat→Bool} (hc:Closed ops L):∀ {i j:Nat},Wt ops i j→∀ {o:Oper},ops[i]?=some o→(∀ e∈o.after,Region.binds .any e=true→L e.on=true)→L j=true:=by
 intro i j h
 induction h with
 | edge ho he hb=>intro o ho' hr;rw[ho] at ho';injection ho' with ho';subst ho';exact hr _ he hb
 | trans _ h' ih _=>intro o ho' hr;exact h'.closed hc (ih ho' hr)
structure MOK (ops:Array Oper) (ms:Tr Nat) (n:Nat):Prop where
 w:∀ i s,ms.get i=some s→∀ j,Nat.testBit s j=true→Wt ops i j
theorem edgeM_spec {ops:Array Oper} {acc:Tr Nat} {n:Nat} (A:MOK ops acc n) {i:Nat} {o:Oper} (ho:ops[i]?=some o):∀ (l:List Edge) (s0 s:Nat),edgeM acc i l s0=some s→(∀ e∈l,e∈o.after)→(∀ j,Nat.testBit s0 j=true→Wt ops i j) →
  (∀ j,Nat.testBit s j=true→Wt ops i j)∧∀ e∈l,Region.binds .any e=true→e.on<i
 | [],s0,s,h,_,h0=>by
  simp only[edgeM,Option.some.injEq] at h;subst h
  exact⟨h0,fun e he=>by cases he⟩
 | e::r,s0,s,h,hm,h0=>by
  simp only[edgeM] at h
  cases hb:Region.binds .any e with
  | false =>
   rw[hb,cond_false] at h
   obtain⟨h1,h2⟩:=edgeM_spec A ho r s0 s h (fun e he=>hm e (List.mem_cons_of_mem _ he)) h0
   refine⟨h1,fun e' he' hb'=>?_⟩
   rcases List.mem_cons.1 he' with rfl | he'
   ·rw[hb] at hb';cases hb'
   ·exact h2 e' he' hb'
  | true =>
   rw[hb,cond_true] at h
   cases hlt:Nat.blt e.on i with
   | false=>rw[hlt] at h;cases h
   | true =>
    rw[hlt,cond_true] at h
    have hedge:Wt ops i e.on:=.edge ho (hm e List.mem_cons_self) hb
    obtain⟨h1,h2⟩:=edgeM_spec A ho r _ s h (fun e he=>hm e (List.mem_cons_of_mem _ he)) (fun j hj=>by
     rw[Nat.testBit_or,Nat.testBit_or,Bool.or_eq_true,Bool.or_eq_true] at hj
     rcases hj with (hj | hj) | hj
     ·exact h0 j hj
     ·rw[Nat.testBit_two_pow] at hj
      have:=of_decide_eq_true hj
      subst this;exact hedge
     ·split at hj
      ·rename_i s' hs'
       exact hedge.trans (A.w _ _ hs' j hj)
      ·simp at hj)
    refine⟨h1,fun e' he' hb'=>?_⟩
    rcases List.mem_cons.1 he' with rfl | he'
    ·exact blt_lt hlt
    ·exact h2 e' he' hb'
theorem masksM_spec {ops:Array Oper}:∀ (l:List Oper) (i:Nat) (acc ms:Tr Nat),masksM l i acc=some ms→(∀ j,l[j]?=ops[i+j]?)→MOK ops acc i →
  MOK ops ms (i+l.length)∧∀ j o,l[j]?=some o→∀ e∈o.after,Region.binds .any e=true→e.on<i+j
 | [],i,acc,ms,h,hl,A=>by
  simp only[masksM,Option.some.injEq] at h;subst h
  exact⟨⟨A.w⟩,fun j o h=>by simp at h⟩
 | o::r,i,acc,ms,h,hl,A=>by
  simp only[masksM] at h
  split at h
  ·rename_i s hs
   have ho:ops[i]?=some o:=by have:=hl 0;simp at this;exact this.symm
   obtain⟨h1,h2⟩:=edgeM_spec A ho o.after.toList 0 s hs (fun e he=>Array.mem_toList_iff.1 he) (fun j hj=>by simp at hj)
   obtain⟨h3,h4⟩:=masksM_spec r (i+1) _ ms h (fun j=>by have:=hl (j+1);simp only[List.getElem?_cons_succ] at this;rw[this];congr 1;omega) ⟨fun i' s' hs' j hj=>by
    rw[Tr.get_set] at hs'
    split at hs'
    ·rename_i e;subst e;injection hs' with hs';subst hs';exact h1 j hj
    ·exact A.w _ _ hs' j hj⟩
   refine⟨⟨h3.w⟩,fun j o' ho' e he hb=>?_⟩
   cases j with
   | zero =>
    simp at ho';subst ho'
    have:=h2 e (Array.mem_toList_iff.2 he) hb;omega
   | succ j =>
    have:=h4 j o' (by simpa using ho') e he hb;omega
  ·cases h
def cntE:List Oper→Nat→Nat
 | _,0=>0
 | [],_=>0
 | o::r,i+1=>(bif effD o.op then 1 else 0)+cntE r i
def posE:List Oper→Nat→List Nat
 | [],_=>[]
 | o::r,i=>bif effD o.op then i::posE r (i+1) else posE r (i+1)
theorem posE_spec:∀ (l:List Oper) (i q p:Nat),(posE l i)[q]?=some p↔∃ j o,p=i+j∧l[j]?=some o∧effD o.op=true∧cntE l j=q
 | [],i,q,p=>by simp[posE]
 | o::r,i,q,p=>by
  unfold posE
  cases he:effD o.op with
  | false =>
   rw[cond_false,posE_spec r (i+1) q p]
   constructor
   ·rintro⟨j,o',rfl,h1,h2,h3⟩
    exact⟨j+1,o',by omega,by simpa using h1,h2,by simp[cntE,he,h3]⟩
   ·rintro⟨j,o',rfl,h1,h2,h3⟩
    cases j with
    | zero=>simp at h1;subst h1;rw[he] at h2;cases h2
    | succ j=>exact⟨j,o',by omega,by simpa using h1,h2,by simpa [cntE,he] using h3⟩
  | true =>
   rw[cond_true]
   cases q with
   | zero =>
    simp only[List.getElem?_cons_zero,Option.some.injEq]
    constructor
    ·rintro rfl
     exact⟨0,o,rfl,rfl,he,by simp[cntE]⟩
    ·rintro⟨j,o',rfl,h1,h2,h3⟩
     cases j with
     | zero=>rfl
     | succ j=>simp[cntE,he] at h3
   | succ q =>
    rw[List.getElem?_cons_succ,posE_spec r (i+1) q p]
    constructor
    ·rintro⟨j,o',rfl,h1,h2,h3⟩
     exact⟨j+1,o',by omega,by simpa using h1,h2,by simp[cntE,he,h3];omega⟩
    ·rintro⟨j,o',rfl,h1,h2,h3⟩
     cases j with
     | zero=>simp[cntE] at h3
     | succ j=>exact⟨j,o',by omega,by simpa using h1,h2,by simp[cntE,he] at h3;omega⟩
theorem posE_length:∀ (l:List Oper) (i:Nat),(posE l i).length=cntE l l.length
 | [],i=>rfl
 | o::r,i=>by
  unfold posE
  cases he:effD o.op <;> simp[cntE,he,posE_length r (i+1)]
  omega
def chainW (ms:Tr Nat):List Nat→Bool
 | []=>true
 | p::r=>(match r with | []=>true | p'::_=>wq ms p' p)&&chainW ms r
theorem chainW_spec {ms:Tr Nat}:∀ {es:List Nat},chainW ms es=true→∀ q p p',es[q]?=some p→es[q+1]?=some p'→wq ms p' p=true
 | [],_,q,p,p',h,_=>by simp at h
 | x::r,hc,q,p,p',h,h'=>by
  simp only[chainW,Bool.and_eq_true] at hc
  cases q with
  | zero =>
   cases r with
   | nil=>simp at h'
   | cons y r=>simp at h h';subst h;subst h';exact hc.1
  | succ q=>exact chainW_spec hc.2 q p p' (by simpa using h) (by simpa using h')
def wrs:List Oper→Nat→Tr Nat→Option (Tr Nat)
 | [],_,acc=>some acc
 | o::r,i,acc=>match o.dst with
  | none=>wrs r (i+1) acc
  | some d=>match acc.get d with
   | none=>wrs r (i+1) (acc.set i d)
   | some _=>none
theorem wrs_spec:∀ (l:List Oper) (i:Nat) (acc wt:Tr Nat),wrs l i acc=some wt →
  (∀ d x,acc.get d=some x→wt.get d=some x)∧∀ j o d,l[j]?=some o→o.dst=some d→wt.get d=some (i+j)∧acc.get d=none
 | [],i,acc,wt,h=>by
  simp only[wrs,Option.some.injEq] at h;subst h
  exact⟨fun _ _ h=>h,fun j o d h=>by simp at h⟩
 | o::r,i,acc,wt,h=>by
  simp only[wrs] at h
  split at h
  ·rename_i hd
   obtain⟨h1,h2⟩:=wrs_spec r (i+1) acc wt h
   refine⟨h1,fun j o' d ho hd'=>?_⟩
   cases j with
   | zero=>simp at ho;subst ho;rw[hd] at hd';cases hd'
   | succ j =>
    have:=h2 j o' d (by simpa using ho) hd'
    rw[this.1];exact⟨by congr 1;omega,this.2⟩
  ·rename_i d hd
   split at h
   ·rename_i hn
    obtain⟨h1,h2⟩:=wrs_spec r (i+1) _ wt h
    refine⟨fun d' x hx=>h1 d' x (by rw[Tr.get_set];split;(rename_i e;subst e;rw[hn] at hx;cases hx);exact hx),fun j o' d' ho hd'=>?_⟩
    cases j with
    | zero =>
     simp at ho;subst ho
     rw[hd] at hd';injection hd' with hd';subst hd'
     exact⟨h1 _ _ (by rw[Tr.get_set,if_pos rfl];rfl),hn⟩
    | succ j =>
     have:=h2 j o' d' (by simpa using ho) hd'
     rw[Tr.get_set] at this
     obtain⟨e1,e2⟩:=this
     split at e2
     ·cases e2
     ·rw[e1];exact⟨by congr 1;omega,e2⟩
   ·cases h
def lookOK (ms wt:Tr Nat) (i:Nat):List Tmp→Bool
 | []=>true
 | t::r=>(match wt.get t with
  | none=>true
  | some j=>bif Nat.blt j i then wq ms i j else bif Nat.blt i j then wq ms j i else true)&&lookOK ms wt i r
theorem lookOK_spec {ms wt:Tr Nat} {i:Nat}:∀ {l:List Tmp},lookOK ms wt i l=true→∀ t∈l,∀ j,wt.get t=some j→(j<i→wq ms i j=true)∧(i<j→wq ms j i=true)
 | [],_,t,ht=>by cases ht
 | x::r,h,t,ht=>by
  simp only[lookOK,Bool.and_eq_true] at h
  rcases List.mem_cons.1 ht with rfl | ht
  ·intro j hj
   have h1:=h.1
   rw[hj] at h1
   simp only at h1
   refine⟨fun hlt=>?_,fun hlt=>?_⟩
   ·rw[show Nat.blt j i=true from Nat.ble_eq_true_of_le hlt,cond_true] at h1;exact h1
   ·have:Nat.blt j i=false:=by
     cases hq:Nat.blt j i with
     | false=>rfl
     | true=>have:=blt_lt hq;omega
    rw[this,cond_false,show Nat.blt i j=true from Nat.ble_eq_true_of_le hlt,cond_true] at h1;exact h1
  ·exact lookOK_spec h.2 t ht
def looksOK (ops:Array Oper) (ms wt:Tr Nat):List Oper→Nat→Bool
 | [],_=>true
 | o::r,i=>lookOK ms wt i (o.looksAt ops)&&looksOK ops ms wt r (i+1)
theorem looksOK_spec {ops:Array Oper} {ms wt:Tr Nat}:∀ {l:List Oper} {i:Nat},looksOK ops ms wt l i=true→∀ j o,l[j]?=some o→lookOK ms wt (i+j) (o.looksAt ops)=true
 | [],i,_,j,o,h=>by simp at h
 | x::r,i,h,j,o,ho=>by
  simp only[looksOK,Bool.and_eq_true] at h
  cases j with
  | zero=>simp at ho;subst ho;exact h.1
  | succ j =>
   have:=looksOK_spec h.2 j o (by simpa using ho)
   rw[show i+(j+1)=i+1+j by omega];exact this
def loG (ms:Tr Nat) (i:Nat):List Nat→Nat→Nat→Nat
 | [],_,b=>b
 | p::r,q,b=>loG ms i r (q+1) (bif wq ms i p then q+1 else b)
def hiG (ms:Tr Nat) (i:Nat):List Nat→Nat→Nat
 | [],q=>q
 | p::r,q=>bif wq ms p i then q else hiG ms i r (q+1)
theorem loG_spec {ms:Tr Nat} {i:Nat} {es0:List Nat}:∀ (es:List Nat) (q b:Nat),(∀ j,es[j]?=es0[q+j]?)→(b=0∨∃ p,es0[b-1]?=some p∧wq ms i p=true∧0<b)→(loG ms i es q b=0∨∃ p,es0[loG ms i es q b-1]?=some p∧wq ms i p=true∧0<loG ms i es q b)
 | [],q,b,_,h=>h
 | p::r,q,b,he,h=>by
  unfold loG
  refine loG_spec r (q+1) _ (fun j=>by have:=he (j+1);simp only[List.getElem?_cons_succ] at this;rw[this];congr 1;omega) ?_
  cases hw:wq ms i p with
  | false=>rw[cond_false];exact h
  | true =>
   rw[cond_true]
   exact .inr ⟨p,by have:=he 0;simp at this;simp[←this],hw,by omega⟩
theorem hiG_spec {ms:Tr Nat} {i:Nat} {es0:List Nat}:∀ (es:List Nat) (q:Nat),(∀ j,es[j]?=es0[q+j]?)→q+es.length=es0.length→(hiG ms i es q=es0.length∨∃ p,es0[hiG ms i es q]?=some p∧wq ms p i=true)
 | [],q,_,h=>.inl (by simpa [hiG] using h)
 | p::r,q,he,h=>by
  unfold hiG
  cases hw:wq ms p i with
  | true=>rw[cond_true];exact .inr ⟨p,by have:=he 0;simp at this;exact this.symm,hw⟩
  | false =>
   rw[cond_false]
   exact hiG_spec r (q+1) (fun j=>by have:=he (j+1);simp only[List.getElem?_cons_succ] at this;rw[this];congr 1;omega) (by simp at h;omega)
def ivs (ms:Tr Nat) (es:List Nat):List Oper→Nat→List (Nat×Nat)
 | [],_=>[]
 | _::r,i=>(loG ms i es 0 0,hiG ms i es 0)::ivs ms es r (i+1)
theorem ivs_spec {ms:Tr Nat} {es:List Nat}:∀ (l:List Oper) (i j:Nat) (x:Nat×Nat),(ivs ms es l i)[j]?=some x→x=(loG ms (i+j) es 0 0,hiG ms (i+j) es 0)
 | [],i,j,x,h=>by simp[ivs] at h
 | _::r,i,j,x,h=>by
  cases j with
  | zero=>simp[ivs] at h;exact h.symm
  | succ j =>
   have:=ivs_spec r (i+1) j x (by simpa [ivs] using h)
   rw[this,show i+1+j=i+(j+1) by omega]
def staticD (ops:Array Oper):Option (List (Nat×Nat)) :=
 match masksM ops.toList 0 .e,wrs ops.toList 0 .e with
 | some ms,some wt=>bif chainW ms (posE ops.toList 0)&&looksOK ops ms wt ops.toList 0 then some (ivs ms (posE ops.toList 0) ops.toList 0) else none
 | _,_=>none
structure SOK (ops:Array Oper) (iv:List (Nat×Nat)):Prop where
 back:∀ (i:Nat) (o:Oper),ops[i]?=some o→∀ e∈o.after,Region.binds .any e=true→e.on<i
 chain:∀ q p p',(posE ops.toList 0)[q]?=some p→(posE ops.toList 0)[q+1]?=some p'→Wt ops p' p
 uniq:∀ (i j:Nat) (o o':Oper) (t:Tmp),ops[i]?=some o→ops[j]?=some o'→o.dst=some t→o'.dst=some t→i=j
 look:∀ (i j:Nat) (o o':Oper) (t:Tmp),ops[i]?=some o→ops[j]?=some o'→t∈o.looksAt ops→o'.dst=some t→(j<i→Wt ops i j)∧(i<j→Wt ops j i)
 lo:∀ i x,iv[i]?=some x→x.1=0∨∃ p,(posE ops.toList 0)[x.1-1]?=some p∧Wt ops i p∧0<x.1
 hi:∀ i x,iv[i]?=some x→x.2=(posE ops.toList 0).length∨∃ p,(posE ops.toList 0)[x.2]?=some p∧Wt ops p i
theorem staticD_spec {ops:Array Oper} {iv:List (Nat×Nat)} (h:staticD ops=some iv):SOK ops iv:=by
 unfold staticD at h
 split at h
 ·rename_i ms wt hm hw
  cases hb:(chainW ms (posE ops.toList 0)&&looksOK ops ms wt ops.toList 0) with
  | false=>rw[hb] at h;cases h
  | true =>
   rw[hb,cond_true] at h
   injection h with h;subst h
   rw[Bool.and_eq_true] at hb
   have hget:∀ j,ops.toList[j]?=ops[0+j]?:=fun j=>by simp
   have hget':∀ {j:Nat} {o:Oper},ops[j]?=some o→ops.toList[j]?=some o:=fun h=>by simpa using h
   obtain⟨M,hback⟩:=masksM_spec (ops:=ops) ops.toList 0 .e ms hm hget ⟨fun i s h=>by simp[Tr.get_e] at h⟩
   have W:∀ {i j:Nat},wq ms i j=true→Wt ops i j:=fun {i j} h=>by
    unfold wq at h
    split at h
    ·rename_i s hs;exact M.w i s hs j h
    ·cases h
   obtain⟨_,hwr⟩:=wrs_spec ops.toList 0 .e wt hw
   refine⟨fun i o ho e he hb=>by have:=hback i o (hget' ho) e he hb;omega,fun q p p' h h'=>W (chainW_spec hb.1 q p p' h h'),fun i j o o' t ho ho' hd hd'=>?_,fun i j o o' t ho ho' ht hd=>?_,fun i x hx=>?_,fun i x hx=>?_⟩
   ·have h1:=(hwr i o t (hget' ho) hd).1
    have h2:=(hwr j o' t (hget' ho') hd').1
    rw[h1] at h2;injection h2 with h2;omega
   ·have h1:=(hwr j o' t (hget' ho') hd).1
    have h2:=looksOK_spec hb.2 i o (hget' ho)
    have:=lookOK_spec h2 t ht (0+j) h1
    simp only[Nat.zero_add] at this
    exact⟨fun h=>W (this.1 h),fun h=>W (this.2 h)⟩
   ·have:=ivs_spec _ _ _ _ hx
    subst this
    simp only[Nat.zero_add]
    rcases loG_spec (ms:=ms) (i:=i) (es0:=posE ops.toList 0) (posE ops.toList 0) 0 0 (fun j=>by simp) (.inl rfl) with h | ⟨p,h1,h2,h3⟩
    ·exact .inl h
    ·exact .inr ⟨p,h1,W h2,h3⟩
   ·have:=ivs_spec _ _ _ _ hx
    subst this
    simp only[Nat.zero_add]
    rcases hiG_spec (ms:=ms) (i:=i) (es0:=posE ops.toList 0) (posE ops.toList 0) 0 (fun j=>by simp) (by simp) with h | ⟨p,h1,h2⟩
    ·exact .inl h
    ·exact .inr ⟨p,h1,W h2⟩
 ·cases h
end
section
def eqV:Value→Value→Bool
 | .int k i,.int k' j=>sameKind k k'&&decide (i=j)
 | .bool a,.bool b=>a==b
 | .pointer none,.pointer none | .map none,.map none | .nilFunc,.nilFunc | .nilIface,.nilIface=>true
 | .slice none 0 0,.slice none 0 0=>true
 | _,_=>false
theorem eqV_eq {x y:Value} (h:eqV x y=true):x=y:=by
 unfold eqV at h
 split at h
 ·rw[Bool.and_eq_true] at h
  rw[sameKind_eq h.1,of_decide_eq_true h.2]
 ·rw[eq_of_beq h]
 all_goals first | rfl | cases h
mutual
def eqC:CV→CV→Bool
 | .v x,.v y=>eqV x y
 | .str a,.str b=>eqB a b
 | .ptr l o,.ptr l' o'=>Nat.beq l l'&&Nat.beq o o'
 | .gp l o,.gp l' o'=>Nat.beq l l'&&Nat.beq o o'
 | .sl l k o n c e,.sl l' k' o' n' c' e'=>Nat.beq l l'&&Nat.beq k k'&&Nat.beq o o'&&Nat.beq n n'&&Nat.beq c c'&&(e==e')
 | .e0,.e0=>true
 | .eu,.eu=>true
 | .mp l,.mp l'=>Nat.beq l l'
 | .agg a,.agg b=>eqCs a b
 | .tup a,.tup b=>eqCs a b
 | .fn f a,.fn g b=>Nat.beq f g&&eqCs a b
 | .yld l,.yld l'=>Nat.beq l l'
 | .ifc t x,.ifc u y=>Nat.beq t u&&eqC x y
 | _,_=>false
def eqCs:List CV→List CV→Bool
 | [],[]=>true
 | x::a,y::b=>eqC x y&&eqCs a b
 | _,_=>false
end
theorem eqB_eq':∀ {a b:List Nat},eqB a b=true→a=b
 | [],[],_=>rfl
 | x::a,y::b,h=>by
  simp only[eqB,Bool.and_eq_true] at h
  rw[beq_eq h.1,eqB_eq' h.2]
 | [],_::_,h=>by simp[eqB] at h
 | _::_,[],h=>by simp[eqB] at h
mutual
theorem eqC_eq:∀ (x y:CV),eqC x y=true→x=y
 | .v x,y,h=>by cases y <;> simp only[eqC] at h <;> first | cases h | rw[eqV_eq h]
 | .str x,y,h=>by cases y <;> simp only[eqC] at h <;> first | cases h | rw[eqB_eq' h]
 | .ptr l o,y,h=>by cases y <;> simp only[eqC,Bool.and_eq_true] at h <;> first | cases h.1 | skip;all_goals first | rw[beq_eq h.1,beq_eq h.2] | cases h
 | .gp l o,y,h=>by cases y <;> simp only[eqC,Bool.and_eq_true] at h <;> first | cases h.1 | skip;all_goals first | rw[beq_eq h.1,beq_eq h.2] | cases h
 | .sl l k o n c e,y,h=>by
  cases y <;> simp only[eqC,Bool.and_eq_true] at h
  case sl =>
   obtain⟨⟨⟨⟨⟨h1,h2⟩,h3⟩,h4⟩,h5⟩,h6⟩:=h
   rw[beq_eq h1,beq_eq h2,beq_eq h3,beq_eq h4,beq_eq h5,eq_of_beq h6]
  all_goals cases h
 | .e0,y,h=>by cases y <;> simp only[eqC] at h <;> first | rfl | cases h
 | .eu,y,h=>by cases y <;> simp only[eqC] at h <;> first | rfl | cases h
 | .mp l,y,h=>by cases y <;> simp only[eqC] at h <;> first | cases h | rw[beq_eq h]
 | .agg a,y,h=>by cases y <;> simp only[eqC] at h <;> first | cases h | rw[eqCs_eq a _ h]
 | .tup a,y,h=>by cases y <;> simp only[eqC] at h <;> first | cases h | rw[eqCs_eq a _ h]
 | .fn f a,y,h=>by
  cases y <;> simp only[eqC,Bool.and_eq_true] at h
  case fn g b=>rw[beq_eq h.1,eqCs_eq a _ h.2]
  all_goals cases h
 | .yld l,y,h=>by cases y <;> simp only[eqC] at h <;> first | cases h | rw[beq_eq h]
 | .ifc t x,y,h=>by
  cases y <;> simp only[eqC,Bool.and_eq_true] at h
  case ifc g b=>rw[beq_eq h.1,eqC_eq x _ h.2]
  all_goals cases h
theorem eqCs_eq:∀ (x y:List CV),eqCs x y=true→x=y
 | [],y,h=>by cases y <;> simp only[eqCs] at h <;> first | rfl | cases h
 | x::a,y,h=>by
  cases y <;> simp only[eqCs,Bool.and_eq_true] at h
  ·cases h
  ·rw[eqC_eq x _ h.1,eqCs_eq a _ h.2]
end
theorem yieldC_quiet {T:TyTab} {G:Gl} {σ σ':Tr CO} {lk:Operand→Option CV} {op:Op} (h:readsD op=false):yieldC T G σ lk op=yieldC T G σ' lk op:=by
 cases op <;> first | rfl | (simp[readsD] at h;done) | skip
 all_goals (unfold yieldC;first | rfl | (split <;> first | rfl | simp_all))
def lkD (ops:Array Oper) (o:Oper) (φ:Tr CV):Operand→Option CV
 | .tmp t=>bif (o.looksAt ops).any (Nat.beq t) then φ.get t else none
 | x=>evalC φ x
def wantD (ops:Array Oper) (lk:Operand→Option CV) (o:Oper):Option Bool :=
 match o.guard with
 | none=>some true
 | some (j,want)=>match (ops[j]?).bind (·.dst) with
  | none=>some false
  | some t=>match lk (.tmp t) with
   | some (.v (.bool b))=>some (b==want)
   | some (.tup _)=>some false
   | _=>none
def stepP (T:TyTab) (G:Gl) (ops:Array Oper) (φ:Tr CV) (h:Hp) (o:Oper):Option CV :=
 match wantD ops (lkD ops o φ) o with
 | some true=>yieldC T G h.σ (lkD ops o φ) o.op
 | some false=>some unitC
 | none=>none
def stepE (T:TyTab) (G:Gl) (cl:Cl) (ops:Array Oper) (ds:List (FuncId×List CV×List CV)) (φ:Tr CV) (h:Hp) (o:Oper):Option (CV×Hp) :=
 match wantD ops (lkD ops o φ) o with
 | some true=>match o.op with
  | .defer _=>none
  | _=>match opL T G cl (lkD ops o φ) o h ds with
   | some (.val v h' _)=>some (v,h')
   | _=>none
 | some false=>some (unitC,h)
 | none=>none
structure Rc where
 o:Oper
 φ:Tr CV
 v:CV
def runD (T:TyTab) (G:Gl) (cl:Cl) (N:Nat) (ops:Array Oper) (ds:List (FuncId×List CV×List CV)):List Oper→Tr CV→Hp→Option (List Rc×List Hp×Tr CV×Hp)
 | [],φ,h=>some ([],[h],φ,h)
 | o::r,φ,h=>bif effD o.op then (match stepE T G cl ops ds φ h o with
   | some (v,h')=>match putφ N o.dst v φ with
    | some φ'=>match runD T G cl N ops ds r φ' h' with
     | some (rs,hs,x)=>some (⟨o,φ,v⟩::rs,h::hs,x)
     | none=>none
    | none=>none
   | none=>none)
  else (match stepP T G ops φ h o with
   | some v=>match putφ N o.dst v φ with
    | some φ'=>match runD T G cl N ops ds r φ' h with
     | some (rs,hs,x)=>some (⟨o,φ,v⟩::rs,hs,x)
     | none=>none
    | none=>none
   | none=>none)
def chkH (T:TyTab) (G:Gl) (ops:Array Oper) (rc:Rc):List Hp→Nat→Nat→Bool
 | _,_,0=>true
 | [],_,_+1=>false
 | h::hs,0,c+1=>(match stepP T G ops rc.φ h rc.o with | some v=>eqC v rc.v | none=>false)&&chkH T G ops rc hs 0 c
 | _::hs,s+1,c+1=>chkH T G ops rc hs s (c+1)
def chkD (T:TyTab) (G:Gl) (ops:Array Oper) (hs:List Hp):List Rc→List (Nat×Nat)→Nat→Bool
 | [],_,_=>true
 | _::_,[],_=>false
 | rc::rs,(lo,hi)::iv,k=>bif effD rc.o.op then chkD T G ops hs rs iv (k+1)
  else Nat.ble lo k&&Nat.ble k hi&&(bif readsD rc.o.op&&Nat.blt lo hi then chkH T G ops rc hs lo (hi-lo+1) else true)&&chkD T G ops hs rs iv k
def drawC (T:TyTab) (G:Gl) (cl:Cl) (N:Nat) (ops:Array Oper) (s:Fs):Option Fs :=
 match staticD ops with
 | some iv=>match runD T G cl N ops s.ds ops.toList s.φ s.h with
  | some (rs,hs,φ,h)=>bif chkD T G ops hs rs iv 0 then some ⟨φ,h,s.ds⟩ else none
  | none=>none
 | none=>none
structure RunOK (T:TyTab) (G:Gl) (cl:Cl) (N:Nat) (ops:Array Oper) (ds:List (FuncId×List CV×List CV)) (l:List Oper) (φ:Tr CV) (h:Hp) (rs:List Rc) (hs:List Hp) (φe:Tr CV) (he:Hp):Prop where
 at_:∀ (i:Nat) (o:Oper),l[i]?=some o→∃ rc h1,rs[i]?=some rc∧rc.o=o∧hs[cntE l i]?=some h1∧(effD o.op=true→∃ h2,hs[cntE l i+1]?=some h2∧stepE T G cl ops ds rc.φ h1 o=some (rc.v,h2))∧(effD o.op=false→stepP T G ops rc.φ h1 o=some rc.v)
 wr:∀ (i:Nat) (rc:Rc),rs[i]?=some rc→∀ (j:Nat) (o:Oper) (t:Tmp),j<i→l[j]?=some o→o.dst=some t→∃ r',rs[j]?=some r'∧rc.φ.get t=some r'.v
 no:∀ (i:Nat) (rc:Rc),rs[i]?=some rc→∀ (t:Tmp),(∀ (j:Nat) (o:Oper),j<i→l[j]?=some o→o.dst≠some t)→rc.φ.get t=φ.get t
 wre:∀ (j:Nat) (o:Oper) (t:Tmp),l[j]?=some o→o.dst=some t→∃ r',rs[j]?=some r'∧φe.get t=some r'.v
 noe:∀ (t:Tmp),(∀ (j:Nat) (o:Oper),l[j]?=some o→o.dst≠some t)→φe.get t=φ.get t
 bnd:∀ (i:Nat) (o:Oper) (t:Tmp),l[i]?=some o→o.dst=some t→t<N
 first:hs[0]?=some h
 last:hs[cntE l l.length]?=some he
 len:hs.length=cntE l l.length+1
 rlen:rs.length=l.length
theorem putφ_get {N:Nat} {d:Option Tmp} {v:CV} {φ φ':Tr CV} (h:putφ N d v φ=some φ'):(∀ t,d=some t→φ'.get t=some v∧t<N)∧∀ t,d≠some t→φ'.get t=φ.get t:=by
 cases d with
 | none =>
  simp only[putφ,Option.some.injEq] at h;subst h
  exact⟨(fun t h=>by cases h),fun _ _=>rfl⟩
 | some d =>
  simp only[putφ] at h
  cases hb:Nat.blt d N with
  | false=>rw[hb] at h;cases h
  | true =>
   rw[hb,cond_true] at h
   injection h with h;subst h
   refine⟨fun t e=>?_,fun t e=>?_⟩
   ·injection e with e;subst e
    exact⟨by rw[Tr.get_set,if_pos rfl],blt_lt hb⟩
   ·rw[Tr.get_set,if_neg];rintro rfl;exact e rfl
theorem RunOK.cons {T:TyTab} {G:Gl} {cl:Cl} {N:Nat} {ops:Array Oper} {ds:List (FuncId×List CV×List CV)} {o:Oper} {r:List Oper} {φ φ' φe:Tr CV} {h h' he:Hp} {v:CV} {rs:List Rc} {hs hs':List Hp}
  (hu:∀ (i j:Nat) (p p':Oper) (t:Tmp),(o::r)[i]?=some p→(o::r)[j]?=some p'→p.dst=some t→p'.dst=some t→i=j)
  (hp:putφ N o.dst v φ=some φ') (R:RunOK T G cl N ops ds r φ' h' rs hs φe he)
  (hhs:hs'=if effD o.op=true then h::hs else hs) (hh:effD o.op=false→h'=h)
  (hE:effD o.op=true→stepE T G cl ops ds φ h o=some (v,h')) (hP:effD o.op=false→stepP T G ops φ h o=some v):RunOK T G cl N ops ds (o::r) φ h (⟨o,φ,v⟩::rs) hs' φe he:=by
 obtain⟨p1,p2⟩:=putφ_get hp
 have hn:∀ {t:Tmp},o.dst=some t→∀ (j:Nat) (p:Oper),r[j]?=some p→p.dst≠some t:=fun hd j p hj hd'=>by
  have:=hu 0 (j+1) o p _ rfl (by simpa using hj) hd hd'
  omega
 have hc:∀ i,cntE (o::r) (i+1)=(if effD o.op=true then 1 else 0)+cntE r i:=fun i=>by
  simp only[cntE];cases effD o.op <;> rfl
 have hq:∀ q,hs'[(if effD o.op=true then 1 else 0)+q]?=hs[q]?:=fun q=>by
  subst hhs
  split
  ·rw[Nat.add_comm];simp
  ·simp
 constructor
 ·intro i p hi
  cases i with
  | zero =>
   simp at hi;subst hi
   refine⟨⟨o,φ,v⟩,h,rfl,rfl,?_,?_,hP⟩
   ·simp only[cntE]
    subst hhs
    split
    ·rfl
    ·rename_i hne
     rw[R.first,hh (by simpa using hne)]
   ·intro he'
    refine⟨h',?_,hE he'⟩
    have:=hq 0
    rw[if_pos he'] at this
    simp only[cntE]
    rw[Nat.add_comm,Nat.add_zero] at this
    rw[Nat.zero_add,this];exact R.first
  | succ i =>
   obtain⟨rc,h1,g1,g2,g3,g4,g5⟩:=R.at_ i p (by simpa using hi)
   refine⟨rc,h1,by simpa using g1,g2,by rw[hc,hq];exact g3,fun he'=>?_,g5⟩
   obtain⟨h2,g6,g7⟩:=g4 he'
   exact⟨h2,by rw[hc,Nat.add_assoc,hq];exact g6,g7⟩
 ·intro i rc hi j p t hlt hj hd
  cases i with
  | zero=>omega
  | succ i =>
   have hi':rs[i]?=some rc:=by simpa using hi
   cases j with
   | zero =>
    simp at hj;subst hj
    refine⟨⟨o,φ,v⟩,rfl,?_⟩
    rw[R.no i rc hi' t (fun j p _ hj=>hn hd j p hj)]
    exact (p1 t hd).1
   | succ j =>
    obtain⟨r',h1,h2⟩:=R.wr i rc hi' j p t (by omega) (by simpa using hj) hd
    exact⟨r',by simpa using h1,h2⟩
 ·intro i rc hi t hno
  cases i with
  | zero=>simp at hi;subst hi;rfl
  | succ i =>
   rw[R.no i rc (by simpa using hi) t (fun j p hlt hj=>hno (j+1) p (by omega) (by simpa using hj))]
   exact p2 t (hno 0 o (by omega) rfl)
 ·intro j p t hj hd
  cases j with
  | zero =>
   simp at hj;subst hj
   refine⟨⟨o,φ,v⟩,rfl,?_⟩
   rw[R.noe t (fun j p hj=>hn hd j p hj)]
   exact (p1 t hd).1
  | succ j =>
   obtain⟨r',h1,h2⟩:=R.wre j p t (by simpa using hj) hd
   exact⟨r',by simpa using h1,h2⟩
 ·intro t hno
  rw[R.noe t (fun j p hj=>hno (j+1) p (by simpa using hj))]
  exact p2 t (hno 0 o rfl)
 ·intro i p t hi hd
  cases i with
  | zero=>simp at hi;subst hi;exact (p1 t hd).2
  | succ i=>exact R.bnd i p t (by simpa using hi) hd
 ·subst hhs
  split
  ·rfl
  ·rename_i hne;rw[R.first,hh (by simpa using hne)]
 ·rw[List.length_cons,hc,hq];exact R.last
 ·rw[List.length_cons,hc]
  subst hhs
  split
  ·rw[List.length_cons,R.len];omega
  ·rw[R.len];omega
 ·simp[R.rlen]
theorem runD_spec {T:TyTab} {G:Gl} {cl:Cl} {N:Nat} {ops:Array Oper} {ds:List (FuncId×List CV×List CV)}:∀ (l:List Oper) (φ:Tr CV) (h:Hp) (rs:List Rc) (hs:List Hp) (φe:Tr CV) (he:Hp),runD T G cl N ops ds l φ h=some (rs,hs,φe,he) →
  (∀ (i j:Nat) (p p':Oper) (t:Tmp),l[i]?=some p→l[j]?=some p'→p.dst=some t→p'.dst=some t→i=j)→RunOK T G cl N ops ds l φ h rs hs φe he
 | [],φ,h,rs,hs,φe,he,hr,_=>by
  simp only[runD,Option.some.injEq,Prod.mk.injEq] at hr
  obtain⟨rfl,rfl,rfl,rfl⟩:=hr
  constructor <;> first | (intros;simp_all;done) | rfl
 | o::r,φ,h,rs,hs,φe,he,hr,hu=>by
  have hu':∀ (i j:Nat) (p p':Oper) (t:Tmp),r[i]?=some p→r[j]?=some p'→p.dst=some t→p'.dst=some t→i=j:=fun i j p p' t h1 h2 h3 h4=>by
   have:=hu (i+1) (j+1) p p' t (by simpa using h1) (by simpa using h2) h3 h4
   omega
  simp only[runD] at hr
  cases hb:effD o.op with
  | true =>
   rw[hb,cond_true] at hr
   split at hr
   ·rename_i v h' hs'
    split at hr
    ·rename_i φ' hp
     split at hr
     ·rename_i rs' hs2 x hr'
      simp only[Option.some.injEq,Prod.mk.injEq] at hr
      obtain⟨rfl,rfl,rfl⟩:=hr
      exact RunOK.cons hu hp (runD_spec r φ' h' rs' hs2 φe he hr' hu') (by rw[if_pos hb]) (fun h=>by rw[hb] at h;cases h) (fun _=>hs') (fun h=>by rw[hb] at h;cases h)
     ·cases hr
    ·cases hr
   ·cases hr
  | false =>
   rw[hb,cond_false] at hr
   split at hr
   ·rename_i v hs'
    split at hr
    ·rename_i φ' hp
     split at hr
     ·rename_i rs' hs2 x hr'
      simp only[Option.some.injEq,Prod.mk.injEq] at hr
      obtain⟨rfl,rfl,rfl⟩:=hr
      exact RunOK.cons hu hp (runD_spec r φ' h rs' hs2 φe he hr' hu') (by rw[if_neg (by rw[hb];simp)]) (fun _=>rfl) (fun h=>by rw[hb] at h;cases h) (fun _=>hs')
     ·cases hr
    ·cases hr
   ·cases hr
theorem chkH_spec {T:TyTab} {G:Gl} {ops:Array Oper} {rc:Rc}:∀ (hs:List Hp) (s c:Nat),chkH T G ops rc hs s c=true→∀ q,s≤q→q<s+c→∃ h,hs[q]?=some h∧stepP T G ops rc.φ h rc.o=some rc.v
 | _,s,0,_,q,h1,h2=>by omega
 | [],s,c+1,h,q,h1,h2=>by simp[chkH] at h
 | x::hs,0,c+1,h,q,h1,h2=>by
  simp only[chkH,Bool.and_eq_true] at h
  cases q with
  | zero =>
   refine⟨x,rfl,?_⟩
   have:=h.1
   split at this
   ·rename_i v hv;rw[hv,eqC_eq _ _ this]
   ·cases this
  | succ q =>
   obtain⟨h',h3,h4⟩:=chkH_spec hs 0 c h.2 q (by omega) (by omega)
   exact⟨h',by simpa using h3,h4⟩
 | x::hs,s+1,c+1,h,q,h1,h2=>by
  simp only[chkH] at h
  obtain⟨h',h3,h4⟩:=chkH_spec hs s (c+1) h (q-1) (by omega) (by omega)
  refine⟨h',?_,h4⟩
  rw[show q=q-1+1 by omega];simpa using h3
theorem stepP_quiet {T:TyTab} {G:Gl} {ops:Array Oper} {φ:Tr CV} {h h':Hp} {o:Oper} (hr:readsD o.op=false):stepP T G ops φ h o=stepP T G ops φ h' o:=by
 unfold stepP
 rw[yieldC_quiet (σ:=h.σ) (σ':=h'.σ) hr]
theorem chkD_spec {T:TyTab} {G:Gl} {ops:Array Oper} {hs:List Hp}:∀ (l:List Oper) (rs:List Rc) (iv:List (Nat×Nat)) (k:Nat),chkD T G ops hs rs iv k=true→l.length=rs.length →
  (∀ (i:Nat) (o:Oper),l[i]?=some o→∃ rc h1,rs[i]?=some rc∧rc.o=o∧hs[k+cntE l i]?=some h1∧(effD o.op=false→stepP T G ops rc.φ h1 o=some rc.v)) →
  ∀ (i:Nat) (o:Oper) (rc:Rc),l[i]?=some o→rs[i]?=some rc→effD o.op=false→∃ x,iv[i]?=some x∧∀ q,x.1≤q→q≤x.2→∀ h,hs[q]?=some h→stepP T G ops rc.φ h rc.o=some rc.v
 | [],rs,iv,k,_,_,_,i,o,rc,hi,_,_=>by simp at hi
 | o::l,[],iv,k,_,hlen,_,i,_,rc,_,hr,_=>by simp at hr
 | o::l,r::rs,[],k,hc,_,_,_,_,_,_,_,_=>by simp[chkD] at hc
 | o::l,r::rs,(lo,hi)::iv,k,hc,hlen,hat,i,p,rc,hi',hr,he=>by
  obtain⟨rc0,h1,g1,g2,g3,g4⟩:=hat 0 o rfl
  simp at g1;subst g1
  have hcnt:∀ i,cntE (o::l) (i+1)=(bif effD o.op then 1 else 0)+cntE l i:=fun i=>rfl
  simp only[chkD,g2] at hc
  cases hb:effD o.op with
  | true =>
   rw[hb,cond_true] at hc
   cases i with
   | zero=>simp at hi';subst hi';rw[hb] at he;cases he
   | succ i =>
    obtain⟨x,h2,h3⟩:=chkD_spec l rs iv (k+1) hc (by simpa using hlen) (fun i o' ho'=>by
     obtain⟨rc,h1,g1,g2,g3,g4⟩:=hat (i+1) o' (by simpa using ho')
     exact⟨rc,h1,by simpa using g1,g2,by rw[hcnt,hb,cond_true] at g3;rw[Nat.add_assoc];exact g3,g4⟩) i p rc (by simpa using hi') (by simpa using hr) he
    exact⟨x,by simpa using h2,h3⟩
  | false =>
   rw[hb,cond_false,Bool.and_eq_true,Bool.and_eq_true,Bool.and_eq_true] at hc
   obtain⟨⟨⟨c1,c2⟩,c3⟩,c4⟩:=hc
   cases i with
   | zero =>
    simp at hi';subst hi'
    simp at hr;subst hr
    refine⟨(lo,hi),rfl,fun q q1 q2 h hh=>?_⟩
    have hv:=g4 he
    simp only[cntE,Nat.add_zero] at g3
    rw[g2]
    cases hrd:readsD o.op with
    | false=>rw[stepP_quiet (h':=h1) hrd];exact hv
    | true =>
     rw[hrd,Bool.true_and] at c3
     cases hlt:Nat.blt lo hi with
     | false =>
      have:¬ lo<hi:=fun h=>by rw[show Nat.blt lo hi=true from Nat.ble_eq_true_of_le h] at hlt;cases hlt
      have e1:=ble_le c1
      have e2:=ble_le c2
      have:q=k:=by simp at q1 q2;omega
      subst this
      rw[g3] at hh;injection hh with hh;subst hh
      exact hv
     | true =>
      rw[hlt,cond_true] at c3
      obtain⟨h',h3,h4⟩:=chkH_spec hs lo _ c3 q q1 (by simp at q1 q2;omega)
      rw[h3] at hh;injection hh with hh;subst hh
      rw[g2] at h4;exact h4
   | succ i =>
    obtain⟨x,h2,h3⟩:=chkD_spec l rs iv k c4 (by simpa using hlen) (fun i o' ho'=>by
     obtain⟨rc,h1,g1,g2,g3,g4⟩:=hat (i+1) o' (by simpa using ho')
     exact⟨rc,h1,by simpa using g1,g2,by rw[hcnt,hb,cond_false,Nat.zero_add] at g3;exact g3,g4⟩) i p rc (by simpa using hi') (by simpa using hr) he
    exact⟨x,by simpa using h2,h3⟩
end
section
section
variable {P:Program} {T:TyTab} {G:Gl} {w0:World} {N:Nat} {cl:Cl} {ops:Array Oper} {ds:List (FuncId×List CV×List CV)} {φ φe:Tr CV} {h he:Hp} {rs:List Rc} {hs:List Hp} {iv:List (Nat×Nat)} {m0:Pm} {h0:Hp} {w_0:World}
structure DI (G:Gl) (w0:World) (N:Nat) (ops:Array Oper) (ds:List (FuncId×List CV×List CV)) (φ:Tr CV) (rs:List Rc) (hs:List Hp) (m0:Pm) (h0:Hp) (w_0:World) (L:Nat→Bool) (k:Nat) (m:Pm) (h:Hp) (a:Act) (w:World):Prop where
 hk:hs[k]?=some h
 mem:Mem G w0 m h w
 stp:Stp m0 h0 w_0 m h w
 dn:∀ (j:Nat) (rc:Rc) (t:Tmp),L j=true→rs[j]?=some rc→rc.o.dst=some t→rc.v.rel m h.n (a.tmps.getD t undef)
 un:∀ (t:Tmp) (c:CV),φ.get t=some c→(∀ (j:Nat) (o:Oper),L j=true→ops[j]?=some o→o.dst≠some t)→c.rel m h.n (a.tmps.getD t undef)
 sz:a.tmps.size=N
 df:defR m h.n ds a.defers
 ef:∀ (q p:Nat),(posE ops.toList 0)[q]?=some p→(L p=true↔q<k)
theorem wantD_spec {m:Pm} {n:Nat} {a:Act} {lk:Operand→Option CV} (hl:∀ x v,lk x=some v→v.rel m n (a.eval x)) {o:Oper} {b:Bool} (h:wantD ops lk o=some b):Region.wanted o (yielded ops a.tmps)=b:=by
 unfold wantD at h
 unfold Region.wanted
 split at h
 ·rename_i hg
  injection h with h;subst h
  simp[hg]
 ·rename_i j want hg
  simp only[hg]
  split at h
  ·rename_i ht
   injection h with h;subst h
   simp[yielded,ht]
  ·rename_i t ht
   split at h
   ·rename_i b' hb
    injection h with h;subst h
    have hr:=hl _ _ hb
    simp only[CV.rel] at hr
    have h1:a.tmps.getD t undef=.bool b':=hr.1
    rw[Array.getD_eq_getD_getElem?] at h1
    cases hq:a.tmps[t]? with
    | none=>rw[hq] at h1;simp[undef] at h1
    | some y =>
     rw[hq,Option.getD_some] at h1
     subst h1
     simp[yielded,ht,hq]
   ·rename_i vs hb
    injection h with h;subst h
    have hr:=hl _ _ hb
    simp only[CV.rel] at hr
    obtain⟨us,h1,_⟩:=hr
    have h1:a.tmps.getD t undef=.tuple us.toArray:=h1
    rw[Array.getD_eq_getD_getElem?] at h1
    cases hq:a.tmps[t]? with
    | none=>simp[yielded,ht,hq]
    | some y =>
     rw[hq,Option.getD_some] at h1
     subst h1
     simp[yielded,ht,hq]
   ·cases h
theorem DI.lk {L:Nat→Bool} {k:Nat} {m:Pm} {h1:Hp} {a:Act} {w:World} (S:SOK ops iv) (R:RunOK T G cl N ops ds ops.toList φ h rs hs φe he) (D:DI G w0 N ops ds φ rs hs m0 h0 w_0 L k m h1 a w) (hc:Closed ops L) {i:Nat} {o:Oper} (ho:ops[i]?=some o) (hL:L i=false) (hr:∀ e∈o.after,Region.binds .any e=true→L e.on=true) {rc:Rc} (hrc:rs[i]?=some rc) :
  ∀ x v,lkD ops o rc.φ x=some v→v.rel m h1.n (a.eval x):=by
 intro x v hv
 have hget:∀ {j:Nat} {o:Oper},ops[j]?=some o→ops.toList[j]?=some o:=fun h=>by simpa using h
 have hget':∀ {j:Nat} {o:Oper},ops.toList[j]?=some o→ops[j]?=some o:=fun h=>by simpa using h
 cases x with
 | tmp t =>
  simp only[lkD] at hv
  cases hin:(o.looksAt ops).any (Nat.beq t) with
  | false=>rw[hin] at hv;cases hv
  | true =>
   rw[hin,cond_true] at hv
   rw[List.any_eq_true] at hin
   obtain⟨t',ht,e⟩:=hin
   have:=beq_eq e;subst this
   show v.rel m h1.n (a.tmps.getD t undef)
   by_cases hex:∃ (j:Nat) (o':Oper),j<i∧ops[j]?=some o'∧o'.dst=some t
   ·obtain⟨j,o',hlt,ho',hd⟩:=hex
    obtain⟨r',h2,h3⟩:=R.wr i rc hrc j o' t hlt (hget ho') hd
    rw[hv] at h3;injection h3 with h3;subst h3
    have hLj:=((S.look i j o o' t ho ho' ht hd).1 hlt).ready hc ho hr
    obtain⟨rc2,_,g1,g2,_⟩:=R.at_ j o' (hget ho')
    rw[h2] at g1;injection g1 with g1;subst g1
    exact D.dn j _ t hLj h2 (by rw[g2];exact hd)
   ·have hno:=R.no i rc hrc t (fun j o' hlt ho' hd=>hex ⟨j,o',hlt,hget' ho',hd⟩)
    rw[hno] at hv
    refine D.un t v hv ?_
    intro j o' hLj ho' hd
    rcases Nat.lt_trichotomy j i with hlt | rfl | hlt
    ·exact hex ⟨j,o',hlt,ho',hd⟩
    ·rw[hL] at hLj;cases hLj
    ·have:=((S.look i j o o' t ho ho' ht hd).2 hlt).closed hc hLj
     rw[hL] at this;cases this
 | const c=>exact constC_rel hv
 | global g=>simp only[lkD,evalC,Option.some.injEq] at hv;subst hv;simp only[CV.rel,Act.eval]
 | func f=>simp only[lkD,evalC,Option.some.injEq] at hv;subst hv;simp only[CV.rel,Act.eval];exact⟨[],rfl,by simp only[CV.relL]⟩
theorem DI.put {L:Nat→Bool} {k k':Nat} {m m':Pm} {h1 h2:Hp} {a:Act} {w w':World} (S:SOK ops iv) (R:RunOK T G cl N ops ds ops.toList φ h rs hs φe he) (D:DI G w0 N ops ds φ rs hs m0 h0 w_0 L k m h1 a w) {i:Nat} {o:Oper} (ho:ops[i]?=some o) {rc:Rc} (hrc:rs[i]?=some rc) (hro:rc.o=o)
  (hk:hs[k']?=some h2) (M:Mem G w0 m' h2 w') (E:Ext m h1.n m' h2.n) (St:Stp m0 h0 w_0 m' h2 w') {y:Value} (hy:rc.v.rel m' h2.n y) {dfs:List Deferred} (hd:defR m' h2.n ds dfs)
  (hef:∀ (q p:Nat),(posE ops.toList 0)[q]?=some p→(setL L i p=true↔q<k')):DI G w0 N ops ds φ rs hs m0 h0 w_0 (setL L i) k' m' h2 ({ a with defers:=dfs }.put o.dst y) w':=by
 have hget:∀ {j:Nat} {o:Oper},ops[j]?=some o→ops.toList[j]?=some o:=fun h=>by simpa using h
 have hget':∀ {j:Nat} {o:Oper},ops.toList[j]?=some o→ops[j]?=some o:=fun h=>by simpa using h
 have hslot:∀ t,({ a with defers:=dfs }.put o.dst y).tmps.getD t undef=if o.dst=some t then y else a.tmps.getD t undef:=by
  intro t
  cases hdd:o.dst with
  | none=>simp[Act.put]
  | some d =>
   have hlt:d<N:=R.bnd i o d (hget ho) hdd
   simp only[Act.put]
   rw[getD_set (by rw[D.sz];exact hlt)]
   by_cases e:t=d
   ·simp[e]
   ·have:¬ (d=t):=fun h=>e h.symm
    simp[e,this]
 constructor
 ·exact hk
 ·exact M
 ·exact St
 ·intro j rc' t hL hj hd'
  rw[hslot]
  by_cases e:j=i
  ·subst e
   rw[hrc] at hj;injection hj with hj;subst hj
   rw[hro] at hd'
   rw[if_pos hd'];exact hy
  ·have hLj:L j=true:=by simpa [setL,e] using hL
   have hjl:j<ops.toList.length:=by rw[←R.rlen];exact (List.getElem?_eq_some_iff.1 hj).1
   obtain⟨rc2,_,g1,g2,_⟩:=R.at_ j ops.toList[j] (List.getElem?_eq_getElem hjl)
   rw[hj] at g1;injection g1 with g1;subst g1
   have hoj:ops[j]?=some rc'.o:=by rw[g2];exact hget' (List.getElem?_eq_getElem hjl)
   rw[if_neg]
   ·exact CV.rel_ext E _ _ (D.dn j rc' t hLj hj hd')
   ·intro hd2
    exact e (S.uniq j i _ o t hoj ho hd' hd2)
 ·intro t c hc hno
  have hne:o.dst≠some t:=hno i o (by simp[setL]) ho
  rw[hslot,if_neg hne]
  refine CV.rel_ext E _ _ (D.un t c hc ?_)
  intro j o' hLj
  exact hno j o' (by simp only[setL];split;rfl;exact hLj)
 ·have:({ a with defers:=dfs }.put o.dst y).tmps.size=a.tmps.size:=by cases o.dst <;> simp[Act.put]
  rw[this];exact D.sz
 ·have:({ a with defers:=dfs }.put o.dst y).defers=dfs:=by cases o.dst <;> simp[Act.put]
  rw[this];exact hd
 ·exact hef
theorem opL_ds {lk:Operand→Option CV} {o:Oper} {h h':Hp} {ds ds':List (FuncId×List CV×List CV)} {v:CV} (hx:opL T G cl lk o h ds=some (.val v h' ds')) (hd:∀ c,o.op≠.defer c):ds'=ds:=by
 unfold opL at hx
 split at hx
 ·simp only[Option.some.injEq,Oc.val.injEq] at hx;exact hx.2.2.symm
 ·split at hx
  ·simp only[Option.some.injEq,Oc.val.injEq] at hx;exact hx.2.2.symm
  ·split at hx
   ·split at hx
    ·unfold callC at hx
     split at hx
     ·simp only[Option.some.injEq,Oc.val.injEq] at hx;exact hx.2.2.symm
     ·simp at hx
     ·cases hx
    ·cases hx
   ·split at hx
    ·simp at hx
    ·cases hx
   ·rename_i ho
    exact absurd ho (hd _)
   ·cases hx
theorem DI.step (C:Cx P T) (hcl:ClOK P G w0 cl) {L:Nat→Bool} {k:Nat} {m:Pm} {h1:Hp} {a:Act} {w:World} (S:SOK ops iv) (R:RunOK T G cl N ops ds ops.toList φ h rs hs φe he) (hchk:chkD T G ops hs rs iv 0=true) (D:DI G w0 N ops ds φ rs hs m0 h0 w_0 L k m h1 a w) (hc:Closed ops L) {i:Nat} {o:Oper} (ho:ops[i]?=some o) (hL:L i=false) (hr:∀ e∈o.after,Region.binds .any e=true→L e.on=true) {Q:Exit→Act→World→Prop} {K:Act→World→Prop}
  (hK:∀ k' m' h' a' w' (y:Value) (dfs:List Deferred),a'=({ a with defers:=dfs }:Act).put o.dst y→DI G w0 N ops ds φ rs hs m0 h0 w_0 (setL L i) k' m' h' a' w'→K a' w'):wpOp P ops Q i K a w:=by
 have hget:∀ {j:Nat} {o:Oper},ops[j]?=some o→ops.toList[j]?=some o:=fun h=>by simpa using h
 have hget':∀ {j:Nat} {o:Oper},ops.toList[j]?=some o→ops[j]?=some o:=fun h=>by simpa using h
 obtain⟨rc,g0,g1,g2,g3,g4,g5⟩:=R.at_ i o (hget ho)
 have hlk:=D.lk S R hc ho hL hr g1
 have hklen:k≤(posE ops.toList 0).length:=by
  have:=(List.getElem?_eq_some_iff.1 D.hk).1
  rw[R.len] at this
  rw[posE_length];omega
 have hself:∀ (y:Value),({ a with defers:=a.defers }:Act).put o.dst y=a.put o.dst y:=fun _=>rfl
 unfold wpOp
 simp only[ho]
 cases hb:effD o.op with
 | false =>
  have hget2:=chkD_spec ops.toList rs iv 0 hchk R.rlen.symm (fun i o ho=>by
   obtain⟨rc,h1,g1,g2,g3,_,g5⟩:=R.at_ i o ho
   exact⟨rc,h1,g1,g2,by rw[Nat.zero_add];exact g3,g5⟩) i o rc (hget ho) g1 hb
  obtain⟨x,hx,hst⟩:=hget2
  have hlo:x.1≤k:=by
   rcases S.lo i x hx with h | ⟨p,h2,h3,h4⟩
   ·omega
   ·have:=(D.ef _ _ h2).1 (h3.ready hc ho hr);omega
  have hhi:k≤x.2:=by
   rcases S.hi i x hx with h | ⟨p,h2,h3⟩
   ·omega
   ·rcases Nat.lt_or_ge x.2 k with hlt | hge
    ·have:=h3.closed hc ((D.ef _ _ h2).2 hlt)
     rw[hL] at this;cases this
    ·exact hge
  have hv:=hst k hlo hhi h1 D.hk
  rw[g2] at hv
  have hef:∀ (q p:Nat),(posE ops.toList 0)[q]?=some p→(setL L i p=true↔q<k):=by
   intro q p hq
   have hne:p≠i:=by
    rintro rfl
    obtain⟨j,o',e,h2,h3,_⟩:=(posE_spec _ _ _ _).1 hq
    rw[Nat.zero_add] at e;subst e
    rw[hget ho] at h2;injection h2 with h2;subst h2
    rw[hb] at h3;cases h3
   rw[show setL L i p=L p by simp[setL,hne]]
   exact D.ef q p hq
  unfold stepP at hv
  split at hv
  ·rename_i hw
   rw[if_pos (wantD_spec hlk hw)]
   obtain⟨z,hz,hrun⟩:=yieldC_sound C D.mem hlk hv
   refine .inl ?_
   unfold Oper.wp
   rw[hrun,Oper.upon_value]
   exact hK k m h1 _ _ _ a.defers (hself _).symm (by rw[←hself];exact D.put S R ho g1 g2 D.hk D.mem (Ext.refl _ _) D.stp hz D.df hef)
  ·rename_i hw
   rw[if_neg (by rw[wantD_spec hlk hw];simp)]
   injection hv with hv
   exact hK k m h1 _ _ _ a.defers (hself _).symm (by rw[←hself];exact D.put S R ho g1 g2 D.hk D.mem (Ext.refl _ _) D.stp (by rw[←hv];exact rel_unit) D.df hef)
  ·cases hv
 | true =>
  obtain⟨h2,g6,g7⟩:=g4 hb
  have hpos:(posE ops.toList 0)[cntE ops.toList i]?=some i:=(posE_spec _ _ _ _).2 ⟨i,o,by omega,hget ho,hb,rfl⟩
  have hkq:k=cntE ops.toList i:=by
   have h5:¬ cntE ops.toList i<k:=fun hlt=>by
    have:=(D.ef _ _ hpos).2 hlt
    rw[hL] at this;cases this
   rcases Nat.eq_zero_or_pos (cntE ops.toList i) with h0 | hp
   ·omega
   ·have hlt:=(List.getElem?_eq_some_iff.1 hpos).1
    obtain⟨p,hp'⟩:∃ p,(posE ops.toList 0)[cntE ops.toList i-1]?=some p:=⟨_,List.getElem?_eq_getElem (by omega)⟩
    have:=S.chain _ _ _ hp' (by rw[show cntE ops.toList i-1+1=cntE ops.toList i by omega];exact hpos)
    have:=(D.ef _ _ hp').1 (this.ready hc ho hr)
    omega
  have e1:g0=h1:=by
   have:=D.hk;rw[hkq,g3] at this;exact Option.some.inj this
  subst e1
  have hef:∀ (q p:Nat),(posE ops.toList 0)[q]?=some p→(setL L i p=true↔q<k+1):=by
   intro q p hq
   by_cases hne:p=i
   ·subst hne
    obtain⟨j,o',e,h2,h3,h4⟩:=(posE_spec _ _ _ _).1 hq
    rw[Nat.zero_add] at e;subst e
    simp[setL];omega
   ·rw[show setL L i p=L p by simp[setL,hne]]
    have:=D.ef q p hq
    have hqk:q≠k:=by
     rintro rfl
     rw[hkq,hpos] at hq;injection hq with hq;exact hne hq.symm
    rw[this];omega
  rw[←hkq] at g6
  unfold stepE at g7
  split at g7
  ·rename_i hw
   rw[if_pos (wantD_spec hlk hw)]
   split at g7
   ·cases g7
   ·rename_i hnd
    split at g7
    ·rename_i v h' ds' hop
     simp only[Option.some.injEq,Prod.mk.injEq] at g7
     obtain⟨rfl,rfl⟩:=g7
     have hds:=opL_ds hop (fun c hc=>hnd c hc)
     subst hds
     refine .inl (opL_sound C hcl D.mem hlk D.df hop ?_ ?_)
     ·intro v2 h3 ds2 he y m' w' dfs M' St hy hd
      injection he with e1 e2 e3;subst e1;subst e2;subst e3
      exact hK (k+1) m' _ _ _ _ _ rfl (D.put S R ho g1 g2 g6 M' St.ext (D.stp.trans St) hy hd hef)
     ·intro v2 h3 he;cases he
    ·cases g7
  ·rename_i hw
   rw[if_neg (by rw[wantD_spec hlk hw];simp)]
   simp only[Option.some.injEq,Prod.mk.injEq] at g7
   obtain⟨h8,h9⟩:=g7
   subst h9
   exact hK (k+1) m g0 _ _ _ a.defers (hself _).symm (by rw[←hself];exact D.put S R ho g1 g2 g6 D.mem (Ext.refl _ _) D.stp (by rw[←h8];exact rel_unit) D.df hef)
  ·cases g7
theorem DI.run (C:Cx P T) (hcl:ClOK P G w0 cl) (S:SOK ops iv) (R:RunOK T G cl N ops ds ops.toList φ h rs hs φe he) (hchk:chkD T G ops hs rs iv 0=true) {Q:Exit→Act→World→Prop}
  (fin:∀ (L:Nat→Bool) k m h1 a w,(∀ i,i<ops.size→L i=true)→DI G w0 N ops ds φ rs hs m0 h0 w_0 L k m h1 a w→Q .normal a w) :
  ∀ (fuel:Nat) (listed:Array Bool) (k:Nat) (m:Pm) (h1:Hp) (a:Act) (w:World),listed.size=ops.size→Closed ops (fun i=>listed.getD i false)→fuel=left ops.size (fun i=>listed.getD i false) →
   DI G w0 N ops ds φ rs hs m0 h0 w_0 (fun i=>listed.getD i false) k m h1 a w→wpAny P .any ops Q fuel listed a w:=by
 intro fuel
 induction fuel with
 | zero =>
  intro listed k m h1 a w hsz hcl' hf D
  have hall:=left_zero hf.symm
  refine⟨?_,fin _ k m h1 a w hall D⟩
  rw[List.eq_nil_iff_forall_not_mem]
  intro i hi
  obtain⟨h2,oi,hoi,_⟩:=mem_ready.1 hi
  have hlt:i<ops.size:=(Array.getElem?_eq_some_iff.1 hoi).1
  rw[getD_tf (by omega),hall i hlt] at h2;cases h2
 | succ fuel ih =>
  intro listed k m h1 a w hsz hcl' hf D
  have hex:∃ i,i<ops.size∧listed.getD i false=false:=by
   apply Classical.byContradiction
   intro hno
   have:left ops.size (fun i=>listed.getD i false)=0:=by
    unfold left
    rw[List.filter_eq_nil_iff.2]
    ·rfl
    ·intro i hi
     rw[List.mem_range] at hi
     cases hq:listed.getD i false with
     | true=>simpa using hq
     | false=>exact absurd ⟨i,hi,hq⟩ hno
   omega
  obtain⟨i0,⟨hi0,hL0⟩,hmin⟩:=least hex
  have hready:i0∈Region.ready .any ops listed:=by
   refine mem_ready.2 ⟨by rw[getD_tf (by omega)];exact hL0,ops[i0],Array.getElem?_eq_getElem hi0,fun e he hb=>?_⟩
   have hb':=S.back i0 _ (Array.getElem?_eq_getElem hi0) e he hb
   cases hq:listed.getD e.on false with
   | true=>rfl
   | false=>have:=hmin e.on ⟨by omega,hq⟩;omega
  refine⟨fun h0=>by rw[h0] at hready;simp at hready,fun i hi=>?_⟩
  obtain⟨h2,oi,hoi,hall⟩:=mem_ready.1 hi
  have hlt:i<ops.size:=(Array.getElem?_eq_some_iff.1 hoi).1
  rw[getD_tf (by omega)] at h2
  have hset:(fun j=>(listed.setIfInBounds i true).getD j false)=setL (fun j=>listed.getD j false) i:=by
   funext j
   by_cases e:j=i
   ·subst e;simp[setL,hsz,hlt]
   ·rw[getD_set_ne false (Ne.symm e)];simp[setL,e]
  refine D.step C hcl S R hchk hcl' hoi h2 hall ?_
  intro k' m' h' a' w' _ _ _ D'
  refine ih _ k' m' h' a' w' (by simp[hsz]) ?_ ?_ (by rw[hset];exact D')
  ·rw[hset]
   intro i' o' ho' hL' e' he' hb'
   simp only[setL] at hL' ⊢
   by_cases e1:e'.on=i
   ·simp[e1]
   ·rw[if_neg e1]
    by_cases e2:i'=i
    ·subst e2
     rw[hoi] at ho';injection ho' with ho';subst ho'
     exact hall e' he' hb'
    ·rw[if_neg e2] at hL'
     exact hcl' i' o' ho' hL' e' he' hb'
  ·rw[hset]
   have:=left_set (L:=fun j=>listed.getD j false) h2 (n:=ops.size)
   rw[if_pos hlt] at this
   omega
theorem Mem.drawn {m:Pm} {h:Hp} {w:World} (M:Mem G w0 m h w):Mem G w0 m h { w with drawn:=w.drawn+1 }:=by
 refine⟨?_,M.lt,fun l o hl=>?_,M.own,M.dj,M.gl⟩
 ·exact⟨M.below.os,M.below.tape,M.below.output,M.below.size,M.below.block⟩
 ·exact CO.rel_keep (Ext.refl _ _) (M.lt l o hl) (fun _=>rfl) (M.ob l o hl)
theorem drawC_sound (C:Cx P T) (hcl:ClOK P G w0 cl) {id:Nat} {s s':Fs} {a:Act} {w:World} {m:Pm} (S:FsR G w0 N m s a w) (St:Stp m0 h0 w_0 m s.h w) (hx:drawC T G cl N ops s=some s') :
  (Code.region id ops true).wp P (CodeR G w0 N m0 h0 w_0 .nrm s') a w:=by
 unfold drawC at hx
 split at hx
 ·rename_i iv hst
  have SO:=staticD_spec hst
  split at hx
  ·rename_i rs hs φ' h' hrun
   cases hchk:chkD T G ops hs rs iv 0 with
   | false=>rw[hchk] at hx;cases hx
   | true =>
    rw[hchk,cond_true] at hx
    injection hx with hx;subst hx
    have hget:∀ {j:Nat} {o:Oper},ops[j]?=some o→ops.toList[j]?=some o:=fun h=>by simpa using h
    have hget':∀ {j:Nat} {o:Oper},ops.toList[j]?=some o→ops[j]?=some o:=fun h=>by simpa using h
    have R:=runD_spec ops.toList s.φ s.h rs hs φ' h' hrun (fun i j p p' t h1 h2 h3 h4=>SO.uniq i j p p' t (hget' h1) (hget' h2) h3 h4)
    refine wp_region_any C.mixed ?_
    have hrep:∀ i,(Array.replicate ops.size false).getD i false=false:=fun i=>by
     rw[Array.getD_eq_getD_getElem?,Array.getElem?_replicate];split <;> rfl
    refine DI.run (m0:=m0) (h0:=h0) (w_0:=w_0) C hcl SO R hchk ?_ ops.size (Array.replicate ops.size false) 0 m s.h a _ (by simp) ?_ ?_ ?_
    ·intro L k m1 h1 a1 w1 hall D
     have hk:k=cntE ops.toList ops.toList.length:=by
      have hle:k≤cntE ops.toList ops.toList.length:=by
       have:=(List.getElem?_eq_some_iff.1 D.hk).1
       rw[R.len] at this;omega
      rcases Nat.eq_zero_or_pos (cntE ops.toList ops.toList.length) with h0 | hp
      ·omega
      ·have hlt:cntE ops.toList ops.toList.length-1<(posE ops.toList 0).length:=by rw[posE_length];omega
       obtain⟨j,o,e,h2,h3,h4⟩:=(posE_spec _ _ _ _).1 (List.getElem?_eq_getElem hlt)
       have:=(D.ef _ _ (List.getElem?_eq_getElem hlt)).1 (hall _ (by
        rw[e,Nat.zero_add];exact (Array.getElem?_eq_some_iff.1 (hget' h2)).1))
       omega
     have e1:h1=h':=by
      have:=D.hk;rw[hk,R.last] at this;exact (Option.some.inj this).symm
     subst e1
     refine⟨m1,⟨D.mem,?_,D.sz,D.df⟩,D.stp,rfl⟩
     intro t c hc
     by_cases hex:∃ (j:Nat) (o':Oper),ops[j]?=some o'∧o'.dst=some t
     ·obtain⟨j,o',ho',hd⟩:=hex
      obtain⟨r',h2,h3⟩:=R.wre j o' t (hget ho') hd
      rw[show (φ'.get t)=some c from hc] at h3;injection h3 with h3;subst h3
      obtain⟨rc2,_,g1,g2,_⟩:=R.at_ j o' (hget ho')
      rw[h2] at g1;injection g1 with g1;subst g1
      exact D.dn j _ t (hall j (Array.getElem?_eq_some_iff.1 ho').1) h2 (by rw[g2];exact hd)
     ·have hno:=R.noe t (fun j o' ho' hd=>hex ⟨j,o',hget' ho',hd⟩)
      rw[show (φ'.get t)=some c from hc] at hno
      exact D.un t c hno.symm (fun j o' _ ho' hd=>hex ⟨j,o',ho',hd⟩)
    ·intro i o _ hL
     exact absurd ((hrep i).symm.trans hL) (by simp)
    ·unfold left
     rw[List.filter_eq_self.2 (fun i _=>by show (!(Array.replicate ops.size false).getD i false)=true;rw[hrep];rfl)]
     simp
    ·refine⟨R.first,S.mem.drawn,⟨St.ext,?_,?_⟩,?_,?_,S.sz,S.df,?_⟩
     ·exact⟨St.keep.os,St.keep.tape,St.keep.output,St.keep.size,St.keep.block⟩
     ·exact St.img
     ·intro j rc t hL;exact absurd ((hrep j).symm.trans hL) (by simp)
     ·intro t c hc _;exact S.fr t c hc
     ·intro q p _
      constructor
      ·intro hL;exact absurd ((hrep p).symm.trans hL) (by simp)
      ·intro h;omega
  ·cases hx
 ·cases hx
end
end
section
def Tr.delI {α:Type}:Tr α→Nat→Tr α
 | .e,_=>.e
 | .n l v r,k=>bif Nat.beq k 0 then .n l none r else bif Nat.beq (k % 2) 1 then .n (Tr.delI l (k / 2)) v r else .n l v (Tr.delI r (k / 2-1))
def Tr.del {α:Type} (t:Tr α):Nat→Tr α :=
 @Tr.rec α (fun _=>Nat→Tr α) (fun _=>.e) (fun l v r ihl ihr k=>@Nat.rec (fun _=>Tr α) (.n l none r) (fun j _=>@Nat.rec (fun _=>Tr α) (.n (ihl (Nat.div j 2)) v r) (fun _ _=>.n l v (ihr (Nat.div j 2))) (Nat.mod j 2)) k) t
theorem Tr.del_n {α:Type} (l:Tr α) (v:Option α) (r:Tr α):∀ k,Tr.del (.n l v r) k=bif Nat.beq k 0 then .n l none r else bif Nat.beq (k % 2) 1 then .n (Tr.del l (k / 2)) v r else .n l v (Tr.del r (k / 2-1))
 | 0=>rfl
 | j+1=>(pick_par j (fun i=>Tr.n (Tr.del l i) v r) (fun i=>Tr.n l v (Tr.del r i))).trans (by rw[show Nat.beq (j+1) 0=false from rfl,cond_false])
theorem Tr.get_del {α:Type}:∀ (t:Tr α) (k j:Nat),(Tr.del t k).get j=if j=k then none else t.get j
 | .e,k,j=>by
  show (Tr.e:Tr α).get j=_
  rw[Tr.get_e];simp
 | .n l v r,k,j=>by
  simp only[Tr.del_n,cond_beq]
  split
  ·rename_i h0;subst h0
   simp only[Tr.get_n,cond_beq]
   split <;> simp_all
  ·rename_i h0
   split
   ·rename_i h1
    simp only[Tr.get_n,cond_beq]
    by_cases hj:j=0
    ·have hk:¬ (0=k):=fun h=>h0 h.symm
     simp[hj,hk]
    ·simp only[hj,if_false]
     by_cases hj1:j % 2=1
     ·rw[if_pos hj1,if_pos hj1,Tr.get_del l]
      by_cases e:j=k
      ·subst e;simp
      ·rw[if_neg e,if_neg (by omega)]
     ·rw[if_neg hj1,if_neg hj1,if_neg (by omega)]
   ·rename_i h1
    simp only[Tr.get_n,cond_beq]
    by_cases hj:j=0
    ·have hk:¬ (0=k):=fun h=>h0 h.symm
     simp[hj,hk]
    ·simp only[hj,if_false]
     by_cases hj1:j % 2=1
     ·rw[if_pos hj1,if_pos hj1,if_neg (by omega)]
     ·rw[if_neg hj1,if_neg hj1,Tr.get_del r]
      by_cases e:j=k
      ·subst e;simp
      ·rw[if_neg e,if_neg (by omega)]
structure Fl where
 f:Nat
 t:Tmp
 ty:TypeId
 x:Operand
def findF:List Oper→Nat→Option Fl
 | [],_=>none
 | o::r,i=>match o.op,o.dst,o.guard,r with
  | .alloc ty,some t,none,s::_=>(match s.op,s.dst,s.guard with
   | .store ty' (.tmp t') x,none,none=>bif Nat.beq ty ty'&&Nat.beq t t'&&(s.after.toList.any fun e=>Region.binds .any e&&Nat.beq e.on i) then some ⟨i,t,ty,x⟩ else findF r (i+1)
   | _,_,_=>findF r (i+1))
  | _,_,_,_=>findF r (i+1)
def vOp (fl:Fl) (i:Nat) (o:Oper):Oper :=
 bif Nat.beq i fl.f then { o with op:=.move (.const (.bool true)),dst:=none } else bif Nat.beq i (fl.f+1) then { o with op:=.box fl.ty fl.x,dst:=some fl.t } else o
def virtL (fl:Fl):List Oper→Nat→List Oper
 | [],_=>[]
 | o::r,i=>vOp fl i o::virtL fl r (i+1)
def guardsF (fl:Fl):List Oper→Bool
 | []=>true
 | o::r=>(match o.guard with | none=>true | some (j,_)=>!(Nat.beq j fl.f)&&!(Nat.beq j (fl.f+1)))&&guardsF fl r
def fitF (T:TyTab) (fl:Fl) (ops:Array Oper) (rs:List Rc):Bool :=
 match T fl.ty,rs[fl.f+1]? with
 | some ti,some rc=>match lkD ops rc.o rc.φ fl.x with
  | some v=>match cellsC v with
   | some cs=>Nat.beq cs.length ti.size
   | none=>false
  | none=>false
 | _,_=>false
def drawF (T:TyTab) (G:Gl) (cl:Cl) (N:Nat) (ops:Array Oper) (s:Fs):Option Fs :=
 match findF ops.toList 0 with
 | some fl=>bif guardsF fl ops.toList then (match staticD (virtL fl ops.toList 0).toArray with
  | some iv=>match runD T G cl N (virtL fl ops.toList 0).toArray s.ds (virtL fl ops.toList 0) (s.φ.del fl.t) s.h with
   | some (rs,hs,φ,h)=>bif chkD T G (virtL fl ops.toList 0).toArray hs rs iv 0&&fitF T fl (virtL fl ops.toList 0).toArray rs then some ⟨φ,h,s.ds⟩ else none
   | none=>none
  | none=>none) else none
 | none=>none
theorem virtL_get (fl:Fl):∀ (l:List Oper) (i j:Nat),(virtL fl l i)[j]?=(l[j]?).map (vOp fl (i+j))
 | [],i,j=>by simp[virtL]
 | o::r,i,0=>by simp[virtL]
 | o::r,i,j+1=>by
  simp only[virtL,List.getElem?_cons_succ]
  rw[virtL_get fl r (i+1) j,show i+1+j=i+(j+1) by omega]
theorem virtL_len (fl:Fl):∀ (l:List Oper) (i:Nat),(virtL fl l i).length=l.length
 | [],_=>rfl
 | _::r,i=>by simp[virtL,virtL_len fl r]
theorem vOp_after (fl:Fl) (i:Nat) (o:Oper):(vOp fl i o).after=o.after:=by
 unfold vOp
 cases Nat.beq i fl.f <;> cases Nat.beq i (fl.f+1) <;> rfl
theorem vOp_same {fl:Fl} {i:Nat} (h:i≠fl.f) (h':i≠fl.f+1) (o:Oper):vOp fl i o=o:=by
 unfold vOp;rw[beq_false.2 h,beq_false.2 h'];rfl
theorem vOp_f (fl:Fl) (o:Oper):vOp fl fl.f o={ o with op:=.move (.const (.bool true)),dst:=none }:=by
 unfold vOp;rw[beq_true.2 rfl];rfl
theorem vOp_s (fl:Fl) (o:Oper):vOp fl (fl.f+1) o={ o with op:=.box fl.ty fl.x,dst:=some fl.t }:=by
 unfold vOp;rw[beq_false.2 (by omega),beq_true.2 rfl];rfl
def FSpec (l:List Oper) (i:Nat) (fl:Fl):Prop :=
 ∃ j o s,fl.f=i+j∧l[j]?=some o∧l[j+1]?=some s∧o.op=.alloc fl.ty∧o.dst=some fl.t∧o.guard=none∧s.op=.store fl.ty (.tmp fl.t) fl.x∧s.dst=none∧s.guard=none∧∃ e∈s.after,Region.binds .any e=true∧e.on=fl.f
theorem findF_spec:∀ (l:List Oper) (i:Nat) (fl:Fl),findF l i=some fl→FSpec l i fl
 | [],i,fl,h=>by simp[findF] at h
 | o::r,i,fl,h=>by
  have next:findF r (i+1)=some fl→FSpec (o::r) i fl:=fun h=>by
   obtain⟨j,o',s',h1,h2,h3,h4⟩:=findF_spec r (i+1) fl h
   exact⟨j+1,o',s',by omega,by simpa using h2,by simpa using h3,h4⟩
  simp only[findF] at h
  split at h
  ·rename_i ty t s r' h1 h2 h3
   split at h
   ·rename_i ty' t' x g1 g2 g3
    cases hb:(Nat.beq ty ty'&&Nat.beq t t'&&(s.after.toList.any fun e=>Region.binds .any e&&Nat.beq e.on i)) with
    | false=>rw[hb] at h;exact next h
    | true =>
     rw[hb,cond_true] at h
     injection h with h;subst h
     simp only[Bool.and_eq_true] at hb
     obtain⟨⟨b1,b2⟩,b3⟩:=hb
     have b1:=beq_eq b1;have b2:=beq_eq b2
     subst b1;subst b2
     rw[List.any_eq_true] at b3
     obtain⟨e,he,hb⟩:=b3
     rw[Bool.and_eq_true] at hb
     exact⟨0,o,s,rfl,rfl,rfl,h1,h2,h3,g1,g2,g3,e,Array.mem_toList_iff.1 he,hb.1,beq_eq hb.2⟩
   ·exact next h
  ·exact next h
theorem guardsF_spec {fl:Fl}:∀ {l:List Oper},guardsF fl l=true→∀ (i:Nat) (o:Oper),l[i]?=some o→∀ j b,o.guard=some (j,b)→j≠fl.f∧j≠fl.f+1
 | [],_,i,o,h,_,_,_=>by simp at h
 | x::r,hg,i,o,h,j,b,ho=>by
  simp only[guardsF,Bool.and_eq_true] at hg
  cases i with
  | zero =>
   simp at h;subst h
   rw[ho] at hg
   simp only[Bool.and_eq_true,Bool.not_eq_true'] at hg
   exact⟨beq_false.1 hg.1.1,beq_false.1 hg.1.2⟩
  | succ i=>exact guardsF_spec hg.2 i o (by simpa using h) j b ho
section
variable {P:Program} {T:TyTab} {G:Gl} {w0:World} {N:Nat} {cl:Cl} {m:Pm} {h:Hp} {w:World}
theorem Mem.extra (M:Mem G w0 m h w) (o:Obj):Mem G w0 m h (w.alloc o)∧Stp m h w m h (w.alloc o):=by
 have hold:∀ b,b<w.heap.size→(w.alloc o).heap[b]?=w.heap[b]?:=alloc_old w o
 have hs:=alloc_lt w o
 refine⟨⟨?_,M.lt,fun l q hl=>?_,M.own,M.dj,M.gl⟩,⟨Ext.refl _ _,⟨rfl,rfl,rfl,Nat.le_of_lt hs,fun b hb _=>hold b hb⟩,fun l q hl hq=>.inl ⟨l,q,hl,hq,rfl⟩⟩⟩
 ·exact⟨M.below.os,M.below.tape,M.below.output,by have:=M.below.size;omega,fun b hb=>by rw[hold b (by have:=M.below.size;omega)];exact M.below.block b hb⟩
 ·exact CO.rel_keep (Ext.refl _ _) (M.lt l q hl) (fun hq=>hold _ (CO.rel_lt (M.ob l q hl) hq)) (M.ob l q hl)
theorem Mem.adopt (M:Mem G w0 m h w) {g:Nat} (o:CO) (sz:Nat) {w':World} (hg0:w0.heap.size≤g) (hgl:∀ l q,h.σ.get l=some q→q.live=true→m.b l≠g)
  (h1:w'.os=w.os) (h2:w'.tape=w.tape) (h3:w'.output=w.output) (h4:w'.heap.size=w.heap.size) (h5:∀ b,b≠g→w'.heap[b]?=w.heap[b]?)
  (ho:o.rel (m.put h.n g sz) (h.n+1) w' h.n):Mem G w0 (m.put h.n g sz) ⟨h.σ.set o h.n,h.n+1⟩ w' ∧
   ∀ (m0:Pm) (h0:Hp) (w_0:World),Stp m0 h0 w_0 m h w→w_0.heap.size≤g→Stp m0 h0 w_0 (m.put h.n g sz) ⟨h.σ.set o h.n,h.n+1⟩ w':=by
 have e:=Ext.put m h.n g sz
 have hget:∀ l' q,(h.σ.set o h.n).get l'=some q→(l'=h.n∧q=o)∨(l'<h.n∧h.σ.get l'=some q):=by
  intro l' q hq
  rw[Tr.get_set] at hq
  split at hq
  ·injection hq with hq;exact .inl ⟨by assumption,hq.symm⟩
  ·exact .inr ⟨M.lt _ _ hq,hq⟩
 have hbs:=M.below.size
 refine⟨⟨?_,?_,?_,?_,?_,M.gl⟩,fun m0 h0 w_0 St hw=>⟨St.ext.trans e,⟨h1.trans St.keep.os,h2.trans St.keep.tape,h3.trans St.keep.output,by rw[h4];exact St.keep.size,fun b hb hne=>?_⟩,?_⟩⟩
 ·exact⟨h1.trans M.below.os,h2.trans M.below.tape,h3.trans M.below.output,by omega,fun b hb'=>by rw[h5 b (by omega)];exact M.below.block b hb'⟩
 ·intro l' q hq
  rcases hget l' q hq with⟨rfl,_⟩ | ⟨hlt,hq⟩
  ·exact Nat.lt_succ_self _
  ·exact Nat.lt_succ_of_lt hlt
 ·intro l' q hq
  rcases hget l' q hq with⟨rfl,rfl⟩ | ⟨hlt,hq⟩
  ·exact ho
  ·exact CO.rel_keep e hlt (fun hlq=>h5 _ (hgl l' q hq hlq)) (M.ob l' q hq)
 ·intro l' q hq hlq
  rcases hget l' q hq with⟨rfl,rfl⟩ | ⟨hlt,hq⟩
  ·show w0.heap.size≤(m.put h.n g sz).b h.n
   rw[Pm.put_b];exact hg0
  ·rw[e.b l' hlt];exact M.own l' q hq hlq
 ·intro l1 l2 o1 o2 g1 g2 hne v1 v2
  rcases hget l1 o1 g1 with⟨rfl,rfl⟩ | ⟨n1,q1⟩
  ·rcases hget l2 o2 g2 with⟨rfl,rfl⟩ | ⟨n2,q2⟩
   ·exact absurd rfl hne
   ·rw[Pm.put_b,e.b l2 n2];exact (hgl l2 o2 q2 v2).symm
  ·rcases hget l2 o2 g2 with⟨rfl,rfl⟩ | ⟨n2,q2⟩
   ·rw[Pm.put_b,e.b l1 n1];exact hgl l1 o1 q1 v1
   ·rw[e.b l1 n1,e.b l2 n2];exact M.dj _ _ _ _ q1 q2 hne v1 v2
 ·rw[h5 b (by omega)];exact St.keep.block b hb hne
 ·intro l' q hq hlq
  rcases hget l' q hq with⟨rfl,rfl⟩ | ⟨hlt,hq⟩
  ·exact .inr (by rw[Pm.put_b];exact hw)
  ·rw[e.b l' hlt];exact St.img l' q hq hlq
end
end
section
section
variable {P:Program} {T:TyTab} {G:Gl} {w0:World} {N:Nat} {cl:Cl} {ops V:Array Oper} {fl:Fl} {ti:TI} {ds:List (FuncId×List CV×List CV)} {φ φe:Tr CV} {h he:Hp} {rs:List Rc} {hs:List Hp} {iv:List (Nat×Nat)} {m0:Pm} {h0:Hp} {w_0:World}
structure DIF (G:Gl) (w0:World) (N:Nat) (V:Array Oper) (fl:Fl) (ti:TI) (ds:List (FuncId×List CV×List CV)) (φ:Tr CV) (rs:List Rc) (hs:List Hp) (m0:Pm) (h0:Hp) (w_0:World) (L:Nat→Bool) (k:Nat) (m:Pm) (h:Hp) (a:Act) (w:World):Prop where
 d:DI G w0 N V ds φ rs hs m0 h0 w_0 L k m h a w
 ex:L fl.f=true→L (fl.f+1)=false→∃ g us,a.tmps.getD fl.t undef=.pointer (some ⟨g,0,none⟩)∧w.heap[g]?=some (.cells us fl.ty (0,0))∧us.size=ti.size∧w_0.heap.size≤g∧w0.heap.size≤g∧∀ l o,h.σ.get l=some o→o.live=true→m.b l≠g
structure FOK (T:TyTab) (ops V:Array Oper) (fl:Fl) (ti:TI) (φ:Tr CV) (rs:List Rc) (N:Nat):Prop where
 vi:∀ i,V[i]?=(ops[i]?).map (vOp fl i)
 of:∃ o,ops[fl.f]?=some o∧o.op=.alloc fl.ty∧o.dst=some fl.t∧o.guard=none
 os:∃ s,ops[fl.f+1]?=some s∧s.op=.store fl.ty (.tmp fl.t) fl.x∧s.dst=none∧s.guard=none∧∃ e∈s.after,Region.binds .any e=true∧e.on=fl.f
 gd:∀ (i:Nat) (o:Oper),ops[i]?=some o→∀ j b,o.guard=some (j,b)→j≠fl.f∧j≠fl.f+1
 nt:φ.get fl.t=none
 ht:T fl.ty=some ti
 ft:∃ rc v cs,rs[fl.f+1]?=some rc∧lkD V rc.o rc.φ fl.x=some v∧cellsC v=some cs∧cs.length=ti.size
theorem wanted_virt (F:FOK T ops V fl ti φ rs N) {i:Nat} {o:Oper} (ho:ops[i]?=some o) (a:Act):Region.wanted o (yielded V a.tmps)=Region.wanted o (yielded ops a.tmps):=by
 unfold Region.wanted
 cases hg:o.guard with
 | none=>rfl
 | some g =>
  obtain⟨j,b⟩:=g
  obtain⟨h1,h2⟩:=F.gd i o ho j b hg
  have:yielded V a.tmps j=yielded ops a.tmps j:=by
   unfold yielded
   rw[F.vi j]
   cases ops[j]? with
   | none=>rfl
   | some x=>simp[vOp_same h1 h2]
  simp only[this]
theorem DIF.step (C:Cx P T) (hcl:ClOK P G w0 cl) (F:FOK T ops V fl ti φ rs N) {L:Nat→Bool} {k:Nat} {m:Pm} {h1:Hp} {a:Act} {w:World} (S:SOK V iv) (R:RunOK T G cl N V ds V.toList φ h rs hs φe he) (hchk:chkD T G V hs rs iv 0=true) (D:DIF G w0 N V fl ti ds φ rs hs m0 h0 w_0 L k m h1 a w) (hc:Closed V L) {i:Nat} {o:Oper} (ho:ops[i]?=some o) (hL:L i=false) (hr:∀ e∈o.after,Region.binds .any e=true→L e.on=true) {Q:Exit→Act→World→Prop} {K:Act→World→Prop}
  (hK:∀ k' m' h' a' w',DIF G w0 N V fl ti ds φ rs hs m0 h0 w_0 (setL L i) k' m' h' a' w'→K a' w'):wpOp P ops Q i K a w:=by
 have hget:∀ {j:Nat} {o:Oper},V[j]?=some o→V.toList[j]?=some o:=fun h=>by simpa using h
 have hget':∀ {j:Nat} {o:Oper},V.toList[j]?=some o→V[j]?=some o:=fun h=>by simpa using h
 have hV:V[i]?=some (vOp fl i o):=by rw[F.vi i,ho];rfl
 have hrV:∀ e∈(vOp fl i o).after,Region.binds .any e=true→L e.on=true:=by rw[vOp_after];exact hr
 obtain⟨s,hs1,hs2,hs3,hs4,es,hes1,hes2,hes3⟩:=F.os
 have hVs:V[fl.f+1]?=some { s with op:=.box fl.ty fl.x,dst:=some fl.t }:=by rw[F.vi,hs1];simp[vOp_s]
 have hN:fl.t<N:=R.bnd (fl.f+1) _ fl.t (hget hVs) rfl
 have hslot:∀ (j:Nat) (oj:Oper),V[j]?=some oj→oj.dst=some fl.t→j=fl.f+1:=fun j oj hj hd=>S.uniq j (fl.f+1) oj _ fl.t hj hVs hd rfl
 by_cases e1:i=fl.f
 ·
  subst e1
  obtain⟨o',q1,q2,q3,q4⟩:=F.of
  rw[ho] at q1;injection q1 with q1;subst q1
  obtain⟨z,hz,hz2,hz3,hz4,_⟩:=C.zok _ _ F.ht
  have hLs:L (fl.f+1)=false:=by
   cases hq:L (fl.f+1) with
   | false=>rfl
   | true =>
    have:=hc (fl.f+1) _ hVs hq es hes1 hes2
    rw[hes3,hL] at this;cases this
  unfold wpOp
  simp only[ho]
  rw[if_pos (by simp[Region.wanted,q4])]
  refine .inl ?_
  unfold Oper.wp
  have hrun:(execOp a.eval o).run P w=.ok (.value (.pointer (some ⟨w.heap.size,0,none⟩))) (w.alloc (.cells z.cells fl.ty)):=by
   simp[execOp,q2,Instr.alloc,hz,newVar,newRow]
  rw[hrun,Oper.upon_value,q3]
  obtain⟨M',St'⟩:=D.d.mem.extra (.cells z.cells fl.ty)
  have hsl:∀ t,(a.put (some fl.t) (.pointer (some ⟨w.heap.size,0,none⟩))).tmps.getD t undef=if t=fl.t then .pointer (some ⟨w.heap.size,0,none⟩) else a.tmps.getD t undef:=by
   intro t
   simp only[Act.put]
   rw[getD_set (by rw[D.d.sz];exact hN)]
  refine hK k m h1 _ _ ⟨⟨D.d.hk,M',D.d.stp.trans St',?_,?_,?_,D.d.df,?_⟩,fun _ _=>⟨w.heap.size,z.cells,?_,?_,hz4,D.d.stp.keep.size,D.d.mem.below.size,fun l q hl hq e=>?_⟩⟩
  ·intro j rc t hLj hj hd
   have hjl:j<V.toList.length:=by rw[←R.rlen];exact (List.getElem?_eq_some_iff.1 hj).1
   obtain⟨rc2,_,g1,g2,_⟩:=R.at_ j V.toList[j] (List.getElem?_eq_getElem hjl)
   rw[hj] at g1;injection g1 with g1;subst g1
   have hoj:V[j]?=some rc.o:=by rw[g2];exact hget' (List.getElem?_eq_getElem hjl)
   have hjne:j≠fl.f:=by
    rintro rfl
    rw[hV] at hoj;injection hoj with hoj
    rw[←hoj,vOp_f] at hd;cases hd
   have hLj':L j=true:=by simpa [setL,hjne] using hLj
   have htne:t≠fl.t:=by
    rintro rfl
    have:=hslot j rc.o hoj hd
    rw[this,hLs] at hLj';cases hLj'
   rw[hsl,if_neg htne]
   exact D.d.dn j rc t hLj' hj hd
  ·intro t c hc' hno
   have htne:t≠fl.t:=by rintro rfl;rw[F.nt] at hc';cases hc'
   rw[hsl,if_neg htne]
   exact D.d.un t c hc' (fun j oj hLj=>hno j oj (by simp only[setL];split;rfl;exact hLj))
  ·simp[Act.put,D.d.sz]
  ·intro q p hq
   have hne:p≠fl.f:=by
    rintro rfl
    obtain⟨j,oj,e,h2,h3,_⟩:=(posE_spec _ _ _ _).1 hq
    rw[Nat.zero_add] at e;subst e
    rw[hget hV] at h2;injection h2 with h2;subst h2
    rw[vOp_f] at h3;cases h3
   rw[show setL L fl.f p=L p by simp[setL,hne]]
   exact D.d.ef q p hq
  ·rw[hsl,if_pos rfl]
  ·show (w.heap.push _)[w.heap.size]?=_
   simp
  ·have:=CO.rel_lt (D.d.mem.ob l q hl) hq
   omega
 ·by_cases e2:i=fl.f+1
  ·
   subst e2
   rw[ho] at hs1;injection hs1 with hs1;subst hs1
   have hLf:L fl.f=true:=by have:=hr es hes1 hes2;rwa [hes3] at this
   obtain⟨g,us,x1,x2,x3,x4,x5,x6⟩:=D.ex hLf hL
   rw[hVs] at hV
   obtain⟨rc,g0,g1,g2,g3,g4,g5⟩:=R.at_ (fl.f+1) _ (hget hVs)
   have hlk:=D.d.lk S R hc hVs hL hr g1
   obtain⟨rc',v,cs,f1,f2,f3,f4⟩:=F.ft
   rw[g1] at f1;injection f1 with f1;subst f1
   rw[g2] at f2
   obtain⟨h2,g6,g7⟩:=g4 rfl
   have hpos:(posE V.toList 0)[cntE V.toList (fl.f+1)]?=some (fl.f+1):=(posE_spec _ _ _ _).2 ⟨fl.f+1,_,by omega,hget hVs,rfl,rfl⟩
   have hkq:k=cntE V.toList (fl.f+1):=by
    have h5:¬ cntE V.toList (fl.f+1)<k:=fun hlt=>by
     have:=(D.d.ef _ _ hpos).2 hlt
     rw[hL] at this;cases this
    rcases Nat.eq_zero_or_pos (cntE V.toList (fl.f+1)) with h0 | hp
    ·omega
    ·have hlt:=(List.getElem?_eq_some_iff.1 hpos).1
     obtain⟨p,hp'⟩:∃ p,(posE V.toList 0)[cntE V.toList (fl.f+1)-1]?=some p:=⟨_,List.getElem?_eq_getElem (by omega)⟩
     have:=S.chain _ _ _ hp' (by rw[show cntE V.toList (fl.f+1)-1+1=cntE V.toList (fl.f+1) by omega];exact hpos)
     have:=(D.d.ef _ _ hp').1 (this.ready hc hVs hr)
     omega
   have e1':g0=h1:=by
    have:=D.d.hk;rw[hkq,g3] at this;exact Option.some.inj this
   subst e1'
   have hef:∀ (q p:Nat),(posE V.toList 0)[q]?=some p→(setL L (fl.f+1) p=true↔q<k+1):=by
    intro q p hq
    by_cases hne:p=fl.f+1
    ·subst hne
     obtain⟨j,o',e,h2,h3,h4⟩:=(posE_spec _ _ _ _).1 hq
     rw[Nat.zero_add] at e
     subst e
     simp[setL];omega
    ·rw[show setL L (fl.f+1) p=L p by simp[setL,hne]]
     have:=D.d.ef q p hq
     have hqk:q≠k:=by
      rintro rfl
      rw[hkq,hpos] at hq;injection hq with hq;exact hne hq.symm
     rw[this];omega
   rw[←hkq] at g6
   have hval:rc.v=.ptr g0.n 0∧h2=g0.new (.cells fl.ty cs):=by
    unfold stepE at g7
    have hw:wantD V (lkD V { o with op:=.box fl.ty fl.x,dst:=some fl.t } rc.φ) { o with op:=.box fl.ty fl.x,dst:=some fl.t }=some true:=by
     simp[wantD,hs4]
    rw[hw] at g7
    simp only[opL,yieldC,effC,f2,f3] at g7
    simp only[Option.some.injEq,Prod.mk.injEq] at g7
    exact⟨g7.1.symm,g7.2.symm⟩
   obtain⟨hv1,hv2⟩:=hval
   subst hv2
   have hxr:=hlk fl.x v f2
   obtain⟨c1,c2⟩:=cellsC_rel hxr f3
   have hcl2:=relL_length c1
   unfold wpOp
   simp only[ho]
   rw[if_pos (by simp[Region.wanted,hs4])]
   refine .inl ?_
   unfold Oper.wp
   have hst:=run_store_block (w:=w) (g:=g) (off:=0) (t:=fl.ty) (us:=us.toList) (v:=a.eval fl.x) C.tok F.ht (by simpa using x2) rfl (by rw[hcl2];exact f4) (by have q1:us.toList.length=us.size:=Array.length_toList;have q2:(a.eval fl.x).cells.toList.length=(a.eval fl.x).cells.size:=Array.length_toList;omega) c2
   rw[add_at,Nat.zero_add] at hst
   have hrow:(us.toList.take 0++(a.eval fl.x).cells.toList++us.toList.drop (0+(a.eval fl.x).cells.toList.length)).toArray=(a.eval fl.x).cells:=by
    rw[List.drop_eq_nil_of_le (by have q1:us.toList.length=us.size:=Array.length_toList;omega)]
    simp
   rw[hrow] at hst
   have hrun:(execOp a.eval o).run P w=.ok .skip (w.setRow g (a.eval fl.x).cells):=by
    have hp:a.eval (.tmp fl.t)=.pointer (some ⟨g,0,none⟩):=x1
    simp[execOp,hs2,hp,hst]
   rw[hrun,Oper.upon_skip,hs3]
   obtain⟨M',Sb⟩:=D.d.mem.adopt (g:=g) (.cells fl.ty cs) (a.eval fl.x).cells.size (w':=w.setRow g (a.eval fl.x).cells) x5 x6 rfl rfl rfl (by simp[World.setRow]) (fun b hb=>setRow_other w g b _ hb) (by
    refine⟨(a.eval fl.x).cells,(a.eval fl.x).cells.toList,?_,(Pm.put_sz _ _ _ _).symm,CV.relL_ext (Ext.put _ _ _ _) _ _ c1,c2,take_self⟩
    rw[Pm.put_b];exact setRow_heap w g us _ fl.ty _ x2)
   have E:=Ext.put m g0.n g (a.eval fl.x).cells.size
   refine hK (k+1) (m.put g0.n g (a.eval fl.x).cells.size) _ _ _ ⟨⟨g6,M',Sb m0 h0 w_0 D.d.stp x4,?_,?_,D.d.sz,defR_ext E D.d.df,hef⟩,fun _ hq=>by simp[setL] at hq⟩
   ·intro j rc2 t hLj hj hd
    show rc2.v.rel _ _ (a.tmps.getD t undef)
    by_cases ej:j=fl.f+1
    ·subst ej
     rw[g1] at hj;injection hj with hj;subst hj
     rw[g2] at hd;injection hd with hd;subst hd
     rw[hv1,x1];exact rel_new
    ·have hLj':L j=true:=by simpa [setL,ej] using hLj
     exact CV.rel_ext E _ _ (D.d.dn j rc2 t hLj' hj hd)
   ·intro t c hc' hno
    show c.rel _ _ (a.tmps.getD t undef)
    exact CV.rel_ext E _ _ (D.d.un t c hc' (fun j oj hLj=>hno j oj (by simp only[setL];split;rfl;exact hLj)))
  ·
   rw[vOp_same e1 e2] at hV
   have D2:DI G w0 N V ds φ rs hs m h1 w L k m h1 a w:=⟨D.d.hk,D.d.mem,Stp.refl _ _ _,D.d.dn,D.d.un,D.d.sz,D.d.df,D.d.ef⟩
   have hsame:∀ j,j=fl.f∨j=fl.f+1→setL L i j=L j:=fun j hj=>by
    have:j≠i:=by rcases hj with rfl | rfl <;> omega
    simp[setL,this]
   have key:=DI.step C hcl S R hchk D2 hc hV hL hr (Q:=Q) (K:=K) (fun k' m' h' a' w' y dfs ha' D'=>hK k' m' h' a' w' ⟨⟨D'.hk,D'.mem,D.d.stp.trans D'.stp,D'.dn,D'.un,D'.sz,D'.df,D'.ef⟩,fun hf hs=>by
    rw[hsame _ (.inl rfl)] at hf
    rw[hsame _ (.inr rfl)] at hs
    obtain⟨g,us,x1,x2,x3,x4,x5,x6⟩:=D.ex hf hs
    have hlt:g<w.heap.size:=(Array.getElem?_eq_some_iff.1 x2).1
    refine⟨g,us,?_,?_,x3,x4,x5,fun l q hl hq e=>?_⟩
    ·subst ha'
     cases hd:o.dst with
     | none=>exact x1
     | some d =>
      have hne:fl.t≠d:=by
       rintro rfl
       exact e2 (hslot i o hV hd)
      simp only[Act.put]
      rw[getD_set (by rw[D.d.sz];exact R.bnd i o d (hget hV) hd),if_neg hne]
      exact x1
    ·rw[D'.stp.keep.block g hlt x6];exact x2
    ·rcases D'.stp.img l q hl hq with⟨l0,o0,y1,y2,y3⟩ | y1
     ·exact x6 l0 o0 y1 y2 (y3.trans e)
     ·omega⟩)
   unfold wpOp at key ⊢
   simp only[ho]
   simp only[hV] at key
   rw[←wanted_virt F ho]
   exact key
theorem DIF.run (C:Cx P T) (hcl:ClOK P G w0 cl) (F:FOK T ops V fl ti φ rs N) (S:SOK V iv) (R:RunOK T G cl N V ds V.toList φ h rs hs φe he) (hchk:chkD T G V hs rs iv 0=true) {Q:Exit→Act→World→Prop}
  (fin:∀ (L:Nat→Bool) k m h1 a w,(∀ i,i<ops.size→L i=true)→DIF G w0 N V fl ti ds φ rs hs m0 h0 w_0 L k m h1 a w→Q .normal a w) :
  ∀ (fuel:Nat) (listed:Array Bool) (k:Nat) (m:Pm) (h1:Hp) (a:Act) (w:World),listed.size=ops.size→Closed V (fun i=>listed.getD i false)→fuel=left ops.size (fun i=>listed.getD i false) →
   DIF G w0 N V fl ti ds φ rs hs m0 h0 w_0 (fun i=>listed.getD i false) k m h1 a w→wpAny P .any ops Q fuel listed a w:=by
 intro fuel
 induction fuel with
 | zero =>
  intro listed k m h1 a w hsz hcl' hf D
  have hall:=left_zero hf.symm
  refine⟨?_,fin _ k m h1 a w hall D⟩
  rw[List.eq_nil_iff_forall_not_mem]
  intro i hi
  obtain⟨h2,oi,hoi,_⟩:=mem_ready.1 hi
  have hlt:i<ops.size:=(Array.getElem?_eq_some_iff.1 hoi).1
  rw[getD_tf (by omega),hall i hlt] at h2;cases h2
 | succ fuel ih =>
  intro listed k m h1 a w hsz hcl' hf D
  have hex:∃ i,i<ops.size∧listed.getD i false=false:=by
   apply Classical.byContradiction
   intro hno
   have:left ops.size (fun i=>listed.getD i false)=0:=by
    unfold left
    rw[List.filter_eq_nil_iff.2]
    ·rfl
    ·intro i hi
     rw[List.mem_range] at hi
     cases hq:listed.getD i false with
     | true=>simpa using hq
     | false=>exact absurd ⟨i,hi,hq⟩ hno
   omega
  obtain⟨i0,⟨hi0,hL0⟩,hmin⟩:=least hex
  have hVo:∀ {i:Nat} {o:Oper},ops[i]?=some o→V[i]?=some (vOp fl i o):=fun h=>by rw[F.vi,h];rfl
  have hready:i0∈Region.ready .any ops listed:=by
   refine mem_ready.2 ⟨by rw[getD_tf (by omega)];exact hL0,ops[i0],Array.getElem?_eq_getElem hi0,fun e he hb=>?_⟩
   have hb':=S.back i0 _ (hVo (Array.getElem?_eq_getElem hi0)) e (by rw[vOp_after];exact he) hb
   cases hq:listed.getD e.on false with
   | true=>rfl
   | false=>have:=hmin e.on ⟨by omega,hq⟩;omega
  refine⟨fun h0=>by rw[h0] at hready;simp at hready,fun i hi=>?_⟩
  obtain⟨h2,oi,hoi,hall⟩:=mem_ready.1 hi
  have hlt:i<ops.size:=(Array.getElem?_eq_some_iff.1 hoi).1
  rw[getD_tf (by omega)] at h2
  have hset:(fun j=>(listed.setIfInBounds i true).getD j false)=setL (fun j=>listed.getD j false) i:=by
   funext j
   by_cases e:j=i
   ·subst e;simp[setL,hsz,hlt]
   ·rw[getD_set_ne false (Ne.symm e)];simp[setL,e]
  refine D.step C hcl F S R hchk hcl' hoi h2 hall ?_
  intro k' m' h' a' w' D'
  refine ih _ k' m' h' a' w' (by simp[hsz]) ?_ ?_ (by rw[hset];exact D')
  ·rw[hset]
   intro i' o' ho' hL' e' he' hb'
   simp only[setL] at hL' ⊢
   by_cases e1:e'.on=i
   ·simp[e1]
   ·rw[if_neg e1]
    by_cases e2:i'=i
    ·subst e2
     rw[hVo hoi] at ho';injection ho' with ho';subst ho'
     rw[vOp_after] at he'
     exact hall e' he' hb'
    ·rw[if_neg e2] at hL'
     exact hcl' i' o' ho' hL' e' he' hb'
  ·rw[hset]
   have:=left_set (L:=fun j=>listed.getD j false) h2 (n:=ops.size)
   rw[if_pos hlt] at this
   omega
theorem drawF_sound (C:Cx P T) (hcl:ClOK P G w0 cl) {id:Nat} {s s':Fs} {a:Act} {w:World} {m:Pm} (S:FsR G w0 N m s a w) (St:Stp m0 h0 w_0 m s.h w) (hx:drawF T G cl N ops s=some s') :
  (Code.region id ops true).wp P (CodeR G w0 N m0 h0 w_0 .nrm s') a w:=by
 unfold drawF at hx
 split at hx
 ·rename_i fl hfl
  cases hgd:guardsF fl ops.toList with
  | false=>rw[hgd] at hx;cases hx
  | true =>
  rw[hgd,cond_true] at hx
  split at hx
  ·rename_i iv hst
   have SO:=staticD_spec hst
   split at hx
   ·rename_i rs hs φ' h' hrun
    cases hchk:chkD T G (virtL fl ops.toList 0).toArray hs rs iv 0&&fitF T fl (virtL fl ops.toList 0).toArray rs with
    | false=>rw[hchk] at hx;cases hx
    | true =>
     rw[hchk,cond_true] at hx
     injection hx with hx;subst hx
     rw[Bool.and_eq_true] at hchk
     obtain⟨hchk,hfit⟩:=hchk
     generalize hVd:(virtL fl ops.toList 0).toArray=V at *
     have hVl:V.toList=virtL fl ops.toList 0:=by rw[←hVd]
     rw[←hVl] at hrun
     have hvi:∀ i,V[i]?=(ops[i]?).map (vOp fl i):=fun i=>by
      rw[←hVd]
      have:=virtL_get fl ops.toList 0 i
      rw[Nat.zero_add] at this
      simpa using this
     have hsize:V.size=ops.size:=by rw[←hVd];simp[virtL_len]
     have hget:∀ {j:Nat} {o:Oper},V[j]?=some o→V.toList[j]?=some o:=fun h=>by simpa using h
     have hget':∀ {j:Nat} {o:Oper},V.toList[j]?=some o→V[j]?=some o:=fun h=>by simpa using h
     have R:=runD_spec V.toList (s.φ.del fl.t) s.h rs hs φ' h' hrun (fun i j p p' t h1 h2 h3 h4=>SO.uniq i j p p' t (hget' h1) (hget' h2) h3 h4)
     obtain⟨j,o1,s1,y0,y1,y2,y3,y4,y5,y6,y7,y8,y9⟩:=findF_spec _ _ _ hfl
     rw[Nat.zero_add] at y0
     rw[←y0] at y1 y2
     have hft:∃ ti,T fl.ty=some ti∧∃ rc v cs,rs[fl.f+1]?=some rc∧lkD V rc.o rc.φ fl.x=some v∧cellsC v=some cs∧cs.length=ti.size:=by
      unfold fitF at hfit
      split at hfit
      ·rename_i ti rc z1 z2
       split at hfit
       ·rename_i v z3
        split at hfit
        ·rename_i cs z4
         exact⟨ti,z1,rc,v,cs,z2,z3,z4,beq_eq hfit⟩
        ·cases hfit
       ·cases hfit
      ·cases hfit
     obtain⟨ti,hti,hft⟩:=hft
     have F:FOK T ops V fl ti (s.φ.del fl.t) rs N:=⟨hvi,⟨o1,by simpa using y1,y3,y4,y5⟩,⟨s1,by simpa using y2,y6,y7,y8,y9⟩,fun i o ho j b hg=>guardsF_spec hgd i o (by simpa using ho) j b hg,by rw[Tr.get_del,if_pos rfl],hti,hft⟩
     refine wp_region_any C.mixed ?_
     have hrep:∀ i,(Array.replicate ops.size false).getD i false=false:=fun i=>by
      rw[Array.getD_eq_getD_getElem?,Array.getElem?_replicate];split <;> rfl
     refine DIF.run (m0:=m0) (h0:=h0) (w_0:=w_0) (ti:=ti) C hcl F SO R hchk ?_ ops.size (Array.replicate ops.size false) 0 m s.h a _ (by simp) ?_ ?_ ?_
     ·intro L k m1 h1 a1 w1 hall DF
      have D:=DF.d
      have hk:k=cntE V.toList V.toList.length:=by
       have hle:k≤cntE V.toList V.toList.length:=by
        have:=(List.getElem?_eq_some_iff.1 D.hk).1
        rw[R.len] at this;omega
       rcases Nat.eq_zero_or_pos (cntE V.toList V.toList.length) with h0 | hp
       ·omega
       ·have hlt:cntE V.toList V.toList.length-1<(posE V.toList 0).length:=by rw[posE_length];omega
        obtain⟨j,o,e,h2,h3,h4⟩:=(posE_spec _ _ _ _).1 (List.getElem?_eq_getElem hlt)
        have:=(D.ef _ _ (List.getElem?_eq_getElem hlt)).1 (hall _ (by
         rw[e,Nat.zero_add,←hsize];exact (Array.getElem?_eq_some_iff.1 (hget' h2)).1))
        omega
      have e1:h1=h':=by
       have:=D.hk;rw[hk,R.last] at this;exact (Option.some.inj this).symm
      subst e1
      refine⟨m1,⟨D.mem,?_,D.sz,D.df⟩,D.stp,rfl⟩
      intro t c hc
      by_cases hex:∃ (j:Nat) (o':Oper),V[j]?=some o'∧o'.dst=some t
      ·obtain⟨j,o',ho',hd⟩:=hex
       obtain⟨r',h2,h3⟩:=R.wre j o' t (hget ho') hd
       rw[show (φ'.get t)=some c from hc] at h3;injection h3 with h3;subst h3
       obtain⟨rc2,_,g1,g2,_⟩:=R.at_ j o' (hget ho')
       rw[h2] at g1;injection g1 with g1;subst g1
       exact D.dn j _ t (hall j (by rw[←hsize];exact (Array.getElem?_eq_some_iff.1 ho').1)) h2 (by rw[g2];exact hd)
      ·have hno:=R.noe t (fun j o' ho' hd=>hex ⟨j,o',hget' ho',hd⟩)
       rw[show (φ'.get t)=some c from hc] at hno
       exact D.un t c hno.symm (fun j o' _ ho' hd=>hex ⟨j,o',ho',hd⟩)
     ·intro i o _ hL
      exact absurd ((hrep i).symm.trans hL) (by simp)
     ·unfold left
      rw[List.filter_eq_self.2 (fun i _=>by show (!(Array.replicate ops.size false).getD i false)=true;rw[hrep];rfl)]
      simp
     ·refine⟨⟨R.first,S.mem.drawn,⟨St.ext,?_,?_⟩,?_,?_,S.sz,S.df,?_⟩,fun hL=>absurd ((hrep _).symm.trans hL) (by simp)⟩
      ·exact⟨St.keep.os,St.keep.tape,St.keep.output,St.keep.size,St.keep.block⟩
      ·exact St.img
      ·intro j rc t hL;exact absurd ((hrep j).symm.trans hL) (by simp)
      ·intro t c hc _
       rw[Tr.get_del] at hc
       split at hc
       ·cases hc
       ·exact S.fr t c hc
      ·intro q p _
       constructor
       ·intro hL;exact absurd ((hrep p).symm.trans hL) (by simp)
       ·intro h;omega
   ·cases hx
  ·cases hx
 ·cases hx
end
end
section
def waitsL (ops:Array Oper) (n:Nat):Bool :=
 match masksM ops.toList 0 .e with
 | some ms=>(List.range n).all fun j=>wq ms n j
 | none=>false
def guardsL (n:Nat):List Oper→Bool
 | []=>true
 | o::r=>(match o.guard with | none=>true | some (j,_)=>!(Nat.beq j n))&&guardsL n r
def drawL (T:TyTab) (G:Gl) (cl:Cl) (N:Nat) (ops:Array Oper) (s:Fs):Option (Ex×Fs) :=
 match ops.back? with
 | some o=>bif waitsL ops ops.pop.size&&guardsL ops.pop.size ops.pop.toList&&o.guard.isNone then (match drawC T G cl N ops.pop s with
  | some s1=>match opC T G cl o s1 with
   | some (.val v h ds)=>match putφ N o.dst v s1.φ with
    | some φ=>some (.nrm,⟨φ,h,ds⟩)
    | none=>none
   | some (.pan v h)=>some (.pan v,⟨s1.φ,h,s1.ds⟩)
   | none=>none
  | none=>none) else none
 | none=>none
section
variable {P:Program} {T:TyTab} {G:Gl} {w0:World} {N:Nat} {cl:Cl} {m0:Pm} {h0:Hp} {w_0:World}
theorem guardsL_spec {n:Nat}:∀ {l:List Oper},guardsL n l=true→∀ (i:Nat) (o:Oper),l[i]?=some o→∀ j b,o.guard=some (j,b)→j≠n
 | [],_,i,o,h,_,_,_=>by simp at h
 | x::r,hg,i,o,h,j,b,ho=>by
  simp only[guardsL,Bool.and_eq_true] at hg
  cases i with
  | zero =>
   simp at h;subst h
   rw[ho] at hg
   simp only[Bool.not_eq_true'] at hg
   exact beq_false.1 hg.1
  | succ i=>exact guardsL_spec hg.2 i o (by simpa using h) j b ho
theorem Oper.wp_monoQ {o:Oper} {a:Act} {w:World} {K:Act→World→Prop} {Q Q':Exit→Act→World→Prop} (hp:∀ ch a w,Q (.panic ch) a w→Q' (.panic ch) a w) (ho:LetsOut Q→LetsOut Q') (hh:o.wp P a w K Q):o.wp P a w K Q':=by
 unfold Oper.wp at *
 generalize (execOp a.eval o).run P w=r at *
 cases r with
 | ok n w' =>
  cases n <;> simp only[Oper.upon] at hh ⊢ <;>
   first
    | exact hh
    | exact Calls.mono hh (fun e w'' he=>by cases e <;> first | exact he | exact hp _ _ _ he | exact ho he)
 | halt x w'=>cases x <;> simp only[Oper.upon] at hh ⊢ <;> first | exact hh | exact hp _ _ _ hh
theorem drawC_any (C:Cx P T) (hcl:ClOK P G w0 cl) {ops:Array Oper} {s s':Fs} {a:Act} {w:World} {m:Pm} (S:FsR G w0 N m s a w) (St:Stp m0 h0 w_0 m s.h w) (hx:drawC T G cl N ops s=some s') {Q:Exit→Act→World→Prop}
  (fin:∀ m1 a1 w1,FsR G w0 N m1 s' a1 w1→Stp m0 h0 w_0 m1 s'.h w1→Q .normal a1 w1) :
  (∀ i o,ops[i]?=some o→∀ e∈o.after,Region.binds .any e=true→e.on<i)∧wpAny P .any ops Q ops.size (Array.replicate ops.size false) a { w with drawn:=w.drawn+1 }:=by
 unfold drawC at hx
 split at hx
 ·rename_i iv hst
  have SO:=staticD_spec hst
  split at hx
  ·rename_i rs hs φ' h' hrun
   cases hchk:chkD T G ops hs rs iv 0 with
   | false=>rw[hchk] at hx;cases hx
   | true =>
    rw[hchk,cond_true] at hx
    injection hx with hx;subst hx
    have hget:∀ {j:Nat} {o:Oper},ops[j]?=some o→ops.toList[j]?=some o:=fun h=>by simpa using h
    have hget':∀ {j:Nat} {o:Oper},ops.toList[j]?=some o→ops[j]?=some o:=fun h=>by simpa using h
    have R:=runD_spec ops.toList s.φ s.h rs hs φ' h' hrun (fun i j p p' t h1 h2 h3 h4=>SO.uniq i j p p' t (hget' h1) (hget' h2) h3 h4)
    refine⟨SO.back,?_⟩
    have hrep:∀ i,(Array.replicate ops.size false).getD i false=false:=fun i=>by
     rw[Array.getD_eq_getD_getElem?,Array.getElem?_replicate];split <;> rfl
    refine DI.run (m0:=m0) (h0:=h0) (w_0:=w_0) C hcl SO R hchk ?_ ops.size (Array.replicate ops.size false) 0 m s.h a _ (by simp) ?_ ?_ ?_
    ·intro L k m1 h1 a1 w1 hall D
     have hk:k=cntE ops.toList ops.toList.length:=by
      have hle:k≤cntE ops.toList ops.toList.length:=by
       have:=(List.getElem?_eq_some_iff.1 D.hk).1
       rw[R.len] at this;omega
      rcases Nat.eq_zero_or_pos (cntE ops.toList ops.toList.length) with h0 | hp
      ·omega
      ·have hlt:cntE ops.toList ops.toList.length-1<(posE ops.toList 0).length:=by rw[posE_length];omega
       obtain⟨j,o,e,h2,h3,h4⟩:=(posE_spec _ _ _ _).1 (List.getElem?_eq_getElem hlt)
       have:=(D.ef _ _ (List.getElem?_eq_getElem hlt)).1 (hall _ (by
        rw[e,Nat.zero_add];exact (Array.getElem?_eq_some_iff.1 (hget' h2)).1))
       omega
     have e1:h1=h':=by
      have:=D.hk;rw[hk,R.last] at this;exact (Option.some.inj this).symm
     subst e1
     refine fin m1 a1 w1 ⟨D.mem,?_,D.sz,D.df⟩ D.stp
     intro t c hc
     by_cases hex:∃ (j:Nat) (o':Oper),ops[j]?=some o'∧o'.dst=some t
     ·obtain⟨j,o',ho',hd⟩:=hex
      obtain⟨r',h2,h3⟩:=R.wre j o' t (hget ho') hd
      rw[show (φ'.get t)=some c from hc] at h3;injection h3 with h3;subst h3
      obtain⟨rc2,_,g1,g2,_⟩:=R.at_ j o' (hget ho')
      rw[h2] at g1;injection g1 with g1;subst g1
      exact D.dn j _ t (hall j (Array.getElem?_eq_some_iff.1 ho').1) h2 (by rw[g2];exact hd)
     ·have hno:=R.noe t (fun j o' ho' hd=>hex ⟨j,o',hget' ho',hd⟩)
      rw[show (φ'.get t)=some c from hc] at hno
      exact D.un t c hno.symm (fun j o' _ ho' hd=>hex ⟨j,o',ho',hd⟩)
    ·intro i o _ hL
     exact absurd ((hrep i).symm.trans hL) (by simp)
    ·unfold left
     rw[List.filter_eq_self.2 (fun i _=>by show (!(Array.replicate ops.size false).getD i false)=true;rw[hrep];rfl)]
     simp
    ·refine⟨R.first,S.mem.drawn,⟨St.ext,?_,?_⟩,?_,?_,S.sz,S.df,?_⟩
     ·exact⟨St.keep.os,St.keep.tape,St.keep.output,St.keep.size,St.keep.block⟩
     ·exact St.img
     ·intro j rc t hL;exact absurd ((hrep j).symm.trans hL) (by simp)
     ·intro t c hc _;exact S.fr t c hc
     ·intro q p _
      constructor
      ·intro hL;exact absurd ((hrep p).symm.trans hL) (by simp)
      ·intro h;omega
  ·cases hx
 ·cases hx
theorem wpAny_last {pre:Array Oper} {o:Oper} (hw:∀ j,j<pre.size→Wt (pre.push o) pre.size j) (hback:∀ (i:Nat) (oi:Oper),pre[i]?=some oi→∀ e∈oi.after,Region.binds .any e=true→e.on<i)
  (hgd:∀ (i:Nat) (oi:Oper),pre[i]?=some oi→∀ (j:Nat) (b:Bool),oi.guard=some (j,b)→j≠pre.size) (hob:∀ e∈o.after,Region.binds .any e=true→e.on<pre.size) {Q:Exit→Act→World→Prop} :
  ∀ (fuel:Nat) (lp:Array Bool) (a:Act) (w:World),lp.size=pre.size→Closed pre (fun i=>lp.getD i false)→fuel=left pre.size (fun i=>lp.getD i false) →
   wpAny P .any pre (Exit.then (fun a w=>wpOp P (pre.push o) Q pre.size (fun a w=>Q .normal a w) a w) Q) fuel lp a w→wpAny P .any (pre.push o) Q (fuel+1) (lp.push false) a w:=by
 have hp:∀ {i:Nat},i<pre.size→(pre.push o)[i]?=pre[i]?:=fun h=>Array.getElem?_push_lt h ▸ (Array.getElem?_eq_getElem h).symm
 have hlast:(pre.push o)[pre.size]?=some o:=Array.getElem?_push_size
 intro fuel
 induction fuel with
 | zero =>
  intro lp a w hsz hcl hf h
  have hall:=left_zero hf.symm
  obtain⟨_,h⟩:=h
  have h:wpOp P (pre.push o) Q pre.size (fun a w=>Q .normal a w) a w:=h
  have hgl:∀ i,i<pre.size→∀ d,(lp.push false).getD i d=true:=fun i hi d=>by
   have h1:lp.getD i false=true:=hall i hi
   rw[Array.getD_eq_getD_getElem?] at h1 ⊢
   rw[Array.getElem?_push_lt (by omega)]
   rw[Array.getElem?_eq_getElem (by omega)] at h1
   exact h1
  have hgn:(lp.push false).getD pre.size true=false:=by
   rw[Array.getD_eq_getD_getElem?,←hsz,Array.getElem?_push_size];rfl
  have hr:∀ i,i∈Region.ready .any (pre.push o) (lp.push false)→i=pre.size:=fun i hi=>by
   obtain⟨h1,oi,h2,_⟩:=mem_ready.1 hi
   have hlt:=(Array.getElem?_eq_some_iff.1 h2).1
   rw[Array.size_push] at hlt
   rcases Nat.lt_or_ge i pre.size with h3 | h3
   ·rw[hgl i h3] at h1;cases h1
   ·omega
  have hin:pre.size∈Region.ready .any (pre.push o) (lp.push false):=mem_ready.2 ⟨hgn,o,hlast,fun e he hb=>hgl _ (hob e he hb) _⟩
  refine⟨fun h0=>by rw[h0] at hin;simp at hin,fun i hi=>?_⟩
  rw[hr i hi]
  refine wpOp_mono (fun a w hq=>⟨?_,hq⟩) h
  rw[List.eq_nil_iff_forall_not_mem]
  intro j hj
  obtain⟨h1,oj,h2,_⟩:=mem_ready.1 hj
  have hlt:=(Array.getElem?_eq_some_iff.1 h2).1
  rw[Array.size_push] at hlt
  rcases Nat.lt_or_ge j pre.size with h3 | h3
  ·rw[getD_set_ne true (by omega),hgl j h3] at h1;cases h1
  ·have:j=pre.size:=by omega
   subst this
   rw[Array.getD_eq_getD_getElem?,Array.getElem?_setIfInBounds_self_of_lt (by simp[hsz])] at h1
   cases h1
 | succ fuel ih =>
  intro lp a w hsz hcl hf h
  have hex:∃ i,i<pre.size∧lp.getD i false=false:=by
   apply Classical.byContradiction
   intro hno
   have:left pre.size (fun i=>lp.getD i false)=0:=by
    unfold left
    rw[List.filter_eq_nil_iff.2]
    ·rfl
    ·intro i hi
     rw[List.mem_range] at hi
     cases hq:lp.getD i false with
     | true=>simpa using hq
     | false=>exact absurd ⟨i,hi,hq⟩ hno
   omega
  obtain⟨i0,⟨hi0,hL0⟩,hmin⟩:=least hex
  have hgp:∀ i d,i<pre.size→(lp.push false).getD i d=lp.getD i d:=fun i d hi=>by
   rw[Array.getD_eq_getD_getElem?,Array.getD_eq_getD_getElem?,Array.getElem?_push_lt (by omega),Array.getElem?_eq_getElem (by omega)]
  have hready:i0∈Region.ready .any (pre.push o) (lp.push false):=by
   refine mem_ready.2 ⟨by rw[hgp _ _ hi0,getD_tf (by omega)];exact hL0,pre[i0],by rw[hp hi0];exact Array.getElem?_eq_getElem hi0,fun e he hb=>?_⟩
   have hb':=hback i0 _ (Array.getElem?_eq_getElem hi0) e he hb
   rw[hgp _ _ (by omega)]
   cases hq:lp.getD e.on false with
   | true=>rfl
   | false=>have:=hmin e.on ⟨by omega,hq⟩;omega
  refine⟨fun h0=>by rw[h0] at hready;simp at hready,fun i hi=>?_⟩
  obtain⟨h1,oi,h2,hall⟩:=mem_ready.1 hi
  have hlt:=(Array.getElem?_eq_some_iff.1 h2).1
  rw[Array.size_push] at hlt
  have hcl':Closed (pre.push o) (fun i=>(lp.push false).getD i false):=by
   intro j oj hj hLj e he hb
   have hltj:=(Array.getElem?_eq_some_iff.1 hj).1
   rw[Array.size_push] at hltj
   rcases Nat.lt_or_ge j pre.size with h3 | h3
   ·rw[hp h3] at hj
    simp only[hgp _ _ h3] at hLj
    have hb':=hback j oj hj e he hb
    show (lp.push false).getD e.on false=true
    rw[hgp _ _ (by omega)]
    exact hcl j oj hj hLj e he hb
   ·have:j=pre.size:=by omega
    subst this
    exfalso
    have:(lp.push false).getD pre.size false=false:=by
     rw[Array.getD_eq_getD_getElem?,←hsz,Array.getElem?_push_size];rfl
    simp only[this] at hLj;cases hLj
  have hilt:i<pre.size:=by
   rcases Nat.lt_or_ge i pre.size with h3 | h3
   ·exact h3
   ·exfalso
    have:i=pre.size:=by omega
    subst this
    have:=(hw i0 hi0).ready hcl' h2 hall
    rw[hgp _ _ hi0,hL0] at this;cases this
  rw[hp hilt] at h2
  have hir:i∈Region.ready .any pre lp:=by
   refine mem_ready.2 ⟨by rw[←hgp _ _ hilt];exact h1,oi,h2,fun e he hb=>?_⟩
   have hb':=hback i oi h2 e he hb
   rw[←hgp _ _ (by omega)];exact hall e he hb
  have hst:=h.2 i hir
  have hLi:lp.getD i false=false:=by rw[hgp _ _ hilt,getD_tf (by omega)] at h1;exact h1
  have hset:(lp.push false).setIfInBounds i true=(lp.setIfInBounds i true).push false:=by
   apply Array.ext_getElem?
   intro k
   rw[Array.getElem?_setIfInBounds,Array.getElem?_push,Array.getElem?_push,Array.getElem?_setIfInBounds,Array.size_push,Array.size_setIfInBounds]
   by_cases hik:i=k
   ·subst hik
    rw[if_pos rfl,if_pos rfl,if_pos (by omega),if_neg (by omega),if_pos (by omega)]
   ·rw[if_neg hik,if_neg hik]
  rw[hset]
  have hset2:(fun j=>(lp.setIfInBounds i true).getD j false)=setL (fun j=>lp.getD j false) i:=by
   funext j
   by_cases e:j=i
   ·subst e;simp[setL,hsz,hilt]
   ·rw[getD_set_ne false (Ne.symm e)];simp[setL,e]
  have step:∀ a w,wpAny P .any pre (Exit.then (fun a w=>wpOp P (pre.push o) Q pre.size (fun a w=>Q .normal a w) a w) Q) fuel (lp.setIfInBounds i true) a w→wpAny P .any (pre.push o) Q (fuel+1) ((lp.setIfInBounds i true).push false) a w:=by
   intro a w hh
   refine ih _ a w (by simp[hsz]) ?_ ?_ hh
   ·rw[hset2]
    intro i' o' ho' hL' e' he' hb'
    simp only[setL] at hL' ⊢
    by_cases e1:e'.on=i
    ·simp[e1]
    ·rw[if_neg e1]
     by_cases e2:i'=i
     ·subst e2
      rw[h2] at ho';injection ho' with ho';subst ho'
      have hb2:=hback i' _ h2 e' he' hb'
      have:=hall e' he' hb'
      rwa [hgp _ _ (by omega)] at this
     ·rw[if_neg e2] at hL'
      exact hcl i' o' ho' hL' e' he' hb'
   ·rw[hset2]
    have:=left_set (L:=fun j=>lp.getD j false) hLi (n:=pre.size)
    rw[if_pos hilt] at this
    omega
  have hst:=wpOp_mono step hst
  unfold wpOp at hst ⊢
  simp only[h2] at hst
  simp only[hp hilt,h2]
  have hwant:Region.wanted oi (yielded (pre.push o) a.tmps)=Region.wanted oi (yielded pre a.tmps):=by
   unfold Region.wanted
   cases hg:oi.guard with
   | none=>rfl
   | some g =>
    obtain⟨j,b⟩:=g
    have hne:=hgd i oi h2 j b hg
    have:yielded (pre.push o) a.tmps j=yielded pre a.tmps j:=by
     unfold yielded
     rcases Nat.lt_or_ge j pre.size with h3 | h3
     ·rw[hp h3]
     ·rw[Array.getElem?_eq_none (by rw[Array.size_push];omega),Array.getElem?_eq_none h3]
    simp only[this]
  rw[hwant]
  split
  ·rename_i hww
   rw[if_pos hww] at hst
   exact hst.imp (Oper.wp_monoQ (fun _ _ _ h=>h) (fun h=>h)) (fun h=>⟨h.1,h.2⟩)
  ·rename_i hww
   rw[if_neg hww] at hst
   exact hst
theorem drawL_sound (C:Cx P T) (hcl:ClOK P G w0 cl) {ops:Array Oper} {id:Nat} {s s':Fs} {x:Ex} {a:Act} {w:World} {m:Pm} (S:FsR G w0 N m s a w) (St:Stp m0 h0 w_0 m s.h w) (hx:drawL T G cl N ops s=some (x,s')) :
  (Code.region id ops true).wp P (CodeR G w0 N m0 h0 w_0 x s') a w:=by
 unfold drawL at hx
 split at hx
 ·rename_i o hback
  cases hc:waitsL ops ops.pop.size&&guardsL ops.pop.size ops.pop.toList&&o.guard.isNone with
  | false=>rw[hc] at hx;cases hx
  | true =>
   rw[hc,cond_true] at hx
   simp only[Bool.and_eq_true] at hc
   obtain⟨⟨c1,c2⟩,c3⟩:=hc
   have hops:ops=ops.pop.push o:=by
    obtain⟨l⟩:=ops
    cases hl:l.reverse with
    | nil =>
     have:l=[]:=by simpa using hl
     subst this;simp at hback
    | cons x r =>
     have hl2:l=r.reverse++[x]:=by rw[←List.reverse_reverse l,hl,List.reverse_cons]
     subst hl2
     simp at hback
     subst hback
     simp
   split at hx
   ·rename_i s1 hd
    have hgo:o.guard=none:=by simpa using c3
    refine wp_region_any C.mixed ?_
    unfold waitsL at c1
    split at c1
    ·rename_i ms hms
     rw[List.all_eq_true] at c1
     obtain⟨M,hbk⟩:=masksM_spec (ops:=ops) ops.toList 0 .e ms hms (fun j=>by simp) ⟨fun i s h=>by simp[Tr.get_e] at h⟩
     generalize hpre:ops.pop=pre at *
     subst hops
     have hW:∀ j,j<pre.size→Wt (pre.push o) pre.size j:=fun j hj=>by
      have:=c1 j (List.mem_range.2 hj)
      unfold wq at this
      split at this
      ·rename_i q hq;exact M.w _ q hq j this
      ·cases this
     have hbk':∀ (i:Nat) (oi:Oper),(pre.push o)[i]?=some oi→∀ e∈oi.after,Region.binds .any e=true→e.on<i:=fun i oi ho e he hb=>by
      have:=hbk i oi (by rw[Array.getElem?_toList];exact ho) e he hb;omega
     have hdr:=drawC_any (m0:=m0) (h0:=h0) (w_0:=w_0) C hcl S St hd (Q:=Exit.then (fun a w=>wpOp P (pre.push o) (CodeR G w0 N m0 h0 w_0 x s') pre.size (fun a w=>CodeR G w0 N m0 h0 w_0 x s' .normal a w) a w) (CodeR G w0 N m0 h0 w_0 x s')) (fun m1 a1 w1 F1 St1=>by
      show wpOp P (pre.push o) _ pre.size _ a1 w1
      unfold wpOp
      simp only[Array.getElem?_push_size]
      rw[if_pos (by simp[Region.wanted,hgo])]
      refine .inl ?_
      split at hx
      ·rename_i v h2 ds hop
       split at hx
       ·rename_i φ hφ
        simp only[Option.some.injEq,Prod.mk.injEq] at hx
        obtain⟨rfl,rfl⟩:=hx
        refine opC_sound C hcl F1 hop ?_ ?_
        ·intro v2 h3 ds2 he y m' w' dfs M' St' hy hdd
         injection he with e1 e2 e3;subst e1;subst e2;subst e3
         obtain⟨f1,f2,f3⟩:=putφ_rel (a:={ a1 with defers:=dfs }) (FrR.ext (a:={ a1 with defers:=dfs }) St'.ext F1.fr) F1.sz hy hφ
         exact⟨m',⟨M',f1,f2,by rw[f3];exact hdd⟩,St1.trans St',rfl⟩
        ·intro v2 h3 he;cases he
       ·cases hx
      ·rename_i v h2 hop
       simp only[Option.some.injEq,Prod.mk.injEq] at hx
       obtain⟨rfl,rfl⟩:=hx
       refine opC_sound C hcl F1 hop ?_ ?_
       ·intro v2 h3 ds2 he;cases he
       ·intro v2 h3 he m' w' ch M' St' hch
        injection he with e1 e2;subst e1;subst e2
        exact⟨m',⟨M',FrR.ext St'.ext F1.fr,F1.sz,defR_ext St'.ext F1.df⟩,St1.trans St',ch,rfl,hch⟩
      ·cases hx)
     obtain⟨hb0,hdr⟩:=hdr
     have hrepl:Array.replicate (pre.push o).size false=(Array.replicate pre.size false).push false:=by
      rw[Array.size_push,Array.replicate_succ]
     have hrep:∀ i,(Array.replicate pre.size false).getD i false=false:=fun i=>by
      rw[Array.getD_eq_getD_getElem?,Array.getElem?_replicate];split <;> rfl
     rw[hrepl,Array.size_push]
     refine wpAny_last hW hb0 (fun i oi hi j b hg=>guardsL_spec c2 i oi (by simpa using hi) j b hg) (fun e he hb=>hbk' _ o Array.getElem?_push_size e he hb) _ _ _ _ (by simp) ?_ ?_ hdr
     ·intro i o _ hL
      exact absurd ((hrep i).symm.trans hL) (by simp)
     ·unfold left
      rw[List.filter_eq_self.2 (fun i _=>by show (!(Array.replicate pre.size false).getD i false)=true;rw[hrep];rfl)]
      simp
    ·cases c1
   ·cases hx
 ·cases hx
end
end
end Go.Proofs.YtihbimigddlbaaaGreatDoor.Kx
end
