/- A part of the proof: PlFn PlMapFn PlSC2 PlFlat PlDraw PlDet PlMono PlCongr. -/
import Derived.Test.YtihbimigddlbaaaGreatDoorPlB
noncomputable section
set_option linter.all false
namespace Go.Proofs.YtihbimigddlbaaaGreatDoor.Pl
open Go.RowKit
variable [Gm]
section
def thenQ (M:St→Prop) (Q:Exit→St→Prop):Exit→St→Prop
 | .normal,s=>M s
 | e,s=>Q e s
def blockQ (id:Nat) (Q:Exit→St→Prop):Exit→St→Prop
 | .exit i,s=>bif Nat.beq i id then Q .normal s else Q (.exit i) s
 | e,s=>Q e s
def Ok (P:Program) (N:Nat) (c:Code) (Q:Exit→St→Prop) (s:St):Prop :=
 ∀ (B0:Nat→Prop) (F0:Nat→Prop) (w0:PW) (m:Nat→Value) (kk:Nat→Nat) (a:Act) (w:World),Sim N B0 F0 w0 s m kk a w→c.wp P (Post N B0 F0 w0 Q) a w
section
variable {P:Program} {T:TyTab} {N:Nat}
theorem post_mono {B0:Nat→Prop} {F0:Nat→Prop} {w0:PW} {Q Q':Exit→St→Prop} (h:∀ e s,Q e s→Q' e s) {e:Exit} {a:Act} {w:World} (hp:Post N B0 F0 w0 Q e a w):Post N B0 F0 w0 Q' e a w:=by
 obtain⟨s,m,kk,h1,h2⟩:=hp
 refine⟨s,m,kk,?_,h2⟩
 cases e with
 | panic ch=>obtain⟨r,v,h3,h4⟩:=h1;exact⟨r,v,h _ _ h3,h4⟩
 | _=>exact h _ _ h1
theorem Ok.mono {c:Code} {Q Q':Exit→St→Prop} {s:St} (h:Ok P N c Q s) (hq:∀ e s,Q e s→Q' e s):Ok P N c Q' s :=
 fun B0 F0 w0 m kk a w S=>wp_mono (h B0 F0 w0 m kk a w S) (fun _ _ _ hp=>post_mono hq hp)
theorem Ok.seq {x y:Code} {M:St→Prop} {Q:Exit→St→Prop} {s:St} (hx:Ok P N x (thenQ M Q) s) (hy:∀ s',M s'→Ok P N y Q s'):Ok P N (.seq x y) Q s:=by
 intro B0 F0 w0 m kk a w S
 refine wp_seq (wp_mono (hx B0 F0 w0 m kk a w S) ?_)
 rintro e a' w' ⟨s',m',kk',hq,S'⟩
 cases e with
 | normal=>exact hy s' hq B0 F0 w0 m' kk' a' w' S'
 | _=>exact⟨s',m',kk',hq,S'⟩
theorem Ok.block {id:Nat} {c:Code} {Q:Exit→St→Prop} {s:St} (h:Ok P N c (blockQ id Q) s):Ok P N (.block id c) Q s:=by
 intro B0 F0 w0 m kk a w S
 refine wp_block (wp_mono (h B0 F0 w0 m kk a w S) ?_)
 rintro e a' w' ⟨s',m',kk',hq,S'⟩
 cases e with
 | exit i =>
  have hq:(bif Nat.beq i id then Q .normal s' else Q (.exit i) s'):=hq
  simp only[Exit.inBlock]
  by_cases hi:i=id
  ·subst hi
   rw[if_pos rfl]
   have hq2:Q .normal s':=by simpa using hq
   exact⟨s',m',kk',hq2,S'⟩
  ·rw[if_neg hi]
   have:Nat.beq i id=false:=by
    cases hb:Nat.beq i id with
    | true=>exact absurd (Nat.eq_of_beq_eq_true hb) hi
    | false=>rfl
   rw[this] at hq
   exact⟨s',m',kk',hq,S'⟩
 | _=>exact⟨s',m',kk',hq,S'⟩
def Wk (N:Nat) (s s':St):Prop :=
 ∀ (B0:Nat→Prop) (F0:Nat→Prop) (w0:PW) (m:Nat→Value) (kk:Nat→Nat) (a:Act) (w:World),Sim N B0 F0 w0 s m kk a w→∃ m' kk',Sim N B0 F0 w0 s' m' kk' a w
theorem Ok.weak {c:Code} {Q:Exit→St→Prop} {s s':St} (h:Wk N s s') (hc:Ok P N c Q s'):Ok P N c Q s:=by
 intro B0 F0 w0 m kk a w S
 obtain⟨m',kk',S'⟩:=h B0 F0 w0 m kk a w S
 exact hc B0 F0 w0 m' kk' a w S'
theorem Wk.refl (s:St):Wk N s s:=fun _ _ _ m kk _ _ S=>⟨m,kk,S⟩
theorem Wk.trans {s s' s'':St} (h:Wk N s s') (h':Wk N s' s''):Wk N s s'':=by
 intro B0 F0 w0 m kk a w S
 obtain⟨m',kk',S'⟩:=h B0 F0 w0 m kk a w S
 exact h' B0 F0 w0 m' kk' a w S'
def SubF {α:Type}:List (Nat×α)→List (Nat×α)→Prop
 | [],_=>True
 | (k,v)::r,l=>look k l=some v∧SubF r l
omit [Gm] in
theorem SubF.spec {α:Type} {l:List (Nat×α)}:∀ {r:List (Nat×α)},SubF r l→∀ t v,look t r=some v→look t l=some v
 | [],_,t,v,h=>by simp[look] at h
 | (k,x)::r,hs,t,v,h=>by
  rw[look_cons] at h
  by_cases e:t=k
  ·subst e;simp only[if_true,Option.some.injEq] at h;subst h;exact hs.1
  ·simp only[e,if_false] at h;exact SubF.spec hs.2 t v h
theorem Wk.sub {s s':St} (hφ:SubF s'.φ s.φ) (hσ:SubF s'.σ s.σ):Wk N s s':=by
 intro B0 F0 w0 m kk a w S
 have hk:Keeps w (Fc F0 B0 s.σ m) w (Fc F0 B0 s'.σ m):=keeps_mono fun b hb=>Fc.mono (fun l o h=>⟨o,hσ.spec l o h⟩) hb
 refine⟨m,kk,⟨⟨S.base,S.below,S.gm,?_,?_⟩,?_,S.df,S.sz,S.pn⟩⟩
 ·intro l o hl
  exact AO.rel_keep hk (fun _ _=>rfl) (S.ob l o (hσ.spec l o hl))
 ·intro l l' o o' hl hl' hne
  exact S.dj l l' o o' (hσ.spec l o hl) (hσ.spec l' o' hl') hne
 ·intro t v hv
  exact AV.rel_same hk v _ (S.fr t v (hφ.spec t v hv))
theorem Wk.nil {s:St} (t l:Nat) (e:TypeId) (k:Nat) (hk0:0<k) (ht:look t s.φ=some (.t (.v (.slice none 0 0)))) (hlN:l<N:=by exact Nat.le_of_ble_eq_true rfl) :
  Wk N s ⟨(t,.sl l)::killF l s.φ,(l,.row e k [])::killS l s.σ⟩:=by
 intro B0 F0 w0 m kk a w S
 have hsz0:=S.newB
 obtain⟨H',hkp⟩:=heap_row S l (w':=w) e k [] (.slice none 0 0) [] hk0 (Below.refl _ _) (World.ownsRow_nil w w.heap.size e k) (by simp[TV.relR]) (fun u hu=>by simp at hu)
 refine⟨_,_,⟨H',?_,S.df,S.sz,pn_upd S.pn hlN _ _⟩⟩
 intro t' u hu
 rw[look_cons] at hu
 by_cases h:t'=t
 ·subst h
  simp only[if_true,Option.some.injEq] at hu;subst hu
  have:=S.fr t' _ ht
  simp only[AV.rel,TV.rel] at this ⊢
  rw[upd_same]
  exact⟨this.1,.inl ⟨none,0,0,rfl⟩⟩
 ·simp only[h,if_false,look_killF] at hu
  cases hq:look t' s.φ with
  | none=>simp[hq] at hu
  | some u' =>
   simp only[hq,Option.map_some,Option.some.injEq] at hu
   subst hu
   exact AV.rel_kill hkp (fun l' h=>⟨upd_ne _ _ h,upd_ne _ _ h⟩) (S.fr t' u' hq)
theorem Wk.slSb {s:St} (t l:Nat) {e:TypeId} {k:Nat} {es:List (List TV)} (ht:look t s.φ=some (.sl l)) (hl:look l s.σ=some (.row e k es)):Wk N s ⟨(t,.sb l 0 es.length)::s.φ,s.σ⟩:=by
 intro B0 F0 w0 m kk a w S
 refine⟨m,kk,⟨S.toHeap,?_,S.df,S.sz,S.pn⟩⟩
 intro t' u hu
 rw[look_cons] at hu
 by_cases h:t'=t
 ·subst h
  simp only[if_true,Option.some.injEq] at hu;subst hu
  exact sl_sb S.toHeap hl (S.fr t' _ ht)
 ·simp only[h,if_false] at hu;exact S.fr t' u hu
theorem Wk.empty {s:St} (t:Nat) (k:Nat) (hk0:0<k) (ht:look t s.φ=some (.t (.v (.slice none 0 0)))):Wk N s ⟨(t,.t (.sl k []))::s.φ,s.σ⟩:=by
 intro B0 F0 w0 m kk a w S
 refine⟨m,kk,⟨S.toHeap,?_,S.df,S.sz,S.pn⟩⟩
 intro t' u hu
 rw[look_cons] at hu
 by_cases h:t'=t
 ·subst h
  simp only[if_true,Option.some.injEq] at hu;subst hu
  have:=S.fr t' _ ht
  simp only[AV.rel,TV.rel] at this ⊢
  exact⟨none,0,[],this.1,by simp,by simp[maxLen],hk0,by simp[TV.relR],fun u hu=>by simp at hu,.inl rfl⟩
 ·simp only[h,if_false] at hu;exact S.fr t' u hu
theorem Sim.reobj {B0:Nat→Prop} {F0:Nat→Prop} {w0:PW} {s:St} {m:Nat→Value} {kk:Nat→Nat} {a:Act} {w:World} (S:Sim N B0 F0 w0 s m kk a w) {l:Nat} {o o':AO} (hl:look l s.σ=some o)
  (ho:o'.rel w (Fc F0 B0 s.σ m) m kk B0 l):Sim N B0 F0 w0 ⟨s.φ,(l,o')::s.σ⟩ m kk a w:=by
 have hlook:∀ l' q,look l' ((l,o')::s.σ)=some q→∃ q',look l' s.σ=some q':=by
  intro l' q h
  rw[look_cons] at h
  by_cases e:l'=l
  ·subst e;exact⟨o,hl⟩
  ·simp only[e,if_false] at h;exact⟨q,h⟩
 have hk:Keeps w (Fc F0 B0 s.σ m) w (Fc F0 B0 ((l,o')::s.σ) m):=keeps_mono fun b hb=>Fc.mono hlook hb
 refine⟨⟨S.base,S.below,S.gm,?_,?_⟩,?_,S.df,S.sz,S.pn⟩
 ·intro l' q hq
  rw[look_cons] at hq
  by_cases e:l'=l
  ·subst e
   simp only[if_true,Option.some.injEq] at hq;subst hq
   exact AO.rel_keep hk (fun _ _=>rfl) ho
  ·simp only[e,if_false] at hq
   exact AO.rel_keep hk (fun _ _=>rfl) (S.ob l' q hq)
 ·intro l1 l2 o1 o2 h1 h2 hne
  obtain⟨q1,hq1⟩:=hlook l1 o1 h1
  obtain⟨q2,hq2⟩:=hlook l2 o2 h2
  exact S.dj l1 l2 q1 q2 hq1 hq2 hne
 ·intro t v hv
  exact AV.rel_same hk v _ (S.fr t v hv)
theorem Wk.frz {s:St} (ls:List Nat):Wk N s (s.frz ls):=fun _ _ _ m kk _ _ S=>⟨m,kk,S.frz ls⟩
def TV.le (x y:TV):Prop:=∀ (w:World) (F:Nat→Prop) (u:Value),x.rel w F u→y.rel w F u
omit [Gm] in
theorem TV.le_refl (x:TV):TV.le x x:=fun _ _ _ h=>h
omit [Gm] in
theorem TV.le_trans {x y z:TV} (h:TV.le x y) (h':TV.le y z):TV.le x z:=fun w F u hu=>h' w F u (h w F u hu)
omit [Gm] in
theorem TV.nil_le (k:Nat) (hk0:0<k):TV.le (.v (.slice none 0 0)) (.sl k []):=by
 intro w F u h
 simp only[TV.rel] at h ⊢
 exact⟨none,0,[],h.1,by simp,by simp[maxLen],hk0,by simp[TV.relR],fun u hu=>by simp at hu,.inl rfl⟩
def TV.leL:List TV→List TV→Prop
 | [],[]=>True
 | x::xs,y::ys=>TV.le x y∧TV.leL xs ys
 | _,_=>False
omit [Gm] in
theorem TV.leL_rel {w:World} {F:Nat→Prop}:∀ {xs ys:List TV} {us:List Value},TV.leL xs ys→TV.relL w F xs us→TV.relL w F ys us
 | [],[],us,_,h=>h
 | x::xs,y::ys,us,hl,h=>by
  simp only[TV.relL] at h ⊢
  obtain⟨u,us',h1,h2,h3⟩:=h
  exact⟨u,us',h1,hl.1 w F u h2,TV.leL_rel hl.2 h3⟩
 | [],_::_,_,hl,_=>hl.elim
 | _::_,[],_,hl,_=>hl.elim
theorem PC.le {f:FuncId} {args args':List TV} {r r':TV} (ha:TV.leL args args') (hr:TV.le r r') (h:PC P f args' r):PC P f args r':=by
 intro w F us hg hF hargs
 refine (h w F us hg hF (TV.leL_rel ha hargs)).mono ?_
 rintro e w' ⟨v,h1,h2,h3⟩
 exact⟨v,h1,h2,hr _ _ _ h3⟩
theorem OC.le {f:FuncId} {args args':List TV} {e:TypeId} {k:Nat} {es:List (List TV)} (ha:TV.leL args args') (h:OC P f args' e k es):OC P f args e k es :=
 fun w F us hg hF hargs=>h w F us hg hF (TV.leL_rel ha hargs)
inductive AV.le:AV→AV→Prop
 | refl (x:AV):AV.le x x
 | t {x y:TV} (h:TV.le x y):AV.le (.t x) (.t y)
omit [Gm] in
theorem AV.le_rel {w:World} {F:Nat→Prop} {m:Nat→Value} {kk:Nat→Nat} {x y:AV} {u:Value} (h:AV.le x y) (hx:x.rel w F m kk u):y.rel w F m kk u:=by
 cases h with
 | refl=>exact hx
 | t h=>simp only[AV.rel] at hx ⊢;exact h _ _ _ hx
def AV.leL:List AV→List AV→Prop
 | [],[]=>True
 | x::xs,y::ys=>AV.le x y∧AV.leL xs ys
 | _,_=>False
omit [Gm] in
theorem AV.leL_rel {w:World} {F:Nat→Prop} {m:Nat→Value} {kk:Nat→Nat}:∀ {xs ys:List AV} {us:List Value},AV.leL xs ys→AV.relL w F m kk xs us→AV.relL w F m kk ys us
 | [],[],us,_,h=>h
 | x::xs,y::ys,us,hl,h=>by
  simp only[AV.relL] at h ⊢
  obtain⟨u,us',h1,h2,h3⟩:=h
  exact⟨u,us',h1,AV.le_rel hl.1 h2,AV.leL_rel hl.2 h3⟩
 | [],_::_,_,hl,_=>hl.elim
 | _::_,[],_,hl,_=>hl.elim
def TV.leR:List (List TV)→List (List TV)→Prop
 | [],[]=>True
 | x::xs,y::ys=>TV.leL x y∧TV.leR xs ys
 | _,_=>False
omit [Gm] in
theorem TV.leL_length:∀ {xs ys:List TV},TV.leL xs ys→xs.length=ys.length
 | [],[],_=>rfl
 | x::xs,y::ys,h=>by simp[TV.leL_length h.2]
 | [],_::_,h=>h.elim
 | _::_,[],h=>h.elim
omit [Gm] in
theorem TV.leR_length:∀ {xs ys:List (List TV)},TV.leR xs ys→xs.length=ys.length
 | [],[],_=>rfl
 | x::xs,y::ys,h=>by simp[TV.leR_length h.2]
 | [],_::_,h=>h.elim
 | _::_,[],h=>h.elim
omit [Gm] in
theorem TV.leR_rel {w:World} {F:Nat→Prop} {k:Nat}:∀ {xs ys:List (List TV)} {us:List Value},TV.leR xs ys→TV.relR w F k xs us→TV.relR w F k ys us
 | [],[],us,_,h=>h
 | x::xs,y::ys,us,hl,h=>by
  simp only[TV.relR] at h ⊢
  obtain⟨u,us',h1,h2,h3,h4⟩:=h
  exact⟨u,us',h1,by rw[←TV.leL_length hl.1];exact h2,TV.leL_rel hl.1 h3,TV.leR_rel hl.2 h4⟩
 | [],_::_,_,hl,_=>hl.elim
 | _::_,[],_,hl,_=>hl.elim
omit [Gm] in
theorem TV.le_sl {k:Nat} {es es':List (List TV)} (h:TV.leR es es'):TV.le (.sl k es) (.sl k es'):=by
 intro w F u hu
 simp only[TV.rel] at hu ⊢
 obtain⟨A,c,us,h1,h2,h3,h4,h5,h6,h7⟩:=hu
 have hl:=TV.leR_length h
 exact⟨A,c,us,by rw[←hl];exact h1,by omega,h3,h4,TV.leR_rel h h5,h6,h7⟩
omit [Gm] in
theorem TV.le_agg {xs ys:List TV} (h:TV.leL xs ys):TV.le (.agg xs) (.agg ys):=by
 intro w F u hu
 simp only[TV.rel] at hu ⊢
 obtain⟨us,h1,h2,h3⟩:=hu
 exact⟨us,h1,TV.leL_rel h h2,h3⟩
inductive AO.le:AO→AO→Prop
 | refl (x:AO):AO.le x x
 | var {xs ys:List AV} (h:AV.leL xs ys):AO.le (.var xs) (.var ys)
 | row {e:TypeId} {k:Nat} {es es':List (List TV)} (h:TV.leR es es'):AO.le (.row e k es) (.row e k es')
omit [Gm] in
theorem AO.le_rel {w:World} {F:Nat→Prop} {m:Nat→Value} {kk:Nat→Nat} {B0:Nat→Prop} {l:Nat} {x y:AO} (h:AO.le x y) (hx:x.rel w F m kk B0 l):y.rel w F m kk B0 l:=by
 cases h with
 | refl=>exact hx
 | var h =>
  obtain⟨g,us,t,h1,h2,h3,h4,h5⟩:=hx
  exact⟨g,us,t,h1,h2,h3,AV.leL_rel h h4,h5⟩
 | row h =>
  obtain⟨us,h1,h2,h3,h4,h5⟩:=hx
  exact⟨us,by rw[←TV.leR_length h];exact h1,TV.leR_rel h h2,h3,h4,h5⟩
def LeF:List (Nat×AV)→List (Nat×AV)→Prop
 | [],_=>True
 | (k,v)::r,l=>(∃ u,look k l=some u∧AV.le u v)∧LeF r l
def LeS:List (Nat×AO)→List (Nat×AO)→Prop
 | [],_=>True
 | (k,v)::r,l=>(∃ u,look k l=some u∧AO.le u v)∧LeS r l
omit [Gm] in
theorem LeF.spec {l:List (Nat×AV)}:∀ {r:List (Nat×AV)},LeF r l→∀ t v,look t r=some v→∃ u,look t l=some u∧AV.le u v
 | [],_,t,v,h=>by simp[look] at h
 | (k,x)::r,hs,t,v,h=>by
  rw[look_cons] at h
  by_cases e:t=k
  ·subst e;simp only[if_true,Option.some.injEq] at h;subst h;exact hs.1
  ·simp only[e,if_false] at h;exact LeF.spec hs.2 t v h
omit [Gm] in
theorem LeS.spec {l:List (Nat×AO)}:∀ {r:List (Nat×AO)},LeS r l→∀ t v,look t r=some v→∃ u,look t l=some u∧AO.le u v
 | [],_,t,v,h=>by simp[look] at h
 | (k,x)::r,hs,t,v,h=>by
  rw[look_cons] at h
  by_cases e:t=k
  ·subst e;simp only[if_true,Option.some.injEq] at h;subst h;exact hs.1
  ·simp only[e,if_false] at h;exact LeS.spec hs.2 t v h
theorem Wk.le {s s':St} (hφ:LeF s'.φ s.φ) (hσ:LeS s'.σ s.σ):Wk N s s':=by
 intro B0 F0 w0 m kk a w S
 have hk:Keeps w (Fc F0 B0 s.σ m) w (Fc F0 B0 s'.σ m):=keeps_mono fun b hb=>Fc.mono (fun l o h=>(hσ.spec l o h).imp fun _ h=>h.1) hb
 refine⟨m,kk,⟨⟨S.base,S.below,S.gm,?_,?_⟩,?_,S.df,S.sz,S.pn⟩⟩
 ·intro l o hl
  obtain⟨u,h1,h2⟩:=hσ.spec l o hl
  exact AO.rel_keep hk (fun _ _=>rfl) (AO.le_rel h2 (S.ob l u h1))
 ·intro l l' o o' hl hl' hne
  obtain⟨u,h1,_⟩:=hσ.spec l o hl
  obtain⟨u',h1',_⟩:=hσ.spec l' o' hl'
  exact S.dj l l' u u' h1 h1' hne
 ·intro t v hv
  obtain⟨u,h1,h2⟩:=hφ.spec t v hv
  exact AV.rel_same hk v _ (AV.le_rel h2 (S.fr t u h1))
def roundQ {α:Type} (N:Nat) (st:α→St) (R:α→Prop) (μ:α→Nat) (x:α) (Q:Exit→St→Prop):Exit→St→Prop
 | .normal,s=>∃ x',Wk N s (st x')∧R x'∧μ x'<μ x
 | e,s=>Q e s
omit [Gm] in
theorem least {p:Nat→Prop} (h:∃ n,p n):∃ n,p n∧∀ m,p m→n≤m:=by
 obtain⟨n,hn⟩:=h
 induction n using Nat.strongRecOn with
 | _ n ih =>
  by_cases hm:∃ m,m<n∧p m
  ·obtain⟨m,h1,h2⟩:=hm;exact ih m h1 h2
  ·exact⟨n,hn,fun m hp=>Nat.le_of_not_lt fun hlt=>hm ⟨m,hlt,hp⟩⟩
theorem Ok.loop {α:Type} {c:Code} {Q:Exit→St→Prop} {s:St} (st:α→St) (R:α→Prop) (μ:α→Nat) (x0:α) (h0:Wk N s (st x0)) (hr:R x0)
  (round:∀ x,R x→Ok P N c (roundQ N st R μ x Q) (st x)):Ok P N (.loop c) Q s:=by
 intro B0 F0 w0 m kk a w S
 let J:Nat→Act→World→Prop:=fun n a w=>∃ x m kk,R x∧μ x=n∧Sim N B0 F0 w0 (st x) m kk a w
 obtain⟨m',kk',S'⟩:=h0 B0 F0 w0 m kk a w S
 classical
 let μ':Act→World→Nat:=fun a w=>if h:∃ n,J n a w then Classical.choose (least h) else 0
 have hμ:∀ {n a w},J n a w→μ' a w≤n:=by
  intro n a w h
  have hex:∃ n,J n a w:=⟨n,h⟩
  simp only[μ',hex,dif_pos]
  exact (Classical.choose_spec (least hex)).2 n h
 refine wp_loop (fun a w=>∃ n,J n a w) μ' ⟨_,x0,m',kk',hr,rfl,S'⟩ ?_
 intro a w hJ
 have hspec:J (μ' a w) a w:=by
  simp only[μ',hJ,dif_pos]
  exact (Classical.choose_spec (least hJ)).1
 obtain⟨x,m1,kk1,hR,hx,S1⟩:=hspec
 refine wp_mono (round x hR B0 F0 w0 m1 kk1 a w S1) ?_
 rintro e a' w' ⟨s',m2,kk2,hq,S2⟩
 cases e with
 | normal =>
  obtain⟨x',hw,hR',hlt⟩:=hq
  obtain⟨m3,kk3,S3⟩:=hw B0 F0 w0 m2 kk2 a' w' S2
  have hJ':J (μ x') a' w':=⟨x',m3,kk3,hR',rfl,S3⟩
  exact⟨⟨_,hJ'⟩,by have:=hμ hJ';omega⟩
 | _=>exact⟨s',m2,kk2,hq,S2⟩
def resV (T:TyTab) (s:St):ResultVar→Option AV
 | .tmp t=>look t s.φ
 | .cell p ty=>match T ty,look p s.φ with
  | some ti,some (.ptr l 0)=>match look l s.σ with
   | some (.var cs)=>bif ti.d.agg then (bif Nat.beq ti.size cs.length then some (mkAgg cs) else none) else (match cs with | x::_=>some x | []=>none)
   | _=>none
  | _,_=>none
def handsBack (T:TyTab) (res:List ResultVar) (s:St) (R:TV→Prop):Prop :=
 match mapO (resV T s) res with
 | some [v]=>match borrow s.σ 8 v with | some r=>R r | none=>False
 | some vs=>match mapO (borrow s.σ 8) vs with | some rs=>R (.tup rs) | none=>False
 | none=>False
def handsRow (res:List ResultVar) (s:St) (R:TypeId→Nat→List (List TV)→Prop):Prop :=
 match res with
 | [.tmp t]=>match look t s.φ with
  | some (.sl l)=>match look l s.σ with | some (.row e k es)=>R e k es | _=>False
  | some (.sb l i n)=>match look l s.σ with | some (.row e k es)=>bif Nat.beq i 0 then R e k (es.take n) else False | _=>False
  | some (.t (.v (.slice none 0 0)))=>∃ e k,0<k∧R e k []
  | _=>False
 | _=>False
def retQ (T:TyTab) (res:List ResultVar) (R:TV→Prop):Exit→St→Prop
 | .ret,s | .normal,s=>handsBack T res s R
 | _,_=>False
def rowQ (res:List ResultVar) (R:TypeId→Nat→List (List TV)→Prop):Exit→St→Prop
 | .ret,s | .normal,s=>handsRow res s R
 | _,_=>False
def argsF:Nat→List TV→List (Nat×AV)
 | _,[]=>[]
 | n,x::r=>(n,.t x)::argsF (n+1) r
omit [Gm] in
theorem look_argsF {w:World} {F:Nat→Prop} {m:Nat→Value} {kk:Nat→Nat}:∀ (xs:List TV) (us:List Value) (n t:Nat) (v:AV),TV.relL w F xs us→look t (argsF n xs)=some v→n≤t∧∃ u,us[t-n]?=some u∧v.rel w F m kk u
 | [],us,n,t,v,_,h=>by simp[argsF,look] at h
 | x::xs,us,n,t,v,hr,h=>by
  simp only[TV.relL] at hr
  obtain⟨u,us',rfl,h0,h1⟩:=hr
  simp only[argsF] at h
  rw[look_cons] at h
  by_cases e:t=n
  ·subst e;simp only[if_true,Option.some.injEq] at h;subst h
   exact⟨Nat.le_refl _,u,by simp,by simpa only[AV.rel] using h0⟩
  ·simp only[e,if_false] at h
   obtain⟨h2,u',h3,h4⟩:=look_argsF (m:=m) (kk:=kk) xs us' (n+1) t v h1 h
   refine⟨by omega,u',?_,h4⟩
   have:t-n=(t-(n+1))+1:=by omega
   rw[this];simpa using h3
theorem sim_begin {w:World} (hg:Gm.g w) {F:Nat→Prop} {args:List TV} {us:List Value} (hr:TV.relL w F args us) {n:Nat} (hn:us.length≤n) :
  Sim n (fun g=>w.heap.size≤g) F (PW.of w) ⟨argsF 0 args,[]⟩ (fun _=>.nilFunc) (fun _=>0) { tmps:=us.toArray++Array.replicate (n-us.toArray.size) undef,defers:=[] } w:=by
 refine⟨⟨fun _ h=>h,⟨rfl,rfl,rfl,Nat.le_refl _,fun _ _ _=>rfl⟩,fun w' hk=>Gm.keep _ _ hk hg,fun l o h=>by simp[look] at h,fun l l' o o' h=>by simp[look] at h⟩,?_,rfl,by simp;omega,fun _ _ _=>⟨rfl,rfl⟩⟩
 intro t v hv
 obtain⟨_,u,h1,h2⟩:=look_argsF args us 0 t v hr hv
 simp only[Nat.sub_zero] at h1
 have hlt:t<us.length:=(List.getElem?_eq_some_iff.1 h1).1
 have:(us.toArray++Array.replicate (n-us.toArray.size) undef).getD t undef=u:=by
  simp only[Array.getD_eq_getD_getElem?]
  rw[Array.getElem?_append_left (by simpa using hlt)]
  simp[h1]
 rw[this]
 exact AV.rel_same (keeps_mono fun b hb=>⟨.inl hb,fun l o h=>by simp[look] at h⟩) v u h2
def resSem (tmps:Array Value):ResultVar→Sem Value
 | .tmp t=>pure (tmps.getD t undef)
 | .cell p t=>do loadVar t (← asAddr (tmps.getD p undef))
omit [Gm] in
theorem results_eq (fn:Func) (tmps:Array Value):results fn tmps=(do let vs ← fn.results.mapM (resSem tmps);pure (if h:vs.size=1 then vs[0] else .tuple vs)):=by
 unfold results
 congr 1
theorem resV_run (hT:TOK P T) {B0:Nat→Prop} {F0:Nat→Prop} {w0:PW} {s:St} {m:Nat→Value} {kk:Nat→Nat} {a:Act} {w:World} (S:Sim N B0 F0 w0 s m kk a w) {r:ResultVar} {v:AV} (h:resV T s r=some v) :
  ∃ y,v.rel w (Fc F0 B0 s.σ m) m kk y∧(resSem a.tmps r).run P w=.ok y w:=by
 cases r with
 | tmp t=>exact⟨_,S.fr t v h,rfl⟩
 | cell p ty =>
  simp only[resV] at h
  split at h
  ·rename_i ti l hti hp
   split at h
   ·rename_i cs hl
    have hpr:=S.fr p _ hp
    simp only[AV.rel] at hpr
    obtain⟨g,hm,he⟩:=hpr
    obtain⟨g',us,t',hm',hB,hg,hr,h1⟩:=S.ob l _ hl
    rw[hm] at hm';simp at hm';subst hm'
    have hc:=cellsAt_block hg
    have hadd:(⟨g,0,none⟩:Addr).add 0=⟨g,0,none⟩:=rfl
    rw[hadd] at he
    cases ha:ti.d.agg with
    | true =>
     rw[ha,cond_true] at h
     cases hb:Nat.beq ti.size cs.length with
     | false=>rw[hb] at h;cases h
     | true =>
      rw[hb,cond_true] at h
      injection h with h;subst h
      have hsz:=Nat.eq_of_beq_eq_true hb
      have hul:=AV.relL_length hr
      have hrun:=load_agg (P:=P) hT hti ha hc (by omega)
      rw[show us.take ti.size=us from List.take_of_length_le (by omega)] at hrun
      refine⟨_,rel_mkAgg hr h1,?_⟩
      simp only[Instr.loadAt,Instr.sureAddr,Sem.run_bind,Sem.run_pure,Result.andThen_ok] at hrun
      simp only[resSem,he,asAddr,Sem.run_bind,Sem.run_pure,Result.andThen_ok,hrun]
    | false =>
     rw[ha,cond_false] at h
     cases cs with
     | nil=>cases h
     | cons x cs =>
      injection h with h;subst h
      simp only[AV.relL] at hr
      obtain⟨u,us',rfl,h2,_⟩:=hr
      have hrun:=load_one (P:=P) hT hti ha hc (y:=u) rfl
      refine⟨u,h2,?_⟩
      simp only[Instr.loadAt,Instr.sureAddr,Sem.run_bind,Sem.run_pure,Result.andThen_ok] at hrun
      simp only[resSem,he,asAddr,Sem.run_bind,Sem.run_pure,Result.andThen_ok,hrun]
   ·cases h
  ·cases h
theorem resAll_run (hT:TOK P T) {B0:Nat→Prop} {F0:Nat→Prop} {w0:PW} {s:St} {m:Nat→Value} {kk:Nat→Nat} {a:Act} {w:World} (S:Sim N B0 F0 w0 s m kk a w):∀ {rs:List ResultVar} {vs:List AV},mapO (resV T s) rs=some vs →
  ∃ ys,AV.relL w (Fc F0 B0 s.σ m) m kk vs ys∧(rs.mapM (resSem a.tmps)).run P w=.ok ys w
 | [],vs,h=>by simp only[mapO,Option.some.injEq] at h;subst h;exact⟨[],by simp[AV.relL],rfl⟩
 | r::rs,vs,h=>by
  simp only[mapO] at h
  split at h
  ·rename_i v vs' hv hvs
   injection h with h;subst h
   obtain⟨y,h1,h2⟩:=resV_run hT S hv
   obtain⟨ys,h3,h4⟩:=resAll_run hT S hvs
   refine⟨y::ys,by simp only[AV.relL];exact⟨_,_,rfl,h1,h3⟩,?_⟩
   simp only[List.mapM_cons,Sem.run_bind,h2,h4,Result.andThen_ok,Sem.run_pure]
  ·cases h
theorem handsBack_run (hT:TOK P T) {fn:Func} {B0:Nat→Prop} {F0:Nat→Prop} {w0:PW} {s:St} {m:Nat→Value} {kk:Nat→Nat} {a:Act} {w:World} (S:Sim N B0 F0 w0 s m kk a w) {R:TV→Prop}
  (h:handsBack T fn.results.toList s R):∃ y r,(results fn a.tmps).run P w=.ok y w∧R r∧r.rel w (fun b=>F0 b∨B0 b) y:=by
 have hk:Keeps w (Fc F0 B0 [] m) w (fun b=>F0 b∨B0 b):=keeps_mono fun b hb=>hb.1
 have bs:∀ (x:AV) (y:Value) (t:TV),borrow s.σ 8 x=some t→x.rel w (Fc F0 B0 s.σ m) m kk y→t.rel w (fun b=>F0 b∨B0 b) y:=by
  intro x y t h1 h2
  exact TV.rel_keep hk _ _ (borrow_sound S.toHeap (σ':=[]) (ls:=reach s.σ 8 x) (fun l' o' h=>by simp[look] at h) 8 x y t h1 (fun l hl=>mem_spec.2 hl) h2)
 unfold handsBack at h
 have hres:∀ vs ys,mapO (resV T s) fn.results.toList=some vs→AV.relL w (Fc F0 B0 s.σ m) m kk vs ys →
   (fn.results.toList.mapM (resSem a.tmps)).run P w=.ok ys w →
   (results fn a.tmps).run P w=.ok (if h:ys.toArray.size=1 then ys.toArray[0] else .tuple ys.toArray) w:=by
  intro vs ys _ _ hrun
  rw[results_eq,Array.mapM_eq_mapM_toList]
  simp only[Sem.run_bind,Sem.run_map,hrun,Result.andThen_ok,Sem.run_pure]
 split at h
 ·rename_i v hv
  obtain⟨ys,h1,h2⟩:=resAll_run hT S hv
  have h3:=hres _ ys hv h1 h2
  simp only[AV.relL] at h1
  obtain⟨u,us',rfl,h4,rfl⟩:=h1
  split at h
  ·rename_i r hr
   exact⟨u,r,by simpa using h3,h,bs _ _ _ hr h4⟩
  ·exact h.elim
 ·rename_i vs hne hv
  obtain⟨ys,h1,h2⟩:=resAll_run hT S hv
  have h3:=hres _ ys hv h1 h2
  have hlen:=AV.relL_length h1
  have hn1:ys.length≠1:=by
   intro e
   rw[e] at hlen
   match vs,hlen with
   | [x],_=>exact hne x rfl
  split at h
  ·rename_i rs hrs
   refine⟨.tuple ys.toArray,_,by rw[h3];simp[hn1],h,?_⟩
   simp only[TV.rel]
   refine⟨ys,rfl,TV.relL_keep hk _ _ (mapO_sound (ls:=vs.flatMap (reach s.σ 8)) (borrow_sound S.toHeap (σ':=[]) (fun l' o' h=>by simp[look] at h) 8) _ _ _ hrs (fun l h=>mem_spec.2 h) h1)⟩
  ·exact h.elim
 ·exact h.elim
theorem PC.of_ok (hT:TOK P T) {f:FuncId} {fn:Func} {body:Code} (hf:P.funcs[f]?=some fn) (hb:fn.body=some body) {args:List TV} {r:TV} (hn:args.length≤fn.ntmps)
  (h:Ok P fn.ntmps body (retQ T fn.results.toList (fun r'=>r'=r)) ⟨argsF 0 args,[]⟩):PC P f args r:=by
 intro w F us hg _ hr
 have hul:=TV.relL_length hr
 refine calls_of_wp hf hb ?_
 refine wp_mono (h (fun g=>w.heap.size≤g) F (PW.of w) _ _ _ w (sim_begin hg hr (by omega))) ?_
 rintro e a' w' ⟨s',m',kk',hq,S'⟩
 have fin:handsBack T fn.results.toList s' (fun r'=>r'=r)→a'.defers=[]∧∃ v,(results fn a'.tmps).run P w'=.ok v w'∧∃ v',Ending.returned v=.returned v'∧Below w.heap.size w w'∧r.rel w' (fun b=>F b∨w.heap.size≤b) v':=by
  intro hq
  obtain⟨y,r',h1,rfl,h3⟩:=handsBack_run hT S' hq
  exact⟨S'.df,y,h1,y,rfl,S'.below.to_below,h3⟩
 cases e with
 | normal=>exact fin hq
 | ret=>exact fin hq
 | exit i=>exact hq.elim
 | goto l=>exact hq.elim
 | panic c=>obtain⟨_,_,hq,_⟩:=hq;exact hq.elim
 | outgrown=>exact hq.elim
theorem PC.of_okL (hT:TOK P T) {f:FuncId} {fn:Func} {body:Code} (hf:P.funcs[f]?=some fn) (hb:fn.body=some body) {args:List TV} {r:TV} (hn:args.length≤fn.ntmps)
  (h:Ok P fn.ntmps body (retQ T fn.results.toList (fun r'=>TV.le r' r)) ⟨argsF 0 args,[]⟩):PC P f args r:=by
 intro w F us hg _ hr
 have hul:=TV.relL_length hr
 refine calls_of_wp hf hb ?_
 refine wp_mono (h (fun g=>w.heap.size≤g) F (PW.of w) _ _ _ w (sim_begin hg hr (by omega))) ?_
 rintro e a' w' ⟨s',m',kk',hq,S'⟩
 have fin:handsBack T fn.results.toList s' (fun r'=>TV.le r' r)→a'.defers=[]∧∃ v,(results fn a'.tmps).run P w'=.ok v w'∧∃ v',Ending.returned v=.returned v'∧Below w.heap.size w w'∧r.rel w' (fun b=>F b∨w.heap.size≤b) v':=by
  intro hq
  obtain⟨y,r',h1,hle,h3⟩:=handsBack_run hT S' hq
  exact⟨S'.df,y,h1,y,rfl,S'.below.to_below,hle _ _ _ h3⟩
 cases e with
 | normal=>exact fin hq
 | ret=>exact fin hq
 | exit i=>exact hq.elim
 | goto l=>exact hq.elim
 | panic c=>obtain⟨_,_,hq,_⟩:=hq;exact hq.elim
 | outgrown=>exact hq.elim
theorem handsRow_run {fn:Func} {B0:Nat→Prop} {F0:Nat→Prop} {w0:PW} {s:St} {m:Nat→Value} {kk:Nat→Nat} {a:Act} {w:World} (S:Sim N B0 F0 w0 s m kk a w) {R:TypeId→Nat→List (List TV)→Prop}
  (h:handsRow fn.results.toList s R):∃ e k es v vs,(results fn a.tmps).run P w=.ok v w∧R e k es∧0<k∧ownAt w B0 e k v es.length vs∧OneAll vs∧TV.relR w (fun b=>(F0 b∨B0 b)∧obk v≠some b) k es vs:=by
 unfold handsRow at h
 split at h
 ·rename_i t ht
  have hrs:fn.results=#[.tmp t]:=by rw[←Array.toArray_toList (xs:=fn.results),ht]
  have hrun:(results fn a.tmps).run P w=.ok (a.tmps.getD t undef) w:=by
   rw[results_eq,hrs,Array.mapM_eq_mapM_toList]
   simp[resSem]
  split at h
  ·rename_i l hl
   split at h
   ·rename_i e k es hl1
    have hv:=S.fr t _ hl
    simp only[AV.rel] at hv
    obtain⟨hve,_⟩:=hv
    obtain⟨vs,h1,h2,h3,h4,h5⟩:=S.ob l _ hl1
    exact⟨e,k,es,m l,vs,by rw[hrun,hve],h,h4,h1,h3,TV.relR_keep (keeps_mono fun b hb=>⟨hb.1,hb.2 l _ hl1⟩) _ _ _ h2⟩
   ·exact h.elim
  ·rename_i l i n hl
   split at h
   ·rename_i e k es hl1
    cases hb:Nat.beq i 0 with
    | false=>rw[hb] at h;exact h.elim
    | true =>
     rw[hb,cond_true] at h
     have hi:=Nat.eq_of_beq_eq_true hb
     subst hi
     have hv:=S.fr t _ hl
     simp only[AV.rel] at hv
     obtain⟨vs,h1,h2,h3,h4,h5⟩:=S.ob l _ hl1
     have hr2:=(relR_split n h2).1
     have ho2:OneAll (vs.take (n*k)):=fun u hu=>h3 u (List.mem_of_mem_take hu)
     rcases hv with⟨g,M,c,A,hm,hy,_,_,hA0,hin⟩ | ⟨hm,hy,_,rfl⟩
     ·have hA:=hA0 trivial
      subst hA
      rcases h1.1.2 with⟨hn,_⟩ | ⟨g',cap,cur,hv,hB,hg,hnc,hcm,hcs,htake⟩
      ·rw[hm] at hn;simp at hn
      ·rw[hm] at hv
       simp at hv
       obtain⟨hg',hM,hc⟩:=hv
       subst hg';subst hM;subst hc
       have hul:=TV.relR_length h2
       have hle:n*k≤es.length*k:=Nat.mul_le_mul_right k (by omega)
       have hlen:(es.take n).length=n:=by simp;omega
       refine⟨e,k,es.take n,.slice (some ⟨g,0,none⟩) n c,vs.take (n*k),by rw[hrun,hy];rfl,h,h4,⟨⟨?_,.inr ⟨g,c,cur,by rw[hlen],hB,hg,by omega,hcm,hcs,?_⟩⟩,?_⟩,ho2,TV.relR_keep (keeps_mono ?_) _ _ _ hr2⟩
       ·rw[hlen,List.length_take];omega
       ·rw[hlen,←htake,List.take_take,Nat.min_eq_left hle]
       ·intro g' hg'
        simp[obk] at hg';subst hg'
        exact h1.2 _ (by rw[hm];rfl)
       ·intro b hb
        refine⟨hb.1,?_⟩
        have:=hb.2 l _ hl1
        rw[hm] at this
        exact this
     ·have he0:es.take 0=[]:=rfl
      rw[he0] at h hr2
      refine⟨e,k,[],.slice none 0 0,[],by rw[hrun,hy],h,h4,⟨⟨by simp,.inl ⟨rfl,rfl⟩⟩,fun g hg=>by simp[obk] at hg⟩,fun u hu=>by simp at hu,by simp[TV.relR]⟩
   ·exact h.elim
  ·rename_i hl
   obtain⟨e,k,hk,h⟩:=h
   have hv:=S.fr t _ hl
   simp only[AV.rel,TV.rel] at hv
   refine⟨e,k,[],.slice none 0 0,[],by rw[hrun,hv.1],h,hk,⟨⟨by simp,.inl ⟨rfl,rfl⟩⟩,fun g hg=>by simp[obk] at hg⟩,fun u hu=>by simp at hu,by simp[TV.relR]⟩
  ·exact h.elim
 ·exact h.elim
theorem OC.of_ok {f:FuncId} {fn:Func} {body:Code} (hf:P.funcs[f]?=some fn) (hb:fn.body=some body) {args:List TV} {e:TypeId} {k:Nat} {es:List (List TV)} (hn:args.length≤fn.ntmps)
  (h:Ok P fn.ntmps body (rowQ fn.results.toList (fun e' k' es'=>e'=e∧k'=k∧es'=es)) ⟨argsF 0 args,[]⟩):OC P f args e k es:=by
 intro w F us hg _ hr
 have hul:=TV.relL_length hr
 refine calls_of_wp hf hb ?_
 refine wp_mono (h (fun g=>w.heap.size≤g) F (PW.of w) _ _ _ w (sim_begin hg hr (by omega))) ?_
 rintro e' a' w' ⟨s',m',kk',hq,S'⟩
 have fin:handsRow fn.results.toList s' (fun e' k' es'=>e'=e∧k'=k∧es'=es)→a'.defers=[]∧∃ v,(results fn a'.tmps).run P w'=.ok v w'∧∃ v' vs,Ending.returned v=.returned v'∧Below w.heap.size w w'∧0<k ∧
   w'.ownsRow w.heap.size e k v' es.length vs∧OneAll vs∧TV.relR w' (fun b=>(F b∨w.heap.size≤b)∧obk v'≠some b) k es vs:=by
  intro hq
  obtain⟨e1,k1,es1,v,vs,h1,⟨rfl,rfl,rfl⟩,h2,h3,h4,h5⟩:=handsRow_run (P:=P) S' hq
  exact⟨S'.df,v,h1,v,vs,rfl,S'.below.to_below,h2,ownAt_row h3,h4,h5⟩
 cases e' with
 | normal=>exact fin hq
 | ret=>exact fin hq
 | exit i=>exact hq.elim
 | goto l=>exact hq.elim
 | panic c=>obtain⟨_,_,hq,_⟩:=hq;exact hq.elim
 | outgrown=>exact hq.elim
theorem IC.of_ok {f:FuncId} {fn:Func} {body:Code} (hf:P.funcs[f]?=some fn) (hb:fn.body=some body) {args:List TV} {e:TypeId} {k:Nat} {es es':List (List TV)} (hn:args.length+1≤fn.ntmps)
  (h:Ok P fn.ntmps body (rowQ fn.results.toList (fun e1 k1 es1=>e1=e∧k1=k∧es1=es')) ⟨(0,.sl 0)::argsF 1 args,[(0,.row e k es)]⟩):IC P f e k es args es':=by
 intro w F v vs us hgm hFlt hk0 hown h1 hr0 hr hnF
 have hul:=TV.relL_length hr
 refine calls_of_wp hf hb ?_
 obtain⟨A,c,hve⟩:=ownsRow_slice hown
 have hFc:∀ b,F b→Fc F (fun g=>w.heap.size≤g∨obk v=some g) [(0,AO.row e k es)] (fun l=>if l=0 then v else .nilFunc) b:=by
  intro b hb
  refine⟨.inl hb,?_⟩
  intro l o hl
  rw[look_cons] at hl
  by_cases h0:l=0
  ·subst h0;simp only[if_true];exact fun e'=>hnF b e' hb
  ·simp[h0,look] at hl
 have hget:∀ t u,(v::us)[t]?=some u→((v::us).toArray++Array.replicate (fn.ntmps-(v::us).toArray.size) undef).getD t undef=u:=by
  intro t u ht
  have hlt:t<(v::us).length:=(List.getElem?_eq_some_iff.1 ht).1
  rw[Array.getD_eq_getD_getElem?,Array.getElem?_append_left (by simpa using hlt)]
  simp only[List.getElem?_toArray,ht,Option.getD_some]
 have S0:Sim fn.ntmps (fun g=>w.heap.size≤g∨obk v=some g) F (PW.of w) ⟨(0,.sl 0)::argsF 1 args,[(0,.row e k es)]⟩ (fun l=>if l=0 then v else .nilFunc) (fun l=>if l=0 then k else 0)
   { tmps:=(v::us).toArray++Array.replicate (fn.ntmps-(v::us).toArray.size) undef,defers:=[] } w:=by
  refine⟨⟨fun _ h=>.inl h,⟨rfl,rfl,rfl,Nat.le_refl _,fun _ _ _=>rfl⟩,hgm,?_,?_⟩,?_,rfl,by simp;omega,fun l hl=>?_⟩
  rotate_left 3
  ·have:l≠0:=by omega
   simp[PW.of,this]
  ·intro l o hl
   rw[look_cons] at hl
   by_cases h0:l=0
   ·subst h0
    simp only[if_true,Option.some.injEq] at hl;subst hl
    refine⟨vs,⟨by simpa using hown,fun g hg=>.inr (by simpa using hg)⟩,TV.relR_keep (keeps_mono hFc) _ _ _ hr0,h1,hk0,by simp⟩
   ·simp[h0,look] at hl
  ·intro l l' o o' hl hl' hne
   rw[look_cons] at hl hl'
   by_cases h0:l=0
   ·by_cases h0':l'=0
    ·omega
    ·simp[h0',look] at hl'
   ·simp[h0,look] at hl
  ·intro t x hx
   rw[look_cons] at hx
   by_cases h0:t=0
   ·subst h0
    simp only[if_true,Option.some.injEq] at hx;subst hx
    simp only[AV.rel,if_true]
    exact⟨hget 0 v rfl,.inl ⟨A,_,c,hve⟩⟩
   ·simp only[h0,if_false] at hx
    obtain⟨h2,u,h3,h4⟩:=look_argsF (m:=fun l=>if l=0 then v else .nilFunc) (kk:=fun l=>if l=0 then k else 0) args us 1 t x hr hx
    have hlt:t-1<us.length:=(List.getElem?_eq_some_iff.1 h3).1
    have:((v::us).toArray++Array.replicate (fn.ntmps-(v::us).toArray.size) undef).getD t undef=u:=by
     refine hget t u ?_
     have ht:t=(t-1)+1:=by omega
     rw[ht];simpa using h3
    rw[this]
    exact AV.rel_same (keeps_mono hFc) x u h4
 refine wp_mono (h _ F (PW.of w) _ _ _ w S0) ?_
 rintro e1 a' w' ⟨s',m',kk',hq,S'⟩
 have fin:handsRow fn.results.toList s' (fun e1 k1 es1=>e1=e∧k1=k∧es1=es')→a'.defers=[]∧∃ y,(results fn a'.tmps).run P w'=.ok y w'∧∃ v' vs',Ending.returned y=.returned v'∧Kept (fun g=>w.heap.size≤g∨obk v=some g) w w' ∧
   w'.ownsRow 0 e k v' es'.length vs'∧(∀ g,obk v'=some g→w.heap.size≤g∨obk v=some g)∧OneAll vs' ∧
   TV.relR w' (fun b=>(F b∨w.heap.size≤b∨obk v=some b)∧obk v'≠some b) k es' vs':=by
  intro hq
  obtain⟨e2,k2,es2,v',vs',h1,⟨rfl,rfl,rfl⟩,h2,h3,h4,h5⟩:=handsRow_run (P:=P) S' hq
  exact⟨S'.df,v',h1,v',vs',rfl,S'.below,h3.1,h3.2,h4,h5⟩
 cases e1 with
 | normal=>exact fin hq
 | ret=>exact fin hq
 | exit i=>exact hq.elim
 | goto l=>exact hq.elim
 | panic c=>obtain⟨_,_,hq,_⟩:=hq;exact hq.elim
 | outgrown=>exact hq.elim
end
end
section
section
variable {P:Program} {T:TyTab}
def handsMap (rs:List ResultVar) (s:St) (R:Bool→List (Value×TV)→Prop):Prop :=
 match rs with
 | [.tmp t]=>match look t s.φ with
  | some (.sl l)=>match look l s.σ with
   | some (.mo (.map str es))=>R str es
   | _=>False
  | _=>False
 | _=>False
def mapQ (rs:List ResultVar) (R:Bool→List (Value×TV)→Prop):Exit→St→Prop
 | .normal,s=>handsMap rs s R
 | .ret,s=>handsMap rs s R
 | _,_=>False
theorem handsMap_run {fn:Func} {N:Nat} {B0:Nat→Prop} {F0:Nat→Prop} {w0:PW} {s:St} {m:Nat→Value} {kk:Nat→Nat} {a:Act} {w:World} (S:Sim N B0 F0 w0 s m kk a w) {R:Bool→List (Value×TV)→Prop}
  (h:handsMap fn.results.toList s R):∃ str es g l,(results fn a.tmps).run P w=.ok (.map (some g)) w∧R str es∧B0 g∧w.heap[g]?=some (.map l.toArray es.length)∧MR w (fun b=>(F0 b∨B0 b)∧g≠b) str 0 es l:=by
 unfold handsMap at h
 split at h
 ·rename_i t ht
  have hrs:fn.results=#[.tmp t]:=by rw[←Array.toArray_toList (xs:=fn.results),ht]
  have hrun:(results fn a.tmps).run P w=.ok (a.tmps.getD t undef) w:=by
   rw[results_eq,hrs,Array.mapM_eq_mapM_toList]
   simp[resSem]
  split at h
  ·rename_i l hl
   split at h
   ·rename_i str es hl1
    have hv:=S.fr t _ hl
    simp only[AV.rel] at hv
    obtain⟨hve,_⟩:=hv
    obtain⟨g,l',h1,h2,h3,h4⟩:=S.ob l _ hl1
    exact⟨str,es,g,l',by rw[hrun,hve,h1],h,h2,h3,MR_keep (keeps_mono fun b hb=>⟨hb.1,fun e=>hb.2 l _ hl1 (by rw[h1,←e];rfl)⟩) h4⟩
   ·exact h.elim
  ·exact h.elim
 ·exact h.elim
theorem MC.of_ok {f:FuncId} {fn:Func} {body:Code} (hf:P.funcs[f]?=some fn) (hb:fn.body=some body) {args:List TV} {str:Bool} {es:List (Value×TV)} (hn:args.length≤fn.ntmps)
  (h:Ok P fn.ntmps body (mapQ fn.results.toList (fun s' es'=>s'=str∧es'=es)) ⟨argsF 0 args,[]⟩):MC P f args str es:=by
 intro w F us hg _ hr
 have hul:=TV.relL_length hr
 refine calls_of_wp hf hb ?_
 refine wp_mono (h (fun g=>w.heap.size≤g) F (PW.of w) _ _ _ w (sim_begin hg hr (by omega))) ?_
 rintro e' a' w' ⟨s',m',kk',hq,S'⟩
 have fin:handsMap fn.results.toList s' (fun s1 es1=>s1=str∧es1=es)→a'.defers=[]∧∃ v,(results fn a'.tmps).run P w'=.ok v w'∧∃ g l,Ending.returned v=.returned (.map (some g))∧Below w.heap.size w w'∧w.heap.size≤g ∧
   w'.heap[g]?=some (.map l.toArray es.length)∧MR w' (fun b=>(F b∨w.heap.size≤b)∧g≠b) str 0 es l:=by
  intro hq
  obtain⟨s1,es1,g,l,h1,⟨rfl,rfl⟩,h2,h3,h4⟩:=handsMap_run (P:=P) S' hq
  exact⟨S'.df,_,h1,g,l,rfl,S'.below.to_below,h2,h3,h4⟩
 cases e' with
 | normal=>exact fin hq
 | ret=>exact fin hq
 | exit i=>exact hq.elim
 | goto l=>exact hq.elim
 | panic c=>obtain⟨_,_,hq,_⟩:=hq;exact hq.elim
 | outgrown=>exact hq.elim
omit [Gm] in
theorem AV.relL_set {w:World} {F:Nat→Prop} {m:Nat→Value} {kk:Nat→Nat} {x:AV}:∀ {xs:List AV} {us:List Value} {i:Nat} {u:Value},AV.relL w F m kk xs us→us[i]?=some u→x.rel w F m kk u→AV.relL w F m kk (xs.set i x) us
 | [],us,i,u,h,hi,hx=>by simpa only[List.set_nil] using h
 | y::ys,us,i,u,h,hi,hx=>by
  simp only[AV.relL] at h
  obtain⟨v,us',rfl,h1,h2⟩:=h
  cases i with
  | zero =>
   simp at hi;subst hi
   simp only[List.set_cons_zero,AV.relL]
   exact⟨_,_,rfl,hx,h2⟩
  | succ i =>
   simp only[List.set_cons_succ,AV.relL]
   exact⟨_,_,rfl,h1,AV.relL_set h2 (by simpa using hi) hx⟩
omit [Gm] in
theorem AV.relL_getI {w:World} {F:Nat→Prop} {m:Nat→Value} {kk:Nat→Nat}:∀ {xs:List AV} {us:List Value} {i:Nat} {x:AV},AV.relL w F m kk xs us→xs[i]?=some x→∃ u,us[i]?=some u∧x.rel w F m kk u
 | [],us,i,x,h,hi=>by simp at hi
 | y::ys,us,i,x,h,hi=>by
  simp only[AV.relL] at h
  obtain⟨v,us',rfl,h1,h2⟩:=h
  cases i with
  | zero=>simp at hi;subst hi;exact⟨v,rfl,h1⟩
  | succ i=>obtain⟨u,h3,h4⟩:=AV.relL_getI h2 (by simpa using hi);exact⟨u,by simpa using h3,h4⟩
theorem Wk.nilCell {N:Nat} {s:St} (v l i:Nat) (e:TypeId) (k:Nat) (cs:List AV) (hk0:0<k) (hvl:v≠l) (hv:look v s.σ=some (.var cs)) (hc:cs[i]?=some (.t (.v (.slice none 0 0)))) (hlN:l<N:=by exact Nat.le_of_ble_eq_true rfl) :
  Wk N s ⟨killF l s.φ,(v,.var ((cs.map (AV.kill l)).set i (.sl l)))::(l,.row e k [])::killS l s.σ⟩:=by
 intro B0 F0 w0 m kk a w S
 obtain⟨H',hkp⟩:=heap_row S l (w':=w) e k [] (.slice none 0 0) [] hk0 (Below.refl _ _) (World.ownsRow_nil w w.heap.size e k) (by simp[TV.relR]) (fun u hu=>by simp at hu)
 have S1:Sim N B0 F0 w0 ⟨killF l s.φ,(l,.row e k [])::killS l s.σ⟩ (upd m l (.slice none 0 0)) (upd kk l k) a w:=by
  refine⟨H',?_,S.df,S.sz,pn_upd S.pn hlN _ _⟩
  intro t' u hu
  simp only[look_killF] at hu
  cases hq:look t' s.φ with
  | none=>simp[hq] at hu
  | some u' =>
   simp only[hq,Option.map_some,Option.some.injEq] at hu
   subst hu
   exact AV.rel_kill hkp (fun l' h=>⟨upd_ne _ _ h,upd_ne _ _ h⟩) (S.fr t' u' hq)
 have hv1:look v ((l,AO.row e k [])::killS l s.σ)=some (.var (cs.map (AV.kill l))):=by
  rw[look_cons,if_neg hvl,look_killS,if_neg hvl,hv]
  simp[AO.kill]
 refine⟨_,_,S1.reobj hv1 ?_⟩
 obtain⟨g,us,t,h1,h2,h3,h4,h5⟩:=S1.ob v _ hv1
 have hc1:(cs.map (AV.kill l))[i]?=some (.t (.v (.slice none 0 0))):=by rw[List.getElem?_map,hc];rfl
 obtain⟨u,hu1,hu2⟩:=AV.relL_getI h4 hc1
 refine⟨g,us,t,h1,h2,h3,AV.relL_set h4 hu1 ?_,h5⟩
 simp only[AV.rel,TV.rel] at hu2 ⊢
 rw[hu2.1,upd_same]
 exact⟨rfl,.inl ⟨none,0,0,rfl⟩⟩
end
end
section
section
variable {P:Program} {T:TyTab}
def argsA (n:Nat):List AV→List (Nat×AV)
 | []=>[]
 | x::r=>(n,x)::argsA (n+1) r
omit [Gm] in
theorem look_argsA {w:World} {F:Nat→Prop} {m:Nat→Value} {kk:Nat→Nat}:∀ (xs:List AV) (us:List Value) (n t:Nat) (v:AV),AV.relL w F m kk xs us→look t (argsA n xs)=some v→n≤t∧∃ u,us[t-n]?=some u∧v.rel w F m kk u
 | [],us,n,t,v,_,h=>by simp[argsA,look] at h
 | x::xs,us,n,t,v,hr,h=>by
  simp only[AV.relL] at hr
  obtain⟨u,us',rfl,h1,h2⟩:=hr
  rw[argsA,look_cons] at h
  by_cases e:t=n
  ·subst e
   simp only[if_true,Option.some.injEq] at h;subst h
   exact⟨Nat.le_refl _,u,by simp,h1⟩
  ·simp only[e,if_false] at h
   obtain⟨h3,u',h4,h5⟩:=look_argsA xs us' (n+1) t v h2 h
   refine⟨by omega,u',?_,h5⟩
   have:t-n=(t-(n+1))+1:=by omega
   rw[this];simpa using h4
theorem sc_begin {w:World} {B0 F0:Nat→Prop} {os:List AO} {m:Nat→Value} {kk:Nat→Nat} (H:Heap B0 F0 w (lab 1000 os) m kk w) {args:List AV} {us:List Value} (hr:AV.relL w (Fc F0 B0 (lab 1000 os) m) m kk args us) {n:Nat} (hn:us.length≤n) :
  Sim n B0 F0 { w with pin:=m,pk:=kk } ⟨argsA 0 args,lab 1000 os⟩ m kk { tmps:=us.toArray++Array.replicate (n-us.toArray.size) undef,defers:=[] } w:=by
 refine⟨H,?_,rfl,by simp;omega,fun _ _ _=>⟨rfl,rfl⟩⟩
 intro t v hv
 obtain⟨_,u,h1,h2⟩:=look_argsA args us 0 t v hr hv
 simp only[Nat.sub_zero] at h1
 have hlt:t<us.length:=(List.getElem?_eq_some_iff.1 h1).1
 have:(us.toArray++Array.replicate (n-us.toArray.size) undef).getD t undef=u:=by
  simp only[Array.getD_eq_getD_getElem?]
  rw[Array.getElem?_append_left (by simpa using hlt)]
  simp[h1]
 rw[this]
 exact h2
def scEnd (n:Nat) (R:SE→List AO→Prop) (x:SE) (s:St):Prop:=∃ os',R x os'∧os'.length=n∧geO 1000 os'=true∧SubF (lab 1000 os') s.σ
def scBack (T:TyTab) (rs:List ResultVar) (n:Nat) (R:SE→List AO→Prop) (s:St):Prop :=
 match mapO (resV T s) rs with
 | some [v]=>freezeK s [v] (fun xs s1=>match xs with | [r]=>scEnd n R (.ret r) s1 | _=>False)
 | some vs=>freezeK s vs (fun xs s1=>scEnd n R (.ret (.tup xs)) s1)
 | none=>False
def scQ (T:TyTab) (rs:List ResultVar) (n:Nat) (R:SE→List AO→Prop):Exit→St→Prop
 | .normal,s=>scBack T rs n R s
 | .ret,s=>scBack T rs n R s
 | .panic [],s=>match s.φ with
  | [(0,.t r)]=>scEnd n R (.pan r) s
  | _=>False
 | _,_=>False
theorem scEnd_spec {B0 F0:Nat→Prop} {w w':World} {m m':Nat→Value} {kk kk':Nat→Nat} {N n:Nat} {s':St} {a':Act} {x:SE} {os:List AO} {R:SE→List AO→Prop} (hN:N≤1000) (hos:n=os.length)
  (S':Sim N B0 F0 { w with pin:=m,pk:=kk } s' m' kk' a' w') (h:scEnd n R x s'):∃ os',R x os'∧os'.length=os.length∧Heap B0 F0 w (lab 1000 os') m kk w'∧Keeps w' (Fc F0 B0 s'.σ m') w' (Fc F0 B0 (lab 1000 os') m):=by
 obtain⟨os',h2,h3,h4,h5⟩:=h
 have hm:∀ l,1000≤l→m l=m' l∧kk l=kk' l:=fun l hl=>by
  have:=S'.pn l (by omega) hl
  exact⟨this.1.symm,this.2.symm⟩
 have hsub:∀ l q,look l (lab 1000 os')=some q→1000≤l∧q.ge 1000=true∧look l s'.σ=some q:=fun l q hl=>by
  obtain⟨h7,h8⟩:=look_lab.1 hl
  exact⟨h7,geO_get h4 _ _ h8,h5.spec l q hl⟩
 have hk:Keeps w' (Fc F0 B0 s'.σ m') w' (Fc F0 B0 (lab 1000 os') m):=keeps_mono fun b hb=>⟨hb.1,fun l q hl=>by
  obtain⟨h7,_,h8⟩:=hsub l q hl
  rw[(hm l h7).1];exact hb.2 l q h8⟩
 refine⟨os',h2,by rw[h3,hos],⟨S'.base,S'.below,S'.gm,?_,?_⟩,hk⟩
 ·intro l q hl
  obtain⟨h7,h8,h9⟩:=hsub l q hl
  exact AO.rel_ge hm h7 h8 (AO.rel_keep hk (fun _ _=>rfl) (S'.ob l q h9))
 ·intro l l2 q q2 hl hl2 hne
  obtain⟨h7,_,h9⟩:=hsub l q hl
  obtain⟨h7',_,h9'⟩:=hsub l2 q2 hl2
  rw[(hm l h7).1,(hm l2 h7').1]
  exact S'.dj l l2 q q2 h9 h9' hne
theorem scBack_run (hT:TOK P T) {fn:Func} {B0 F0:Nat→Prop} {w w':World} {m m':Nat→Value} {kk kk':Nat→Nat} {N n:Nat} {s':St} {a':Act} {os:List AO} {R:SE→List AO→Prop} (hN:N≤1000) (hos:n=os.length)
  (S':Sim N B0 F0 { w with pin:=m,pk:=kk } s' m' kk' a' w') (h:scBack T fn.results.toList n R s'):∃ y r os',(results fn a'.tmps).run P w'=.ok y w'∧R (.ret r) os'∧os'.length=os.length∧Heap B0 F0 w (lab 1000 os') m kk w' ∧
   r.rel w' (Fc F0 B0 (lab 1000 os') m) y:=by
 unfold scBack at h
 have hres:∀ vs ys,mapO (resV T s') fn.results.toList=some vs→AV.relL w' (Fc F0 B0 s'.σ m') m' kk' vs ys →
   (fn.results.toList.mapM (resSem a'.tmps)).run P w'=.ok ys w' →
   (results fn a'.tmps).run P w'=.ok (if h:ys.toArray.size=1 then ys.toArray[0] else .tuple ys.toArray) w':=by
  intro vs ys _ _ hrun
  rw[results_eq,Array.mapM_eq_mapM_toList]
  simp only[Sem.run_bind,Sem.run_map,hrun,Result.andThen_ok,Sem.run_pure]
 split at h
 ·rename_i v hv
  obtain⟨ys,h1,h2⟩:=resAll_run hT S' hv
  have h3:=hres _ ys hv h1 h2
  obtain⟨xs,s1,hfr,h⟩:=freezeK_spec h
  obtain⟨S1,hx⟩:=S'.freeze hfr h1
  have hlen:=AV.relL_length h1
  split at h
  ·rename_i r
   simp only[TV.relL] at hx
   obtain⟨u,us',rfl,h4,rfl⟩:=hx
   obtain⟨os',g1,g2,g3,g4⟩:=scEnd_spec hN hos S1 h
   exact⟨u,r,os',by simpa using h3,g1,g2,g3,TV.rel_keep g4 _ _ h4⟩
  ·exact h.elim
 ·rename_i vs hne hv
  obtain⟨ys,h1,h2⟩:=resAll_run hT S' hv
  have h3:=hres _ ys hv h1 h2
  obtain⟨xs,s1,hfr,h⟩:=freezeK_spec h
  obtain⟨S1,hx⟩:=S'.freeze hfr h1
  have hlen:=AV.relL_length h1
  have hn1:ys.length≠1:=by
   intro e
   rw[e] at hlen
   match vs,hlen with
   | [x],_=>exact hne x rfl
  obtain⟨os',g1,g2,g3,g4⟩:=scEnd_spec hN hos S1 h
  refine⟨.tuple ys.toArray,_,os',by rw[h3];simp[hn1],g1,g2,g3,?_⟩
  simp only[TV.rel]
  exact⟨ys,rfl,TV.relL_keep g4 _ _ hx⟩
 ·exact h.elim
theorem SC.of_ok (hT:TOK P T) {f:FuncId} {fn:Func} {body:Code} (hf:P.funcs[f]?=some fn) (hb:fn.body=some body) {os:List AO} {args:List AV} {R:SE→List AO→Prop} (hn:args.length≤fn.ntmps) (hN:fn.ntmps≤1000)
  (h:Ok P fn.ntmps body (scQ T fn.results.toList os.length R) ⟨argsA 0 args,lab 1000 os⟩):SC P f os args R:=by
 intro B0 F0 w m kk us H hF hr
 have hul:=AV.relL_length hr
 refine calls_of_wp hf hb ?_
 refine wp_mono (h B0 F0 { w with pin:=m,pk:=kk } _ _ _ w (sc_begin H hr (by omega))) ?_
 rintro e a' w' ⟨s',m',kk',hq,S'⟩
 have fin:scBack T fn.results.toList os.length R s'→a'.defers=[]∧∃ y,(results fn a'.tmps).run P w'=.ok y w' ∧
   ∃ x os',R x os'∧os'.length=os.length∧Heap B0 F0 w (lab 1000 os') m kk w'∧x.fits w' (Fc F0 B0 (lab 1000 os') m) (.returned y):=by
  intro hq
  obtain⟨y,r,os',h1,h2,h3,h4,h5⟩:=scBack_run hT hN rfl S' hq
  exact⟨S'.df,y,h1,.ret r,os',h2,h3,h4,y,rfl,h5⟩
 cases e with
 | normal=>exact fin hq
 | ret=>exact fin hq
 | exit i=>exact hq.elim
 | goto l=>exact hq.elim
 | panic c =>
  obtain⟨r,v,hq,rfl,hv⟩:=hq
  obtain⟨os',g1,g2,g3,g4⟩:=scEnd_spec hN rfl S' hq
  exact⟨S'.df,.pan r,os',g1,g2,g3,v,rfl,TV.rel_keep g4 _ _ hv⟩
 | outgrown=>exact hq.elim
def scEndR (b n:Nat) (R:SE→List AO→Prop) (x:SE) (s:St):Prop:=∃ os',R x os'∧os'.length=n∧geO b os'=true∧SubF (lab b os') s.σ
def scBackR (T:TyTab) (rs:List ResultVar) (b n:Nat) (R:SE→List AO→Prop) (s:St):Prop :=
 match mapO (resV T s) rs with
 | some [v]=>freezeK s [v] (fun xs s1=>match xs with | [r]=>scEndR b n R (.ret r) s1 | _=>False)
 | some vs=>freezeK s vs (fun xs s1=>scEndR b n R (.ret (.tup xs)) s1)
 | none=>False
def scQR (T:TyTab) (rs:List ResultVar) (b n:Nat) (R:SE→List AO→Prop):Exit→St→Prop
 | .normal,s=>scBackR T rs b n R s
 | .ret,s=>scBackR T rs b n R s
 | _,_=>False
theorem sc_beginR {w:World} {b:Nat} {B0 F0:Nat→Prop} {os:List AO} {m:Nat→Value} {kk:Nat→Nat} (H:Heap B0 F0 w (lab b os) m kk w) {args:List AV} {us:List Value} (hr:AV.relL w (Fc F0 B0 (lab b os) m) m kk args us) {n:Nat} (hn:us.length≤n) :
  Sim n B0 F0 { w with pin:=m,pk:=kk } ⟨argsA 0 args,lab b os⟩ m kk { tmps:=us.toArray++Array.replicate (n-us.toArray.size) undef,defers:=[] } w:=by
 refine⟨H,?_,rfl,by simp;omega,fun _ _ _=>⟨rfl,rfl⟩⟩
 intro t v hv
 obtain⟨_,u,h1,h2⟩:=look_argsA args us 0 t v hr hv
 simp only[Nat.sub_zero] at h1
 have hlt:t<us.length:=(List.getElem?_eq_some_iff.1 h1).1
 have:(us.toArray++Array.replicate (n-us.toArray.size) undef).getD t undef=u:=by
  simp only[Array.getD_eq_getD_getElem?]
  rw[Array.getElem?_append_left (by simpa using hlt)]
  simp[h1]
 rw[this]
 exact h2
theorem scEndR_spec {B0 F0:Nat→Prop} {w w':World} {m m':Nat→Value} {kk kk':Nat→Nat} {b n:Nat} {s':St} {a':Act} {x:SE} {os:List AO} {R:SE→List AO→Prop} {N:Nat} (hos:n=os.length)
  (S':Sim N B0 F0 { w with pin:=m,pk:=kk } s' m' kk' a' w') (h:scEndR b n R x s'):∃ os',R x os'∧os'.length=os.length∧geO b os'=true∧Heap B0 F0 w (lab b os') m' kk' w'∧Keeps w' (Fc F0 B0 s'.σ m') w' (Fc F0 B0 (lab b os') m'):=by
 obtain⟨os',h2,h3,h4,h5⟩:=h
 have hsub:∀ l q,look l (lab b os')=some q→look l s'.σ=some q:=fun l q hl=>h5.spec l q hl
 have hk:Keeps w' (Fc F0 B0 s'.σ m') w' (Fc F0 B0 (lab b os') m'):=keeps_mono fun b hb=>⟨hb.1,fun l q hl=>hb.2 l q (hsub l q hl)⟩
 refine⟨os',h2,by rw[h3,hos],h4,⟨S'.base,S'.below,S'.gm,?_,?_⟩,hk⟩
 ·intro l q hl
  exact AO.rel_keep hk (fun _ _=>rfl) (S'.ob l q (hsub l q hl))
 ·intro l l2 q q2 hl hl2 hne
  exact S'.dj l l2 q q2 (hsub l q hl) (hsub l2 q2 hl2) hne
theorem scBackR_run (hT:TOK P T) {fn:Func} {B0 F0:Nat→Prop} {w w':World} {m m':Nat→Value} {kk kk':Nat→Nat} {N b n:Nat} {s':St} {a':Act} {os:List AO} {R:SE→List AO→Prop} (hos:n=os.length)
  (S':Sim N B0 F0 { w with pin:=m,pk:=kk } s' m' kk' a' w') (h:scBackR T fn.results.toList b n R s'):∃ y r os',(results fn a'.tmps).run P w'=.ok y w'∧R (.ret r) os'∧os'.length=os.length∧geO b os'=true∧Heap B0 F0 w (lab b os') m' kk' w' ∧
   r.rel w' (Fc F0 B0 (lab b os') m') y:=by
 unfold scBackR at h
 have hres:∀ vs ys,mapO (resV T s') fn.results.toList=some vs→AV.relL w' (Fc F0 B0 s'.σ m') m' kk' vs ys →
   (fn.results.toList.mapM (resSem a'.tmps)).run P w'=.ok ys w' →
   (results fn a'.tmps).run P w'=.ok (if h:ys.toArray.size=1 then ys.toArray[0] else .tuple ys.toArray) w':=by
  intro vs ys _ _ hrun
  rw[results_eq,Array.mapM_eq_mapM_toList]
  simp only[Sem.run_bind,Sem.run_map,hrun,Result.andThen_ok,Sem.run_pure]
 split at h
 ·rename_i v hv
  obtain⟨ys,h1,h2⟩:=resAll_run hT S' hv
  have h3:=hres _ ys hv h1 h2
  obtain⟨xs,s1,hfr,h⟩:=freezeK_spec h
  obtain⟨S1,hx⟩:=S'.freeze hfr h1
  have hlen:=AV.relL_length h1
  split at h
  ·rename_i r
   simp only[TV.relL] at hx
   obtain⟨u,us',rfl,h4,rfl⟩:=hx
   obtain⟨os',g1,g2,g5,g3,g4⟩:=scEndR_spec hos S1 h
   exact⟨u,r,os',by simpa using h3,g1,g2,g5,g3,TV.rel_keep g4 _ _ h4⟩
  ·exact h.elim
 ·rename_i vs hne hv
  obtain⟨ys,h1,h2⟩:=resAll_run hT S' hv
  have h3:=hres _ ys hv h1 h2
  obtain⟨xs,s1,hfr,h⟩:=freezeK_spec h
  obtain⟨S1,hx⟩:=S'.freeze hfr h1
  have hlen:=AV.relL_length h1
  have hn1:ys.length≠1:=by
   intro e
   rw[e] at hlen
   match vs,hlen with
   | [x],_=>exact hne x rfl
  obtain⟨os',g1,g2,g5,g3,g4⟩:=scEndR_spec hos S1 h
  refine⟨.tuple ys.toArray,_,os',by rw[h3];simp[hn1],g1,g2,g5,g3,?_⟩
  simp only[TV.rel]
  exact⟨ys,rfl,TV.relL_keep g4 _ _ hx⟩
 ·exact h.elim
theorem SCR.of_ok (hT:TOK P T) {f:FuncId} {fn:Func} {body:Code} (hf:P.funcs[f]?=some fn) (hb:fn.body=some body) {b:Nat} {os:List AO} {args:List AV} {R:SE→List AO→Prop} (hn:args.length≤fn.ntmps) (hN:fn.ntmps≤1000)
  (h:Ok P fn.ntmps body (scQR T fn.results.toList b os.length R) ⟨argsA 0 args,lab b os⟩):SCR P f b os args R:=by
 intro B0 F0 w m kk us H hF hr
 have hul:=AV.relL_length hr
 refine calls_of_wp hf hb ?_
 refine wp_mono (h B0 F0 { w with pin:=m,pk:=kk } _ _ _ w (sc_beginR H hr (by omega))) ?_
 rintro e a' w' ⟨s',m',kk',hq,S'⟩
 have fin:scBackR T fn.results.toList b os.length R s'→a'.defers=[]∧∃ y,(results fn a'.tmps).run P w'=.ok y w' ∧
   ∃ x os' m2 kk2,R x os'∧os'.length=os.length∧geO b os'=true∧(∀ l,1000≤l→m2 l=m l∧kk2 l=kk l)∧Heap B0 F0 w (lab b os') m2 kk2 w'∧x.fits w' (Fc F0 B0 (lab b os') m2) (.returned y):=by
  intro hq
  obtain⟨y,r,os',h1,h2,h3,h6,h4,h5⟩:=scBackR_run hT rfl S' hq
  exact⟨S'.df,y,h1,.ret r,os',m',kk',h2,h3,h6,fun l hl=>S'.pn l (by omega) hl,h4,y,rfl,h5⟩
 cases e with
 | normal=>exact fin hq
 | ret=>exact fin hq
 | exit i=>exact hq.elim
 | goto l=>exact hq.elim
 | panic c =>
  obtain⟨r,v,hq,_⟩:=hq
  exact hq.elim
 | outgrown=>exact hq.elim
end
end
section
def TV.flat:TV→Bool
 | .v _=>true
 | .iface _ (.v _)=>true
 | .iface _ (.agg [.v _])=>true
 | _=>false
omit [Gm] in
theorem flat_rel {w w':World} {F F':Nat→Prop} {r:TV} {y:Value} (hp:r.flat=true) (h:r.rel w F y):r.rel w' F' y:=by
 unfold TV.flat at hp
 split at hp
 ·simpa only[TV.rel] using h
 ·simp only[TV.rel] at h ⊢;exact h
 ·simp only[TV.rel,TV.relL] at h ⊢;exact h
 ·cases hp
section
variable {P:Program} {N:Nat} {B0:Nat→Prop} {F0:Nat→Prop} {w0:PW}
theorem SC.at_ {f:FuncId} {xs:List TV} {R:SE→List AO→Prop} (h:SC P f [] (xs.map .t) R) {w:World} {F:Nat→Prop} {us:List Value} (hg:Gm.g w) (hF:∀ b,F b→b<w.heap.size) (hr:TV.relL w F xs us) :
  Calls P f us.toArray w fun e w'=>∃ x,R x []∧Below w.heap.size w w'∧x.fits w' (fun b=>F b∨w.heap.size≤b) e:=by
 have H:Heap (fun b=>w.heap.size≤b) F w (lab 1000 []) (fun _=>.nilFunc) (fun _=>0) w:=by
  refine⟨fun _ h=>h,⟨rfl,rfl,rfl,Nat.le_refl _,fun _ _ _=>rfl⟩,fun w' hk=>Gm.keep w w' hk hg,?_,?_⟩
  ·intro l o hl;simp[lab,look] at hl
  ·intro l l' o o' hl;simp[lab,look] at hl
 have hk:Keeps w F w (Fc F (fun b=>w.heap.size≤b) (lab 1000 []) (fun _=>.nilFunc)):=fun b hb _=>⟨⟨.inl hb,fun l o hl=>by simp[lab,look] at hl⟩,rfl⟩
 refine (h _ F w _ _ us H hF (relL_map.1 (TV.relL_keep hk _ _ hr))).mono ?_
 rintro e w' ⟨x,os',hR,hl,H',hfit⟩
 have:os'=[]:=List.eq_nil_of_length_eq_zero hl
 subst this
 refine⟨x,hR,⟨H'.below.os,H'.below.tape,H'.below.output,H'.below.size,fun b hb=>H'.below.block b hb (by omega)⟩,?_⟩
 have hm:∀ r v,r.rel w' (Fc F (fun b=>w.heap.size≤b) (lab 1000 []) (fun _=>.nilFunc)) v→TV.rel w' (fun b=>F b∨w.heap.size≤b) r v:=fun r v hv=>TV.rel_keep (keeps_mono fun b hb=>hb.1) _ _ hv
 cases x with
 | ret r=>obtain⟨v,h1,h2⟩:=hfit;exact⟨v,h1,hm _ _ h2⟩
 | pan r=>obtain⟨v,h1,h2⟩:=hfit;exact⟨v,h1,hm _ _ h2⟩
theorem callX_goes {o:Oper} {a:Act} {s:St} {m:Nat→Value} {kk:Nat→Nat} {w:World} (S:Sim N B0 F0 w0 s m kk a w) {g:FuncId} {vs:List AV} {us:List Value} {xs:List TV} {t:TV} {A:Prop} {X:TV→Prop}
  (hr:AV.relL w (Fc F0 B0 s.σ m) m kk vs us) (hxs:mapO (borrow s.σ 8) vs=some xs) (hent:Ent P g)
  (hsc:SC P g [] (xs.map .t) (fun x _=>(x=.ret t∧A)∨∃ e,x=.pan e∧e.flat=true∧X e)) (hp:t.plain=true∨(allT vs).isSome=true)
  (hrun:(execOp a.eval o).run P w=(callFunc g us.toArray).run P w) {next:Act→World→Prop} {Q:Exit→Act→World→Prop}
  (hn:∀ y w',A→Below w.heap.size w w'→(AV.t t).rel w' (Fc F0 B0 s.σ m) m kk y→next (a.put o.dst y) w')
  (hX:∀ e v w',X e→Below w.heap.size w w'→(∀ w F,e.rel w F v)→Q (.panic [{ v:=v,recovered:=false }]) a w'):o.wp P a w next Q:=by
 have hsz:=S.newB
 have pan:∀ e w' (x:SE) (F:Nat→Prop),(∃ e,x=.pan e∧e.flat=true∧X e)→Below w.heap.size w w'→x.fits w' F e→∃ v,e=.panicked [{ v:=v,recovered:=false }]∧Q (.panic [{ v:=v,recovered:=false }]) a w':=by
  rintro e w' x F ⟨r,rfl,hf,hx⟩ hb ⟨v,rfl,hv⟩
  exact⟨v,rfl,hX r v w' hx hb (fun w F=>flat_rel hf hv)⟩
 have main:∀ F,(∀ b,F b→b<w.heap.size)→TV.relL w F xs us→(∀ w' y,Below w.heap.size w w'→t.rel w' (fun b=>F b∨w.heap.size≤b) y→(AV.t t).rel w' (Fc F0 B0 s.σ m) m kk y)→o.wp P a w next Q:=fun F hF hrel hup=>by
  unfold Oper.wp
  rw[hrun,hent,Oper.upon_enter]
  refine (hsc.at_ (S.gm w S.below) hF hrel).mono ?_
  rintro e w' ⟨x,(⟨rfl,hA⟩ | hx),hb,hfit⟩
  ·obtain⟨v,rfl,hv⟩:=hfit
   exact hn _ _ hA hb (hup _ _ hb hv)
  ·obtain⟨v,rfl,hq⟩:=pan _ _ _ _ hx hb hfit
   exact hq
 rcases hp with hp | hall
 ·have hxr:=mapO_sound (ls:=vs.flatMap (reach s.σ 8)) (borrow_sound S.toHeap (seal_sub (vs.flatMap (reach s.σ 8)) s) 8) _ _ _ hxs (fun l h=>mem_spec.2 h) hr
  refine main (fun b=>Fc F0 B0 (s.frz (vs.flatMap (reach s.σ 8))).σ m b∧b<w.heap.size) (fun b hb=>hb.2) (TV.relL_keep (fun b hb hlt=>⟨⟨hb,hlt⟩,rfl⟩) _ _ hxr) (fun w' y _ hv=>?_)
  simp only[AV.rel];exact plain_rel hp hv
 ·obtain⟨ys,hys⟩:=Option.isSome_iff_exists.1 hall
  have:=mapO_allT (n:=7) hys hxs
  subst this
  refine main (fun b=>Fc F0 B0 s.σ m b∧b<w.heap.size) (fun b hb=>hb.2) (TV.relL_keep (fun b hb hlt=>⟨⟨hb,hlt⟩,rfl⟩) _ _ (relL_allT hr hys)) (fun w' y hb hv=>?_)
  simp only[AV.rel]
  refine TV.rel_keep (keeps_mono ?_) _ _ hv
  rintro b (hb | hb)
  ·exact hb.1
  ·exact⟨.inr (hsz _ hb),fun l o' hl' e'=>by have:=(AO.blk_lt (S.ob l o' hl') e').2;omega⟩
end
end
section
def detOp (T:TyTab):Op→Bool
 | .binOp _ t _ _ _=>match T t with
  | some { d:=.slice _,.. }=>false
  | _=>true
 | _=>true
def effectOp:Op→Bool
 | .store .. | .call { callee:=.builtin .append,.. } | .call { callee:=.builtin .copy,.. } | .mapUpdate .. | .insert .. | .makeMap .. | .range .. | .next ..=>true
 | _=>false
def stopD (own:List Nat) (z:Nat):Op→Bool
 | .assign _=>Nat.beq z 1
 | .call { callee:=.value (.func g),.. }=>Nat.beq z 2&&mem (20000+g) own
 | op=>effectOp op
def flagC (own:List Nat) (lk:Operand→Option AV):Op→Option (FuncId×List AV)
 | .call { callee:=.value f,args:=as,.. }=>match lk f,lkAll lk as.toList with
  | some (.t (.fn g caps)),some vs=>bif mem (10000+g) own then some (g,vs++caps.map .t) else none
  | some (.fn g caps),some vs=>bif mem (10000+g) own then some (g,vs++caps) else none
  | _,_=>none
 | _=>none
def callX (P:Program) (s:St) (X:TV→Prop) (g:FuncId) (vs:List AV) (K:TV→Prop→Prop):Prop :=
 match mapO (borrow s.σ 8) vs with
 | some xs=>Ent P g∧∃ r A,SC P g [] (xs.map .t) (fun x _=>(x=.ret r∧A)∨∃ e,x=.pan e∧e.flat=true∧X e)∧(bif r.plain then K r A else bif (allT vs).isSome then K r A else False)
 | none=>False
def bsG (T:TyTab) (t:TypeId) (n:Nat) (parts:List (Nat×Operand)) (lk:Operand→Option AV) (K:AV→Prop):Prop :=
 match T t with
 | some { d:=.slice e,.. }=>match T e,lkAll lk (parts.map (·.2)) with
  | some ei,some vs=>match allT vs with
   | some xs=>match mapO cellsT xs with
    | some es=>bif seqFrom 0 parts&&Nat.beq parts.length n&&allLen ei.size es&&Nat.ble (n*ei.size) 16777216&&Nat.blt 0 ei.size then K (.t (.sl ei.size es)) else False
    | none=>False
   | none=>False
  | _,_=>False
 | _=>False
inductive DK where
 | quiet | alloc (t:TypeId) | lit (t:TypeId) (n:Nat) (parts:Array (Nat×Operand)) | pick (c a b:Operand)
def kindD:Op→DK
 | .alloc t=>.alloc t
 | .buildSlice t n parts=>.lit t n parts
 | .pick c a b=>.pick c a b
 | _=>.quiet
def ifAll:List Prop→Prop→Prop
 | [],p=>p
 | A::l,p=>A→ifAll l p
omit [Gm] in
theorem all_cons {A:Prop} {l:List Prop} (h:A∧∀ B∈l,B):∀ B∈A::l,B:=by
 intro B hB
 rcases List.mem_cons.1 hB with e | hB
 ·rw[e];exact h.1
 ·exact h.2 B hB
omit [Gm] in
theorem ifAll_of:∀ {l:List Prop} {p:Prop},ifAll l p→(∀ A∈l,A)→p
 | [],_,h,_=>h
 | A::_,_,h,ha=>ifAll_of (h (ha A (List.mem_cons_self ..))) (fun B hB=>ha B (List.mem_cons_of_mem _ hB))
def evD (own:List Nat) (z:Nat) (X:TV→Prop) (T:TyTab) (P:Program) (N:Nat) (ops:Array Oper) (s:St):List Oper→List (Nat×GE)→List (Nat×AO)→(List (Nat×GE)→List (Nat×AO)→List Oper→List Prop→Prop)→Prop
 | [],ψ,ν,K=>K ψ ν [] []
 | o::os,ψ,ν,K =>
  bif stopD own z o.op then K ψ ν (o::os) [] else
  match o.dst with
  | none=>False
  | some d=>bif Nat.blt d N&&!clashG d ψ then (match o.guard with
   | none=>match kindD o.op with
    | .alloc t=>match T t with
     | some ti=>evD own z X T P N ops s os ((d,⟨[],True,.ptr d 0⟩)::ψ) ((d,.var (ti.zero.map .t))::ν) K
     | none=>False
    | .lit t n parts=>bsG T t n parts.toList (opd ψ s.φ []) (fun v=>evD own z X T P N ops s os ((d,⟨[],True,v⟩)::ψ) ν K)
    | .pick c a b=>match pickV (opd ψ s.φ) [] c a b with
     | some x=>evD own z X T P N ops s os ((d,⟨[],True,vb x⟩)::ψ) ν K
     | none=>False
    | .quiet=>match flagC own (opd ψ s.φ []) o.op with
     | some (g,vs)=>callX P s X g vs (fun r A=>evD own z X T P N ops s os ((d,⟨[],True,.t r⟩)::ψ) ν (fun ψ ν rest l=>K ψ ν rest (A::l)))
     | none=>bif detOp T o.op then evG T P True o (opd ψ s.φ []) s (fun v=>evD own z X T P N ops s os ((d,⟨[],True,v⟩)::ψ) ν K) else False
   | some (j,want)=>match guardOf ops ψ s.φ j want with
    | some (gs,G)=>bif namesG d gs then False else match kindD o.op with
     | .pick c a b=>match pickV (opd ψ s.φ) gs c a b with
      | some x=>evD own z X T P N ops s os ((d,⟨gs,G,vb x⟩)::ψ) ν K
      | none=>False
     | .quiet=>bif detOp T o.op then evG T P G o (opd ψ s.φ gs) s (fun v=>evD own z X T P N ops s os ((d,⟨gs,G,v⟩)::ψ) ν K) else False
     | _=>False
    | none=>False) else False
def toF:List (Nat×GE)→List (Nat×AV)→List (Nat×AV)
 | [],φ=>φ
 | (d,⟨[],_,v⟩)::r,φ=>(d,v)::toF r φ
 | (d,⟨_::_,_,_⟩)::r,φ=>(d,.junk)::toF r φ
def freeD (d:Nat):List (Nat×GE)→Bool
 | []=>true
 | (t,e)::r=>(Nat.beq t d||e.v.free d)&&freeD d r
def freshD (s:St) (ψ:List (Nat×GE)):List (Nat×AO)→Bool
 | []=>true
 | (d,_)::r=>freeF d s.φ&&freeS d s.σ&&freeD d ψ&&freshD s ψ r
def preLen (own:List Nat) (z:Nat):List Oper→Nat
 | []=>0
 | o::r=>bif stopD own z o.op then 0 else preLen own z r+1
def hasEdge (j:Nat) (o:Oper):Bool:=o.after.toList.any fun e=>Nat.beq e.on j&&Region.binds .any e
def dstIs (ops:Array Oper) (j:Nat) (t:Tmp):Bool:=match (ops[j]?).bind (·.dst) with | some d=>Nat.beq d t | none=>false
def coverB (ops:Array Oper) (j:Nat):Nat→Oper→Bool
 | 0,o=>hasEdge j o
 | f+1,o=>hasEdge j o||o.after.toList.any fun e=>Region.binds .any e&&match ops[e.on]? with | some o'=>coverB ops j f o' | none=>false
def isMoveB:Op→Bool
 | .move _=>true
 | _=>false
def headOK (ops:Array Oper):Bool:=match ops[0]? with
 | some o=>isMoveB o.op&&o.guard.isNone&&Region.noSelect ops&&Region.free .any ops (Array.replicate ops.size false) 0
 | none=>false
def drawOK (h:Nat) (ops:Array Oper) (n:Nat):Bool :=
 (List.range ops.size).all fun i=>match ops[i]? with
  | none=>true
  | some o =>
   (o.after.toList.all fun e=>!Region.binds .any e||Nat.blt e.on i) &&
   bif Nat.blt i n then
    (List.range n).all fun j=>!((o.looksAt ops).any fun t=>dstIs ops j t)||(hasEdge j o||(o.guard.isNone&&Nat.blt i j&&(match ops[j]? with | some oj=>hasEdge i oj | none=>false)))
   else bif Nat.beq i n then (List.range n).all fun j=>Nat.blt j h||coverB ops j 12 o else hasEdge (i-1) o
def evDrawZ (z:Nat) (T:TyTab) (P:Program) (own:List Nat) (N:Nat) (ops:Array Oper) (s:St) (Q:Exit→St→Prop):Prop :=
 evD own z (fun e=>mem 9999 own=true∧Q (.panic []) ⟨[(0,.t e)],s.σ⟩) T P N ops s ops.toList [] [] (fun ψ ν rest l =>
  bif freshD s ψ ν then ifAll l (evOps T P own N ops rest [] ⟨toF ψ s.φ,ν++s.σ⟩ (Q .normal)) else False)
def drawOKS (ops:Array Oper) (n:Nat):Bool :=
 (List.range ops.size).all fun i=>match ops[i]? with
  | none=>true
  | some o =>
   (o.after.toList.all fun e=>!Region.binds .any e||Nat.blt e.on i) &&
   bif Nat.blt i (n+1) then
    (List.range n).all fun j=>!((o.looksAt ops).any fun t=>dstIs ops j t)||(Nat.blt j i&&hasEdge j o)
   else bif Nat.beq i (n+1) then (List.range (n+1)).all fun j=>coverB ops j 12 o else hasEdge (i-1) o
def freeT (ops:Array Oper) (t:Tmp):Bool:=ops.toList.all fun o=>match o.dst with | some d=>!Nat.beq d t | none=>true
def junkL:List AV→List AV
 | []=>[]
 | _::r=>.junk::junkL r
def evDrawS (T:TyTab) (P:Program) (own:List Nat) (N:Nat) (ops:Array Oper) (s:St) (Q:Exit→St→Prop):Prop :=
 bif drawOKS ops (preLen own 0 ops.toList) then (match ops[preLen own 0 ops.toList]? with
  | some o=>match o.op,o.dst,o.guard with
   | .store t (.tmp tp) x,none,none=>bif freeT ops tp then (match look tp s.φ,T t with
    | some (.ptr l 0),some ti=>match look l s.σ with
     | some (.var cs)=>bif Nat.beq cs.length ti.size then
       evD own 0 (fun _=>False) T P N ops ⟨s.φ,(l,.var (junkL cs))::s.σ⟩ ops.toList [] [] (fun ψ ν rest la=>match ν,rest with
        | [],_::rest'=>match opd ψ s.φ [] x with
         | some v=>match cellsOf v with
          | some vs=>match allT vs with
           | some new=>bif Nat.beq new.length ti.size then ifAll la (evOps T P own N ops rest' [] ⟨toF ψ s.φ,(l,.var (new.map .t))::s.σ⟩ (Q .normal)) else False
           | none=>False
          | none=>False
         | none=>False
        | _,_=>False) else False
     | _=>False
    | _,_=>False) else False
   | _,_,_=>False
  | none=>False) else False
def evDraw (T:TyTab) (P:Program) (own:List Nat) (N:Nat) (ops:Array Oper) (s:St) (Q:Exit→St→Prop):Prop :=
 bif mem 9998 own&&drawOK 0 ops (preLen own 2 ops.toList) then evDrawZ 2 T P own N ops s Q
 else bif drawOK 0 ops (preLen own 0 ops.toList) then evDrawZ 0 T P own N ops s Q
 else bif drawOK 0 ops (preLen own 1 ops.toList) then evDrawZ 1 T P own N ops s Q
 else bif drawOK 1 ops (preLen own 0 ops.toList) then headOK ops=true∧evDrawZ 0 T P own N ops s Q else evDrawS T P own N ops s Q
end
end Go.Proofs.YtihbimigddlbaaaGreatDoor.Pl
end
noncomputable section
set_option linter.all false
namespace Go.Proofs.YtihbimigddlbaaaGreatDoor.Pl
variable [Gm]
section
section
variable {T:TyTab} {σ:List (Nat×AO)} {W:Prop→Prop} {K:AV→Prop}
omit [Gm] in
theorem loadK_det {ti:TI} {p:AV} (h:loadK ti σ K p):∃ v,K v∧loadK ti σ (·=v) p:=by
 unfold loadK at h ⊢
 simp only[Bool.cond_eq_ite] at h ⊢
 (repeat' split at h) <;> first | exact h.elim | exact⟨_,h,by simp[*]⟩ | skip
 all_goals (obtain⟨c,hc,h⟩:=h;(repeat' split at h) <;> first | exact h.elim | exact⟨_,h,by simp_all⟩)
omit [Gm] in
theorem fieldAddrK_det {s:TypeId} {f:Nat} {p:AV} (h:fieldAddrK T s f K p):∃ v,K v∧fieldAddrK T s f (·=v) p:=by
 unfold fieldAddrK at h ⊢
 simp only[Bool.cond_eq_ite] at h ⊢
 (repeat' split at h) <;> first | exact h.elim | exact⟨_,h,by simp_all⟩
omit [Gm] in
theorem fieldK_det {s:TypeId} {f:Nat} {p:AV} (h:fieldK T s f K p):∃ v,K v∧fieldK T s f (·=v) p:=by
 unfold fieldK at h ⊢
 simp only[Bool.cond_eq_ite] at h ⊢
 (repeat' split at h) <;> first | exact h.elim | exact⟨_,h,by simp_all⟩
omit [Gm] in
theorem indexAddrK_det {t:TypeId} {x j:AV} (h:indexAddrK T σ W t K x j):∃ v,K v∧indexAddrK T σ W t (·=v) x j:=by
 unfold indexAddrK at h ⊢
 simp only[Bool.cond_eq_ite] at h ⊢
 (repeat' split at h) <;> first | exact h.elim | exact⟨_,h.2,by simp_all⟩ | (obtain⟨c,hc,h⟩:=h;exact⟨_,h,by simp_all only[if_true];exact⟨c,hc,rfl⟩⟩)
omit [Gm] in
theorem indexK_det {t:TypeId} {x j:AV} (h:indexK T W t K x j):∃ v,K v∧indexK T W t (·=v) x j:=by
 unfold indexK at h ⊢
 (repeat' split at h) <;> first | exact h.elim | exact⟨_,h.2,h.1,rfl⟩
omit [Gm] in
theorem binK_det {op:BinOp} {t:TypeId} (hd:∀ e s b z q,T t≠some { d:=.slice e,size:=s,bytes:=b,zero:=z,eqs:=q }) {x y:AV} (h:binK T σ W op t K x y):∃ v,K v∧binK T σ W op t (·=v) x y:=by
 unfold binK at h ⊢
 simp only[Bool.cond_eq_ite] at h ⊢
 (repeat' split at h) <;> first
  | exact h.elim
  | (exact absurd ‹T t=_› (hd _ _ _ _ _))
  | exact⟨_,h,by simp_all⟩
  | exact⟨_,h.2,by simp_all⟩
  | (obtain⟨h0,h⟩:=h;(repeat' split at h) <;> first | exact h.elim | exact⟨_,h,by simp_all⟩)
omit [Gm] in
theorem unK_det {op:UnOp} {x:AV} (h:unK op K x):∃ v,K v∧unK op (·=v) x:=by
 unfold unK at h ⊢
 (repeat' split at h) <;> first | exact⟨_,h,rfl⟩ | exact h.elim
omit [Gm] in
theorem extractK_det {i:Nat} {x:AV} (h:extractK i K x):∃ v,K v∧extractK i (·=v) x:=by
 unfold extractK at h ⊢
 (repeat' split at h) <;> first | exact h.elim | exact⟨_,h,by simp_all⟩
omit [Gm] in
theorem buildK_det {lk:Operand→Option AV} {t:TypeId} {ps:Array (Nat×Operand)} (h:buildK T lk t ps K):∃ v,K v∧buildK T lk t ps (·=v):=by
 unfold buildK at h ⊢
 (repeat' split at h) <;> first | exact h.elim | exact⟨_,h,by simp_all⟩
omit [Gm] in
theorem sliceK_det {lk:Operand→Option AV} {t:TypeId} {lo hi mx:Option Operand} {x:AV} (h:sliceK T lk σ W t lo hi mx K x):∃ v,K v∧sliceK T lk σ W t lo hi mx (·=v) x:=by
 unfold sliceK at h ⊢
 simp only[Bool.cond_eq_ite] at h ⊢
 (repeat' split at h) <;> first | exact h.elim | exact⟨_,h.2,by simp_all⟩
omit [Gm] in
theorem lenK_det {t:TypeId} {x:AV} (h:lenK T σ t K x):∃ v,K v∧lenK T σ t (·=v) x:=by
 unfold lenK at h ⊢
 (repeat' split at h) <;> first | exact h.elim | exact⟨_,h,by simp_all⟩
omit [Gm] in
theorem maxMinK_det {mx:Bool} {xs:List AV} (h:maxMinK mx K xs):∃ v,K v∧maxMinK mx (·=v) xs:=by
 unfold maxMinK at h ⊢
 simp only[Bool.cond_eq_ite] at h ⊢
 (repeat' split at h) <;> first | exact h.elim | exact⟨_,h,by simp_all <;> omega⟩
omit [Gm] in
theorem lookupK_det {t:TypeId} {ok:Bool} {x k:AV} (h:lookupK T σ W t ok K x k):∃ v,K v∧lookupK T σ W t ok (·=v) x k:=by
 unfold lookupK at h ⊢
 simp only[Bool.cond_eq_ite] at h ⊢
 (repeat' split at h) <;> first
  | exact h.elim
  | (obtain⟨b,v,hw,h⟩:=h;exact⟨_,h,by simp_all only[if_true];exact⟨b,v,hw,rfl⟩⟩)
  | (obtain⟨v,hw,h⟩:=h;exact⟨_,h,by simp_all only[if_true,Bool.false_eq_true,if_false];exact⟨v,hw,rfl⟩⟩)
omit [Gm] in
theorem yieldK_det {lk:Operand→Option AV} {op:Op} (hd:detOp T op=true) (h:yieldK T lk σ W op K):∃ v,K v∧yieldK T lk σ W op (·=v):=by
 unfold yieldK at h ⊢
 (repeat' split at h) <;> first
  | exact h.elim
  | exact⟨_,h,rfl⟩
  | exact⟨_,h,by simp_all⟩
  | (obtain⟨v,h1,h2⟩:=loadK_det h;exact⟨v,h1,by simp_all⟩)
  | (obtain⟨v,h1,h2⟩:=fieldAddrK_det h;exact⟨v,h1,by simp_all⟩)
  | (obtain⟨v,h1,h2⟩:=fieldK_det h;exact⟨v,h1,by simp_all⟩)
  | (obtain⟨v,h1,h2⟩:=indexAddrK_det h;exact⟨v,h1,by simp_all⟩)
  | (obtain⟨v,h1,h2⟩:=indexK_det h;exact⟨v,h1,by simp_all⟩)
  | (obtain⟨v,h1,h2⟩:=binK_det (by intro e s b z q he;simp[detOp,he] at hd) h;exact⟨v,h1,by simp_all⟩)
  | (obtain⟨v,h1,h2⟩:=unK_det h;exact⟨v,h1,by simp_all⟩)
  | (obtain⟨v,h1,h2⟩:=extractK_det h;exact⟨v,h1,by simp_all⟩)
  | (obtain⟨v,h1,h2⟩:=buildK_det h;exact⟨v,h1,by simp_all⟩)
  | (obtain⟨v,h1,h2⟩:=sliceK_det h;exact⟨v,h1,by simp_all⟩)
  | (obtain⟨v,h1,h2⟩:=lenK_det h;exact⟨v,h1,by simp_all⟩)
  | (obtain⟨v,h1,h2⟩:=lookupK_det h;exact⟨v,h1,by simp_all⟩)
  | (obtain⟨v,h1,h2⟩:=maxMinK_det h;exact⟨v,h1,by simp_all⟩)
theorem callG_det {P:Program} {G:Prop} {s:St} {f:FuncId} {vs:List AV} (h:callG P G s K f vs):∃ v,K v∧callG P G s (·=v) f vs:=by
 unfold callG at h ⊢
 simp only[Bool.cond_eq_ite] at h ⊢
 split at h
 ·obtain⟨he,r,hp,h⟩:=h
  refine⟨.t r,?_,he,r,hp,?_⟩
  ·(repeat' split at h) <;> first | exact h | exact h.elim
  ·(repeat' split at h) <;> first | exact h.elim | simp_all
 ·exact h.elim
theorem evG_det {P:Program} {G:Prop} {o:Oper} {s:St} {lk:Operand→Option AV} (hd:detOp T o.op=true) (h:evG T P G o lk s K):∃ v,K v∧evG T P G o lk s (·=v):=by
 unfold evG at h ⊢
 split at h
 ·rename_i f as ts ho
  split at h
  ·rename_i g caps vs hf hvs
   obtain⟨v,h1,h2⟩:=callG_det h
   exact⟨v,h1,by first | exact h2 | (simp only[hf,hvs];exact h2) | (simp only[ho,hf,hvs];exact h2)⟩
  ·rename_i g caps vs hf hvs
   obtain⟨v,h1,h2⟩:=callG_det h
   exact⟨v,h1,by first | exact h2 | (simp only[hf,hvs];exact h2) | (simp only[ho,hf,hvs];exact h2)⟩
  ·exact h.elim
 ·obtain⟨v,h1,h2⟩:=yieldK_det hd h
  exact⟨v,h1,h2⟩
end
end
section
section
variable {T:TyTab} {σ σ':List (Nat×AO)} {W:Prop→Prop} {K:AV→Prop} (hs:∀ l o,look l σ=some o→look l σ'=some o)
include hs
omit [Gm] in
theorem loadK_more {ti:TI} {p:AV} (h:loadK ti σ K p):loadK ti σ' K p:=by
 unfold loadK at h ⊢
 split at h
 ·exact h
 ·split at h
  ·rename_i hl;simp only[hs _ _ hl];exact h
  ·exact h.elim
 ·split at h
  ·rename_i hl;simp only[hs _ _ hl];exact h
  ·exact h.elim
 ·exact h.elim
omit [Gm] in
theorem indexAddrK_more {t:TypeId} {x j:AV} (h:indexAddrK T σ W t K x j):indexAddrK T σ' W t K x j:=by
 unfold indexAddrK at h ⊢
 split at h
 ·split at h
  ·exact h
  ·split at h
   ·rename_i hl he;simp only[hs _ _ hl,he];exact h
   ·exact h.elim
  ·split at h
   ·rename_i hl he;simp only[hs _ _ hl,he];exact h
   ·exact h.elim
  ·exact h
  ·exact h
  ·exact h.elim
 ·exact h.elim
omit [Gm] in
theorem binK_more {op:BinOp} {t:TypeId} {x y:AV} (h:binK T σ W op t K x y):binK T σ' W op t K x y:=by
 unfold binK at h ⊢
 split at h
 ·exact h
 ·exact h
 ·exact h
 ·exact h
 ·exact h
 ·exact h
 ·split at h
  ·rename_i ht hp hl;simp only[ht,hp,hs _ _ hl];exact h
  ·exact h.elim
 ·exact h.elim
omit [Gm] in
theorem lenK_more {t:TypeId} {x:AV} (h:lenK T σ t K x):lenK T σ' t K x:=by
 unfold lenK at h ⊢
 split at h
 ·exact h
 ·exact h
 ·exact h
 ·split at h
  ·rename_i hl;simp only[hs _ _ hl];exact h
  ·exact h.elim
 ·exact h
 ·exact h
 ·exact h.elim
omit [Gm] in
theorem lookupK_more {t:TypeId} {ok:Bool} {x k:AV} (h:lookupK T σ W t ok K x k):lookupK T σ' W t ok K x k:=by
 unfold lookupK at h ⊢
 split at h
 ·exact h
 ·split at h
  ·rename_i hl he;simp only[hs _ _ hl,he];exact h
  ·exact h.elim
 ·exact h.elim
omit [Gm] in
theorem sliceK_more {lk:Operand→Option AV} {t:TypeId} {lo hi mx:Option Operand} {x:AV} (h:sliceK T lk σ W t lo hi mx K x):sliceK T lk σ' W t lo hi mx K x:=by
 unfold sliceK at h ⊢
 split at h
 ·exact h
 ·exact h
 ·split at h
  ·rename_i he hl;simp only[he,hs _ _ hl];exact h
  ·exact h.elim
 ·split at h
  ·rename_i he hl;simp only[he,hs _ _ hl];exact h
  ·exact h.elim
 ·exact h.elim
omit [Gm] in
theorem yieldK_more {lk:Operand→Option AV} {op:Op} (h:yieldK T lk σ W op K):yieldK T lk σ' W op K:=by
 unfold yieldK at h ⊢
 split at h
 all_goals first
  | exact h
  | (split at h <;> first | exact h.elim | exact h | exact loadK_more hs h | exact indexAddrK_more hs h | exact binK_more hs h | exact sliceK_more hs h | exact lenK_more hs h | exact lookupK_more hs h)
omit [Gm] in
theorem borrow_more:∀ (n:Nat) (x:AV) (t:TV),borrow σ n x=some t→borrow σ' n x=some t:=by
 intro n
 induction n with
 | zero=>intro x t h;simp[borrow] at h
 | succ n ih =>
  have hm:∀ (cs:List AV) (xs:List TV),mapO (borrow σ n) cs=some xs→mapO (borrow σ' n) cs=some xs:=by
   intro cs
   induction cs with
   | nil=>intro xs h;exact h
   | cons c cs ihc =>
    intro xs h
    simp only[mapO] at h ⊢
    split at h
    ·rename_i y ys hy hys
     rw[ih c y hy,ihc ys hys];exact h
    ·cases h
  intro x t h
  cases x <;> simp only[borrow] at h ⊢
  ·exact h
  ·split at h
   ·rename_i hl
    rw[hs _ _ hl]
    split at h
    ·rename_i xs hxs;simp only[hm _ _ hxs];exact h
    ·cases h
   ·cases h
  ·split at h
   ·rename_i hl;rw[hs _ _ hl];exact h
   ·cases h
  ·split at h
   ·rename_i hl;rw[hs _ _ hl];exact h
   ·rename_i hl;rw[hs _ _ hl];exact h
   ·cases h
  ·split at h
   ·rename_i hl;rw[hs _ _ hl];exact h
   ·cases h
  ·split at h
   ·rename_i xs hxs;simp only[hm _ _ hxs];exact h
   ·cases h
  ·split at h
   ·rename_i xs hxs;simp only[hm _ _ hxs];exact h
   ·cases h
  ·split at h
   ·rename_i xs hxs;simp only[hm _ _ hxs];exact h
   ·cases h
  ·cases h
omit [Gm] in
theorem mapO_borrow_more (n:Nat):∀ (cs:List AV) (xs:List TV),mapO (borrow σ n) cs=some xs→mapO (borrow σ' n) cs=some xs
 | [],xs,h=>h
 | c::cs,xs,h=>by
  simp only[mapO] at h ⊢
  split at h
  ·rename_i y ys hy hys
   rw[borrow_more hs n c y hy,mapO_borrow_more n cs ys hys];exact h
  ·cases h
end
theorem evG_more {T:TyTab} {P:Program} {G:Prop} {o:Oper} {lk:Operand→Option AV} {s s':St} {K:AV→Prop} (hs:∀ l o,look l s.σ=some o→look l s'.σ=some o) (h:evG T P G o lk s K):evG T P G o lk s' K:=by
 have hc:∀ {f:FuncId} {vs:List AV},callG P G s K f vs→callG P G s' K f vs:=by
  intro f vs h
  unfold callG at h ⊢
  split at h
  ·rename_i xs hxs
   rw[mapO_borrow_more hs 8 _ _ hxs];exact h
  ·exact h.elim
 unfold evG at h ⊢
 split at h
 ·split at h
  ·exact hc h
  ·exact hc h
  ·exact h.elim
 ·exact yieldK_more hs h
end
section
omit [Gm] in
theorem lkAll_congr {lk lk':Operand→Option AV}:∀ {xs:List Operand},(∀ x∈xs,lk x=lk' x)→lkAll lk xs=lkAll lk' xs
 | [],_=>rfl
 | x::xs,h=>by
  simp only[lkAll]
  rw[h x (List.mem_cons_self ..),lkAll_congr (fun y hy=>h y (List.mem_cons_of_mem _ hy))]
omit [Gm] in
theorem fillK_congr {fs:List (Nat×TypeId)} {T:TyTab} {lk lk':Operand→Option AV}:∀ {ps:List (Nat×Operand)} {cs:List AV},(∀ p∈ps,lk p.2=lk' p.2)→fillK fs T lk ps cs=fillK fs T lk' ps cs
 | [],_,_=>rfl
 | (i,x)::ps,cs,h=>by
  simp only[fillK]
  rw[h (i,x) (List.mem_cons_self ..)]
  have ih:∀ cs,fillK fs T lk ps cs=fillK fs T lk' ps cs:=fun cs=>fillK_congr (fun p hp=>h p (List.mem_cons_of_mem _ hp))
  simp only[ih]
omit [Gm] in
theorem endsOf_congr {lk lk':Operand→Option AV} {n:Nat} {lo hi:Option Operand} (h1:∀ x,lo=some x→lk x=lk' x) (h2:∀ x,hi=some x→lk x=lk' x):endsOf lk n lo hi=endsOf lk' n lo hi:=by
 unfold endsOf
 cases lo with
 | none=>cases hi with
  | none=>rfl
  | some y=>simp only[h2 y rfl]
 | some x=>cases hi with
  | none=>simp only[h1 x rfl]
  | some y=>simp only[h1 x rfl,h2 y rfl]
omit [Gm] in
theorem yieldK_congr {T:TyTab} {lk lk':Operand→Option AV} {σ:List (Nat×AO)} {W:Prop→Prop} {op:Op} {K:AV→Prop} (h:∀ x∈op.operands,lk x=lk' x) (hy:yieldK T lk σ W op K):yieldK T lk' σ W op K:=by
 have key:yieldK T lk σ W op K=yieldK T lk' σ W op K:=by
  cases op <;> try rfl
  case move x=>simp only[yieldK,h x (by simp[Op.operands])]
  case assign x=>simp only[yieldK,h x (by simp[Op.operands])]
  case load t a=>simp only[yieldK,h a (by simp[Op.operands])]
  case fieldAddr s x f=>simp only[yieldK,h x (by simp[Op.operands])]
  case field s x f=>simp only[yieldK,h x (by simp[Op.operands])]
  case indexAddr t x i=>simp only[yieldK,h x (by simp[Op.operands]),h i (by simp[Op.operands])]
  case index t x i=>simp only[yieldK,h x (by simp[Op.operands]),h i (by simp[Op.operands])]
  case binOp o t x y _=>simp only[yieldK,h x (by simp[Op.operands]),h y (by simp[Op.operands])]
  case lookup t x k ok=>simp only[yieldK,h x (by simp[Op.operands]),h k (by simp[Op.operands])]
  case unOp o t x=>simp only[yieldK,h x (by simp[Op.operands])]
  case convert s d x=>simp only[yieldK,h x (by simp[Op.operands])]
  case extract x i=>simp only[yieldK,h x (by simp[Op.operands])]
  case nilCheck x=>simp only[yieldK,h x (by simp[Op.operands])]
  case makeInterface t x=>simp only[yieldK,h x (by simp[Op.operands])]
  case build t ps =>
   simp only[yieldK,buildK]
   have:∀ fs cs,fillK fs T lk ps.toList cs=fillK fs T lk' ps.toList cs:=fun fs cs=>fillK_congr (fun p hp=>h p.2 (by simp only[Op.operands,List.mem_toArray,List.mem_map];exact⟨p,hp,rfl⟩))
   simp only[this]
  case makeFunc fn first caps =>
   cases fn <;> try rfl
   simp only[yieldK]
   rw[lkAll_congr (lk':=lk') (fun x hx=>h x (by simp only[Op.operands,Array.mem_append];exact .inr (Array.mem_toList_iff.1 hx)))]
  case slice t x lo hi mx =>
   simp only[yieldK,h x (by simp[Op.operands])]
   have h1:∀ n,endsOf lk n lo hi=endsOf lk' n lo hi:=fun n=>endsOf_congr (fun y hy=>h y (by simp[Op.operands,hy])) (fun y hy=>h y (by simp[Op.operands,hy]))
   simp only[sliceK,h1]
  case call c =>
   obtain⟨callee,as,ts⟩:=c
   have hall:lkAll lk as.toList=lkAll lk' as.toList:=lkAll_congr (fun x hx=>h x (by simp only[Op.operands,Call.operands,Array.mem_append];exact .inr (Array.mem_toList_iff.1 hx)))
   cases callee <;> try rfl
   rename_i b
   cases b <;> try rfl
   all_goals simp only[yieldK,hall]
 rw[←key];exact hy
theorem evG_congr {T:TyTab} {P:Program} {G:Prop} {o:Oper} {lk lk':Operand→Option AV} {s:St} {K:AV→Prop} (h:∀ x∈o.op.operands,lk x=lk' x) (hy:evG T P G o lk s K):evG T P G o lk' s K:=by
 unfold evG at hy ⊢
 split at hy
 ·rename_i f as ts ho
  have hf:=h f (by rw[ho];simp[Op.operands,Call.operands])
  have hall:lkAll lk as.toList=lkAll lk' as.toList:=lkAll_congr (fun x hx=>h x (by rw[ho];simp only[Op.operands,Call.operands,Array.mem_append];exact .inr (Array.mem_toList_iff.1 hx)))
  rw[←hf,←hall]
  exact hy
 ·exact yieldK_congr h hy
end
end Go.Proofs.YtihbimigddlbaaaGreatDoor.Pl
end
