/- States under changes of memory. -/
import Derived.Test.YtpakohboamfmjabPlYield5
namespace Go.Proofs.Ytpakohboamfmjab.Pl
open Go.RowKit

theorem Keeps.below {B : Nat} {w w' : World} {F F' : Nat → Prop} (hb : Below B w w') (hs : w.heap.size ≤ B) (hF : ∀ b, F b → b < w.heap.size → F' b) : Keeps w F w' F' :=
  fun b hf hlt => ⟨hF b hf hlt, hb.block b (by omega)⟩

/-! ### Handles under changes -/
mutual
def AV.free (l : Nat) : AV → Bool
  | .t _ => true
  | .ptr l' _ => !Nat.beq l l'
  | .rp l' _ _ => !Nat.beq l l'
  | .sl l' => !Nat.beq l l'
  | .sb l' _ _ => !Nat.beq l l'
  | .agg cs => AV.freeL l cs
  | .tup vs => AV.freeL l vs
  | .fn _ caps => AV.freeL l caps
  | .junk => true
def AV.freeL (l : Nat) : List AV → Bool
  | [] => true
  | c :: cs => c.free l && AV.freeL l cs
end

theorem nat_beq_false {a b : Nat} (h : (!Nat.beq a b) = true) : a ≠ b := by
  intro e; subst e; simp at h

mutual
/-- A value that does not name l, in another memory. -/
theorem AV.rel_keep {w w' : World} {F F' : Nat → Prop} {m m' : Nat → Value} {kk kk' : Nat → Nat} {l : Nat} (hk : Keeps w F w' F') (hm : ∀ l', l' ≠ l → m' l' = m l' ∧ kk' l' = kk l') :
    ∀ (x : AV) (y : Value), x.free l = true → x.rel w F m kk y → x.rel w' F' m' kk' y
  | .t x, y, _, h => by simp only [AV.rel] at h ⊢; exact TV.rel_keep hk x y h
  | .ptr l' off, y, hf, h => by
    simp only [AV.free] at hf
    simp only [AV.rel] at h ⊢
    rw [(hm l' (Ne.symm (nat_beq_false hf))).1]; exact h
  | .rp l' i j, y, hf, h => by
    simp only [AV.free] at hf
    simp only [AV.rel] at h ⊢
    have := hm l' (Ne.symm (nat_beq_false hf))
    rw [this.1, this.2]; exact h
  | .sl l', y, hf, h => by
    simp only [AV.free] at hf
    simp only [AV.rel] at h ⊢
    rw [(hm l' (Ne.symm (nat_beq_false hf))).1]; exact h
  | .sb l' i n, y, hf, h => by
    simp only [AV.free] at hf
    simp only [AV.rel] at h ⊢
    have := hm l' (Ne.symm (nat_beq_false hf))
    rw [this.1, this.2]; exact h
  | .agg cs, y, hf, h => by
    simp only [AV.free] at hf
    simp only [AV.rel] at h ⊢
    obtain ⟨us, h1, h2, h3⟩ := h
    exact ⟨us, h1, AV.relL_keep hk hm cs us hf h2, h3⟩
  | .tup vs, y, hf, h => by
    simp only [AV.free] at hf
    simp only [AV.rel] at h ⊢
    obtain ⟨us, h1, h2⟩ := h
    exact ⟨us, h1, AV.relL_keep hk hm vs us hf h2⟩
  | .fn f caps, y, hf, h => by
    simp only [AV.free] at hf
    simp only [AV.rel] at h ⊢
    obtain ⟨us, h1, h2⟩ := h
    exact ⟨us, h1, AV.relL_keep hk hm caps us hf h2⟩
  | .junk, y, _, _ => by simp only [AV.rel]
theorem AV.relL_keep {w w' : World} {F F' : Nat → Prop} {m m' : Nat → Value} {kk kk' : Nat → Nat} {l : Nat} (hk : Keeps w F w' F') (hm : ∀ l', l' ≠ l → m' l' = m l' ∧ kk' l' = kk l') :
    ∀ (xs : List AV) (us : List Value), AV.freeL l xs = true → AV.relL w F m kk xs us → AV.relL w' F' m' kk' xs us
  | [], us, _, h => by simpa only [AV.relL] using h
  | c :: cs, us, hf, h => by
    simp only [AV.freeL, Bool.and_eq_true] at hf
    simp only [AV.relL] at h ⊢
    obtain ⟨u, us', h1, h2, h3⟩ := h
    exact ⟨u, us', h1, AV.rel_keep hk hm c u hf.1 h2, AV.relL_keep hk hm cs us' hf.2 h3⟩
end

mutual
theorem AV.rel_same {w w' : World} {F F' : Nat → Prop} {m : Nat → Value} {kk : Nat → Nat} (hk : Keeps w F w' F') :
    ∀ (x : AV) (y : Value), x.rel w F m kk y → x.rel w' F' m kk y
  | .t x, y, h => by simp only [AV.rel] at h ⊢; exact TV.rel_keep hk x y h
  | .ptr l' off, y, h => by simpa only [AV.rel] using h
  | .rp l' i j, y, h => by simpa only [AV.rel] using h
  | .sl l', y, h => by simpa only [AV.rel] using h
  | .sb l' i n, y, h => by simpa only [AV.rel] using h
  | .agg cs, y, h => by
    simp only [AV.rel] at h ⊢
    obtain ⟨us, h1, h2, h3⟩ := h
    exact ⟨us, h1, AV.relL_same hk cs us h2, h3⟩
  | .tup vs, y, h => by
    simp only [AV.rel] at h ⊢
    obtain ⟨us, h1, h2⟩ := h
    exact ⟨us, h1, AV.relL_same hk vs us h2⟩
  | .fn f caps, y, h => by
    simp only [AV.rel] at h ⊢
    obtain ⟨us, h1, h2⟩ := h
    exact ⟨us, h1, AV.relL_same hk caps us h2⟩
  | .junk, y, _ => by simp only [AV.rel]
theorem AV.relL_same {w w' : World} {F F' : Nat → Prop} {m : Nat → Value} {kk : Nat → Nat} (hk : Keeps w F w' F') :
    ∀ (xs : List AV) (us : List Value), AV.relL w F m kk xs us → AV.relL w' F' m kk xs us
  | [], us, h => by simpa only [AV.relL] using h
  | c :: cs, us, h => by
    simp only [AV.relL] at h ⊢
    obtain ⟨u, us', h1, h2, h3⟩ := h
    exact ⟨u, us', h1, AV.rel_same hk c u h2, AV.relL_same hk cs us' h3⟩
end

/-- A value in which what names l is let go. -/
def AV.kill (l : Nat) (x : AV) : AV := bif x.free l then x else .junk
def AO.kill (l : Nat) : AO → AO
  | .var cs => .var (cs.map (AV.kill l))
  | .row e k es => .row e k es
def killF (l : Nat) (φ : List (Nat × AV)) : List (Nat × AV) := φ.map fun p => (p.1, p.2.kill l)
def killS (l : Nat) (σ : List (Nat × AO)) : List (Nat × AO) := (σ.filter fun p => !Nat.beq p.1 l).map fun p => (p.1, p.2.kill l)

def freeF (l : Nat) : List (Nat × AV) → Bool
  | [] => true
  | (_, v) :: r => v.free l && freeF l r
def AO.free (l : Nat) : AO → Bool
  | .var cs => AV.freeL l cs
  | .row .. => true
def freeS (l : Nat) : List (Nat × AO) → Bool
  | [] => true
  | (k, o) :: r => !Nat.beq k l && o.free l && freeS l r
/-- The same, written out. -/
def killFK (l : Nat) (K : List (Nat × AV) → Prop) : List (Nat × AV) → Prop
  | [] => K []
  | (k, v) :: r => bif v.free l then killFK l (fun r' => K ((k, v) :: r')) r else killFK l (fun r' => K ((k, .junk) :: r')) r
def killLK (l : Nat) (K : List AV → Prop) : List AV → Prop
  | [] => K []
  | v :: r => bif v.free l then killLK l (fun r' => K (v :: r')) r else killLK l (fun r' => K (.junk :: r')) r
def killSK (l : Nat) (K : List (Nat × AO) → Prop) : List (Nat × AO) → Prop
  | [] => K []
  | (k, o) :: r => bif Nat.beq k l then killSK l K r else match o with
    | .var cs => bif AV.freeL l cs then killSK l (fun r' => K ((k, .var cs) :: r')) r else killLK l (fun cs' => killSK l (fun r' => K ((k, .var cs') :: r')) r) cs
    | .row e q es => killSK l (fun r' => K ((k, .row e q es) :: r')) r
/-- A state in which what names l is let go. -/
def killK (l : Nat) (φ : List (Nat × AV)) (σ : List (Nat × AO)) (K : List (Nat × AV) → List (Nat × AO) → Prop) : Prop :=
  bif freeF l φ && freeS l σ then K φ σ else killFK l (fun φ' => killSK l (fun σ' => K φ' σ') σ) φ

theorem killFK_eq (l : Nat) : ∀ (φ : List (Nat × AV)) (K : List (Nat × AV) → Prop), killFK l K φ = K (killF l φ)
  | [], _ => rfl
  | (k, v) :: r, K => by
    simp only [killFK, killFK_eq l r]
    show _ = K ((k, v.kill l) :: killF l r)
    unfold AV.kill
    cases v.free l <;> rfl
theorem killLK_eq (l : Nat) : ∀ (cs : List AV) (K : List AV → Prop), killLK l K cs = K (cs.map (AV.kill l))
  | [], _ => rfl
  | v :: r, K => by
    simp only [killLK, killLK_eq l r, List.map_cons]
    unfold AV.kill
    cases v.free l <;> rfl
theorem kill_freeL (l : Nat) : ∀ {cs : List AV}, AV.freeL l cs = true → cs.map (AV.kill l) = cs
  | [], _ => rfl
  | v :: r, h => by
    simp only [AV.freeL, Bool.and_eq_true] at h
    rw [List.map_cons, kill_freeL l h.2]
    unfold AV.kill
    rw [h.1]; rfl
theorem killSK_eq (l : Nat) : ∀ (σ : List (Nat × AO)) (K : List (Nat × AO) → Prop), killSK l K σ = K (killS l σ)
  | [], _ => rfl
  | (k, o) :: r, K => by
    have e : killS l ((k, o) :: r) = if Nat.beq k l = true then killS l r else (k, o.kill l) :: killS l r := by
      unfold killS
      rw [List.filter_cons]
      cases Nat.beq k l <;> simp
    rw [e]
    simp only [killSK]
    cases hk : Nat.beq k l with
    | true => simp only [cond_true, if_true]; exact killSK_eq l r K
    | false =>
      simp only [cond_false, Bool.false_eq_true, if_false]
      cases o with
      | row e q es => simp only [killSK_eq l r]; rfl
      | var cs =>
        simp only [killLK_eq, killSK_eq l r, AO.kill]
        cases hf : AV.freeL l cs with
        | true => simp only [cond_true, kill_freeL l hf]
        | false => simp only [cond_false]
theorem killF_free (l : Nat) : ∀ {φ : List (Nat × AV)}, freeF l φ = true → killF l φ = φ
  | [], _ => rfl
  | (k, v) :: r, h => by
    simp only [freeF, Bool.and_eq_true] at h
    show (k, v.kill l) :: killF l r = _
    rw [killF_free l h.2]
    unfold AV.kill
    rw [h.1]; rfl
theorem killS_free (l : Nat) : ∀ {σ : List (Nat × AO)}, freeS l σ = true → killS l σ = σ
  | [], _ => rfl
  | (k, o) :: r, h => by
    simp only [freeS, Bool.and_eq_true, Bool.not_eq_true'] at h
    have e : killS l ((k, o) :: r) = (k, o.kill l) :: killS l r := by
      unfold killS
      rw [List.filter_cons]; simp [h.1.1]
    rw [e, killS_free l h.2]
    congr 2
    cases o with
    | row => rfl
    | var cs => simp only [AO.kill]; rw [kill_freeL l h.1.2]
theorem killK_eq (l : Nat) (φ : List (Nat × AV)) (σ : List (Nat × AO)) (K : List (Nat × AV) → List (Nat × AO) → Prop) : killK l φ σ K = K (killF l φ) (killS l σ) := by
  unfold killK
  cases h : freeF l φ && freeS l σ with
  | true =>
    simp only [Bool.and_eq_true] at h
    rw [cond_true, killF_free l h.1, killS_free l h.2]
  | false => rw [cond_false, killFK_eq, killSK_eq]

theorem AV.rel_kill {w w' : World} {F F' : Nat → Prop} {m m' : Nat → Value} {kk kk' : Nat → Nat} {l : Nat} (hk : Keeps w F w' F') (hm : ∀ l', l' ≠ l → m' l' = m l' ∧ kk' l' = kk l')
    {x : AV} {y : Value} (h : x.rel w F m kk y) : (x.kill l).rel w' F' m' kk' y := by
  unfold AV.kill
  cases hf : x.free l with
  | true => exact AV.rel_keep hk hm x y hf h
  | false => simp [AV.rel]
theorem AV.relL_kill {w w' : World} {F F' : Nat → Prop} {m m' : Nat → Value} {kk kk' : Nat → Nat} {l : Nat} (hk : Keeps w F w' F') (hm : ∀ l', l' ≠ l → m' l' = m l' ∧ kk' l' = kk l') :
    ∀ {xs : List AV} {us : List Value}, AV.relL w F m kk xs us → AV.relL w' F' m' kk' (xs.map (AV.kill l)) us
  | [], us, h => by simpa only [AV.relL, List.map_nil] using h
  | c :: cs, us, h => by
    simp only [AV.relL, List.map_cons] at h ⊢
    obtain ⟨u, us', h1, h2, h3⟩ := h
    exact ⟨u, us', h1, AV.rel_kill hk hm h2, AV.relL_kill hk hm h3⟩

theorem look_killF (l t : Nat) : ∀ (φ : List (Nat × AV)), look t (killF l φ) = (look t φ).map (AV.kill l)
  | [] => rfl
  | (k, v) :: r => by
    show look t ((k, v.kill l) :: killF l r) = _
    rw [look_cons, look_cons, look_killF l t r]
    split <;> rfl
theorem look_filter {α : Type} (l t : Nat) : ∀ (σ : List (Nat × α)), look t (σ.filter fun p => !Nat.beq p.1 l) = if t = l then none else look t σ
  | [] => by simp [look]
  | (k, v) :: r => by
    rw [List.filter_cons]
    cases hk : Nat.beq k l with
    | true =>
      have := Nat.eq_of_beq_eq_true hk
      subst this
      simp only [Bool.not_true, Bool.false_eq_true, if_false]
      rw [look_filter k t r, look_cons]
      by_cases h : t = k <;> simp [h]
    | false =>
      have hne : k ≠ l := by intro e; subst e; simp at hk
      simp only [Bool.not_false, if_true]
      rw [look_cons, look_cons, look_filter l t r]
      by_cases h : t = k
      · subst h; simp [hne]
      · simp [h]
theorem look_map {α β : Type} (f : α → β) (t : Nat) : ∀ (σ : List (Nat × α)), look t (σ.map fun p => (p.1, f p.2)) = (look t σ).map f
  | [] => rfl
  | (k, v) :: r => by
    rw [List.map_cons, look_cons, look_cons, look_map f t r]
    split <;> rfl
theorem look_killS (l t : Nat) (σ : List (Nat × AO)) : look t (killS l σ) = if t = l then none else (look t σ).map (AO.kill l) := by
  unfold killS
  rw [look_map, look_filter]
  split <;> rfl

section
variable {w w' : World} {B0 : Nat → Prop} {F0 : Nat → Prop} {w0 : World} {σ : List (Nat × AO)} {m : Nat → Value} {kk : Nat → Nat}

theorem Fc.lt_ne {b l : Nat} {o : AO} (h : Fc F0 B0 σ m b) (hl : look l σ = some o) : obk (m l) ≠ some b := h.2 l o hl

theorem ownsRow_ownBlock_obk (v : Value) : (∃ A n c, v = .slice A n c) → v.ownBlock = obk v := by
  rintro ⟨A, n, c, rfl⟩; cases A <;> rfl

theorem ownsRow_slice {base : Nat} {e : TypeId} {size n : Nat} {v : Value} {xs : List Value} (h : w.ownsRow base e size v n xs) : ∃ A c, v = .slice A n c := by
  rcases h.2 with ⟨rfl, rfl⟩ | ⟨g, cap, cur, rfl, _⟩
  · exact ⟨none, 0, rfl⟩
  · exact ⟨_, _, rfl⟩

theorem AO.rel_keep {F F' : Nat → Prop} {l : Nat} {o : AO} (hk : Keeps w F w' F') (hb : ∀ g, obk (m l) = some g → w'.heap[g]? = w.heap[g]?)
    (h : o.rel w F m kk B0 l) : o.rel w' F' m kk B0 l := by
  cases o with
  | var cs =>
    obtain ⟨g, us, t, h1, h2, h3, h4, h5⟩ := h
    exact ⟨g, us, t, h1, h2, by rw [hb g (by rw [h1]; rfl)]; exact h3, AV.relL_same hk cs us h4, h5⟩
  | row e k es =>
    obtain ⟨us, h1, h2, h3, h4, h5⟩ := h
    refine ⟨us, ?_, TV.relR_keep hk k es us h2, h3, h4, h5⟩
    refine ⟨⟨h1.1.1, ?_⟩, h1.2⟩
    rcases h1.1.2 with hn | ⟨g, cap, cur, hv, hB, hg, rest⟩
    · exact .inl hn
    · exact .inr ⟨g, cap, cur, hv, hB, by rw [hb g (by rw [hv]; rfl)]; exact hg, rest⟩

theorem AO.blk_lt {F : Nat → Prop} {l : Nat} {o : AO} (h : o.rel w F m kk B0 l) {g : Nat} (hg : obk (m l) = some g) : B0 g ∧ g < w.heap.size := by
  cases o with
  | var cs =>
    obtain ⟨g', us, t, h1, h2, h3, _⟩ := h
    rw [h1] at hg; simp [obk] at hg; subst hg
    exact ⟨h2, (Array.getElem?_eq_some_iff.1 h3).1⟩
  | row e k es =>
    obtain ⟨us, h1, _⟩ := h
    have hO := h1.2 g hg
    rcases h1.1.2 with ⟨hn, _⟩ | ⟨g', cap, cur, hv, hB, hg', _⟩
    · rw [hn] at hg; simp [obk] at hg
    · rw [hv] at hg; simp [obk] at hg; subst hg
      exact ⟨hO, (Array.getElem?_eq_some_iff.1 hg').1⟩

theorem Kept.trans {O : Nat → Prop} {a b c : World} (h : Kept O a b) (os : c.os = b.os) (tape : c.tape = b.tape) (output : c.output = b.output) (size : b.heap.size ≤ c.heap.size) (block : ∀ k, k < a.heap.size → ¬ O k → c.heap[k]? = b.heap[k]?) : Kept O a c :=
  ⟨os.trans h.os, tape.trans h.tape, output.trans h.output, Nat.le_trans h.size size, fun k hk ho => (block k hk ho).trans (h.block k hk ho)⟩
theorem Kept.below {O : Nat → Prop} {a b c : World} (h : Kept O a b) (hb : Below b.heap.size b c) : Kept O a c :=
  h.trans hb.os hb.tape hb.output hb.size (fun k hk _ => hb.block k (Nat.lt_of_lt_of_le hk h.size))
theorem Kept.to_below {B : Nat} {a b : World} (h : Kept (fun g => B ≤ g) a b) (hB : B ≤ a.heap.size := by exact Nat.le_refl _) : Below B a b :=
  ⟨h.os, h.tape, h.output, h.size, fun k hk => h.block k (Nat.lt_of_lt_of_le hk hB) (Nat.not_le.2 hk)⟩
theorem ownAt_row {B : Nat} {w : World} {e : TypeId} {k n : Nat} {v : Value} {us : List Value} (h : ownAt w (fun g => B ≤ g) e k v n us) : w.ownsRow B e k v n us := by
  refine ⟨h.1.1, ?_⟩
  rcases h.1.2 with hn | ⟨g, cap, cur, hv, hB, rest⟩
  · exact .inl hn
  · exact .inr ⟨g, cap, cur, hv, h.2 g (by rw [hv]; rfl), rest⟩
theorem Heap.newB (H : Heap B0 F0 w0 σ m kk w) : ∀ g, w.heap.size ≤ g → B0 g := fun g h => H.base g (Nat.le_trans H.below.size h)

/-- New blocks: all stays as it was. -/
theorem Heap.grow (H : Heap B0 F0 w0 σ m kk w) (hb : Below w.heap.size w w') : Heap B0 F0 w0 σ m kk w' := by
  have hk : Keeps w (Fc F0 B0 σ m) w' (Fc F0 B0 σ m) := Keeps.below hb (Nat.le_refl _) (fun _ h _ => h)
  refine ⟨H.base, H.below.below hb, fun l o hl => ?_, H.dj⟩
  have h := H.ob l o hl
  exact AO.rel_keep hk (fun g hg => hb.block g (AO.blk_lt h hg).2) h

theorem Sim.grow {N : Nat} {s : St} {a : Act} (S : Sim N B0 F0 w0 s m kk a w) (hb : Below w.heap.size w w') : Sim N B0 F0 w0 s m kk a w' := by
  refine ⟨S.toHeap.grow hb, fun t v hv => ?_, S.df, S.sz⟩
  exact AV.rel_same (Keeps.below hb (Nat.le_refl _) (fun _ h _ => h)) v _ (S.fr t v hv)

def upd {α : Type} (m : Nat → α) (l : Nat) (x : α) : Nat → α := fun l' => if l' = l then x else m l'
theorem upd_same {α : Type} (m : Nat → α) (l : Nat) (x : α) : upd m l x l = x := by simp [upd]
theorem upd_ne {α : Type} (m : Nat → α) {l l' : Nat} (x : α) (h : l' ≠ l) : upd m l x l' = m l' := by simp [upd, h]

/-- The object l is laid anew (or for the first time): its value is x now; what named it is let go. What was there and is no object's but l's stays. -/
theorem Heap.lay (H : Heap B0 F0 w0 σ m kk w) (l : Nat) (x : Value) (k : Nat) (o : AO)
    (hblock : ∀ b, b < w.heap.size → (∀ o', look l σ = some o' → obk (m l) ≠ some b) → w'.heap[b]? = w.heap[b]?)
    (hsize : w.heap.size ≤ w'.heap.size) (hos : w'.os = w.os) (htape : w'.tape = w.tape) (hout : w'.output = w.output)
    (hx : ∀ g, obk x = some g → w.heap.size ≤ g ∨ (∃ o', look l σ = some o' ∧ obk (m l) = some g))
    (ho : o.rel w' (Fc F0 B0 ((l, o) :: killS l σ) (upd m l x)) (upd m l x) (upd kk l k) B0 l) :
    Heap B0 F0 w0 ((l, o) :: killS l σ) (upd m l x) (upd kk l k) w' ∧ Keeps w (Fc F0 B0 σ m) w' (Fc F0 B0 ((l, o) :: killS l σ) (upd m l x)) := by
  have hlook : ∀ l' o', look l' ((l, o) :: killS l σ) = some o' → (l' = l ∧ o' = o) ∨ (l' ≠ l ∧ ∃ o'', look l' σ = some o'' ∧ o' = o''.kill l) := by
    intro l' o' h
    rw [look_cons] at h
    by_cases hl : l' = l
    · simp [hl] at h; exact .inl ⟨hl, h.symm⟩
    · simp only [hl, if_false, look_killS] at h
      cases hq : look l' σ with
      | none => simp [hq] at h
      | some o'' => simp [hq] at h; exact .inr ⟨hl, o'', rfl, h.symm⟩
  have hk : Keeps w (Fc F0 B0 σ m) w' (Fc F0 B0 ((l, o) :: killS l σ) (upd m l x)) := by
    intro b hb hlt
    refine ⟨⟨hb.1, ?_⟩, hblock b hlt (fun o' ho' => hb.2 l o' ho')⟩
    intro l' o' hl'
    rcases hlook l' o' hl' with ⟨rfl, _⟩ | ⟨hne, o'', h1, _⟩
    · rw [upd_same]
      intro e
      rcases hx b e with h | ⟨o', h1, h2⟩
      · omega
      · exact hb.2 l' o' h1 h2
    · rw [upd_ne _ _ hne]; exact hb.2 l' o'' h1
  have hm : ∀ l', l' ≠ l → upd m l x l' = m l' ∧ upd kk l k l' = kk l' := fun l' h => ⟨upd_ne _ _ h, upd_ne _ _ h⟩
  have hold : ∀ l' o'', l' ≠ l → look l' σ = some o'' → ∀ g, obk (m l') = some g → w'.heap[g]? = w.heap[g]? := by
    intro l' o'' hne hl' g hg
    refine hblock g (AO.blk_lt (H.ob l' o'' hl') hg).2 (fun o' ho' e => ?_)
    rcases H.dj l' l o'' o' hl' ho' hne with h | h
    · rw [h] at hg; cases hg
    · exact h (hg.trans e.symm)
  refine ⟨⟨H.base, ?_, ?_, ?_⟩, hk⟩
  · refine H.below.trans hos htape hout hsize (fun b hb hno => hblock b (Nat.lt_of_lt_of_le hb H.below.size) (fun o' ho' e => ?_))
    exact hno (AO.blk_lt (H.ob l o' ho') e).1
  · intro l' o' hl'
    rcases hlook l' o' hl' with ⟨rfl, rfl⟩ | ⟨hne, o'', h1, rfl⟩
    · exact ho
    · have h := H.ob l' o'' h1
      cases o'' with
      | var cs =>
        obtain ⟨g, us, t, h2, h3, h4, h5, h6⟩ := h
        refine ⟨g, us, t, by rw [(hm l' hne).1]; exact h2, h3, ?_, AV.relL_kill hk hm h5, h6⟩
        rw [hold l' _ hne h1 g (by rw [h2]; rfl)]; exact h4
      | row e k' es =>
        have h' := AO.rel_keep (o := .row e k' es) hk (hold l' _ hne h1) h
        obtain ⟨us, h2, h3, h4, h5, h6⟩ := h'
        exact ⟨us, by rw [(hm l' hne).1]; exact h2, h3, h4, h5, by rw [(hm l' hne).2]; exact h6⟩
  · intro l1 l2 o1 o2 h1 h2 hne
    have key : ∀ l' o', l' ≠ l → look l' σ = some o' → obk (m l') = none ∨ obk (m l') ≠ obk x := by
      intro l' o' hne' hl'
      cases hg : obk (m l') with
      | none => exact .inl rfl
      | some g =>
        right; intro e
        rcases hx g e.symm with h | ⟨o'', h3, h4⟩
        · have := (AO.blk_lt (H.ob l' o' hl') hg).2; omega
        · rcases H.dj l' l o' o'' hl' h3 hne' with h | h
          · rw [h] at hg; cases hg
          · exact h (hg.trans h4.symm)
    rcases hlook l1 o1 h1 with ⟨rfl, _⟩ | ⟨hn1, o1', h1', _⟩ <;> rcases hlook l2 o2 h2 with ⟨e2, _⟩ | ⟨hn2, o2', h2', _⟩
    · exact absurd e2.symm hne
    · rw [upd_same, upd_ne _ _ hn2]
      rcases key l2 o2' hn2 h2' with h | h
      · cases hx' : obk x with
        | none => exact .inl rfl
        | some g => rw [h]; exact .inr (by simp)
      · exact .inr (Ne.symm h)
    · subst e2; rw [upd_same, upd_ne _ _ hn1]; exact key l1 o1' hn1 h1'
    · rw [upd_ne _ _ hn1, upd_ne _ _ hn2]; exact H.dj l1 l2 o1' o2' h1' h2' hne
end
end Go.Proofs.Ytpakohboamfmjab.Pl
