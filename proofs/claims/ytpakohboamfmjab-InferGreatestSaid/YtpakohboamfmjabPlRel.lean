/- What handles and states mean in memory. -/
import Derived.Test.YtpakohboamfmjabPlEv
namespace Go.Proofs.Ytpakohboamfmjab.Pl
open Go.RowKit

mutual
def AV.rel (w : World) (F : Nat → Prop) (m : Nat → Value) (kk : Nat → Nat) : AV → Value → Prop
  | .t x, y => x.rel w F y
  | .ptr l off, y => ∃ g, m l = .pointer (some ⟨g, 0, none⟩) ∧ y = .pointer (some ((⟨g, 0, none⟩ : Addr).add off))
  | .rp l i j, y => ∃ g n c, m l = .slice (some ⟨g, 0, none⟩) n c ∧ y = .pointer (some ((⟨g, 0, none⟩ : Addr).add (i * kk l + j)))
  | .sl l, y => y = m l ∧ ∃ A n c, m l = .slice A n c
  | .sb l i n, y => (∃ g N c A, m l = .slice (some ⟨g, 0, none⟩) N c ∧ y = .slice (some A) n (c - i) ∧ A.block = g ∧ (n ≠ 0 → A = (⟨g, 0, none⟩ : Addr).add (i * kk l)) ∧ (i = 0 → A = ⟨g, 0, none⟩) ∧ i + n ≤ N) ∨ (m l = .slice none 0 0 ∧ y = .slice none 0 0 ∧ i = 0 ∧ n = 0)
  | .agg cs, y => ∃ us, y = .agg us.toArray ∧ AV.relL w F m kk cs us ∧ OneAll us
  | .tup vs, y => ∃ us, y = .tuple us.toArray ∧ AV.relL w F m kk vs us
  | .fn f caps, y => ∃ us, y = .func (.func f) #[] us.toArray ∧ AV.relL w F m kk caps us
  | .junk, _ => True
def AV.relL (w : World) (F : Nat → Prop) (m : Nat → Value) (kk : Nat → Nat) : List AV → List Value → Prop
  | [], us => us = []
  | c :: cs, us => ∃ u us', us = u :: us' ∧ c.rel w F m kk u ∧ AV.relL w F m kk cs us'
end

/-- The block that a handle's value leads to. -/
def obk : Value → Option Nat
  | .pointer (some a) => some a.block
  | .slice (some a) _ _ => some a.block
  | _ => none

def rowK : AO → Nat
  | .row _ k _ => k
  | .var _ => 0

/-- A row of one's own, in a block of O. -/
def ownAt (w : World) (O : Nat → Prop) (e : TypeId) (k : Nat) (v : Value) (n : Nat) (xs : List Value) : Prop := w.ownsRow 0 e k v n xs ∧ ∀ g, obk v = some g → O g

/-- All that was there but the blocks of O is as it was. -/
structure Kept (O : Nat → Prop) (w0 w : World) : Prop where
  os : w.os = w0.os
  tape : w.tape = w0.tape
  output : w.output = w0.output
  size : w0.heap.size ≤ w.heap.size
  block : ∀ b, b < w0.heap.size → ¬ O b → w.heap[b]? = w0.heap[b]?

def AO.rel (w : World) (F : Nat → Prop) (m : Nat → Value) (kk : Nat → Nat) (B0 : Nat → Prop) (l : Nat) : AO → Prop
  | .var cs => ∃ g us t, m l = .pointer (some ⟨g, 0, none⟩) ∧ B0 g ∧ w.heap[g]? = some (.cells us.toArray t (0, 0)) ∧ AV.relL w F m kk cs us ∧ OneAll us
  | .row e k es => ∃ us, ownAt w B0 e k (m l) es.length us ∧ TV.relR w F k es us ∧ OneAll us ∧ 0 < k ∧ kk l = k

/-- Which blocks trees may lead to. -/
def Fc (F0 : Nat → Prop) (B0 : Nat → Prop) (σ : List (Nat × AO)) (m : Nat → Value) (b : Nat) : Prop :=
  (F0 b ∨ B0 b) ∧ ∀ l o, look l σ = some o → obk (m l) ≠ some b

structure Heap (B0 : Nat → Prop) (F0 : Nat → Prop) (w0 : World) (σ : List (Nat × AO)) (m : Nat → Value) (kk : Nat → Nat) (w : World) : Prop where
  base : ∀ g, w0.heap.size ≤ g → B0 g
  below : Kept B0 w0 w
  ob : ∀ l o, look l σ = some o → o.rel w (Fc F0 B0 σ m) m kk B0 l
  dj : ∀ l l' o o', look l σ = some o → look l' σ = some o' → l ≠ l' → obk (m l) = none ∨ obk (m l) ≠ obk (m l')

structure Sim (N : Nat) (B0 : Nat → Prop) (F0 : Nat → Prop) (w0 : World) (s : St) (m : Nat → Value) (kk : Nat → Nat) (a : Act) (w : World) : Prop extends Heap B0 F0 w0 s.σ m kk w where
  fr : ∀ t v, look t s.φ = some v → v.rel w (Fc F0 B0 s.σ m) m kk (a.tmps.getD t undef)
  df : a.defers = []
  sz : a.tmps.size = N

theorem look_cons {α : Type} (t k : Nat) (v : α) (r : List (Nat × α)) : look t ((k, v) :: r) = if t = k then some v else look t r := by
  show cond (Nat.beq t k) _ _ = _
  by_cases h : t = k
  · subst h; simp
  · have : Nat.beq t k = false := by
      cases hb : Nat.beq t k with
      | true => exact absurd (Nat.eq_of_beq_eq_true hb) h
      | false => rfl
    simp [this, h]

/-! ### Type tables -/
def Ty.fits : Ty → TypeDesc → Prop
  | .bool, d => d = .bool
  | .int k, d => d = .int k
  | .string, d => d = .string
  | .ptr, d => ∃ e, d = .pointer e
  | .slice e, d => d = .slice e
  | .array n e, d => d = .array n e
  | .struct fs, d => ∃ a, d = .struct a ∧ fs = a.toList.map (fun f => (f.offset, f.type))
  | .map k e, d => d = .map k e
  | .func, d => ∃ a b c, d = .func a b c
  | .iface, d => ∃ a, d = .interface a

def TOK (P : Program) (T : TyTab) : Prop :=
  ∀ t i, T t = some i → ∃ info d, P.info? t = some info ∧ P.underlying t = some d ∧ i.d.fits d ∧ info.size = i.size ∧ info.bytes = i.bytes ∧
    (∃ z, info.zero = some z ∧ (∀ w F, TV.relL w F i.zero z.cells.toList) ∧ OneAll z.cells.toList ∧ z.cells.size = i.size) ∧
    (∀ fs, i.d = .struct fs → ∀ p ∈ fs, ∃ fi, T p.2 = some fi)

/-- A struct type whose values '==' compares cell by cell. -/
def EqFact (P : Program) (t : TypeId) (ls : List Nat) : Prop :=
  P.eqGuardType P.depth t = false ∧ ∀ (w : World) (F : Nat → Prop) (xs ys : List TV) (us vs : List Value) (r : Bool), TV.relL w F xs us → TV.relL w F ys vs →
    eqCells ls xs ys = some r → (Op.equalIn 10000 t (.agg us.toArray) (.agg vs.toArray)).run P w = .ok r w

structure Ctx (P : Program) (T : TyTab) : Prop where
  tok : TOK P T
  eqk : ∀ t i l ls, T t = some i → i.eqs = l :: ls → EqFact P t (l :: ls)
  mixed : P.follows .mixedOrders = true

section
variable {P : Program} {T : TyTab} {w : World}
theorem TOK.under (h : TOK P T) {t : TypeId} {i : TI} (ht : T t = some i) : ∃ d, i.d.fits d ∧ (underlying t).run P w = .ok d w := by
  obtain ⟨info, d, h1, h2, h3, _⟩ := h t i ht
  exact ⟨d, h3, run_underlying h2 w⟩
theorem TOK.size (h : TOK P T) {t : TypeId} {i : TI} (ht : T t = some i) : (sizeOf t).run P w = .ok i.size w := by
  obtain ⟨info, d, h1, h2, h3, h4, _⟩ := h t i ht
  simp [sizeOf, typeInfo, h1, h4]
theorem fits_agg {d : Ty} {u : TypeDesc} (h : d.fits u) : (match u with | .struct _ | .array _ _ => true | _ => false) = d.agg := by
  cases d <;> simp only [Ty.fits] at h
  case bool => subst h; rfl
  case int => subst h; rfl
  case string => subst h; rfl
  case ptr => obtain ⟨e, rfl⟩ := h; rfl
  case slice => subst h; rfl
  case array => subst h; rfl
  case struct => obtain ⟨a, rfl, _⟩ := h; rfl
  case map => subst h; rfl
  case func => obtain ⟨a, b, c, rfl⟩ := h; rfl
  case iface => obtain ⟨a, rfl⟩ := h; rfl
theorem TOK.agg (h : TOK P T) {t : TypeId} {i : TI} (ht : T t = some i) : (isAgg t).run P w = .ok i.d.agg w := by
  obtain ⟨d, h1, h2⟩ := h.under (w := w) ht
  have := fits_agg h1
  simp only [isAgg, Sem.run_bind, h2, Result.andThen_ok]
  rw [← this]
  cases d <;> rfl
end

/-! ### Lists of related values -/
section
variable {w : World} {F : Nat → Prop} {m : Nat → Value} {kk : Nat → Nat}
theorem TV.relL_length : ∀ {xs : List TV} {us : List Value}, TV.relL w F xs us → us.length = xs.length
  | [], us, h => by simp only [TV.relL] at h; subst h; rfl
  | x :: xs, us, h => by
    simp only [TV.relL] at h
    obtain ⟨u, us', rfl, _, h'⟩ := h
    simp [TV.relL_length h']
theorem AV.relL_length : ∀ {xs : List AV} {us : List Value}, AV.relL w F m kk xs us → us.length = xs.length
  | [], us, h => by simp only [AV.relL] at h; subst h; rfl
  | x :: xs, us, h => by
    simp only [AV.relL] at h
    obtain ⟨u, us', rfl, _, h'⟩ := h
    simp [AV.relL_length h']
theorem TV.relL_drop : ∀ (n : Nat) {xs : List TV} {us : List Value}, TV.relL w F xs us → TV.relL w F (xs.drop n) (us.drop n)
  | 0, xs, us, h => by simpa using h
  | n + 1, [], us, h => by simp only [TV.relL] at h; subst h; simp [TV.relL]
  | n + 1, x :: xs, us, h => by
    simp only [TV.relL] at h
    obtain ⟨u, us', rfl, _, h'⟩ := h
    simpa using TV.relL_drop n h'
theorem TV.relL_take : ∀ (n : Nat) {xs : List TV} {us : List Value}, TV.relL w F xs us → TV.relL w F (xs.take n) (us.take n)
  | 0, xs, us, h => by simp [TV.relL]
  | n + 1, [], us, h => by simp only [TV.relL] at h; subst h; simp [TV.relL]
  | n + 1, x :: xs, us, h => by
    simp only [TV.relL] at h
    obtain ⟨u, us', rfl, h0, h'⟩ := h
    simp only [List.take_succ_cons, TV.relL]
    exact ⟨u, _, rfl, h0, TV.relL_take n h'⟩
theorem AV.relL_drop : ∀ (n : Nat) {xs : List AV} {us : List Value}, AV.relL w F m kk xs us → AV.relL w F m kk (xs.drop n) (us.drop n)
  | 0, xs, us, h => by simpa using h
  | n + 1, [], us, h => by simp only [AV.relL] at h; subst h; simp [AV.relL]
  | n + 1, x :: xs, us, h => by
    simp only [AV.relL] at h
    obtain ⟨u, us', rfl, _, h'⟩ := h
    simpa using AV.relL_drop n h'
theorem AV.relL_take : ∀ (n : Nat) {xs : List AV} {us : List Value}, AV.relL w F m kk xs us → AV.relL w F m kk (xs.take n) (us.take n)
  | 0, xs, us, h => by simp [AV.relL]
  | n + 1, [], us, h => by simp only [AV.relL] at h; subst h; simp [AV.relL]
  | n + 1, x :: xs, us, h => by
    simp only [AV.relL] at h
    obtain ⟨u, us', rfl, h0, h'⟩ := h
    simp only [List.take_succ_cons, AV.relL]
    exact ⟨u, _, rfl, h0, AV.relL_take n h'⟩
theorem AV.relL_append : ∀ {xs ys : List AV} {us vs : List Value}, AV.relL w F m kk xs us → AV.relL w F m kk ys vs → AV.relL w F m kk (xs ++ ys) (us ++ vs)
  | [], ys, us, vs, h, h' => by simp only [AV.relL] at h; subst h; simpa using h'
  | x :: xs, ys, us, vs, h, h' => by
    simp only [AV.relL] at h
    obtain ⟨u, us', rfl, h0, h1⟩ := h
    simp only [List.cons_append, AV.relL]
    exact ⟨u, _, rfl, h0, AV.relL_append h1 h'⟩
theorem TV.relL_append : ∀ {xs ys : List TV} {us vs : List Value}, TV.relL w F xs us → TV.relL w F ys vs → TV.relL w F (xs ++ ys) (us ++ vs)
  | [], ys, us, vs, h, h' => by simp only [TV.relL] at h; subst h; simpa using h'
  | x :: xs, ys, us, vs, h, h' => by
    simp only [TV.relL] at h
    obtain ⟨u, us', rfl, h0, h1⟩ := h
    simp only [List.cons_append, TV.relL]
    exact ⟨u, _, rfl, h0, TV.relL_append h1 h'⟩
theorem relL_map : ∀ {xs : List TV} {us : List Value}, TV.relL w F xs us ↔ AV.relL w F m kk (xs.map .t) us
  | [], us => by simp [TV.relL, AV.relL]
  | x :: xs, us => by simp only [List.map_cons, TV.relL, AV.relL, AV.rel]; simp only [relL_map (xs := xs)]
theorem relL_allT : ∀ {cs : List AV} {us : List Value} {xs : List TV}, AV.relL w F m kk cs us → allT cs = some xs → TV.relL w F xs us
  | [], us, xs, h, e => by simp only [allT] at e; injection e with e; subst e; simpa [TV.relL, AV.relL] using h
  | c :: cs, us, xs, h, e => by
    cases c <;> simp only [allT] at e <;> try (cases e; done)
    rename_i x
    split at e
    · rename_i ys hy
      injection e with e; subst e
      simp only [AV.relL, AV.rel] at h
      obtain ⟨u, us', rfl, h0, h1⟩ := h
      simp only [TV.relL]
      exact ⟨u, us', rfl, h0, relL_allT h1 hy⟩
    · cases e
theorem rel_mkAgg {cs : List AV} {us : List Value} (h : AV.relL w F m kk cs us) (h1 : OneAll us) : (mkAgg cs).rel w F m kk (.agg us.toArray) := by
  unfold mkAgg
  split
  · rename_i xs hx
    simp only [AV.rel, TV.rel]
    exact ⟨us, rfl, relL_allT h hx, h1⟩
  · simp only [AV.rel]; exact ⟨us, rfl, h, h1⟩
theorem rel_mkTup {cs : List AV} {us : List Value} (h : AV.relL w F m kk cs us) : (mkTup cs).rel w F m kk (.tuple us.toArray) := by
  unfold mkTup
  split
  · rename_i xs hx
    simp only [AV.rel, TV.rel]
    exact ⟨us, rfl, relL_allT h hx⟩
  · simp only [AV.rel]; exact ⟨us, rfl, h⟩
theorem TV.relL_nth : ∀ {n : Nat} {xs : List TV} {us : List Value} {x : TV}, TV.relL w F xs us → nth xs n = some x → ∃ u, us[n]? = some u ∧ x.rel w F u
  | _, [], us, x, h, e => by simp [nth] at e
  | 0, y :: xs, us, x, h, e => by
    simp only [nth] at e; injection e with e; subst e
    simp only [TV.relL] at h
    obtain ⟨u, us', rfl, h0, _⟩ := h
    exact ⟨u, rfl, h0⟩
  | n + 1, y :: xs, us, x, h, e => by
    simp only [nth] at e
    simp only [TV.relL] at h
    obtain ⟨u, us', rfl, _, h1⟩ := h
    obtain ⟨u', h2, h3⟩ := TV.relL_nth h1 e
    exact ⟨u', by simpa using h2, h3⟩
theorem AV.relL_nth : ∀ {n : Nat} {xs : List AV} {us : List Value} {x : AV}, AV.relL w F m kk xs us → nth xs n = some x → ∃ u, us[n]? = some u ∧ x.rel w F m kk u
  | _, [], us, x, h, e => by simp [nth] at e
  | 0, y :: xs, us, x, h, e => by
    simp only [nth] at e; injection e with e; subst e
    simp only [AV.relL] at h
    obtain ⟨u, us', rfl, h0, _⟩ := h
    exact ⟨u, rfl, h0⟩
  | n + 1, y :: xs, us, x, h, e => by
    simp only [nth] at e
    simp only [AV.relL] at h
    obtain ⟨u, us', rfl, _, h1⟩ := h
    obtain ⟨u', h2, h3⟩ := AV.relL_nth h1 e
    exact ⟨u', by simpa using h2, h3⟩
theorem TV.relR_get {k : Nat} : ∀ {n : Nat} {es : List (List TV)} {us : List Value} {c : List TV}, TV.relR w F k es us → es[n]? = some c →
    c.length = k ∧ TV.relL w F c ((us.drop (n * k)).take k)
  | _, [], us, c, h, e => by simp at e
  | 0, y :: xs, us, c, h, e => by
    simp at e; subst e
    simp only [TV.relR] at h
    obtain ⟨u1, u2, rfl, hk, h0, _⟩ := h
    have := TV.relL_length h0
    subst hk
    refine ⟨rfl, ?_⟩
    simp only [Nat.zero_mul, List.drop_zero]
    rw [← this, List.take_left]; exact h0
  | n + 1, y :: xs, us, c, h, e => by
    simp only [TV.relR] at h
    obtain ⟨u1, u2, rfl, hk, h0, h1⟩ := h
    have hl := TV.relL_length h0
    obtain ⟨h2, h3⟩ := TV.relR_get h1 (by simpa using e)
    refine ⟨h2, ?_⟩
    have : (n + 1) * k = u1.length + n * k := by rw [hl, hk, Nat.add_mul]; omega
    rw [this, ← List.drop_drop, List.drop_left]
    exact h3
theorem TV.relR_length {k : Nat} : ∀ {es : List (List TV)} {us : List Value}, TV.relR w F k es us → us.length = es.length * k
  | [], us, h => by simp only [TV.relR] at h; subst h; simp
  | y :: xs, us, h => by
    simp only [TV.relR] at h
    obtain ⟨u1, u2, rfl, hk, h0, h1⟩ := h
    have hl := TV.relL_length h0
    have := TV.relR_length h1
    simp [hl, hk, this, Nat.add_mul]; omega
theorem TV.relR_append {k : Nat} : ∀ {xs ys : List (List TV)} {us vs : List Value}, TV.relR w F k xs us → TV.relR w F k ys vs → TV.relR w F k (xs ++ ys) (us ++ vs)
  | [], ys, us, vs, h, h' => by simp only [TV.relR] at h; subst h; simpa using h'
  | x :: xs, ys, us, vs, h, h' => by
    simp only [TV.relR] at h
    obtain ⟨u1, u2, rfl, hk, h0, h1⟩ := h
    simp only [List.cons_append, TV.relR]
    exact ⟨u1, u2 ++ vs, by simp, hk, h0, TV.relR_append h1 h'⟩
theorem rel_cellsOf {x : AV} {y : Value} {cs : List AV} (h : x.rel w F m kk y) (hx : cellsOf x = some cs) : AV.relL w F m kk cs y.cells.toList ∧ OneAll y.cells.toList := by
  cases x with
  | t x =>
    cases x with
    | agg xs =>
      simp only [AV.rel, TV.rel] at h
      obtain ⟨us, rfl, h1, h2⟩ := h
      simp only [cellsOf, Option.some.injEq] at hx; subst hx
      exact ⟨by simpa [Value.cells] using relL_map.1 h1, by simpa [Value.cells] using h2⟩
    | tup vs => simp [cellsOf] at hx
    | v x =>
      have h' := h
      simp only [AV.rel, TV.rel] at h
      obtain ⟨rfl, hs⟩ := h
      cases y <;> simp [scal] at hs <;> exact ⟨by simp only [cellsOf, Option.some.injEq] at hx; subst hx; simp only [Value.cells, AV.relL]; exact ⟨_, _, rfl, h', rfl⟩, by simp [OneAll, Value.cells, Value.oneCell']⟩
    | sl k es =>
      have h' := h
      simp only [AV.rel, TV.rel] at h
      obtain ⟨A, c, us, rfl, _⟩ := h
      exact ⟨by simp only [cellsOf, Option.some.injEq] at hx; subst hx; simp only [Value.cells, AV.relL]; exact ⟨_, _, rfl, h', rfl⟩, by simp [OneAll, Value.cells, Value.oneCell']⟩
    | ptr cs =>
      have h' := h
      simp only [AV.rel, TV.rel] at h
      obtain ⟨a, us, rfl, _⟩ := h
      exact ⟨by simp only [cellsOf, Option.some.injEq] at hx; subst hx; simp only [Value.cells, AV.relL]; exact ⟨_, _, rfl, h', rfl⟩, by simp [OneAll, Value.cells, Value.oneCell']⟩
    | fn f caps =>
      have h' := h
      simp only [AV.rel, TV.rel] at h
      obtain ⟨us, rfl, _⟩ := h
      exact ⟨by simp only [cellsOf, Option.some.injEq] at hx; subst hx; simp only [Value.cells, AV.relL]; exact ⟨_, _, rfl, h', rfl⟩, by simp [OneAll, Value.cells, Value.oneCell']⟩
    | iface t x =>
      have h' := h
      simp only [AV.rel, TV.rel] at h
      obtain ⟨us, rfl, _⟩ := h
      exact ⟨by simp only [cellsOf, Option.some.injEq] at hx; subst hx; simp only [Value.cells, AV.relL]; exact ⟨_, _, rfl, h', rfl⟩, by simp [OneAll, Value.cells, Value.oneCell']⟩
  | ptr l off =>
    have h' := h
    simp only [AV.rel] at h
    obtain ⟨g, _, rfl⟩ := h
    exact ⟨by simp only [cellsOf, Option.some.injEq] at hx; subst hx; simp only [Value.cells, AV.relL]; exact ⟨_, _, rfl, h', rfl⟩, by simp [OneAll, Value.cells, Value.oneCell']⟩
  | rp l i j =>
    have h' := h
    simp only [AV.rel] at h
    obtain ⟨g, n, c, _, rfl⟩ := h
    exact ⟨by simp only [cellsOf, Option.some.injEq] at hx; subst hx; simp only [Value.cells, AV.relL]; exact ⟨_, _, rfl, h', rfl⟩, by simp [OneAll, Value.cells, Value.oneCell']⟩
  | sl l =>
    have h' := h
    simp only [AV.rel] at h
    obtain ⟨rfl, A, n, c, hm⟩ := h
    rw [hm] at h' ⊢
    exact ⟨by simp only [cellsOf, Option.some.injEq] at hx; subst hx; simp only [Value.cells, AV.relL]; exact ⟨_, _, rfl, h', rfl⟩, by simp [OneAll, Value.cells, Value.oneCell']⟩
  | sb l i n =>
    have h' := h
    simp only [AV.rel] at h
    obtain ⟨A, c, rfl⟩ : ∃ A c, y = .slice A n c := by
      rcases h with ⟨g, N, c, _, _, hy, _⟩ | ⟨_, hy, _, hn⟩
      · exact ⟨_, _, hy⟩
      · exact ⟨none, 0, by rw [hy, hn]⟩
    exact ⟨by simp only [cellsOf, Option.some.injEq] at hx; subst hx; simp only [Value.cells, AV.relL]; exact ⟨_, _, rfl, h', rfl⟩, by simp [OneAll, Value.cells, Value.oneCell']⟩
  | agg cs =>
    simp only [AV.rel] at h
    obtain ⟨us, rfl, h1, h2⟩ := h
    simp only [cellsOf, Option.some.injEq] at hx; subst hx
    exact ⟨by simpa [Value.cells] using h1, by simpa [Value.cells] using h2⟩
  | tup vs => simp [cellsOf] at hx
  | fn f caps =>
    have h' := h
    simp only [AV.rel] at h
    obtain ⟨us, rfl, _⟩ := h
    exact ⟨by simp only [cellsOf, Option.some.injEq] at hx; subst hx; simp only [Value.cells, AV.relL]; exact ⟨_, _, rfl, h', rfl⟩, by simp [OneAll, Value.cells, Value.oneCell']⟩
  | junk => simp [cellsOf] at hx
end
end Go.Proofs.Ytpakohboamfmjab.Pl
