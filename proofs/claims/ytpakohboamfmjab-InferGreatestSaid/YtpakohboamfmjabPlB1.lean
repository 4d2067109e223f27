/- Functions of the library 'slices', of numbers and of checks: what each answers. -/
import Derived.Test.YtpakohboamfmjabProg
import Derived.Test.YtpakohboamfmjabPlLib
namespace Go.Proofs.Ytpakohboamfmjab
open Go.Proofs.Ytpakohboamfmjab.Pl
def tabL : List (Nat × TI) := [
(3, { d := .int .i64, size := 1, bytes := 8, zero := [.v (.int .i64 0)] }),
(4, { d := .bool, size := 1, bytes := 1, zero := [.v (.bool false)] }),
(22, { d := .slice 25, size := 1, bytes := 24, zero := [.v (.slice none 0 0)] }),
(23, { d := .slice 3, size := 1, bytes := 24, zero := [.v (.slice none 0 0)] }),
(25, { d := .struct [(0, 3), (1, 23)], size := 2, bytes := 32, zero := [.v (.int .i64 0), .v (.slice none 0 0)] }),
(27, { d := .int .i64, size := 1, bytes := 8, zero := [.v (.int .i64 0)] }),
(31, { d := .slice 42, size := 1, bytes := 24, zero := [.v (.slice none 0 0)] }),
(33, { d := .slice 23, size := 1, bytes := 24, zero := [.v (.slice none 0 0)] }),
(40, { d := .struct [(0, 3), (1, 3), (2, 4), (3, 4), (4, 4)], size := 5, bytes := 24, zero := [.v (.int .i64 0), .v (.int .i64 0), .v (.bool false), .v (.bool false), .v (.bool false)], eqs := [0, 0, 1, 1, 1] }),
(42, { d := .struct [(0, 3), (1, 23)], size := 2, bytes := 32, zero := [.v (.int .i64 0), .v (.slice none 0 0)] }),
(43, { d := .func, size := 1, bytes := 8, zero := [.v .nilFunc] })]
-- 3 4 23 25 22 43 33 27 40 - 31 42
def tab : TyTab := fun t => Pl.look t tabL
theorem tok : TOK Try.prog tab := tok_of (by kernel_rfl)
theorem ctx : Ctx Try.prog tab := ctx_of (l := tabL) (by kernel_rfl) (by kernel_rfl) (by kernel_rfl)
set_option maxRecDepth 10000

structure Nd where
  for_ : Int
  needs : List Int
def cN (x : Nd) : List TV := [.v (.int .i64 x.for_), encI x.needs]
def encN (l : List Nd) : TV := .sl 2 (l.map cN)
def tN (x : Nd) : TV := .agg (cN x)
def tI (n : Int) : TV := .v (.int .i64 n)
def tB (b : Bool) : TV := .v (.bool b)

theorem indexFuncI_ent : Ent Try.prog 27 := fun a w => Try.call27 a w
theorem indexFuncI (l : List Int) (g : FuncId) (caps : List TV) (p : Int → Bool) (hg : Ent Try.prog g) (hp : ∀ n ∈ l, PC Try.prog g (tI n :: caps) (tB (p n))) :
    PC Try.prog 27 [encI l, .fn g caps] (tI (idxI p l)) := by
  refine PC.have (fun w F us h => sl_len0 h) fun hlen => ?_
  have hlen : l.length ≤ maxLen := by simpa using hlen
  refine PC.of_ok tok Try.func27 rfl (Nat.le_of_ble_eq_true rfl) (ev_sound ctx (own := []) _ _ _ ?_)
  refine Ok.loop (st := fun i : Nat => ⟨[(8, vi i), (7, vi l.length), (1, .t (.fn g caps)), (0, .t (encI l))], []⟩) (R := fun i => i ≤ l.length ∧ ∀ j (hj : j < l.length), j < i → p l[j] = false)
    (μ := fun i => l.length - i) 0 (Wk.sub ⟨rfl, slotI (by simp), rfl, rfl, trivial⟩ trivial) ⟨Nat.zero_le _, fun j _ h => absurd h (Nat.not_lt_zero j)⟩ ?_
  rintro i ⟨hi, hno⟩
  refine ev_sound ctx (own := []) _ _ _ ?_
  refine ⟨fun h => ?_, fun h => ?_⟩
  · have hlt := ltOf h
    refine ⟨_, getM hlt, ?_⟩
    refine ⟨hg, .inl ⟨_, hp _ (List.getElem_mem hlt), ?_⟩⟩
    refine ⟨fun h2 => toEq ?_, fun h2 => ?_⟩
    · rw [idxI_some hlt h2 hno]; rfl
    · exact ⟨trivial, i + 1, Wk.sub ⟨slotI (wr1 hlt hlen), rfl, rfl, rfl, trivial⟩ trivial, ⟨hlt, noHit hlt hno h2⟩, dec hlt⟩
  · have hge := geOf h
    refine toEq ?_
    rw [idxI_none fun j hj => hno j hj (by omega)]; rfl
theorem indexFuncN_ent : Ent Try.prog 28 := fun a w => Try.call28 a w
theorem indexFuncN (l : List Nd) (g : FuncId) (caps : List TV) (p : Nd → Bool) (hg : Ent Try.prog g) (hp : ∀ n ∈ l, PC Try.prog g (tN n :: caps) (tB (p n))) :
    PC Try.prog 28 [encN l, .fn g caps] (tI (idxI p l)) := by
  refine PC.have (fun w F us h => sl_len0 h) fun hlen => ?_
  have hlen : l.length ≤ maxLen := by simpa using hlen
  refine PC.of_ok tok Try.func28 rfl (Nat.le_of_ble_eq_true rfl) (ev_sound ctx (own := []) _ _ _ ?_)
  refine Ok.loop (st := fun i : Nat => ⟨[(8, vi i), (7, vi l.length), (1, .t (.fn g caps)), (0, .t (encN l))], []⟩) (R := fun i => i ≤ l.length ∧ ∀ j (hj : j < l.length), j < i → p l[j] = false)
    (μ := fun i => l.length - i) 0 (Wk.sub ⟨rfl, slotI (by simp), rfl, rfl, trivial⟩ trivial) ⟨Nat.zero_le _, fun j _ h => absurd h (Nat.not_lt_zero j)⟩ ?_
  rintro i ⟨hi, hno⟩
  refine ev_sound ctx (own := []) _ _ _ ?_
  refine ⟨fun h => ?_, fun h => ?_⟩
  · have hlt := ltOf h
    refine ⟨_, getM hlt, ?_⟩
    refine ⟨hg, .inl ⟨_, hp _ (List.getElem_mem hlt), ?_⟩⟩
    refine ⟨fun h2 => toEq ?_, fun h2 => ?_⟩
    · rw [idxI_some hlt h2 hno]; rfl
    · exact ⟨trivial, i + 1, Wk.sub ⟨slotI (wr1 hlt hlen), rfl, rfl, rfl, trivial⟩ trivial, ⟨hlt, noHit hlt hno h2⟩, dec hlt⟩
  · have hge := geOf h
    refine toEq ?_
    rw [idxI_none fun j hj => hno j hj (by omega)]; rfl

theorem containsFuncI_ent : Ent Try.prog 15 := fun a w => Try.call15 a w
theorem containsFuncI (l : List Int) (g : FuncId) (caps : List TV) (p : Int → Bool) (hg : Ent Try.prog g) (hp : ∀ n ∈ l, PC Try.prog g (tI n :: caps) (tB (p n))) :
    PC Try.prog 15 [encI l, .fn g caps] (tB (l.any p)) := by
  refine PC.of_ok tok Try.func15 rfl (Nat.le_of_ble_eq_true rfl) (ev_sound ctx (own := []) _ _ _ ?_)
  refine ⟨indexFuncI_ent, .inl ⟨_, indexFuncI l g caps p hg hp, ?_⟩⟩
  refine toEq ?_
  rw [← idxI_geq]; rfl

theorem containsFuncN_ent : Ent Try.prog 17 := fun a w => Try.call17 a w
theorem containsFuncN (l : List Nd) (g : FuncId) (caps : List TV) (p : Nd → Bool) (hg : Ent Try.prog g) (hp : ∀ n ∈ l, PC Try.prog g (tN n :: caps) (tB (p n))) :
    PC Try.prog 17 [encN l, .fn g caps] (tB (l.any p)) := by
  refine PC.of_ok tok Try.func17 rfl (Nat.le_of_ble_eq_true rfl) (ev_sound ctx (own := []) _ _ _ ?_)
  refine ⟨indexFuncN_ent, .inl ⟨_, indexFuncN l g caps p hg hp, ?_⟩⟩
  refine toEq ?_
  rw [← idxI_geq]; rfl

theorem indexI_ent : Ent Try.prog 29 := fun a w => Try.call29 a w
theorem indexI (l : List Int) (v : Int) : PC Try.prog 29 [encI l, tI v] (tI (idxI (fun x => v == x) l)) := by
  refine PC.have (fun w F us h => sl_len0 h) fun hlen => ?_
  have hlen : l.length ≤ maxLen := by simpa using hlen
  refine PC.of_ok tok Try.func29 rfl (Nat.le_of_ble_eq_true rfl) (ev_sound ctx (own := []) _ _ _ ?_)
  refine Ok.loop (st := fun i : Nat => ⟨[(8, vi i), (7, vi l.length), (1, .t (tI v)), (0, .t (encI l))], []⟩) (R := fun i => i ≤ l.length ∧ ∀ j (hj : j < l.length), j < i → (v == l[j]) = false)
    (μ := fun i => l.length - i) 0 (Wk.sub ⟨rfl, slotI (by simp), rfl, rfl, trivial⟩ trivial) ⟨Nat.zero_le _, fun j _ h => absurd h (Nat.not_lt_zero j)⟩ ?_
  rintro i ⟨hi, hno⟩
  refine ev_sound ctx (own := []) _ _ _ ?_
  refine ⟨fun h => ?_, fun h => ?_⟩
  · have hlt := ltOf h
    refine ⟨_, getM hlt, ?_⟩
    refine ⟨fun h2 => toEq ?_, fun h2 => ?_⟩
    · rw [idxI_some (p := fun x => v == x) hlt h2 hno]; rfl
    · exact ⟨trivial, i + 1, Wk.sub ⟨slotI (wr1 hlt hlen), rfl, rfl, rfl, trivial⟩ trivial, ⟨hlt, noHit (p := fun x => v == x) hlt hno h2⟩, dec hlt⟩
  · have hge := geOf h
    refine toEq ?_
    rw [idxI_none (p := fun x => v == x) fun j hj => hno j hj (by omega)]; rfl
theorem containsI_ent : Ent Try.prog 23 := fun a w => Try.call23 a w
theorem containsI (l : List Int) (v : Int) : PC Try.prog 23 [encI l, tI v] (tB (l.any fun x => v == x)) := by
  refine PC.of_ok tok Try.func23 rfl (Nat.le_of_ble_eq_true rfl) (ev_sound ctx (own := []) _ _ _ ?_)
  refine ⟨indexI_ent, .inl ⟨_, indexI l v, ?_⟩⟩
  refine toEq ?_
  rw [← idxI_geq]; rfl

theorem clone_ent : Ent Try.prog 19 := fun a w => Try.call19 a w
/-- A copy: of nothing perhaps nothing. -/
theorem clone_spec (l : List Int) (h : l ≠ []) (hl : l.length ≤ 1000) : OC Try.prog 19 [encI l] 3 1 (l.map cI) := by
  refine OC.of_ok Try.func19 rfl (Nat.le_of_ble_eq_true rfl) (ev_sound ctx (own := [5]) _ _ _ ?_)
  refine fun b hb => ⟨fun h2 => ?_, fun h2 => ?_⟩
  · exact absurd (hb h2) (by simpa using h)
  · refine ⟨?_, ?_, ?_⟩
    · simp; omega
    · simp [maxLen]; omega
    · exact ⟨rfl, rfl, rfl⟩
theorem clone_nil : PC Try.prog 19 [encI []] (encI []) := by
  refine PC.of_okL tok Try.func19 rfl (Nat.le_of_ble_eq_true rfl) (ev_sound ctx (own := [5]) _ _ _ ?_)
  refine fun b hb => ⟨fun h2 => ?_, fun h2 => ?_⟩
  · exact TV.nil_le 1 (by decide)
  · exact ⟨by simp, by simp [maxLen], TV.le_refl _⟩

/-- What 'DeleteFunc' keeps while it goes: i places are laid, j are looked at. -/
structure Kp (p : Int → Bool) (l : List Int) (i j : Nat) (d : List Int) : Prop where
  lt : i < j
  le : j ≤ l.length
  len : d.length = l.length
  low : d.take i = (l.take j).filter fun n => !p n
  high : d.drop j = l.drop j
theorem Kp.get {p : Int → Bool} {l : List Int} {i j : Nat} {d : List Int} (h : Kp p l i j d) (hj : j < l.length) : d[j]? = some l[j] := by
  have := congrArg (fun x => x[0]?) h.high
  simpa [hj] using this
theorem Kp.step {p : Int → Bool} {l : List Int} {i j : Nat} {d : List Int} (h : Kp p l i j d) (hj : j < l.length) (hp : p l[j] = true) : Kp p l i (j + 1) d := by
  refine ⟨by have := h.lt; omega, hj, h.len, ?_, ?_⟩
  · rw [h.low, List.take_succ_eq_append_getElem hj, List.filter_append]; simp [hp]
  · have := congrArg (List.drop 1) h.high
    simpa [List.drop_drop] using this
theorem Kp.keep {p : Int → Bool} {l : List Int} {i j : Nat} {d : List Int} (h : Kp p l i j d) (hj : j < l.length) (hp : p l[j] = false) : Kp p l (i + 1) (j + 1) (d.set i l[j]) := by
  have hlt := h.lt
  have hlen := h.len
  refine ⟨by omega, hj, by simp [hlen], ?_, ?_⟩
  · rw [List.take_succ_eq_append_getElem (by simp; omega), List.take_succ_eq_append_getElem hj, List.filter_append]
    simp [hp, List.take_set_of_le, h.low]
  · rw [List.drop_set_of_lt (by omega)]
    have := congrArg (List.drop 1) h.high
    simpa [List.drop_drop] using this
theorem filter_all {p : Int → Bool} {l : List Int} (h : ∀ x ∈ l, p x = false) : (l.filter fun n => !p n) = l := by
  rw [List.filter_eq_self]; intro x hx; simp [h x hx]

theorem map_set (d : List Int) (i : Nat) (v : Int) : (d.map cI).set i (cI v) = (d.set i v).map cI := by rw [List.map_set]
theorem deleteFunc_ent : Ent Try.prog 18 := fun a w => Try.call18 a w
theorem deleteFunc_spec (l : List Int) (g : FuncId) (caps : List TV) (p : Int → Bool) (hg : Ent Try.prog g) (hp : ∀ n ∈ l, PC Try.prog g (tI n :: caps) (tB (p n))) :
    IC Try.prog 18 3 1 (l.map cI) [.fn g caps] ((l.filter fun n => !p n).map cI) := by
  refine IC.have fun hlen => ?_
  have hlen : l.length ≤ maxLen := by simpa using hlen
  refine IC.of_ok Try.func18 rfl (Nat.le_of_ble_eq_true rfl) (ev_sound ctx (own := []) _ _ _ ?_)
  refine .inl ⟨indexFuncI_ent, .inl ⟨_, indexFuncI l g caps p hg hp, ?_⟩⟩
  refine ⟨fun h => ?_, fun h => ?_⟩
  · refine ⟨rfl, rfl, ?_⟩
    have h : (idxI p l == -1) = true := h
    rw [filter_all]
    intro x hx
    have := idxI_geq p l
    rw [eq_of_beq h] at this
    have h2 : l.any p = false := this.symm
    rw [List.any_eq_false] at h2
    simpa using h2 x hx
  · have h : (idxI p l == -1) = false := h
    obtain ⟨i0, hi0, hidx, hpi, hno⟩ : ∃ i, ∃ hi : i < l.length, idxI p l = i ∧ p l[i] = true ∧ ∀ j (hj : j < l.length), j < i → p l[j] = false := by
      cases hf : l.findIdx? p with
      | none => simp [idxI, hf] at h
      | some i =>
        rw [List.findIdx?_eq_some_iff_getElem] at hf
        obtain ⟨hi, h1, h2⟩ := hf
        exact ⟨i, hi, by simp [idxI, List.findIdx?_eq_some_iff_getElem.2 ⟨hi, h1, h2⟩], h1, fun j hj hlt => by simpa using h2 j hlt⟩
    have K0 : Kp p l i0 (i0 + 1) l := by
      refine ⟨by omega, hi0, rfl, ?_, rfl⟩
      rw [List.take_succ_eq_append_getElem hi0, List.filter_append]
      rw [filter_all (l := l.take i0)]
      · simp [hpi]
      · intro x hx
        obtain ⟨j, hj, rfl⟩ := List.mem_iff_getElem.1 hx
        have hj' : j < i0 ∧ j < l.length := by simp only [List.length_take] at hj; omega
        simp only [List.getElem_take]
        exact hno j hj'.2 hj'.1
    refine ⟨trivial, ?_⟩
    refine Ok.loop (st := fun x : Nat × Nat × List Int => ⟨[(6, vi x.2.1), (5, vi x.1), (1, .t (.fn g caps)), (0, .sl 0)], [(0, .row 3 1 (x.2.2.map cI))]⟩) (R := fun x => Kp p l x.1 x.2.1 x.2.2)
      (μ := fun x => l.length - x.2.1) (i0, i0 + 1, l) (Wk.sub ⟨slotI (by rw [hidx]; exact wr1 hi0 hlen), slotI hidx, rfl, rfl, trivial⟩ ⟨rfl, trivial⟩) K0 ?_
    rintro ⟨i, j, d⟩ H
    have H : Kp p l i j d := H
    refine ev_sound ctx (own := []) _ _ _ ?_
    refine ⟨fun h => ?_, fun h => ?_⟩
    · have hlt : j < l.length := by have := ltOf h; simpa [H.len] using this
      have hij := H.lt
      have hdl := H.len
      refine ⟨⟨by omega, by simp; omega⟩, cI l[j], by simp [H.get hlt], ?_⟩
      refine ⟨hg, .inl ⟨_, hp _ (List.getElem_mem hlt), ?_⟩⟩
      refine ⟨fun h2 => ?_, fun h2 => ?_⟩
      · have h2 : (!p l[j]) = true := h2
        have h2 : p l[j] = false := by simpa using h2
        refine ⟨⟨by omega, by simp; omega⟩, cI (d[i]'(by omega)), (getM (l := d) (by omega)).2, ?_⟩
        exact ⟨trivial, trivial, (i + 1, j + 1, d.set i l[j]), Wk.sub ⟨slotI (wr1 hlt hlen), slotI (wr1 (n := l.length) (by omega) hlen), rfl, rfl, trivial⟩ ⟨congrArg (fun x => some (AO.row 3 1 x)) (map_set d i l[j]), trivial⟩, H.keep hlt h2, dec hlt⟩
      · have h2 : (!p l[j]) = false := h2
        have h2 : p l[j] = true := by simpa using h2
        exact ⟨trivial, (i, j + 1, d), Wk.sub ⟨slotI (wr1 hlt hlen), rfl, rfl, rfl, trivial⟩ ⟨rfl, trivial⟩, H.step hlt h2, dec hlt⟩
    · have hge : l.length ≤ j := by have := geOf h; simpa [H.len] using this
      have hij := H.lt
      have hdl := H.len
      have hjl := H.le
      refine ⟨⟨by omega, by simp; omega, by simp⟩, ⟨by omega, by omega, by simp; omega⟩, rfl, rfl, ?_⟩
      have := H.low
      rw [List.take_of_length_le (by omega : l.length ≤ j)] at this
      rw [← this]
      have hil : i ≤ d.length := by omega
      simp only [List.length_map, Int.toNat_natCast, Nat.zero_add]
      rw [List.append_assoc, List.take_append_of_le_length (by simp; omega), List.take_take, show min (i - Int.toNat 0) i = i from Nat.min_self i, List.map_take]
end Go.Proofs.Ytpakohboamfmjab
