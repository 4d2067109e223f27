/- 'infer.Rounds' and 'infer.Greatest': what they answer. -/
import Derived.Test.YtpakohboamfmjabPlB1
namespace Go.Proofs.Ytpakohboamfmjab
open Go.Proofs.Ytpakohboamfmjab.Pl
set_option maxRecDepth 10000

/-! ### In plain terms -/
def inn (n i : Int) : Bool := decide (i ≥ 0) && decide (i < n)
def bad (n : Int) (x : Nd) : Bool := !inn n x.for_ || x.needs.any fun i => !inn n i
def misses (set : List Int) (i : Int) : Bool := !(set.any fun x => i == x)
def drops1 (set : List Int) (c : Int) (x : Nd) : Bool := x.for_ == c && x.needs.any (misses set)
def drops (l : List Nd) (set : List Int) (c : Int) : Bool := l.any (drops1 set c)
def nextOf (l : List Nd) (set : List Int) : List Int := set.filter fun c => !drops l set c
theorem nextOf_le (l : List Nd) (set : List Int) : (nextOf l set).length ≤ set.length := List.length_filter_le _ _
def tailOf (l : List Nd) (set : List Int) : List (List Int) :=
  if _h : (nextOf l set).length = set.length then [] else nextOf l set :: tailOf l (nextOf l set)
termination_by set.length
decreasing_by have := nextOf_le l set; omega
def iota (n : Nat) : List Int := (List.range n).map fun i : Nat => (i : Int)
def wrong (n : Int) (l : List Nd) : Bool := decide (n < 0) || decide (n > 100) || decide ((l.length : Int) > 500) || l.any (bad n)
def rounds (n : Int) (l : List Nd) : List (List Int) × Int := if wrong n l then ([], 1) else (iota n.toNat :: tailOf l (iota n.toNat), 0)
def greatest (n : Int) (l : List Nd) : List Int × Int := ((rounds n l).1.getLastD [], (rounds n l).2)
theorem iota_succ (n : Nat) : iota (n + 1) = iota n ++ [(n : Int)] := by simp [iota, List.range_succ]
theorem iota_len (n : Nat) : (iota n).length = n := by simp [iota]

def cII (l : List Int) : List TV := [encI l]
def encII (l : List (List Int)) : TV := .sl 1 (l.map cII)

/-! ### The closures -/
theorem f1_ent : Ent Try.prog 13 := fun a w => Try.call13 a w
theorem f1_spec (n i : Int) : PC Try.prog 13 [tI i, .ptr [tI n]] (tB (inn n i)) := by
  refine PC.of_ok tok Try.func13 rfl (Nat.le_of_ble_eq_true rfl) (ev_sound ctx (own := []) _ _ _ ?_)
  exact rfl
def inT (n : Int) : TV := .ptr [.fn 13 [.ptr [tI n]]]
theorem f21_ent : Ent Try.prog 16 := fun a w => Try.call16 a w
theorem f21_spec (n i : Int) : PC Try.prog 16 [tI i, inT n] (tB (!inn n i)) := by
  refine PC.of_ok tok Try.func16 rfl (Nat.le_of_ble_eq_true rfl) (ev_sound ctx (own := []) _ _ _ ?_)
  exact ⟨f1_ent, .inl ⟨_, f1_spec n i, rfl⟩⟩
theorem f2_ent : Ent Try.prog 14 := fun a w => Try.call14 a w
theorem f2_spec (n : Int) (x : Nd) : PC Try.prog 14 [tN x, inT n] (tB (bad n x)) := by
  refine PC.of_ok tok Try.func14 rfl (Nat.le_of_ble_eq_true rfl) (ev_sound ctx (own := []) _ _ _ ?_)
  refine ⟨f1_ent, .inl ⟨_, f1_spec n x.for_, ?_⟩⟩
  exact ⟨containsFuncI_ent, _, fun _ => containsFuncI x.needs 16 [inT n] (fun i => !inn n i) f21_ent (fun i _ => f21_spec n i), rfl⟩
theorem f311_ent : Ent Try.prog 22 := fun a w => Try.call22 a w
theorem f311_spec (set : List Int) (i : Int) : PC Try.prog 22 [tI i, .ptr [encI set]] (tB (misses set i)) := by
  refine PC.of_ok tok Try.func22 rfl (Nat.le_of_ble_eq_true rfl) (ev_sound ctx (own := []) _ _ _ ?_)
  exact ⟨containsI_ent, .inl ⟨_, containsI set i, rfl⟩⟩
theorem f31_ent : Ent Try.prog 21 := fun a w => Try.call21 a w
theorem f31_spec (set : List Int) (c : Int) (x : Nd) : PC Try.prog 21 [tN x, .ptr [tI c], .ptr [encI set]] (tB (drops1 set c x)) := by
  refine PC.of_ok tok Try.func21 rfl (Nat.le_of_ble_eq_true rfl) (ev_sound ctx (own := []) _ _ _ ?_)
  exact ⟨containsFuncI_ent, _, fun _ => containsFuncI x.needs 22 [.ptr [encI set]] (misses set) f311_ent (fun i _ => f311_spec set i), rfl⟩
theorem f3_ent : Ent Try.prog 20 := fun a w => Try.call20 a w
theorem f3_spec (l : List Nd) (set : List Int) (c : Int) : PC Try.prog 20 [tI c, .ptr [encN l], .ptr [encI set]] (tB (drops l set c)) := by
  refine PC.of_ok tok Try.func20 rfl (Nat.le_of_ble_eq_true rfl) (ev_sound ctx (own := []) _ _ _ ?_)
  exact ⟨containsFuncN_ent, .inl ⟨_, containsFuncN l 21 [.ptr [tI c], .ptr [encI set]] (drops1 set c) f31_ent (fun x _ => f31_spec set c x), rfl⟩⟩

theorem deleteFunc_nil (g : FuncId) (caps : List TV) (hg : Ent Try.prog g) : PC Try.prog 18 [encI [], .fn g caps] (encI []) := by
  refine PC.of_ok tok Try.func18 rfl (Nat.le_of_ble_eq_true rfl) (ev_sound ctx (own := []) _ _ _ ?_)
  refine ⟨indexFuncI_ent, .inl ⟨_, indexFuncI [] g caps (fun _ => true) hg (fun n h => by simp at h), ?_⟩⟩
  exact ⟨fun _ => rfl, fun h => by cases h⟩

/-! ### Rounds -/
def st1 (n : Int) (l : List Nd) (i : Nat) : St :=
  ⟨[(31, vi i), (30, vi n), (8, .ptr 8 0), (3, .ptr 3 0), (2, .ptr 2 0)], [(8, .var [.sl 37]), (37, .row 3 1 ((iota i).map cI)), (3, .var [.t (encN l)]), (2, .var [.t (tI n)])]⟩
def st2 (n : Int) (l : List Nd) (x : List (List Int) × List Int) : St :=
  ⟨[(10, .sl 40), (8, .ptr 8 0), (3, .ptr 3 0), (2, .ptr 2 0)], [(40, .row 23 1 (x.1.map cII)), (8, .var [.t (encI x.2)]), (3, .var [.t (encN l)]), (2, .var [.t (tI n)])]⟩
structure R2 (n : Int) (l : List Nd) (out : List (List Int)) (set : List Int) : Prop where
  total : out ++ tailOf l set = iota n.toNat :: tailOf l (iota n.toNat)
  few : out.length + set.length ≤ 101
  ne : out ≠ []
theorem R2.stop {n : Int} {l : List Nd} {out : List (List Int)} {set : List Int} (h : R2 n l out set) (he : (nextOf l set).length = set.length) : out = iota n.toNat :: tailOf l (iota n.toNat) := by
  have := h.total
  rw [tailOf, dif_pos he, List.append_nil] at this
  exact this
theorem R2.go {n : Int} {l : List Nd} {out : List (List Int)} {set : List Int} (h : R2 n l out set) (he : (nextOf l set).length ≠ set.length) : R2 n l (out ++ [nextOf l set]) (nextOf l set) := by
  refine ⟨?_, ?_, by simp⟩
  · have := h.total
    rw [tailOf, dif_neg he] at this
    rw [← this]; simp
  · have := h.few
    have := nextOf_le l set
    simp only [List.length_append, List.length_cons, List.length_nil]
    omega
theorem rounds_ent : Ent Try.prog 8 := fun a w => Try.call8 a w
theorem rounds_spec (n : Int) (l : List Nd) : PC Try.prog 8 [tI n, encN l] (.tup [encII (rounds n l).1, tI (rounds n l).2]) := by
  refine PC.of_okL tok Try.func8 rfl (Nat.le_of_ble_eq_true rfl) (ev_sound ctx (own := [37, 40]) _ _ _ ?_)
  refine ⟨containsFuncN_ent, _, fun _ => containsFuncN l 14 [inT n] (bad n) f2_ent (fun x _ => f2_spec n x), ?_⟩
  refine ⟨fun h => ?_, fun h => ?_⟩
  · have h : (decide (n < 0) || decide (n > 100) || decide (((l.map cN).length : Int) > 500) || l.any (bad n)) = true := h
    rw [List.length_map] at h
    have hw : wrong n l = true := h
    simp only [rounds, hw, if_true]
    exact TV.le_tup ⟨TV.nil_le 1 (by decide), TV.le_refl _, trivial⟩
  · have h : (decide (n < 0) || decide (n > 100) || decide (((l.map cN).length : Int) > 500) || l.any (bad n)) = false := h
    rw [List.length_map] at h
    have hw : wrong n l = false := h
    simp only [Bool.or_eq_false_iff, decide_eq_false_iff_not] at h
    obtain ⟨⟨⟨hn0, hn1⟩, hl⟩, hb⟩ := h
    simp only [rounds, hw, Bool.false_eq_true, if_false]
    refine Ok.loop (st := st1 n l) (R := fun i => (i : Int) ≤ n) (μ := fun i => n.toNat - i) 0 ((Wk.nilVar 8 37 3 1 (by decide) (by decide) rfl).trans (Wk.sub ⟨rfl, rfl, rfl, rfl, rfl, trivial⟩ ⟨rfl, rfl, rfl, rfl, trivial⟩)) (by show (0 : Int) ≤ n; omega) ?_
    intro i hi
    have hi : (i : Int) ≤ n := hi
    refine ev_sound ctx (own := [37, 40]) _ _ _ ?_
    refine ⟨fun h => ?_, fun h => ?_⟩
    · have hlt : (i : Int) < n := of_decide_eq_true h
      refine ⟨?_, ?_, trivial, ?_⟩
      · simp [iota_len]; omega
      · simp [iota_len, maxLen]; omega
      · refine ⟨i + 1, Wk.sub ⟨slotI ?_, rfl, rfl, rfl, rfl, trivial⟩ ⟨rfl, congrArg (fun x => some (AO.row 3 1 x)) ?_, rfl, rfl, trivial⟩, ?_, ?_⟩
        · exact wr1 (n := 100) (by omega) (by simp [maxLen])
        · rw [iota_succ, List.map_append]; rfl
        · show ((i + 1 : Nat) : Int) ≤ n; omega
        · show n.toNat - (i + 1) < n.toNat - i; omega
    · have hge : ¬ (i : Int) < n := of_decide_eq_false h
      have hin : i = n.toNat := by omega
      subst hin
      refine Ok.loop (st := fun x => st2 n l x) (R := fun x => R2 n l x.1 x.2) (μ := fun x => x.2.length) ([iota n.toNat], iota n.toNat) (Wk.sub ⟨rfl, rfl, rfl, rfl, trivial⟩ ⟨rfl, rfl, rfl, rfl, trivial⟩) ?_ ?_
      · exact ⟨rfl, by simp [iota_len]; omega, by simp⟩
      · rintro ⟨out, set⟩ H
        have H : R2 n l out set := H
        refine ev_sound ctx (own := [37, 40]) _ _ _ ?_
        by_cases hs : set = []
        · subst hs
          refine ⟨clone_ent, .inl ⟨_, clone_nil, ?_⟩⟩
          refine ⟨deleteFunc_ent, .inl ⟨_, deleteFunc_nil 20 [.ptr [encN l], .ptr [encI []]] f3_ent, ?_⟩⟩
          refine ⟨fun h => ?_, fun h => by cases h⟩
          have := H.stop rfl
          subst this
          exact TV.le_refl _
        · have hfew := H.few
          have hlen : 1 ≤ out.length := by
            cases out with
            | nil => exact absurd rfl H.ne
            | cons => simp
          refine ⟨clone_ent, .inr ⟨_, _, _, clone_spec set hs (by omega), ?_⟩⟩
          refine .inr ⟨deleteFunc_ent, _, deleteFunc_spec set 20 [.ptr [encN l], .ptr [encI set]] (drops l set) f3_ent (fun c _ => f3_spec l set c), .inl ⟨?_, ?_⟩⟩
          · intro c hc x hx
            obtain ⟨n', _, rfl⟩ := List.mem_map.1 hc
            simp [cI] at hx; subst hx; rfl
          · refine ⟨fun h => ?_, fun h => ?_⟩
            · have he : (nextOf l set).length = set.length := by
                have h : ((((nextOf l set).map cI).length : Int) == ((set.map cI).length : Int)) = true := h
                have := eq_of_beq h
                simp only [List.length_map] at this; omega
              have := H.stop he
              subst this
              exact TV.le_refl _
            · have he : (nextOf l set).length ≠ set.length := by
                intro he
                have h : ((((nextOf l set).map cI).length : Int) == ((set.map cI).length : Int)) = false := h
                simp [he] at h
              refine ⟨?_, ?_, ?_⟩
              · simp; omega
              · simp [maxLen]; omega
              · refine ⟨(out ++ [nextOf l set], nextOf l set), Wk.sub ⟨rfl, rfl, rfl, rfl, trivial⟩ ⟨congrArg (fun x => some (AO.row 23 1 x)) ?_, rfl, rfl, rfl, trivial⟩, H.go he, ?_⟩
                · rw [List.map_append]; rfl
                · have := nextOf_le l set
                  show (nextOf l set).length < set.length
                  omega

theorem tailOf_len (l : List Nd) (set : List Int) : (tailOf l set).length ≤ set.length := by
  rw [tailOf]
  split
  · simp
  · have := nextOf_le l set
    have := tailOf_len l (nextOf l set)
    simp only [List.length_cons]
    omega
termination_by set.length
decreasing_by have := nextOf_le l set; omega
theorem greatest_ent : Ent Try.prog 5 := fun a w => Try.call5 a w
theorem greatest_spec (n : Int) (l : List Nd) : PC Try.prog 5 [tI n, encN l] (.tup [encI (greatest n l).1, tI (greatest n l).2]) := by
  have hs := rounds_spec n l
  cases hw : wrong n l with
  | true =>
    have e : rounds n l = ([], 1) := by simp [rounds, hw]
    rw [greatest, e]
    rw [e] at hs
    refine PC.of_okL tok Try.func5 rfl (Nat.le_of_ble_eq_true rfl) (ev_sound ctx (own := []) _ _ _ ?_)
    refine ⟨rounds_ent, .inl ⟨_, hs, ?_⟩⟩
    exact ⟨fun _ => TV.le_tup ⟨TV.nil_le 1 (by decide), TV.le_refl _, trivial⟩, fun h => by cases h⟩
  | false =>
    have e : rounds n l = (iota n.toNat :: tailOf l (iota n.toNat), 0) := by simp [rounds, hw]
    rw [greatest, e]
    rw [e] at hs
    have hlen : (tailOf l (iota n.toNat)).length ≤ 100 := by
      have := tailOf_len l (iota n.toNat)
      rw [iota_len] at this
      simp only [wrong, Bool.or_eq_false_iff, decide_eq_false_iff_not] at hw
      omega
    generalize iota n.toNat = x at hs hlen ⊢
    generalize tailOf l x = r at hs hlen ⊢
    refine PC.of_okL tok Try.func5 rfl (Nat.le_of_ble_eq_true rfl) (ev_sound ctx (own := []) _ _ _ ?_)
    refine ⟨rounds_ent, .inl ⟨_, hs, ?_⟩⟩
    refine ⟨fun h => (by cases h), fun _ => ?_⟩
    refine ⟨trivial, cII ((x :: r).getLastD []), ?_, TV.le_refl _⟩
    have hlen2 : IntKind.i64.wrap ((((x :: r).map cII).length : Int) - 1) = (r.length : Int) := by
      rw [wr] <;> simp <;> omega
    show 0 ≤ IntKind.i64.wrap ((((x :: r).map cII).length : Int) - 1) ∧ ((x :: r).map cII)[(IntKind.i64.wrap ((((x :: r).map cII).length : Int) - 1)).toNat]? = some (cII ((x :: r).getLastD []))
    rw [hlen2]
    refine ⟨by omega, ?_⟩
    rw [List.getElem?_map, Int.toNat_natCast, show (x :: r)[r.length]? = some ((x :: r).getLastD []) from ?_]
    · rfl
    · rw [List.getLastD_eq_getLast?, List.getLast?_eq_getElem?]; simp
end Go.Proofs.Ytpakohboamfmjab
