/- The document's 'Rounds' and 'Greatest', and what the law reads by. -/
import Derived.Test.YtpakohboamfmjabPlB2
import Derived.Test.YtpakohboamfmjabPlB4
namespace Go.Proofs.Ytpakohboamfmjab
open Go.Proofs.Ytpakohboamfmjab.Pl
set_option maxRecDepth 10000

/-! ### needs, ints -/
theorem needs_ent : Ent Try.prog 7 := fun a w => Try.call7 a w
theorem take_map_succ {α β : Type} (f : α → β) {l : List α} {i : Nat} (h : i < l.length) : (l.take i).map f ++ [f l[i]] = (l.take (i + 1)).map f := by
  rw [List.take_succ_eq_append_getElem h, List.map_append]; rfl
def stN (l : List Nd) (i : Nat) : St := ⟨[(4, vi i), (3, .sl 24), (0, .t (encN l))], [(24, .row 42 2 ((l.take i).map cN))]⟩
theorem needs_spec (l : List Nd) (hl : l.length * 32 ≤ 140737488355328) : PC Try.prog 7 [encN l] (encN l) := by
  refine PC.have (fun w F us h => sl_len0 h) fun hlen => ?_
  have hlen : l.length ≤ maxLen := by simpa using hlen
  refine PC.of_ok tok Try.func7 rfl (Nat.le_of_ble_eq_true rfl) (ev_sound ctx (own := [24]) _ _ _ ?_)
  refine Ok.loop (st := stN l) (R := fun i => i ≤ l.length) (μ := fun i => l.length - i) 0 ((Wk.nil 3 24 42 2 (by decide) rfl).trans (Wk.sub ⟨rfl, rfl, rfl, trivial⟩ ⟨rfl, trivial⟩)) (Nat.zero_le _) ?_
  intro i hi
  refine ev_sound ctx (own := [24]) _ _ _ ?_
  refine ⟨fun h => ?_, fun h => ?_⟩
  · have hlt : i < l.length := by have := ltOf h; simpa using this
    refine ⟨cN l[i], fun _ => getM hlt, cN l[i], fun _ => getM hlt, ?_⟩
    refine ⟨?_, ?_, ?_⟩
    · simp only [List.length_map, List.length_take, List.length_cons, List.length_nil]; omega
    · simp only [List.length_map, List.length_take, List.length_cons, List.length_nil]; omega
    · exact ⟨trivial, i + 1, Wk.sub ⟨slotI (wr1 hlt hlen), rfl, rfl, trivial⟩ ⟨congrArg (fun x => some (AO.row 42 2 x)) (take_map_succ cN hlt), trivial⟩, hlt, dec hlt⟩
  · have hge : l.length ≤ i := by have := geOf h; simpa using this
    refine toEq ?_
    rw [List.take_of_length_le hge]; rfl

theorem ints_ent : Ent Try.prog 10 := fun a w => Try.call10 a w
theorem ints_spec (l l' : List Int) : PC Try.prog 10 [encI l, encI l'] (tB (l == l')) := by
  refine PC.have (fun w F us h => sl_len0 h) fun hlen => ?_
  have hlen : l.length ≤ maxLen := by simpa using hlen
  refine PC.of_ok tok Try.func10 rfl (Nat.le_of_ble_eq_true rfl) (ev_sound ctx (own := []) _ _ _ ?_)
  refine ⟨fun h => toEq ?_, fun h => ?_⟩
  · have h : (((l.map cI).length : Int) != ((l'.map cI).length : Int)) = true := h
    have : (l == l') = false := by
      rw [beq_eq_false_iff_ne]; intro e; subst e; simp at h
    rw [this]; rfl
  · have h : (((l.map cI).length : Int) != ((l'.map cI).length : Int)) = false := h
    have he : l.length = l'.length := by
      rw [bne_eq_false_iff_eq] at h
      simp only [List.length_map] at h; omega
    refine Ok.loop (st := fun i : Nat => ⟨[(5, vi i), (1, .t (encI l')), (0, .t (encI l))], []⟩) (R := fun i => i ≤ l.length ∧ l.take i = l'.take i) (μ := fun i => l.length - i) 0 (Wk.sub ⟨rfl, rfl, rfl, trivial⟩ trivial) ⟨Nat.zero_le _, by simp⟩ ?_
    rintro i ⟨hi, heq⟩
    refine ev_sound ctx (own := []) _ _ _ ?_
    refine ⟨fun h => ?_, fun h => ?_⟩
    · have hlt : i < l.length := by have := ltOf h; simpa using this
      have hlt' : i < l'.length := by omega
      refine ⟨cI l[i], fun _ => getM hlt, cI l'[i], fun _ => getM hlt', ?_⟩
      refine ⟨fun h => toEq ?_, fun h => ?_⟩
      · have h : (l[i] != l'[i]) = true := h
        have : (l == l') = false := by
          rw [beq_eq_false_iff_ne]; intro e; subst e; simp at h
        rw [this]; rfl
      · have h : (l[i] != l'[i]) = false := h
        rw [bne_eq_false_iff_eq] at h
        refine ⟨trivial, i + 1, Wk.sub ⟨slotI (wr1 hlt hlen), rfl, rfl, trivial⟩ trivial, ⟨hlt, ?_⟩, dec hlt⟩
        rw [List.take_succ_eq_append_getElem hlt, List.take_succ_eq_append_getElem hlt', heq, h]
    · have hge : l.length ≤ i := by have := geOf h; simpa using this
      refine toEq ?_
      rw [List.take_of_length_le hge, List.take_of_length_le (by omega)] at heq
      rw [heq]; simp [tB]

/-! ### The document's Rounds -/
def keeps (l : List Nd) (set : List Int) (c : Int) (k : Nat) : Bool := !((l.take k).any (drops1 set c))
theorem misses_eq (set : List Int) (m : Int) : (set.any fun x => x == m) = !misses set m := by
  simp only [misses, Bool.not_not]
  congr 1; funext x; exact Bool.beq_comm
theorem keeps_succ (l : List Nd) (set : List Int) (c : Int) {k : Nat} (h : k < l.length) : keeps l set c (k + 1) = (keeps l set c k && !drops1 set c l[k]) := by
  simp only [keeps, List.take_succ_eq_append_getElem h, List.any_append, List.any_cons, List.any_nil, Bool.or_false, Bool.not_or]
def φD (n : Int) (l : List Nd) (set : List Int) : List (Nat × AV) := [(10, .sl 89), (8, .t (encI set)), (1, .t (encN l)), (0, vi n)]
def σD (out : List (List Int)) : List (Nat × AO) := [(89, .row 23 1 (out.map cII))]
def σE (out : List (List Int)) (nx : List Int) : List (Nat × AO) := (144, .row 3 1 (nx.map cI)) :: σD out
def nextTo (l : List Nd) (set : List Int) (i : Nat) : List Int := (set.take i).filter fun c => !drops l set c
def stA (n : Int) (l : List Nd) (i : Nat) : St := ⟨[(6, vi i), (1, .t (encN l)), (0, vi n)], []⟩
def stB (n : Int) (l : List Nd) (i k : Nat) : St := ⟨[(7, vi k), (6, vi i), (1, .t (encN l)), (0, vi n)], []⟩
def stC (n : Int) (l : List Nd) (i : Nat) : St := ⟨[(9, vi i), (8, .sl 87), (1, .t (encN l)), (0, vi n)], [(87, .row 3 1 ((iota i).map cI))]⟩
def stD (n : Int) (l : List Nd) (x : List (List Int) × List Int) : St := ⟨φD n l x.2, σD x.1⟩
def stE (n : Int) (l : List Nd) (out : List (List Int)) (set : List Int) (i : Nat) : St := ⟨(12, vi i) :: (11, .sl 144) :: φD n l set, σE out (nextTo l set i)⟩
def stF (n : Int) (l : List Nd) (out : List (List Int)) (set : List Int) (i : Nat) (c : Int) (k : Nat) : St := ⟨(14, vi k) :: (13, vb (keeps l set c k)) :: (12, vi i) :: (11, .sl 144) :: φD n l set, σE out (nextTo l set i)⟩
def stG (n : Int) (l : List Nd) (out : List (List Int)) (set : List Int) (i c : Nat) (k : Nat) (b : Bool) : St := ⟨(15, vi k) :: (14, vi c) :: (13, vb b) :: (12, vi i) :: (11, .sl 144) :: φD n l set, σE out (nextTo l set i)⟩
theorem nextTo_drop {l : List Nd} {set : List Int} {i : Nat} (h : i < set.length) (hd : drops l set set[i] = true) : nextTo l set (i + 1) = nextTo l set i := by
  simp only [nextTo, List.take_succ_eq_append_getElem h, List.filter_append]; simp [hd]
theorem nextTo_keep {l : List Nd} {set : List Int} {i : Nat} (h : i < set.length) (hd : drops l set set[i] = false) : nextTo l set (i + 1) = nextTo l set i ++ [set[i]] := by
  simp only [nextTo, List.take_succ_eq_append_getElem h, List.filter_append]; simp [hd]
theorem nextTo_all (l : List Nd) (set : List Int) : nextTo l set set.length = nextOf l set := by simp [nextTo, nextOf]
theorem nextTo_len (l : List Nd) (set : List Int) (i : Nat) : (nextTo l set i).length ≤ set.length := by
  refine Nat.le_trans (List.length_filter_le _ _) ?_
  simp; omega
/-- Within one check. -/
structure RG (set : List Int) (c : Int) (x : Nd) (b0 : Bool) (q : Nat) (b : Bool) : Prop where
  le : q ≤ x.needs.length
  val : b = (b0 && (x.needs.take q).all fun m => !misses set m)
  on : 0 < q → (x.for_ == c) = true
theorem RG.step {set : List Int} {c : Int} {x : Nd} {b0 : Bool} {q : Nat} {b : Bool} (h : RG set c x b0 q b) (hq : q < x.needs.length) (hf : (x.for_ == c) = true) : RG set c x b0 (q + 1) (b && set.any fun y => y == x.needs[q]) := by
  refine ⟨hq, ?_, fun _ => hf⟩
  rw [h.val, List.take_succ_eq_append_getElem hq, List.all_append, misses_eq]
  simp [Bool.and_assoc]
theorem RG.stop {set : List Int} {c : Int} {x : Nd} {b0 : Bool} {q : Nat} {b : Bool} (h : RG set c x b0 q b) (hf : ((x.for_ == c) && decide ((q : Int) < (x.needs.length : Int))) = false) : b = (b0 && !drops1 set c x) := by
  rw [h.val]
  cases hx : (x.for_ == c) with
  | false =>
    have : q = 0 := by
      rcases Nat.eq_zero_or_pos q with h0 | h0
      · exact h0
      · have := h.on h0; rw [hx] at this; cases this
    subst this
    simp [drops1, hx]
  | true =>
    rw [hx, Bool.true_and] at hf
    have hge := geOf hf
    rw [List.take_of_length_le hge]
    simp only [drops1, hx, Bool.true_and]
    congr 1
    rw [Bool.eq_iff_iff]
    simp
theorem keeps_all (l : List Nd) (set : List Int) (c : Int) {k : Nat} (h : l.length ≤ k) : keeps l set c k = !drops l set c := by simp only [keeps, drops, List.take_of_length_le h]
theorem refRounds_ent : Ent Try.prog 9 := fun a w => Try.call9 a w
theorem refRounds_spec (n : Int) (l : List Nd) : PC Try.prog 9 [tI n, encN l] (.tup [encII (rounds n l).1, tI (rounds n l).2]) := by
  refine PC.have (A := ∀ x ∈ l, x.needs.length ≤ maxLen) (fun w F us h x hx => ?_) fun hmax => ?_
  · obtain ⟨us', h⟩ := relL_tail h
    simp only [TV.relL] at h
    obtain ⟨u, _, _, h, _⟩ := h
    obtain ⟨vs, h⟩ := sl_mem h (List.mem_map.2 ⟨x, hx, rfl⟩)
    obtain ⟨us', h⟩ := relL_tail h
    have := sl_len0 h
    simpa using this
  have hbad : wrong n l = true → TV.le (.tup [.v (.slice none 0 0), tI 1]) (.tup [encII (rounds n l).1, tI (rounds n l).2]) := by
    intro hw
    simp only [rounds, hw, if_true]
    exact TV.le_tup ⟨TV.nil_le 1 (by decide), TV.le_refl _, trivial⟩
  refine PC.of_okL tok Try.func9 rfl (Nat.le_of_ble_eq_true rfl) (ev_sound ctx (own := [87, 89, 144]) _ _ _ ?_)
  refine ⟨fun h => ?_, fun h => ?_⟩
  · have h : (decide (n < 0) || decide (n > 100) || decide (((l.map cN).length : Int) > 500)) = true := h
    rw [List.length_map] at h
    exact hbad (by simp only [wrong, h, Bool.true_or])
  · have h : (decide (n < 0) || decide (n > 100) || decide (((l.map cN).length : Int) > 500)) = false := h
    rw [List.length_map] at h
    have hr := h
    simp only [Bool.or_eq_false_iff, decide_eq_false_iff_not] at hr
    obtain ⟨⟨hn0, hn1⟩, hl⟩ := hr
    refine Ok.loop (st := stA n l) (R := fun i => i ≤ l.length ∧ ∀ j (hj : j < l.length), j < i → bad n l[j] = false) (μ := fun i => l.length - i) 0 (Wk.sub ⟨rfl, rfl, rfl, trivial⟩ trivial) ⟨Nat.zero_le _, fun j _ h => absurd h (Nat.not_lt_zero j)⟩ ?_
    rintro i ⟨hi, hno⟩
    refine ev_sound ctx (own := [87, 89, 144]) _ _ _ ?_
    refine ⟨fun h1 => ?_, fun h1 => ?_⟩
    · have hlt : i < l.length := by have := ltOf h1; simpa using this
      have hxl := hmax _ (List.getElem_mem hlt)
      refine ⟨cN l[i], getM hlt, cN l[i], fun _ => getM hlt, ?_⟩
      refine ⟨fun h2 => ?_, fun h2 => ?_⟩
      · have h2 : (decide (l[i].for_ < 0) || decide (l[i].for_ ≥ n)) = true := h2
        refine hbad ?_
        have : bad n l[i] = true := by
          simp only [Bool.or_eq_true, decide_eq_true_eq] at h2
          simp only [bad, inn, Bool.or_eq_true, Bool.not_eq_true', Bool.and_eq_false_iff, decide_eq_false_iff_not]
          left; omega
        simp only [wrong, Bool.or_eq_true]
        exact .inr (List.any_eq_true.2 ⟨_, List.getElem_mem hlt, this⟩)
      · have h2 : (decide (l[i].for_ < 0) || decide (l[i].for_ ≥ n)) = false := h2
        simp only [Bool.or_eq_false_iff, decide_eq_false_iff_not] at h2
        have hfor : inn n l[i].for_ = true := by simp only [inn, Bool.and_eq_true, decide_eq_true_eq]; omega
        refine Ok.loop (st := stB n l i) (R := fun k => k ≤ l[i].needs.length ∧ ∀ j (hj : j < l[i].needs.length), j < k → inn n l[i].needs[j] = true) (μ := fun k => l[i].needs.length - k) 0 (Wk.sub ⟨rfl, rfl, rfl, rfl, trivial⟩ trivial) ⟨Nat.zero_le _, fun j _ h => absurd h (Nat.not_lt_zero j)⟩ ?_
        rintro k ⟨hk, hin⟩
        refine ev_sound ctx (own := [87, 89, 144]) _ _ _ ?_
        refine ⟨cN l[i], getM hlt, ?_⟩
        refine ⟨fun h3 => ?_, fun h3 => ?_⟩
        · have hkt : k < l[i].needs.length := by have := ltOf h3; simpa using this
          refine ⟨cN l[i], getM hlt, cI l[i].needs[k], getM hkt, cN l[i], fun _ => getM hlt, cI l[i].needs[k], fun _ => getM hkt, ?_⟩
          refine ⟨fun h4 => ?_, fun h4 => ?_⟩
          · have h4 : (decide (l[i].needs[k] < 0) || decide (l[i].needs[k] ≥ n)) = true := h4
            refine hbad ?_
            have : bad n l[i] = true := by
              simp only [Bool.or_eq_true, decide_eq_true_eq] at h4
              simp only [bad, Bool.or_eq_true]
              refine .inr (List.any_eq_true.2 ⟨_, List.getElem_mem hkt, ?_⟩)
              simp only [inn, Bool.not_eq_true', Bool.and_eq_false_iff, decide_eq_false_iff_not]
              omega
            simp only [wrong, Bool.or_eq_true]
            exact .inr (List.any_eq_true.2 ⟨_, List.getElem_mem hlt, this⟩)
          · have h4 : (decide (l[i].needs[k] < 0) || decide (l[i].needs[k] ≥ n)) = false := h4
            simp only [Bool.or_eq_false_iff, decide_eq_false_iff_not] at h4
            refine ⟨trivial, k + 1, Wk.sub ⟨slotI (wr1 hkt hxl), rfl, rfl, rfl, trivial⟩ trivial, ⟨hkt, fun j hj hjk => ?_⟩, dec hkt⟩
            by_cases e : j = k
            · subst e; simp only [inn, Bool.and_eq_true, decide_eq_true_eq]; omega
            · exact hin j hj (by omega)
        · have hge : l[i].needs.length ≤ k := by have := geOf h3; simpa using this
          refine ⟨trivial, i + 1, Wk.sub ⟨slotI (wr1 (n := 500) (by omega) (by simp [maxLen])), rfl, rfl, trivial⟩ trivial, ⟨hlt, fun j hj hji => ?_⟩, dec hlt⟩
          by_cases e : j = i
          · subst e
            simp only [bad, hfor, Bool.not_true, Bool.false_or]
            rw [List.any_eq_false]
            intro m hm
            obtain ⟨q, hq, rfl⟩ := List.mem_iff_getElem.1 hm
            simp [hin q hq (by omega)]
          · exact hno j hj (by omega)
    · have hge : l.length ≤ i := by have := geOf h1; simpa using this
      have hw : wrong n l = false := by
        simp only [wrong, h, Bool.false_or]
        rw [List.any_eq_false]
        intro x hx
        obtain ⟨j, hj, rfl⟩ := List.mem_iff_getElem.1 hx
        simp [hno j hj (by omega)]
      simp only [rounds, hw, Bool.false_eq_true, if_false]
      refine Ok.loop (st := stC n l) (R := fun i => (i : Int) ≤ n) (μ := fun i => n.toNat - i) 0 ((Wk.nil 8 87 3 1 (by decide) rfl).trans (Wk.sub ⟨rfl, rfl, rfl, rfl, trivial⟩ ⟨rfl, trivial⟩)) (by show (0 : Int) ≤ n; omega) ?_
      intro i hi
      have hi : (i : Int) ≤ n := hi
      refine ev_sound ctx (own := [87, 89, 144]) _ _ _ ?_
      refine ⟨fun h => ?_, fun h => ?_⟩
      · have hlt : (i : Int) < n := of_decide_eq_true h
        refine ⟨?_, ?_, ?_⟩
        · simp [iota_len]; omega
        · simp [iota_len, maxLen]; omega
        · refine ⟨trivial, i + 1, Wk.sub ⟨slotI (wr1 (n := 100) (by omega) (by simp [maxLen])), rfl, rfl, rfl, trivial⟩ ⟨congrArg (fun x => some (AO.row 3 1 x)) ?_, trivial⟩, ?_, ?_⟩
          · rw [iota_succ, List.map_append]; rfl
          · show ((i + 1 : Nat) : Int) ≤ n; omega
          · show n.toNat - (i + 1) < n.toNat - i; omega
      · have hge : ¬ (i : Int) < n := of_decide_eq_false h
        have hin : i = n.toNat := by omega
        subst hin
        refine Ok.loop (st := fun x => stD n l x) (R := fun x => R2 n l x.1 x.2) (μ := fun x => x.2.length) ([iota n.toNat], iota n.toNat) (Wk.sub ⟨rfl, rfl, rfl, rfl, trivial⟩ ⟨rfl, trivial⟩) ⟨rfl, by simp [iota_len]; omega, by simp⟩ ?_
        rintro ⟨out, set⟩ H
        have H : R2 n l out set := H
        have hfew := H.few
        have hset : set.length ≤ 101 := by omega
        refine ev_sound ctx (own := [87, 89, 144]) _ _ _ ?_
        refine Ok.loop (st := stE n l out set) (R := fun i => i ≤ set.length) (μ := fun i => set.length - i) 0 ((Wk.nil 11 144 3 1 (by decide) rfl).trans (Wk.sub ⟨rfl, rfl, rfl, rfl, rfl, rfl, trivial⟩ ⟨rfl, rfl, trivial⟩)) (Nat.zero_le _) ?_
        intro i hi
        have hi : i ≤ set.length := hi
        refine ev_sound ctx (own := [87, 89, 144]) _ _ _ ?_
        refine ⟨fun h => ?_, fun h => ?_⟩
        · have hlt : i < set.length := by have := ltOf h; simpa using this
          refine Ok.loop (st := stF n l out set i set[i]) (R := fun k => k ≤ l.length) (μ := fun k => l.length - k) 0 (Wk.sub ⟨rfl, rfl, rfl, rfl, rfl, rfl, rfl, rfl, trivial⟩ ⟨rfl, rfl, trivial⟩) (Nat.zero_le _) ?_
          intro k hk
          have hk : k ≤ l.length := hk
          refine ev_sound ctx (own := [87, 89, 144]) _ _ _ ?_
          refine ⟨fun h => ?_, fun h => ?_⟩
          · have hkl : k < l.length := by have := ltOf h; simpa using this
            have hxl := hmax _ (List.getElem_mem hkl)
            refine Ok.loop (st := fun x : Nat × Bool => stG n l out set i k x.1 x.2) (R := fun x => RG set set[i] l[k] (keeps l set set[i] k) x.1 x.2) (μ := fun x => l[k].needs.length - x.1) (0, keeps l set set[i] k) (Wk.sub ⟨rfl, rfl, rfl, rfl, rfl, rfl, rfl, rfl, rfl, trivial⟩ ⟨rfl, rfl, trivial⟩) ⟨Nat.zero_le _, by simp, fun h => absurd h (Nat.not_lt_zero 0)⟩ ?_
            rintro ⟨q, b⟩ HG
            have HG : RG set set[i] l[k] (keeps l set set[i] k) q b := HG
            refine ev_sound ctx (own := [87, 89, 144]) _ _ _ ?_
            refine ⟨cN l[k], fun _ => getM hkl, cI set[i], fun _ => getM hlt, cN l[k], fun _ => getM hkl, ?_⟩
            refine ⟨fun h2 => ?_, fun h2 => ?_⟩
            · have h2 : ((l[k].for_ == set[i]) && decide ((q : Int) < ((l[k].needs.map cI).length : Int))) = true := h2
              rw [Bool.and_eq_true] at h2
              have hq : q < l[k].needs.length := by have := ltOf h2.2; simpa using this
              refine ⟨cN l[k], fun _ => getM hkl, cI l[k].needs[q], fun _ => getM hq, ?_⟩
              refine ⟨hasInt_ent, tB (set.any fun y => y == l[k].needs[q]), fun _ => hasInt_spec set l[k].needs[q], ?_⟩
              exact ⟨trivial, (q + 1, b && set.any fun y => y == l[k].needs[q]), Wk.sub ⟨slotI (wr1 hq hxl), rfl, rfl, rfl, rfl, rfl, rfl, rfl, rfl, trivial⟩ ⟨rfl, rfl, trivial⟩, HG.step hq h2.1, dec hq⟩
            · have h2 : ((l[k].for_ == set[i]) && decide ((q : Int) < ((l[k].needs.map cI).length : Int))) = false := h2
              rw [List.length_map] at h2
              have hb := HG.stop h2
              rw [← keeps_succ l set set[i] hkl] at hb
              exact ⟨trivial, k + 1, Wk.sub ⟨slotI (wr1 (n := 500) (by omega) (by simp [maxLen])), slotB hb, rfl, rfl, rfl, rfl, rfl, rfl, trivial⟩ ⟨rfl, rfl, trivial⟩, hkl, dec hkl⟩
          · have hge : l.length ≤ k := by have := geOf h; simpa using this
            have hka := keeps_all l set set[i] hge
            have hnl := nextTo_len l set i
            refine ⟨fun h2 => ?_, fun h2 => ?_⟩
            · have h2 : keeps l set set[i] k = true := h2
              rw [hka] at h2
              refine ⟨cI set[i], getM hlt, ?_⟩
              refine ⟨?_, ?_, ?_⟩
              · simp only [List.length_map, List.length_cons, List.length_nil]; omega
              · simp only [List.length_map, List.length_cons, List.length_nil, maxLen]; omega
              · refine ⟨trivial, i + 1, Wk.sub ⟨slotI (wr1 (n := 101) (by omega) (by simp [maxLen])), rfl, rfl, rfl, rfl, rfl, trivial⟩ ⟨congrArg (fun x => some (AO.row 3 1 x)) ?_, rfl, trivial⟩, hlt, dec hlt⟩
                rw [nextTo_keep hlt (by simpa using h2), List.map_append]; rfl
            · have h2 : keeps l set set[i] k = false := h2
              rw [hka] at h2
              refine ⟨trivial, i + 1, Wk.sub ⟨slotI (wr1 (n := 101) (by omega) (by simp [maxLen])), rfl, rfl, rfl, rfl, rfl, trivial⟩ ⟨congrArg (fun x => some (AO.row 3 1 x)) ?_, rfl, trivial⟩, hlt, dec hlt⟩
              rw [nextTo_drop hlt (by simpa using h2)]
        · have hge : set.length ≤ i := by have := geOf h; simpa using this
          have hie : i = set.length := by omega
          subst hie
          refine ⟨fun h2 => ?_, fun h2 => ?_⟩
          · have h2 : ((((nextTo l set set.length).map cI).length : Int) == ((set.map cI).length : Int)) = true := h2
            rw [nextTo_all] at h2
            have he : (nextOf l set).length = set.length := by
              have := eq_of_beq h2
              simp only [List.length_map] at this; omega
            have := H.stop he
            subst this
            exact TV.le_refl _
          · have h2 : ((((nextTo l set set.length).map cI).length : Int) == ((set.map cI).length : Int)) = false := h2
            rw [nextTo_all] at h2
            have he : (nextOf l set).length ≠ set.length := by
              intro he
              simp [he] at h2
            refine ⟨?_, ?_, ?_⟩
            · simp; omega
            · simp [maxLen]; omega
            · refine ⟨(out ++ [nextOf l set], nextOf l set), Wk.sub ⟨rfl, slotT ?_, rfl, rfl, trivial⟩ ⟨congrArg (fun x => some (AO.row 23 1 x)) ?_, trivial⟩, H.go he, ?_⟩
              · rw [← nextTo_all]; rfl
              · rw [List.map_append, ← nextTo_all]; rfl
              · have := nextOf_le l set
                show (nextOf l set).length < set.length
                omega

theorem refGreatest_ent : Ent Try.prog 6 := fun a w => Try.call6 a w
theorem refGreatest_spec (n : Int) (l : List Nd) : PC Try.prog 6 [tI n, encN l] (.tup [encI (greatest n l).1, tI (greatest n l).2]) := by
  have hs := refRounds_spec n l
  cases hw : wrong n l with
  | true =>
    have e : rounds n l = ([], 1) := by simp [rounds, hw]
    rw [greatest, e]
    rw [e] at hs
    refine PC.of_okL tok Try.func6 rfl (Nat.le_of_ble_eq_true rfl) (ev_sound ctx (own := []) _ _ _ ?_)
    refine ⟨refRounds_ent, .inl ⟨_, hs, ?_⟩⟩
    exact ⟨fun _ => TV.le_tup ⟨TV.nil_le 1 (by decide), TV.le_refl _, trivial⟩, fun h => by cases h⟩
  | false =>
    have e : rounds n l = (iota n.toNat :: tailOf l (iota n.toNat), 0) := by simp [rounds, hw]
    rw [greatest, e]
    rw [e] at hs
    have hlen : (tailOf l (iota n.toNat)).length ≤ 100 := by
      have := tailOf_len l (iota n.toNat)
      rw [iota_len] at this
      simp only [wrong, Bool.or_eq_false_iff, decide_eq_false_iff_not] at hw
      omega
    generalize iota n.toNat = x at hs hlen ⊢
    generalize tailOf l x = r at hs hlen ⊢
    refine PC.of_okL tok Try.func6 rfl (Nat.le_of_ble_eq_true rfl) (ev_sound ctx (own := []) _ _ _ ?_)
    refine ⟨refRounds_ent, .inl ⟨_, hs, ?_⟩⟩
    refine ⟨fun h => (by cases h), fun _ => ?_⟩
    refine ⟨trivial, cII ((x :: r).getLastD []), ?_, TV.le_refl _⟩
    have hlen2 : IntKind.i64.wrap ((((x :: r).map cII).length : Int) - 1) = (r.length : Int) := by
      rw [wr] <;> simp <;> omega
    show 0 ≤ IntKind.i64.wrap ((((x :: r).map cII).length : Int) - 1) ∧ ((x :: r).map cII)[(IntKind.i64.wrap ((((x :: r).map cII).length : Int) - 1)).toNat]? = some (cII ((x :: r).getLastD []))
    rw [hlen2]
    refine ⟨by omega, ?_⟩
    rw [List.getElem?_map, Int.toNat_natCast, show (x :: r)[r.length]? = some ((x :: r).getLastD []) from ?_]
    · rfl
    · rw [List.getLastD_eq_getLast?, List.getLast?_eq_getElem?]; simp
end Go.Proofs.Ytpakohboamfmjab
