/- 'InferWithin': what the law answers. -/
import Derived.Test.YtpakohboamfmjacPlC2
import Derived.Test.YtpakohboamfmjacPlC3
import Derived.Test.YtpakohboamfmjacPlC4
namespace Go.Proofs.Ytpakohboamfmjac
open Go.Proofs.Ytpakohboamfmjac.Pl
set_option maxRecDepth 10000

/-! ### In plain terms -/
def cB (b : Bool) : List TV := [.v (.bool b)]
def encB (l : List Bool) : TV := .sl 1 (l.map cB)
def has (s : List Bool) (c : Int) : Bool := s.getD c.toNat false
def inR (n : Int) (i : Int) : Prop := 0 ≤ i ∧ i < n
def trues (s : List Bool) : Nat := s.countP id
/-- The first k needs of a check hold, if it does. -/
def fine (s : List Bool) (x : Nd) (k : Nat) : Prop := has s x.for_ = true → ∀ j (hj : j < x.needs.length), j < k → has s x.needs[j] = true
def closed (l : List Nd) (s : List Bool) : Prop := ∀ x ∈ l, fine s x x.needs.length

theorem trues_set {s : List Bool} {c : Nat} (hc : c < s.length) (h : s[c] = true) : trues (s.set c false) < trues s := by
  induction s generalizing c with
  | nil => simp at hc
  | cons b r ih =>
    cases c with
    | zero => simp at h; subst h; simp [trues]
    | succ c =>
      have := ih (by simpa using hc) (by simpa using h)
      simp only [trues, List.set_cons_succ, List.countP_cons] at this ⊢
      omega

theorem ranges {n : Int} {l : List Nd} (hw : wrong n l = false) : 0 ≤ n ∧ n ≤ 100 ∧ l.length ≤ 500 ∧ ∀ x ∈ l, inR n x.for_ ∧ ∀ m ∈ x.needs, inR n m := by
  simp only [wrong, Bool.or_eq_false_iff, decide_eq_false_iff_not] at hw
  obtain ⟨⟨⟨h0, h1⟩, h2⟩, h3⟩ := hw
  refine ⟨by omega, by omega, by omega, fun x hx => ?_⟩
  rw [List.any_eq_false] at h3
  have := h3 x hx
  simp only [bad, Bool.or_eq_true, not_or, Bool.not_eq_true', Bool.not_eq_false, List.any_eq_true, not_exists, not_and, inn, Bool.and_eq_true, decide_eq_true_eq] at this
  refine ⟨⟨this.1.1, this.1.2⟩, fun m hm => ?_⟩
  have := this.2 m hm
  exact ⟨this.1, this.2⟩

/-- What keeps itself is within each round's set. -/
theorem within_next {n : Int} {l : List Nd} {s : List Bool} (hr : ∀ x ∈ l, inR n x.for_ ∧ ∀ m ∈ x.needs, inR n m) (hc : closed l s) {set : List Int} (h : ∀ i, inR n i → has s i = true → i ∈ set) :
    ∀ i, inR n i → has s i = true → i ∈ nextOf l set := by
  intro i hi hs
  rw [nextOf, List.mem_filter]
  refine ⟨h i hi hs, ?_⟩
  have : drops l set i = false := by
    rw [drops, List.any_eq_false]
    intro x hx hd
    rw [drops1, Bool.and_eq_true] at hd
    obtain ⟨h1, h2⟩ := hd
    have h1 := eq_of_beq h1
    obtain ⟨m, hm, hmiss⟩ := List.any_eq_true.1 h2
    obtain ⟨j, hj, rfl⟩ := List.mem_iff_getElem.1 hm
    have := hc x hx (by rw [h1]; exact hs) j hj hj
    have := h _ ((hr x hx).2 _ (List.getElem_mem hj)) this
    simp only [misses, Bool.not_eq_true', List.any_eq_false] at hmiss
    have := hmiss _ this
    simp at this
  simp [this]
theorem within_tail {n : Int} {l : List Nd} {s : List Bool} (hr : ∀ x ∈ l, inR n x.for_ ∧ ∀ m ∈ x.needs, inR n m) (hc : closed l s) (set : List Int) (h : ∀ i, inR n i → has s i = true → i ∈ set) :
    ∀ i, inR n i → has s i = true → i ∈ (set :: tailOf l set).getLastD [] := by
  rw [tailOf]
  split
  · simpa using h
  · have := within_tail hr hc (nextOf l set) (within_next hr hc h)
    simpa using this
termination_by set.length
decreasing_by have := nextOf_le l set; omega
theorem within {n : Int} {l : List Nd} {s : List Bool} (hw : wrong n l = false) (hc : closed l s) (i : Int) (hi : inR n i) (hs : has s i = true) : i ∈ (greatest n l).1 := by
  obtain ⟨h0, _, _, hr⟩ := ranges hw
  have := within_tail hr hc (iota n.toNat) (fun i hi _ => by
    simp only [iota, List.mem_map, List.mem_range]
    exact ⟨i.toNat, by have := hi.1; have := hi.2; omega, by have := hi.1; omega⟩) i hi hs
  simpa [greatest, rounds, hw] using this

/-! ### The law -/
structure Sv (n : Int) (s : List Bool) : Prop where
  len : s.length = n.toNat
theorem Sv.get {n : Int} {s : List Bool} (h : Sv n s) {c : Int} (hc : inR n c) : s.length > c.toNat ∧ s[c.toNat]? = some (has s c) := by
  have := h.len
  have h1 := hc.1
  have h2 := hc.2
  have hlt : c.toNat < s.length := by omega
  exact ⟨hlt, by simp [has, hlt]⟩
theorem getB {s : List Bool} {c : Nat} {b : Bool} (h : s[c]? = some b) : (s.map cB)[c]? = some (cB b) := by rw [List.getElem?_map, h]; rfl
theorem Sv.set {n : Int} {s : List Bool} (h : Sv n s) (c : Nat) (b : Bool) : Sv n (s.set c b) := ⟨by simp [h.len]⟩
theorem set_cB (s : List Bool) (c : Nat) (b : Bool) : (s.map cB).set c (cB b) = (s.set c b).map cB := by rw [List.map_set]
def φ0 (n : Int) (l : List Nd) (bits : List Bool) : List (Nat × AV) := [(9, .sl 25), (7, .t (encI (greatest n l).1)), (2, .t (encB bits)), (1, .t (encN l)), (0, vi n)]
def σ0 (s : List Bool) : List (Nat × AO) := [(25, .row 4 1 (s.map cB))]
def sv0 (n : Int) (l : List Nd) (bits : List Bool) (i : Nat) (s : List Bool) : St := ⟨(10, vi i) :: φ0 n l bits, σ0 s⟩
def sv2 (n : Int) (l : List Nd) (bits : List Bool) (more : Bool) (s : List Bool) : St := ⟨(11, vb more) :: φ0 n l bits, σ0 s⟩
def sv4 (n : Int) (l : List Nd) (bits : List Bool) (i : Nat) (more : Bool) (s : List Bool) : St := ⟨(12, vi i) :: (11, vb more) :: φ0 n l bits, σ0 s⟩
def sv6 (n : Int) (l : List Nd) (bits : List Bool) (i k : Nat) (more : Bool) (s : List Bool) : St := ⟨(13, vi k) :: (12, vi i) :: (11, vb more) :: φ0 n l bits, σ0 s⟩
def sv8 (n : Int) (l : List Nd) (bits : List Bool) (i : Nat) (s : List Bool) : St := ⟨(14, vi i) :: φ0 n l bits, σ0 s⟩
/-- Within a pass. -/
structure P4 (n : Int) (l : List Nd) (s0 : List Bool) (i : Nat) (more : Bool) (s : List Bool) : Prop where
  sv : Sv n s
  le : i ≤ l.length
  or : (more = false ∧ s = s0 ∧ ∀ j (hj : j < l.length), j < i → fine s l[j] l[j].needs.length) ∨ (more = true ∧ trues s < trues s0)
structure P6 (n : Int) (l : List Nd) (s0 : List Bool) (i : Nat) (x : Nd) (k : Nat) (more : Bool) (s : List Bool) : Prop where
  sv : Sv n s
  le : k ≤ x.needs.length
  or : (more = false ∧ s = s0 ∧ (∀ j (hj : j < l.length), j < i → fine s l[j] l[j].needs.length) ∧ fine s x k) ∨ (more = true ∧ trues s < trues s0)
theorem P6.keep {n : Int} {l : List Nd} {s0 : List Bool} {i : Nat} {x : Nd} {k : Nat} {more : Bool} {s : List Bool} (h : P6 n l s0 i x k more s) (hk : k < x.needs.length)
    (ht : (has s x.for_ && !has s x.needs[k]) = false) : P6 n l s0 i x (k + 1) more s := by
  refine ⟨h.sv, hk, ?_⟩
  rcases h.or with ⟨h1, h2, h3, h4⟩ | h1
  · refine .inl ⟨h1, h2, h3, fun hf j hj hlt => ?_⟩
    by_cases e : j = k
    · subst e; simpa [hf] using ht
    · exact h4 hf j hj (by omega)
  · exact .inr h1
theorem P6.drop {n : Int} {l : List Nd} {s0 : List Bool} {i : Nat} {x : Nd} {k : Nat} {more : Bool} {s : List Bool} (h : P6 n l s0 i x k more s) (hk : k < x.needs.length) (hx : inR n x.for_)
    (ht : (has s x.for_ && !has s x.needs[k]) = true) : P6 n l s0 i x (k + 1) true (s.set x.for_.toNat false) := by
  refine ⟨h.sv.set _ _, hk, .inr ⟨rfl, ?_⟩⟩
  rw [Bool.and_eq_true] at ht
  obtain ⟨hlt, hg⟩ := h.sv.get hx
  have h1 : s[x.for_.toNat] = true := by
    rw [List.getElem?_eq_getElem hlt] at hg
    have := Option.some.inj hg
    rw [this]; exact ht.1
  have := trues_set hlt h1
  rcases h.or with ⟨_, h2, _⟩ | ⟨_, h2⟩
  · rw [h2] at this ⊢; exact this
  · omega
theorem law_spec (n : Int) (l : List Nd) (bits : List Bool) : PC Try.prog 3 [tI n, encN l, encB bits] (tB true) := by
  refine PC.have (A := ∀ x ∈ l, x.needs.length ≤ maxLen) (fun w F us h x hx => ?_) fun hmax => ?_
  · obtain ⟨us', h⟩ := relL_tail h
    simp only [TV.relL] at h
    obtain ⟨u, _, _, h, _⟩ := h
    obtain ⟨vs, h⟩ := sl_mem h (List.mem_map.2 ⟨x, hx, rfl⟩)
    obtain ⟨us', h⟩ := relL_tail h
    have := sl_len0 h
    simpa using this
  have hg := greatest_spec n l
  cases hw : wrong n l with
  | true =>
    have e : (greatest n l).2 = 1 := by simp [greatest, rounds, hw]
    rw [e] at hg
    refine PC.of_ok tok Try.func3 rfl (Nat.le_of_ble_eq_true rfl) (ev_sound ctx (own := [25]) _ _ _ ?_)
    refine ⟨greatest_ent, .inl ⟨_, hg, ?_⟩⟩
    exact ⟨fun _ => ⟨sane_ent, .inl ⟨_, sane_spec, rfl⟩⟩, fun h => (by cases h)⟩
  | false =>
    have e : (greatest n l).2 = 0 := by simp [greatest, rounds, hw]
    rw [e] at hg
    obtain ⟨hn0, hn1, hl, hr⟩ := ranges hw
    refine PC.of_ok tok Try.func3 rfl (Nat.le_of_ble_eq_true rfl) (ev_sound ctx (own := [25]) _ _ _ ?_)
    refine ⟨greatest_ent, .inl ⟨_, hg, ?_⟩⟩
    refine ⟨fun h => (by cases h), fun _ => ?_⟩
    refine ⟨hn0, Int.le_refl _, by omega, by simp; omega, ?_⟩
    refine Ok.loop (st := fun x : Nat × List Bool => sv0 n l bits x.1 x.2) (R := fun x => (x.1 : Int) ≤ n ∧ Sv n x.2) (μ := fun x => n.toNat - x.1) (0, List.replicate n.toNat false)
      (Wk.sub ⟨rfl, rfl, rfl, rfl, rfl, rfl, trivial⟩ ⟨congrArg (fun x => some (AO.row 4 1 x)) (by simp [cB]), trivial⟩) ⟨hn0, ⟨by simp⟩⟩ ?_
    rintro ⟨i, s⟩ ⟨hi, hs⟩
    have hi : (i : Int) ≤ n := hi
    have hs : Sv n s := hs
    refine ev_sound ctx (own := [25]) _ _ _ ?_
    refine ⟨fun h => ?_, fun _ => ?_⟩
    · have hlt : (i : Int) < n := of_decide_eq_true h
      have hlen := hs.len
      have hin : inR n i := ⟨by omega, hlt⟩
      refine ⟨cB (bits.getD i false), ?_, ?_⟩
      · intro hG
        have hG : decide ((i : Int) < ((bits.map cB).length : Int)) = true := hG
        have hlt2 : i < bits.length := by have := ltOf hG; simpa using this
        exact ⟨by omega, getB (by simp [hlt2])⟩
      refine ⟨⟨by omega, by simp; omega⟩, cB (has s i), getB (hs.get hin).2, ?_⟩
      refine ⟨trivial, (i + 1, s.set i (decide ((i : Int) < ((bits.map cB).length : Int)) && bits.getD i false)), Wk.sub ⟨slotI (wr1 (n := 100) (by omega) (by simp [maxLen])), rfl, rfl, rfl, rfl, rfl, trivial⟩ ⟨congrArg (fun x => some (AO.row 4 1 x)) (set_cB _ _ _), trivial⟩, ⟨?_, hs.set _ _⟩, ?_⟩
      · show ((i + 1 : Nat) : Int) ≤ n; omega
      · show n.toNat - (i + 1) < n.toNat - i; omega
    · refine Ok.loop (st := fun x : Bool × List Bool => sv2 n l bits x.1 x.2) (R := fun x => Sv n x.2 ∧ (x.1 = false → closed l x.2)) (μ := fun x => 2 * trues x.2 + (if x.1 then 1 else 0)) (true, s)
        (Wk.sub ⟨rfl, rfl, rfl, rfl, rfl, rfl, trivial⟩ ⟨rfl, trivial⟩) ⟨hs, fun h => by cases h⟩ ?_
      rintro ⟨more, s⟩ ⟨hs, hcl⟩
      have hs : Sv n s := hs
      have hcl : more = false → closed l s := hcl
      refine ev_sound ctx (own := [25]) _ _ _ ?_
      refine ⟨fun h => ?_, fun h => ?_⟩
      · have hm : more = true := h
        subst hm
        refine Ok.loop (st := fun x : Nat × Bool × List Bool => sv4 n l bits x.1 x.2.1 x.2.2) (R := fun x => P4 n l s x.1 x.2.1 x.2.2) (μ := fun x => l.length - x.1) (0, false, s)
          (Wk.sub ⟨rfl, rfl, rfl, rfl, rfl, rfl, rfl, trivial⟩ ⟨rfl, trivial⟩) ⟨hs, Nat.zero_le _, .inl ⟨rfl, rfl, fun j _ h => absurd h (Nat.not_lt_zero j)⟩⟩ ?_
        rintro ⟨i, more, s1⟩ H4
        have H4 : P4 n l s i more s1 := H4
        refine ev_sound ctx (own := [25]) _ _ _ ?_
        refine ⟨fun h => ?_, fun h => ?_⟩
        · have hlt : i < l.length := by have := ltOf h; simpa using this
          have hx := hr _ (List.getElem_mem hlt)
          have hxl : l[i].needs.length ≤ maxLen := hmax _ (List.getElem_mem hlt)
          refine Ok.loop (st := fun x : Nat × Bool × List Bool => sv6 n l bits i x.1 x.2.1 x.2.2) (R := fun x => P6 n l s i l[i] x.1 x.2.1 x.2.2) (μ := fun x => l[i].needs.length - x.1) (0, more, s1)
            (Wk.sub ⟨rfl, rfl, rfl, rfl, rfl, rfl, rfl, rfl, trivial⟩ ⟨rfl, trivial⟩) ⟨H4.sv, Nat.zero_le _, ?_⟩ ?_
          · rcases H4.or with ⟨h1, h2, h3⟩ | h1
            · exact .inl ⟨h1, h2, h3, fun _ j _ h => absurd h (Nat.not_lt_zero j)⟩
            · exact .inr h1
          · rintro ⟨k, more2, s2⟩ H6
            have H6 : P6 n l s i l[i] k more2 s2 := H6
            have hl6 := H6.sv.len
            refine ev_sound ctx (own := [25]) _ _ _ ?_
            refine ⟨cN l[i], getM hlt, ?_⟩
            refine ⟨fun h => ?_, fun h => ?_⟩
            · have hk : k < l[i].needs.length := by have := ltOf h; simpa using this
              have hf := H6.sv.get hx.1
              have hm := hx.2 _ (List.getElem_mem hk)
              have hmg := H6.sv.get hm
              have hx1 := hx.1
              refine ⟨cN l[i], getM hlt, ⟨hx1.1, by have := hx1.2; have := hx1.1; simp; omega⟩, cB (has s2 l[i].for_), getB hf.2, ?_⟩
              refine ⟨cN l[i], fun _ => getM hlt, cI l[i].needs[k], fun _ => getM hk, fun _ => ⟨hm.1, by have := hm.2; have := hm.1; simp; omega⟩, cB (has s2 l[i].needs[k]), getB hmg.2, ?_⟩
              refine ⟨fun h2 => ?_, fun h2 => ?_⟩
              · refine ⟨cN l[i], getM hlt, ⟨hx1.1, by have := hx1.2; have := hx1.1; simp; omega⟩, cB (has s2 l[i].for_), getB hf.2, ?_⟩
                exact ⟨trivial, (k + 1, true, s2.set l[i].for_.toNat false), Wk.sub ⟨slotI (wr1 hk hxl), rfl, rfl, rfl, rfl, rfl, rfl, rfl, trivial⟩ ⟨congrArg (fun x => some (AO.row 4 1 x)) (set_cB _ _ _), trivial⟩, H6.drop hk hx1 h2, dec hk⟩
              · exact ⟨trivial, (k + 1, more2, s2), Wk.sub ⟨slotI (wr1 hk hxl), rfl, rfl, rfl, rfl, rfl, rfl, rfl, trivial⟩ ⟨rfl, trivial⟩, H6.keep hk h2, dec hk⟩
            · have hk : l[i].needs.length ≤ k := by have := geOf h; simpa using this
              refine ⟨trivial, (i + 1, more2, s2), Wk.sub ⟨slotI (wr1 (n := 500) (by omega) (by simp [maxLen])), rfl, rfl, rfl, rfl, rfl, rfl, trivial⟩ ⟨rfl, trivial⟩, ⟨H6.sv, hlt, ?_⟩, dec hlt⟩
              rcases H6.or with ⟨h1, h2, h3, h4⟩ | h1
              · refine .inl ⟨h1, h2, fun j hj hji => ?_⟩
                by_cases e : j = i
                · subst e
                  exact fun hf j' hj' hlt' => h4 hf j' hj' (by omega)
                · exact h3 j hj (by omega)
              · exact .inr h1
        · have hge : l.length ≤ i := by have := geOf h; simpa using this
          refine ⟨(more, s1), Wk.sub ⟨rfl, rfl, rfl, rfl, rfl, rfl, trivial⟩ ⟨rfl, trivial⟩, ⟨H4.sv, fun hm x hx => ?_⟩, ?_⟩
          · have hm : more = false := hm
            rcases H4.or with ⟨h1, h2, h3⟩ | ⟨h1, _⟩
            · obtain ⟨j, hj, rfl⟩ := List.mem_iff_getElem.1 hx
              exact h3 j hj (by omega)
            · rw [hm] at h1; cases h1
          · rcases H4.or with ⟨h1, h2, h3⟩ | ⟨h1, h2⟩
            · subst h1; subst h2; simp
            · subst h1; simp; omega
      · have hm : more = false := h
        have hc := hcl hm
        refine Ok.loop (st := fun i : Nat => sv8 n l bits i s) (R := fun i => (i : Int) ≤ n) (μ := fun i => n.toNat - i) 0 (Wk.sub ⟨rfl, rfl, rfl, rfl, rfl, rfl, trivial⟩ ⟨rfl, trivial⟩) hn0 ?_
        intro i hi
        have hi : (i : Int) ≤ n := hi
        refine ev_sound ctx (own := [25]) _ _ _ ?_
        have hlen := hs.len
        refine ⟨fun h => ?_, fun h => ?_⟩
        · have hlt : (i : Int) < n := of_decide_eq_true h
          have hin : inR n i := ⟨by omega, hlt⟩
          refine ⟨⟨by omega, by simp; omega⟩, cB (has s i), getB (hs.get hin).2, ?_⟩
          refine ⟨hasInt_ent, _, fun _ => hasInt_spec (greatest n l).1 i, ?_⟩
          refine ⟨fun h2 => ?_, fun h2 => ?_⟩
          · have h2 : (has s i && !((greatest n l).1.any fun x => x == (i : Int))) = true := h2
            rw [Bool.and_eq_true] at h2
            have := within hw hc i hin h2.1
            have h3 : ((greatest n l).1.any fun x => x == (i : Int)) = true := List.any_eq_true.2 ⟨_, this, by simp⟩
            rw [h3] at h2
            exact absurd h2.2 (by simp)
          · exact ⟨trivial, i + 1, Wk.sub ⟨slotI (wr1 (n := 100) (by omega) (by simp [maxLen])), rfl, rfl, rfl, rfl, rfl, trivial⟩ ⟨rfl, trivial⟩, (by show ((i + 1 : Nat) : Int) ≤ n; omega), (by show n.toNat - (i + 1) < n.toNat - i; omega)⟩
        · exact ⟨sane_ent, .inl ⟨_, sane_spec, rfl⟩⟩
end Go.Proofs.Ytpakohboamfmjac
