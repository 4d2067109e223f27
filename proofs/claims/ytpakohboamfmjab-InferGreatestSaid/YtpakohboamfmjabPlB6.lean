/- 'InferGreatest': what the law answers. -/
import Derived.Test.YtpakohboamfmjabPlB3
import Derived.Test.YtpakohboamfmjabPlB5
namespace Go.Proofs.Ytpakohboamfmjab
open Go.Proofs.Ytpakohboamfmjab.Pl
set_option maxRecDepth 10000
def stK (n : Int) (l : List Nd) (i : Nat) (k : Int) : St := ⟨[(6, vi i), (5, vi k), (1, .t (encN l)), (0, vi n)], []⟩
def stR (rows : List (List Int)) (i : Nat) : St := ⟨[(15, vi i), (13, .t (encII rows)), (11, .t (encII rows))], []⟩
theorem law_spec (n : Int) (l : List Nd) (hl : l.length * 32 ≤ 140737488355328) : PC Try.prog 3 [tI n, encN l] (tB true) := by
  refine PC.have (A := l.length ≤ maxLen) (fun w F us h => ?_) fun hlen => ?_
  · obtain ⟨us', h⟩ := relL_tail h
    have := sl_len0 h
    simpa using this
  have hrows : (rounds n l).1.length ≤ 101 := by
    cases hw : wrong n l with
    | true => simp [rounds, hw]
    | false =>
      have := tailOf_len l (iota n.toNat)
      rw [iota_len] at this
      simp only [rounds, hw, Bool.false_eq_true, if_false, List.length_cons]
      simp only [wrong, Bool.or_eq_false_iff, decide_eq_false_iff_not] at hw
      omega
  refine PC.of_ok tok Try.func3 rfl (Nat.le_of_ble_eq_true rfl) (ev_sound ctx (own := []) _ _ _ ?_)
  refine Ok.loop (st := fun x : Nat × Int => stK n l x.1 x.2) (R := fun x => x.1 ≤ l.length) (μ := fun x => l.length - x.1) (0, 0) (Wk.sub ⟨rfl, rfl, rfl, rfl, trivial⟩ trivial) (Nat.zero_le _) ?_
  rintro ⟨i, k⟩ hi
  have hi : i ≤ l.length := hi
  refine ev_sound ctx (own := []) _ _ _ ?_
  refine ⟨fun h => ?_, fun _ => ?_⟩
  · have hlt : i < l.length := by have := ltOf h; simpa using this
    refine ⟨trivial, cN l[i], getM hlt, trivial, trivial, ?_⟩
    exact ⟨(i + 1, _), Wk.sub ⟨slotI (wr1 hlt hlen), rfl, rfl, rfl, trivial⟩ trivial, hlt, dec hlt⟩
  · refine ⟨fun _ => ⟨sane_ent, .inl ⟨_, sane_spec, rfl⟩⟩, fun _ => ?_⟩
    have hg := greatest_spec n l
    have hr := rounds_spec n l
    have hg' := refGreatest_spec n l
    have hr' := refRounds_spec n l
    simp only [greatest] at hg hg'
    generalize rounds n l = q at hg hr hg' hr' hrows
    obtain ⟨rows, e⟩ := q
    simp only at hg hr hg' hr' hrows
    refine ⟨greatest_ent, .inl ⟨_, hg, ?_⟩⟩
    refine ⟨needs_ent, .inl ⟨_, needs_spec l hl, ?_⟩⟩
    refine ⟨refGreatest_ent, .inl ⟨_, hg', ?_⟩⟩
    refine ⟨rounds_ent, .inl ⟨_, hr, ?_⟩⟩
    refine ⟨needs_ent, .inl ⟨_, needs_spec l hl, ?_⟩⟩
    refine ⟨refRounds_ent, .inl ⟨_, hr', ?_⟩⟩
    refine ⟨ints_ent, .inl ⟨_, ints_spec _ _, ?_⟩⟩
    refine ⟨fun h => ?_, fun _ => ?_⟩
    · have h : (!(rows.getLastD [] == rows.getLastD []) || (e != e) || (e != e) || (((rows.map cII).length : Int) != ((rows.map cII).length : Int))) = true := h
      simp at h
    · refine Ok.loop (st := stR rows) (R := fun i => i ≤ rows.length) (μ := fun i => rows.length - i) 0 (Wk.sub ⟨rfl, rfl, rfl, trivial⟩ trivial) (Nat.zero_le _) ?_
      intro i hi
      have hi : i ≤ rows.length := hi
      refine ev_sound ctx (own := []) _ _ _ ?_
      refine ⟨fun h => ?_, fun _ => ⟨sane_ent, .inl ⟨_, sane_spec, rfl⟩⟩⟩
      have hlt : i < rows.length := by have := ltOf h; simpa using this
      refine ⟨cII rows[i], fun _ => getM hlt, cII rows[i], fun _ => getM hlt, ?_⟩
      refine ⟨ints_ent, tB (rows[i] == rows[i]), fun _ => ints_spec _ _, ?_⟩
      refine ⟨fun h => ?_, fun h => ?_⟩
      · have h : (!(rows[i] == rows[i])) = true := h
        simp at h
      · exact ⟨trivial, i + 1, Wk.sub ⟨slotI (wr1 (n := 101) (by omega) (by simp [maxLen])), rfl, rfl, trivial⟩ trivial, hlt, dec hlt⟩
end Go.Proofs.Ytpakohboamfmjab
