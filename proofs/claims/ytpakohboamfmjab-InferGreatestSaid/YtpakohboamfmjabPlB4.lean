/- 'HasInt'. -/
import Derived.Test.YtpakohboamfmjabPlB1
namespace Go.Proofs.Ytpakohboamfmjab
open Go.Proofs.Ytpakohboamfmjab.Pl
set_option maxRecDepth 10000
theorem hasInt_ent : Ent Try.prog 24 := fun a w => Try.call24 a w
theorem hasInt_spec (l : List Int) (v : Int) : PC Try.prog 24 [encI l, tI v] (tB (l.any fun x => x == v)) := by
  refine PC.have (fun w F us h => sl_len0 h) fun hlen => ?_
  have hlen : l.length ≤ maxLen := by simpa using hlen
  refine PC.of_ok tok Try.func24 rfl (Nat.le_of_ble_eq_true rfl) (ev_sound ctx (own := []) _ _ _ ?_)
  refine Ok.loop (st := fun i : Nat => ⟨[(5, vi i), (1, .t (tI v)), (0, .t (encI l))], []⟩) (R := fun i => i ≤ l.length ∧ ∀ j (hj : j < l.length), j < i → (l[j] == v) = false)
    (μ := fun i => l.length - i) 0 (Wk.sub ⟨rfl, rfl, rfl, trivial⟩ trivial) ⟨Nat.zero_le _, fun j _ h => absurd h (Nat.not_lt_zero j)⟩ ?_
  rintro i ⟨hi, hno⟩
  refine ev_sound ctx (own := []) _ _ _ ?_
  refine ⟨fun h => ?_, fun h => ?_⟩
  · have hlt : i < l.length := by have := ltOf h; simpa using this
    refine ⟨_, getM hlt, ?_⟩
    refine ⟨fun h2 => toEq ?_, fun h2 => ?_⟩
    · have h2 : (l[i] == v) = true := h2
      have : (l.any fun x => x == v) = true := List.any_eq_true.2 ⟨_, List.getElem_mem hlt, h2⟩
      rw [this]; rfl
    · exact ⟨trivial, i + 1, Wk.sub ⟨slotI (wr1 hlt hlen), rfl, rfl, trivial⟩ trivial, ⟨hlt, noHit (p := fun x => x == v) hlt hno h2⟩, dec hlt⟩
  · have hge : l.length ≤ i := by have := geOf h; simpa using this
    refine toEq ?_
    have : (l.any fun x => x == v) = false := by
      rw [List.any_eq_false]
      intro x hx
      obtain ⟨j, hj, rfl⟩ := List.mem_iff_getElem.1 hx
      simpa using hno j hj (by omega)
    rw [this]; rfl
end Go.Proofs.Ytpakohboamfmjab
