/- The row and the card of 'LogicLiterals'. -/
import Derived.Test.YtnapockpjklanaaGreatDoorKtB
import Derived.Test.YtnapockpjklanaaGreatDoorRows
import Derived.OpenShut
import Derived.LaidMore
import Derived.LaidSub
import Derived.Lay
import Derived.Stop.Joined
import Derived.MakeChecks
import Derived.Test.YtnapockpjklanaaGreatDoorFmE
import Derived.Test.YtnapockpjklanaaGreatDoorPlE
import Derived.Test.YtnapockpjklanaaGreatDoorKxE
import Derived.Test.YtnapockpjklanaaGreatDoorTie
import Derived.Test.YtnapockpjklanaaGreatDoorCards
import Derived.SevenTiedAt
noncomputable section
set_option linter.all false
namespace Go.Proofs.YtnapockpjklanaaGreatDoor
open Go Go.RowKit Go.Proofs.YtnapockpjklanaaGreatDoor.Pl Go.Proofs.YtnapockpjklanaaGreatDoor.Kx
set_option maxRecDepth 100000
def spaceZ : List Int := List.replicate 9 0 ++ List.replicate 5 1 ++ List.replicate 18 0 ++ [1] ++ List.replicate 223 0
theorem spaces_eq : Go.Proofs.YtnapockpjklanaaGreatDoor.Lit.Kt.spaces = spaceZ.map fun z => .v (.int .u8 z) := by kernel_rfl
theorem relU8 {m : Pm} {n : Nat} : ∀ (zs : List Int), CV.relL m n (zs.map fun z => .v (.int .u8 z)) (zs.map fun z => .int .u8 z)
  | [] => by simp [CV.relL]
  | z :: zs => by
    simp only [List.map_cons, CV.relL, CV.rel]
    exact ⟨_, _, rfl, ⟨rfl, rfl⟩, relU8 zs⟩
theorem oneU8 (zs : List Int) : OneAll (zs.map fun z => .int .u8 z) := by
  intro u hu
  obtain ⟨z, _, rfl⟩ := List.mem_map.1 hu
  rfl
theorem row0 {w : World} {n : String} {g : Nat} {cs : Array Value} {P : Program} (hg : P.globalNamed n = some g) (hv : w.var? P n = some cs) {c : Array Value} {t : TypeId} (hb : w.heap[g]? = some (.cells c t (0, 0))) : w.heap[g]? = some (.cells cs t (0, 0)) := by
  simp only [World.var?, hg, Option.bind_some, hb] at hv
  injection hv with hv
  rw [hb, hv]
theorem arr_cells {P : Program} {w : World} {m : Nat} {e : TypeId} {cs : List Value} {xs : List (DataW Unit × List MemPlace)} (zs : List Int) (he : P.underlying e = some (.int .u8)) (hc : P.cellsOf e = 1) (hlen : cs.length = zs.length) (hl : xs.length = zs.length)
    (e3 : xs.map (·.1) = zs.map fun n => .lit (.int .u8 n)) (hel : ∀ i, i < zs.length → DataW.trod (fun _ => ()) P w 0 (fun _ => true) false m e ((cs.drop (i * P.cellsOf e)).take (P.cellsOf e)) = xs[i]?) : cs = zs.map fun z => .int .u8 z := by
  refine List.ext_getElem? fun r => ?_
  rcases Nat.lt_or_ge r zs.length with hr | hr
  · have hE := hel r hr
    rw [hc, Nat.mul_one, List.getElem?_eq_getElem (by omega)] at hE
    obtain ⟨z, e1, e2, _⟩ := DataW.trod_int he hE
    have e4 : (xs.map (·.1))[r]? = (zs.map fun n => (DataW.lit (.int .u8 n) : DataW Unit))[r]? := by rw [e3]
    rw [List.getElem?_map, List.getElem?_map, List.getElem?_eq_getElem (by omega : r < xs.length), List.getElem?_eq_getElem hr, e2] at e4
    have hz : z = zs[r] := by simpa using e4
    have h0 : ((cs.drop r).take 1)[0]? = some (.int .u8 z) := by rw [e1]; rfl
    rw [List.getElem?_map, List.getElem?_eq_getElem hr]
    simpa [hz] using h0
  · rw [List.getElem?_eq_none (by omega), List.getElem?_eq_none (by rw [List.length_map]; omega)]
theorem global0 {W : World} (h0 : laidMetH Tryz.prog Rows.logicLiteralsRow.laid W) : GRel Go.Proofs.YtnapockpjklanaaGreatDoor.Lit.Kt.Gs W := by
  have h1 := h0.filter fun x => x.1 == "strings.asciiSpace"
  have e : (Rows.logicLiteralsRow.laid.filter fun x => x.1 == "strings.asciiSpace") = [("strings.asciiSpace", Rows.laid_strings_asciiSpace)] := by kernel_rfl
  rw [e, MakeChecks.laidMetH_plain _ _ _ (by kernel_rfl)] at h1
  obtain ⟨ps, ⟨g, t, cs, fuel, p, q, hg, ht, hv, hd, _, rfl⟩, _, hcell⟩ := h1
  obtain rfl := Option.some.inj ((show Tryz.prog.globalNamed "strings.asciiSpace" = some 0 by kernel_rfl).symm.trans hg)
  obtain rfl := Option.some.inj ((show (Tryz.prog.globals[0]?).map (·.type) = some 183 by kernel_rfl).symm.trans ht)
  have hdat : (Rows.laid_strings_asciiSpace : DataW Unit) = .agg (spaceZ.map fun n => .lit (.int .u8 n)) := by kernel_rfl
  rw [hdat] at hd
  obtain ⟨xs, m, _, ex, hlen, hl, hel⟩ := DataW.trod_array Tryz.underlying183 hd
  have c5 : Tryz.prog.cellsOf 5 = 1 := by kernel_rfl
  have cT : Tryz.prog.cellsOf 183 = 256 := by kernel_rfl
  have e3 : (xs.map (·.1)) = spaceZ.map fun n => .lit (.int .u8 n) := (DataW.agg.inj (Prod.mk.inj ex).1).symm
  have hzl : spaceZ.length = 256 := by kernel_rfl
  have hcs : cs.toList = spaceZ.map fun z => .int .u8 z := arr_cells spaceZ Tryz.underlying5 c5 (by rw [hlen, cT, hzl]) (by rw [hl, hzl]) e3 (fun i hi => hel i (by rw [← hzl]; exact hi))
  have hsz : cs.size = 256 := by rw [← Array.length_toList, hlen, cT]
  obtain ⟨⟨c, t, hb⟩, _⟩ := hcell 0 0 (by
    simp only [List.mem_append]
    refine .inl (.inl ?_)
    rw [hsz]
    simp [MemPlace.row])
  have hb' := row0 hg hv hb
  have hG : ∀ g cs', Go.Proofs.YtnapockpjklanaaGreatDoor.Lit.Kt.Gs g = some cs' → g = 0 ∧ cs' = Go.Proofs.YtnapockpjklanaaGreatDoor.Lit.Kt.spaces := by
    intro g cs' h
    cases g with
    | zero => exact ⟨rfl, (Option.some.inj h).symm⟩
    | succ g => cases h
  intro g cs' hg'
  obtain ⟨rfl, rfl⟩ := hG g cs' hg'
  refine ⟨spaceZ.map fun z => .int .u8 z, t, ?_, ?_, oneU8 _⟩
  · rw [← hcs, Array.toArray_toList]; exact hb'
  · rw [spaces_eq]; exact relU8 _
end Go.Proofs.YtnapockpjklanaaGreatDoor
end

noncomputable section
set_option linter.all false
namespace Go.Proofs.YtnapockpjklanaaGreatDoor
open Go Go.Proofs.YtnapockpjklanaaGreatDoor.Pl Go.ChangeShapes Go.WideShapes Go.ChangeAt Go.RowKit
open Go.Proofs.YtnapockpjklanaaGreatDoor.Lit

theorem Tryz.own : ownKnob Tryz.prog.godebug = none := by kernel_rfl
theorem Tryz.laidOut : laidOutB Tryz.prog = true := by kernel_rfl
set_option maxRecDepth 100000 in
theorem lifted (os : Os) (started : os.Started) (H : Type) (enc : TypeId × Value → H) :
    ReturnsInHanded {} Tryz.checked os 3 .any (fun w args => (Rows.logicLiteralsSpec.pre enc Tryz.prog Tryz.f3 Rows.logicLiteralsRow.domain false w args ∧ laidMetH Tryz.prog Rows.logicLiteralsRow.laid w) ∧ sizedMet enc Tryz.prog Tryz.f3 (OpenSpec.ofChange Rows.logicLiteralsSpec) false w args)
      (Rows.logicLiteralsSpec.post enc Tryz.prog Tryz.f3 false true false false) := by
  refine @row_laid (Kx.gmOf Kt.Gs) H enc Tryz.checked os 3 Tryz.f3 Rows.logicLiteralsSpec Rows.logicLiteralsRow.domain true tab [24, 3, 9, 22] [24] 4 Rows.logicLiteralsRow.laid Tryz.own started (by kernel_rfl) Tryz.func3 Tryz.laidOut
    (ChangeSpec.witness_shaped (enc := enc) (C := Tryz.checked) (os := os) (X := fun w _ => laidMetH Tryz.prog Rows.logicLiteralsRow.laid w) false (World.laidAll Tryz.prog os Rows.logicLiteralsRow.laid) #[.agg #[.int .i64 0, .int .i64 0, .string ⟨#[]⟩, .slice none 0 0]] 8 (World.laidAll_os _ _ _)
      (World.shaped_of_ZipB (by kernel_rfl) (by kernel_rfl)) (by kernel_rfl) (by kernel_rfl) (by kernel_rfl)
      (by rw [MakeChecks.laidMetH_plain _ _ _ (by kernel_rfl)]; exact laidMet_laidAll _ (by kernel_rfl) (by kernel_rfl)))
    tok (by kernel_rfl) rfl (by decide) (by decide +kernel) rfl Tryz.underlying4 rfl ?_ ?_ ?_
  · intro ds h
    match ds, h with
    | [d1], _ => exact ⟨rfl, rfl, rfl⟩
  · exact fun W h => global0 h
  · rintro xs ⟨x, r, rfl, ⟨n, hx⟩, rfl⟩
    obtain ⟨f, hf, hle⟩ := @form_of (Kx.gmOf Kt.Gs) n x hx
    exact @PC.le (Kx.gmOf Kt.Gs) Tryz.prog 3 [x] [f.enc] (.v (.bool true)) (.v (.bool true)) ⟨hle, trivial⟩ (TV.le_refl _) (@law_spec (Kx.gmOf Kt.Gs) f hf (Kx.MemoOK.pc Kt.sane (@sane_ent (Kx.gmOf Kt.Gs))))

end Go.Proofs.YtnapockpjklanaaGreatDoor
end
