/- inner: which kids are forms. -/
import Derived.Test.YtnapockpjklanaaGreatDoorFmB
noncomputable section
set_option linter.all false
namespace Go.Proofs.YtnapockpjklanaaGreatDoor.Lit
open Go Go.RowKit Go.Proofs.YtnapockpjklanaaGreatDoor.Pl
set_option linter.unusedSectionVars false
variable [Gm]
set_option maxRecDepth 10000

def cI (n : Nat) : List TV := [tI n]
def encN (l : List Nat) : TV := .sl 1 (l.map cI)
def is (l : List UInt8) (s : ByteArray) : Bool := l == s.toList
def bnd (l : List UInt8) (n : Nat) : Nat × Nat :=
  if is l ⟨#[99, 97, 108, 108]⟩ || is l ⟨#[109, 97, 107, 101]⟩ || is l ⟨#[103, 101, 116]⟩ || is l ⟨#[105, 115]⟩ then (2, n)
  else if is l ⟨#[100, 105, 118]⟩ || is l ⟨#[109, 111, 100]⟩ then (1, min n 2)
  else if is l ⟨#[98, 105, 116, 115]⟩ || is l ⟨#[119, 105, 116]⟩ then (1, 1) else (1, n)
def upTo (a b : Nat) : List Nat := List.range' a (b - a)
def innerOf (f : Fm) : List Nat := if is (headOf f).toList ⟨#[]⟩ then [] else upTo (bnd (headOf f).toList f.kids.length).1 (bnd (headOf f).toList f.kids.length).2
theorem upTo_succ {a i : Nat} (h : a ≤ i) : upTo a (i + 1) = upTo a i ++ [i] := by
  unfold upTo
  rw [show i + 1 - a = (i - a) + 1 by omega, List.range'_concat, show a + 1 * (i - a) = i by omega]

def innSt (b i a : Nat) : St := ⟨[(6, vi i), (5, .sl 37), (4, vi b)], [(37, .row 3 1 ((upTo a i).map cI))]⟩
theorem inner_ent : Ent Tryz.prog 16 := fun a w => Tryz.call16 a w
set_option maxHeartbeats 80000000 in
theorem inner_spec (f : Fm) (hf : Fit f) : PC Tryz.prog 16 [f.enc] (encN (innerOf f)) := by
  have hh := rhead_spec f
  have hi : innerOf f = if is (headOf f).toList ⟨#[]⟩ then [] else upTo (bnd (headOf f).toList f.kids.length).1 (bnd (headOf f).toList f.kids.length).2 := rfl
  generalize headOf f = hd at hh hi
  obtain ⟨k, n, t, ks⟩ := f
  have hkl : ks.length ≤ maxLen := by cases hf with | mk h _ _ => exact h
  have hkb : ks.length * 56 ≤ 140737488355328 := by cases hf with | mk _ h _ => exact h
  refine PC.of_okL tok Tryz.func16 rfl (Nat.le_of_ble_eq_true rfl) (ev_sound ctx (own := [37]) _ _ _ ?_)
  refine ⟨rhead_ent, .inl ⟨_, hh, ?_⟩⟩
  refine ⟨fun h0 => ?_, fun h0 => ?_⟩
  · have h0 : is hd.toList ⟨#[]⟩ = true := h0
    rw [hi, h0, if_pos rfl]
    exact TV.nil_le 1 (by decide)
  have h0 : is hd.toList ⟨#[]⟩ = false := h0
  have hend : ∀ (x : Nat × Nat), bnd hd.toList ks.length = x → innerOf (.mk k n t ks) = upTo x.1 x.2 := by
    intro x hx; rw [hi, h0, if_neg (by simp)]; show upTo (bnd hd.toList ks.length).1 (bnd hd.toList ks.length).2 = _; rw [hx]
  refine ⟨fun e1 => ?_, fun e1 => ?_⟩
  · have e1 : is hd.toList ⟨#[99, 97, 108, 108]⟩ = true := e1
    refine ⟨fun _ => ?_, fun h => absurd (e1.symm.trans h) (by simp)⟩
    rw [hend (2, ks.length) (by first | (simp only [bnd, e1, Bool.true_or, Bool.or_true, Bool.false_or, Bool.or_false, if_true, Bool.false_eq_true, if_false]; done) | (simp only [bnd, e1, Bool.true_or, Bool.or_true, Bool.false_or, Bool.or_false, if_true, Bool.false_eq_true, if_false]; rfl))]
    refine Ok.loop (st := fun i : Nat => innSt (ks.length) i 2) (R := fun i => 2 ≤ i ∧ (i ≤ ks.length ∨ i = 2)) (μ := fun i => ks.length - i) 2 ((Wk.nil 5 37 3 1 (by decide) rfl).trans (Wk.sub ⟨rfl, rfl, slotI (by simp [rows_len]), trivial⟩ ⟨congrArg (fun x => some (AO.row 3 1 x)) (by simp [upTo]), trivial⟩)) ⟨Nat.le_refl _, .inr rfl⟩ ?_
    rintro i ⟨hia, hib⟩
    refine ev_sound ctx (own := [37]) _ _ _ ?_
    refine ⟨fun h => ?_, fun h => ?_⟩
    · have hlt : i < ks.length := ltOf h
      have hbk : ks.length ≤ ks.length + 1 := by omega
      have hul : ((upTo 2 i).map cI).length = i - 2 := by simp [upTo]
      refine ⟨?_, ?_, trivial, i + 1, Wk.sub ⟨slotI (wr1 hlt (by simp only [maxLen] at hkl ⊢; omega)), rfl, rfl, trivial⟩ ⟨congrArg (fun x => some (AO.row 3 1 x)) (by rw [upTo_succ hia, List.map_append]; rfl), trivial⟩, ⟨by omega, .inl hlt⟩, dec hlt⟩
      · rw [hul]; simp; omega
      · rw [hul]; simp [maxLen] at hkl ⊢; omega
    · have hge : ks.length ≤ i := geOf h
      have e : upTo 2 i = upTo 2 (ks.length) := by
        rcases hib with h1 | h1
        · rw [Nat.le_antisymm h1 hge]
        · subst h1; unfold upTo; first | rfl | (congr 1; omega) | (congr 1)
      show TV.le (encN (upTo 2 i)) _
      rw [e]; exact TV.le_refl _
  have e1 : is hd.toList ⟨#[99, 97, 108, 108]⟩ = false := e1
  refine ⟨fun e2 => ?_, fun e2 => ?_⟩
  · have e2 : is hd.toList ⟨#[109, 97, 107, 101]⟩ = true := e2
    refine ⟨fun _ => ?_, fun h => absurd (e2.symm.trans h) (by simp)⟩
    rw [hend (2, ks.length) (by first | (simp only [bnd, e1, e2, Bool.true_or, Bool.or_true, Bool.false_or, Bool.or_false, if_true, Bool.false_eq_true, if_false]; done) | (simp only [bnd, e1, e2, Bool.true_or, Bool.or_true, Bool.false_or, Bool.or_false, if_true, Bool.false_eq_true, if_false]; rfl))]
    refine Ok.loop (st := fun i : Nat => innSt (ks.length) i 2) (R := fun i => 2 ≤ i ∧ (i ≤ ks.length ∨ i = 2)) (μ := fun i => ks.length - i) 2 ((Wk.nil 5 37 3 1 (by decide) rfl).trans (Wk.sub ⟨rfl, rfl, slotI (by simp [rows_len]), trivial⟩ ⟨congrArg (fun x => some (AO.row 3 1 x)) (by simp [upTo]), trivial⟩)) ⟨Nat.le_refl _, .inr rfl⟩ ?_
    rintro i ⟨hia, hib⟩
    refine ev_sound ctx (own := [37]) _ _ _ ?_
    refine ⟨fun h => ?_, fun h => ?_⟩
    · have hlt : i < ks.length := ltOf h
      have hbk : ks.length ≤ ks.length + 1 := by omega
      have hul : ((upTo 2 i).map cI).length = i - 2 := by simp [upTo]
      refine ⟨?_, ?_, trivial, i + 1, Wk.sub ⟨slotI (wr1 hlt (by simp only [maxLen] at hkl ⊢; omega)), rfl, rfl, trivial⟩ ⟨congrArg (fun x => some (AO.row 3 1 x)) (by rw [upTo_succ hia, List.map_append]; rfl), trivial⟩, ⟨by omega, .inl hlt⟩, dec hlt⟩
      · rw [hul]; simp; omega
      · rw [hul]; simp [maxLen] at hkl ⊢; omega
    · have hge : ks.length ≤ i := geOf h
      have e : upTo 2 i = upTo 2 (ks.length) := by
        rcases hib with h1 | h1
        · rw [Nat.le_antisymm h1 hge]
        · subst h1; unfold upTo; first | rfl | (congr 1; omega) | (congr 1)
      show TV.le (encN (upTo 2 i)) _
      rw [e]; exact TV.le_refl _
  have e2 : is hd.toList ⟨#[109, 97, 107, 101]⟩ = false := e2
  refine ⟨fun e3 => ?_, fun e3 => ?_⟩
  · have e3 : is hd.toList ⟨#[103, 101, 116]⟩ = true := e3
    refine ⟨fun _ => ?_, fun h => absurd (e3.symm.trans h) (by simp)⟩
    rw [hend (2, ks.length) (by first | (simp only [bnd, e1, e2, e3, Bool.true_or, Bool.or_true, Bool.false_or, Bool.or_false, if_true, Bool.false_eq_true, if_false]; done) | (simp only [bnd, e1, e2, e3, Bool.true_or, Bool.or_true, Bool.false_or, Bool.or_false, if_true, Bool.false_eq_true, if_false]; rfl))]
    refine Ok.loop (st := fun i : Nat => innSt (ks.length) i 2) (R := fun i => 2 ≤ i ∧ (i ≤ ks.length ∨ i = 2)) (μ := fun i => ks.length - i) 2 ((Wk.nil 5 37 3 1 (by decide) rfl).trans (Wk.sub ⟨rfl, rfl, slotI (by simp [rows_len]), trivial⟩ ⟨congrArg (fun x => some (AO.row 3 1 x)) (by simp [upTo]), trivial⟩)) ⟨Nat.le_refl _, .inr rfl⟩ ?_
    rintro i ⟨hia, hib⟩
    refine ev_sound ctx (own := [37]) _ _ _ ?_
    refine ⟨fun h => ?_, fun h => ?_⟩
    · have hlt : i < ks.length := ltOf h
      have hbk : ks.length ≤ ks.length + 1 := by omega
      have hul : ((upTo 2 i).map cI).length = i - 2 := by simp [upTo]
      refine ⟨?_, ?_, trivial, i + 1, Wk.sub ⟨slotI (wr1 hlt (by simp only [maxLen] at hkl ⊢; omega)), rfl, rfl, trivial⟩ ⟨congrArg (fun x => some (AO.row 3 1 x)) (by rw [upTo_succ hia, List.map_append]; rfl), trivial⟩, ⟨by omega, .inl hlt⟩, dec hlt⟩
      · rw [hul]; simp; omega
      · rw [hul]; simp [maxLen] at hkl ⊢; omega
    · have hge : ks.length ≤ i := geOf h
      have e : upTo 2 i = upTo 2 (ks.length) := by
        rcases hib with h1 | h1
        · rw [Nat.le_antisymm h1 hge]
        · subst h1; unfold upTo; first | rfl | (congr 1; omega) | (congr 1)
      show TV.le (encN (upTo 2 i)) _
      rw [e]; exact TV.le_refl _
  have e3 : is hd.toList ⟨#[103, 101, 116]⟩ = false := e3
  refine ⟨fun e4 => ?_, fun e4 => ?_⟩
  · have e4 : is hd.toList ⟨#[105, 115]⟩ = true := e4
    rw [hend (2, ks.length) (by first | (simp only [bnd, e1, e2, e3, e4, Bool.true_or, Bool.or_true, Bool.false_or, Bool.or_false, if_true, Bool.false_eq_true, if_false]; done) | (simp only [bnd, e1, e2, e3, e4, Bool.true_or, Bool.or_true, Bool.false_or, Bool.or_false, if_true, Bool.false_eq_true, if_false]; rfl))]
    refine Ok.loop (st := fun i : Nat => innSt (ks.length) i 2) (R := fun i => 2 ≤ i ∧ (i ≤ ks.length ∨ i = 2)) (μ := fun i => ks.length - i) 2 ((Wk.nil 5 37 3 1 (by decide) rfl).trans (Wk.sub ⟨rfl, rfl, slotI (by simp [rows_len]), trivial⟩ ⟨congrArg (fun x => some (AO.row 3 1 x)) (by simp [upTo]), trivial⟩)) ⟨Nat.le_refl _, .inr rfl⟩ ?_
    rintro i ⟨hia, hib⟩
    refine ev_sound ctx (own := [37]) _ _ _ ?_
    refine ⟨fun h => ?_, fun h => ?_⟩
    · have hlt : i < ks.length := ltOf h
      have hbk : ks.length ≤ ks.length + 1 := by omega
      have hul : ((upTo 2 i).map cI).length = i - 2 := by simp [upTo]
      refine ⟨?_, ?_, trivial, i + 1, Wk.sub ⟨slotI (wr1 hlt (by simp only [maxLen] at hkl ⊢; omega)), rfl, rfl, trivial⟩ ⟨congrArg (fun x => some (AO.row 3 1 x)) (by rw [upTo_succ hia, List.map_append]; rfl), trivial⟩, ⟨by omega, .inl hlt⟩, dec hlt⟩
      · rw [hul]; simp; omega
      · rw [hul]; simp [maxLen] at hkl ⊢; omega
    · have hge : ks.length ≤ i := geOf h
      have e : upTo 2 i = upTo 2 (ks.length) := by
        rcases hib with h1 | h1
        · rw [Nat.le_antisymm h1 hge]
        · subst h1; unfold upTo; first | rfl | (congr 1; omega) | (congr 1)
      show TV.le (encN (upTo 2 i)) _
      rw [e]; exact TV.le_refl _
  have e4 : is hd.toList ⟨#[105, 115]⟩ = false := e4
  refine ⟨fun e5 => ?_, fun e5 => ?_⟩
  · have e5 : is hd.toList ⟨#[100, 105, 118]⟩ = true := e5
    refine ⟨fun _ => ?_, fun h => absurd (e5.symm.trans h) (by simp)⟩
    rw [hend (1, min ks.length 2) (by first | (simp only [bnd, e1, e2, e3, e4, e5, Bool.true_or, Bool.or_true, Bool.false_or, Bool.or_false, if_true, Bool.false_eq_true, if_false]; done) | (simp only [bnd, e1, e2, e3, e4, e5, Bool.true_or, Bool.or_true, Bool.false_or, Bool.or_false, if_true, Bool.false_eq_true, if_false]; rfl))]
    refine Ok.loop (st := fun i : Nat => innSt (min ks.length 2) i 1) (R := fun i => 1 ≤ i ∧ (i ≤ min ks.length 2 ∨ i = 1)) (μ := fun i => min ks.length 2 - i) 1 ((Wk.nil 5 37 3 1 (by decide) rfl).trans (Wk.sub ⟨rfl, rfl, slotI (by simp [rows_len]; omega), trivial⟩ ⟨congrArg (fun x => some (AO.row 3 1 x)) (by simp [upTo]), trivial⟩)) ⟨Nat.le_refl _, .inr rfl⟩ ?_
    rintro i ⟨hia, hib⟩
    refine ev_sound ctx (own := [37]) _ _ _ ?_
    refine ⟨fun h => ?_, fun h => ?_⟩
    · have hlt : i < min ks.length 2 := ltOf h
      have hbk : min ks.length 2 ≤ ks.length + 1 := by omega
      have hul : ((upTo 1 i).map cI).length = i - 1 := by simp [upTo]
      refine ⟨?_, ?_, trivial, i + 1, Wk.sub ⟨slotI (wr1 hlt (by simp only [maxLen] at hkl ⊢; omega)), rfl, rfl, trivial⟩ ⟨congrArg (fun x => some (AO.row 3 1 x)) (by rw [upTo_succ hia, List.map_append]; rfl), trivial⟩, ⟨by omega, .inl hlt⟩, dec hlt⟩
      · rw [hul]; simp; omega
      · rw [hul]; simp [maxLen] at hkl ⊢; omega
    · have hge : min ks.length 2 ≤ i := geOf h
      have e : upTo 1 i = upTo 1 (min ks.length 2) := by
        rcases hib with h1 | h1
        · rw [Nat.le_antisymm h1 hge]
        · subst h1; unfold upTo; first | rfl | (congr 1; omega) | (congr 1)
      show TV.le (encN (upTo 1 i)) _
      rw [e]; exact TV.le_refl _
  have e5 : is hd.toList ⟨#[100, 105, 118]⟩ = false := e5
  refine ⟨fun e6 => ?_, fun e6 => ?_⟩
  · have e6 : is hd.toList ⟨#[109, 111, 100]⟩ = true := e6
    rw [hend (1, min ks.length 2) (by first | (simp only [bnd, e1, e2, e3, e4, e5, e6, Bool.true_or, Bool.or_true, Bool.false_or, Bool.or_false, if_true, Bool.false_eq_true, if_false]; done) | (simp only [bnd, e1, e2, e3, e4, e5, e6, Bool.true_or, Bool.or_true, Bool.false_or, Bool.or_false, if_true, Bool.false_eq_true, if_false]; rfl))]
    refine Ok.loop (st := fun i : Nat => innSt (min ks.length 2) i 1) (R := fun i => 1 ≤ i ∧ (i ≤ min ks.length 2 ∨ i = 1)) (μ := fun i => min ks.length 2 - i) 1 ((Wk.nil 5 37 3 1 (by decide) rfl).trans (Wk.sub ⟨rfl, rfl, slotI (by simp [rows_len]; omega), trivial⟩ ⟨congrArg (fun x => some (AO.row 3 1 x)) (by simp [upTo]), trivial⟩)) ⟨Nat.le_refl _, .inr rfl⟩ ?_
    rintro i ⟨hia, hib⟩
    refine ev_sound ctx (own := [37]) _ _ _ ?_
    refine ⟨fun h => ?_, fun h => ?_⟩
    · have hlt : i < min ks.length 2 := ltOf h
      have hbk : min ks.length 2 ≤ ks.length + 1 := by omega
      have hul : ((upTo 1 i).map cI).length = i - 1 := by simp [upTo]
      refine ⟨?_, ?_, trivial, i + 1, Wk.sub ⟨slotI (wr1 hlt (by simp only [maxLen] at hkl ⊢; omega)), rfl, rfl, trivial⟩ ⟨congrArg (fun x => some (AO.row 3 1 x)) (by rw [upTo_succ hia, List.map_append]; rfl), trivial⟩, ⟨by omega, .inl hlt⟩, dec hlt⟩
      · rw [hul]; simp; omega
      · rw [hul]; simp [maxLen] at hkl ⊢; omega
    · have hge : min ks.length 2 ≤ i := geOf h
      have e : upTo 1 i = upTo 1 (min ks.length 2) := by
        rcases hib with h1 | h1
        · rw [Nat.le_antisymm h1 hge]
        · subst h1; unfold upTo; first | rfl | (congr 1; omega) | (congr 1)
      show TV.le (encN (upTo 1 i)) _
      rw [e]; exact TV.le_refl _
  have e6 : is hd.toList ⟨#[109, 111, 100]⟩ = false := e6
  refine ⟨fun e7 => ?_, fun e7 => ?_⟩
  · have e7 : is hd.toList ⟨#[98, 105, 116, 115]⟩ = true := e7
    refine ⟨fun _ => ?_, fun h => absurd (e7.symm.trans h) (by simp)⟩
    rw [hend (1, 1) (by first | (simp only [bnd, e1, e2, e3, e4, e5, e6, e7, Bool.true_or, Bool.or_true, Bool.false_or, Bool.or_false, if_true, Bool.false_eq_true, if_false]; done) | (simp only [bnd, e1, e2, e3, e4, e5, e6, e7, Bool.true_or, Bool.or_true, Bool.false_or, Bool.or_false, if_true, Bool.false_eq_true, if_false]; rfl))]
    refine Ok.loop (st := fun i : Nat => innSt (1) i 1) (R := fun i => 1 ≤ i ∧ (i ≤ 1 ∨ i = 1)) (μ := fun i => 1 - i) 1 ((Wk.nil 5 37 3 1 (by decide) rfl).trans (Wk.sub ⟨rfl, rfl, slotI (rfl), trivial⟩ ⟨congrArg (fun x => some (AO.row 3 1 x)) (by simp [upTo]), trivial⟩)) ⟨Nat.le_refl _, .inr rfl⟩ ?_
    rintro i ⟨hia, hib⟩
    refine ev_sound ctx (own := [37]) _ _ _ ?_
    refine ⟨fun h => ?_, fun h => ?_⟩
    · have hlt : i < 1 := ltOf h
      have hbk : 1 ≤ ks.length + 1 := by omega
      have hul : ((upTo 1 i).map cI).length = i - 1 := by simp [upTo]
      refine ⟨?_, ?_, trivial, i + 1, Wk.sub ⟨slotI (wr1 hlt (by simp only [maxLen] at hkl ⊢; omega)), rfl, rfl, trivial⟩ ⟨congrArg (fun x => some (AO.row 3 1 x)) (by rw [upTo_succ hia, List.map_append]; rfl), trivial⟩, ⟨by omega, .inl hlt⟩, dec hlt⟩
      · rw [hul]; simp; omega
      · rw [hul]; simp [maxLen] at hkl ⊢; omega
    · have hge : 1 ≤ i := geOf h
      have e : upTo 1 i = upTo 1 (1) := by
        rcases hib with h1 | h1
        · rw [Nat.le_antisymm h1 hge]
        · subst h1; unfold upTo; first | rfl | (congr 1; omega) | (congr 1)
      show TV.le (encN (upTo 1 i)) _
      rw [e]; exact TV.le_refl _
  have e7 : is hd.toList ⟨#[98, 105, 116, 115]⟩ = false := e7
  refine ⟨fun e8 => ?_, fun e8 => ?_⟩
  · have e8 : is hd.toList ⟨#[119, 105, 116]⟩ = true := e8
    rw [hend (1, 1) (by first | (simp only [bnd, e1, e2, e3, e4, e5, e6, e7, e8, Bool.true_or, Bool.or_true, Bool.false_or, Bool.or_false, if_true, Bool.false_eq_true, if_false]; done) | (simp only [bnd, e1, e2, e3, e4, e5, e6, e7, e8, Bool.true_or, Bool.or_true, Bool.false_or, Bool.or_false, if_true, Bool.false_eq_true, if_false]; rfl))]
    refine Ok.loop (st := fun i : Nat => innSt (1) i 1) (R := fun i => 1 ≤ i ∧ (i ≤ 1 ∨ i = 1)) (μ := fun i => 1 - i) 1 ((Wk.nil 5 37 3 1 (by decide) rfl).trans (Wk.sub ⟨rfl, rfl, slotI (rfl), trivial⟩ ⟨congrArg (fun x => some (AO.row 3 1 x)) (by simp [upTo]), trivial⟩)) ⟨Nat.le_refl _, .inr rfl⟩ ?_
    rintro i ⟨hia, hib⟩
    refine ev_sound ctx (own := [37]) _ _ _ ?_
    refine ⟨fun h => ?_, fun h => ?_⟩
    · have hlt : i < 1 := ltOf h
      have hbk : 1 ≤ ks.length + 1 := by omega
      have hul : ((upTo 1 i).map cI).length = i - 1 := by simp [upTo]
      refine ⟨?_, ?_, trivial, i + 1, Wk.sub ⟨slotI (wr1 hlt (by simp only [maxLen] at hkl ⊢; omega)), rfl, rfl, trivial⟩ ⟨congrArg (fun x => some (AO.row 3 1 x)) (by rw [upTo_succ hia, List.map_append]; rfl), trivial⟩, ⟨by omega, .inl hlt⟩, dec hlt⟩
      · rw [hul]; simp; omega
      · rw [hul]; simp [maxLen] at hkl ⊢; omega
    · have hge : 1 ≤ i := geOf h
      have e : upTo 1 i = upTo 1 (1) := by
        rcases hib with h1 | h1
        · rw [Nat.le_antisymm h1 hge]
        · subst h1; unfold upTo; first | rfl | (congr 1; omega) | (congr 1)
      show TV.le (encN (upTo 1 i)) _
      rw [e]; exact TV.le_refl _
  have e8 : is hd.toList ⟨#[119, 105, 116]⟩ = false := e8
  rw [hend (1, ks.length) (by first | (simp only [bnd, e1, e2, e3, e4, e5, e6, e7, e8, Bool.true_or, Bool.or_true, Bool.false_or, Bool.or_false, if_true, Bool.false_eq_true, if_false]; done) | (simp only [bnd, e1, e2, e3, e4, e5, e6, e7, e8, Bool.true_or, Bool.or_true, Bool.false_or, Bool.or_false, if_true, Bool.false_eq_true, if_false]; rfl))]
  refine Ok.loop (st := fun i : Nat => innSt (ks.length) i 1) (R := fun i => 1 ≤ i ∧ (i ≤ ks.length ∨ i = 1)) (μ := fun i => ks.length - i) 1 ((Wk.nil 5 37 3 1 (by decide) rfl).trans (Wk.sub ⟨rfl, rfl, slotI (by simp [rows_len]), trivial⟩ ⟨congrArg (fun x => some (AO.row 3 1 x)) (by simp [upTo]), trivial⟩)) ⟨Nat.le_refl _, .inr rfl⟩ ?_
  rintro i ⟨hia, hib⟩
  refine ev_sound ctx (own := [37]) _ _ _ ?_
  refine ⟨fun h => ?_, fun h => ?_⟩
  · have hlt : i < ks.length := ltOf h
    have hbk : ks.length ≤ ks.length + 1 := by omega
    have hul : ((upTo 1 i).map cI).length = i - 1 := by simp [upTo]
    refine ⟨?_, ?_, trivial, i + 1, Wk.sub ⟨slotI (wr1 hlt (by simp only [maxLen] at hkl ⊢; omega)), rfl, rfl, trivial⟩ ⟨congrArg (fun x => some (AO.row 3 1 x)) (by rw [upTo_succ hia, List.map_append]; rfl), trivial⟩, ⟨by omega, .inl hlt⟩, dec hlt⟩
    · rw [hul]; simp; omega
    · rw [hul]; simp [maxLen] at hkl ⊢; omega
  · have hge : ks.length ≤ i := geOf h
    have e : upTo 1 i = upTo 1 (ks.length) := by
      rcases hib with h1 | h1
      · rw [Nat.le_antisymm h1 hge]
      · subst h1; unfold upTo; first | rfl | (congr 1; omega) | (congr 1)
    show TV.le (encN (upTo 1 i)) _
    rw [e]; exact TV.le_refl _
end Go.Proofs.YtnapockpjklanaaGreatDoor.Lit
end
