/- How many a head wants. -/
import Derived.Test.YtnapockpjklanaaGreatDoorProg
import Derived.Test.YtnapockpjklanaaGreatDoorPlD
noncomputable section
set_option linter.all false
namespace Go.Proofs.YtnapockpjklanaaGreatDoor.Lit
open Go Go.RowKit Go.Proofs.YtnapockpjklanaaGreatDoor.Pl
set_option linter.unusedSectionVars false
variable [Gm]
def tabL : List (Nat × TI) := [
(3, { d := .int .i64, size := 1, bytes := 8, zero := [.v (.int .i64 0)] }),
(4, { d := .bool, size := 1, bytes := 1, zero := [.v (.bool false)] }),
(5, { d := .int .u8, size := 1, bytes := 1, zero := [.v (.int .u8 0)] }),
(9, { d := .string, size := 1, bytes := 16, zero := [.v (.string ⟨#[]⟩)] }),
(22, { d := .slice 24, size := 1, bytes := 24, zero := [.v (.slice none 0 0)] }),
(24, { d := .struct [(0, 3), (1, 3), (2, 9), (3, 22)], size := 4, bytes := 56, zero := [.v (.int .i64 0), .v (.int .i64 0), .v (.string ⟨#[]⟩), .v (.slice none 0 0)] }),
(34, { d := .slice 3, size := 1, bytes := 24, zero := [.v (.slice none 0 0)] })]
def tab : TyTab := fun t => Pl.look t tabL
omit [Gm] in
theorem tok : TOK Tryz.prog tab := tok_of (by kernel_rfl)
theorem ctx : Ctx Tryz.prog tab := ctx_of (l := tabL) (by kernel_rfl) (by kernel_rfl) (by kernel_rfl)
set_option maxRecDepth 10000

inductive Fm where
  | mk (k n : Int) (t : ByteArray) (ks : List Fm)
def Fm.kind : Fm → Int | .mk k _ _ _ => k
def Fm.num : Fm → Int | .mk _ n _ _ => n
def Fm.text : Fm → ByteArray | .mk _ _ t _ => t
def Fm.kids : Fm → List Fm | .mk _ _ _ ks => ks
mutual
def Fm.cells : Fm → List TV
  | .mk k n t ks => [.v (.int .i64 k), .v (.int .i64 n), .v (.string t), .sl 4 (rows ks)]
def rows : List Fm → List (List TV)
  | [] => []
  | f :: r => f.cells :: rows r
end
def Fm.enc (f : Fm) : TV := .agg f.cells
def encs (l : List Fm) : TV := .sl 4 (rows l)
def tS (s : ByteArray) : TV := .v (.string s)
def tB (b : Bool) : TV := .v (.bool b)
def tI (n : Int) : TV := .v (.int .i64 n)

omit [Gm] in
theorem rows_map : ∀ l, rows l = l.map Fm.cells
  | [] => rfl
  | f :: r => by simp [rows, rows_map r]

theorem nil_encs : TV.le (.v (.slice none 0 0)) (encs []) := TV.nil_le 4 (by decide)

theorem sign_ent : Ent Tryz.prog 40 := fun a w => Tryz.call40 a w
theorem sign_spec : PC Tryz.prog 40 [tB false, tB false] (tI 0) := by
  refine PC.of_ok tok Tryz.func40 rfl (Nat.le_of_ble_eq_true rfl) (ev_sound ctx (own := []) _ _ _ ?_)
  exact ⟨(fun h => nomatch h), fun _ => ⟨(fun h => nomatch h), fun _ => rfl⟩⟩
theorem list_ent : Ent Tryz.prog 13 := fun a w => Tryz.call13 a w
theorem list_spec (l : List Fm) : PC Tryz.prog 13 [encs l] (Fm.mk 3 0 ⟨#[]⟩ l).enc := by
  refine PC.of_ok tok Tryz.func13 rfl (Nat.le_of_ble_eq_true rfl) (ev_sound ctx (own := []) _ _ _ ?_)
  exact rfl
theorem plist_ent : Ent Tryz.prog 42 := fun a w => Tryz.call42 a w
theorem plist_spec (l : List Fm) : PC Tryz.prog 42 [encs l] (Fm.mk 3 0 ⟨#[]⟩ l).enc := by
  refine PC.of_ok tok Tryz.func42 rfl (Nat.le_of_ble_eq_true rfl) (ev_sound ctx (own := []) _ _ _ ?_)
  exact rfl
def wd (s : ByteArray) : Fm := .mk 1 0 s []
theorem word_ent : Ent Tryz.prog 45 := fun a w => Tryz.call45 a w
theorem word_spec (s : ByteArray) : PC Tryz.prog 45 [tS s] (wd s).enc := by
  refine PC.of_okL tok Tryz.func45 rfl (Nat.le_of_ble_eq_true rfl) (ev_sound ctx (own := []) _ _ _ ?_)
  exact TV.le_agg ⟨TV.le_refl _, TV.le_refl _, TV.le_refl _, nil_encs, trivial⟩
theorem pword_ent : Ent Tryz.prog 43 := fun a w => Tryz.call43 a w
theorem pword_spec (s : ByteArray) : PC Tryz.prog 43 [tS s] (wd s).enc := by
  refine PC.of_okL tok Tryz.func43 rfl (Nat.le_of_ble_eq_true rfl) (ev_sound ctx (own := []) _ _ _ ?_)
  exact TV.le_agg ⟨TV.le_refl _, TV.le_refl _, TV.le_refl _, nil_encs, trivial⟩
theorem rword_ent : Ent Tryz.prog 26 := fun a w => Tryz.call26 a w
theorem rword_spec (s : ByteArray) : PC Tryz.prog 26 [tS s] (wd s).enc := by
  refine PC.of_ok tok Tryz.func26 rfl (Nat.le_of_ble_eq_true rfl) (ev_sound ctx (own := []) _ _ _ ?_)
  exact ⟨word_ent, .inl ⟨_, word_spec s, rfl⟩⟩
theorem rlist_ent : Ent Tryz.prog 25 := fun a w => Tryz.call25 a w
theorem rlist_spec (l : List Fm) : PC Tryz.prog 25 [encs l] (Fm.mk 3 0 ⟨#[]⟩ l).enc := by
  refine PC.of_ok tok Tryz.func25 rfl (Nat.le_of_ble_eq_true rfl) (ev_sound ctx (own := []) _ _ _ ?_)
  exact ⟨list_ent, .inl ⟨_, list_spec l, rfl⟩⟩
theorem isNum_ent : Ent Tryz.prog 29 := fun a w => Tryz.call29 a w
theorem isNum_spec (f : Fm) : PC Tryz.prog 29 [f.enc] (tB (f.kind == 0)) := by
  obtain ⟨k, n, t, ks⟩ := f
  refine PC.of_ok tok Tryz.func29 rfl (Nat.le_of_ble_eq_true rfl) (ev_sound ctx (own := []) _ _ _ ?_)
  refine toEq ?_
  rfl
theorem isWord_ent : Ent Tryz.prog 30 := fun a w => Tryz.call30 a w
theorem isWord_spec (f : Fm) : PC Tryz.prog 30 [f.enc] (tB (f.kind == 1)) := by
  obtain ⟨k, n, t, ks⟩ := f
  refine PC.of_ok tok Tryz.func30 rfl (Nat.le_of_ble_eq_true rfl) (ev_sound ctx (own := []) _ _ _ ?_)
  refine toEq ?_
  rfl
/-- The kids that count. -/
def kidsOf (f : Fm) : List Fm := if f.kind = 3 then f.kids else []
theorem kids_ent : Ent Tryz.prog 79 := fun a w => Tryz.call79 a w
theorem kids_spec (f : Fm) : PC Tryz.prog 79 [f.enc] (encs (kidsOf f)) := by
  obtain ⟨k, n, t, ks⟩ := f
  refine PC.of_okL tok Tryz.func79 rfl (Nat.le_of_ble_eq_true rfl) (ev_sound ctx (own := []) _ _ _ ?_)
  refine ⟨fun h => ?_, fun h => ?_⟩
  · have h : k = 3 := by simpa using h
    simp only [kidsOf, Fm.kind, h, if_true]
    exact TV.le_refl _
  · have h : ¬ k = 3 := by simpa using h
    simp only [kidsOf, Fm.kind, h, if_false]
    exact nil_encs
/-- The head: the word that a list begins with. -/
def headOf (f : Fm) : ByteArray := match kidsOf f with
  | g :: _ => if g.kind = 1 then g.text else ⟨#[]⟩
  | [] => ⟨#[]⟩
theorem rhead_ent : Ent Tryz.prog 24 := fun a w => Tryz.call24 a w
theorem rhead_spec (f : Fm) : PC Tryz.prog 24 [f.enc] (tS (headOf f)) := by
  obtain ⟨k, n, t, ks⟩ := f
  refine PC.of_ok tok Tryz.func24 rfl (Nat.le_of_ble_eq_true rfl) (ev_sound ctx (own := []) _ _ _ ?_)
  cases ks with
  | nil =>
    refine ⟨(wd ⟨#[]⟩).cells, fun h => absurd h (by simp [rows]), fun h => ?_, fun h => absurd h (by simp [rows])⟩
    refine toEq ?_
    simp [headOf, kidsOf, Fm.kids, tS]
  | cons g r =>
    obtain ⟨k', n', t', ks'⟩ := g
    refine ⟨(Fm.mk k' n' t' ks').cells, fun _ => ⟨Int.le_refl _, rfl⟩, fun h => ?_, fun h => ?_⟩
    · refine toEq ?_
      simp only [headOf, kidsOf, Fm.kind, Fm.kids, Fm.text, tS]
      by_cases h3 : k = 3
      · by_cases h1 : k' = 1
        · simp [h3, h1, rows] at h; omega
        · simp [h3, h1]
      · simp [h3]
    · refine ⟨(Fm.mk k' n' t' ks').cells, ⟨Int.le_refl _, rfl⟩, ?_⟩
      refine toEq ?_
      simp only [headOf, kidsOf, Fm.kind, Fm.kids, Fm.text, tS]
      by_cases h3 : k = 3
      · by_cases h1 : k' = 1
        · simp [h3, h1]
        · simp [h3, h1, rows] at h
      · simp [h3] at h
theorem head_ent : Ent Tryz.prog 41 := fun a w => Tryz.call41 a w
theorem head_spec (f : Fm) : PC Tryz.prog 41 [f.enc] (tS (headOf f)) := by
  have hk := kids_spec f
  have hh : headOf f = (match kidsOf f with
    | g :: _ => if g.kind = 1 then g.text else ⟨#[]⟩
    | [] => ⟨#[]⟩) := rfl
  generalize kidsOf f = l at hk hh
  rw [hh]
  obtain ⟨k, n, t, ks⟩ := f
  refine PC.of_ok tok Tryz.func41 rfl (Nat.le_of_ble_eq_true rfl) (ev_sound ctx (own := []) _ _ _ ?_)
  refine ⟨kids_ent, .inl ⟨_, hk, ?_⟩⟩
  cases l with
  | nil => exact ⟨(wd ⟨#[]⟩).cells, fun h => absurd h (by simp [rows]), fun h => absurd h (by simp [rows]), fun _ => rfl⟩
  | cons g r =>
    obtain ⟨k', n', t', ks'⟩ := g
    refine ⟨(Fm.mk k' n' t' ks').cells, fun _ => ⟨Int.le_refl _, rfl⟩, fun h => ?_, fun h => ?_⟩
    · refine ⟨(Fm.mk k' n' t' ks').cells, ⟨Int.le_refl _, rfl⟩, ?_⟩
      refine toEq ?_
      have : k' = 1 := by simpa [rows] using h
      simp [this, Fm.kind, Fm.text, tS]
    · refine toEq ?_
      have : ¬ k' = 1 := by simpa [rows] using h
      simp [this, Fm.kind, tS]
/-- A list of two, the first of which is this word. -/
def isOne (f : Fm) (s : ByteArray) : Bool := (f.kind == 3) && ((headOf f).toList == s.toList) && (((rows f.kids).length : Int) == 2)
theorem is_ent : Ent Tryz.prog 21 := fun a w => Tryz.call21 a w
theorem is_spec (f : Fm) (s : ByteArray) : PC Tryz.prog 21 [f.enc, tS s, tI 1] (tB (isOne f s)) := by
  have hh := head_spec f
  simp only [isOne]
  generalize headOf f = hd at hh ⊢
  obtain ⟨k, n, t, ks⟩ := f
  refine PC.of_ok tok Tryz.func21 rfl (Nat.le_of_ble_eq_true rfl) (ev_sound ctx (own := []) _ _ _ ?_)
  refine ⟨head_ent, tS hd, fun _ => hh, ?_⟩
  refine ⟨fun _ => trivial, toEq ?_⟩
  rfl
end Go.Proofs.YtnapockpjklanaaGreatDoor.Lit
end

noncomputable section
set_option linter.all false
namespace Go.Proofs.YtnapockpjklanaaGreatDoor.Lit
open Go Go.RowKit Go.Proofs.YtnapockpjklanaaGreatDoor.Pl
set_option linter.unusedSectionVars false
variable [Gm]
set_option maxRecDepth 10000

/-- What memory bears. -/
inductive Fit : Fm → Prop where
  | mk {k n : Int} {t : ByteArray} {ks : List Fm} (hl : ks.length ≤ maxLen) (hb : ks.length * 56 ≤ 140737488355328) (h : ∀ g ∈ ks, Fit g) : Fit (.mk k n t ks)

omit [Gm] in
theorem rows_len (l : List Fm) : (rows l).length = l.length := by rw [rows_map, List.length_map]
omit [Gm] in
theorem rows_get {l : List Fm} {i : Nat} (h : i < l.length) : (0 : Int) ≤ (i : Int) ∧ (rows l)[((i : Int)).toNat]? = some (l[i]).cells := by
  rw [rows_map]; exact getM h

def ownSt (k n : Int) (t : ByteArray) (ks : List Fm) (i : Nat) : St :=
  ⟨[(4, vi i), (3, .sl 20), (2, .ptr 2 0), (1, .ptr 1 0)],
   [(20, .row 24 4 (rows (ks.take i))), (2, .var [.t (tI 0), .t (tI 0), .t (tS ⟨#[]⟩), .t (.v (.slice none 0 0))]), (1, .var [.t (tI k), .t (tI n), .t (tS t), .t (encs ks)])]⟩

theorem own_ent : Ent Tryz.prog 27 := fun a w => Tryz.call27 a w
theorem own_spec (f : Fm) (hf : Fit f) : PC Tryz.prog 27 [f.enc] f.enc := by
  induction hf with
  | @mk k n t ks hl hb _ ih =>
  refine PC.of_ok tok Tryz.func27 rfl (Nat.le_of_ble_eq_true rfl) (ev_sound ctx (own := [20]) _ _ _ ?_)
  refine Ok.loop (st := ownSt k n t ks) (R := fun i => i ≤ ks.length) (μ := fun i => ks.length - i) 0 ((Wk.nil 3 20 24 4 (by decide) rfl).trans (Wk.sub ⟨rfl, rfl, rfl, rfl, trivial⟩ ⟨rfl, rfl, rfl, trivial⟩)) (Nat.zero_le _) ?_
  intro i hi
  refine ev_sound ctx (own := [20]) _ _ _ ?_
  refine ⟨fun h => ?_, fun h => ?_⟩
  · have h : decide ((i : Int) < ((rows ks).length : Int)) = true := h
    rw [rows_len] at h
    have hlt := ltOf h
    have hget := rows_get hlt
    have hih := ih _ (List.getElem_mem hlt)
    generalize hg : ks[i] = g at hget hih
    obtain ⟨k', n', t', ks'⟩ := g
    refine ⟨_, hget, ?_⟩
    refine ⟨own_ent, .inl ⟨_, hih, ?_⟩⟩
    refine ⟨?_, ?_, trivial, i + 1, Wk.sub ⟨slotI (wr1 hlt hl), rfl, rfl, rfl, trivial⟩ ⟨congrArg (fun x => some (AO.row 24 4 x)) ?_, rfl, rfl, trivial⟩, hlt, dec hlt⟩
    · simp [rows_len, List.length_take]; omega
    · simp [rows_len, List.length_take, maxLen] at hl ⊢; omega
    · rw [List.take_succ, List.getElem?_eq_getElem hlt, hg, rows_map, rows_map, List.map_append]; rfl
  · have h : decide ((i : Int) < ((rows ks).length : Int)) = false := h
    rw [rows_len] at h
    have hge := geOf h
    have : i = ks.length := Nat.le_antisymm hi hge
    subst this
    refine toEq ?_
    simp only [List.take_length]
    rfl

/-! ### Copy, Copies -/
def zf : List TV := [tI 0, tI 0, tS ⟨#[]⟩, .v (.slice none 0 0)]
def copiesSt (ks : List Fm) (i : Nat) : St :=
  ⟨[(11, vi i), (10, vi ks.length), (9, .t (encs ks)), (3, .sl 8)],
   [(8, .row 24 4 (rows (ks.take i) ++ List.replicate (ks.length - i) zf))]⟩
theorem copies_ent : Ent Tryz.prog 44 := fun a w => Tryz.call44 a w
theorem copy_ent : Ent Tryz.prog 23 := fun a w => Tryz.call23 a w
theorem copies_spec (ks : List Fm) (hl : ks.length ≤ maxLen) (hb : ks.length * 56 ≤ 140737488355328) (ih : ∀ g ∈ ks, PC Tryz.prog 23 [g.enc] g.enc) : PC Tryz.prog 44 [encs ks] (encs ks) := by
  refine PC.of_ok tok Tryz.func44 rfl (Nat.le_of_ble_eq_true rfl) (ev_sound ctx (own := [8]) _ _ _ ?_)
  refine ⟨?_, ?_, ?_, ?_, ?_⟩
  · simp
  · simp
  · simp [rows_len]; simp [maxLen] at hl; omega
  · simp [rows_len]; exact hb
  refine Ok.loop (st := copiesSt ks) (R := fun i => i ≤ ks.length) (μ := fun i => ks.length - i) 0 (Wk.sub ⟨rfl, slotI (by simp [rows_len]), rfl, rfl, trivial⟩ ⟨congrArg (fun x => some (AO.row 24 4 x)) (by simp [rows_len, rows, zf]; exact .inr ⟨rfl, rfl⟩), trivial⟩) (Nat.zero_le _) ?_
  intro i hi
  refine ev_sound ctx (own := [8]) _ _ _ ?_
  refine ⟨fun h => ?_, fun h => ?_⟩
  · have hlt := ltOf h
    have hget := rows_get hlt
    have hih := ih _ (List.getElem_mem hlt)
    generalize hg : ks[i] = g at hget hih
    obtain ⟨k', n', t', ks'⟩ := g
    refine ⟨_, hget, ?_⟩
    refine ⟨copy_ent, .inl ⟨_, hih, ?_⟩⟩
    have hlen : i < (rows (ks.take i) ++ List.replicate (ks.length - i) zf).length := by
      simp [rows_len, List.length_take]; omega
    refine ⟨⟨by omega, by have := hlen; simp at this ⊢; omega⟩, ?_⟩
    refine ⟨zf, ?_, ?_⟩
    · have e : (rows (ks.take i)).length = i := by simp [rows_len, List.length_take]; omega
      rw [Int.toNat_natCast, List.getElem?_append_right (by omega), e, Nat.sub_self, List.getElem?_replicate, if_pos (by omega)]
    · refine ⟨trivial, i + 1, Wk.sub ⟨slotI (wr1 hlt hl), rfl, rfl, rfl, trivial⟩ ⟨congrArg (fun x => some (AO.row 24 4 x)) ?_, trivial⟩, hlt, dec hlt⟩
      have e : (rows (ks.take i)).length = i := by simp [rows_len, List.length_take]; omega
      rw [Int.toNat_natCast, List.set_append_right _ _ (by omega), e, Nat.sub_self]
      obtain ⟨m, hm⟩ : ∃ m, ks.length - i = m + 1 := ⟨ks.length - i - 1, by omega⟩
      rw [hm, List.replicate_succ, show ks.length - (i + 1) = m by omega, List.take_succ, List.getElem?_eq_getElem hlt, hg, rows_map, rows_map, List.map_append]
      simp only [List.append_assoc]
      rfl
  · have hge := geOf h
    have : i = ks.length := Nat.le_antisymm hi hge
    subst this
    refine toEq ?_
    simp only [List.take_length, Nat.sub_self, List.replicate_zero, List.append_nil]
    rfl
theorem copy_spec (f : Fm) (hf : Fit f) : PC Tryz.prog 23 [f.enc] f.enc := by
  induction hf with
  | @mk k n t ks hl hb _ ih =>
  have hc := copies_spec ks hl hb ih
  refine PC.of_ok tok Tryz.func23 rfl (Nat.le_of_ble_eq_true rfl) (ev_sound ctx (own := []) _ _ _ ?_)
  refine fun b hb => ⟨fun h2 => ?_, fun h2 => ?_⟩
  · refine ⟨copies_ent, .inl ⟨_, hc, ?_⟩⟩
    exact rfl
  · exact rfl
end Go.Proofs.YtnapockpjklanaaGreatDoor.Lit
end

noncomputable section
set_option linter.all false
namespace Go.Proofs.YtnapockpjklanaaGreatDoor.Lit
open Go Go.RowKit Go.Proofs.YtnapockpjklanaaGreatDoor.Pl
set_option linter.unusedSectionVars false
variable [Gm]
set_option maxRecDepth 10000

def ls (l : List Fm) : Fm := .mk 3 0 ⟨#[]⟩ l
theorem of_ent : Ent Tryz.prog 22 := fun a w => Tryz.call22 a w
theorem of_spec (s : ByteArray) (x : Fm) : PC Tryz.prog 22 [tS s, encs [x]] (ls [wd s, x]).enc := by
  refine PC.of_ok tok Tryz.func22 rfl (Nat.le_of_ble_eq_true rfl) (ev_sound ctx (own := [7]) _ _ _ ?_)
  refine ⟨pword_ent, .inl ⟨_, pword_spec s, ?_⟩⟩
  refine ⟨?_, ?_, ?_⟩
  · simp [rows]
  · simp [rows, maxLen]
  refine .inl ⟨plist_ent, .inl ⟨_, plist_spec [wd s, x], ?_⟩⟩
  exact rfl

/-! ### Compare -/
theorem less_self : ∀ l : List UInt8, Op.bytesLess l l = false
  | [] => rfl
  | a :: l => by simp [Op.bytesLess, less_self l]
theorem cmp_ent : Ent Tryz.prog 20 := fun a w => Tryz.call20 a w
theorem cmp_spec (f : Fm) (hf : Fit f) : PC Tryz.prog 20 [f.enc, f.enc] (tI 0) := by
  induction hf with
  | @mk k n t ks hl hb _ ih =>
  refine PC.of_ok tok Tryz.func20 rfl (Nat.le_of_ble_eq_true rfl) (ev_sound ctx (own := []) _ _ _ ?_)
  refine ⟨fun h => ?_, fun h => ?_⟩
  · exact absurd h (by simp)
  · refine ⟨fun h0 => ?_, fun h0 => ?_⟩
    · have hn : decide (n < n) = false := by simp
      refine ⟨sign_ent, .inl ⟨tI 0, ?_, ?_⟩⟩
      · rw [hn]; exact sign_spec
      · exact rfl
    · have hstr : ∀ (a b : Bool), a = false → b = false → PC Tryz.prog 40 [tB a, tB b] (tI 0) := fun a b ha hb => by subst ha; subst hb; exact sign_spec
      refine ⟨fun h1 => ?_, fun h1 => ?_⟩
      · refine ⟨fun h2 => ?_, fun h2 => ?_⟩
        · refine ⟨sign_ent, .inl ⟨tI 0, hstr _ _ ?_ ?_, rfl⟩⟩
          · exact less_self _
          · simp
        · rw [h1] at h2; cases h2
      · refine ⟨fun h2 => ?_, fun h2 => ?_⟩
        · refine ⟨sign_ent, .inl ⟨tI 0, hstr _ _ ?_ ?_, rfl⟩⟩
          · exact less_self _
          · simp
        · refine ⟨fun h3 => ?_, fun h3 => ?_⟩
          · have h3 : k = 3 := by simpa using h3
            refine Ok.loop (st := fun i : Nat => ⟨[(5, vi i), (3, .ptr 3 0), (2, .ptr 2 0)], [(3, .var [.t (tI k), .t (tI n), .t (tS t), .t (encs ks)]), (2, .var [.t (tI k), .t (tI n), .t (tS t), .t (encs ks)])]⟩)
              (R := fun i => i ≤ ks.length) (μ := fun i => ks.length - i) 0 (Wk.sub ⟨rfl, rfl, rfl, trivial⟩ ⟨rfl, rfl, trivial⟩) (Nat.zero_le _) ?_
            intro i hi
            refine ev_sound ctx (own := []) _ _ _ ?_
            refine ⟨fun h => ?_, fun h => ?_⟩
            · have h : (decide ((i : Int) < ((rows ks).length : Int)) && decide ((i : Int) < ((rows ks).length : Int))) = true := h
              rw [Bool.and_self, rows_len] at h
              have hlt := ltOf h
              have hget := rows_get hlt
              have hih := ih _ (List.getElem_mem hlt)
              generalize hg : ks[i] = g at hget hih
              obtain ⟨k', n', t', ks'⟩ := g
              refine ⟨_, fun _ => hget, _, fun _ => hget, ?_⟩
              refine ⟨cmp_ent, tI 0, fun _ => hih, ?_⟩
              refine ⟨fun h => absurd h (by simp), fun _ => ?_⟩
              exact ⟨trivial, i + 1, Wk.sub ⟨slotI (wr1 hlt hl), rfl, rfl, trivial⟩ ⟨rfl, rfl, trivial⟩, hlt, dec hlt⟩
            · refine ⟨sign_ent, .inl ⟨tI 0, hstr _ _ ?_ ?_, rfl⟩⟩
              · simp
              · simp
          · exact rfl
end Go.Proofs.YtnapockpjklanaaGreatDoor.Lit
end

noncomputable section
set_option linter.all false
namespace Go.Proofs.YtnapockpjklanaaGreatDoor.Lit
open Go Go.RowKit Go.Proofs.YtnapockpjklanaaGreatDoor.Pl
set_option linter.unusedSectionVars false
variable [Gm]
set_option maxRecDepth 10000

def notS : ByteArray := ⟨#[110, 111, 116]⟩
omit [Gm] in
theorem two_of {f : Fm} (h : isOne f notS = true) : ∃ n t x y, f = .mk 3 n t [x, y] := by
  obtain ⟨k, n, t, ks⟩ := f
  simp only [isOne, Fm.kind, Fm.kids, Bool.and_eq_true] at h
  obtain ⟨⟨h1, _⟩, h3⟩ := h
  have h1 : k = 3 := by simpa using h1
  have h3 : ks.length = 2 := by
    have := of_decide_eq_true (p := ((rows ks).length : Int) = 2) (by simpa using h3)
    rw [rows_len] at this; omega
  match ks, h3 with
  | [x, y], _ => exact ⟨n, t, x, y, by rw [h1]⟩

def second : Fm → Fm
  | .mk _ _ _ (_ :: y :: _) => y
  | f => f
omit [Gm] in
theorem second_lt {f : Fm} (h : isOne f notS = true) : SizeOf.sizeOf (second f) < SizeOf.sizeOf f := by
  obtain ⟨n, t, x, y, rfl⟩ := two_of h
  simp [second]; omega
def strip (f : Fm) (b : Bool) : Fm × Bool :=
  if h : isOne f notS = true then strip (second f) (!b) else (f, b)
termination_by SizeOf.sizeOf f
decreasing_by exact second_lt h

def litOf (f : Fm) : Fm := let x := strip f false; if x.2 then ls [wd notS, x.1] else x.1

omit [Gm] in
theorem fit_second {f : Fm} (hf : Fit f) (h : isOne f notS = true) : Fit (second f) := by
  obtain ⟨n, t, x, y, rfl⟩ := two_of h
  cases hf with
  | mk _ _ hk => exact hk y (by simp)

theorem eq_ent : Ent Tryz.prog 7 := fun a w => Tryz.call7 a w
theorem eq_spec (f : Fm) (hf : Fit f) : PC Tryz.prog 7 [f.enc, f.enc] (tB true) := by
  have hc := cmp_spec f hf
  obtain ⟨k, n, t, ks⟩ := f
  refine PC.of_ok tok Tryz.func7 rfl (Nat.le_of_ble_eq_true rfl) (ev_sound ctx (own := []) _ _ _ ?_)
  refine ⟨cmp_ent, .inl ⟨_, hc, ?_⟩⟩
  exact rfl

def litSt (x : Fm × Bool) : St :=
  ⟨[(3, vb x.2), (2, .ptr 2 0), (1, .ptr 1 0)], [(2, .var (zf.map .t)), (1, .var (x.1.cells.map .t))]⟩
theorem lit_ent : Ent Tryz.prog 8 := fun a w => Tryz.call8 a w
theorem lit_spec (f : Fm) (hf : Fit f) : PC Tryz.prog 8 [f.enc] (litOf f).enc := by
  refine PC.of_ok tok Tryz.func8 rfl (Nat.le_of_ble_eq_true rfl) ?_
  obtain ⟨k, n, t, ks⟩ := f
  refine ev_sound ctx (own := []) _ _ _ ?_
  refine Ok.loop (st := litSt) (R := fun x => Fit x.1 ∧ strip x.1 x.2 = strip (.mk k n t ks) false) (μ := fun x => SizeOf.sizeOf x.1) (Fm.mk k n t ks, false) (Wk.sub ⟨rfl, rfl, rfl, trivial⟩ ⟨rfl, rfl, trivial⟩) ⟨hf, rfl⟩ ?_
  rintro ⟨f, b⟩ ⟨hf, hs⟩
  have his := is_spec f notS
  generalize hi : isOne f notS = i at his
  obtain ⟨k', n', t', ks'⟩ := f
  refine ev_sound ctx (own := []) _ _ _ ?_
  refine ⟨is_ent, .inl ⟨_, his, ?_⟩⟩
  refine ⟨fun h => ?_, fun h => ?_⟩
  · have h : i = true := h
    subst h
    have hsec := fit_second hf hi
    have hlt := second_lt hi
    have hst : strip (Fm.mk k' n' t' ks') b = strip (second (Fm.mk k' n' t' ks')) (!b) := by rw [strip, dif_pos hi]
    obtain ⟨n2, t2, x, y, he⟩ := two_of hi
    injection he with e1 e2 e3 e4
    subst e1; subst e2; subst e3; subst e4
    obtain ⟨k3, n3, t3, ks3⟩ := y
    refine ⟨_, ⟨Int.le_of_lt (by decide), rfl⟩, ?_⟩
    exact ⟨(Fm.mk k3 n3 t3 ks3, !b), Wk.sub ⟨rfl, rfl, rfl, trivial⟩ ⟨rfl, rfl, trivial⟩, ⟨hsec, hst.symm.trans hs⟩, hlt⟩
  · have h : i = false := h
    subst h
    have hc := copy_spec _ hf
    have hst : strip (Fm.mk k' n' t' ks') b = (Fm.mk k' n' t' ks', b) := by rw [strip, dif_neg (by rw [hi]; simp)]
    have hl : litOf (Fm.mk k n t ks) = if b then ls [wd notS, Fm.mk k' n' t' ks'] else Fm.mk k' n' t' ks' := by
      simp only [litOf, ← hs, hst]
    refine ⟨fun hb => ?_, fun hb => ?_⟩
    · have hb : b = true := hb
      subst hb
      refine ⟨copy_ent, .inl ⟨_, hc, ?_⟩⟩
      refine ⟨of_ent, .inl ⟨_, of_spec notS (Fm.mk k' n' t' ks'), ?_⟩⟩
      refine toEq ?_
      rw [hl]; rfl
    · have hb : b = false := hb
      subst hb
      refine ⟨copy_ent, .inl ⟨_, hc, ?_⟩⟩
      refine toEq ?_
      rw [hl]; rfl
end Go.Proofs.YtnapockpjklanaaGreatDoor.Lit
end

noncomputable section
set_option linter.all false
namespace Go.Proofs.YtnapockpjklanaaGreatDoor.Lit
open Go Go.RowKit Go.Proofs.YtnapockpjklanaaGreatDoor.Pl
set_option linter.unusedSectionVars false
variable [Gm]
set_option maxRecDepth 10000

omit [Gm] in
theorem cond_isOne (f : Fm) : (((headOf f).toList == notS.toList) && (((rows f.kids).length : Int) == 2)) = isOne f notS := by
  obtain ⟨k, n, t, ks⟩ := f
  by_cases h : k = 3
  · subst h
    simp [isOne, Fm.kind]
  · have : headOf (.mk k n t ks) = ⟨#[]⟩ := by simp [headOf, kidsOf, Fm.kind, h]
    rw [this]
    have e : ((⟨#[]⟩ : ByteArray).toList == notS.toList) = false := by simp [notS, ByteArray.toList_eq]
    rw [e]
    simp [isOne, Fm.kind, h]

omit [Gm] in
theorem fit_not {f : Fm} (hf : Fit f) : Fit (ls [wd notS, f]) := by
  refine .mk (by simp [maxLen]) (by simp) ?_
  intro g hg
  simp at hg
  rcases hg with rfl | rfl
  · exact .mk (by simp) (by simp) (fun g hg => by simp at hg)
  · exact hf

theorem rlit_ent : Ent Tryz.prog 9 := fun a w => Tryz.call9 a w
theorem rlit_spec (f : Fm) (hf : Fit f) : PC Tryz.prog 9 [f.enc] (litOf f).enc := by
  refine PC.of_ok tok Tryz.func9 rfl (Nat.le_of_ble_eq_true rfl) ?_
  obtain ⟨k, n, t, ks⟩ := f
  refine ev_sound ctx (own := []) _ _ _ ?_
  refine Ok.loop (st := litSt) (R := fun x => Fit x.1 ∧ strip x.1 x.2 = strip (.mk k n t ks) false) (μ := fun x => SizeOf.sizeOf x.1) (Fm.mk k n t ks, false) (Wk.sub ⟨rfl, rfl, rfl, trivial⟩ ⟨rfl, rfl, trivial⟩) ⟨hf, rfl⟩ ?_
  rintro ⟨f, b⟩ ⟨hf, hs⟩
  have hh := rhead_spec f
  have hc := cond_isOne f
  generalize hi : isOne f notS = i at hc
  generalize headOf f = hd at hh hc
  obtain ⟨k', n', t', ks'⟩ := f
  refine ev_sound ctx (own := []) _ _ _ ?_
  refine ⟨rhead_ent, .inl ⟨_, hh, ?_⟩⟩
  refine ⟨fun h => ?_, fun h => ?_⟩
  · have h : i = true := hc.symm.trans h
    subst h
    have hsec := fit_second hf hi
    have hlt := second_lt hi
    have hst : strip (Fm.mk k' n' t' ks') b = strip (second (Fm.mk k' n' t' ks')) (!b) := by rw [strip, dif_pos hi]
    obtain ⟨n2, t2, x, y, he⟩ := two_of hi
    injection he with e1 e2 e3 e4
    subst e1; subst e2; subst e3; subst e4
    obtain ⟨k3, n3, t3, ks3⟩ := y
    refine ⟨_, ⟨Int.le_of_lt (by decide), rfl⟩, ?_⟩
    exact ⟨(Fm.mk k3 n3 t3 ks3, !b), Wk.sub ⟨rfl, rfl, rfl, trivial⟩ ⟨rfl, rfl, trivial⟩, ⟨hsec, hst.symm.trans hs⟩, hlt⟩
  · have h : i = false := hc.symm.trans h
    subst h
    have hst : strip (Fm.mk k' n' t' ks') b = (Fm.mk k' n' t' ks', b) := by rw [strip, dif_neg (by rw [hi]; simp)]
    have hl : litOf (Fm.mk k n t ks) = if b then ls [wd notS, Fm.mk k' n' t' ks'] else Fm.mk k' n' t' ks' := by
      simp only [litOf, ← hs, hst]
    refine ⟨fun hb => ?_, fun hb => ?_⟩
    · have hb : b = true := hb
      subst hb
      refine ⟨rword_ent, _, fun _ => rword_spec notS, ?_⟩
      refine ⟨rlist_ent, _, fun _ => rlist_spec [wd notS, Fm.mk k' n' t' ks'], ?_⟩
      refine ⟨own_ent, .inl ⟨_, own_spec _ (fit_not hf), ?_⟩⟩
      refine toEq ?_
      rw [hl]; rfl
    · have hb : b = false := hb
      subst hb
      refine ⟨own_ent, .inl ⟨_, own_spec _ hf, ?_⟩⟩
      refine toEq ?_
      rw [hl]; rfl

/-! ### What stripping comes to -/
omit [Gm] in
theorem strip_yes {f : Fm} {b : Bool} (h : isOne f notS = true) : strip f b = strip (second f) (!b) := by rw [strip, dif_pos h]
omit [Gm] in
theorem strip_no {f : Fm} {b : Bool} (h : isOne f notS = false) : strip f b = (f, b) := by rw [strip, dif_neg (by rw [h]; simp)]
omit [Gm] in
theorem strip_flip (f : Fm) (b : Bool) : strip f (!b) = ((strip f b).1, !(strip f b).2) := by
  cases h : isOne f notS with
  | true => rw [strip_yes h, strip_yes h, strip_flip (second f) (!b)]
  | false => rw [strip_no h, strip_no h]
termination_by SizeOf.sizeOf f
decreasing_by exact second_lt h
omit [Gm] in
theorem strip_core (f : Fm) (b : Bool) : isOne (strip f b).1 notS = false := by
  cases h : isOne f notS with
  | true => rw [strip_yes h]; exact strip_core (second f) (!b)
  | false => rw [strip_no h]; exact h
termination_by SizeOf.sizeOf f
decreasing_by exact second_lt h
omit [Gm] in
theorem strip_fit (f : Fm) (b : Bool) (hf : Fit f) : Fit (strip f b).1 := by
  cases h : isOne f notS with
  | true => rw [strip_yes h]; exact strip_fit (second f) (!b) (fit_second hf h)
  | false => rw [strip_no h]; exact hf
termination_by SizeOf.sizeOf f
decreasing_by exact second_lt h
omit [Gm] in
theorem lit_fit {f : Fm} (hf : Fit f) : Fit (litOf f) := by
  have := strip_fit f false hf
  simp only [litOf]
  split
  · exact fit_not this
  · exact this
omit [Gm] in
theorem isOne_not (f : Fm) : isOne (ls [wd notS, f]) notS = true := by
  simp [isOne, ls, wd, Fm.kind, Fm.kids, headOf, kidsOf, Fm.text, rows_len]
omit [Gm] in
theorem strip_not (f : Fm) (b : Bool) : strip (ls [wd notS, f]) b = strip f (!b) := by
  rw [strip_yes (isOne_not f)]; rfl
def oppOf (f : Fm) : Fm := litOf (ls [wd notS, f])
omit [Gm] in
theorem opp_eq (f : Fm) : oppOf f = if isOne (litOf f) notS then second (litOf f) else ls [wd notS, litOf f] := by
  have hc := strip_core f false
  have hfl := strip_flip f false
  obtain ⟨c, b, hx⟩ : ∃ c b, strip f false = (c, b) := ⟨_, _, rfl⟩
  rw [hx] at hc hfl
  have hT : strip f true = (c, !b) := hfl
  have hc : isOne c notS = false := hc
  simp only [oppOf, litOf, strip_not, Bool.not_false, hT, hx]
  cases b with
  | true =>
    have := isOne_not c
    simp [this]
    rfl
  | false => simp [hc]
omit [Gm] in
theorem opp_opp (f : Fm) : oppOf (oppOf f) = litOf f := by
  have hc := strip_core f false
  have hfl := strip_flip f false
  obtain ⟨c, b, hx⟩ : ∃ c b, strip f false = (c, b) := ⟨_, _, rfl⟩
  rw [hx] at hc hfl
  have hT : strip f true = (c, !b) := hfl
  have hn : ∀ d, strip c d = (c, d) := fun d => strip_no hc
  simp only [oppOf, litOf, strip_not, Bool.not_false, hT, hx]
  cases b with
  | true => simp [hn]
  | false => simp [strip_not, hn]

theorem opp_ent : Ent Tryz.prog 10 := fun a w => Tryz.call10 a w
theorem opp_spec (f : Fm) (hf : Fit f) : PC Tryz.prog 10 [f.enc] (oppOf f).enc := by
  have h2 := lit_spec _ (fit_not hf)
  have h1 := of_spec notS f
  simp only [oppOf]
  generalize litOf (ls [wd notS, f]) = g at h2 ⊢
  obtain ⟨k', n', t', ks'⟩ := g
  obtain ⟨k, n, t, ks⟩ := f
  refine PC.of_ok tok Tryz.func10 rfl (Nat.le_of_ble_eq_true rfl) (ev_sound ctx (own := []) _ _ _ ?_)
  refine ⟨of_ent, .inl ⟨_, h1, ?_⟩⟩
  refine ⟨lit_ent, .inl ⟨_, h2, ?_⟩⟩
  exact rfl
theorem ropp_ent : Ent Tryz.prog 11 := fun a w => Tryz.call11 a w
theorem ropp_spec (f : Fm) (hf : Fit f) : PC Tryz.prog 11 [f.enc] (oppOf f).enc := by
  rw [opp_eq]
  have h1 := rlit_spec f hf
  generalize litOf f = g at h1
  have hh := rhead_spec g
  have hc := cond_isOne g
  generalize hi : isOne g notS = i at hc
  generalize headOf g = hd at hh hc
  obtain ⟨k, n, t, ks⟩ := f
  obtain ⟨k', n', t', ks'⟩ := g
  refine PC.of_ok tok Tryz.func11 rfl (Nat.le_of_ble_eq_true rfl) (ev_sound ctx (own := []) _ _ _ ?_)
  refine ⟨rlit_ent, .inl ⟨_, h1, ?_⟩⟩
  refine ⟨rhead_ent, .inl ⟨_, hh, ?_⟩⟩
  refine ⟨fun h => ?_, fun h => ?_⟩
  · have h : i = true := hc.symm.trans h
    subst h
    obtain ⟨n2, t2, x, y, he⟩ := two_of hi
    injection he with e1 e2 e3 e4
    subst e1; subst e2; subst e3; subst e4
    obtain ⟨k3, n3, t3, ks3⟩ := y
    refine ⟨_, ⟨Int.le_of_lt (by decide), rfl⟩, ?_⟩
    exact rfl
  · have h : i = false := hc.symm.trans h
    subst h
    refine ⟨rword_ent, _, fun _ => rword_spec notS, ?_⟩
    refine ⟨rlist_ent, _, fun _ => rlist_spec [wd notS, Fm.mk k' n' t' ks'], ?_⟩
    exact rfl
end Go.Proofs.YtnapockpjklanaaGreatDoor.Lit
end

noncomputable section
set_option linter.all false
namespace Go.Proofs.YtnapockpjklanaaGreatDoor.Lit
open Go Go.RowKit Go.Proofs.YtnapockpjklanaaGreatDoor.Pl
set_option linter.unusedSectionVars false
variable [Gm]
set_option maxRecDepth 10000

open Classical in
noncomputable def Zof (g : Fm) : Int := if h : ∃ z, PC Tryz.prog 12 [g.enc] (tI z) then Classical.choose h else 0
theorem Zof_spec {g : Fm} (h : ∃ z, PC Tryz.prog 12 [g.enc] (tI z)) : PC Tryz.prog 12 [g.enc] (tI (Zof g)) := by
  unfold Zof; rw [dif_pos h]; exact Classical.choose_spec h
noncomputable def accZ (ks : List Fm) (i : Nat) : Int := (ks.take i).foldl (fun a g => IntKind.i64.wrap (a + Zof g)) 1
theorem accZ_succ {ks : List Fm} {i : Nat} (h : i < ks.length) : accZ ks (i + 1) = IntKind.i64.wrap (accZ ks i + Zof ks[i]) := by
  unfold accZ
  rw [List.take_succ, List.getElem?_eq_getElem h, List.foldl_append]; rfl

theorem size_ent : Ent Tryz.prog 12 := fun a w => Tryz.call12 a w
theorem size_spec (f : Fm) (hf : Fit f) : ∃ z, PC Tryz.prog 12 [f.enc] (tI z) := by
  induction hf with
  | @mk k n t ks hl hb _ ih =>
  refine ⟨if k = 3 then accZ ks ks.length else 1, ?_⟩
  refine PC.of_ok tok Tryz.func12 rfl (Nat.le_of_ble_eq_true rfl) (ev_sound ctx (own := []) _ _ _ ?_)
  refine Ok.loop (st := fun i : Nat => ⟨[(4, vi i), (3, vi (accZ ks i)), (1, .ptr 1 0)], [(1, .var [.t (tI k), .t (tI n), .t (tS t), .t (encs ks)])]⟩)
    (R := fun i => i ≤ ks.length ∧ (k ≠ 3 → i = 0)) (μ := fun i => ks.length - i) 0 (Wk.sub ⟨rfl, rfl, rfl, trivial⟩ ⟨rfl, trivial⟩) ⟨Nat.zero_le _, fun _ => rfl⟩ ?_
  rintro i ⟨hi, h3⟩
  refine ev_sound ctx (own := []) _ _ _ ?_
  refine ⟨fun h => ?_, fun h => ?_⟩
  · have h : ((k == 3) && decide ((i : Int) < ((rows ks).length : Int))) = true := h
    rw [rows_len, Bool.and_eq_true] at h
    have hk : k = 3 := by simpa using h.1
    have hlt := ltOf h.2
    have hget := rows_get hlt
    have hih := Zof_spec (ih _ (List.getElem_mem hlt))
    have hacc := accZ_succ hlt
    generalize hg : ks[i] = g at hget hih hacc
    obtain ⟨k', n', t', ks'⟩ := g
    refine ⟨_, hget, ?_⟩
    refine ⟨size_ent, .inl ⟨_, hih, ?_⟩⟩
    exact ⟨trivial, trivial, i + 1, Wk.sub ⟨slotI (wr1 hlt hl), slotI hacc.symm, rfl, trivial⟩ ⟨rfl, trivial⟩, ⟨hlt, fun h => absurd hk h⟩, dec hlt⟩
  · have h : ((k == 3) && decide ((i : Int) < ((rows ks).length : Int))) = false := h
    rw [rows_len] at h
    refine toEq ?_
    by_cases hk : k = 3
    · have hge : ks.length ≤ i := geOf (by simpa [hk] using h)
      have : i = ks.length := Nat.le_antisymm hi hge
      rw [if_pos hk, this]; rfl
    · rw [if_neg hk, h3 hk]; rfl
theorem large_ent : Ent Tryz.prog 4 := fun a w => Tryz.call4 a w
theorem large_spec (l : List Fm) (hf : Fit (ls l)) : ∃ b, PC Tryz.prog 4 [encs l] (tB b) := by
  obtain ⟨z, hz⟩ := size_spec _ hf
  refine ⟨decide (z > 3000), ?_⟩
  refine PC.of_ok tok Tryz.func4 rfl (Nat.le_of_ble_eq_true rfl) (ev_sound ctx (own := []) _ _ _ ?_)
  refine ⟨list_ent, .inl ⟨_, list_spec l, ?_⟩⟩
  refine ⟨size_ent, .inl ⟨_, hz, ?_⟩⟩
  exact rfl
end Go.Proofs.YtnapockpjklanaaGreatDoor.Lit
end

noncomputable section
set_option linter.all false
namespace Go.Proofs.YtnapockpjklanaaGreatDoor.Lit
open Go Go.RowKit Go.Proofs.YtnapockpjklanaaGreatDoor.Pl
set_option linter.unusedSectionVars false
variable [Gm]
set_option maxRecDepth 10000

def inL (l : List UInt8) (ls : List (List UInt8)) : Bool := ls.any fun x => l == x
def arL (l : List UInt8) : Int :=
  if inL l [[110, 101, 103], [98, 110, 117, 109], [115, 105, 122, 101], [110, 111, 116]] then 1 else
  if inL l [[43], [45], [42], [100, 105, 118], [109, 111, 100], [98, 105, 116, 115], [98, 97, 110, 100], [98, 111, 114], [98, 120, 111, 114], [98, 97, 100, 100], [103, 101, 116], [115, 101, 108], [100, 105, 102, 102], [119, 105, 116], [61], [60], [60, 61], [105, 115], [61, 62], [105, 102, 102]] then 2 else
  if inL l [[117, 112, 100], [105, 102]] then 3 else
  if inL l [[97, 110, 100], [111, 114]] then -1 else
  if inL l [[99, 97, 108, 108], [109, 97, 107, 101], [102, 111, 114, 97, 108, 108], [101, 120, 105, 115, 116, 115]] then -3 else
  -2
omit [Gm] in
theorem leafAr {s : ByteArray} {x : List UInt8} {v : Int} (h : (s.toList == (ByteArray.mk x.toArray).toList) = true) (hv : arL x = v) : tI v = tI (arL s.toList) := by
  have e : s.toList = x := by
    have := eq_of_beq h
    rw [this, ByteArray.toList_eq]
  rw [e, hv]
omit [Gm] in
theorem noAr {s : ByteArray} {x : List UInt8} (h : (s.toList == (ByteArray.mk x.toArray).toList) = false) : (s.toList == x) = false := by
  rw [ByteArray.toList_eq (bs := ByteArray.mk x.toArray)] at h
  exact h
theorem arity_ent : Ent Tryz.prog 28 := fun a w => Tryz.call28 a w
set_option maxHeartbeats 4000000 in
theorem arity_spec (s : ByteArray) : PC Tryz.prog 28 [tS s] (tI (arL s.toList)) := by
  refine PC.of_ok tok Tryz.func28 rfl (Nat.le_of_ble_eq_true rfl) (ev_sound ctx (own := []) _ _ _ ?_)
  refine ⟨fun h1 => ?_, fun h1 => ?_⟩
  · exact ⟨fun _ => leafAr (x := [110, 101, 103]) h1 rfl, fun h => absurd (h1.symm.trans h) (by simp)⟩
  refine ⟨fun h2 => ?_, fun h2 => ?_⟩
  · exact ⟨fun _ => leafAr (x := [98, 110, 117, 109]) h2 rfl, fun h => absurd (h2.symm.trans h) (by simp)⟩
  refine ⟨fun h3 => ?_, fun h3 => ?_⟩
  · exact ⟨fun _ => leafAr (x := [115, 105, 122, 101]) h3 rfl, fun h => absurd (h3.symm.trans h) (by simp)⟩
  refine ⟨fun h4 => ?_, fun h4 => ?_⟩
  · exact leafAr (x := [110, 111, 116]) h4 rfl
  refine ⟨fun h5 => ?_, fun h5 => ?_⟩
  · exact ⟨fun _ => leafAr (x := [43]) h5 rfl, fun h => absurd (h5.symm.trans h) (by simp)⟩
  refine ⟨fun h6 => ?_, fun h6 => ?_⟩
  · exact ⟨fun _ => leafAr (x := [45]) h6 rfl, fun h => absurd (h6.symm.trans h) (by simp)⟩
  refine ⟨fun h7 => ?_, fun h7 => ?_⟩
  · exact ⟨fun _ => leafAr (x := [42]) h7 rfl, fun h => absurd (h7.symm.trans h) (by simp)⟩
  refine ⟨fun h8 => ?_, fun h8 => ?_⟩
  · exact ⟨fun _ => leafAr (x := [100, 105, 118]) h8 rfl, fun h => absurd (h8.symm.trans h) (by simp)⟩
  refine ⟨fun h9 => ?_, fun h9 => ?_⟩
  · exact ⟨fun _ => leafAr (x := [109, 111, 100]) h9 rfl, fun h => absurd (h9.symm.trans h) (by simp)⟩
  refine ⟨fun h10 => ?_, fun h10 => ?_⟩
  · exact ⟨fun _ => leafAr (x := [98, 105, 116, 115]) h10 rfl, fun h => absurd (h10.symm.trans h) (by simp)⟩
  refine ⟨fun h11 => ?_, fun h11 => ?_⟩
  · exact ⟨fun _ => leafAr (x := [98, 97, 110, 100]) h11 rfl, fun h => absurd (h11.symm.trans h) (by simp)⟩
  refine ⟨fun h12 => ?_, fun h12 => ?_⟩
  · exact ⟨fun _ => leafAr (x := [98, 111, 114]) h12 rfl, fun h => absurd (h12.symm.trans h) (by simp)⟩
  refine ⟨fun h13 => ?_, fun h13 => ?_⟩
  · exact ⟨fun _ => leafAr (x := [98, 120, 111, 114]) h13 rfl, fun h => absurd (h13.symm.trans h) (by simp)⟩
  refine ⟨fun h14 => ?_, fun h14 => ?_⟩
  · exact ⟨fun _ => leafAr (x := [98, 97, 100, 100]) h14 rfl, fun h => absurd (h14.symm.trans h) (by simp)⟩
  refine ⟨fun h15 => ?_, fun h15 => ?_⟩
  · exact ⟨fun _ => leafAr (x := [103, 101, 116]) h15 rfl, fun h => absurd (h15.symm.trans h) (by simp)⟩
  refine ⟨fun h16 => ?_, fun h16 => ?_⟩
  · exact ⟨fun _ => leafAr (x := [115, 101, 108]) h16 rfl, fun h => absurd (h16.symm.trans h) (by simp)⟩
  refine ⟨fun h17 => ?_, fun h17 => ?_⟩
  · exact ⟨fun _ => leafAr (x := [100, 105, 102, 102]) h17 rfl, fun h => absurd (h17.symm.trans h) (by simp)⟩
  refine ⟨fun h18 => ?_, fun h18 => ?_⟩
  · exact ⟨fun _ => leafAr (x := [119, 105, 116]) h18 rfl, fun h => absurd (h18.symm.trans h) (by simp)⟩
  refine ⟨fun h19 => ?_, fun h19 => ?_⟩
  · exact ⟨fun _ => leafAr (x := [61]) h19 rfl, fun h => absurd (h19.symm.trans h) (by simp)⟩
  refine ⟨fun h20 => ?_, fun h20 => ?_⟩
  · exact ⟨fun _ => leafAr (x := [60]) h20 rfl, fun h => absurd (h20.symm.trans h) (by simp)⟩
  refine ⟨fun h21 => ?_, fun h21 => ?_⟩
  · exact ⟨fun _ => leafAr (x := [60, 61]) h21 rfl, fun h => absurd (h21.symm.trans h) (by simp)⟩
  refine ⟨fun h22 => ?_, fun h22 => ?_⟩
  · exact ⟨fun _ => leafAr (x := [105, 115]) h22 rfl, fun h => absurd (h22.symm.trans h) (by simp)⟩
  refine ⟨fun h23 => ?_, fun h23 => ?_⟩
  · exact ⟨fun _ => leafAr (x := [61, 62]) h23 rfl, fun h => absurd (h23.symm.trans h) (by simp)⟩
  refine ⟨fun h24 => ?_, fun h24 => ?_⟩
  · exact leafAr (x := [105, 102, 102]) h24 rfl
  refine ⟨fun h25 => ?_, fun h25 => ?_⟩
  · exact ⟨fun _ => leafAr (x := [117, 112, 100]) h25 rfl, fun h => absurd (h25.symm.trans h) (by simp)⟩
  refine ⟨fun h26 => ?_, fun h26 => ?_⟩
  · exact leafAr (x := [105, 102]) h26 rfl
  refine ⟨fun h27 => ?_, fun h27 => ?_⟩
  · exact ⟨fun _ => leafAr (x := [97, 110, 100]) h27 rfl, fun h => absurd (h27.symm.trans h) (by simp)⟩
  refine ⟨fun h28 => ?_, fun h28 => ?_⟩
  · exact leafAr (x := [111, 114]) h28 rfl
  refine ⟨fun h29 => ?_, fun h29 => ?_⟩
  · exact ⟨fun _ => leafAr (x := [99, 97, 108, 108]) h29 rfl, fun h => absurd (h29.symm.trans h) (by simp)⟩
  refine ⟨fun h30 => ?_, fun h30 => ?_⟩
  · exact ⟨fun _ => leafAr (x := [109, 97, 107, 101]) h30 rfl, fun h => absurd (h30.symm.trans h) (by simp)⟩
  refine ⟨fun h31 => ?_, fun h31 => ?_⟩
  · exact ⟨fun _ => leafAr (x := [102, 111, 114, 97, 108, 108]) h31 rfl, fun h => absurd (h31.symm.trans h) (by simp)⟩
  refine ⟨fun h32 => ?_, fun h32 => ?_⟩
  · exact leafAr (x := [101, 120, 105, 115, 116, 115]) h32 rfl
  refine toEq ?_
  have h1 := noAr (x := [110, 101, 103]) h1
  have h2 := noAr (x := [98, 110, 117, 109]) h2
  have h3 := noAr (x := [115, 105, 122, 101]) h3
  have h4 := noAr (x := [110, 111, 116]) h4
  have h5 := noAr (x := [43]) h5
  have h6 := noAr (x := [45]) h6
  have h7 := noAr (x := [42]) h7
  have h8 := noAr (x := [100, 105, 118]) h8
  have h9 := noAr (x := [109, 111, 100]) h9
  have h10 := noAr (x := [98, 105, 116, 115]) h10
  have h11 := noAr (x := [98, 97, 110, 100]) h11
  have h12 := noAr (x := [98, 111, 114]) h12
  have h13 := noAr (x := [98, 120, 111, 114]) h13
  have h14 := noAr (x := [98, 97, 100, 100]) h14
  have h15 := noAr (x := [103, 101, 116]) h15
  have h16 := noAr (x := [115, 101, 108]) h16
  have h17 := noAr (x := [100, 105, 102, 102]) h17
  have h18 := noAr (x := [119, 105, 116]) h18
  have h19 := noAr (x := [61]) h19
  have h20 := noAr (x := [60]) h20
  have h21 := noAr (x := [60, 61]) h21
  have h22 := noAr (x := [105, 115]) h22
  have h23 := noAr (x := [61, 62]) h23
  have h24 := noAr (x := [105, 102, 102]) h24
  have h25 := noAr (x := [117, 112, 100]) h25
  have h26 := noAr (x := [105, 102]) h26
  have h27 := noAr (x := [97, 110, 100]) h27
  have h28 := noAr (x := [111, 114]) h28
  have h29 := noAr (x := [99, 97, 108, 108]) h29
  have h30 := noAr (x := [109, 97, 107, 101]) h30
  have h31 := noAr (x := [102, 111, 114, 97, 108, 108]) h31
  have h32 := noAr (x := [101, 120, 105, 115, 116, 115]) h32
  simp only [arL, inL, List.any_cons, List.any_nil, h1, h2, h3, h4, h5, h6, h7, h8, h9, h10, h11, h12, h13, h14, h15, h16, h17, h18, h19, h20, h21, h22, h23, h24, h25, h26, h27, h28, h29, h30, h31, h32, Bool.or_self, Bool.false_eq_true, if_false]
  rfl
end Go.Proofs.YtnapockpjklanaaGreatDoor.Lit
end
