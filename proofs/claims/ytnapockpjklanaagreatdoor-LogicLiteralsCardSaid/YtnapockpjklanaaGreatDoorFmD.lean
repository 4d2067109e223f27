/- form: head by head. -/
import Derived.Test.YtnapockpjklanaaGreatDoorFmB
noncomputable section
set_option linter.all false
namespace Go.Proofs.YtnapockpjklanaaGreatDoor.Lit
open Go Go.RowKit Go.Proofs.YtnapockpjklanaaGreatDoor.Pl
set_option linter.unusedSectionVars false
variable [Gm]
set_option maxRecDepth 10000
omit [Gm] in
theorem neq {s x y : ByteArray} (h : (s.toList == x.toList) = true) (hxy : (x.data.toList == y.data.toList) = false) : (s.toList == y.toList) = false := by
  rw [eq_of_beq h, ByteArray.toList_eq, ByteArray.toList_eq]; exact hxy
theorem form_div (k n : Int) (t : ByteArray) (a b c : Fm) (hd : ByteArray) (hh : PC Tryz.prog 24 [(Fm.mk k n t [a, b, c]).enc] (tS hd)) (ha : arL hd.toList = 2) (h1 : (hd.toList == (⟨#[100, 105, 118]⟩ : ByteArray).toList) = true) : PC Tryz.prog 14 [(Fm.mk k n t [a, b, c]).enc] (tB (c.kind == 0)) := by
  have har := arity_spec hd
  rw [ha] at har
  have hn := isNum_spec c
  generalize (c.kind == 0) = r at hn
  obtain ⟨ck, cn, ct, cs⟩ := c
  refine PC.of_ok tok Tryz.func14 rfl (Nat.le_of_ble_eq_true rfl) (ev_sound ctx (own := []) _ _ _ ?_)
  refine ⟨rhead_ent, .inl ⟨_, hh, ?_⟩⟩
  refine ⟨arity_ent, .inl ⟨_, har, ?_⟩⟩
  refine ⟨fun _ => trivial, fun hb => absurd hb (by simp [rows]; decide), fun _ => ?_⟩
  refine ⟨fun _ => ?_, fun h => absurd (h1.symm.trans h) (by simp)⟩
  refine ⟨fun _ => ?_, fun h => absurd (h1.symm.trans h) (by simp)⟩
  refine ⟨_, ⟨by decide, rfl⟩, ?_⟩
  exact ⟨isNum_ent, .inl ⟨_, hn, rfl⟩⟩
theorem form_mod (k n : Int) (t : ByteArray) (a b c : Fm) (hd : ByteArray) (hh : PC Tryz.prog 24 [(Fm.mk k n t [a, b, c]).enc] (tS hd)) (ha : arL hd.toList = 2) (h1 : (hd.toList == (⟨#[109, 111, 100]⟩ : ByteArray).toList) = true) : PC Tryz.prog 14 [(Fm.mk k n t [a, b, c]).enc] (tB (c.kind == 0)) := by
  have har := arity_spec hd
  rw [ha] at har
  have hn := isNum_spec c
  generalize (c.kind == 0) = r at hn
  obtain ⟨ck, cn, ct, cs⟩ := c
  refine PC.of_ok tok Tryz.func14 rfl (Nat.le_of_ble_eq_true rfl) (ev_sound ctx (own := []) _ _ _ ?_)
  refine ⟨rhead_ent, .inl ⟨_, hh, ?_⟩⟩
  refine ⟨arity_ent, .inl ⟨_, har, ?_⟩⟩
  refine ⟨fun _ => trivial, fun hb => absurd hb (by simp [rows]; decide), fun _ => ?_⟩
  refine ⟨fun h => absurd (h.symm.trans (neq h1 (y := ⟨#[100, 105, 118]⟩) rfl)) (by simp), fun _ => ?_⟩
  refine ⟨fun _ => ?_, fun h => absurd (h1.symm.trans h) (by simp)⟩
  refine ⟨_, ⟨by decide, rfl⟩, ?_⟩
  exact ⟨isNum_ent, .inl ⟨_, hn, rfl⟩⟩
theorem form_get (k n : Int) (t : ByteArray) (a b c : Fm) (hd : ByteArray) (hh : PC Tryz.prog 24 [(Fm.mk k n t [a, b, c]).enc] (tS hd)) (ha : arL hd.toList = 2) (h1 : (hd.toList == (⟨#[103, 101, 116]⟩ : ByteArray).toList) = true) : PC Tryz.prog 14 [(Fm.mk k n t [a, b, c]).enc] (tB (b.kind == 1)) := by
  have har := arity_spec hd
  rw [ha] at har
  have hn := isWord_spec b
  generalize (b.kind == 1) = r at hn
  obtain ⟨bk, bn, bt, bs⟩ := b
  refine PC.of_ok tok Tryz.func14 rfl (Nat.le_of_ble_eq_true rfl) (ev_sound ctx (own := []) _ _ _ ?_)
  refine ⟨rhead_ent, .inl ⟨_, hh, ?_⟩⟩
  refine ⟨arity_ent, .inl ⟨_, har, ?_⟩⟩
  refine ⟨fun _ => trivial, fun hb => absurd hb (by simp [rows]; decide), fun _ => ?_⟩
  refine ⟨fun h => absurd (h.symm.trans (neq h1 (y := ⟨#[100, 105, 118]⟩) rfl)) (by simp), fun _ => ?_⟩
  refine ⟨fun h => absurd (h.symm.trans (neq h1 (y := ⟨#[109, 111, 100]⟩) rfl)) (by simp), fun _ => ?_⟩
  refine ⟨fun h => absurd (h.symm.trans (neq h1 (y := ⟨#[98, 105, 116, 115]⟩) rfl)) (by simp), fun _ => ?_⟩
  refine ⟨fun h => absurd (h.symm.trans (neq h1 (y := ⟨#[99, 97, 108, 108]⟩) rfl)) (by simp), fun _ => ?_⟩
  refine ⟨fun h => absurd (h.symm.trans (neq h1 (y := ⟨#[109, 97, 107, 101]⟩) rfl)) (by simp), fun _ => ?_⟩
  refine ⟨fun _ => ?_, fun h => absurd (h1.symm.trans h) (by simp)⟩
  refine ⟨fun _ => ?_, fun h => absurd (h1.symm.trans h) (by simp)⟩
  refine ⟨_, ⟨by decide, rfl⟩, ?_⟩
  exact ⟨isWord_ent, .inl ⟨_, hn, rfl⟩⟩
theorem form_is (k n : Int) (t : ByteArray) (a b c : Fm) (hd : ByteArray) (hh : PC Tryz.prog 24 [(Fm.mk k n t [a, b, c]).enc] (tS hd)) (ha : arL hd.toList = 2) (h1 : (hd.toList == (⟨#[105, 115]⟩ : ByteArray).toList) = true) : PC Tryz.prog 14 [(Fm.mk k n t [a, b, c]).enc] (tB (b.kind == 1)) := by
  have har := arity_spec hd
  rw [ha] at har
  have hn := isWord_spec b
  generalize (b.kind == 1) = r at hn
  obtain ⟨bk, bn, bt, bs⟩ := b
  refine PC.of_ok tok Tryz.func14 rfl (Nat.le_of_ble_eq_true rfl) (ev_sound ctx (own := []) _ _ _ ?_)
  refine ⟨rhead_ent, .inl ⟨_, hh, ?_⟩⟩
  refine ⟨arity_ent, .inl ⟨_, har, ?_⟩⟩
  refine ⟨fun _ => trivial, fun hb => absurd hb (by simp [rows]; decide), fun _ => ?_⟩
  refine ⟨fun h => absurd (h.symm.trans (neq h1 (y := ⟨#[100, 105, 118]⟩) rfl)) (by simp), fun _ => ?_⟩
  refine ⟨fun h => absurd (h.symm.trans (neq h1 (y := ⟨#[109, 111, 100]⟩) rfl)) (by simp), fun _ => ?_⟩
  refine ⟨fun h => absurd (h.symm.trans (neq h1 (y := ⟨#[98, 105, 116, 115]⟩) rfl)) (by simp), fun _ => ?_⟩
  refine ⟨fun h => absurd (h.symm.trans (neq h1 (y := ⟨#[99, 97, 108, 108]⟩) rfl)) (by simp), fun _ => ?_⟩
  refine ⟨fun h => absurd (h.symm.trans (neq h1 (y := ⟨#[109, 97, 107, 101]⟩) rfl)) (by simp), fun _ => ?_⟩
  refine ⟨fun h => absurd (h.symm.trans (neq h1 (y := ⟨#[103, 101, 116]⟩) rfl)) (by simp), fun _ => ?_⟩
  refine ⟨fun _ => ?_, fun h => absurd (h1.symm.trans h) (by simp)⟩
  refine ⟨_, ⟨by decide, rfl⟩, ?_⟩
  exact ⟨isWord_ent, .inl ⟨_, hn, rfl⟩⟩
theorem form_bits (k n : Int) (t : ByteArray) (a b c : Fm) (hd : ByteArray) (hh : PC Tryz.prog 24 [(Fm.mk k n t [a, b, c]).enc] (tS hd)) (ha : arL hd.toList = 2) (h1 : (hd.toList == (⟨#[98, 105, 116, 115]⟩ : ByteArray).toList) = true) : PC Tryz.prog 14 [(Fm.mk k n t [a, b, c]).enc] (tB ((b.kind == 0) && (c.kind == 0))) := by
  have har := arity_spec hd
  rw [ha] at har
  have hn := isNum_spec b
  generalize (b.kind == 0) = r at hn
  obtain ⟨bk, bn, bt, bs⟩ := b
  have hn2 := isNum_spec c
  generalize (c.kind == 0) = r2 at hn2
  obtain ⟨ck, cn, ct, cs⟩ := c
  refine PC.of_ok tok Tryz.func14 rfl (Nat.le_of_ble_eq_true rfl) (ev_sound ctx (own := []) _ _ _ ?_)
  refine ⟨rhead_ent, .inl ⟨_, hh, ?_⟩⟩
  refine ⟨arity_ent, .inl ⟨_, har, ?_⟩⟩
  refine ⟨fun _ => trivial, fun hb => absurd hb (by simp [rows]; decide), fun _ => ?_⟩
  refine ⟨fun h => absurd (h.symm.trans (neq h1 (y := ⟨#[100, 105, 118]⟩) rfl)) (by simp), fun _ => ?_⟩
  refine ⟨fun h => absurd (h.symm.trans (neq h1 (y := ⟨#[109, 111, 100]⟩) rfl)) (by simp), fun _ => ?_⟩
  refine ⟨fun _ => ?_, fun h => absurd (h1.symm.trans h) (by simp)⟩
  refine ⟨_, ⟨by decide, rfl⟩, ?_⟩
  refine ⟨isNum_ent, .inl ⟨_, hn, ?_⟩⟩
  refine ⟨_, fun _ => ⟨by decide, rfl⟩, ?_⟩
  exact ⟨isNum_ent, _, fun _ => hn2, rfl⟩
theorem form_wit (k n : Int) (t : ByteArray) (a b c : Fm) (hfc : Fit c) (hd : ByteArray) (hh : PC Tryz.prog 24 [(Fm.mk k n t [a, b, c]).enc] (tS hd)) (ha : arL hd.toList = 2) (h1 : (hd.toList == (⟨#[119, 105, 116]⟩ : ByteArray).toList) = true) : PC Tryz.prog 14 [(Fm.mk k n t [a, b, c]).enc] (tB ((b.kind == 0) && okQ c)) := by
  have har := arity_spec hd
  rw [ha] at har
  have hn := isNum_spec b
  generalize (b.kind == 0) = r at hn
  obtain ⟨bk, bn, bt, bs⟩ := b
  have hc := quant_spec c hfc
  have hcq : quant c = if okQ c then .tup [encs (varsOf c), encs (trigsOf c), (bodyOf c).enc, tB true] else .tup [encs [], encs [], f0.enc, tB false] := rfl
  generalize okQ c = oc at hcq
  generalize bodyOf c = bc at hcq
  generalize varsOf c = vc at hcq
  generalize trigsOf c = tc at hcq
  generalize quant c = qc at hc hcq
  obtain ⟨ck, cn, ct, cs⟩ := c
  obtain ⟨dk, dn, dt, ds⟩ := bc
  subst hcq
  refine PC.of_ok tok Tryz.func14 rfl (Nat.le_of_ble_eq_true rfl) (ev_sound ctx (own := []) _ _ _ ?_)
  refine ⟨rhead_ent, .inl ⟨_, hh, ?_⟩⟩
  refine ⟨arity_ent, .inl ⟨_, har, ?_⟩⟩
  refine ⟨fun _ => trivial, fun hb => absurd hb (by simp [rows]; decide), fun _ => ?_⟩
  refine ⟨fun h => absurd (h.symm.trans (neq h1 (y := ⟨#[100, 105, 118]⟩) rfl)) (by simp), fun _ => ?_⟩
  refine ⟨fun h => absurd (h.symm.trans (neq h1 (y := ⟨#[109, 111, 100]⟩) rfl)) (by simp), fun _ => ?_⟩
  refine ⟨fun h => absurd (h.symm.trans (neq h1 (y := ⟨#[98, 105, 116, 115]⟩) rfl)) (by simp), fun _ => ?_⟩
  refine ⟨fun h => absurd (h.symm.trans (neq h1 (y := ⟨#[99, 97, 108, 108]⟩) rfl)) (by simp), fun _ => ?_⟩
  refine ⟨fun h => absurd (h.symm.trans (neq h1 (y := ⟨#[109, 97, 107, 101]⟩) rfl)) (by simp), fun _ => ?_⟩
  refine ⟨fun h => absurd (h.symm.trans (neq h1 (y := ⟨#[103, 101, 116]⟩) rfl)) (by simp), fun _ => ?_⟩
  refine ⟨fun h => absurd (h.symm.trans (neq h1 (y := ⟨#[105, 115]⟩) rfl)) (by simp), fun _ => ?_⟩
  refine ⟨fun _ => ?_, fun h => absurd (h1.symm.trans h) (by simp)⟩
  refine ⟨_, ⟨by decide, rfl⟩, ?_⟩
  cases oc with
  | true =>
    refine ⟨quant_ent, .inl ⟨_, hc, ?_⟩⟩
    refine ⟨_, ⟨by decide, rfl⟩, ?_⟩
    exact ⟨isNum_ent, .inl ⟨_, hn, rfl⟩⟩
  | false =>
    refine ⟨quant_ent, .inl ⟨_, hc, ?_⟩⟩
    refine ⟨_, ⟨by decide, rfl⟩, ?_⟩
    exact ⟨isNum_ent, .inl ⟨_, hn, rfl⟩⟩
theorem form_forall (k n : Int) (t : ByteArray) (ks : List Fm) (hf : Fit (.mk k n t ks)) (hd : ByteArray) (hh : PC Tryz.prog 24 [(Fm.mk k n t ks).enc] (tS hd)) (ha : arL hd.toList = -3) (h1 : (hd.toList == (⟨#[102, 111, 114, 97, 108, 108]⟩ : ByteArray).toList) = true) : PC Tryz.prog 14 [(Fm.mk k n t ks).enc] (tB (okQ (.mk k n t ks))) := by
  have har := arity_spec hd
  rw [ha] at har
  have hcq : quant (.mk k n t ks) = if okQ (.mk k n t ks) then .tup [encs (varsOf (.mk k n t ks)), encs (trigsOf (.mk k n t ks)), (bodyOf (.mk k n t ks)).enc, tB true] else .tup [encs [], encs [], f0.enc, tB false] := rfl
  have hc := quant_spec _ hf
  generalize okQ (.mk k n t ks) = oc at hcq
  generalize bodyOf (.mk k n t ks) = bc at hcq
  generalize varsOf (.mk k n t ks) = vc at hcq
  generalize trigsOf (.mk k n t ks) = tc at hcq
  generalize quant (.mk k n t ks) = qc at hc hcq
  obtain ⟨dk, dn, dt, ds⟩ := bc
  subst hcq
  refine PC.of_ok tok Tryz.func14 rfl (Nat.le_of_ble_eq_true rfl) (ev_sound ctx (own := []) _ _ _ ?_)
  refine ⟨rhead_ent, .inl ⟨_, hh, ?_⟩⟩
  refine ⟨arity_ent, .inl ⟨_, har, ?_⟩⟩
  refine ⟨fun _ => trivial, fun hb => absurd hb (by simp), fun _ => ?_⟩
  refine ⟨fun h => absurd (h.symm.trans (neq h1 (y := ⟨#[100, 105, 118]⟩) rfl)) (by simp), fun _ => ?_⟩
  refine ⟨fun h => absurd (h.symm.trans (neq h1 (y := ⟨#[109, 111, 100]⟩) rfl)) (by simp), fun _ => ?_⟩
  refine ⟨fun h => absurd (h.symm.trans (neq h1 (y := ⟨#[98, 105, 116, 115]⟩) rfl)) (by simp), fun _ => ?_⟩
  refine ⟨fun h => absurd (h.symm.trans (neq h1 (y := ⟨#[99, 97, 108, 108]⟩) rfl)) (by simp), fun _ => ?_⟩
  refine ⟨fun h => absurd (h.symm.trans (neq h1 (y := ⟨#[109, 97, 107, 101]⟩) rfl)) (by simp), fun _ => ?_⟩
  refine ⟨fun h => absurd (h.symm.trans (neq h1 (y := ⟨#[103, 101, 116]⟩) rfl)) (by simp), fun _ => ?_⟩
  refine ⟨fun h => absurd (h.symm.trans (neq h1 (y := ⟨#[105, 115]⟩) rfl)) (by simp), fun _ => ?_⟩
  refine ⟨fun h => absurd (h.symm.trans (neq h1 (y := ⟨#[119, 105, 116]⟩) rfl)) (by simp), fun _ => ?_⟩
  refine ⟨fun _ => ?_, fun h => absurd (h1.symm.trans h) (by simp)⟩
  refine ⟨fun _ => ?_, fun h => absurd (h1.symm.trans h) (by simp)⟩
  cases oc with
  | true => exact ⟨quant_ent, .inl ⟨_, hc, rfl⟩⟩
  | false => exact ⟨quant_ent, .inl ⟨_, hc, rfl⟩⟩
theorem form_exists (k n : Int) (t : ByteArray) (ks : List Fm) (hf : Fit (.mk k n t ks)) (hd : ByteArray) (hh : PC Tryz.prog 24 [(Fm.mk k n t ks).enc] (tS hd)) (ha : arL hd.toList = -3) (h1 : (hd.toList == (⟨#[101, 120, 105, 115, 116, 115]⟩ : ByteArray).toList) = true) : PC Tryz.prog 14 [(Fm.mk k n t ks).enc] (tB (okQ (.mk k n t ks))) := by
  have har := arity_spec hd
  rw [ha] at har
  have hcq : quant (.mk k n t ks) = if okQ (.mk k n t ks) then .tup [encs (varsOf (.mk k n t ks)), encs (trigsOf (.mk k n t ks)), (bodyOf (.mk k n t ks)).enc, tB true] else .tup [encs [], encs [], f0.enc, tB false] := rfl
  have hc := quant_spec _ hf
  generalize okQ (.mk k n t ks) = oc at hcq
  generalize bodyOf (.mk k n t ks) = bc at hcq
  generalize varsOf (.mk k n t ks) = vc at hcq
  generalize trigsOf (.mk k n t ks) = tc at hcq
  generalize quant (.mk k n t ks) = qc at hc hcq
  obtain ⟨dk, dn, dt, ds⟩ := bc
  subst hcq
  refine PC.of_ok tok Tryz.func14 rfl (Nat.le_of_ble_eq_true rfl) (ev_sound ctx (own := []) _ _ _ ?_)
  refine ⟨rhead_ent, .inl ⟨_, hh, ?_⟩⟩
  refine ⟨arity_ent, .inl ⟨_, har, ?_⟩⟩
  refine ⟨fun _ => trivial, fun hb => absurd hb (by simp), fun _ => ?_⟩
  refine ⟨fun h => absurd (h.symm.trans (neq h1 (y := ⟨#[100, 105, 118]⟩) rfl)) (by simp), fun _ => ?_⟩
  refine ⟨fun h => absurd (h.symm.trans (neq h1 (y := ⟨#[109, 111, 100]⟩) rfl)) (by simp), fun _ => ?_⟩
  refine ⟨fun h => absurd (h.symm.trans (neq h1 (y := ⟨#[98, 105, 116, 115]⟩) rfl)) (by simp), fun _ => ?_⟩
  refine ⟨fun h => absurd (h.symm.trans (neq h1 (y := ⟨#[99, 97, 108, 108]⟩) rfl)) (by simp), fun _ => ?_⟩
  refine ⟨fun h => absurd (h.symm.trans (neq h1 (y := ⟨#[109, 97, 107, 101]⟩) rfl)) (by simp), fun _ => ?_⟩
  refine ⟨fun h => absurd (h.symm.trans (neq h1 (y := ⟨#[103, 101, 116]⟩) rfl)) (by simp), fun _ => ?_⟩
  refine ⟨fun h => absurd (h.symm.trans (neq h1 (y := ⟨#[105, 115]⟩) rfl)) (by simp), fun _ => ?_⟩
  refine ⟨fun h => absurd (h.symm.trans (neq h1 (y := ⟨#[119, 105, 116]⟩) rfl)) (by simp), fun _ => ?_⟩
  refine ⟨fun h => absurd (h.symm.trans (neq h1 (y := ⟨#[102, 111, 114, 97, 108, 108]⟩) rfl)) (by simp), fun _ => ?_⟩
  refine ⟨fun _ => ?_, fun h => absurd (h1.symm.trans h) (by simp)⟩
  cases oc with
  | true => exact ⟨quant_ent, .inl ⟨_, hc, rfl⟩⟩
  | false => exact ⟨quant_ent, .inl ⟨_, hc, rfl⟩⟩
def kid (f : Fm) (i : Nat) : Fm := f.kids.getD i f0
theorem form_call (k n : Int) (t : ByteArray) (ks : List Fm) (hd : ByteArray) (hh : PC Tryz.prog 24 [(Fm.mk k n t ks).enc] (tS hd)) (ha : arL hd.toList = -3) (h1 : (hd.toList == (⟨#[99, 97, 108, 108]⟩ : ByteArray).toList) = true) : PC Tryz.prog 14 [(Fm.mk k n t ks).enc] (tB (decide (((rows ks).length : Int) ≥ 3) && ((kid (.mk k n t ks) 1).kind == 1))) := by
  have har := arity_spec hd
  rw [ha] at har
  match ks, hh with
  | [], hh =>
    refine PC.of_ok tok Tryz.func14 rfl (Nat.le_of_ble_eq_true rfl) (ev_sound ctx (own := []) _ _ _ ?_)
    refine ⟨rhead_ent, .inl ⟨_, hh, ?_⟩⟩
    refine ⟨arity_ent, .inl ⟨_, har, ?_⟩⟩
    refine ⟨fun _ => trivial, fun hb => absurd hb (by simp), fun _ => ?_⟩
    refine ⟨fun h => absurd (h.symm.trans (neq h1 (y := ⟨#[100, 105, 118]⟩) rfl)) (by simp), fun _ => ?_⟩
    refine ⟨fun h => absurd (h.symm.trans (neq h1 (y := ⟨#[109, 111, 100]⟩) rfl)) (by simp), fun _ => ?_⟩
    refine ⟨fun h => absurd (h.symm.trans (neq h1 (y := ⟨#[98, 105, 116, 115]⟩) rfl)) (by simp), fun _ => ?_⟩
    refine ⟨fun _ => ?_, fun h => absurd (h1.symm.trans h) (by simp)⟩
    exact ⟨f0.cells, fun h => absurd h (by simp [rows]), isWord_ent, _, fun _ => isWord_spec f0, rfl⟩
  | [a], hh =>
    refine PC.of_ok tok Tryz.func14 rfl (Nat.le_of_ble_eq_true rfl) (ev_sound ctx (own := []) _ _ _ ?_)
    refine ⟨rhead_ent, .inl ⟨_, hh, ?_⟩⟩
    refine ⟨arity_ent, .inl ⟨_, har, ?_⟩⟩
    refine ⟨fun _ => trivial, fun hb => absurd hb (by simp), fun _ => ?_⟩
    refine ⟨fun h => absurd (h.symm.trans (neq h1 (y := ⟨#[100, 105, 118]⟩) rfl)) (by simp), fun _ => ?_⟩
    refine ⟨fun h => absurd (h.symm.trans (neq h1 (y := ⟨#[109, 111, 100]⟩) rfl)) (by simp), fun _ => ?_⟩
    refine ⟨fun h => absurd (h.symm.trans (neq h1 (y := ⟨#[98, 105, 116, 115]⟩) rfl)) (by simp), fun _ => ?_⟩
    refine ⟨fun _ => ?_, fun h => absurd (h1.symm.trans h) (by simp)⟩
    exact ⟨f0.cells, fun h => absurd h (by simp [rows]), isWord_ent, _, fun _ => isWord_spec f0, rfl⟩
  | a :: b :: r, hh =>
    obtain ⟨bk, bn, bt, bs⟩ := b
    refine PC.of_ok tok Tryz.func14 rfl (Nat.le_of_ble_eq_true rfl) (ev_sound ctx (own := []) _ _ _ ?_)
    refine ⟨rhead_ent, .inl ⟨_, hh, ?_⟩⟩
    refine ⟨arity_ent, .inl ⟨_, har, ?_⟩⟩
    refine ⟨fun _ => trivial, fun hb => absurd hb (by simp), fun _ => ?_⟩
    refine ⟨fun h => absurd (h.symm.trans (neq h1 (y := ⟨#[100, 105, 118]⟩) rfl)) (by simp), fun _ => ?_⟩
    refine ⟨fun h => absurd (h.symm.trans (neq h1 (y := ⟨#[109, 111, 100]⟩) rfl)) (by simp), fun _ => ?_⟩
    refine ⟨fun h => absurd (h.symm.trans (neq h1 (y := ⟨#[98, 105, 116, 115]⟩) rfl)) (by simp), fun _ => ?_⟩
    refine ⟨fun _ => ?_, fun h => absurd (h1.symm.trans h) (by simp)⟩
    exact ⟨_, fun _ => ⟨by decide, rfl⟩, isWord_ent, _, fun _ => isWord_spec (Fm.mk bk bn bt bs), rfl⟩
theorem form_make (k n : Int) (t : ByteArray) (ks : List Fm) (hd : ByteArray) (hh : PC Tryz.prog 24 [(Fm.mk k n t ks).enc] (tS hd)) (ha : arL hd.toList = -3) (h1 : (hd.toList == (⟨#[109, 97, 107, 101]⟩ : ByteArray).toList) = true) : PC Tryz.prog 14 [(Fm.mk k n t ks).enc] (tB (decide (((rows ks).length : Int) ≥ 2) && ((kid (.mk k n t ks) 1).kind == 1))) := by
  have har := arity_spec hd
  rw [ha] at har
  match ks, hh with
  | [], hh =>
    refine PC.of_ok tok Tryz.func14 rfl (Nat.le_of_ble_eq_true rfl) (ev_sound ctx (own := []) _ _ _ ?_)
    refine ⟨rhead_ent, .inl ⟨_, hh, ?_⟩⟩
    refine ⟨arity_ent, .inl ⟨_, har, ?_⟩⟩
    refine ⟨fun _ => trivial, fun hb => absurd hb (by simp), fun _ => ?_⟩
    refine ⟨fun h => absurd (h.symm.trans (neq h1 (y := ⟨#[100, 105, 118]⟩) rfl)) (by simp), fun _ => ?_⟩
    refine ⟨fun h => absurd (h.symm.trans (neq h1 (y := ⟨#[109, 111, 100]⟩) rfl)) (by simp), fun _ => ?_⟩
    refine ⟨fun h => absurd (h.symm.trans (neq h1 (y := ⟨#[98, 105, 116, 115]⟩) rfl)) (by simp), fun _ => ?_⟩
    refine ⟨fun h => absurd (h.symm.trans (neq h1 (y := ⟨#[99, 97, 108, 108]⟩) rfl)) (by simp), fun _ => ?_⟩
    refine ⟨fun _ => ?_, fun h => absurd (h1.symm.trans h) (by simp)⟩
    exact ⟨f0.cells, fun h => absurd h (by simp [rows]), isWord_ent, _, fun _ => isWord_spec f0, rfl⟩
  | [a], hh =>
    refine PC.of_ok tok Tryz.func14 rfl (Nat.le_of_ble_eq_true rfl) (ev_sound ctx (own := []) _ _ _ ?_)
    refine ⟨rhead_ent, .inl ⟨_, hh, ?_⟩⟩
    refine ⟨arity_ent, .inl ⟨_, har, ?_⟩⟩
    refine ⟨fun _ => trivial, fun hb => absurd hb (by simp), fun _ => ?_⟩
    refine ⟨fun h => absurd (h.symm.trans (neq h1 (y := ⟨#[100, 105, 118]⟩) rfl)) (by simp), fun _ => ?_⟩
    refine ⟨fun h => absurd (h.symm.trans (neq h1 (y := ⟨#[109, 111, 100]⟩) rfl)) (by simp), fun _ => ?_⟩
    refine ⟨fun h => absurd (h.symm.trans (neq h1 (y := ⟨#[98, 105, 116, 115]⟩) rfl)) (by simp), fun _ => ?_⟩
    refine ⟨fun h => absurd (h.symm.trans (neq h1 (y := ⟨#[99, 97, 108, 108]⟩) rfl)) (by simp), fun _ => ?_⟩
    refine ⟨fun _ => ?_, fun h => absurd (h1.symm.trans h) (by simp)⟩
    exact ⟨f0.cells, fun h => absurd h (by simp [rows]), isWord_ent, _, fun _ => isWord_spec f0, rfl⟩
  | a :: b :: r, hh =>
    obtain ⟨bk, bn, bt, bs⟩ := b
    refine PC.of_ok tok Tryz.func14 rfl (Nat.le_of_ble_eq_true rfl) (ev_sound ctx (own := []) _ _ _ ?_)
    refine ⟨rhead_ent, .inl ⟨_, hh, ?_⟩⟩
    refine ⟨arity_ent, .inl ⟨_, har, ?_⟩⟩
    refine ⟨fun _ => trivial, fun hb => absurd hb (by simp), fun _ => ?_⟩
    refine ⟨fun h => absurd (h.symm.trans (neq h1 (y := ⟨#[100, 105, 118]⟩) rfl)) (by simp), fun _ => ?_⟩
    refine ⟨fun h => absurd (h.symm.trans (neq h1 (y := ⟨#[109, 111, 100]⟩) rfl)) (by simp), fun _ => ?_⟩
    refine ⟨fun h => absurd (h.symm.trans (neq h1 (y := ⟨#[98, 105, 116, 115]⟩) rfl)) (by simp), fun _ => ?_⟩
    refine ⟨fun h => absurd (h.symm.trans (neq h1 (y := ⟨#[99, 97, 108, 108]⟩) rfl)) (by simp), fun _ => ?_⟩
    refine ⟨fun _ => ?_, fun h => absurd (h1.symm.trans h) (by simp)⟩
    exact ⟨_, fun _ => ⟨by decide, rfl⟩, isWord_ent, _, fun _ => isWord_spec (Fm.mk bk bn bt bs), rfl⟩
def badF (l : List UInt8) (n : Int) : Bool := (l |> arL) == -2 || (decide (arL l ≥ 0) && (n != IntKind.i64.wrap (arL l + 1)))
theorem form_bad (k n : Int) (t : ByteArray) (ks : List Fm) (hd : ByteArray) (hh : PC Tryz.prog 24 [(Fm.mk k n t ks).enc] (tS hd)) (hb : badF hd.toList ((rows ks).length : Int) = true) : PC Tryz.prog 14 [(Fm.mk k n t ks).enc] (tB false) := by
  have har := arity_spec hd
  refine PC.of_ok tok Tryz.func14 rfl (Nat.le_of_ble_eq_true rfl) (ev_sound ctx (own := []) _ _ _ ?_)
  refine ⟨rhead_ent, .inl ⟨_, hh, ?_⟩⟩
  refine ⟨arity_ent, .inl ⟨_, har, ?_⟩⟩
  exact ⟨fun _ => trivial, fun _ => rfl, fun h => absurd (hb.symm.trans h) (by simp)⟩
theorem form_other (k n : Int) (t : ByteArray) (ks : List Fm) (hd : ByteArray) (hh : PC Tryz.prog 24 [(Fm.mk k n t ks).enc] (tS hd)) (hb : badF hd.toList ((rows ks).length : Int) = false) (h0 : (hd.toList == (⟨#[100, 105, 118]⟩ : ByteArray).toList) = false) (h1 : (hd.toList == (⟨#[109, 111, 100]⟩ : ByteArray).toList) = false) (h2 : (hd.toList == (⟨#[98, 105, 116, 115]⟩ : ByteArray).toList) = false) (h3 : (hd.toList == (⟨#[99, 97, 108, 108]⟩ : ByteArray).toList) = false) (h4 : (hd.toList == (⟨#[109, 97, 107, 101]⟩ : ByteArray).toList) = false) (h5 : (hd.toList == (⟨#[103, 101, 116]⟩ : ByteArray).toList) = false) (h6 : (hd.toList == (⟨#[105, 115]⟩ : ByteArray).toList) = false) (h7 : (hd.toList == (⟨#[119, 105, 116]⟩ : ByteArray).toList) = false) (h8 : (hd.toList == (⟨#[102, 111, 114, 97, 108, 108]⟩ : ByteArray).toList) = false) (h9 : (hd.toList == (⟨#[101, 120, 105, 115, 116, 115]⟩ : ByteArray).toList) = false) : PC Tryz.prog 14 [(Fm.mk k n t ks).enc] (tB true) := by
  have har := arity_spec hd
  refine PC.of_ok tok Tryz.func14 rfl (Nat.le_of_ble_eq_true rfl) (ev_sound ctx (own := []) _ _ _ ?_)
  refine ⟨rhead_ent, .inl ⟨_, hh, ?_⟩⟩
  refine ⟨arity_ent, .inl ⟨_, har, ?_⟩⟩
  refine ⟨fun _ => trivial, fun h => absurd (hb.symm.trans h) (by simp), fun _ => ?_⟩
  refine ⟨fun h => absurd (h0.symm.trans h) (by simp), fun _ => ?_⟩
  refine ⟨fun h => absurd (h1.symm.trans h) (by simp), fun _ => ?_⟩
  refine ⟨fun h => absurd (h2.symm.trans h) (by simp), fun _ => ?_⟩
  refine ⟨fun h => absurd (h3.symm.trans h) (by simp), fun _ => ?_⟩
  refine ⟨fun h => absurd (h4.symm.trans h) (by simp), fun _ => ?_⟩
  refine ⟨fun h => absurd (h5.symm.trans h) (by simp), fun _ => ?_⟩
  refine ⟨fun h => absurd (h6.symm.trans h) (by simp), fun _ => ?_⟩
  refine ⟨fun h => absurd (h7.symm.trans h) (by simp), fun _ => ?_⟩
  refine ⟨fun h => absurd (h8.symm.trans h) (by simp), fun _ => ?_⟩
  refine ⟨fun h => absurd (h9.symm.trans h) (by simp), fun _ => ?_⟩
  exact rfl
omit [Gm] in
theorem ar_is {s x : ByteArray} (h : (s.toList == x.toList) = true) : arL s.toList = arL x.data.toList := by
  rw [eq_of_beq h, ByteArray.toList_eq]
omit [Gm] in
theorem len3 {l : List UInt8} {ks : List Fm} (hb : badF l ((rows ks).length : Int) = false) (ha : arL l = 2) : ∃ a b c, ks = [a, b, c] := by
  unfold badF at hb
  rw [ha, Bool.or_eq_false_iff, Bool.and_eq_false_iff] at hb
  have h2 := hb.2.resolve_left (by simp)
  rw [rows_len, show IntKind.i64.wrap (2 + 1) = 3 from rfl] at h2
  have h3 : ks.length = 3 := by
    have : ((ks.length : Int) = 3) := by simpa using h2
    omega
  match ks, h3 with
  | [a, b, c], _ => exact ⟨a, b, c, rfl⟩
theorem form_ex (f : Fm) (hf : Fit f) : ∃ b, PC Tryz.prog 14 [f.enc] (tB b) := by
  have hh := rhead_spec f
  generalize headOf f = hd at hh
  obtain ⟨k, n, t, ks⟩ := f
  have hfk : ∀ g ∈ ks, Fit g := by cases hf with | mk _ _ h => exact h
  cases hb : badF hd.toList ((rows ks).length : Int) with
  | true => exact ⟨_, form_bad k n t ks hd hh hb⟩
  | false =>
    cases h0 : (hd.toList == (⟨#[100, 105, 118]⟩ : ByteArray).toList) with
    | true =>
      obtain ⟨a, b, c, rfl⟩ := len3 hb (ar_is h0)
      exact ⟨_, form_div k n t a b c hd hh (ar_is h0) h0⟩
    | false =>
    cases h1 : (hd.toList == (⟨#[109, 111, 100]⟩ : ByteArray).toList) with
    | true =>
      obtain ⟨a, b, c, rfl⟩ := len3 hb (ar_is h1)
      exact ⟨_, form_mod k n t a b c hd hh (ar_is h1) h1⟩
    | false =>
    cases h2 : (hd.toList == (⟨#[98, 105, 116, 115]⟩ : ByteArray).toList) with
    | true =>
      obtain ⟨a, b, c, rfl⟩ := len3 hb (ar_is h2)
      exact ⟨_, form_bits k n t a b c hd hh (ar_is h2) h2⟩
    | false =>
    cases h3 : (hd.toList == (⟨#[99, 97, 108, 108]⟩ : ByteArray).toList) with
    | true =>
      exact ⟨_, form_call k n t ks hd hh (ar_is h3) h3⟩
    | false =>
    cases h4 : (hd.toList == (⟨#[109, 97, 107, 101]⟩ : ByteArray).toList) with
    | true =>
      exact ⟨_, form_make k n t ks hd hh (ar_is h4) h4⟩
    | false =>
    cases h5 : (hd.toList == (⟨#[103, 101, 116]⟩ : ByteArray).toList) with
    | true =>
      obtain ⟨a, b, c, rfl⟩ := len3 hb (ar_is h5)
      exact ⟨_, form_get k n t a b c hd hh (ar_is h5) h5⟩
    | false =>
    cases h6 : (hd.toList == (⟨#[105, 115]⟩ : ByteArray).toList) with
    | true =>
      obtain ⟨a, b, c, rfl⟩ := len3 hb (ar_is h6)
      exact ⟨_, form_is k n t a b c hd hh (ar_is h6) h6⟩
    | false =>
    cases h7 : (hd.toList == (⟨#[119, 105, 116]⟩ : ByteArray).toList) with
    | true =>
      obtain ⟨a, b, c, rfl⟩ := len3 hb (ar_is h7)
      exact ⟨_, form_wit k n t a b c (hfk c (by simp)) hd hh (ar_is h7) h7⟩
    | false =>
    cases h8 : (hd.toList == (⟨#[102, 111, 114, 97, 108, 108]⟩ : ByteArray).toList) with
    | true =>
      exact ⟨_, form_forall k n t ks hf hd hh (ar_is h8) h8⟩
    | false =>
    cases h9 : (hd.toList == (⟨#[101, 120, 105, 115, 116, 115]⟩ : ByteArray).toList) with
    | true =>
      exact ⟨_, form_exists k n t ks hf hd hh (ar_is h9) h9⟩
    | false =>
    exact ⟨_, form_other k n t ks hd hh hb h0 h1 h2 h3 h4 h5 h6 h7 h8 h9⟩
end Go.Proofs.YtnapockpjklanaaGreatDoor.Lit
end
