/- Code, evaluated. -/
import Derived.Test.YtpakohboamfmjabPlDraw7
namespace Go.Proofs.Ytpakohboamfmjab.Pl
open Go.RowKit

def ev (T : TyTab) (P : Program) (own : List Nat) (N : Nat) : Code → (Exit → St → Prop) → St → Prop
  | .skip, Q, s => Q .normal s
  | .label _, Q, s => Q .normal s
  | .region _ ops draw, Q, s => bif draw then evDraw T P own N ops s (Q .normal) else evOps T P own N ops ops.toList [] s (Q .normal)
  | .seq x y, Q, s => ev T P own N x (thenQ (ev T P own N y Q) Q) s
  | .cond c x y, Q, s => match opd [] s.φ [] c with
    | some (.t (.v (.bool b))) => (b = true → ev T P own N x Q s) ∧ (b = false → ev T P own N y Q s)
    | _ => False
  | .block id c, Q, s => ev T P own N c (blockQ id Q) s
  | .loop c, Q, s => Ok P N (.loop c) Q s
  | .exit id, Q, s => Q (.exit id) s
  | .ret, Q, s => Q .ret s
  | _, _, _ => False

section
variable {P : Program} {T : TyTab} {N : Nat}

theorem ev_sound (C : Ctx P T) {own : List Nat} : ∀ (c : Code) (Q : Exit → St → Prop) (s : St), ev T P own N c Q s → Ok P N c Q s
  | .skip, Q, s, h => fun B0 F0 w0 m kk a w S => wp_skip ⟨s, m, kk, h, S⟩
  | .label _, Q, s, h => fun B0 F0 w0 m kk a w S => wp_label ⟨s, m, kk, h, S⟩
  | .region i ops draw, Q, s, h => by
    cases draw with
    | true => exact evDraw_sound C h
    | false => exact fun B0 F0 w0 m kk a w S => wp_region_list (evOps_sound C ops.toList [] s m kk a w S psi_nil h)
  | .seq x y, Q, s, h => Ok.seq (ev_sound C x _ s h) (fun s' h' => ev_sound C y Q s' h')
  | .cond c x y, Q, s, h => by
    intro B0 F0 w0 m kk a w S
    simp only [ev] at h
    split at h
    · rename_i b hb
      have hr := opd_rel S psi_nil (gs := []) (fun p hp => by simp at hp) c _ hb
      simp only [AV.rel, TV.rel] at hr
      exact wp_cond_split hr.1 (fun e => ev_sound C x Q s (h.1 e) B0 F0 w0 m kk a w S) (fun e => ev_sound C y Q s (h.2 e) B0 F0 w0 m kk a w S)
    · exact h.elim
  | .block id c, Q, s, h => Ok.block (ev_sound C c _ s h)
  | .loop c, Q, s, h => h
  | .exit id, Q, s, h => fun B0 F0 w0 m kk a w S => wp_exit ⟨s, m, kk, h, S⟩
  | .ret, Q, s, h => fun B0 F0 w0 m kk a w S => wp_ret ⟨s, m, kk, h, S⟩
  | .rangeFunc .., _, _, h => h.elim
  | .scope _, _, _, h => h.elim
  | .goto _, _, _, h => h.elim
  | .refuse _, _, _, h => h.elim
end
end Go.Proofs.Ytpakohboamfmjab.Pl
