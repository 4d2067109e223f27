/- A type table held against a program. -/
import Derived.Test.YtpakohboamfmjabPlEval
import Derived.KernelRfl
namespace Go.Proofs.Ytpakohboamfmjab.Pl
open Go.RowKit

def kindIs : IntKind → IntKind → Bool := sameKind
def cellIs : TV → Value → Bool
  | .v (.int k n), .int k' n' => sameKind k k' && n == n'
  | .v (.bool b), .bool b' => b == b'
  | .v (.string s), .string s' => Nat.beq s.size 0 && Nat.beq s'.size 0
  | .v (.slice none 0 0), .slice none 0 0 => true
  | .v (.pointer none), .pointer none => true
  | .v (.map none), .map none => true
  | .v .nilFunc, .nilFunc => true
  | .v .nilIface, .nilIface => true
  | _, _ => false
def cellsAre : List TV → List Value → Bool
  | [], [] => true
  | x :: xs, u :: us => cellIs x u && cellsAre xs us
  | _, _ => false
def pairsAre : List (Nat × TypeId) → List Field → Bool
  | [], [] => true
  | (o, t) :: r, f :: fs => Nat.beq o f.offset && Nat.beq t f.type && pairsAre r fs
  | _, _ => false
def tyIs : Ty → TypeDesc → Bool
  | .bool, .bool => true
  | .int k, .int k' => sameKind k k'
  | .string, .string => true
  | .ptr, .pointer _ => true
  | .slice e, .slice e' => Nat.beq e e'
  | .array n e, .array n' e' => Nat.beq n n' && Nat.beq e e'
  | .struct fs, .struct a => pairsAre fs a.toList
  | .map k e, .map k' e' => Nat.beq k k' && Nat.beq e e'
  | .func, .func .. => true
  | .iface, .interface _ => true
  | _, _ => false
def tiIs (P : Program) (t : TypeId) (i : TI) : Bool :=
  match P.info? t, P.underlying t with
  | some info, some d => tyIs i.d d && Nat.beq info.size i.size && Nat.beq info.bytes i.bytes && (match info.zero with
    | some z => cellsAre i.zero z.cells.toList && Nat.beq z.cells.size i.size
    | none => false)
  | _, _ => false
def closedTI (l : List (Nat × TI)) (i : TI) : Bool :=
  match i.d with
  | .struct fs => fs.all fun p => (look p.2 l).isSome
  | _ => true
def tabIs (P : Program) (all : List (Nat × TI)) : List (Nat × TI) → Bool
  | [] => true
  | (t, i) :: r => tiIs P t i && closedTI all i && tabIs P all r

theorem cellIs_spec {x : TV} {u : Value} (h : cellIs x u = true) (w : World) (F : Nat → Prop) : x.rel w F u ∧ u.oneCell' = true := by
  unfold cellIs at h
  split at h <;> first | (cases h; done) | skip
  · simp only [Bool.and_eq_true] at h
    have := sameKind_eq h.1; subst this
    have := eq_of_beq h.2; subst this
    exact ⟨by simp [TV.rel, scal], rfl⟩
  · have := eq_of_beq h; subst this
    exact ⟨by simp [TV.rel, scal], rfl⟩
  · rename_i s s'
    simp only [Bool.and_eq_true] at h
    have h1 := Nat.eq_of_beq_eq_true h.1
    have h2 := Nat.eq_of_beq_eq_true h.2
    have e : s' = s := by
      obtain ⟨⟨l⟩⟩ := s
      obtain ⟨⟨l'⟩⟩ := s'
      have a1 : l.length = 0 := h1
      have a2 : l'.length = 0 := h2
      rw [List.eq_nil_of_length_eq_zero a1, List.eq_nil_of_length_eq_zero a2]
    subst e
    exact ⟨by simp [TV.rel, scal], rfl⟩
  all_goals exact ⟨by simp [TV.rel, scal], rfl⟩

theorem cellsAre_spec : ∀ {xs : List TV} {us : List Value}, cellsAre xs us = true → (∀ w F, TV.relL w F xs us) ∧ OneAll us
  | [], [], _ => ⟨fun w F => by simp [TV.relL], fun u hu => by simp at hu⟩
  | x :: xs, u :: us, h => by
    simp only [cellsAre, Bool.and_eq_true] at h
    obtain ⟨h1, h2⟩ := cellsAre_spec h.2
    refine ⟨fun w F => ?_, ?_⟩
    · simp only [TV.relL]; exact ⟨u, us, rfl, (cellIs_spec h.1 w F).1, h1 w F⟩
    · intro v hv
      rcases List.mem_cons.1 hv with rfl | hv
      · exact (cellIs_spec h.1 default (fun _ => True)).2
      · exact h2 v hv
  | [], _ :: _, h => by cases h
  | _ :: _, [], h => by cases h

theorem pairsAre_spec : ∀ {fs : List (Nat × TypeId)} {l : List Field}, pairsAre fs l = true → fs = l.map (fun f => (f.offset, f.type))
  | [], [], _ => rfl
  | (o, t) :: r, f :: fs, h => by
    simp only [pairsAre, Bool.and_eq_true] at h
    rw [List.map_cons, ← pairsAre_spec h.2, Nat.eq_of_beq_eq_true h.1.1, Nat.eq_of_beq_eq_true h.1.2]
  | [], _ :: _, h => by cases h
  | _ :: _, [], h => by cases h

theorem tyIs_spec {d : Ty} {u : TypeDesc} (h : tyIs d u = true) : d.fits u := by
  unfold tyIs at h
  split at h <;> first | (cases h; done) | skip
  · rfl
  · have := sameKind_eq h; subst this; rfl
  · rfl
  · exact ⟨_, rfl⟩
  · have := Nat.eq_of_beq_eq_true h; subst this; rfl
  · simp only [Bool.and_eq_true] at h
    have h1 := Nat.eq_of_beq_eq_true h.1
    have h2 := Nat.eq_of_beq_eq_true h.2
    subst h1; subst h2; rfl
  · exact ⟨_, rfl, pairsAre_spec h⟩
  · simp only [Bool.and_eq_true] at h
    have h1 := Nat.eq_of_beq_eq_true h.1
    have h2 := Nat.eq_of_beq_eq_true h.2
    subst h1; subst h2; rfl
  · exact ⟨_, _, _, rfl⟩
  · exact ⟨_, rfl⟩

theorem tabIs_mem {P : Program} {all : List (Nat × TI)} : ∀ {l : List (Nat × TI)}, tabIs P all l = true → ∀ p ∈ l, tiIs P p.1 p.2 = true ∧ closedTI all p.2 = true
  | [], _, p, h => by simp at h
  | (t, i) :: r, h, p, hp => by
    simp only [tabIs, Bool.and_eq_true] at h
    rcases List.mem_cons.1 hp with rfl | hp
    · exact h.1
    · exact tabIs_mem h.2 p hp

theorem tok_of {P : Program} {l : List (Nat × TI)} (h : tabIs P l l = true) : TOK P (fun t => look t l) := by
  intro t i hi
  obtain ⟨h1, h2⟩ := tabIs_mem h (t, i) (look_mem hi)
  unfold tiIs at h1
  split at h1
  · rename_i info d hinfo hd
    simp only [Bool.and_eq_true] at h1
    obtain ⟨⟨⟨a1, a2⟩, a3⟩, a4⟩ := h1
    refine ⟨info, d, hinfo, hd, tyIs_spec a1, Nat.eq_of_beq_eq_true a2, Nat.eq_of_beq_eq_true a3, ?_, ?_⟩
    · split at a4
      · rename_i z hz
        simp only [Bool.and_eq_true] at a4
        obtain ⟨b1, b2⟩ := cellsAre_spec a4.1
        exact ⟨z, hz, b1, b2, Nat.eq_of_beq_eq_true a4.2⟩
      · cases a4
    · intro fs hfs p hp
      unfold closedTI at h2
      simp only [hfs, List.all_eq_true] at h2
      exact Option.isSome_iff_exists.1 (h2 p hp)
  · cases h1
end Go.Proofs.Ytpakohboamfmjab.Pl
