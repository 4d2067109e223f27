/- The row of a law that answers true, out of its contract. -/
import Derived.Test.YtpakohboamfmjabPlArg
namespace Go.Proofs.Ytpakohboamfmjab.Pl
open Go.RowKit Go.ChangeShapes Go.WideShapes Go.ChangeAt

section
variable {P : Program} {T : TyTab} {w : World} {H : Type} {enc : TypeId × Value → H} {base : Nat} {spare : Nat → Bool} {held : Bool}

def ArgsTy (T : TyTab) : List TypeId → List TV → Prop
  | [], xs => xs = []
  | t :: ts, xs => ∃ x r, xs = x :: r ∧ (∃ n, ArgTy T n t x) ∧ ArgsTy T ts r

theorem arg_tree (C : TOK P T) {as : List TypeId} (hA : argsB T as = true) {t : TypeId} {v : Value} {d : DataW H} {ps : List MemPlace} {b0 : Nat} (hm : t ∈ as) (hlt : Light P t d) (hv : Value.okWide P w .any b0 t v) (h : DataW.Trod enc P w base spare held t v d ps) :
    ∃ x : TV, x.rel w (Fw w) v ∧ ∃ n, ArgTy T n t x := by
  obtain ⟨fuel, hf⟩ := h
  obtain ⟨xs, h1, h2, h3⟩ := trod_tree C hA fuel t _ _ hm hlt hf
  have hb : argB T as t = true := by
    unfold argsB at hA
    rw [List.all_eq_true] at hA
    exact hA t hm
  unfold argB at hb
  split at hb
  · rename_i i hi
    obtain ⟨d, hu, hfit⟩ := C.und hi
    have one : (∃ c, v = c ∧ v.cells = #[c]) → (∀ fs, i.d ≠ .struct fs) → ∃ x : TV, x.rel w (Fw w) v ∧ ∃ n, ArgTy T n t x := by
      rintro ⟨c, rfl, hc⟩ hns
      rw [hc] at h1
      obtain ⟨x, rfl⟩ : ∃ x, xs = [x] := by
        have := TV.relL_length h1
        simp at this
        match xs, this with
        | [x], _ => exact ⟨x, rfl⟩
      simp only [TV.relL] at h1
      obtain ⟨u, us, e, hx, _⟩ := h1
      injection e with e _; subst e
      refine ⟨x, hx, fuel, ?_⟩
      unfold ArgTy
      split
      · rename_i fs _ _ _ _ hi'
        rw [hi] at hi'; injection hi' with hi'; subst hi'
        exact absurd rfl (hns fs)
      · exact h3
    split at hb
    · rename_i hd
      rw [hd] at hfit; simp only [Ty.fits] at hfit; subst hfit
      obtain ⟨b, rfl⟩ := okWide_bool hu hv
      exact one ⟨_, rfl, rfl⟩ (fun fs e => by rw [hd] at e; cases e)
    · rename_i k hd
      rw [hd] at hfit; simp only [Ty.fits] at hfit; subst hfit
      obtain ⟨b, rfl⟩ := okWide_int hu hv
      exact one ⟨_, rfl, rfl⟩ (fun fs e => by rw [hd] at e; cases e)
    · rename_i hd
      rw [hd] at hfit; simp only [Ty.fits] at hfit; subst hfit
      obtain ⟨b, rfl⟩ := okWide_string hu hv
      exact one ⟨_, rfl, rfl⟩ (fun fs e => by rw [hd] at e; cases e)
    · rename_i e hd
      rw [hd] at hfit; simp only [Ty.fits] at hfit; subst hfit
      obtain ⟨a, l, c, rfl⟩ := okWide_slice hu hv
      exact one ⟨_, rfl, rfl⟩ (fun fs e => by rw [hd] at e; cases e)
    · rename_i fs hd
      rw [hd] at hfit; simp only [Ty.fits] at hfit
      obtain ⟨ff, rfl, rfl⟩ := hfit
      obtain ⟨cs, rfl, hsz⟩ := okWide_struct hu hv
      refine ⟨.agg xs, ?_, fuel, ?_⟩
      · simp only [TV.rel]
        exact ⟨cs.toList, by simp, h1, h2⟩
      · unfold ArgTy
        split
        · exact ⟨xs, rfl, h3⟩
        · rename_i hno
          obtain ⟨d', sz, by', z, q⟩ := i
          simp only at hd
          subst hd
          exact absurd hi (hno _ _ _ _ _)
    · cases hb
  · cases hb

theorem args_tree (C : TOK P T) {as : List TypeId} (hA : argsB T as = true) {b0 : Nat} : ∀ (ts : List TypeId) (vs : List Value) (ds : List (DataW H)) (ps : List MemPlace), (∀ t ∈ ts, t ∈ as) → (∀ (j : Nat) t v, ts[j]? = some t → vs[j]? = some v → Value.okWide P w .any b0 t v) →
    (∀ n ∈ DataW.weightsEach P ts ds, n ≤ reachBytes) → DataW.TrodAll enc P w base spare held ts vs ds ps → ∃ xs, TV.relL w (Fw w) xs vs ∧ ArgsTy T ts xs ∧ ds.length = ts.length
  | [], [], [], ps, _, _, _, _ => ⟨[], by simp [TV.relL], rfl, rfl⟩
  | t :: ts, v :: vs, d :: ds, ps, hm, hv, hlt, h => by
    obtain ⟨p, q, h1, h2, rfl⟩ := h
    simp only [DataW.weightsEach, List.mem_append] at hlt
    obtain ⟨x, x1, x2⟩ := arg_tree C hA (hm t (List.mem_cons_self ..)) (fun n hn => hlt n (.inl hn)) (hv 0 t v rfl rfl) h1
    obtain ⟨xs, y1, y2, y3⟩ := args_tree C hA ts vs ds q (fun t ht => hm t (List.mem_cons_of_mem _ ht)) (fun j t v h1 h2 => hv (j + 1) t v h1 h2) (fun n hn => hlt n (.inr hn)) h2
    exact ⟨x :: xs, by simp only [TV.relL]; exact ⟨v, vs, rfl, x1, y1⟩, ⟨x, xs, rfl, x2, y2⟩, by simp [y3]⟩
  | [], [], _ :: _, _, _, _, _, h => h.elim
  | [], _ :: _, _, _, _, _, _, h => by cases ‹List (DataW H)› <;> exact h.elim
  | _ :: _, [], _, _, _, _, _, h => by cases ‹List (DataW H)› <;> exact h.elim
  | _ :: _, _ :: _, [], _, _, _, _, h => h.elim

theorem all_below (hl : laidOutB P = true) {W W' : World} (hb : Below W.heap.size W W') : ∀ (ts : List TypeId) (vs : List Value) (ds : List (DataW H)) (ps : List MemPlace), (∀ t ∈ ts, P.readableRec t = true ∧ t < P.types.size) →
    (∀ x ∈ ps, x.block < W.heap.size) → DataW.TrodAll enc P W 0 (fun _ => true) true ts vs ds ps → DataW.TrodAll enc P W' 0 (fun b => decide (b < W.heap.size)) true ts vs ds ps
  | [], [], [], ps, _, _, h => h
  | t :: ts, v :: vs, d :: ds, ps, hm, hlt, h => by
    obtain ⟨p, q, h1, h2, rfl⟩ := h
    exact ⟨p, q, Below.trod hl (hm t (List.mem_cons_self ..)).1 (hm t (List.mem_cons_self ..)).2 h1 hb (fun x hx => hlt x (List.mem_append.2 (.inl hx))),
      all_below hl hb ts vs ds q (fun t ht => hm t (List.mem_cons_of_mem _ ht)) (fun x hx => hlt x (List.mem_append.2 (.inr hx))) h2, rfl⟩
  | [], [], _ :: _, _, _, _, h => h.elim
  | [], _ :: _, _, _, _, _, h => by cases ‹List (DataW H)› <;> exact h.elim
  | _ :: _, [], _, _, _, _, h => by cases ‹List (DataW H)› <;> exact h.elim
  | _ :: _, _ :: _, [], _, _, _, h => h.elim

/-- The law's row: behind the call true, the arguments as they were. -/
theorem row_of {C : Checked} {os : Os} {f : FuncId} {fn : Func} {s : ChangeSpec} {conds : List PathCond} {fresh : Bool} {T : TyTab} {ars : List TypeId} {ts : List TypeId} {tb : TypeId}
    (own : ownKnob C.prog.godebug = none) (started : os.Started) (noInit : C.prog.inits.idxOf? f = none) (hfn : C.prog.funcs[f]? = some fn) (hl : laidOutB C.prog = true)
    (witness : ∃ (w : World) (tape : Tape) (i : Input), w.os = os ∧ (w.forCall tape i).Shaped C.prog ∧ i.vars = [] ∧ Input.okWide C.prog (w.forCall tape i) .any w.heap.size f i ∧
      s.pre6 enc C.prog fn conds false (w.forCall tape i).memory i.args ∧ Assume.holds {} C.prog (lone (Frame.enter C.prog f i.args .normal) [] (w.forCall tape i)))
    (K : TOK C.prog T) (hA : argsB T ars = true) (hts : fn.params.toList = ts) (has : ∀ t ∈ ts, t ∈ ars) (hread : ∀ t ∈ ts, C.prog.readableRec t = true ∧ t < C.prog.types.size)
    (hres : fn.resultTypes = #[tb]) (htb : C.prog.underlying tb = some .bool)
    (hvars : s.vars = []) (hs : ∀ (ds : List (DataW H)), ds.length = ts.length → (s.fn H ds).results = [.lit (.bool true)] ∧ (s.fn H ds).args = ds ∧ (s.fn H ds).vars = [])
    (law : ∀ xs, ArgsTy T ts xs → PC C.prog f xs (.v (.bool true))) :
    ReturnsInHanded {} C os f .any (s.pre6 enc C.prog fn conds false) (s.post enc C.prog fn false fresh false false) := by
  refine returnsInHanded_of_change_sized own started noInit hfn witness ?_
  intro W base args ds gs before hval hW _ hsz _
  have hW' := hW
  obtain ⟨p, q, hA0, hV, rfl, hfz, _⟩ := hW
  rw [hvars] at hV
  obtain ⟨rfl, rfl⟩ := trodVars_none hV
  rw [hts] at hA0
  simp only [List.append_nil] at hW'
  have hvt : s.plain.varTypes C.prog = [] := by simp [ChangeSpec.plain, DataSpec.varTypes, hvars]
  rw [hvt, List.append_nil, List.append_nil, hts] at hsz
  have hsz : ∀ n ∈ DataW.weightsEach C.prog ts ds, n ≤ reachBytes := fun n hn => by simpa using List.all_eq_true.1 hsz n hn
  obtain ⟨xs, h1, h2, h3⟩ := args_tree K hA ts args.toList ds p has (fun j t v hj hv => hval j t v (by rw [← hts] at hj; simpa using hj) (by simpa using hv)) hsz hA0
  have hc := law xs h2 W (Fw W) args.toList (fun _ h => h) h1
  rw [Array.toArray_toList] at hc
  refine hc.mono ?_
  rintro e W' ⟨v, rfl, hb, hr⟩
  simp only [TV.rel] at hr
  obtain ⟨rfl, _⟩ := hr
  obtain ⟨s1, s2, s3⟩ := hs ds h3
  have hlt : ∀ x ∈ p, x.block < W.heap.size := fun x hx => hW'.lt x (by simpa using hx)
  refine ⟨_, rfl, ds, [], p, [], p, [], hW', ?_, ?_, ?_, hb.frame _, fun h => by cases h⟩
  · rw [List.append_nil, s1, hres]
    exact trodAll_mk1 ⟨1, by simp [DataW.trod, htb, Value.cells]⟩
  · rw [List.append_nil, s2, hts]
    exact all_below hl hb ts args.toList ds p hread hlt hA0
  · rw [List.append_nil, s3, hvars]
    rfl
end
end Go.Proofs.Ytpakohboamfmjab.Pl
