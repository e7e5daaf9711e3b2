/- Contracts of functions of this seat's program, and what is proved of them: each for every argument that its hypotheses let in. -/
import Derived.Test.YthdbhlpceodhlaaR1
import Derived.Test.YthdbhlpceodhlaaC7
set_option linter.unusedVariables false
set_option linter.unusedSimpArgs false
namespace Go.Proofs.Ythdbhlpceodhlaa
open Go Go.Proofs.Ythdbhlpceodhlaa.Sx Go.ChangeShapes Go.WideShapes Go.ChangeAt Go.RowKit
open Go.ChangeMaps (open_string shut_string)
namespace Fair
set_option maxRecDepth 100000 in
theorem lifted (os : Os) (started : os.Started) (H : Type) (enc : TypeId × Value → H) :
    ReturnsInHanded {} Try.checked os 4 .any (Rows.fnFairSpec.pre6 enc Try.prog Try.f4 Rows.fnFairRow.domain false) (Rows.fnFairSpec.post enc Try.prog Try.f4 false true false false) := by
  refine returnsInHanded_of_change_sized (C := Try.checked) own started (by kernel_rfl) Try.func4
    (ChangeSpec.witness6 (enc := enc) (C := Try.checked) false ⟨#[], #[.slice none 0 0], []⟩ 8 (by kernel_rfl) (by kernel_rfl) (by kernel_rfl) (by kernel_rfl)) ?_
  intro W base args ds gs before hval0 hW hcnd hsz0 _
  have hsz : (DataW.weightsEach Try.prog (Try.f4.params.toList ++ Rows.fnFairSpec.plain.varTypes Try.prog) (ds ++ gs)).all (· ≤ reachBytes) = true := hsz0
  have hval : ∀ (j : Nat) t v, Try.f4.params[j]? = some t → args[j]? = some v → Value.okWide Try.prog W .any base t v := hval0
  have hW' := hW
  obtain ⟨p, q, hA0, hV, rfl, hfz, hnd⟩ := hW
  have hA : DataW.TrodAll enc Try.prog W 0 (fun _ => true) true Try.f4.params.toList args.toList ds p := hA0
  rw [Try.params4] at hA hval hsz
  obtain ⟨v0, vs0, d0, ds0, p0, q0, hargs, rfl, rfl, h0, r0⟩ := trodAll_cons hA
  obtain ⟨rfl, rfl, rfl⟩ := trodAll_nil r0
  obtain rfl : args = #[v0] := by cases args; simp_all
  obtain ⟨rfl, rfl⟩ := trodVars_none hV
  have k0 := h0
  have lt0 : ∀ x ∈ p0, x.block < W.heap.size := by obtain ⟨m, hm⟩ := k0; exact DataW.trod_lt m _ _ _ hm
  obtain ⟨A0, n0, c0, rfl⟩ := okWide_slice Try.underlying22 (hval 0 22 v0 rfl rfl)
  obtain ⟨fuel0, hf0⟩ := h0
  obtain ⟨t0, ht0⟩ := rdr_bytes W enc _ _ _ _ _ hf0 (fun z hz => by
    have := List.all_eq_true.1 hsz z (DataW.weights_mem_each (j := 0) (t := 22) (d := d0) rfl rfl z hz)
    simpa using this)
  clear hA0 hval0 hsz0 hsz
  obtain ⟨a0, l0, e1, e2, e3⟩ := ht0
  obtain ⟨B0, b0, rfl, hrow0⟩ := D.rd_row.1 e2
  simp only [Value.cells, List.cons.injEq] at e1
  obtain ⟨e1, _⟩ := e1
  cases e1
  have hr0 := rowRd_map (enc := encByte) (fun y : { n : Int // (Lit.int .u8 n).wf = true } => y.1) hrow0
  have hb0 : ∀ n ∈ t0.map (fun y => y.1), 0 ≤ n ∧ n ≤ 255 := fun n hn => by
    obtain ⟨y, _, rfl⟩ := List.mem_map.1 hn; exact wf_u8 y.2
  refine (law_calls (fnFair_spec _ hb0) (vs := [.slice A0 t0.length c0]) [⟨A0, c0⟩] rfl ?_ ?_).mono fun e W' ⟨he, bel⟩ => ?_
  · exact ⟨_, [], rfl, ⟨_, rfl, by simp⟩, rfl⟩
  · refine ⟨fun _ => Hp.emp, fun i c' hc' => ?_, fun _ _ _ => Hp.emp_dj _, fun _ => Hp.emp_dj _, fun _ => Hp.emp_le _, rfl, rfl, rfl, Hp.le_refl _⟩
    match i with
    | 0 => cases hc'; exact ⟨_, rfl, hr0⟩
    | i + 1 => simp at hc'
  · subst he
    exact ⟨_, rfl, _, _, _, [], _, [], hW', trodAll_mk1 (shut_bool Try.underlying4 _), trodAll_cons_mk (Below.trod laidOut (by kernel_rfl) (of_decide_eq_true (by kernel_rfl)) k0 bel lt0) trodAll_mk0, rfl, bel.frame _, fun h => by cases h⟩
theorem over : Rows.fnFairRow.holds Try.pinned (OpenSpec.ofChange Rows.fnFairSpec) :=
  OpenClaim.holds_of_wide 4 Try.f4 rfl rfl rfl rfl rfl rfl rfl ⟨rfl, rfl, rfl, rfl, rfl⟩ rfl rfl rfl rfl rfl (by kernel_rfl) Try.func4 (by kernel_rfl)
    (of_decide_eq_true (by kernel_rfl)) (by unfold Func.isWrapper; first | (rw [if_pos (by decide +kernel)]; kernel_rfl) | (rw [if_neg (by decide +kernel)]; exact ⟨rfl, rfl⟩))
    (fun os started H enc _ => lifted os started H enc)
#print axioms over
end Fair
/-- The row, under a short name, for the claim. -/
theorem fnFair_holds : Rows.FnFairSaid := Fair.over
end Go.Proofs.Ythdbhlpceodhlaa
