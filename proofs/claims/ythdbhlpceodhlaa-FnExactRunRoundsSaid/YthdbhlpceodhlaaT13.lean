/- Contracts of functions of this seat's program, and what is proved of them: each for every argument that its hypotheses let in. -/
import Derived.Test.YthdbhlpceodhlaaT10
import Derived.Test.YthdbhlpceodhlaaT12
set_option linter.unusedVariables false
set_option linter.unusedSimpArgs false
namespace Go.Proofs.Ythdbhlpceodhlaa
open Go Go.Proofs.Ythdbhlpceodhlaa.Sx Go.ChangeShapes Go.WideShapes Go.ChangeAt Go.RowKit
open Go.ChangeMaps (open_string shut_string)
namespace ExactRunRounds
set_option maxRecDepth 100000 in
theorem lifted (os : Os) (started : os.Started) (H : Type) (enc : TypeId × Value → H) :
    ReturnsInHanded {} Try.checked os 6 .any (Rows.fnExactRunRoundsSpec.pre6 enc Try.prog Try.f6 Rows.fnExactRunRoundsRow.domain false) (Rows.fnExactRunRoundsSpec.post enc Try.prog Try.f6 false true false false) := by
  refine returnsInHanded_of_change_sized (C := Try.checked) own started (by kernel_rfl) Try.func6
    (ChangeSpec.witness6 (enc := enc) (C := Try.checked) false ⟨#[], #[.agg #[.int .i64 0, .slice none 0 0, .int .i64 0], .int .i64 0], []⟩ 8 (by kernel_rfl) (by kernel_rfl) (by kernel_rfl) (by kernel_rfl)) ?_
  intro W base args ds gs before hval0 hW hcnd hsz0 _
  have hsz : (DataW.weightsEach Try.prog (Try.f6.params.toList ++ Rows.fnExactRunRoundsSpec.plain.varTypes Try.prog) (ds ++ gs)).all (· ≤ reachBytes) = true := hsz0
  have hval : ∀ (j : Nat) t v, Try.f6.params[j]? = some t → args[j]? = some v → Value.okWide Try.prog W .any base t v := hval0
  have hW' := hW
  obtain ⟨p, q, hA0, hV, rfl, hfz, hnd⟩ := hW
  have hA : DataW.TrodAll enc Try.prog W 0 (fun _ => true) true Try.f6.params.toList args.toList ds p := hA0
  rw [Try.params6] at hA hval hsz
  obtain ⟨v0, vs0, d0, ds0, p0, q0, hargs, rfl, rfl, h0, r0⟩ := trodAll_cons hA
  obtain ⟨w1, ws1, d1, ds1, p1, q1, hargs1, rfl, rfl, h1, r1⟩ := trodAll_cons r0
  obtain ⟨rfl, rfl, rfl⟩ := trodAll_nil r1
  subst hargs1
  obtain rfl : args = #[v0, w1] := by cases args; simp_all
  obtain ⟨many, rfl, rfl, rfl, wm⟩ := open_int Try.underlying3 (hval 1 3 w1 rfl rfl) h1
  obtain ⟨rfl, rfl⟩ := trodVars_none hV
  have k0 := h0
  have lt0 : ∀ x ∈ p0, x.block < W.heap.size := by obtain ⟨m, hm⟩ := k0; exact DataW.trod_lt m _ _ _ hm
  obtain ⟨cs0, rfl, hc0⟩ := okWide_struct Try.underlying49 (hval 0 49 v0 rfl rfl)
  obtain ⟨fuel0, hf0⟩ := h0
  obtain ⟨t, ht⟩ := rdr_turns W enc _ _ _ _ _ hf0 (fun z hz => by
    have := List.all_eq_true.1 hsz z (DataW.weights_mem_each (j := 0) (t := 49) (d := d0) rfl rfl z hz)
    simpa using this)
  clear hA0 hval0 hsz0 hsz
  obtain ⟨v1, r1, e1, e2, v2, r2, e3, e4, v3, r3, e5, e6, e7⟩ := ht
  obtain ⟨A, c, rfl, hrow⟩ := D.rd_row.1 e4
  have e2 : v1 = .int .i64 t.quantum := e2
  have e6 : v3 = .int .i64 t.rounds := e6
  have e7 : r3 = [] := e7
  subst e2 e6 e7 e5 e3
  have e1 : cs0.toList = [.int .i64 t.quantum, .slice A t.queues.length c, .int .i64 t.rounds] := e1
  refine (law_calls (exactRunRounds_spec t many) (vs := [.agg cs0, .int .i64 many]) [⟨A, c⟩] rfl ?_ ?_).mono fun e W' ⟨he, bel⟩ => ?_
  · exact ⟨_, _, rfl, ⟨cs0.toList, by simp, by rw [e1]; exact ⟨_, _, rfl, rfl, _, _, rfl, ⟨_, rfl, rfl⟩, _, _, rfl, rfl, rfl⟩⟩, ⟨_, [], rfl, rfl, rfl⟩⟩
  · refine ⟨fun _ => Hp.emp, fun i c' hc' => ?_, fun _ _ _ => Hp.emp_dj _, fun _ => Hp.emp_dj _, fun _ => Hp.emp_le _, rfl, rfl, rfl, Hp.le_refl _⟩
    cases i with
    | zero => cases hc'; exact ⟨_, rfl, hrow⟩
    | succ i => simp at hc'
  · subst he
    exact ⟨_, rfl, _, _, _, [], _, [], hW', trodAll_mk1 (shut_bool Try.underlying4 _), trodAll_cons_mk (Below.trod laidOut (by kernel_rfl) (of_decide_eq_true (by kernel_rfl)) k0 bel lt0) (trodAll_cons_mk (shut_int Try.underlying3 wm) trodAll_mk0), rfl, bel.frame _, fun h => by cases h⟩
theorem over : Rows.fnExactRunRoundsRow.holds Try.pinned (OpenSpec.ofChange Rows.fnExactRunRoundsSpec) :=
  OpenClaim.holds_of_wide 6 Try.f6 rfl rfl rfl rfl rfl rfl rfl ⟨rfl, rfl, rfl, rfl, rfl⟩ rfl rfl rfl rfl rfl (by kernel_rfl) Try.func6 (by kernel_rfl)
    (of_decide_eq_true (by kernel_rfl)) (by unfold Func.isWrapper; first | (rw [if_pos (by decide +kernel)]; kernel_rfl) | (rw [if_neg (by decide +kernel)]; exact ⟨rfl, rfl⟩))
    (fun os started H enc _ => lifted os started H enc)
#print axioms over
end ExactRunRounds
/-- The row, under a short name, for the claim. -/
theorem exactRunRounds_holds : Rows.FnExactRunRoundsSaid := ExactRunRounds.over
end Go.Proofs.Ythdbhlpceodhlaa
