/- Contracts of functions of this seat's program, and what is proved of them: each for every argument that its hypotheses let in. -/
import Derived.Test.YthdbhlpceodhlaaRows
import Derived.Test.YthdbhlpceodhlaaT9
import Derived.Test.YthdbhlpceodhlaaSxS
set_option linter.unusedVariables false
set_option linter.unusedSimpArgs false
namespace Go.Proofs.Ythdbhlpceodhlaa
open Go Go.Proofs.Ythdbhlpceodhlaa.Sx Go.ChangeShapes Go.WideShapes Go.ChangeAt Go.RowKit
open Go.ChangeMaps (open_string shut_string)
theorem own : ownKnob Try.prog.godebug = none := by kernel_rfl
theorem laidOut : laidOutB Try.prog = true := by kernel_rfl
theorem rdr_ints (W : World) : Rdr Try.prog W 27 (fun l : List Int => [.row 1 encInt l]) :=
  rdr_slice (enc := encInt) Try.underlying27 (by kernel_rfl) (by decide) (of_decide_eq_true (by kernel_rfl)) (rdr_int Try.underlying3)
theorem rdr_queue (W : World) : Rdr Try.prog W 81 encQ :=
  rdr_map (rdr_struct Try.underlying81 (N := 3) (by kernel_rfl) (rdrF_cons (s := 1) (rdr_ints W) rfl (by kernel_rfl) (rdrF_cons (s := 1) (rdr_int Try.underlying3) rfl (by kernel_rfl) (rdrF_cons (s := 1) (rdr_int Try.underlying3) rfl (by kernel_rfl) rdrF_nil)))) (fun y => (⟨y.1, y.2.1, y.2.2.1⟩ : Qd)) (fun y => rfl)
theorem rdr_queues (W : World) : Rdr Try.prog W 47 (fun l : List Qd => [.row 3 encQ l]) :=
  rdr_slice (enc := encQ) Try.underlying47 (by kernel_rfl) (by decide) (of_decide_eq_true (by kernel_rfl)) (rdr_queue W)
def encT (t : Td) : List D := [.int .i64 t.quantum, .row 3 encQ t.queues, .int .i64 t.rounds]
theorem rdr_turns (W : World) : Rdr Try.prog W 49 encT :=
  rdr_map (rdr_struct Try.underlying49 (N := 3) (by kernel_rfl) (rdrF_cons (s := 1) (rdr_int Try.underlying3) rfl (by kernel_rfl) (rdrF_cons (s := 1) (rdr_queues W) rfl (by kernel_rfl) (rdrF_cons (s := 1) (rdr_int Try.underlying3) rfl (by kernel_rfl) rdrF_nil)))) (fun y => (⟨y.1, y.2.1, y.2.2.1⟩ : Td)) (fun y => rfl)
namespace ExactNextRound
set_option maxRecDepth 100000 in
theorem lifted (os : Os) (started : os.Started) (H : Type) (enc : TypeId × Value → H) :
    ReturnsInHanded {} Try.checked os 5 .any (Rows.fnExactNextRoundSpec.pre6 enc Try.prog Try.f5 Rows.fnExactNextRoundRow.domain false) (Rows.fnExactNextRoundSpec.post enc Try.prog Try.f5 false true false false) := by
  refine returnsInHanded_of_change_sized (C := Try.checked) own started (by kernel_rfl) Try.func5
    (ChangeSpec.witness6 (enc := enc) (C := Try.checked) false ⟨#[], #[.agg #[.int .i64 0, .slice none 0 0, .int .i64 0]], []⟩ 8 (by kernel_rfl) (by kernel_rfl) (by kernel_rfl) (by kernel_rfl)) ?_
  intro W base args ds gs before hval0 hW hcnd hsz0 _
  have hsz : (DataW.weightsEach Try.prog (Try.f5.params.toList ++ Rows.fnExactNextRoundSpec.plain.varTypes Try.prog) (ds ++ gs)).all (· ≤ reachBytes) = true := hsz0
  have hval : ∀ (j : Nat) t v, Try.f5.params[j]? = some t → args[j]? = some v → Value.okWide Try.prog W .any base t v := hval0
  have hW' := hW
  obtain ⟨p, q, hA0, hV, rfl, hfz, hnd⟩ := hW
  have hA : DataW.TrodAll enc Try.prog W 0 (fun _ => true) true Try.f5.params.toList args.toList ds p := hA0
  rw [Try.params5] at hA hval hsz
  obtain ⟨v0, vs0, d0, ds0, p0, q0, hargs, rfl, rfl, h0, r0⟩ := trodAll_cons hA
  obtain ⟨rfl, rfl, rfl⟩ := trodAll_nil r0
  obtain rfl : args = #[v0] := by cases args; simp_all
  obtain ⟨rfl, rfl⟩ := trodVars_none hV
  have k0 := h0
  have lt0 : ∀ x ∈ p0, x.block < W.heap.size := by obtain ⟨m, hm⟩ := k0; exact DataW.trod_lt m _ _ _ hm
  obtain ⟨cs0, rfl, hc0⟩ := okWide_struct Try.underlying49 (hval 0 49 v0 rfl rfl)
  obtain ⟨fuel0, hf0⟩ := h0
  obtain ⟨t, ht⟩ := rdr_turns W enc _ _ _ _ _ hf0 (fun z hz => by
    have := List.all_eq_true.1 hsz z (DataW.weights_mem_each (j := 0) (t := 49) (d := d0) rfl rfl z hz)
    simpa using this)
  clear hA0 hval0 hsz0 hsz
  obtain ⟨v1, r1, e1, e2, v2, r2, e3, e4, v3, r3, e5, e6, e7⟩ := ht
  obtain ⟨A, c, rfl, hrow⟩ := D.rd_row.1 e4
  have e2 : v1 = .int .i64 t.quantum := e2
  have e6 : v3 = .int .i64 t.rounds := e6
  have e7 : r3 = [] := e7
  subst e2 e6 e7 e5 e3
  have e1 : cs0.toList = [.int .i64 t.quantum, .slice A t.queues.length c, .int .i64 t.rounds] := e1
  refine (law_calls (exactNextRound_spec t) (vs := [.agg cs0]) [⟨A, c⟩] rfl ?_ ?_).mono fun e W' ⟨he, bel⟩ => ?_
  · exact ⟨_, [], rfl, ⟨cs0.toList, by simp, by rw [e1]; exact ⟨_, _, rfl, rfl, _, _, rfl, ⟨_, rfl, rfl⟩, _, _, rfl, rfl, rfl⟩⟩, rfl⟩
  · refine ⟨fun _ => Hp.emp, fun i c' hc' => ?_, fun _ _ _ => Hp.emp_dj _, fun _ => Hp.emp_dj _, fun _ => Hp.emp_le _, rfl, rfl, rfl, Hp.le_refl _⟩
    cases i with
    | zero => cases hc'; exact ⟨_, rfl, hrow⟩
    | succ i => simp at hc'
  · subst he
    exact ⟨_, rfl, _, _, _, [], _, [], hW', trodAll_mk1 (shut_bool Try.underlying4 _), trodAll_cons_mk (Below.trod laidOut (by kernel_rfl) (of_decide_eq_true (by kernel_rfl)) k0 bel lt0) trodAll_mk0, rfl, bel.frame _, fun h => by cases h⟩
theorem over : Rows.fnExactNextRoundRow.holds Try.pinned (OpenSpec.ofChange Rows.fnExactNextRoundSpec) :=
  OpenClaim.holds_of_wide 5 Try.f5 rfl rfl rfl rfl rfl rfl rfl ⟨rfl, rfl, rfl, rfl, rfl⟩ rfl rfl rfl rfl rfl (by kernel_rfl) Try.func5 (by kernel_rfl)
    (of_decide_eq_true (by kernel_rfl)) (by unfold Func.isWrapper; first | (rw [if_pos (by decide +kernel)]; kernel_rfl) | (rw [if_neg (by decide +kernel)]; exact ⟨rfl, rfl⟩))
    (fun os started H enc _ => lifted os started H enc)
#print axioms over
end ExactNextRound
/-- The row, under a short name, for the claim. -/
theorem exactNextRound_holds : Rows.FnExactNextRoundSaid := ExactNextRound.over
end Go.Proofs.Ythdbhlpceodhlaa
