/- Contracts of functions of this seat's program, and what is proved of them: each for every argument that its hypotheses let in. -/
import Derived.Test.YthdbhlpceodhlaaRows
import Derived.Test.YthdbhlpceodhlaaC6
set_option linter.unusedVariables false
set_option linter.unusedSimpArgs false
namespace Go.Proofs.Ythdbhlpceodhlaa
open Go Go.Proofs.Ythdbhlpceodhlaa.Sx Go.ChangeShapes Go.WideShapes Go.ChangeAt Go.RowKit
open Go.ChangeMaps (open_string shut_string)
theorem own : ownKnob Try.prog.godebug = none := by kernel_rfl
theorem laidOut : laidOutB Try.prog = true := by kernel_rfl
theorem rdr_bytes (W : World) : Rdr Try.prog W 22 (fun l : List { n : Int // (Lit.int .u8 n).wf = true } => [.row 1 (fun y => encByte y.1) l]) :=
  rdr_slice (enc := fun y : { n : Int // (Lit.int .u8 n).wf = true } => encByte y.1) Try.underlying22 (by kernel_rfl) (by decide) (of_decide_eq_true (by kernel_rfl)) (rdr_intR Try.underlying5)
namespace Turns
set_option maxRecDepth 100000 in
theorem lifted (os : Os) (started : os.Started) (H : Type) (enc : TypeId × Value → H) :
    ReturnsInHanded {} Try.checked os 3 .any (Rows.fnTurnsSpec.pre6 enc Try.prog Try.f3 Rows.fnTurnsRow.domain false) (Rows.fnTurnsSpec.post enc Try.prog Try.f3 false true false false) := by
  refine returnsInHanded_of_change_sized (C := Try.checked) own started (by kernel_rfl) Try.func3
    (ChangeSpec.witness6 (enc := enc) (C := Try.checked) false ⟨#[], #[.slice none 0 0, .slice none 0 0], []⟩ 8 (by kernel_rfl) (by kernel_rfl) (by kernel_rfl) (by kernel_rfl)) ?_
  intro W base args ds gs before hval0 hW hcnd hsz0 _
  have hsz : (DataW.weightsEach Try.prog (Try.f3.params.toList ++ Rows.fnTurnsSpec.plain.varTypes Try.prog) (ds ++ gs)).all (· ≤ reachBytes) = true := hsz0
  have hval : ∀ (j : Nat) t v, Try.f3.params[j]? = some t → args[j]? = some v → Value.okWide Try.prog W .any base t v := hval0
  have hW' := hW
  obtain ⟨p, q, hA0, hV, rfl, hfz, hnd⟩ := hW
  have hA : DataW.TrodAll enc Try.prog W 0 (fun _ => true) true Try.f3.params.toList args.toList ds p := hA0
  rw [Try.params3] at hA hval hsz
  obtain ⟨v0, vs0, d0, ds0, p0, q0, hargs, rfl, rfl, h0, r0⟩ := trodAll_cons hA
  obtain ⟨v1, vs1, d1, ds1, p1, q1, hargs1, rfl, rfl, h1, r1⟩ := trodAll_cons r0
  obtain ⟨rfl, rfl, rfl⟩ := trodAll_nil r1
  subst hargs1
  obtain rfl : args = #[v0, v1] := by cases args; simp_all
  obtain ⟨rfl, rfl⟩ := trodVars_none hV
  have k0 := h0
  have k1 := h1
  have lt0 : ∀ x ∈ p0, x.block < W.heap.size := by obtain ⟨m, hm⟩ := k0; exact DataW.trod_lt m _ _ _ hm
  have lt1 : ∀ x ∈ p1, x.block < W.heap.size := by obtain ⟨m, hm⟩ := k1; exact DataW.trod_lt m _ _ _ hm
  obtain ⟨A0, n0, c0, rfl⟩ := okWide_slice Try.underlying22 (hval 0 22 v0 rfl rfl)
  obtain ⟨A1, n1, c1, rfl⟩ := okWide_slice Try.underlying22 (hval 1 22 v1 rfl rfl)
  obtain ⟨fuel0, hf0⟩ := h0
  obtain ⟨fuel1, hf1⟩ := h1
  obtain ⟨t0, ht0⟩ := rdr_bytes W enc _ _ _ _ _ hf0 (fun z hz => by
    have := List.all_eq_true.1 hsz z (DataW.weights_mem_each (j := 0) (t := 22) (d := d0) rfl rfl z hz)
    simpa using this)
  obtain ⟨t1, ht1⟩ := rdr_bytes W enc _ _ _ _ _ hf1 (fun z hz => by
    have := List.all_eq_true.1 hsz z (DataW.weights_mem_each (j := 1) (t := 22) (d := d1) rfl rfl z hz)
    simpa using this)
  clear hA0 hval0 hsz0 hsz
  obtain ⟨a0, l0, e1, e2, e3⟩ := ht0
  obtain ⟨a1, l1, e4, e5, e6⟩ := ht1
  obtain ⟨B0, b0, rfl, hrow0⟩ := D.rd_row.1 e2
  obtain ⟨B1, b1, rfl, hrow1⟩ := D.rd_row.1 e5
  simp only [Value.cells, List.cons.injEq] at e1 e4
  obtain ⟨e1, _⟩ := e1
  obtain ⟨e4, _⟩ := e4
  cases e1
  cases e4
  have hr0 := rowRd_map (enc := encByte) (fun y : { n : Int // (Lit.int .u8 n).wf = true } => y.1) hrow0
  have hr1 := rowRd_map (enc := encByte) (fun y : { n : Int // (Lit.int .u8 n).wf = true } => y.1) hrow1
  have hb0 : ∀ n ∈ t0.map (fun y => y.1), 0 ≤ n ∧ n ≤ 255 := fun n hn => by
    obtain ⟨y, _, rfl⟩ := List.mem_map.1 hn; exact wf_u8 y.2
  have hb1 : ∀ n ∈ t1.map (fun y => y.1), 0 ≤ n ∧ n ≤ 255 := fun n hn => by
    obtain ⟨y, _, rfl⟩ := List.mem_map.1 hn; exact wf_u8 y.2
  refine (law_calls (fnTurns_spec _ _ hb0 hb1) (vs := [.slice A0 t0.length c0, .slice A1 t1.length c1]) [⟨A0, c0⟩, ⟨A1, c1⟩] rfl ?_ ?_).mono fun e W' ⟨he, bel⟩ => ?_
  · exact ⟨_, _, rfl, ⟨_, rfl, by simp⟩, ⟨_, [], rfl, ⟨_, rfl, by simp⟩, rfl⟩⟩
  · refine ⟨fun _ => Hp.emp, fun i c' hc' => ?_, fun _ _ _ => Hp.emp_dj _, fun _ => Hp.emp_dj _, fun _ => Hp.emp_le _, rfl, rfl, rfl, Hp.le_refl _⟩
    match i with
    | 0 => cases hc'; exact ⟨_, rfl, hr0⟩
    | 1 => cases hc'; exact ⟨_, rfl, hr1⟩
    | i + 2 => simp at hc'
  · subst he
    exact ⟨_, rfl, _, _, _, [], _, [], hW', trodAll_mk1 (shut_bool Try.underlying4 _), trodAll_cons_mk (Below.trod laidOut (by kernel_rfl) (of_decide_eq_true (by kernel_rfl)) k0 bel lt0) (trodAll_cons_mk (Below.trod laidOut (by kernel_rfl) (of_decide_eq_true (by kernel_rfl)) k1 bel lt1) trodAll_mk0), rfl, bel.frame _, fun h => by cases h⟩
theorem over : Rows.fnTurnsRow.holds Try.pinned (OpenSpec.ofChange Rows.fnTurnsSpec) :=
  OpenClaim.holds_of_wide 3 Try.f3 rfl rfl rfl rfl rfl rfl rfl ⟨rfl, rfl, rfl, rfl, rfl⟩ rfl rfl rfl rfl rfl (by kernel_rfl) Try.func3 (by kernel_rfl)
    (of_decide_eq_true (by kernel_rfl)) (by unfold Func.isWrapper; first | (rw [if_pos (by decide +kernel)]; kernel_rfl) | (rw [if_neg (by decide +kernel)]; exact ⟨rfl, rfl⟩))
    (fun os started H enc _ => lifted os started H enc)
#print axioms over
end Turns
/-- The row, under a short name, for the claim. -/
theorem fnTurns_holds : Rows.FnTurnsSaid := Turns.over
end Go.Proofs.Ythdbhlpceodhlaa
