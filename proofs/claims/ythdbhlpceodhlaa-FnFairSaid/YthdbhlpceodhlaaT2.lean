/- Contracts of functions of this seat's program, and what is proved of them: each for every argument that its hypotheses let in. -/
import Derived.Test.YthdbhlpceodhlaaTab
set_option linter.unusedVariables false
set_option linter.unusedSimpArgs false
namespace Go.Proofs.Ythdbhlpceodhlaa
open Go Go.Proofs.Ythdbhlpceodhlaa.Sx
def encInt (n : Int) : List D := [.int .i64 n]
def marks (k : Int) : Nat → List Int
  | 0 => []
  | n + 1 => k :: marks (k + 1) n
theorem marks_length : ∀ (k : Int) (n : Nat), (marks k n).length = n
  | _, 0 => rfl
  | k, n + 1 => by simp [marks, marks_length]
theorem marks_snoc : ∀ (k : Int) (n : Nat), marks k (n + 1) = marks k n ++ [k + n]
  | k, 0 => by simp [marks]
  | k, n + 1 => by rw [marks, marks_snoc (k + 1) n, marks]; simp; omega
theorem marks_get : ∀ (k : Int) (n i : Nat), i < n → (marks k n)[i]? = some (k + i)
  | k, n + 1, 0, _ => by simp [marks]
  | k, n + 1, i + 1, h => by simp [marks, marks_get (k + 1) n i (by omega)]; omega
theorem take_snoc {α : Type} {l : List α} {i : Nat} (h : i < l.length) : l.take (i + 1) = l.take i ++ [l[i]] := by
  rw [List.take_add_one, List.getElem?_eq_getElem h]; rfl
theorem set_done {α : Type} {p q : List α} {i : Nat} {x : α} (h : p.length = i) (hi : 0 < q.length) : (p ++ q).set i x = (p ++ [x]) ++ q.drop 1 := by
  cases q with
  | nil => simp at hi
  | cons y r => rw [List.set_append_right _ _ (by omega)]; simp [h]

theorem szIntS_spec (a : List Int) (left : Int) (h0 : 0 ≤ left) (h1 : left ≤ 1048576) : FSpec Try.prog 56 [.one (.slc 0 a.length), .one (.int .i64 left)] [.row false 1 encInt a] (fun r p => r = .one (.int .i64 (if left < a.length then -1 else left - a.length)) ∧ p = [.row false 1 encInt a]) := by
  refine spec_enter tab tok Try.func56 rfl rfl rfl _ 1 Try.ntmps56 rfl (fun F ρ => ?_)
  (conv => whnf)
  refine rowLen 0 rfl (fun hl => ?_)
  (refine run 600 ?_; (conv => whnf); repeat' (first | (refine Br.mk (fun h => ?_) (fun h => ?_) <;> first | (exfalso; omega) | (exfalso; simp at h; done) | (conv => whnf)) | (refine Ob.mk (by first | omega | exact Hp.le_refl _ | (simp; omega)) ?_; (conv => whnf)) | (refine ix_0 (by omega) ?_; (conv => whnf)) | (refine ix_1 (by omega) ?_; (conv => whnf)) | (refine ix_2 (by omega) ?_; (conv => whnf)) | (refine ix_nat (by omega) ?_; (conv => whnf)) | (refine ix_int (by omega) ?_; (conv => whnf)) | (refine wr_i64 (by omega) ?_; (conv => whnf)) | (refine qu_pos (by omega) ?_; (conv => whnf)) | (refine rm_pos (by omega) ?_; (conv => whnf)) | (refine pk _ rfl ?_; (conv => whnf)) | (refine And.intro (by first | rfl | omega) ?_; (conv => whnf)) | (refine nilq ?_; (conv => whnf)) | (refine nilqn ?_; (conv => whnf)) | (refine Al.mk (fun b hb => ?_); (conv => whnf)) | (refine An.mk (by first | decide | omega | (refine ⟨by decide, by omega, by omega⟩)) (fun z hz => ?_); (conv => whnf)) | (refine wr_any ?_; (conv => whnf)) | (refine quiet (by kernel_rfl) ?_; (conv => whnf))))
  · (refine T_ret _ rfl ?_; (conv => whnf); refine retS _ _ [some 0] ⟨rfl, rfl⟩ ?_; (conv => whnf))
    rw [if_pos (by omega)]
    exact ⟨rfl, rfl, rfl, trivial⟩
  · (refine T_ret _ rfl ?_; (conv => whnf); refine retS _ _ [some 0] ⟨rfl, rfl⟩ ?_; (conv => whnf))
    rw [if_neg (by omega)]
    exact ⟨rfl, rfl, rfl, trivial⟩
theorem eqIntS_spec (a b : List Int) (ha : a.length ≤ 100000000) : FSpec Try.prog 24 [.one (.slc 0 a.length), .one (.slc 1 b.length)] [.row false 1 encInt a, .row false 1 encInt b] (fun r p => r = .one (.bool (decide (a = b))) ∧ p = [.row false 1 encInt a, .row false 1 encInt b]) := by
  refine spec_enter tab tok Try.func24 rfl rfl rfl _ 2 Try.ntmps24 rfl (fun F ρ => ?_)
  (conv => whnf)
  (refine run 600 ?_; (conv => whnf); repeat' (first | (refine Br.mk (fun h => ?_) (fun h => ?_) <;> first | (exfalso; omega) | (exfalso; simp at h; done) | (conv => whnf)) | (refine Ob.mk (by first | omega | exact Hp.le_refl _ | (simp; omega)) ?_; (conv => whnf)) | (refine ix_0 (by omega) ?_; (conv => whnf)) | (refine ix_1 (by omega) ?_; (conv => whnf)) | (refine ix_2 (by omega) ?_; (conv => whnf)) | (refine ix_nat (by omega) ?_; (conv => whnf)) | (refine ix_int (by omega) ?_; (conv => whnf)) | (refine wr_i64 (by omega) ?_; (conv => whnf)) | (refine qu_pos (by omega) ?_; (conv => whnf)) | (refine rm_pos (by omega) ?_; (conv => whnf)) | (refine pk _ rfl ?_; (conv => whnf)) | (refine And.intro (by first | rfl | omega) ?_; (conv => whnf)) | (refine nilq ?_; (conv => whnf)) | (refine nilqn ?_; (conv => whnf)) | (refine Al.mk (fun b hb => ?_); (conv => whnf)) | (refine An.mk (by first | decide | omega | (refine ⟨by decide, by omega, by omega⟩)) (fun z hz => ?_); (conv => whnf)) | (refine wr_any ?_; (conv => whnf)) | (refine quiet (by kernel_rfl) ?_; (conv => whnf))))
  · (refine T_ret _ rfl ?_; (conv => whnf); refine retS _ _ [some 0, some 1] ⟨rfl, rfl⟩ ?_; (conv => whnf))
    refine ⟨?_, rfl, rfl, rfl, rfl, trivial⟩
    have : a ≠ b := fun e => h (by rw [e])
    simp [this]
  · have hl : a.length = b.length := by omega
    refine T_loop (fun i : Nat => ⟨[(5, .one (.int .i64 i)), (0, .one (.slc 0 a.length)), (1, .one (.slc 1 b.length))], [.row false 1 encInt a, .row false 1 encInt b]⟩)
      (fun i => i ≤ a.length ∧ a.take i = b.take i) (fun i => a.length - i) 0 [some 0, some 1] ?_ ⟨Nat.zero_le _, by simp⟩ (fun i hi => ?_)
    · ((conv => whnf); repeat' (first | exact trivial | exact rfl | apply And.intro); all_goals (first | omega | (simp <;> done) | skip))
    · obtain ⟨hi, he⟩ := hi
      (refine run 600 ?_; (conv => whnf); repeat' (first | (refine Br.mk (fun h => ?_) (fun h => ?_) <;> first | (exfalso; omega) | (exfalso; simp at h; done) | (conv => whnf)) | (refine Ob.mk (by first | omega | exact Hp.le_refl _ | (simp; omega)) ?_; (conv => whnf)) | (refine ix_0 (by omega) ?_; (conv => whnf)) | (refine ix_1 (by omega) ?_; (conv => whnf)) | (refine ix_2 (by omega) ?_; (conv => whnf)) | (refine ix_nat (by omega) ?_; (conv => whnf)) | (refine ix_int (by omega) ?_; (conv => whnf)) | (refine wr_i64 (by omega) ?_; (conv => whnf)) | (refine qu_pos (by omega) ?_; (conv => whnf)) | (refine rm_pos (by omega) ?_; (conv => whnf)) | (refine pk _ rfl ?_; (conv => whnf)) | (refine And.intro (by first | rfl | omega) ?_; (conv => whnf)) | (refine nilq ?_; (conv => whnf)) | (refine nilqn ?_; (conv => whnf)) | (refine Al.mk (fun b hb => ?_); (conv => whnf)) | (refine An.mk (by first | decide | omega | (refine ⟨by decide, by omega, by omega⟩)) (fun z hz => ?_); (conv => whnf)) | (refine wr_any ?_; (conv => whnf)) | (refine quiet (by kernel_rfl) ?_; (conv => whnf))))
      · (refine T_ret _ rfl ?_; (conv => whnf); refine retS _ _ [some 0, some 1] ⟨rfl, rfl⟩ ?_; (conv => whnf))
        refine ⟨?_, rfl, rfl, rfl, rfl, trivial⟩
        have : a ≠ b := fun e => h (by subst e; rfl)
        simp [this]
      · refine T_back (i + 1) [some 0, some 1] ?_ ⟨by omega, ?_⟩ (by omega)
        · ((conv => whnf); repeat' (first | exact trivial | exact rfl | apply And.intro); all_goals (first | omega | (simp <;> done) | skip))
        · rw [take_snoc (l := a) (by omega), take_snoc (l := b) (i := i) (by omega), he]
          simp only [Decidable.not_not] at h
          rw [h]
      · (refine T_ret _ rfl ?_; (conv => whnf); refine retS _ _ [some 0, some 1] ⟨rfl, rfl⟩ ?_; (conv => whnf))
        refine ⟨?_, rfl, rfl, rfl, rfl, trivial⟩
        rw [List.take_of_length_le (by omega), List.take_of_length_le (by omega)] at he
        simp [he]
theorem toIntS_spec (a : List Int) (ha : a.length ≤ 1048576) : FSpec Try.prog 57 [.one (.slc 0 a.length)] [.row false 1 encInt a] (fun r p => r = .one (.slc 1 a.length) ∧ p = [.row false 1 encInt a, .row true 1 encInt a]) := by
  refine spec_enter tab tok Try.func57 rfl rfl rfl _ 1 Try.ntmps57 rfl (fun F ρ => ?_)
  (conv => whnf)
  (refine run 600 ?_; (conv => whnf); repeat' (first | (refine Br.mk (fun h => ?_) (fun h => ?_) <;> first | (exfalso; omega) | (exfalso; simp at h; done) | (conv => whnf)) | (refine Ob.mk (by first | omega | exact Hp.le_refl _ | (simp; omega)) ?_; (conv => whnf)) | (refine ix_0 (by omega) ?_; (conv => whnf)) | (refine ix_1 (by omega) ?_; (conv => whnf)) | (refine ix_2 (by omega) ?_; (conv => whnf)) | (refine ix_nat (by omega) ?_; (conv => whnf)) | (refine ix_int (by omega) ?_; (conv => whnf)) | (refine wr_i64 (by omega) ?_; (conv => whnf)) | (refine qu_pos (by omega) ?_; (conv => whnf)) | (refine rm_pos (by omega) ?_; (conv => whnf)) | (refine pk _ rfl ?_; (conv => whnf)) | (refine And.intro (by first | rfl | omega) ?_; (conv => whnf)) | (refine nilq ?_; (conv => whnf)) | (refine nilqn ?_; (conv => whnf)) | (refine Al.mk (fun b hb => ?_); (conv => whnf)) | (refine An.mk (by first | decide | omega | (refine ⟨by decide, by omega, by omega⟩)) (fun z hz => ?_); (conv => whnf)) | (refine wr_any ?_; (conv => whnf)) | (refine quiet (by kernel_rfl) ?_; (conv => whnf))))
  refine make tokz encInt 0 a.length a.length ?_
  ((conv => whnf); repeat' (first | (refine Br.mk (fun h => ?_) (fun h => ?_) <;> first | (exfalso; omega) | (exfalso; simp at h; done) | (conv => whnf)) | (refine Ob.mk (by first | omega | exact Hp.le_refl _ | (simp; omega)) ?_; (conv => whnf)) | (refine ix_0 (by omega) ?_; (conv => whnf)) | (refine ix_1 (by omega) ?_; (conv => whnf)) | (refine ix_2 (by omega) ?_; (conv => whnf)) | (refine ix_nat (by omega) ?_; (conv => whnf)) | (refine ix_int (by omega) ?_; (conv => whnf)) | (refine wr_i64 (by omega) ?_; (conv => whnf)) | (refine qu_pos (by omega) ?_; (conv => whnf)) | (refine rm_pos (by omega) ?_; (conv => whnf)) | (refine pk _ rfl ?_; (conv => whnf)) | (refine And.intro (by first | rfl | omega) ?_; (conv => whnf)) | (refine nilq ?_; (conv => whnf)) | (refine nilqn ?_; (conv => whnf)) | (refine Al.mk (fun b hb => ?_); (conv => whnf)) | (refine An.mk (by first | decide | omega | (refine ⟨by decide, by omega, by omega⟩)) (fun z hz => ?_); (conv => whnf)) | (refine wr_any ?_; (conv => whnf)) | (refine quiet (by kernel_rfl) ?_; (conv => whnf))))
  refine T_loop (fun (y : Nat × List Int) => ⟨[(4, .one (.int .i64 y.1)), (3, .one (.slc 1 y.2.length)), (0, .one (.slc 0 a.length))], [.row false 1 encInt a, .row true 1 encInt y.2]⟩)
    (fun y => y.2.length = a.length ∧ y.1 ≤ a.length ∧ y.2 = a.take y.1 ++ List.replicate (a.length - y.1) 0) (fun y => a.length - y.1) (0, List.replicate a.length 0) [some 0, some 1] ?_ ⟨by simp, Nat.zero_le _, by simp⟩ (fun y hy => ?_)
  · ((conv => whnf); repeat' (first | exact trivial | exact rfl | apply And.intro); all_goals (first | omega | (simp <;> done) | skip))
  · obtain ⟨i, xs⟩ := y
    obtain ⟨hl, hi, hx⟩ := hy
    dsimp only at hl hi hx ⊢
    (refine run 600 ?_; (conv => whnf); repeat' (first | (refine Br.mk (fun h => ?_) (fun h => ?_) <;> first | (exfalso; omega) | (exfalso; simp at h; done) | (conv => whnf)) | (refine Ob.mk (by first | omega | exact Hp.le_refl _ | (simp; omega)) ?_; (conv => whnf)) | (refine ix_0 (by omega) ?_; (conv => whnf)) | (refine ix_1 (by omega) ?_; (conv => whnf)) | (refine ix_2 (by omega) ?_; (conv => whnf)) | (refine ix_nat (by omega) ?_; (conv => whnf)) | (refine ix_int (by omega) ?_; (conv => whnf)) | (refine wr_i64 (by omega) ?_; (conv => whnf)) | (refine qu_pos (by omega) ?_; (conv => whnf)) | (refine rm_pos (by omega) ?_; (conv => whnf)) | (refine pk _ rfl ?_; (conv => whnf)) | (refine And.intro (by first | rfl | omega) ?_; (conv => whnf)) | (refine nilq ?_; (conv => whnf)) | (refine nilqn ?_; (conv => whnf)) | (refine Al.mk (fun b hb => ?_); (conv => whnf)) | (refine An.mk (by first | decide | omega | (refine ⟨by decide, by omega, by omega⟩)) (fun z hz => ?_); (conv => whnf)) | (refine wr_any ?_; (conv => whnf)) | (refine quiet (by kernel_rfl) ?_; (conv => whnf))))
    · refine T_back (i + 1, xs.set i a[i]) [some 0, some 1] ?_ ⟨by simp [hl], by dsimp only; omega, ?_⟩ (by dsimp only; omega)
      · ((conv => whnf); repeat' (first | exact trivial | exact rfl | apply And.intro); all_goals (first | omega | (simp <;> done) | skip))
      · dsimp only
        have e : xs.set i a[i] = (a.take i ++ List.replicate (a.length - i) 0).set i a[i] := congrArg (fun l => l.set i a[i]) hx
        rw [e, set_done (by simp; omega) (by simp; omega), take_snoc (l := a) (by omega), List.drop_replicate]
        congr 2
    · (refine T_ret _ rfl ?_; (conv => whnf); refine retS _ _ [some 0, some 1] ⟨rfl, rfl⟩ ?_; (conv => whnf))
      have : xs = a := by rw [hx, List.take_of_length_le (by omega)]; simp; omega
      subst this
      ((repeat' (first | exact trivial | exact rfl | apply And.intro)) <;> try decide)
theorem markIntS_spec (a : List Int) (k : Int) (ha : a.length ≤ 100000000) (h0 : 0 ≤ k) (h1 : k ≤ 100000000) : FSpec Try.prog 26 [.one (.slc 0 a.length), .one (.int .i64 k)] [.row true 1 encInt a] (fun r p => r = .one (.int .i64 (k + a.length)) ∧ p = [.row true 1 encInt (marks k a.length)]) := by
  refine spec_enter tab tok Try.func26 rfl rfl rfl _ 1 Try.ntmps26 rfl (fun F ρ => ?_)
  (conv => whnf)
  (refine run 600 ?_; (conv => whnf); repeat' (first | (refine Br.mk (fun h => ?_) (fun h => ?_) <;> first | (exfalso; omega) | (exfalso; simp at h; done) | (conv => whnf)) | (refine Ob.mk (by first | omega | exact Hp.le_refl _ | (simp; omega)) ?_; (conv => whnf)) | (refine ix_0 (by omega) ?_; (conv => whnf)) | (refine ix_1 (by omega) ?_; (conv => whnf)) | (refine ix_2 (by omega) ?_; (conv => whnf)) | (refine ix_nat (by omega) ?_; (conv => whnf)) | (refine ix_int (by omega) ?_; (conv => whnf)) | (refine wr_i64 (by omega) ?_; (conv => whnf)) | (refine qu_pos (by omega) ?_; (conv => whnf)) | (refine rm_pos (by omega) ?_; (conv => whnf)) | (refine pk _ rfl ?_; (conv => whnf)) | (refine And.intro (by first | rfl | omega) ?_; (conv => whnf)) | (refine nilq ?_; (conv => whnf)) | (refine nilqn ?_; (conv => whnf)) | (refine Al.mk (fun b hb => ?_); (conv => whnf)) | (refine An.mk (by first | decide | omega | (refine ⟨by decide, by omega, by omega⟩)) (fun z hz => ?_); (conv => whnf)) | (refine wr_any ?_; (conv => whnf)) | (refine quiet (by kernel_rfl) ?_; (conv => whnf))))
  refine T_loop (fun (y : Nat × List Int) => ⟨[(5, .one (.int .i64 y.1)), (0, .one (.slc 0 y.2.length)), (1, .one (.int .i64 (k + y.1)))], [.row true 1 encInt y.2]⟩)
    (fun y => y.2.length = a.length ∧ y.1 ≤ a.length ∧ y.2 = marks k y.1 ++ a.drop y.1) (fun y => a.length - y.1) (0, a) [some 0] ?_ ⟨rfl, Nat.zero_le _, by simp [marks]⟩ (fun y hy => ?_)
  · ((conv => whnf); repeat' (first | exact trivial | exact rfl | apply And.intro); all_goals (first | omega | (simp <;> done) | skip))
  · obtain ⟨i, xs⟩ := y
    obtain ⟨hl, hi, hx⟩ := hy
    dsimp only at hl hi hx ⊢
    (refine run 600 ?_; (conv => whnf); repeat' (first | (refine Br.mk (fun h => ?_) (fun h => ?_) <;> first | (exfalso; omega) | (exfalso; simp at h; done) | (conv => whnf)) | (refine Ob.mk (by first | omega | exact Hp.le_refl _ | (simp; omega)) ?_; (conv => whnf)) | (refine ix_0 (by omega) ?_; (conv => whnf)) | (refine ix_1 (by omega) ?_; (conv => whnf)) | (refine ix_2 (by omega) ?_; (conv => whnf)) | (refine ix_nat (by omega) ?_; (conv => whnf)) | (refine ix_int (by omega) ?_; (conv => whnf)) | (refine wr_i64 (by omega) ?_; (conv => whnf)) | (refine qu_pos (by omega) ?_; (conv => whnf)) | (refine rm_pos (by omega) ?_; (conv => whnf)) | (refine pk _ rfl ?_; (conv => whnf)) | (refine And.intro (by first | rfl | omega) ?_; (conv => whnf)) | (refine nilq ?_; (conv => whnf)) | (refine nilqn ?_; (conv => whnf)) | (refine Al.mk (fun b hb => ?_); (conv => whnf)) | (refine An.mk (by first | decide | omega | (refine ⟨by decide, by omega, by omega⟩)) (fun z hz => ?_); (conv => whnf)) | (refine wr_any ?_; (conv => whnf)) | (refine quiet (by kernel_rfl) ?_; (conv => whnf))))
    · refine T_back (i + 1, xs.set i (k + i)) [some 0] ?_ ⟨by simp [hl], by dsimp only; omega, ?_⟩ (by dsimp only; omega)
      · ((conv => whnf); repeat' (first | exact trivial | exact rfl | apply And.intro); all_goals (first | omega | (simp <;> done) | skip))
      · dsimp only
        rw [hx, set_done (by simp [marks_length]) (by simp; omega), marks_snoc, List.drop_drop]
    · (refine T_ret _ rfl ?_; (conv => whnf); refine retS _ _ [some 0] ⟨rfl, rfl⟩ ?_; (conv => whnf))
      have e : i = a.length := by omega
      subst e
      ((repeat' (first | exact trivial | exact rfl | apply And.intro)) <;> try decide)
      rw [hx]; simp
theorem heldIntS_spec (a : List Int) (k : Int) (ha : a.length ≤ 100000000) (h0 : 0 ≤ k) (h1 : k ≤ 100000000) : FSpec Try.prog 28 [.one (.slc 0 a.length), .one (.int .i64 k)] [.row false 1 encInt a] (fun r p => r = .one (.int .i64 (if a = marks k a.length then k + a.length else -1)) ∧ p = [.row false 1 encInt a]) := by
  refine spec_enter tab tok Try.func28 rfl rfl rfl _ 1 Try.ntmps28 rfl (fun F ρ => ?_)
  (conv => whnf)
  (refine run 600 ?_; (conv => whnf); repeat' (first | (refine Br.mk (fun h => ?_) (fun h => ?_) <;> first | (exfalso; omega) | (exfalso; simp at h; done) | (conv => whnf)) | (refine Ob.mk (by first | omega | exact Hp.le_refl _ | (simp; omega)) ?_; (conv => whnf)) | (refine ix_0 (by omega) ?_; (conv => whnf)) | (refine ix_1 (by omega) ?_; (conv => whnf)) | (refine ix_2 (by omega) ?_; (conv => whnf)) | (refine ix_nat (by omega) ?_; (conv => whnf)) | (refine ix_int (by omega) ?_; (conv => whnf)) | (refine wr_i64 (by omega) ?_; (conv => whnf)) | (refine qu_pos (by omega) ?_; (conv => whnf)) | (refine rm_pos (by omega) ?_; (conv => whnf)) | (refine pk _ rfl ?_; (conv => whnf)) | (refine And.intro (by first | rfl | omega) ?_; (conv => whnf)) | (refine nilq ?_; (conv => whnf)) | (refine nilqn ?_; (conv => whnf)) | (refine Al.mk (fun b hb => ?_); (conv => whnf)) | (refine An.mk (by first | decide | omega | (refine ⟨by decide, by omega, by omega⟩)) (fun z hz => ?_); (conv => whnf)) | (refine wr_any ?_; (conv => whnf)) | (refine quiet (by kernel_rfl) ?_; (conv => whnf))))
  refine T_loop (fun (i : Nat) => ⟨[(5, .one (.int .i64 i)), (0, .one (.slc 0 a.length)), (1, .one (.int .i64 (k + i)))], [.row false 1 encInt a]⟩)
    (fun i => i ≤ a.length ∧ a.take i = marks k i) (fun i => a.length - i) 0 [some 0] ?_ ⟨Nat.zero_le _, by simp [marks]⟩ (fun i hi => ?_)
  · ((conv => whnf); repeat' (first | exact trivial | exact rfl | apply And.intro); all_goals (first | omega | (simp <;> done) | skip))
  · obtain ⟨hi, hx⟩ := hi
    (refine run 600 ?_; (conv => whnf); repeat' (first | (refine Br.mk (fun h => ?_) (fun h => ?_) <;> first | (exfalso; omega) | (exfalso; simp at h; done) | (conv => whnf)) | (refine Ob.mk (by first | omega | exact Hp.le_refl _ | (simp; omega)) ?_; (conv => whnf)) | (refine ix_0 (by omega) ?_; (conv => whnf)) | (refine ix_1 (by omega) ?_; (conv => whnf)) | (refine ix_2 (by omega) ?_; (conv => whnf)) | (refine ix_nat (by omega) ?_; (conv => whnf)) | (refine ix_int (by omega) ?_; (conv => whnf)) | (refine wr_i64 (by omega) ?_; (conv => whnf)) | (refine qu_pos (by omega) ?_; (conv => whnf)) | (refine rm_pos (by omega) ?_; (conv => whnf)) | (refine pk _ rfl ?_; (conv => whnf)) | (refine And.intro (by first | rfl | omega) ?_; (conv => whnf)) | (refine nilq ?_; (conv => whnf)) | (refine nilqn ?_; (conv => whnf)) | (refine Al.mk (fun b hb => ?_); (conv => whnf)) | (refine An.mk (by first | decide | omega | (refine ⟨by decide, by omega, by omega⟩)) (fun z hz => ?_); (conv => whnf)) | (refine wr_any ?_; (conv => whnf)) | (refine quiet (by kernel_rfl) ?_; (conv => whnf))))
    · (refine T_ret _ rfl ?_; (conv => whnf); refine retS _ _ [some 0] ⟨rfl, rfl⟩ ?_; (conv => whnf))
      rw [if_neg]
      · exact ⟨rfl, rfl, rfl, trivial⟩
      · intro e
        apply h
        have := congrArg (fun l => l[i]?) e
        rw [marks_get _ _ _ (by omega), List.getElem?_eq_getElem (by omega)] at this
        simpa using this
    · refine T_back (i + 1) [some 0] ?_ ⟨by omega, ?_⟩ (by omega)
      · ((conv => whnf); repeat' (first | exact trivial | exact rfl | apply And.intro); all_goals (first | omega | (simp <;> done) | skip))
      · rw [take_snoc (by omega), hx, marks_snoc]
        simp at h
        rw [h]
    · (refine T_ret _ rfl ?_; (conv => whnf); refine retS _ _ [some 0] ⟨rfl, rfl⟩ ?_; (conv => whnf))
      have e : i = a.length := by omega
      subst e
      rw [List.take_length] at hx
      rw [if_pos hx]
      exact ⟨rfl, rfl, rfl, trivial⟩
end Go.Proofs.Ythdbhlpceodhlaa
