/- Contracts of functions of this seat's program, and what is proved of them: each for every argument that its hypotheses let in. -/
import Derived.Test.YthdbhlpceodhlaaT3
set_option linter.unusedVariables false
set_option linter.unusedSimpArgs false
namespace Go.Proofs.Ythdbhlpceodhlaa
open Go Go.Proofs.Ythdbhlpceodhlaa.Sx
def marksQ (k : Int) : List Qd → List Qd
  | [] => []
  | q :: r => ⟨marks k q.longs.length, k + q.longs.length, k + q.longs.length + 1⟩ :: marksQ (k + q.longs.length + 2) r
structure Td where
  quantum : Int
  queues : List Qd
  rounds : Int
  deriving DecidableEq
def markQ (k : Int) (q : Qd) : Qd := ⟨marks k q.longs.length, k + q.longs.length, k + q.longs.length + 1⟩
theorem marksQ_length : ∀ (k : Int) (a : List Qd), (marksQ k a).length = a.length
  | _, [] => rfl
  | k, q :: r => by simp [marksQ, marksQ_length]
theorem marksQ_snoc : ∀ (k : Int) (a : List Qd) (q : Qd), marksQ k (a ++ [q]) = marksQ k a ++ [markQ (k + totQ a + 2 * a.length) q]
  | k, [], q => by simp [marksQ, markQ, totQ]
  | k, p :: r, q => by
    simp only [marksQ, List.cons_append, marksQ_snoc, totQ, List.length_cons]
    congr 3
    congr 1
    simp; omega
theorem totQ_marksQ : ∀ (k : Int) (a : List Qd), totQ (marksQ k a) = totQ a
  | _, [] => rfl
  | k, q :: r => by simp [marksQ, totQ, marks_length, totQ_marksQ]
theorem marksQ_idem : ∀ (k : Int) (a : List Qd), marksQ k (marksQ k a) = marksQ k a
  | _, [] => rfl
  | k, q :: r => by simp [marksQ, marks_length, marksQ_idem]
theorem totQ_get {a : List Qd} {i : Nat} (h : i < a.length) : totQ (a.take i) + a[i].longs.length + totQ (a.drop (i + 1)) = totQ a := by
  have := totQ_append (a.take (i + 1)) (a.drop (i + 1))
  rw [List.take_append_drop, take_snoc h, totQ_append] at this
  simp [totQ] at this
  omega
theorem marksQ_get : ∀ (k : Int) (a : List Qd) (i : Nat) (h : i < a.length), (marksQ k a)[i]? = some (markQ (k + totQ (a.take i) + 2 * i) a[i])
  | k, q :: r, 0, h => by simp [marksQ, markQ, totQ]
  | k, q :: r, i + 1, h => by
    simp only [marksQ, List.getElem?_cons_succ, List.take_succ_cons, totQ, List.getElem_cons_succ]
    rw [marksQ_get _ r i (by simpa using h)]
    congr 2
    simp; omega
theorem szTurns_spec (t : Td) (left : Int) (h0 : 0 ≤ left) (h1 : left ≤ 1048576) : FSpec Try.prog 21 [.agg [.int .i64 t.quantum, .slc 0 t.queues.length, .int .i64 t.rounds], .one (.int .i64 left)] [.row false 3 encQ t.queues] (fun r p => ∃ v, r = .one (.int .i64 v) ∧ (v = -1 ∨ 0 ≤ v ∧ v = left - t.queues.length - totQ t.queues) ∧ p = [.row false 3 encQ t.queues]) := by
  refine spec_enter tab tok Try.func21 rfl rfl rfl _ 1 Try.ntmps21 rfl (fun F ρ => ?_)
  (conv => whnf)
  (refine run 600 ?_; (conv => whnf); repeat' (first | (refine Br.mk (fun h => ?_) (fun h => ?_) <;> first | (exfalso; omega) | (exfalso; simp at h; done) | (conv => whnf)) | (refine Ob.mk (by first | omega | exact Hp.le_refl _ | (simp; omega)) ?_; (conv => whnf)) | (refine ix_nat (by omega) ?_; (conv => whnf)) | (refine ix_int (by omega) ?_; (conv => whnf)) | (refine wr_i64 (by omega) ?_; (conv => whnf)) | (refine qu_pos (by omega) ?_; (conv => whnf)) | (refine rm_pos (by omega) ?_; (conv => whnf)) | (refine pk _ rfl ?_; (conv => whnf)) | (refine And.intro (by first | rfl | omega) ?_; (conv => whnf)) | (refine nilq ?_; (conv => whnf)) | (refine nilqn ?_; (conv => whnf)) | (refine Al.mk (fun b hb => ?_); (conv => whnf)) | (refine quiet (by kernel_rfl) ?_; (conv => whnf))))
  (refine callG [some 0] ( szQueueS_spec t.queues left h0 h1 ) (by ((conv => whnf) <;> first | exact trivial | rfl | assumption | omega | (simp_all; done))) (by ((conv => whnf); repeat' (first | exact trivial | exact rfl | apply And.intro); all_goals (first | omega | (simp <;> done) | skip))) ?_; rintro _ _ ⟨v, rfl, hv, rfl⟩; ((conv => whnf); repeat' (first | (refine Br.mk (fun h => ?_) (fun h => ?_) <;> first | (exfalso; omega) | (exfalso; simp at h; done) | (conv => whnf)) | (refine Ob.mk (by first | omega | exact Hp.le_refl _ | (simp; omega)) ?_; (conv => whnf)) | (refine ix_nat (by omega) ?_; (conv => whnf)) | (refine ix_int (by omega) ?_; (conv => whnf)) | (refine wr_i64 (by omega) ?_; (conv => whnf)) | (refine qu_pos (by omega) ?_; (conv => whnf)) | (refine rm_pos (by omega) ?_; (conv => whnf)) | (refine pk _ rfl ?_; (conv => whnf)) | (refine And.intro (by first | rfl | omega) ?_; (conv => whnf)) | (refine nilq ?_; (conv => whnf)) | (refine nilqn ?_; (conv => whnf)) | (refine Al.mk (fun b hb => ?_); (conv => whnf)) | (refine quiet (by kernel_rfl) ?_; (conv => whnf)))))
  · (refine T_ret _ rfl ?_; (conv => whnf); refine retS _ _ [some 0] ( ⟨-1, rfl, .inl rfl, rfl⟩) ?_; (conv => whnf))
    ((repeat' (first | exact trivial | exact rfl | apply And.intro)) <;> try decide)
  · (refine T_ret _ rfl ?_; (conv => whnf); refine retS _ _ [some 0] ( ⟨v, rfl, hv, rfl⟩) ?_; (conv => whnf))
    ((repeat' (first | exact trivial | exact rfl | apply And.intro)) <;> try decide)
theorem toTurns_spec (t : Td) (ha : t.queues.length ≤ 1048576) (hb : ∀ q ∈ t.queues, q.longs.length ≤ 1048576) : FSpec Try.prog 22 [.agg [.int .i64 t.quantum, .slc 0 t.queues.length, .int .i64 t.rounds]] [.row false 3 encQ t.queues] (fun r p => r = .agg [.int .i64 t.quantum, .slc 1 t.queues.length, .int .i64 t.rounds] ∧ p = [.row false 3 encQ t.queues, .row true 3 encQ t.queues]) := by
  refine spec_enter tab tok Try.func22 rfl rfl rfl _ 1 Try.ntmps22 rfl (fun F ρ => ?_)
  (conv => whnf)
  (refine run 600 ?_; (conv => whnf); repeat' (first | (refine Br.mk (fun h => ?_) (fun h => ?_) <;> first | (exfalso; omega) | (exfalso; simp at h; done) | (conv => whnf)) | (refine Ob.mk (by first | omega | exact Hp.le_refl _ | (simp; omega)) ?_; (conv => whnf)) | (refine ix_nat (by omega) ?_; (conv => whnf)) | (refine ix_int (by omega) ?_; (conv => whnf)) | (refine wr_i64 (by omega) ?_; (conv => whnf)) | (refine qu_pos (by omega) ?_; (conv => whnf)) | (refine rm_pos (by omega) ?_; (conv => whnf)) | (refine pk _ rfl ?_; (conv => whnf)) | (refine And.intro (by first | rfl | omega) ?_; (conv => whnf)) | (refine nilq ?_; (conv => whnf)) | (refine nilqn ?_; (conv => whnf)) | (refine Al.mk (fun b hb => ?_); (conv => whnf)) | (refine quiet (by kernel_rfl) ?_; (conv => whnf))))
  (refine callG [some 0] ( toQueueS_spec t.queues ha hb) (by ((conv => whnf) <;> first | exact trivial | rfl | assumption | omega | (simp_all; done))) (by ((conv => whnf); repeat' (first | exact trivial | exact rfl | apply And.intro); all_goals (first | omega | (simp <;> done) | skip))) ?_; rintro _ _ ⟨rfl, rfl⟩; ((conv => whnf); repeat' (first | (refine Br.mk (fun h => ?_) (fun h => ?_) <;> first | (exfalso; omega) | (exfalso; simp at h; done) | (conv => whnf)) | (refine Ob.mk (by first | omega | exact Hp.le_refl _ | (simp; omega)) ?_; (conv => whnf)) | (refine ix_nat (by omega) ?_; (conv => whnf)) | (refine ix_int (by omega) ?_; (conv => whnf)) | (refine wr_i64 (by omega) ?_; (conv => whnf)) | (refine qu_pos (by omega) ?_; (conv => whnf)) | (refine rm_pos (by omega) ?_; (conv => whnf)) | (refine pk _ rfl ?_; (conv => whnf)) | (refine And.intro (by first | rfl | omega) ?_; (conv => whnf)) | (refine nilq ?_; (conv => whnf)) | (refine nilqn ?_; (conv => whnf)) | (refine Al.mk (fun b hb => ?_); (conv => whnf)) | (refine quiet (by kernel_rfl) ?_; (conv => whnf)))))
  (refine T_ret _ rfl ?_; (conv => whnf); refine retS _ _ [some 0, some 4] ⟨rfl, rfl⟩ ?_; (conv => whnf))
  ((repeat' (first | exact trivial | exact rfl | apply And.intro)) <;> try decide)
theorem eqTurns_spec (a b : Td) (ha : a.queues.length ≤ 100000000) (hb : ∀ q ∈ a.queues, q.longs.length ≤ 100000000) : FSpec Try.prog 23 [.agg [.int .i64 a.quantum, .slc 0 a.queues.length, .int .i64 a.rounds], .agg [.int .i64 b.quantum, .slc 1 b.queues.length, .int .i64 b.rounds]] [.row false 3 encQ a.queues, .row false 3 encQ b.queues] (fun r p => r = .one (.bool (decide (a = b))) ∧ p = [.row false 3 encQ a.queues, .row false 3 encQ b.queues]) := by
  refine spec_enter tab tok Try.func23 rfl rfl rfl _ 2 Try.ntmps23 rfl (fun F ρ => ?_)
  (conv => whnf)
  (refine run 600 ?_; (conv => whnf); repeat' (first | (refine Br.mk (fun h => ?_) (fun h => ?_) <;> first | (exfalso; omega) | (exfalso; simp at h; done) | (conv => whnf)) | (refine Ob.mk (by first | omega | exact Hp.le_refl _ | (simp; omega)) ?_; (conv => whnf)) | (refine ix_nat (by omega) ?_; (conv => whnf)) | (refine ix_int (by omega) ?_; (conv => whnf)) | (refine wr_i64 (by omega) ?_; (conv => whnf)) | (refine qu_pos (by omega) ?_; (conv => whnf)) | (refine rm_pos (by omega) ?_; (conv => whnf)) | (refine pk _ rfl ?_; (conv => whnf)) | (refine And.intro (by first | rfl | omega) ?_; (conv => whnf)) | (refine nilq ?_; (conv => whnf)) | (refine nilqn ?_; (conv => whnf)) | (refine Al.mk (fun b hb => ?_); (conv => whnf)) | (refine quiet (by kernel_rfl) ?_; (conv => whnf))))
  · cases a; cases b; (refine T_ret _ rfl ?_; (conv => whnf); refine retS _ _ [some 0, some 1] ⟨rfl, rfl⟩ ?_; (conv => whnf)); ((repeat' (first | exact trivial | exact rfl | apply And.intro)) <;> try decide); simp_all
  · (refine callG [some 0, some 1] ( eqQueueS_spec a.queues b.queues ha hb) (by ((conv => whnf) <;> first | exact trivial | rfl | assumption | omega | (simp_all; done))) (by ((conv => whnf); repeat' (first | exact trivial | exact rfl | apply And.intro); all_goals (first | omega | (simp <;> done) | skip))) ?_; rintro _ _ ⟨rfl, rfl⟩; ((conv => whnf); repeat' (first | (refine Br.mk (fun h => ?_) (fun h => ?_) <;> first | (exfalso; omega) | (exfalso; simp at h; done) | (conv => whnf)) | (refine Ob.mk (by first | omega | exact Hp.le_refl _ | (simp; omega)) ?_; (conv => whnf)) | (refine ix_nat (by omega) ?_; (conv => whnf)) | (refine ix_int (by omega) ?_; (conv => whnf)) | (refine wr_i64 (by omega) ?_; (conv => whnf)) | (refine qu_pos (by omega) ?_; (conv => whnf)) | (refine rm_pos (by omega) ?_; (conv => whnf)) | (refine pk _ rfl ?_; (conv => whnf)) | (refine And.intro (by first | rfl | omega) ?_; (conv => whnf)) | (refine nilq ?_; (conv => whnf)) | (refine nilqn ?_; (conv => whnf)) | (refine Al.mk (fun b hb => ?_); (conv => whnf)) | (refine quiet (by kernel_rfl) ?_; (conv => whnf)))))
    all_goals (cases a; cases b; (refine T_ret _ rfl ?_; (conv => whnf); refine retS _ _ [some 0, some 1] ⟨rfl, rfl⟩ ?_; (conv => whnf)); ((repeat' (first | exact trivial | exact rfl | apply And.intro)) <;> try decide); simp_all)
theorem markQueueS_spec (a : List Qd) (k : Int) (ha : a.length + totQ a ≤ 10000000) (h0 : 0 ≤ k) (h1 : k ≤ 1000000) : FSpec Try.prog 45 [.one (.slc 0 a.length), .one (.int .i64 k)] [.row true 3 encQ a] (fun r p => r = .one (.int .i64 (k + totQ a + 2 * a.length)) ∧ p = [.row true 3 encQ (marksQ k a)]) := by
  refine spec_enter tab tok Try.func45 rfl rfl rfl _ 1 Try.ntmps45 rfl (fun F ρ => ?_)
  (conv => whnf)
  (refine run 600 ?_; (conv => whnf); repeat' (first | (refine Br.mk (fun h => ?_) (fun h => ?_) <;> first | (exfalso; omega) | (exfalso; simp at h; done) | (conv => whnf)) | (refine Ob.mk (by first | omega | exact Hp.le_refl _ | (simp; omega)) ?_; (conv => whnf)) | (refine ix_nat (by omega) ?_; (conv => whnf)) | (refine ix_int (by omega) ?_; (conv => whnf)) | (refine wr_i64 (by omega) ?_; (conv => whnf)) | (refine qu_pos (by omega) ?_; (conv => whnf)) | (refine rm_pos (by omega) ?_; (conv => whnf)) | (refine pk _ rfl ?_; (conv => whnf)) | (refine And.intro (by first | rfl | omega) ?_; (conv => whnf)) | (refine nilq ?_; (conv => whnf)) | (refine nilqn ?_; (conv => whnf)) | (refine Al.mk (fun b hb => ?_); (conv => whnf)) | (refine quiet (by kernel_rfl) ?_; (conv => whnf))))
  refine T_loop (fun (y : Nat × Int × List Qd) => ⟨[(5, .one (.int .i64 y.1)), (0, .one (.slc 0 y.2.2.length)), (1, .one (.int .i64 y.2.1))], [.row true 3 encQ y.2.2]⟩)
    (fun y => y.2.2.length = a.length ∧ y.1 ≤ a.length ∧ y.2.1 = k + totQ (a.take y.1) + 2 * y.1 ∧ y.2.2 = marksQ k (a.take y.1) ++ a.drop y.1) (fun y => a.length - y.1) (0, k, a) [some 0] ?_ ⟨rfl, Nat.zero_le _, by simp [totQ], by simp [marksQ]⟩ (fun y hy => ?_)
  · ((conv => whnf); repeat' (first | exact trivial | exact rfl | apply And.intro); all_goals (first | omega | (simp <;> done) | skip))
  · obtain ⟨i, kk, xs⟩ := y
    obtain ⟨hl, hi, hk, hx⟩ := hy
    dsimp only at hl hi hk hx ⊢
    (refine run 600 ?_; (conv => whnf); repeat' (first | (refine Br.mk (fun h => ?_) (fun h => ?_) <;> first | (exfalso; omega) | (exfalso; simp at h; done) | (conv => whnf)) | (refine Ob.mk (by first | omega | exact Hp.le_refl _ | (simp; omega)) ?_; (conv => whnf)) | (refine ix_nat (by omega) ?_; (conv => whnf)) | (refine ix_int (by omega) ?_; (conv => whnf)) | (refine wr_i64 (by omega) ?_; (conv => whnf)) | (refine qu_pos (by omega) ?_; (conv => whnf)) | (refine rm_pos (by omega) ?_; (conv => whnf)) | (refine pk _ rfl ?_; (conv => whnf)) | (refine And.intro (by first | rfl | omega) ?_; (conv => whnf)) | (refine nilq ?_; (conv => whnf)) | (refine nilqn ?_; (conv => whnf)) | (refine Al.mk (fun b hb => ?_); (conv => whnf))))
    · have hi' : i < a.length := by omega
      have htot := totQ_get hi'
      have hxi : xs[i] = a[i] := by
        have e : xs[i]? = a[i]? := by
          rw [hx, List.getElem?_append_right (by rw [marksQ_length]; simp; omega), marksQ_length]
          simp [Nat.min_eq_left hi]
        rw [List.getElem?_eq_getElem (by omega), List.getElem?_eq_getElem (by omega)] at e
        simpa using e
      (refine opn 0 i rfl (by omega) ?_; ((conv => whnf); repeat' (first | (refine Br.mk (fun h => ?_) (fun h => ?_) <;> first | (exfalso; omega) | (exfalso; simp at h; done) | (conv => whnf)) | (refine Ob.mk (by first | omega | exact Hp.le_refl _ | (simp; omega)) ?_; (conv => whnf)) | (refine ix_nat (by omega) ?_; (conv => whnf)) | (refine ix_int (by omega) ?_; (conv => whnf)) | (refine wr_i64 (by omega) ?_; (conv => whnf)) | (refine qu_pos (by omega) ?_; (conv => whnf)) | (refine rm_pos (by omega) ?_; (conv => whnf)) | (refine pk _ rfl ?_; (conv => whnf)) | (refine And.intro (by first | rfl | omega) ?_; (conv => whnf)) | (refine nilq ?_; (conv => whnf)) | (refine nilqn ?_; (conv => whnf)) | (refine Al.mk (fun b hb => ?_); (conv => whnf)) | (refine quiet (by kernel_rfl) ?_; (conv => whnf)))))
      rw [hxi]
      (refine callG [some 1] ( markIntS_spec a[i].longs kk (by omega) (by omega) (by omega)) (by ((conv => whnf) <;> first | exact trivial | rfl | assumption | omega | (simp_all; done))) (by ((conv => whnf); repeat' (first | exact trivial | exact rfl | apply And.intro); all_goals (first | omega | (simp <;> done) | skip))) ?_; rintro _ _ ⟨rfl, rfl⟩; ((conv => whnf); repeat' (first | (refine Br.mk (fun h => ?_) (fun h => ?_) <;> first | (exfalso; omega) | (exfalso; simp at h; done) | (conv => whnf)) | (refine Ob.mk (by first | omega | exact Hp.le_refl _ | (simp; omega)) ?_; (conv => whnf)) | (refine ix_nat (by omega) ?_; (conv => whnf)) | (refine ix_int (by omega) ?_; (conv => whnf)) | (refine wr_i64 (by omega) ?_; (conv => whnf)) | (refine qu_pos (by omega) ?_; (conv => whnf)) | (refine rm_pos (by omega) ?_; (conv => whnf)) | (refine pk _ rfl ?_; (conv => whnf)) | (refine And.intro (by first | rfl | omega) ?_; (conv => whnf)) | (refine nilq ?_; (conv => whnf)) | (refine nilqn ?_; (conv => whnf)) | (refine Al.mk (fun b hb => ?_); (conv => whnf)) | (refine quiet (by kernel_rfl) ?_; (conv => whnf)))))
      (refine close 0 (markQ kk a[i]) rfl ?_; (conv => whnf); refine And.intro rfl (And.intro (by simp [markQ, marks_length]) ?_); ((conv => whnf); repeat' (first | (refine Br.mk (fun h => ?_) (fun h => ?_) <;> first | (exfalso; omega) | (exfalso; simp at h; done) | (conv => whnf)) | (refine Ob.mk (by first | omega | exact Hp.le_refl _ | (simp; omega)) ?_; (conv => whnf)) | (refine ix_nat (by omega) ?_; (conv => whnf)) | (refine ix_int (by omega) ?_; (conv => whnf)) | (refine wr_i64 (by omega) ?_; (conv => whnf)) | (refine qu_pos (by omega) ?_; (conv => whnf)) | (refine rm_pos (by omega) ?_; (conv => whnf)) | (refine pk _ rfl ?_; (conv => whnf)) | (refine And.intro (by first | rfl | omega) ?_; (conv => whnf)) | (refine nilq ?_; (conv => whnf)) | (refine nilqn ?_; (conv => whnf)) | (refine Al.mk (fun b hb => ?_); (conv => whnf)) | (refine quiet (by kernel_rfl) ?_; (conv => whnf)))))
      refine T_back (i + 1, kk + a[i].longs.length + 1 + 1, xs.set i (markQ kk a[i])) [some 0] ?_ ⟨by simp [hl], by dsimp only; omega, ?_, ?_⟩ (by dsimp only; omega)
      · ((conv => whnf); repeat' (first | exact trivial | exact rfl | apply And.intro); all_goals (first | omega | (simp <;> done) | skip))
      · dsimp only
        rw [take_snoc hi', totQ_append, hk]
        simp [totQ]; omega
      · dsimp only
        rw [hx, set_done (by simp [marksQ_length]; omega) (by simp; omega), take_snoc hi', marksQ_snoc, List.drop_drop]
        simp only [List.length_take, Nat.min_eq_left hi, hk]
    · (refine T_ret _ rfl ?_; (conv => whnf); refine retS _ _ [some 0] ⟨rfl, rfl⟩ ?_; (conv => whnf))
      have e : i = a.length := by omega
      subst e
      rw [List.take_length] at hx hk
      simp at hx
      rw [hx, hk]
      ((repeat' (first | exact trivial | exact rfl | apply And.intro)) <;> try decide)
theorem markTurns_spec (t : Td) (k : Int) (ha : t.queues.length + totQ t.queues ≤ 10000000) (h0 : 0 ≤ k) (h1 : k ≤ 1000000) : FSpec Try.prog 25 [.agg [.int .i64 t.quantum, .slc 0 t.queues.length, .int .i64 t.rounds], .one (.int .i64 k)] [.row true 3 encQ t.queues] (fun r p => r = .one (.int .i64 (k + totQ t.queues + 2 * t.queues.length)) ∧ p = [.row true 3 encQ (marksQ k t.queues)]) := by
  refine spec_enter tab tok Try.func25 rfl rfl rfl _ 1 Try.ntmps25 rfl (fun F ρ => ?_)
  (conv => whnf)
  (refine run 600 ?_; (conv => whnf); repeat' (first | (refine Br.mk (fun h => ?_) (fun h => ?_) <;> first | (exfalso; omega) | (exfalso; simp at h; done) | (conv => whnf)) | (refine Ob.mk (by first | omega | exact Hp.le_refl _ | (simp; omega)) ?_; (conv => whnf)) | (refine ix_nat (by omega) ?_; (conv => whnf)) | (refine ix_int (by omega) ?_; (conv => whnf)) | (refine wr_i64 (by omega) ?_; (conv => whnf)) | (refine qu_pos (by omega) ?_; (conv => whnf)) | (refine rm_pos (by omega) ?_; (conv => whnf)) | (refine pk _ rfl ?_; (conv => whnf)) | (refine And.intro (by first | rfl | omega) ?_; (conv => whnf)) | (refine nilq ?_; (conv => whnf)) | (refine nilqn ?_; (conv => whnf)) | (refine Al.mk (fun b hb => ?_); (conv => whnf)) | (refine quiet (by kernel_rfl) ?_; (conv => whnf))))
  (refine callG [some 0] ( markQueueS_spec t.queues k ha h0 h1) (by ((conv => whnf) <;> first | exact trivial | rfl | assumption | omega | (simp_all; done))) (by ((conv => whnf); repeat' (first | exact trivial | exact rfl | apply And.intro); all_goals (first | omega | (simp <;> done) | skip))) ?_; rintro _ _ ⟨rfl, rfl⟩; ((conv => whnf); repeat' (first | (refine Br.mk (fun h => ?_) (fun h => ?_) <;> first | (exfalso; omega) | (exfalso; simp at h; done) | (conv => whnf)) | (refine Ob.mk (by first | omega | exact Hp.le_refl _ | (simp; omega)) ?_; (conv => whnf)) | (refine ix_nat (by omega) ?_; (conv => whnf)) | (refine ix_int (by omega) ?_; (conv => whnf)) | (refine wr_i64 (by omega) ?_; (conv => whnf)) | (refine qu_pos (by omega) ?_; (conv => whnf)) | (refine rm_pos (by omega) ?_; (conv => whnf)) | (refine pk _ rfl ?_; (conv => whnf)) | (refine And.intro (by first | rfl | omega) ?_; (conv => whnf)) | (refine nilq ?_; (conv => whnf)) | (refine nilqn ?_; (conv => whnf)) | (refine Al.mk (fun b hb => ?_); (conv => whnf)) | (refine quiet (by kernel_rfl) ?_; (conv => whnf)))))
  (refine T_ret _ rfl ?_; (conv => whnf); refine retS _ _ [some 0] ⟨rfl, rfl⟩ ?_; (conv => whnf))
  ((repeat' (first | exact trivial | exact rfl | apply And.intro)) <;> try decide)
theorem heldQueueS_spec (a : List Qd) (k : Int) (hm : a = marksQ k a) (ha : a.length + totQ a ≤ 10000000) (h0 : 0 ≤ k) (h1 : k ≤ 1000000) : FSpec Try.prog 46 [.one (.slc 0 a.length), .one (.int .i64 k)] [.row false 3 encQ a] (fun r p => r = .one (.int .i64 (k + totQ a + 2 * a.length)) ∧ p = [.row false 3 encQ a]) := by
  refine spec_enter tab tok Try.func46 rfl rfl rfl _ 1 Try.ntmps46 rfl (fun F ρ => ?_)
  (conv => whnf)
  (refine run 600 ?_; (conv => whnf); repeat' (first | (refine Br.mk (fun h => ?_) (fun h => ?_) <;> first | (exfalso; omega) | (exfalso; simp at h; done) | (conv => whnf)) | (refine Ob.mk (by first | omega | exact Hp.le_refl _ | (simp; omega)) ?_; (conv => whnf)) | (refine ix_nat (by omega) ?_; (conv => whnf)) | (refine ix_int (by omega) ?_; (conv => whnf)) | (refine wr_i64 (by omega) ?_; (conv => whnf)) | (refine qu_pos (by omega) ?_; (conv => whnf)) | (refine rm_pos (by omega) ?_; (conv => whnf)) | (refine pk _ rfl ?_; (conv => whnf)) | (refine And.intro (by first | rfl | omega) ?_; (conv => whnf)) | (refine nilq ?_; (conv => whnf)) | (refine nilqn ?_; (conv => whnf)) | (refine Al.mk (fun b hb => ?_); (conv => whnf)) | (refine quiet (by kernel_rfl) ?_; (conv => whnf))))
  refine T_loop (fun (y : Nat × Int) => ⟨[(5, .one (.int .i64 y.1)), (0, .one (.slc 0 a.length)), (1, .one (.int .i64 y.2))], [.row false 3 encQ a]⟩)
    (fun y => y.1 ≤ a.length ∧ y.2 = k + totQ (a.take y.1) + 2 * y.1) (fun y => a.length - y.1) (0, k) [some 0] ?_ ⟨Nat.zero_le _, by simp [totQ]⟩ (fun y hy => ?_)
  · ((conv => whnf); repeat' (first | exact trivial | exact rfl | apply And.intro); all_goals (first | omega | (simp <;> done) | skip))
  · obtain ⟨i, kk⟩ := y
    obtain ⟨hi, hk⟩ := hy
    dsimp only at hi hk ⊢
    (refine run 600 ?_; (conv => whnf); repeat' (first | (refine Br.mk (fun h => ?_) (fun h => ?_) <;> first | (exfalso; omega) | (exfalso; simp at h; done) | (conv => whnf)) | (refine Ob.mk (by first | omega | exact Hp.le_refl _ | (simp; omega)) ?_; (conv => whnf)) | (refine ix_nat (by omega) ?_; (conv => whnf)) | (refine ix_int (by omega) ?_; (conv => whnf)) | (refine wr_i64 (by omega) ?_; (conv => whnf)) | (refine qu_pos (by omega) ?_; (conv => whnf)) | (refine rm_pos (by omega) ?_; (conv => whnf)) | (refine pk _ rfl ?_; (conv => whnf)) | (refine And.intro (by first | rfl | omega) ?_; (conv => whnf)) | (refine nilq ?_; (conv => whnf)) | (refine nilqn ?_; (conv => whnf)) | (refine Al.mk (fun b hb => ?_); (conv => whnf))))
    · have htot := totQ_get (by omega : i < a.length)
      have hg : a[i] = markQ kk a[i] := by
        have := congrArg (fun l => l[i]?) hm
        rw [marksQ_get k a i (by omega), List.getElem?_eq_getElem (by omega), ← hk] at this
        simpa using this
      have g1 := congrArg Qd.longs hg
      have g2 := congrArg Qd.deficit hg
      have g3 := congrArg Qd.sent hg
      dsimp only [markQ] at g1 g2 g3
      (refine opr 0 i rfl (by omega) ?_; ((conv => whnf); repeat' (first | (refine Br.mk (fun h => ?_) (fun h => ?_) <;> first | (exfalso; omega) | (exfalso; simp at h; done) | (conv => whnf)) | (refine Ob.mk (by first | omega | exact Hp.le_refl _ | (simp; omega)) ?_; (conv => whnf)) | (refine ix_nat (by omega) ?_; (conv => whnf)) | (refine ix_int (by omega) ?_; (conv => whnf)) | (refine wr_i64 (by omega) ?_; (conv => whnf)) | (refine qu_pos (by omega) ?_; (conv => whnf)) | (refine rm_pos (by omega) ?_; (conv => whnf)) | (refine pk _ rfl ?_; (conv => whnf)) | (refine And.intro (by first | rfl | omega) ?_; (conv => whnf)) | (refine nilq ?_; (conv => whnf)) | (refine nilqn ?_; (conv => whnf)) | (refine Al.mk (fun b hb => ?_); (conv => whnf)) | (refine quiet (by kernel_rfl) ?_; (conv => whnf)))))
      refine callG [some 1] (heldIntS_spec a[i].longs kk (by omega) (by omega) (by omega)) (by ((conv => whnf) <;> first | exact trivial | rfl | assumption | omega | (simp_all; done))) (by ((conv => whnf); repeat' (first | exact trivial | exact rfl | apply And.intro); all_goals (first | omega | (simp <;> done) | skip))) ?_
      rw [if_pos g1]
      rintro _ _ ⟨rfl, rfl⟩
      ((conv => whnf); repeat' (first | (refine Br.mk (fun h => ?_) (fun h => ?_) <;> first | (exfalso; omega) | (exfalso; simp at h; done) | (conv => whnf)) | (refine Ob.mk (by first | omega | exact Hp.le_refl _ | (simp; omega)) ?_; (conv => whnf)) | (refine ix_nat (by omega) ?_; (conv => whnf)) | (refine ix_int (by omega) ?_; (conv => whnf)) | (refine wr_i64 (by omega) ?_; (conv => whnf)) | (refine qu_pos (by omega) ?_; (conv => whnf)) | (refine rm_pos (by omega) ?_; (conv => whnf)) | (refine pk _ rfl ?_; (conv => whnf)) | (refine And.intro (by first | rfl | omega) ?_; (conv => whnf)) | (refine nilq ?_; (conv => whnf)) | (refine nilqn ?_; (conv => whnf)) | (refine Al.mk (fun b hb => ?_); (conv => whnf)) | (refine quiet (by kernel_rfl) ?_; (conv => whnf))))
      refine T_back (i + 1, kk + a[i].longs.length + 1 + 1) [some 0] ?_ ⟨by dsimp only; omega, ?_⟩ (by dsimp only; omega)
      · ((conv => whnf); repeat' (first | exact trivial | exact rfl | apply And.intro); all_goals (first | omega | (simp <;> done) | skip))
      · dsimp only
        rw [take_snoc (by omega), totQ_append, hk]
        simp [totQ]; omega
    · (refine T_ret _ rfl ?_; (conv => whnf); refine retS _ _ [some 0] ⟨rfl, rfl⟩ ?_; (conv => whnf))
      have e : i = a.length := by omega
      subst e
      rw [List.take_length] at hk
      rw [hk]
      ((repeat' (first | exact trivial | exact rfl | apply And.intro)) <;> try decide)
theorem heldTurns_spec (t : Td) (k : Int) (hm : t.queues = marksQ k t.queues) (ha : t.queues.length + totQ t.queues ≤ 10000000) (h0 : 0 ≤ k) (h1 : k ≤ 1000000) : FSpec Try.prog 27 [.agg [.int .i64 t.quantum, .slc 0 t.queues.length, .int .i64 t.rounds], .one (.int .i64 k)] [.row false 3 encQ t.queues] (fun r p => r = .one (.int .i64 (k + totQ t.queues + 2 * t.queues.length)) ∧ p = [.row false 3 encQ t.queues]) := by
  refine spec_enter tab tok Try.func27 rfl rfl rfl _ 1 Try.ntmps27 rfl (fun F ρ => ?_)
  (conv => whnf)
  (refine run 600 ?_; (conv => whnf); repeat' (first | (refine Br.mk (fun h => ?_) (fun h => ?_) <;> first | (exfalso; omega) | (exfalso; simp at h; done) | (conv => whnf)) | (refine Ob.mk (by first | omega | exact Hp.le_refl _ | (simp; omega)) ?_; (conv => whnf)) | (refine ix_nat (by omega) ?_; (conv => whnf)) | (refine ix_int (by omega) ?_; (conv => whnf)) | (refine wr_i64 (by omega) ?_; (conv => whnf)) | (refine qu_pos (by omega) ?_; (conv => whnf)) | (refine rm_pos (by omega) ?_; (conv => whnf)) | (refine pk _ rfl ?_; (conv => whnf)) | (refine And.intro (by first | rfl | omega) ?_; (conv => whnf)) | (refine nilq ?_; (conv => whnf)) | (refine nilqn ?_; (conv => whnf)) | (refine Al.mk (fun b hb => ?_); (conv => whnf)) | (refine quiet (by kernel_rfl) ?_; (conv => whnf))))
  (refine callG [some 0] ( heldQueueS_spec t.queues k hm ha h0 h1) (by ((conv => whnf) <;> first | exact trivial | rfl | assumption | omega | (simp_all; done))) (by ((conv => whnf); repeat' (first | exact trivial | exact rfl | apply And.intro); all_goals (first | omega | (simp <;> done) | skip))) ?_; rintro _ _ ⟨rfl, rfl⟩; ((conv => whnf); repeat' (first | (refine Br.mk (fun h => ?_) (fun h => ?_) <;> first | (exfalso; omega) | (exfalso; simp at h; done) | (conv => whnf)) | (refine Ob.mk (by first | omega | exact Hp.le_refl _ | (simp; omega)) ?_; (conv => whnf)) | (refine ix_nat (by omega) ?_; (conv => whnf)) | (refine ix_int (by omega) ?_; (conv => whnf)) | (refine wr_i64 (by omega) ?_; (conv => whnf)) | (refine qu_pos (by omega) ?_; (conv => whnf)) | (refine rm_pos (by omega) ?_; (conv => whnf)) | (refine pk _ rfl ?_; (conv => whnf)) | (refine And.intro (by first | rfl | omega) ?_; (conv => whnf)) | (refine nilq ?_; (conv => whnf)) | (refine nilqn ?_; (conv => whnf)) | (refine Al.mk (fun b hb => ?_); (conv => whnf)) | (refine quiet (by kernel_rfl) ?_; (conv => whnf)))))
  (refine T_ret _ rfl ?_; (conv => whnf); refine retS _ _ [some 0] ⟨rfl, rfl⟩ ?_; (conv => whnf))
  ((repeat' (first | exact trivial | exact rfl | apply And.intro)) <;> try decide)
end Go.Proofs.Ythdbhlpceodhlaa
