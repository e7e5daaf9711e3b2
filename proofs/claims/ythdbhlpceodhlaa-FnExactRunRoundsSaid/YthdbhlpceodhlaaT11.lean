/- Contracts of functions of this seat's program, and what is proved of them: each for every argument that its hypotheses let in. -/
import Derived.Test.YthdbhlpceodhlaaT9
set_option linter.unusedVariables false
set_option linter.unusedSimpArgs false
namespace Go.Proofs.Ythdbhlpceodhlaa
open Go Go.Proofs.Ythdbhlpceodhlaa.Sx
def runsT : Nat → Td → Nat → Td × Nat × Bool
  | 0, t, n => (t, n, true)
  | k + 1, t, n => if (nextT t).2.2 = true then runsT k (nextT t).1 (n + (nextT t).2.1.length) else (⟨0, [], 0⟩, 0, false)
def runT (t : Td) (many : Int) : Td × Nat × Bool := if GoodT t ∧ 0 ≤ many ∧ many ≤ 200 then runsT many.toNat t 0 else (⟨0, [], 0⟩, 0, false)
theorem runT_bad {t : Td} {m : Int} (h : ¬ (GoodT t ∧ 0 ≤ m ∧ m ≤ 200)) : runT t m = (⟨0, [], 0⟩, 0, false) := by simp only [runT, if_neg h]
theorem totQ_good : ∀ {a : List Qd}, (∀ q ∈ a, GoodQ q) → totQ a ≤ 40 * a.length
  | [], _ => Nat.le_refl _
  | q :: r, h => by
    have h1 := (h q (by simp)).many
    have h2 := totQ_good (a := r) (fun p hp => h p (by simp [hp]))
    simp only [totQ, List.length_cons]; omega
theorem good_small {t : Td} (h : GoodT t) : SmallT t := ⟨by have := h.n1; omega, fun q hq => by have := (h.all q hq).many; omega⟩
theorem nextT_ok {t : Td} (h : (nextT t).2.2 = true) : GoodT (nextT t).1 := by
  by_cases hg : GoodT t ∧ GoodT (roundT t)
  · rw [nextT_good hg.1 hg.2]; exact hg.2
  · rw [nextT_bad hg] at h; cases h
theorem nextT_len {t : Td} (h : GoodT t) : (nextT t).2.1.length ≤ 240 := by
  have h1 := (nextT_small t).2.2
  have h2 := totQ_good h.all
  have := h.n1
  omega
theorem specRunRounds_spec (t : Td) (many : Int) (ht : SmallT t) : FSpec Try.prog 20 [.agg [.int .i64 t.quantum, .slc 0 t.queues.length, .int .i64 t.rounds], .one (.int .i64 many)] [.row false 3 encQ t.queues] (fun r p => r = .tup [.agg [.int .i64 (runT t many).1.quantum, .slc 1 (runT t many).1.queues.length, .int .i64 (runT t many).1.rounds], .one (.int .i64 (runT t many).2.1), .one (.bool (runT t many).2.2)] ∧ p = [.row false 3 encQ t.queues, .row true 3 encQ (runT t many).1.queues]) := by
  refine spec_enter tab tok Try.func20 rfl rfl rfl _ 1 Try.ntmps20 rfl (fun F ρ => ?_)
  (conv => whnf)
  have hm := ht.many
  (refine run 600 ?_; (conv => whnf); repeat' (first | (refine Br.mk (fun h => ?_) (fun h => ?_) <;> first | (exfalso; omega) | (exfalso; simp at h; done) | (conv => whnf)) | (refine Ob.mk (by first | omega | exact Hp.le_refl _ | (simp; omega)) ?_; (conv => whnf)) | (refine ix_nat (by omega) ?_; (conv => whnf)) | (refine ix_int (by omega) ?_; (conv => whnf)) | (refine wr_i64 (by omega) ?_; (conv => whnf)) | (refine qu_pos (by omega) ?_; (conv => whnf)) | (refine rm_pos (by omega) ?_; (conv => whnf)) | (refine pk _ rfl ?_; (conv => whnf)) | (refine And.intro (by first | rfl | omega) ?_; (conv => whnf)) | (refine nilq ?_; (conv => whnf)) | (refine nilqn ?_; (conv => whnf)) | (refine Al.mk (fun b hb => ?_); (conv => whnf)) | (refine quiet (by kernel_rfl) ?_; (conv => whnf))))
  (refine callG [some 0] ( specGoodTurns_spec t ht) (by ((conv => whnf) <;> first | exact trivial | rfl | assumption | omega | (simp_all; done))) (by ((conv => whnf); repeat' (first | exact trivial | exact rfl | apply And.intro); all_goals (first | omega | (simp <;> done) | skip))) ?_; rintro _ _ ⟨rfl, rfl⟩; ((conv => whnf); repeat' (first | (refine Br.mk (fun h => ?_) (fun h => ?_) <;> first | (exfalso; omega) | (exfalso; simp at h; done) | (conv => whnf)) | (refine Ob.mk (by first | omega | exact Hp.le_refl _ | (simp; omega)) ?_; (conv => whnf)) | (refine ix_nat (by omega) ?_; (conv => whnf)) | (refine ix_int (by omega) ?_; (conv => whnf)) | (refine wr_i64 (by omega) ?_; (conv => whnf)) | (refine qu_pos (by omega) ?_; (conv => whnf)) | (refine rm_pos (by omega) ?_; (conv => whnf)) | (refine pk _ rfl ?_; (conv => whnf)) | (refine And.intro (by first | rfl | omega) ?_; (conv => whnf)) | (refine nilq ?_; (conv => whnf)) | (refine nilqn ?_; (conv => whnf)) | (refine Al.mk (fun b hb => ?_); (conv => whnf)) | (refine quiet (by kernel_rfl) ?_; (conv => whnf)))))
  · rw [runT_bad (fun hh => by simp [hh.1] at h)]
    (refine T_ret _ rfl ?_; (conv => whnf); refine retS _ _ [some 0, none] ⟨rfl, rfl⟩ ?_; (conv => whnf))
    ((repeat' (first | exact trivial | exact rfl | apply And.intro)) <;> try decide)
  · have hg : GoodT t := by simpa using h
    (refine callG [] ( l1In_spec many 0 200) (by ((conv => whnf) <;> first | exact trivial | rfl | assumption | omega | (simp_all; done))) (by ((conv => whnf); repeat' (first | exact trivial | exact rfl | apply And.intro); all_goals (first | omega | (simp <;> done) | skip))) ?_; rintro _ _ ⟨rfl, rfl⟩; ((conv => whnf); repeat' (first | (refine Br.mk (fun h => ?_) (fun h => ?_) <;> first | (exfalso; omega) | (exfalso; simp at h; done) | (conv => whnf)) | (refine Ob.mk (by first | omega | exact Hp.le_refl _ | (simp; omega)) ?_; (conv => whnf)) | (refine ix_nat (by omega) ?_; (conv => whnf)) | (refine ix_int (by omega) ?_; (conv => whnf)) | (refine wr_i64 (by omega) ?_; (conv => whnf)) | (refine qu_pos (by omega) ?_; (conv => whnf)) | (refine rm_pos (by omega) ?_; (conv => whnf)) | (refine pk _ rfl ?_; (conv => whnf)) | (refine And.intro (by first | rfl | omega) ?_; (conv => whnf)) | (refine nilq ?_; (conv => whnf)) | (refine nilqn ?_; (conv => whnf)) | (refine Al.mk (fun b hb => ?_); (conv => whnf)) | (refine quiet (by kernel_rfl) ?_; (conv => whnf)))))
    · rw [runT_bad (fun hh => by simp at h; omega)]
      (refine T_ret _ rfl ?_; (conv => whnf); refine retS _ _ [some 0, none] ⟨rfl, rfl⟩ ?_; (conv => whnf))
      ((repeat' (first | exact trivial | exact rfl | apply And.intro)) <;> try decide)
    · have hmany : 0 ≤ many ∧ many ≤ 200 := by simpa using h
      obtain ⟨m, rfl⟩ : ∃ m : Nat, many = m := ⟨many.toNat, by omega⟩
      have hrun : runT t m = runsT m t 0 := by simp only [runT, if_pos (And.intro hg hmany)]; rfl
      (refine callG [some 0] ( l14Own_spec t ht) (by ((conv => whnf) <;> first | exact trivial | rfl | assumption | omega | (simp_all; done))) (by ((conv => whnf); repeat' (first | exact trivial | exact rfl | apply And.intro); all_goals (first | omega | (simp <;> done) | skip))) ?_; rintro _ _ ⟨rfl, rfl⟩; ((conv => whnf); repeat' (first | (refine Br.mk (fun h => ?_) (fun h => ?_) <;> first | (exfalso; omega) | (exfalso; simp at h; done) | (conv => whnf)) | (refine Ob.mk (by first | omega | exact Hp.le_refl _ | (simp; omega)) ?_; (conv => whnf)) | (refine ix_nat (by omega) ?_; (conv => whnf)) | (refine ix_int (by omega) ?_; (conv => whnf)) | (refine wr_i64 (by omega) ?_; (conv => whnf)) | (refine qu_pos (by omega) ?_; (conv => whnf)) | (refine rm_pos (by omega) ?_; (conv => whnf)) | (refine pk _ rfl ?_; (conv => whnf)) | (refine And.intro (by first | rfl | omega) ?_; (conv => whnf)) | (refine nilq ?_; (conv => whnf)) | (refine nilqn ?_; (conv => whnf)) | (refine Al.mk (fun b hb => ?_); (conv => whnf)) | (refine quiet (by kernel_rfl) ?_; (conv => whnf)))))
      refine T_loop (fun (y : Nat × Td × Nat) => ⟨[(7, .one (.int .i64 y.2.2)), (4, .one (.ptr 2 0 0 0)), (2, .one (.ptr 1 0 0 0)), (1, .one (.int .i64 y.1))], [.row false 3 encQ t.queues, .box [.int .i64 y.2.1.quantum, .slc 3 y.2.1.queues.length, .int .i64 y.2.1.rounds], .box [.int .i64 0, .nil, .int .i64 0], .row true 3 encQ y.2.1.queues]⟩)
        (fun y => y.1 ≤ 200 ∧ GoodT y.2.1 ∧ y.2.2 ≤ 240 * (200 - y.1) ∧ runT t m = runsT y.1 y.2.1 y.2.2) (fun y => y.1) (m, t, 0) [some 0, some 1, some 2, some 3] ?_ ⟨by dsimp only; omega, hg, Nat.zero_le _, hrun⟩ (fun y hy => ?_)
      · ((conv => whnf); repeat' (first | exact trivial | exact rfl | apply And.intro); all_goals (first | omega | (simp <;> done) | skip))
      · obtain ⟨k, u, n⟩ := y
        obtain ⟨hk, hu, hn, hr⟩ := hy
        dsimp only at hk hu hn hr ⊢
        (refine run 600 ?_; (conv => whnf); repeat' (first | (refine Br.mk (fun h => ?_) (fun h => ?_) <;> first | (exfalso; omega) | (exfalso; simp at h; done) | (conv => whnf)) | (refine Ob.mk (by first | omega | exact Hp.le_refl _ | (simp; omega)) ?_; (conv => whnf)) | (refine ix_nat (by omega) ?_; (conv => whnf)) | (refine ix_int (by omega) ?_; (conv => whnf)) | (refine wr_i64 (by omega) ?_; (conv => whnf)) | (refine qu_pos (by omega) ?_; (conv => whnf)) | (refine rm_pos (by omega) ?_; (conv => whnf)) | (refine pk _ rfl ?_; (conv => whnf)) | (refine And.intro (by first | rfl | omega) ?_; (conv => whnf)) | (refine nilq ?_; (conv => whnf)) | (refine nilqn ?_; (conv => whnf)) | (refine Al.mk (fun b hb => ?_); (conv => whnf)) | (refine quiet (by kernel_rfl) ?_; (conv => whnf))))
        · obtain ⟨k, rfl⟩ : ∃ j, k = j + 1 := ⟨k - 1, by omega⟩
          have hlen := nextT_len hu
          (refine callG [some 3] ( specNextRound_spec u (good_small hu)) (by ((conv => whnf) <;> first | exact trivial | rfl | assumption | omega | (simp_all; done))) (by ((conv => whnf); repeat' (first | exact trivial | exact rfl | apply And.intro); all_goals (first | omega | (simp <;> done) | skip))) ?_; rintro _ _ ⟨rfl, rfl⟩; ((conv => whnf); repeat' (first | (refine Br.mk (fun h => ?_) (fun h => ?_) <;> first | (exfalso; omega) | (exfalso; simp at h; done) | (conv => whnf)) | (refine Ob.mk (by first | omega | exact Hp.le_refl _ | (simp; omega)) ?_; (conv => whnf)) | (refine ix_nat (by omega) ?_; (conv => whnf)) | (refine ix_int (by omega) ?_; (conv => whnf)) | (refine wr_i64 (by omega) ?_; (conv => whnf)) | (refine qu_pos (by omega) ?_; (conv => whnf)) | (refine rm_pos (by omega) ?_; (conv => whnf)) | (refine pk _ rfl ?_; (conv => whnf)) | (refine And.intro (by first | rfl | omega) ?_; (conv => whnf)) | (refine nilq ?_; (conv => whnf)) | (refine nilqn ?_; (conv => whnf)) | (refine Al.mk (fun b hb => ?_); (conv => whnf)) | (refine quiet (by kernel_rfl) ?_; (conv => whnf)))))
          · have hok : ¬ (nextT u).2.2 = true := by simpa using h
            rw [hr]
            simp only [runsT, hok]
            (refine T_ret _ rfl ?_; (conv => whnf); refine retS _ _ [some 0, none] ⟨rfl, rfl⟩ ?_; (conv => whnf))
            ((repeat' (first | exact trivial | exact rfl | apply And.intro)) <;> try decide)
          · have hok : (nextT u).2.2 = true := by simpa using h
            refine T_back (k, (nextT u).1, n + (nextT u).2.1.length) [some 0, some 1, some 2, some 4] ?_ ⟨by dsimp only; omega, nextT_ok hok, by dsimp only; omega, by rw [hr]; simp only [runsT, hok, if_true]⟩ (by dsimp only; omega)
            ((conv => whnf); repeat' (first | exact trivial | exact rfl | apply And.intro); all_goals (first | omega | (simp <;> done) | skip))
        · have hk0 : k = 0 := by omega
          subst hk0
          rw [hr]
          (refine T_ret _ rfl ?_; (conv => whnf); refine retS _ _ [some 0, some 3] ⟨rfl, rfl⟩ ?_; (conv => whnf))
          ((repeat' (first | exact trivial | exact rfl | apply And.intro)) <;> try decide)
theorem implRunRounds_spec (t : Td) (many : Int) (ht : SmallT t) : FSpec Try.prog 19 [.agg [.int .i64 t.quantum, .slc 0 t.queues.length, .int .i64 t.rounds], .one (.int .i64 many)] [.row false 3 encQ t.queues] (fun r p => r = .tup [.agg [.int .i64 (runT t many).1.quantum, .slc 1 (runT t many).1.queues.length, .int .i64 (runT t many).1.rounds], .one (.int .i64 (runT t many).2.1), .one (.bool (runT t many).2.2)] ∧ p = [.row false 3 encQ t.queues, .row true 3 encQ (runT t many).1.queues]) := by
  refine spec_enter tab tok Try.func19 rfl rfl rfl _ 1 Try.ntmps19 rfl (fun F ρ => ?_)
  (conv => whnf)
  have hm := ht.many
  (refine run 600 ?_; (conv => whnf); repeat' (first | (refine Br.mk (fun h => ?_) (fun h => ?_) <;> first | (exfalso; omega) | (exfalso; simp at h; done) | (conv => whnf)) | (refine Ob.mk (by first | omega | exact Hp.le_refl _ | (simp; omega)) ?_; (conv => whnf)) | (refine ix_nat (by omega) ?_; (conv => whnf)) | (refine ix_int (by omega) ?_; (conv => whnf)) | (refine wr_i64 (by omega) ?_; (conv => whnf)) | (refine qu_pos (by omega) ?_; (conv => whnf)) | (refine rm_pos (by omega) ?_; (conv => whnf)) | (refine pk _ rfl ?_; (conv => whnf)) | (refine And.intro (by first | rfl | omega) ?_; (conv => whnf)) | (refine nilq ?_; (conv => whnf)) | (refine nilqn ?_; (conv => whnf)) | (refine Al.mk (fun b hb => ?_); (conv => whnf)) | (refine quiet (by kernel_rfl) ?_; (conv => whnf))))
  (refine callG [some 0] ( implGoodTurns_spec t ht) (by ((conv => whnf) <;> first | exact trivial | rfl | assumption | omega | (simp_all; done))) (by ((conv => whnf); repeat' (first | exact trivial | exact rfl | apply And.intro); all_goals (first | omega | (simp <;> done) | skip))) ?_; rintro _ _ ⟨rfl, rfl⟩; ((conv => whnf); repeat' (first | (refine Br.mk (fun h => ?_) (fun h => ?_) <;> first | (exfalso; omega) | (exfalso; simp at h; done) | (conv => whnf)) | (refine Ob.mk (by first | omega | exact Hp.le_refl _ | (simp; omega)) ?_; (conv => whnf)) | (refine ix_nat (by omega) ?_; (conv => whnf)) | (refine ix_int (by omega) ?_; (conv => whnf)) | (refine wr_i64 (by omega) ?_; (conv => whnf)) | (refine qu_pos (by omega) ?_; (conv => whnf)) | (refine rm_pos (by omega) ?_; (conv => whnf)) | (refine pk _ rfl ?_; (conv => whnf)) | (refine And.intro (by first | rfl | omega) ?_; (conv => whnf)) | (refine nilq ?_; (conv => whnf)) | (refine nilqn ?_; (conv => whnf)) | (refine Al.mk (fun b hb => ?_); (conv => whnf)) | (refine quiet (by kernel_rfl) ?_; (conv => whnf)))))
  · rw [runT_bad (fun hh => by simp [hh.1] at h)]
    (refine T_ret _ rfl ?_; (conv => whnf); refine retS _ _ [some 0, none] ⟨rfl, rfl⟩ ?_; (conv => whnf))
    ((repeat' (first | exact trivial | exact rfl | apply And.intro)) <;> try decide)
  · have hg : GoodT t := by simpa using h
    (refine callG [] ( within_spec many 0 200) (by ((conv => whnf) <;> first | exact trivial | rfl | assumption | omega | (simp_all; done))) (by ((conv => whnf); repeat' (first | exact trivial | exact rfl | apply And.intro); all_goals (first | omega | (simp <;> done) | skip))) ?_; rintro _ _ ⟨rfl, rfl⟩; ((conv => whnf); repeat' (first | (refine Br.mk (fun h => ?_) (fun h => ?_) <;> first | (exfalso; omega) | (exfalso; simp at h; done) | (conv => whnf)) | (refine Ob.mk (by first | omega | exact Hp.le_refl _ | (simp; omega)) ?_; (conv => whnf)) | (refine ix_nat (by omega) ?_; (conv => whnf)) | (refine ix_int (by omega) ?_; (conv => whnf)) | (refine wr_i64 (by omega) ?_; (conv => whnf)) | (refine qu_pos (by omega) ?_; (conv => whnf)) | (refine rm_pos (by omega) ?_; (conv => whnf)) | (refine pk _ rfl ?_; (conv => whnf)) | (refine And.intro (by first | rfl | omega) ?_; (conv => whnf)) | (refine nilq ?_; (conv => whnf)) | (refine nilqn ?_; (conv => whnf)) | (refine Al.mk (fun b hb => ?_); (conv => whnf)) | (refine quiet (by kernel_rfl) ?_; (conv => whnf)))))
    · rw [runT_bad (fun hh => by simp at h; omega)]
      (refine T_ret _ rfl ?_; (conv => whnf); refine retS _ _ [some 0, none] ⟨rfl, rfl⟩ ?_; (conv => whnf))
      ((repeat' (first | exact trivial | exact rfl | apply And.intro)) <;> try decide)
    · have hmany : 0 ≤ many ∧ many ≤ 200 := by simpa using h
      obtain ⟨m, rfl⟩ : ∃ m : Nat, many = m := ⟨many.toNat, by omega⟩
      have hrun : runT t m = runsT m t 0 := by simp only [runT, if_pos (And.intro hg hmany)]; rfl
      (refine callG [some 0] ( copied_spec t ht) (by ((conv => whnf) <;> first | exact trivial | rfl | assumption | omega | (simp_all; done))) (by ((conv => whnf); repeat' (first | exact trivial | exact rfl | apply And.intro); all_goals (first | omega | (simp <;> done) | skip))) ?_; rintro _ _ ⟨rfl, rfl⟩; ((conv => whnf); repeat' (first | (refine Br.mk (fun h => ?_) (fun h => ?_) <;> first | (exfalso; omega) | (exfalso; simp at h; done) | (conv => whnf)) | (refine Ob.mk (by first | omega | exact Hp.le_refl _ | (simp; omega)) ?_; (conv => whnf)) | (refine ix_nat (by omega) ?_; (conv => whnf)) | (refine ix_int (by omega) ?_; (conv => whnf)) | (refine wr_i64 (by omega) ?_; (conv => whnf)) | (refine qu_pos (by omega) ?_; (conv => whnf)) | (refine rm_pos (by omega) ?_; (conv => whnf)) | (refine pk _ rfl ?_; (conv => whnf)) | (refine And.intro (by first | rfl | omega) ?_; (conv => whnf)) | (refine nilq ?_; (conv => whnf)) | (refine nilqn ?_; (conv => whnf)) | (refine Al.mk (fun b hb => ?_); (conv => whnf)) | (refine quiet (by kernel_rfl) ?_; (conv => whnf)))))
      refine T_loop (fun (y : Nat × Td × Nat) => ⟨[(24, .one (.int .i64 y.1)), (23, .one (.int .i64 m)), (8, .one (.int .i64 y.2.2)), (7, .one (.ptr 4 0 0 0)), (4, .one (.ptr 2 0 0 0))], [.row false 3 encQ t.queues, .box [.int .i64 t.quantum, .slc 0 t.queues.length, .int .i64 t.rounds], .box [.int .i64 0, .nil, .int .i64 0], .row true 3 encQ y.2.1.queues, .box [.int .i64 y.2.1.quantum, .slc 3 y.2.1.queues.length, .int .i64 y.2.1.rounds]]⟩)
        (fun y => y.1 ≤ m ∧ GoodT y.2.1 ∧ y.2.2 ≤ 240 * y.1 ∧ runT t m = runsT (m - y.1) y.2.1 y.2.2) (fun y => m - y.1) (0, t, 0) [some 0, some 1, some 2, some 3, some 4] ?_ ⟨Nat.zero_le _, hg, Nat.zero_le _, hrun⟩ (fun y hy => ?_)
      · ((conv => whnf); repeat' (first | exact trivial | exact rfl | apply And.intro); all_goals (first | omega | (simp <;> done) | skip))
      · obtain ⟨i, u, n⟩ := y
        obtain ⟨hk, hu, hn, hr⟩ := hy
        dsimp only at hk hu hn hr ⊢
        (refine run 600 ?_; (conv => whnf); repeat' (first | (refine Br.mk (fun h => ?_) (fun h => ?_) <;> first | (exfalso; omega) | (exfalso; simp at h; done) | (conv => whnf)) | (refine Ob.mk (by first | omega | exact Hp.le_refl _ | (simp; omega)) ?_; (conv => whnf)) | (refine ix_nat (by omega) ?_; (conv => whnf)) | (refine ix_int (by omega) ?_; (conv => whnf)) | (refine wr_i64 (by omega) ?_; (conv => whnf)) | (refine qu_pos (by omega) ?_; (conv => whnf)) | (refine rm_pos (by omega) ?_; (conv => whnf)) | (refine pk _ rfl ?_; (conv => whnf)) | (refine And.intro (by first | rfl | omega) ?_; (conv => whnf)) | (refine nilq ?_; (conv => whnf)) | (refine nilqn ?_; (conv => whnf)) | (refine Al.mk (fun b hb => ?_); (conv => whnf)) | (refine quiet (by kernel_rfl) ?_; (conv => whnf))))
        · obtain ⟨k, hmk⟩ : ∃ j, m - i = j + 1 := ⟨m - i - 1, by omega⟩
          have hlen := nextT_len hu
          (refine callG [some 3] ( implNextRound_spec u (good_small hu)) (by ((conv => whnf) <;> first | exact trivial | rfl | assumption | omega | (simp_all; done))) (by ((conv => whnf); repeat' (first | exact trivial | exact rfl | apply And.intro); all_goals (first | omega | (simp <;> done) | skip))) ?_; rintro _ _ ⟨rfl, rfl⟩; ((conv => whnf); repeat' (first | (refine Br.mk (fun h => ?_) (fun h => ?_) <;> first | (exfalso; omega) | (exfalso; simp at h; done) | (conv => whnf)) | (refine Ob.mk (by first | omega | exact Hp.le_refl _ | (simp; omega)) ?_; (conv => whnf)) | (refine ix_nat (by omega) ?_; (conv => whnf)) | (refine ix_int (by omega) ?_; (conv => whnf)) | (refine wr_i64 (by omega) ?_; (conv => whnf)) | (refine qu_pos (by omega) ?_; (conv => whnf)) | (refine rm_pos (by omega) ?_; (conv => whnf)) | (refine pk _ rfl ?_; (conv => whnf)) | (refine And.intro (by first | rfl | omega) ?_; (conv => whnf)) | (refine nilq ?_; (conv => whnf)) | (refine nilqn ?_; (conv => whnf)) | (refine Al.mk (fun b hb => ?_); (conv => whnf)) | (refine quiet (by kernel_rfl) ?_; (conv => whnf)))))
          · have hok : ¬ (nextT u).2.2 = true := by simpa using h
            rw [hr, hmk]
            simp only [runsT, hok]
            (refine T_ret _ rfl ?_; (conv => whnf); refine retS _ _ [some 0, none] ⟨rfl, rfl⟩ ?_; (conv => whnf))
            ((repeat' (first | exact trivial | exact rfl | apply And.intro)) <;> try decide)
          · have hok : (nextT u).2.2 = true := by simpa using h
            have hmi : m - (i + 1) = k := by omega
            refine T_back (i + 1, (nextT u).1, n + (nextT u).2.1.length) [some 0, some 1, some 2, some 5, some 4] ?_ ⟨by dsimp only; omega, nextT_ok hok, by dsimp only; omega, by dsimp only; rw [hr, hmk, hmi]; simp only [runsT, hok, if_true]⟩ (by dsimp only; omega)
            ((conv => whnf); repeat' (first | exact trivial | exact rfl | apply And.intro); all_goals (first | omega | (simp <;> done) | skip))
        · have hk0 : m - i = 0 := by omega
          rw [hk0] at hr
          rw [hr]
          (refine T_ret _ rfl ?_; (conv => whnf); refine retS _ _ [some 0, some 3] ⟨rfl, rfl⟩ ?_; (conv => whnf))
          ((repeat' (first | exact trivial | exact rfl | apply And.intro)) <;> try decide)
end Go.Proofs.Ythdbhlpceodhlaa
