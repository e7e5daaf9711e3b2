/- Contracts of functions of this seat's program, and what is proved of them: each for every argument that its hypotheses let in. -/
import Derived.Test.YthdbhlpceodhlaaC3
set_option linter.unusedVariables false
set_option linter.unusedSimpArgs false
namespace Go.Proofs.Ythdbhlpceodhlaa
open Go Go.Proofs.Ythdbhlpceodhlaa.Sx
theorem sameInts_spec (a b : List Int) (ha : a.length ≤ 100000000) : FSpec Try.prog 10 [.one (.slc 0 a.length), .one (.slc 1 b.length)] [.row false 1 encInt a, .row false 1 encInt b] (fun r p => r = .one (.bool (decide (a = b))) ∧ p = [.row false 1 encInt a, .row false 1 encInt b]) := by
  refine spec_enter tab tok Try.func10 rfl rfl rfl _ 2 Try.ntmps10 rfl (fun F ρ => ?_)
  (conv => whnf)
  (refine run 600 ?_; (conv => whnf); repeat' (first | (refine Br.mk (fun h => ?_) (fun h => ?_) <;> first | (exfalso; omega) | (exfalso; simp at h; done) | (conv => whnf)) | (refine Ob.mk (by first | omega | exact Hp.le_refl _ | (simp; omega)) ?_; (conv => whnf)) | (refine ix_0 (by omega) ?_; (conv => whnf)) | (refine ix_1 (by omega) ?_; (conv => whnf)) | (refine ix_2 (by omega) ?_; (conv => whnf)) | (refine ix_nat (by omega) ?_; (conv => whnf)) | (refine ix_int (by omega) ?_; (conv => whnf)) | (refine wr_i64 (by omega) ?_; (conv => whnf)) | (refine qu_pos (by omega) ?_; (conv => whnf)) | (refine rm_pos (by omega) ?_; (conv => whnf)) | (refine pk _ rfl ?_; (conv => whnf)) | (refine And.intro (by first | rfl | omega) ?_; (conv => whnf)) | (refine nilq ?_; (conv => whnf)) | (refine nilqn ?_; (conv => whnf)) | (refine Al.mk (fun b hb => ?_); (conv => whnf)) | (refine An.mk (by first | decide | omega | (refine ⟨by decide, by omega, by omega⟩)) (fun z hz => ?_); (conv => whnf)) | (refine wr_any ?_; (conv => whnf)) | (refine quiet (by kernel_rfl) ?_; (conv => whnf))))
  · (refine T_ret _ rfl ?_; (conv => whnf); refine retS _ _ [some 0, some 1] ⟨rfl, rfl⟩ ?_; (conv => whnf))
    refine ⟨?_, rfl, rfl, rfl, rfl, trivial⟩
    have : a ≠ b := fun e => h (by rw [e])
    simp [this]
  · have hl : a.length = b.length := by omega
    refine T_loop (fun i : Nat => ⟨[(13, .one (.int .i64 i)), (12, .one (.int .i64 a.length)), (0, .one (.slc 0 a.length)), (1, .one (.slc 1 b.length))], [.row false 1 encInt a, .row false 1 encInt b]⟩)
      (fun i => i ≤ a.length ∧ a.take i = b.take i) (fun i => a.length - i) 0 [some 0, some 1] ?_ ⟨Nat.zero_le _, by simp⟩ (fun i hi => ?_)
    · ((conv => whnf); repeat' (first | exact trivial | exact rfl | apply And.intro); all_goals (first | omega | (simp <;> done) | skip))
    · obtain ⟨hi, he⟩ := hi
      (refine run 600 ?_; (conv => whnf); repeat' (first | (refine Br.mk (fun h => ?_) (fun h => ?_) <;> first | (exfalso; omega) | (exfalso; simp at h; done) | (conv => whnf)) | (refine Ob.mk (by first | omega | exact Hp.le_refl _ | (simp; omega)) ?_; (conv => whnf)) | (refine ix_0 (by omega) ?_; (conv => whnf)) | (refine ix_1 (by omega) ?_; (conv => whnf)) | (refine ix_2 (by omega) ?_; (conv => whnf)) | (refine ix_nat (by omega) ?_; (conv => whnf)) | (refine ix_int (by omega) ?_; (conv => whnf)) | (refine wr_i64 (by omega) ?_; (conv => whnf)) | (refine qu_pos (by omega) ?_; (conv => whnf)) | (refine rm_pos (by omega) ?_; (conv => whnf)) | (refine pk _ rfl ?_; (conv => whnf)) | (refine And.intro (by first | rfl | omega) ?_; (conv => whnf)) | (refine nilq ?_; (conv => whnf)) | (refine nilqn ?_; (conv => whnf)) | (refine Al.mk (fun b hb => ?_); (conv => whnf)) | (refine An.mk (by first | decide | omega | (refine ⟨by decide, by omega, by omega⟩)) (fun z hz => ?_); (conv => whnf)) | (refine wr_any ?_; (conv => whnf)) | (refine quiet (by kernel_rfl) ?_; (conv => whnf))))
      · (refine T_ret _ rfl ?_; (conv => whnf); refine retS _ _ [some 0, some 1] ⟨rfl, rfl⟩ ?_; (conv => whnf))
        refine ⟨?_, rfl, rfl, rfl, rfl, trivial⟩
        have : a ≠ b := fun e => h (by subst e; rfl)
        simp [this]
      · refine T_back (i + 1) [some 0, some 1] ?_ ⟨by omega, ?_⟩ (by omega)
        · ((conv => whnf); repeat' (first | exact trivial | exact rfl | apply And.intro); all_goals (first | omega | (simp <;> done) | skip))
        · rw [take_snoc (l := a) (by omega), take_snoc (l := b) (i := i) (by omega), he]
          simp only [Decidable.not_not] at h
          rw [h]
      · (refine T_ret _ rfl ?_; (conv => whnf); refine retS _ _ [some 0, some 1] ⟨rfl, rfl⟩ ?_; (conv => whnf))
        refine ⟨?_, rfl, rfl, rfl, rfl, trivial⟩
        rw [List.take_of_length_le (by omega), List.take_of_length_le (by omega)] at he
        simp [he]
theorem td_eq {a b : Td} : a = b ↔ a.quantum = b.quantum ∧ a.rounds = b.rounds ∧ a.queues = b.queues := by
  cases a; cases b; simp only [Td.mk.injEq]; exact ⟨fun ⟨a, b, c⟩ => ⟨a, c, b⟩, fun ⟨a, b, c⟩ => ⟨a, c, b⟩⟩
theorem qd_eq {a b : Qd} : a = b ↔ a.deficit = b.deficit ∧ a.sent = b.sent ∧ a.longs = b.longs := by
  cases a; cases b; simp only [Qd.mk.injEq]; exact ⟨fun ⟨a, b, c⟩ => ⟨b, c, a⟩, fun ⟨a, b, c⟩ => ⟨c, a, b⟩⟩
theorem sameTurns_spec (a b : Td) (ha : a.queues.length ≤ 100000000) (hb : ∀ q ∈ a.queues, q.longs.length ≤ 100000000) : FSpec Try.prog 11 [.agg [.int .i64 a.quantum, .slc 0 a.queues.length, .int .i64 a.rounds], .agg [.int .i64 b.quantum, .slc 1 b.queues.length, .int .i64 b.rounds]] [.row false 3 encQ a.queues, .row false 3 encQ b.queues] (fun r p => r = .one (.bool (decide (a = b))) ∧ p = [.row false 3 encQ a.queues, .row false 3 encQ b.queues]) := by
  refine spec_enter tab tok Try.func11 rfl rfl rfl _ 2 Try.ntmps11 rfl (fun F ρ => ?_)
  (conv => whnf)
  (refine run 600 ?_; (conv => whnf); repeat' (first | (refine Br.mk (fun h => ?_) (fun h => ?_) <;> first | (exfalso; omega) | (exfalso; simp at h; done) | (conv => whnf)) | (refine Ob.mk (by first | omega | exact Hp.le_refl _ | (simp; omega)) ?_; (conv => whnf)) | (refine ix_0 (by omega) ?_; (conv => whnf)) | (refine ix_1 (by omega) ?_; (conv => whnf)) | (refine ix_2 (by omega) ?_; (conv => whnf)) | (refine ix_nat (by omega) ?_; (conv => whnf)) | (refine ix_int (by omega) ?_; (conv => whnf)) | (refine wr_i64 (by omega) ?_; (conv => whnf)) | (refine qu_pos (by omega) ?_; (conv => whnf)) | (refine rm_pos (by omega) ?_; (conv => whnf)) | (refine pk _ rfl ?_; (conv => whnf)) | (refine And.intro (by first | rfl | omega) ?_; (conv => whnf)) | (refine nilq ?_; (conv => whnf)) | (refine nilqn ?_; (conv => whnf)) | (refine Al.mk (fun b hb => ?_); (conv => whnf)) | (refine An.mk (by first | decide | omega | (refine ⟨by decide, by omega, by omega⟩)) (fun z hz => ?_); (conv => whnf)) | (refine wr_any ?_; (conv => whnf)) | (refine quiet (by kernel_rfl) ?_; (conv => whnf))))
  · (refine T_ret _ rfl ?_; (conv => whnf); refine retS _ _ [some 0, some 1] ⟨rfl, rfl⟩ ?_; (conv => whnf))
    ((repeat' (first | exact trivial | exact rfl | apply And.intro)) <;> try decide)
    have : a ≠ b := fun e => by rw [e] at h; exact h rfl
    simp [this]
  · (refine T_ret _ rfl ?_; (conv => whnf); refine retS _ _ [some 0, some 1] ⟨rfl, rfl⟩ ?_; (conv => whnf))
    ((repeat' (first | exact trivial | exact rfl | apply And.intro)) <;> try decide)
    have : a ≠ b := fun e => by rw [e] at h; exact h rfl
    simp [this]
  · (refine T_ret _ rfl ?_; (conv => whnf); refine retS _ _ [some 0, some 1] ⟨rfl, rfl⟩ ?_; (conv => whnf))
    ((repeat' (first | exact trivial | exact rfl | apply And.intro)) <;> try decide)
    have : a ≠ b := fun e => by rw [e] at h; exact h rfl
    simp [this]
  · have hq : a.quantum = b.quantum := by omega
    have hr : a.rounds = b.rounds := by omega
    have hl : a.queues.length = b.queues.length := by omega
    refine T_loop (fun i : Nat => ⟨[(30, .one (.int .i64 i)), (29, .one (.int .i64 a.queues.length)), (2, .one (.ptr 2 0 0 0)), (3, .one (.ptr 3 0 0 0))], [.row false 3 encQ a.queues, .row false 3 encQ b.queues, .box [.int .i64 a.quantum, .slc 0 a.queues.length, .int .i64 a.rounds], .box [.int .i64 b.quantum, .slc 1 b.queues.length, .int .i64 b.rounds]]⟩)
      (fun i => i ≤ a.queues.length ∧ a.queues.take i = b.queues.take i) (fun i => a.queues.length - i) 0 [some 0, some 1, some 2, some 3] ?_ ⟨Nat.zero_le _, by simp⟩ (fun i hi => ?_)
    · ((conv => whnf); repeat' (first | exact trivial | exact rfl | apply And.intro); all_goals (first | omega | (simp <;> done) | skip))
    · obtain ⟨hi, he⟩ := hi
      (refine run 600 ?_; (conv => whnf); repeat' (first | (refine Br.mk (fun h => ?_) (fun h => ?_) <;> first | (exfalso; omega) | (exfalso; simp at h; done) | (conv => whnf)) | (refine Ob.mk (by first | omega | exact Hp.le_refl _ | (simp; omega)) ?_; (conv => whnf)) | (refine ix_0 (by omega) ?_; (conv => whnf)) | (refine ix_1 (by omega) ?_; (conv => whnf)) | (refine ix_2 (by omega) ?_; (conv => whnf)) | (refine ix_nat (by omega) ?_; (conv => whnf)) | (refine ix_int (by omega) ?_; (conv => whnf)) | (refine wr_i64 (by omega) ?_; (conv => whnf)) | (refine qu_pos (by omega) ?_; (conv => whnf)) | (refine rm_pos (by omega) ?_; (conv => whnf)) | (refine pk _ rfl ?_; (conv => whnf)) | (refine And.intro (by first | rfl | omega) ?_; (conv => whnf)) | (refine nilq ?_; (conv => whnf)) | (refine nilqn ?_; (conv => whnf)) | (refine Al.mk (fun b hb => ?_); (conv => whnf)) | (refine An.mk (by first | decide | omega | (refine ⟨by decide, by omega, by omega⟩)) (fun z hz => ?_); (conv => whnf)) | (refine wr_any ?_; (conv => whnf))))
      · (refine opr 0 i rfl (by omega) ?_; ((conv => whnf); repeat' (first | (refine Br.mk (fun h => ?_) (fun h => ?_) <;> first | (exfalso; omega) | (exfalso; simp at h; done) | (conv => whnf)) | (refine Ob.mk (by first | omega | exact Hp.le_refl _ | (simp; omega)) ?_; (conv => whnf)) | (refine ix_0 (by omega) ?_; (conv => whnf)) | (refine ix_1 (by omega) ?_; (conv => whnf)) | (refine ix_2 (by omega) ?_; (conv => whnf)) | (refine ix_nat (by omega) ?_; (conv => whnf)) | (refine ix_int (by omega) ?_; (conv => whnf)) | (refine wr_i64 (by omega) ?_; (conv => whnf)) | (refine qu_pos (by omega) ?_; (conv => whnf)) | (refine rm_pos (by omega) ?_; (conv => whnf)) | (refine pk _ rfl ?_; (conv => whnf)) | (refine And.intro (by first | rfl | omega) ?_; (conv => whnf)) | (refine nilq ?_; (conv => whnf)) | (refine nilqn ?_; (conv => whnf)) | (refine Al.mk (fun b hb => ?_); (conv => whnf)) | (refine An.mk (by first | decide | omega | (refine ⟨by decide, by omega, by omega⟩)) (fun z hz => ?_); (conv => whnf)) | (refine wr_any ?_; (conv => whnf)))))
        (refine opr 1 i rfl (by omega) ?_; ((conv => whnf); repeat' (first | (refine Br.mk (fun h => ?_) (fun h => ?_) <;> first | (exfalso; omega) | (exfalso; simp at h; done) | (conv => whnf)) | (refine Ob.mk (by first | omega | exact Hp.le_refl _ | (simp; omega)) ?_; (conv => whnf)) | (refine ix_0 (by omega) ?_; (conv => whnf)) | (refine ix_1 (by omega) ?_; (conv => whnf)) | (refine ix_2 (by omega) ?_; (conv => whnf)) | (refine ix_nat (by omega) ?_; (conv => whnf)) | (refine ix_int (by omega) ?_; (conv => whnf)) | (refine wr_i64 (by omega) ?_; (conv => whnf)) | (refine qu_pos (by omega) ?_; (conv => whnf)) | (refine rm_pos (by omega) ?_; (conv => whnf)) | (refine pk _ rfl ?_; (conv => whnf)) | (refine And.intro (by first | rfl | omega) ?_; (conv => whnf)) | (refine nilq ?_; (conv => whnf)) | (refine nilqn ?_; (conv => whnf)) | (refine Al.mk (fun b hb => ?_); (conv => whnf)) | (refine An.mk (by first | decide | omega | (refine ⟨by decide, by omega, by omega⟩)) (fun z hz => ?_); (conv => whnf)) | (refine wr_any ?_; (conv => whnf)))))
        have hne : a.queues[i] ≠ b.queues[i] → a ≠ b := fun hq e => hq (by subst e; rfl)
        (refine quiet (by kernel_rfl) ?_; ((conv => whnf); repeat' (first | (refine Br.mk (fun h => ?_) (fun h => ?_) <;> first | (exfalso; omega) | (exfalso; simp at h; done) | (conv => whnf)) | (refine Ob.mk (by first | omega | exact Hp.le_refl _ | (simp; omega)) ?_; (conv => whnf)) | (refine ix_0 (by omega) ?_; (conv => whnf)) | (refine ix_1 (by omega) ?_; (conv => whnf)) | (refine ix_2 (by omega) ?_; (conv => whnf)) | (refine ix_nat (by omega) ?_; (conv => whnf)) | (refine ix_int (by omega) ?_; (conv => whnf)) | (refine wr_i64 (by omega) ?_; (conv => whnf)) | (refine qu_pos (by omega) ?_; (conv => whnf)) | (refine rm_pos (by omega) ?_; (conv => whnf)) | (refine pk _ rfl ?_; (conv => whnf)) | (refine And.intro (by first | rfl | omega) ?_; (conv => whnf)) | (refine nilq ?_; (conv => whnf)) | (refine nilqn ?_; (conv => whnf)) | (refine Al.mk (fun b hb => ?_); (conv => whnf)) | (refine An.mk (by first | decide | omega | (refine ⟨by decide, by omega, by omega⟩)) (fun z hz => ?_); (conv => whnf)) | (refine wr_any ?_; (conv => whnf)))))
        · ((conv => whnf); repeat' (first | (refine Br.mk (fun h => ?_) (fun h => ?_) <;> first | (exfalso; omega) | (exfalso; simp at h; done) | (conv => whnf)) | (refine Ob.mk (by first | omega | exact Hp.le_refl _ | (simp; omega)) ?_; (conv => whnf)) | (refine ix_0 (by omega) ?_; (conv => whnf)) | (refine ix_1 (by omega) ?_; (conv => whnf)) | (refine ix_2 (by omega) ?_; (conv => whnf)) | (refine ix_nat (by omega) ?_; (conv => whnf)) | (refine ix_int (by omega) ?_; (conv => whnf)) | (refine wr_i64 (by omega) ?_; (conv => whnf)) | (refine qu_pos (by omega) ?_; (conv => whnf)) | (refine rm_pos (by omega) ?_; (conv => whnf)) | (refine pk _ rfl ?_; (conv => whnf)) | (refine And.intro (by first | rfl | omega) ?_; (conv => whnf)) | (refine nilq ?_; (conv => whnf)) | (refine nilqn ?_; (conv => whnf)) | (refine Al.mk (fun b hb => ?_); (conv => whnf)) | (refine An.mk (by first | decide | omega | (refine ⟨by decide, by omega, by omega⟩)) (fun z hz => ?_); (conv => whnf)) | (refine wr_any ?_; (conv => whnf)) | (refine quiet (by kernel_rfl) ?_; (conv => whnf))))
          (refine T_ret _ rfl ?_; (conv => whnf); refine retS _ _ [some 0, some 1] ⟨rfl, rfl⟩ ?_; (conv => whnf))
          ((repeat' (first | exact trivial | exact rfl | apply And.intro)) <;> try decide)
          have : a ≠ b := hne (fun e => by rw [e] at h; exact h rfl)
          simp [this]
        · ((conv => whnf); repeat' (first | (refine Br.mk (fun h => ?_) (fun h => ?_) <;> first | (exfalso; omega) | (exfalso; simp at h; done) | (conv => whnf)) | (refine Ob.mk (by first | omega | exact Hp.le_refl _ | (simp; omega)) ?_; (conv => whnf)) | (refine ix_0 (by omega) ?_; (conv => whnf)) | (refine ix_1 (by omega) ?_; (conv => whnf)) | (refine ix_2 (by omega) ?_; (conv => whnf)) | (refine ix_nat (by omega) ?_; (conv => whnf)) | (refine ix_int (by omega) ?_; (conv => whnf)) | (refine wr_i64 (by omega) ?_; (conv => whnf)) | (refine qu_pos (by omega) ?_; (conv => whnf)) | (refine rm_pos (by omega) ?_; (conv => whnf)) | (refine pk _ rfl ?_; (conv => whnf)) | (refine And.intro (by first | rfl | omega) ?_; (conv => whnf)) | (refine nilq ?_; (conv => whnf)) | (refine nilqn ?_; (conv => whnf)) | (refine Al.mk (fun b hb => ?_); (conv => whnf)) | (refine An.mk (by first | decide | omega | (refine ⟨by decide, by omega, by omega⟩)) (fun z hz => ?_); (conv => whnf)) | (refine wr_any ?_; (conv => whnf)) | (refine quiet (by kernel_rfl) ?_; (conv => whnf))))
          (refine T_ret _ rfl ?_; (conv => whnf); refine retS _ _ [some 0, some 1] ⟨rfl, rfl⟩ ?_; (conv => whnf))
          ((repeat' (first | exact trivial | exact rfl | apply And.intro)) <;> try decide)
          have : a ≠ b := hne (fun e => by rw [e] at h; exact h rfl)
          simp [this]
        · (refine callqG [some 4, some 5] ( .one (.bool (decide (a.queues[i].longs = b.queues[i].longs))) ) ( .bool (decide (a.queues[i].longs = b.queues[i].longs)) ) ( sameInts_spec a.queues[i].longs b.queues[i].longs (hb _ (List.getElem_mem ..))) (by ((conv => whnf) <;> first | exact trivial | rfl | assumption | omega | (simp_all; done))) (fun _ => rfl) (by ((conv => whnf); repeat' (first | exact trivial | exact rfl | apply And.intro); all_goals (first | omega | (simp <;> done) | skip))) rfl (by rintro _ _ ⟨rfl, rfl⟩; (conv => whnf); exact ⟨rfl, rfl⟩) ?_; ((conv => whnf); repeat' (first | (refine Br.mk (fun h => ?_) (fun h => ?_) <;> first | (exfalso; omega) | (exfalso; simp at h; done) | (conv => whnf)) | (refine Ob.mk (by first | omega | exact Hp.le_refl _ | (simp; omega)) ?_; (conv => whnf)) | (refine ix_0 (by omega) ?_; (conv => whnf)) | (refine ix_1 (by omega) ?_; (conv => whnf)) | (refine ix_2 (by omega) ?_; (conv => whnf)) | (refine ix_nat (by omega) ?_; (conv => whnf)) | (refine ix_int (by omega) ?_; (conv => whnf)) | (refine wr_i64 (by omega) ?_; (conv => whnf)) | (refine qu_pos (by omega) ?_; (conv => whnf)) | (refine rm_pos (by omega) ?_; (conv => whnf)) | (refine pk _ rfl ?_; (conv => whnf)) | (refine And.intro (by first | rfl | omega) ?_; (conv => whnf)) | (refine nilq ?_; (conv => whnf)) | (refine nilqn ?_; (conv => whnf)) | (refine Al.mk (fun b hb => ?_); (conv => whnf)) | (refine An.mk (by first | decide | omega | (refine ⟨by decide, by omega, by omega⟩)) (fun z hz => ?_); (conv => whnf)) | (refine wr_any ?_; (conv => whnf)) | (refine quiet (by kernel_rfl) ?_; (conv => whnf)))))
          · (refine T_ret _ rfl ?_; (conv => whnf); refine retS _ _ [some 0, some 1] ⟨rfl, rfl⟩ ?_; (conv => whnf))
            ((repeat' (first | exact trivial | exact rfl | apply And.intro)) <;> try decide)
            have : a ≠ b := hne (fun e => by rw [e] at h; simp at h)
            simp [this]
          · refine T_back (i + 1) [some 0, some 1, some 2, some 3] ?_ ⟨by omega, ?_⟩ (by omega)
            · ((conv => whnf); repeat' (first | exact trivial | exact rfl | apply And.intro); all_goals (first | omega | (simp <;> done) | skip))
            · rw [take_snoc (l := a.queues) (by omega), take_snoc (l := b.queues) (i := i) (by omega), he]
              have : a.queues[i] = b.queues[i] := qd_eq.2 ⟨by omega, by omega, by simpa using h⟩
              rw [this]
      · (refine T_ret _ rfl ?_; (conv => whnf); refine retS _ _ [some 0, some 1] ⟨rfl, rfl⟩ ?_; (conv => whnf))
        ((repeat' (first | exact trivial | exact rfl | apply And.intro)) <;> try decide)
        rw [List.take_of_length_le (by omega), List.take_of_length_le (by omega)] at he
        simp [td_eq, hq, hr, he]
end Go.Proofs.Ythdbhlpceodhlaa
