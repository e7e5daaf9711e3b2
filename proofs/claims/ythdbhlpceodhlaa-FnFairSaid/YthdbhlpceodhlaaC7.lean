/- Contracts of functions of this seat's program, and what is proved of them: each for every argument that its hypotheses let in. -/
import Derived.Test.YthdbhlpceodhlaaC6
import Derived.Test.YthdbhlpceodhlaaT12
set_option linter.unusedVariables false
set_option linter.unusedSimpArgs false
namespace Go.Proofs.Ythdbhlpceodhlaa
open Go Go.Proofs.Ythdbhlpceodhlaa.Sx
theorem runs_good : ∀ {k : Nat} {t : Td} {n : Nat} {x : Td} {m : Nat}, GoodT t → runsT k t n = (x, m, true) → GoodT x
  | 0, t, n, x, m, hg, h => by simp only [runsT] at h; cases h; exact hg
  | k + 1, t, n, x, m, hg, h => by
    simp only [runsT] at h
    split at h
    · rename_i hok; exact runs_good (nextT_ok hok) h
    · cases h
theorem runs_bad : ∀ {k : Nat} {t : Td} {n : Nat} {x : Td} {m : Nat}, runsT k t n = (x, m, false) → x = ⟨0, [], 0⟩ ∧ m = 0
  | 0, t, n, x, m, h => by simp only [runsT] at h; cases h
  | k + 1, t, n, x, m, h => by
    simp only [runsT] at h
    split at h
    · exact runs_bad h
    · cases h; exact ⟨rfl, rfl⟩
structure RunLaw (k : Nat) (u : Int) (q x : Qd) : Prop where
  len : x.longs.length ≤ q.longs.length
  part : 0 < x.longs.length → x.sent - q.sent = k * u + q.deficit - x.deficit
  def_ : 0 < x.longs.length → 0 < k → x.deficit < 50
theorem runs_law : ∀ {k : Nat} {t : Td} {n : Nat} {x : Td} {m : Nat}, GoodT t → runsT k t n = (x, m, true) → x.queues.length = t.queues.length ∧ x.quantum = t.quantum ∧ x.rounds = t.rounds + k ∧ ∀ i (h1 : i < x.queues.length) (h2 : i < t.queues.length), RunLaw k t.quantum t.queues[i] x.queues[i]
  | 0, t, n, x, m, hg, h => by
    simp only [runsT] at h
    cases h
    exact ⟨rfl, rfl, by simp, fun i h1 h2 => ⟨Nat.le_refl _, fun _ => by simp, fun _ h => absurd h (by omega)⟩⟩
  | k + 1, t, n, x, m, hg, h => by
    simp only [runsT] at h
    split at h
    · rename_i hok
      have hb : GoodT t ∧ GoodT (roundT t) := Classical.byContradiction fun hn => by rw [nextT_bad hn] at hok; cases hok
      rw [nextT_good hb.1 hb.2] at h
      dsimp only at h
      obtain ⟨e1, e2, e3, e4⟩ := runs_law hb.2 h
      refine ⟨by rw [e1]; simp [roundT], by rw [e2]; rfl, by rw [e3]; simp [roundT]; omega, fun i h1 h2 => ?_⟩
      have h3 : i < (roundT t).queues.length := by simpa [roundT] using h2
      have hi := e4 i h1 h3
      have hr : (roundT t).queues[i] = (roundQ t.quantum t.queues[i]).1 := by simp [roundT]
      have hq : (roundT t).quantum = t.quantum := rfl
      have hgq := hb.2.all _ (List.getElem_mem h3)
      have hgx := (runs_good hb.2 h).all _ (List.getElem_mem h1)
      have hl := roundQ_len t.quantum t.queues[i]
      have hp := round_part t.quantum t.queues[i]
      have h0 : k = 0 → x.queues[i] = (roundQ t.quantum t.queues[i]).1 := fun hk => by
        subst hk
        simp only [runsT] at h
        cases h
        exact hr
      rw [hr, hq] at hi
      rw [hr] at hgq
      generalize t.queues[i] = q at *
      generalize (roundQ t.quantum q).1 = r at *
      generalize x.queues[i] = y at *
      refine ⟨Nat.le_trans hi.len hl, fun hpos => ?_, fun hpos hk => ?_⟩
      · obtain ⟨p1, p2⟩ := hp (by have := hi.len; omega)
        have := hi.part hpos
        rw [show ((k + 1 : Nat) : Int) * t.quantum = k * t.quantum + t.quantum by rw [Int.natCast_succ, Int.add_mul]; simp]
        omega
      · by_cases hk0 : k = 0
        · have e := h0 hk0
          subst e
          obtain ⟨p1, p2⟩ := hp hpos
          have := (hgq.longs _ (List.getElem_mem hpos)).2
          omega
        · exact hi.def_ hpos (by omega)
    · cases h
theorem fnFair_spec (code : List Int) (hb : ∀ n ∈ code, 0 ≤ n ∧ n ≤ 255) : FSpec Try.prog 4 [.one (.slc 0 code.length)] [.row false 1 encByte code] (fun r p => r = .one (.bool true) ∧ p = [.row false 1 encByte code]) := by
  refine spec_enter tab tok Try.func4 rfl rfl rfl _ 1 Try.ntmps4 rfl (fun F ρ => ?_)
  (conv => whnf)
  refine rowLen 0 rfl (fun hl0 => ?_)
  (refine run 600 ?_; (conv => whnf); repeat' (first | (refine Br.mk (fun h => ?_) (fun h => ?_) <;> first | (exfalso; omega) | (exfalso; simp at h; done) | (conv => whnf)) | (refine Ob.mk (by first | omega | exact Hp.le_refl _ | (simp; omega)) ?_; (conv => whnf)) | (refine ix_0 (by omega) ?_; (conv => whnf)) | (refine ix_1 (by omega) ?_; (conv => whnf)) | (refine ix_2 (by omega) ?_; (conv => whnf)) | (refine ix_nat (by omega) ?_; (conv => whnf)) | (refine ix_int (by omega) ?_; (conv => whnf)) | (refine wr_i64 (by omega) ?_; (conv => whnf)) | (refine qu_pos (by omega) ?_; (conv => whnf)) | (refine rm_pos (by omega) ?_; (conv => whnf)) | (refine pk _ rfl ?_; (conv => whnf)) | (refine And.intro (by first | rfl | omega) ?_; (conv => whnf)) | (refine nilq ?_; (conv => whnf)) | (refine nilqn ?_; (conv => whnf)) | (refine Al.mk (fun b hb => ?_); (conv => whnf)) | (refine An.mk (by first | decide | omega | (refine ⟨by decide, by omega, by omega⟩)) (fun z hz => ?_); (conv => whnf)) | (refine wr_any ?_; (conv => whnf)) | (refine quiet (by kernel_rfl) ?_; (conv => whnf))))
  · (refine T_ret _ rfl ?_; (conv => whnf); refine retS _ _ [some 0] ⟨rfl, rfl⟩ ?_; (conv => whnf))
    ((repeat' (first | exact trivial | exact rfl | apply And.intro)) <;> try decide)
  · (refine callG [some 0] ( drawRun_spec code hb (by omega) ) (by ((conv => whnf) <;> first | exact trivial | rfl | assumption | omega | (simp_all; done))) (by ((conv => whnf); repeat' (first | exact trivial | exact rfl | apply And.intro); all_goals (first | omega | (simp <;> done) | skip))) ?_; rintro _ _ ⟨t, many, hst, hq0, hq6, hm1, hm2, rfl, rfl⟩; ((conv => whnf); repeat' (first | (refine Br.mk (fun h => ?_) (fun h => ?_) <;> first | (exfalso; omega) | (exfalso; simp at h; done) | (conv => whnf)) | (refine Ob.mk (by first | omega | exact Hp.le_refl _ | (simp; omega)) ?_; (conv => whnf)) | (refine ix_0 (by omega) ?_; (conv => whnf)) | (refine ix_1 (by omega) ?_; (conv => whnf)) | (refine ix_2 (by omega) ?_; (conv => whnf)) | (refine ix_nat (by omega) ?_; (conv => whnf)) | (refine ix_int (by omega) ?_; (conv => whnf)) | (refine wr_i64 (by omega) ?_; (conv => whnf)) | (refine qu_pos (by omega) ?_; (conv => whnf)) | (refine rm_pos (by omega) ?_; (conv => whnf)) | (refine pk _ rfl ?_; (conv => whnf)) | (refine And.intro (by first | rfl | omega) ?_; (conv => whnf)) | (refine nilq ?_; (conv => whnf)) | (refine nilqn ?_; (conv => whnf)) | (refine Al.mk (fun b hb => ?_); (conv => whnf)) | (refine An.mk (by first | decide | omega | (refine ⟨by decide, by omega, by omega⟩)) (fun z hz => ?_); (conv => whnf)) | (refine wr_any ?_; (conv => whnf)) | (refine quiet (by kernel_rfl) ?_; (conv => whnf)))))
    (refine demote 1 rfl ?_; ((conv => whnf); repeat' (first | (refine Br.mk (fun h => ?_) (fun h => ?_) <;> first | (exfalso; omega) | (exfalso; simp at h; done) | (conv => whnf)) | (refine Ob.mk (by first | omega | exact Hp.le_refl _ | (simp; omega)) ?_; (conv => whnf)) | (refine ix_0 (by omega) ?_; (conv => whnf)) | (refine ix_1 (by omega) ?_; (conv => whnf)) | (refine ix_2 (by omega) ?_; (conv => whnf)) | (refine ix_nat (by omega) ?_; (conv => whnf)) | (refine ix_int (by omega) ?_; (conv => whnf)) | (refine wr_i64 (by omega) ?_; (conv => whnf)) | (refine qu_pos (by omega) ?_; (conv => whnf)) | (refine rm_pos (by omega) ?_; (conv => whnf)) | (refine pk _ rfl ?_; (conv => whnf)) | (refine And.intro (by first | rfl | omega) ?_; (conv => whnf)) | (refine nilq ?_; (conv => whnf)) | (refine nilqn ?_; (conv => whnf)) | (refine Al.mk (fun b hb => ?_); (conv => whnf)) | (refine An.mk (by first | decide | omega | (refine ⟨by decide, by omega, by omega⟩)) (fun z hz => ?_); (conv => whnf)) | (refine wr_any ?_; (conv => whnf)) | (refine quiet (by kernel_rfl) ?_; (conv => whnf)))))
    have hS := specRunRounds_spec t many hst
    have hI := implRunRounds_spec t many hst
    have hN := runT_small t many
    have hcase : ((runT t many).2.2 = true ∧ ∃ k : Nat, many = k ∧ k ≤ 200 ∧ GoodT t ∧ runsT k t 0 = (runT t many)) ∨ ((runT t many).2.2 = false ∧ (runT t many).1 = ⟨0, [], 0⟩ ∧ (runT t many).2.1 = 0) := by
      unfold runT
      split
      · rename_i hh
        cases hr : (runsT many.toNat t 0).2.2 with
        | true => exact .inl ⟨rfl, many.toNat, by omega, by omega, hh.1, rfl⟩
        | false =>
          obtain ⟨h1, h2⟩ := runs_bad (k := many.toNat) (t := t) (n := 0) (x := (runsT many.toNat t 0).1) (m := (runsT many.toNat t 0).2.1) (by rw [← hr])
          exact .inr ⟨rfl, h1, h2⟩
      · exact .inr ⟨rfl, rfl, rfl⟩
    generalize hw : runT t many = x at hS hI hN hcase
    obtain ⟨y, n, ok⟩ := x
    dsimp only at hS hI hN hcase
    have hyl : y.queues.length ≤ 100000000 := by omega
    have hya : ∀ q ∈ y.queues, q.longs.length ≤ 100000000 := fun q hq => by have := totQ_mem hq; omega
    (refine callG [some 1] ( hI) (by ((conv => whnf) <;> first | exact trivial | rfl | assumption | omega | (simp_all; done))) (by ((conv => whnf); repeat' (first | exact trivial | exact rfl | apply And.intro); all_goals (first | omega | (simp <;> done) | skip))) ?_; rintro _ _ ⟨rfl, rfl⟩; ((conv => whnf); repeat' (first | (refine Br.mk (fun h => ?_) (fun h => ?_) <;> first | (exfalso; omega) | (exfalso; simp at h; done) | (conv => whnf)) | (refine Ob.mk (by first | omega | exact Hp.le_refl _ | (simp; omega)) ?_; (conv => whnf)) | (refine ix_0 (by omega) ?_; (conv => whnf)) | (refine ix_1 (by omega) ?_; (conv => whnf)) | (refine ix_2 (by omega) ?_; (conv => whnf)) | (refine ix_nat (by omega) ?_; (conv => whnf)) | (refine ix_int (by omega) ?_; (conv => whnf)) | (refine wr_i64 (by omega) ?_; (conv => whnf)) | (refine qu_pos (by omega) ?_; (conv => whnf)) | (refine rm_pos (by omega) ?_; (conv => whnf)) | (refine pk _ rfl ?_; (conv => whnf)) | (refine And.intro (by first | rfl | omega) ?_; (conv => whnf)) | (refine nilq ?_; (conv => whnf)) | (refine nilqn ?_; (conv => whnf)) | (refine Al.mk (fun b hb => ?_); (conv => whnf)) | (refine An.mk (by first | decide | omega | (refine ⟨by decide, by omega, by omega⟩)) (fun z hz => ?_); (conv => whnf)) | (refine wr_any ?_; (conv => whnf)) | (refine quiet (by kernel_rfl) ?_; (conv => whnf)))))
    (refine demote 3 rfl ?_; ((conv => whnf); repeat' (first | (refine Br.mk (fun h => ?_) (fun h => ?_) <;> first | (exfalso; omega) | (exfalso; simp at h; done) | (conv => whnf)) | (refine Ob.mk (by first | omega | exact Hp.le_refl _ | (simp; omega)) ?_; (conv => whnf)) | (refine ix_0 (by omega) ?_; (conv => whnf)) | (refine ix_1 (by omega) ?_; (conv => whnf)) | (refine ix_2 (by omega) ?_; (conv => whnf)) | (refine ix_nat (by omega) ?_; (conv => whnf)) | (refine ix_int (by omega) ?_; (conv => whnf)) | (refine wr_i64 (by omega) ?_; (conv => whnf)) | (refine qu_pos (by omega) ?_; (conv => whnf)) | (refine rm_pos (by omega) ?_; (conv => whnf)) | (refine pk _ rfl ?_; (conv => whnf)) | (refine And.intro (by first | rfl | omega) ?_; (conv => whnf)) | (refine nilq ?_; (conv => whnf)) | (refine nilqn ?_; (conv => whnf)) | (refine Al.mk (fun b hb => ?_); (conv => whnf)) | (refine An.mk (by first | decide | omega | (refine ⟨by decide, by omega, by omega⟩)) (fun z hz => ?_); (conv => whnf)) | (refine wr_any ?_; (conv => whnf)) | (refine quiet (by kernel_rfl) ?_; (conv => whnf)))))
    (refine callG [some 1] ( hS) (by ((conv => whnf) <;> first | exact trivial | rfl | assumption | omega | (simp_all; done))) (by ((conv => whnf); repeat' (first | exact trivial | exact rfl | apply And.intro); all_goals (first | omega | (simp <;> done) | skip))) ?_; rintro _ _ ⟨rfl, rfl⟩; ((conv => whnf); repeat' (first | (refine Br.mk (fun h => ?_) (fun h => ?_) <;> first | (exfalso; omega) | (exfalso; simp at h; done) | (conv => whnf)) | (refine Ob.mk (by first | omega | exact Hp.le_refl _ | (simp; omega)) ?_; (conv => whnf)) | (refine ix_0 (by omega) ?_; (conv => whnf)) | (refine ix_1 (by omega) ?_; (conv => whnf)) | (refine ix_2 (by omega) ?_; (conv => whnf)) | (refine ix_nat (by omega) ?_; (conv => whnf)) | (refine ix_int (by omega) ?_; (conv => whnf)) | (refine wr_i64 (by omega) ?_; (conv => whnf)) | (refine qu_pos (by omega) ?_; (conv => whnf)) | (refine rm_pos (by omega) ?_; (conv => whnf)) | (refine pk _ rfl ?_; (conv => whnf)) | (refine And.intro (by first | rfl | omega) ?_; (conv => whnf)) | (refine nilq ?_; (conv => whnf)) | (refine nilqn ?_; (conv => whnf)) | (refine Al.mk (fun b hb => ?_); (conv => whnf)) | (refine An.mk (by first | decide | omega | (refine ⟨by decide, by omega, by omega⟩)) (fun z hz => ?_); (conv => whnf)) | (refine wr_any ?_; (conv => whnf)) | (refine quiet (by kernel_rfl) ?_; (conv => whnf)))))
    (refine demote 5 rfl ?_; ((conv => whnf); repeat' (first | (refine Br.mk (fun h => ?_) (fun h => ?_) <;> first | (exfalso; omega) | (exfalso; simp at h; done) | (conv => whnf)) | (refine Ob.mk (by first | omega | exact Hp.le_refl _ | (simp; omega)) ?_; (conv => whnf)) | (refine ix_0 (by omega) ?_; (conv => whnf)) | (refine ix_1 (by omega) ?_; (conv => whnf)) | (refine ix_2 (by omega) ?_; (conv => whnf)) | (refine ix_nat (by omega) ?_; (conv => whnf)) | (refine ix_int (by omega) ?_; (conv => whnf)) | (refine wr_i64 (by omega) ?_; (conv => whnf)) | (refine qu_pos (by omega) ?_; (conv => whnf)) | (refine rm_pos (by omega) ?_; (conv => whnf)) | (refine pk _ rfl ?_; (conv => whnf)) | (refine And.intro (by first | rfl | omega) ?_; (conv => whnf)) | (refine nilq ?_; (conv => whnf)) | (refine nilqn ?_; (conv => whnf)) | (refine Al.mk (fun b hb => ?_); (conv => whnf)) | (refine An.mk (by first | decide | omega | (refine ⟨by decide, by omega, by omega⟩)) (fun z hz => ?_); (conv => whnf)) | (refine wr_any ?_; (conv => whnf)) | (refine quiet (by kernel_rfl) ?_; (conv => whnf)))))
    (refine callG [some 3, some 5] ( sameTurns_spec y y hyl hya) (by ((conv => whnf) <;> first | exact trivial | rfl | assumption | omega | (simp_all; done))) (by ((conv => whnf); repeat' (first | exact trivial | exact rfl | apply And.intro); all_goals (first | omega | (simp <;> done) | skip))) ?_; rintro _ _ ⟨rfl, rfl⟩; ((conv => whnf); repeat' (first | (refine Br.mk (fun h => ?_) (fun h => ?_) <;> first | (exfalso; omega) | (exfalso; simp at h; done) | (conv => whnf)) | (refine Ob.mk (by first | omega | exact Hp.le_refl _ | (simp; omega)) ?_; (conv => whnf)) | (refine ix_0 (by omega) ?_; (conv => whnf)) | (refine ix_1 (by omega) ?_; (conv => whnf)) | (refine ix_2 (by omega) ?_; (conv => whnf)) | (refine ix_nat (by omega) ?_; (conv => whnf)) | (refine ix_int (by omega) ?_; (conv => whnf)) | (refine wr_i64 (by omega) ?_; (conv => whnf)) | (refine qu_pos (by omega) ?_; (conv => whnf)) | (refine rm_pos (by omega) ?_; (conv => whnf)) | (refine pk _ rfl ?_; (conv => whnf)) | (refine And.intro (by first | rfl | omega) ?_; (conv => whnf)) | (refine nilq ?_; (conv => whnf)) | (refine nilqn ?_; (conv => whnf)) | (refine Al.mk (fun b hb => ?_); (conv => whnf)) | (refine An.mk (by first | decide | omega | (refine ⟨by decide, by omega, by omega⟩)) (fun z hz => ?_); (conv => whnf)) | (refine wr_any ?_; (conv => whnf)) | (refine quiet (by kernel_rfl) ?_; (conv => whnf)))))
    · rcases hcase with ⟨e, _⟩ | ⟨_, _, hn⟩
      · rw [e] at h; simp at h
      · (refine T_ret _ rfl ?_; (conv => whnf); refine retS _ _ [some 0] ⟨rfl, rfl⟩ ?_; (conv => whnf))
        ((repeat' (first | exact trivial | exact rfl | apply And.intro)) <;> try decide)
        simp [hn]
    · rcases hcase with ⟨_, m, hm, hm3, hg, hr⟩ | ⟨e, _⟩
      rotate_left
      · rw [e] at h; simp at h
      have hok : ok = true := by simpa using h
      subst hm hok
      obtain ⟨g1, g2, g3, g4⟩ := runs_law hg hr
      have hgy := runs_good hg hr
      have u0 := hg.q0; have u1 := hg.q1; have r0 := hg.r0; have r1 := hg.r1
      have hmul : 0 ≤ (m : Int) * t.quantum ∧ (m : Int) * t.quantum ≤ 10000 := by
        have h1 : (0 : Int) ≤ m := by omega
        have h2 : (m : Int) ≤ 200 := by omega
        constructor
        · exact Int.mul_nonneg h1 (by omega)
        · have := Int.mul_le_mul h2 u1 (by omega) (by omega)
          omega
      refine T_loop (fun i : Nat => ⟨[(60, .one (.int .i64 i)), (59, .one (.int .i64 y.queues.length)), (58, .one (.slc 3 y.queues.length)), (4, .one (.int .i64 m)), (3, .one (.ptr 2 0 0 0)), (5, .one (.ptr 4 0 0 0))], [.row false 1 encByte code, .row false 3 encQ t.queues, .box [.int .i64 t.quantum, .slc 1 t.queues.length, .int .i64 t.rounds], .row false 3 encQ y.queues, .box [.int .i64 y.quantum, .slc 3 y.queues.length, .int .i64 y.rounds]]⟩)
        (fun i => i ≤ y.queues.length) (fun i => y.queues.length - i) 0 [some 0, some 1, some 2, some 3, some 4] ?_ (Nat.zero_le _) (fun i hi => ?_)
      · ((conv => whnf); repeat' (first | exact trivial | exact rfl | apply And.intro); all_goals (first | omega | (simp <;> done) | skip))
      (refine run 600 ?_; (conv => whnf); repeat' (first | (refine Br.mk (fun h => ?_) (fun h => ?_) <;> first | (exfalso; omega) | (exfalso; simp at h; done) | (conv => whnf)) | (refine Ob.mk (by first | omega | exact Hp.le_refl _ | (simp; omega)) ?_; (conv => whnf)) | (refine ix_0 (by omega) ?_; (conv => whnf)) | (refine ix_1 (by omega) ?_; (conv => whnf)) | (refine ix_2 (by omega) ?_; (conv => whnf)) | (refine ix_nat (by omega) ?_; (conv => whnf)) | (refine ix_int (by omega) ?_; (conv => whnf)) | (refine wr_i64 (by omega) ?_; (conv => whnf)) | (refine qu_pos (by omega) ?_; (conv => whnf)) | (refine rm_pos (by omega) ?_; (conv => whnf)) | (refine pk _ rfl ?_; (conv => whnf)) | (refine And.intro (by first | rfl | omega) ?_; (conv => whnf)) | (refine nilq ?_; (conv => whnf)) | (refine nilqn ?_; (conv => whnf)) | (refine Al.mk (fun b hb => ?_); (conv => whnf)) | (refine An.mk (by first | decide | omega | (refine ⟨by decide, by omega, by omega⟩)) (fun z hz => ?_); (conv => whnf)) | (refine wr_any ?_; (conv => whnf))))
      · have hi1 : i < y.queues.length := by omega
        have hi2 : i < t.queues.length := by omega
        (refine opr 3 i rfl (by omega) ?_; ((conv => whnf); repeat' (first | (refine Br.mk (fun h => ?_) (fun h => ?_) <;> first | (exfalso; omega) | (exfalso; simp at h; done) | (conv => whnf)) | (refine Ob.mk (by first | omega | exact Hp.le_refl _ | (simp; omega)) ?_; (conv => whnf)) | (refine ix_0 (by omega) ?_; (conv => whnf)) | (refine ix_1 (by omega) ?_; (conv => whnf)) | (refine ix_2 (by omega) ?_; (conv => whnf)) | (refine ix_nat (by omega) ?_; (conv => whnf)) | (refine ix_int (by omega) ?_; (conv => whnf)) | (refine wr_i64 (by omega) ?_; (conv => whnf)) | (refine qu_pos (by omega) ?_; (conv => whnf)) | (refine rm_pos (by omega) ?_; (conv => whnf)) | (refine pk _ rfl ?_; (conv => whnf)) | (refine And.intro (by first | rfl | omega) ?_; (conv => whnf)) | (refine nilq ?_; (conv => whnf)) | (refine nilqn ?_; (conv => whnf)) | (refine Al.mk (fun b hb => ?_); (conv => whnf)) | (refine An.mk (by first | decide | omega | (refine ⟨by decide, by omega, by omega⟩)) (fun z hz => ?_); (conv => whnf)) | (refine wr_any ?_; (conv => whnf)))))
        have hLi := g4 i hi1 hi2
        have hxi := hgy.all _ (List.getElem_mem hi1)
        have hti := hg.all _ (List.getElem_mem hi2)
        refine T_loop (fun j : Nat => ⟨[(68, .one (.int .i64 j)), (67, .one (.int .i64 y.queues.length)), (66, .one (.slc 3 y.queues.length)), (60, .one (.int .i64 i)), (59, .one (.int .i64 y.queues.length)), (58, .one (.slc 3 y.queues.length)), (11, .one (.int .i64 i)), (12, .one (.ptr 6 0 0 0)), (4, .one (.int .i64 m)), (3, .one (.ptr 2 0 0 0)), (5, .one (.ptr 4 0 0 0))], [.row false 1 encByte code, .row false 3 encQ t.queues, .box [.int .i64 t.quantum, .slc 1 t.queues.length, .int .i64 t.rounds], .row false 3 encQ y.queues, .box [.int .i64 y.quantum, .slc 3 y.queues.length, .int .i64 y.rounds], .row false 1 encInt y.queues[i].longs, .box [.slc 5 y.queues[i].longs.length, .int .i64 y.queues[i].deficit, .int .i64 y.queues[i].sent]]⟩)
          (fun j => j ≤ y.queues.length) (fun j => y.queues.length - j) 0 [some 0, some 1, some 2, some 3, some 4, some 5, some 6] ?_ (Nat.zero_le _) (fun j hj => ?_)
        · ((conv => whnf); repeat' (first | exact trivial | exact rfl | apply And.intro); all_goals (first | omega | (simp <;> done) | skip))
        (refine run 600 ?_; (conv => whnf); repeat' (first | (refine Br.mk (fun h => ?_) (fun h => ?_) <;> first | (exfalso; omega) | (exfalso; simp at h; done) | (conv => whnf)) | (refine Ob.mk (by first | omega | exact Hp.le_refl _ | (simp; omega)) ?_; (conv => whnf)) | (refine ix_0 (by omega) ?_; (conv => whnf)) | (refine ix_1 (by omega) ?_; (conv => whnf)) | (refine ix_2 (by omega) ?_; (conv => whnf)) | (refine ix_nat (by omega) ?_; (conv => whnf)) | (refine ix_int (by omega) ?_; (conv => whnf)) | (refine wr_i64 (by omega) ?_; (conv => whnf)) | (refine qu_pos (by omega) ?_; (conv => whnf)) | (refine rm_pos (by omega) ?_; (conv => whnf)) | (refine pk _ rfl ?_; (conv => whnf)) | (refine And.intro (by first | rfl | omega) ?_; (conv => whnf)) | (refine nilq ?_; (conv => whnf)) | (refine nilqn ?_; (conv => whnf)) | (refine Al.mk (fun b hb => ?_); (conv => whnf)) | (refine An.mk (by first | decide | omega | (refine ⟨by decide, by omega, by omega⟩)) (fun z hz => ?_); (conv => whnf)) | (refine wr_any ?_; (conv => whnf))))
        · have hj1 : j < y.queues.length := by omega
          have hj2 : j < t.queues.length := by omega
          have hLj := g4 j hj1 hj2
          have hxj := hgy.all _ (List.getElem_mem hj1)
          have htj := hg.all _ (List.getElem_mem hj2)
          have pi1 := hLi.part; have pi2 := hLi.def_; have pj1 := hLj.part; have pj2 := hLj.def_
          have x1 := hxi.def0; have x2 := hxi.def1; have x3 := hxi.sent0; have x4 := hxi.sent1
          have y1 := hxj.def0; have y2 := hxj.def1; have y3 := hxj.sent0; have y4 := hxj.sent1
          have z1 := hti.def0; have z2 := hti.def1; have z3 := hti.sent0; have z4 := hti.sent1
          have w1 := htj.def0; have w2 := htj.def1; have w3 := htj.sent0; have w4 := htj.sent1
          (refine opr 3 j rfl (by omega) ?_; ((conv => whnf); repeat' (first | (refine Br.mk (fun h => ?_) (fun h => ?_) <;> first | (exfalso; omega) | (exfalso; simp at h; done) | (conv => whnf)) | (refine Ob.mk (by first | omega | exact Hp.le_refl _ | (simp; omega)) ?_; (conv => whnf)) | (refine ix_0 (by omega) ?_; (conv => whnf)) | (refine ix_1 (by omega) ?_; (conv => whnf)) | (refine ix_2 (by omega) ?_; (conv => whnf)) | (refine ix_nat (by omega) ?_; (conv => whnf)) | (refine ix_int (by omega) ?_; (conv => whnf)) | (refine wr_i64 (by omega) ?_; (conv => whnf)) | (refine qu_pos (by omega) ?_; (conv => whnf)) | (refine rm_pos (by omega) ?_; (conv => whnf)) | (refine pk _ rfl ?_; (conv => whnf)) | (refine And.intro (by first | rfl | omega) ?_; (conv => whnf)) | (refine nilq ?_; (conv => whnf)) | (refine nilqn ?_; (conv => whnf)) | (refine Al.mk (fun b hb => ?_); (conv => whnf)) | (refine An.mk (by first | decide | omega | (refine ⟨by decide, by omega, by omega⟩)) (fun z hz => ?_); (conv => whnf)) | (refine wr_any ?_; (conv => whnf)) | (refine quiet (by kernel_rfl) ?_; (conv => whnf)))))
          all_goals
            refine T_back (j + 1) [some 0, some 1, some 2, some 3, some 4, some 5, some 6] ?_ (by omega) (by omega)
            ((conv => whnf); repeat' (first | exact trivial | exact rfl | apply And.intro); all_goals (first | omega | (simp <;> done) | skip))
        · refine T_back (i + 1) [some 0, some 1, some 2, some 3, some 4] ?_ (by omega) (by omega)
          ((conv => whnf); repeat' (first | exact trivial | exact rfl | apply And.intro); all_goals (first | omega | (simp <;> done) | skip))
      · (refine T_ret _ rfl ?_; (conv => whnf); refine retS _ _ [some 0] ⟨rfl, rfl⟩ ?_; (conv => whnf))
        ((repeat' (first | exact trivial | exact rfl | apply And.intro)) <;> try decide)
        simpa using g3
end Go.Proofs.Ythdbhlpceodhlaa
