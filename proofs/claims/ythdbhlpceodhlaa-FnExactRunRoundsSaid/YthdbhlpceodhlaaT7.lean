/- Contracts of functions of this seat's program, and what is proved of them: each for every argument that its hypotheses let in. -/
import Derived.Test.YthdbhlpceodhlaaT6
set_option linter.unusedVariables false
set_option linter.unusedSimpArgs false
namespace Go.Proofs.Ythdbhlpceodhlaa
open Go Go.Proofs.Ythdbhlpceodhlaa.Sx
/-- A queue served: what is left, how many went. -/
def serve : List Int → Int → Int → Qd × Nat
  | [], d, s => (⟨[], d, s⟩, 0)
  | n :: r, d, s => if n ≤ d then ((serve r (d - n) (s + n)).1, (serve r (d - n) (s + n)).2 + 1) else (⟨n :: r, d, s⟩, 0)
def settle (q : Qd) : Qd := if q.longs = [] then ⟨q.longs, 0, q.sent⟩ else q
def roundQ (u : Int) (q : Qd) : Qd × Nat := if q.longs = [] then (q, 0) else (settle (serve q.longs (q.deficit + u) q.sent).1, (serve q.longs (q.deficit + u) q.sent).2)
def sentQ (u : Int) : Nat → List Qd → List Int
  | _, [] => []
  | k, q :: r => List.replicate (roundQ u q).2 (k : Int) ++ sentQ u (k + 1) r
def roundT (t : Td) : Td := ⟨t.quantum, t.queues.map fun q => (roundQ t.quantum q).1, t.rounds + 1⟩
theorem sentQ_snoc (u : Int) : ∀ (k : Nat) (a : List Qd) (q : Qd), sentQ u k (a ++ [q]) = sentQ u k a ++ List.replicate (roundQ u q).2 ((k + a.length : Nat) : Int)
  | k, [], q => by simp [sentQ]
  | k, p :: r, q => by simp [sentQ, sentQ_snoc u (k + 1) r q, Nat.add_assoc, Nat.add_comm 1]
theorem serve_len : ∀ (l : List Int) (d s : Int), (serve l d s).1.longs.length ≤ l.length
  | [], d, s => by simp [serve]
  | n :: r, d, s => by
    simp only [serve]
    split
    · have := serve_len r (d - n) (s + n); simp; omega
    · simp
theorem roundQ_len (u : Int) (q : Qd) : (roundQ u q).1.longs.length ≤ q.longs.length := by
  unfold roundQ
  split
  · exact Nat.le_refl _
  · have := serve_len q.longs (q.deficit + u) q.sent
    simp only [settle]
    split <;> exact this
theorem small_round {t : Td} (h : SmallT t) : SmallT (roundT t) := by
  refine ⟨by simpa [roundT] using h.many, fun q hq => ?_⟩
  simp only [roundT, List.mem_map] at hq
  obtain ⟨p, hp, rfl⟩ := hq
  exact Nat.le_trans (roundQ_len _ _) (h.all p hp)
theorem l14Round_spec (t : Td) (hg : GoodT t) (ht : SmallT t) : FSpec Try.prog 31 [.agg [.int .i64 t.quantum, .slc 0 t.queues.length, .int .i64 t.rounds]] [.row false 3 encQ t.queues] (fun r p => r = .tup [.agg [.int .i64 t.quantum, .slc 1 (roundT t).queues.length, .int .i64 (t.rounds + 1)], .one (.slc 2 (sentQ t.quantum 0 t.queues).length)] ∧ p = [.row false 3 encQ t.queues, .row true 3 encQ (roundT t).queues, .row true 1 encInt (sentQ t.quantum 0 t.queues)]) := by
  refine spec_enter tab tok Try.func31 rfl rfl rfl _ 1 Try.ntmps31 rfl (fun F ρ => ?_)
  (conv => whnf)
  have hm := ht.many
  (refine run 600 ?_; (conv => whnf); repeat' (first | (refine Br.mk (fun h => ?_) (fun h => ?_) <;> first | (exfalso; omega) | (exfalso; simp at h; done) | (conv => whnf)) | (refine Ob.mk (by first | omega | exact Hp.le_refl _ | (simp; omega)) ?_; (conv => whnf)) | (refine ix_nat (by omega) ?_; (conv => whnf)) | (refine ix_int (by omega) ?_; (conv => whnf)) | (refine wr_i64 (by omega) ?_; (conv => whnf)) | (refine qu_pos (by omega) ?_; (conv => whnf)) | (refine rm_pos (by omega) ?_; (conv => whnf)) | (refine pk _ rfl ?_; (conv => whnf)) | (refine And.intro (by first | rfl | omega) ?_; (conv => whnf)) | (refine nilq ?_; (conv => whnf)) | (refine nilqn ?_; (conv => whnf)) | (refine Al.mk (fun b hb => ?_); (conv => whnf)) | (refine quiet (by kernel_rfl) ?_; (conv => whnf))))
  (refine callG [some 0] ( l14Own_spec t ht) (by ((conv => whnf) <;> first | exact trivial | rfl | assumption | omega | (simp_all; done))) (by ((conv => whnf); repeat' (first | exact trivial | exact rfl | apply And.intro); all_goals (first | omega | (simp <;> done) | skip))) ?_; rintro _ _ ⟨rfl, rfl⟩; ((conv => whnf); repeat' (first | (refine Br.mk (fun h => ?_) (fun h => ?_) <;> first | (exfalso; omega) | (exfalso; simp at h; done) | (conv => whnf)) | (refine Ob.mk (by first | omega | exact Hp.le_refl _ | (simp; omega)) ?_; (conv => whnf)) | (refine ix_nat (by omega) ?_; (conv => whnf)) | (refine ix_int (by omega) ?_; (conv => whnf)) | (refine wr_i64 (by omega) ?_; (conv => whnf)) | (refine qu_pos (by omega) ?_; (conv => whnf)) | (refine rm_pos (by omega) ?_; (conv => whnf)) | (refine pk _ rfl ?_; (conv => whnf)) | (refine And.intro (by first | rfl | omega) ?_; (conv => whnf)) | (refine nilq ?_; (conv => whnf)) | (refine nilqn ?_; (conv => whnf)) | (refine Al.mk (fun b hb => ?_); (conv => whnf)) | (refine quiet (by kernel_rfl) ?_; (conv => whnf)))))
  have hu0 := hg.q0
  have hu1 := hg.q1
  have hn1 := hg.n1
  have hr1 := hg.r1
  have hr0 := hg.r0
  refine T_loop (fun (y : Nat × List Int × List Qd) => ⟨[(12, .one (.int .i64 y.1)), (11, .one (.int .i64 t.queues.length)), (10, .one (.slc 3 y.2.2.length)), (4, .one (.slc 4 y.2.1.length)), (2, .one (.ptr 2 0 0 0)), (1, .one (.ptr 1 0 0 0))], [.row false 3 encQ t.queues, .box [.int .i64 t.quantum, .slc 3 y.2.2.length, .int .i64 t.rounds], .box [.int .i64 0, .nil, .int .i64 0], .row true 3 encQ y.2.2, .row true 1 encInt y.2.1]⟩)
    (fun y => y.2.2.length = t.queues.length ∧ y.1 ≤ t.queues.length ∧ y.2.1 = sentQ t.quantum 0 (t.queues.take y.1) ∧ y.2.1.length ≤ 40 * y.1 ∧ y.2.2 = (t.queues.take y.1).map (fun q => (roundQ t.quantum q).1) ++ t.queues.drop y.1) (fun y => t.queues.length - y.1) (0, [], t.queues) [some 0, some 1, some 2, some 3, none] ?_ ⟨by simp, Nat.zero_le _, by simp [sentQ], by simp, by simp⟩ (fun y hy => ?_)
  · ((conv => whnf); repeat' (first | exact trivial | exact rfl | apply And.intro); all_goals (first | omega | (simp <;> done) | skip))
  · obtain ⟨i, out, xs⟩ := y
    obtain ⟨hl, hi, ho, hol, hx⟩ := hy
    dsimp only at hl hi ho hol hx ⊢
    (refine run 600 ?_; (conv => whnf); repeat' (first | (refine Br.mk (fun h => ?_) (fun h => ?_) <;> first | (exfalso; omega) | (exfalso; simp at h; done) | (conv => whnf)) | (refine Ob.mk (by first | omega | exact Hp.le_refl _ | (simp; omega)) ?_; (conv => whnf)) | (refine ix_nat (by omega) ?_; (conv => whnf)) | (refine ix_int (by omega) ?_; (conv => whnf)) | (refine wr_i64 (by omega) ?_; (conv => whnf)) | (refine qu_pos (by omega) ?_; (conv => whnf)) | (refine rm_pos (by omega) ?_; (conv => whnf)) | (refine pk _ rfl ?_; (conv => whnf)) | (refine And.intro (by first | rfl | omega) ?_; (conv => whnf)) | (refine nilq ?_; (conv => whnf)) | (refine nilqn ?_; (conv => whnf)) | (refine Al.mk (fun b hb => ?_); (conv => whnf))))
    · have hi' : i < t.queues.length := by omega
      have hq := hg.all _ (List.getElem_mem (n := i) (by omega) : t.queues[i] ∈ t.queues)
      have hxi : xs[i] = t.queues[i] := by
        have e : xs[i]? = t.queues[i]? := by
          rw [hx, List.getElem?_append_right (by simp; omega)]
          simp [Nat.min_eq_left hi]
        rw [List.getElem?_eq_getElem (by omega), List.getElem?_eq_getElem (by omega)] at e
        simpa using e
      refine opn 3 i rfl (by omega) ?_
      rw [hxi]
      generalize hqi : t.queues[i] = q at *
      have h1 := hq.def0
      have h2 := hq.def1
      have h3 := hq.sent0
      have h4 := hq.sent1
      have h5 := hq.many
      ((conv => whnf); repeat' (first | (refine Br.mk (fun h => ?_) (fun h => ?_) <;> first | (exfalso; omega) | (exfalso; simp at h; done) | (conv => whnf)) | (refine Ob.mk (by first | omega | exact Hp.le_refl _ | (simp; omega)) ?_; (conv => whnf)) | (refine ix_nat (by omega) ?_; (conv => whnf)) | (refine ix_int (by omega) ?_; (conv => whnf)) | (refine wr_i64 (by omega) ?_; (conv => whnf)) | (refine qu_pos (by omega) ?_; (conv => whnf)) | (refine rm_pos (by omega) ?_; (conv => whnf)) | (refine pk _ rfl ?_; (conv => whnf)) | (refine And.intro (by first | rfl | omega) ?_; (conv => whnf)) | (refine nilq ?_; (conv => whnf)) | (refine nilqn ?_; (conv => whnf)) | (refine Al.mk (fun b hb => ?_); (conv => whnf))))
      · have hnil : q.longs = [] := List.eq_nil_of_length_eq_zero (by omega)
        have hr : roundQ t.quantum q = (q, 0) := by simp [roundQ, hnil]
        (refine close 3 (q) rfl ?_; ((conv => whnf); repeat' (first | (refine Br.mk (fun h => ?_) (fun h => ?_) <;> first | (exfalso; omega) | (exfalso; simp at h; done) | (conv => whnf)) | (refine Ob.mk (by first | omega | exact Hp.le_refl _ | (simp; omega)) ?_; (conv => whnf)) | (refine ix_nat (by omega) ?_; (conv => whnf)) | (refine ix_int (by omega) ?_; (conv => whnf)) | (refine wr_i64 (by omega) ?_; (conv => whnf)) | (refine qu_pos (by omega) ?_; (conv => whnf)) | (refine rm_pos (by omega) ?_; (conv => whnf)) | (refine pk _ rfl ?_; (conv => whnf)) | (refine And.intro (by first | rfl | omega) ?_; (conv => whnf)) | (refine nilq ?_; (conv => whnf)) | (refine nilqn ?_; (conv => whnf)) | (refine Al.mk (fun b hb => ?_); (conv => whnf)) | (refine quiet (by kernel_rfl) ?_; (conv => whnf)))))
        refine T_back (i + 1, out, xs.set i q) [some 0, some 1, some 2, some 3, some 4] ?_ ⟨by simp [hl], by dsimp only; omega, ?_, by dsimp only; omega, ?_⟩ (by dsimp only; omega)
        · ((conv => whnf); repeat' (first | exact trivial | exact rfl | apply And.intro); all_goals (first | omega | (simp <;> done) | skip))
        · dsimp only
          rw [take_snoc hi', sentQ_snoc, hqi, hr, ← ho]; simp
        · dsimp only
          rw [take_snoc hi', List.map_append, hx, set_done (by simp; omega) (by simp; omega), List.drop_drop, hqi]
          simp [hr]
      · have hne : q.longs ≠ [] := fun e => by simp [e] at h
        (refine ghost 3 0 rfl (fun v0 => ?_); ((conv => whnf); repeat' (first | (refine Br.mk (fun h => ?_) (fun h => ?_) <;> first | (exfalso; omega) | (exfalso; simp at h; done) | (conv => whnf)) | (refine Ob.mk (by first | omega | exact Hp.le_refl _ | (simp; omega)) ?_; (conv => whnf)) | (refine ix_nat (by omega) ?_; (conv => whnf)) | (refine ix_int (by omega) ?_; (conv => whnf)) | (refine wr_i64 (by omega) ?_; (conv => whnf)) | (refine qu_pos (by omega) ?_; (conv => whnf)) | (refine rm_pos (by omega) ?_; (conv => whnf)) | (refine pk _ rfl ?_; (conv => whnf)) | (refine And.intro (by first | rfl | omega) ?_; (conv => whnf)) | (refine nilq ?_; (conv => whnf)) | (refine nilqn ?_; (conv => whnf)) | (refine Al.mk (fun b hb => ?_); (conv => whnf)) | (refine quiet (by kernel_rfl) ?_; (conv => whnf)))))
        refine T_loop (fun (y : List Int × Int × Int × List Int) => ⟨[(6, .one (.ptr 5 0 0 0)), (5, .one (.int .i64 i)), (12, .one (.int .i64 i)), (11, .one (.int .i64 t.queues.length)), (10, .one (.slc 3 xs.length)), (4, .one (.slc 4 y.2.2.2.length)), (2, .one (.ptr 2 0 0 0)), (1, .one (.ptr 1 0 0 0))],
            [.row false 3 encQ t.queues, .box [.int .i64 t.quantum, .slc 3 xs.length, .int .i64 t.rounds], .box [.int .i64 0, .nil, .int .i64 0], .opn true 3 encQ xs i [.val v0, .int .i64 q.deficit, .int .i64 q.sent], .row true 1 encInt y.2.2.2, .box [.slc 6 y.1.length, .int .i64 y.2.1, .int .i64 y.2.2.1], .row true 1 encInt y.1]⟩)
          (fun y => ∃ j, y.2.2.2 = out ++ List.replicate j (i : Int) ∧ y.1.length + j = q.longs.length ∧ (∀ n ∈ y.1, 1 ≤ n ∧ n ≤ 50) ∧ serve q.longs (q.deficit + t.quantum) q.sent = ((serve y.1 y.2.1 y.2.2.1).1, (serve y.1 y.2.1 y.2.2.1).2 + j) ∧ 0 ≤ y.2.1 ∧ y.2.1 ≤ 150 ∧ 0 ≤ y.2.2.1 ∧ y.2.2.1 ≤ 1000000 + 50 * j) (fun y => y.1.length) (q.longs, q.deficit + t.quantum, q.sent, out) [some 0, some 1, some 2, some 3, some 4, some 6, some 5] ?_ ⟨0, by simp, by simp, hq.longs, by simp, by dsimp only; omega, by dsimp only; omega, h3, by dsimp only; omega⟩ (fun y hy => ?_)
        · ((conv => whnf); repeat' (first | exact trivial | exact rfl | apply And.intro); all_goals (first | omega | (simp <;> done) | skip))
        · obtain ⟨l, d, s, out2⟩ := y
          obtain ⟨j, k1, k2, k3, k4, k5, k6, k7, k8⟩ := hy
          dsimp only at k1 k2 k3 k4 k5 k6 k7 k8 ⊢
          cases l with
          | nil =>
            have hz : ([] : List Int).length = 0 := rfl
            (refine run 600 ?_; (conv => whnf); repeat' (first | (refine Br.mk (fun h => ?_) (fun h => ?_) <;> first | (exfalso; omega) | (exfalso; simp at h; done) | (conv => whnf)) | (refine Ob.mk (by first | omega | exact Hp.le_refl _ | (simp; omega)) ?_; (conv => whnf)) | (refine ix_nat (by omega) ?_; (conv => whnf)) | (refine ix_int (by omega) ?_; (conv => whnf)) | (refine wr_i64 (by omega) ?_; (conv => whnf)) | (refine qu_pos (by omega) ?_; (conv => whnf)) | (refine rm_pos (by omega) ?_; (conv => whnf)) | (refine pk _ rfl ?_; (conv => whnf)) | (refine And.intro (by first | rfl | omega) ?_; (conv => whnf)) | (refine nilq ?_; (conv => whnf)) | (refine nilqn ?_; (conv => whnf)) | (refine Al.mk (fun b hb => ?_); (conv => whnf)) | (refine quiet (by kernel_rfl) ?_; (conv => whnf))))
            have hr : roundQ t.quantum q = (⟨[], 0, s⟩, j) := by simp [roundQ, hne, k4, serve, settle]
            (refine close 3 ((⟨[], 0, s⟩ : Qd)) rfl ?_; ((conv => whnf); repeat' (first | (refine Br.mk (fun h => ?_) (fun h => ?_) <;> first | (exfalso; omega) | (exfalso; simp at h; done) | (conv => whnf)) | (refine Ob.mk (by first | omega | exact Hp.le_refl _ | (simp; omega)) ?_; (conv => whnf)) | (refine ix_nat (by omega) ?_; (conv => whnf)) | (refine ix_int (by omega) ?_; (conv => whnf)) | (refine wr_i64 (by omega) ?_; (conv => whnf)) | (refine qu_pos (by omega) ?_; (conv => whnf)) | (refine rm_pos (by omega) ?_; (conv => whnf)) | (refine pk _ rfl ?_; (conv => whnf)) | (refine And.intro (by first | rfl | omega) ?_; (conv => whnf)) | (refine nilq ?_; (conv => whnf)) | (refine nilqn ?_; (conv => whnf)) | (refine Al.mk (fun b hb => ?_); (conv => whnf)) | (refine quiet (by kernel_rfl) ?_; (conv => whnf)))))
            refine T_back (i + 1, out2, xs.set i ⟨[], 0, s⟩) [some 0, some 1, some 2, some 3, some 4] ?_ ⟨by simp [hl], by dsimp only; omega, ?_, ?_, ?_⟩ (by dsimp only; omega)
            · ((conv => whnf); repeat' (first | exact trivial | exact rfl | apply And.intro); all_goals (first | omega | (simp <;> done) | skip))
            · dsimp only
              rw [take_snoc hi', sentQ_snoc, hqi, hr, ← ho, k1]; simp; omega
            · dsimp only
              rw [k1]; simp; omega
            · dsimp only
              rw [take_snoc hi', List.map_append, hx, set_done (by simp; omega) (by simp; omega), List.drop_drop, hqi]
              simp [hr]
          | cons n l =>
          have hn := k3 n (by simp)
          have hlen : (n :: l).length = l.length + 1 := rfl
          have hg0 : (n :: l)[Int.toNat 0]'(by simp) = n := rfl
          (refine run 600 ?_; (conv => whnf); repeat' (first | (refine Br.mk (fun h => ?_) (fun h => ?_) <;> first | (exfalso; omega) | (exfalso; simp at h; done) | (conv => whnf)) | (refine Ob.mk (by first | omega | exact Hp.le_refl _ | (simp; omega)) ?_; (conv => whnf)) | (refine ix_nat (by omega) ?_; (conv => whnf)) | (refine ix_int (by omega) ?_; (conv => whnf)) | (refine wr_i64 (by omega) ?_; (conv => whnf)) | (refine qu_pos (by omega) ?_; (conv => whnf)) | (refine rm_pos (by omega) ?_; (conv => whnf)) | (refine pk _ rfl ?_; (conv => whnf)) | (refine And.intro (by first | rfl | omega) ?_; (conv => whnf)) | (refine nilq ?_; (conv => whnf)) | (refine nilqn ?_; (conv => whnf)) | (refine Al.mk (fun b hb => ?_); (conv => whnf))))
          (refine quiet (by kernel_rfl) ?_; ((conv => whnf); repeat' (first | (refine Br.mk (fun h => ?_) (fun h => ?_) <;> first | (exfalso; omega) | (exfalso; simp at h; done) | (conv => whnf)) | (refine Ob.mk (by first | omega | exact Hp.le_refl _ | (simp; omega)) ?_; (conv => whnf)) | (refine ix_nat (by omega) ?_; (conv => whnf)) | (refine ix_int (by omega) ?_; (conv => whnf)) | (refine wr_i64 (by omega) ?_; (conv => whnf)) | (refine qu_pos (by omega) ?_; (conv => whnf)) | (refine rm_pos (by omega) ?_; (conv => whnf)) | (refine pk _ rfl ?_; (conv => whnf)) | (refine And.intro (by first | rfl | omega) ?_; (conv => whnf)) | (refine nilq ?_; (conv => whnf)) | (refine nilqn ?_; (conv => whnf)) | (refine Al.mk (fun b hb => ?_); (conv => whnf)))))
          · (refine tail 8 (by kernel_rfl) ?_; ((conv => whnf); repeat' (first | (refine Br.mk (fun h => ?_) (fun h => ?_) <;> first | (exfalso; omega) | (exfalso; simp at h; done) | (conv => whnf)) | (refine Ob.mk (by first | omega | exact Hp.le_refl _ | (simp; omega)) ?_; (conv => whnf)) | (refine ix_nat (by omega) ?_; (conv => whnf)) | (refine ix_int (by omega) ?_; (conv => whnf)) | (refine wr_i64 (by omega) ?_; (conv => whnf)) | (refine qu_pos (by omega) ?_; (conv => whnf)) | (refine rm_pos (by omega) ?_; (conv => whnf)) | (refine pk _ rfl ?_; (conv => whnf)) | (refine And.intro (by first | rfl | omega) ?_; (conv => whnf)) | (refine nilq ?_; (conv => whnf)) | (refine nilqn ?_; (conv => whnf)) | (refine Al.mk (fun b hb => ?_); (conv => whnf)))))
            (refine tail 8 (by kernel_rfl) ?_; ((conv => whnf); repeat' (first | (refine Br.mk (fun h => ?_) (fun h => ?_) <;> first | (exfalso; omega) | (exfalso; simp at h; done) | (conv => whnf)) | (refine Ob.mk (by first | omega | exact Hp.le_refl _ | (simp; omega)) ?_; (conv => whnf)) | (refine ix_nat (by omega) ?_; (conv => whnf)) | (refine ix_int (by omega) ?_; (conv => whnf)) | (refine wr_i64 (by omega) ?_; (conv => whnf)) | (refine qu_pos (by omega) ?_; (conv => whnf)) | (refine rm_pos (by omega) ?_; (conv => whnf)) | (refine pk _ rfl ?_; (conv => whnf)) | (refine And.intro (by first | rfl | omega) ?_; (conv => whnf)) | (refine nilq ?_; (conv => whnf)) | (refine nilqn ?_; (conv => whnf)) | (refine Al.mk (fun b hb => ?_); (conv => whnf)))))
            (refine cutOwn ?_; ((conv => whnf); repeat' (first | (refine Br.mk (fun h => ?_) (fun h => ?_) <;> first | (exfalso; omega) | (exfalso; simp at h; done) | (conv => whnf)) | (refine Ob.mk (by first | omega | exact Hp.le_refl _ | (simp; omega)) ?_; (conv => whnf)) | (refine ix_nat (by omega) ?_; (conv => whnf)) | (refine ix_int (by omega) ?_; (conv => whnf)) | (refine wr_i64 (by omega) ?_; (conv => whnf)) | (refine qu_pos (by omega) ?_; (conv => whnf)) | (refine rm_pos (by omega) ?_; (conv => whnf)) | (refine pk _ rfl ?_; (conv => whnf)) | (refine And.intro (by first | rfl | omega) ?_; (conv => whnf)) | (refine nilq ?_; (conv => whnf)) | (refine nilqn ?_; (conv => whnf)) | (refine Al.mk (fun b hb => ?_); (conv => whnf)))))
            (refine blit tokz ?_; ((conv => whnf); repeat' (first | (refine Br.mk (fun h => ?_) (fun h => ?_) <;> first | (exfalso; omega) | (exfalso; simp at h; done) | (conv => whnf)) | (refine Ob.mk (by first | omega | exact Hp.le_refl _ | (simp; omega)) ?_; (conv => whnf)) | (refine ix_nat (by omega) ?_; (conv => whnf)) | (refine ix_int (by omega) ?_; (conv => whnf)) | (refine wr_i64 (by omega) ?_; (conv => whnf)) | (refine qu_pos (by omega) ?_; (conv => whnf)) | (refine rm_pos (by omega) ?_; (conv => whnf)) | (refine pk _ rfl ?_; (conv => whnf)) | (refine And.intro (by first | rfl | omega) ?_; (conv => whnf)) | (refine nilq ?_; (conv => whnf)) | (refine nilqn ?_; (conv => whnf)) | (refine Al.mk (fun b hb => ?_); (conv => whnf)))))
            (refine append1 tokz 1 encInt out2 (i : Int) ?_; (conv => whnf); refine Ob.mk (by rw [k1]; simp; omega) ?_; ((conv => whnf); repeat' (first | (refine Br.mk (fun h => ?_) (fun h => ?_) <;> first | (exfalso; omega) | (exfalso; simp at h; done) | (conv => whnf)) | (refine Ob.mk (by first | omega | exact Hp.le_refl _ | (simp; omega)) ?_; (conv => whnf)) | (refine ix_nat (by omega) ?_; (conv => whnf)) | (refine ix_int (by omega) ?_; (conv => whnf)) | (refine wr_i64 (by omega) ?_; (conv => whnf)) | (refine qu_pos (by omega) ?_; (conv => whnf)) | (refine rm_pos (by omega) ?_; (conv => whnf)) | (refine pk _ rfl ?_; (conv => whnf)) | (refine And.intro (by first | rfl | omega) ?_; (conv => whnf)) | (refine nilq ?_; (conv => whnf)) | (refine nilqn ?_; (conv => whnf)) | (refine Al.mk (fun b hb => ?_); (conv => whnf)))))
            refine T_back (l, d - n, s + n, out2 ++ [(i : Int)]) [some 0, some 1, some 2, some 3, some 9, some 5, some 7] ?_ ⟨j + 1, by dsimp only; rw [k1, List.replicate_succ']; simp, by dsimp only; omega, fun m hm => k3 m (by simp [hm]), ?_, by dsimp only; omega, by dsimp only; omega, by dsimp only; omega, by dsimp only; omega⟩ (by dsimp only; omega)
            · ((conv => whnf); repeat' (first | exact trivial | exact rfl | apply And.intro); all_goals (first | omega | (simp <;> done) | skip))
            · have : n ≤ d := by omega
              rw [k4]
              simp only [serve, this, if_true]
              ext <;> simp; omega
          · have hr : roundQ t.quantum q = (⟨n :: l, d, s⟩, j) := by
              have : ¬ n ≤ d := by omega
              simp [roundQ, hne, k4, serve, settle, this]
            (refine close 3 ((⟨n :: l, d, s⟩ : Qd)) rfl ?_; ((conv => whnf); repeat' (first | (refine Br.mk (fun h => ?_) (fun h => ?_) <;> first | (exfalso; omega) | (exfalso; simp at h; done) | (conv => whnf)) | (refine Ob.mk (by first | omega | exact Hp.le_refl _ | (simp; omega)) ?_; (conv => whnf)) | (refine ix_nat (by omega) ?_; (conv => whnf)) | (refine ix_int (by omega) ?_; (conv => whnf)) | (refine wr_i64 (by omega) ?_; (conv => whnf)) | (refine qu_pos (by omega) ?_; (conv => whnf)) | (refine rm_pos (by omega) ?_; (conv => whnf)) | (refine pk _ rfl ?_; (conv => whnf)) | (refine And.intro (by first | rfl | omega) ?_; (conv => whnf)) | (refine nilq ?_; (conv => whnf)) | (refine nilqn ?_; (conv => whnf)) | (refine Al.mk (fun b hb => ?_); (conv => whnf)) | (refine quiet (by kernel_rfl) ?_; (conv => whnf)))))
            refine T_back (i + 1, out2, xs.set i ⟨n :: l, d, s⟩) [some 0, some 1, some 2, some 3, some 4] ?_ ⟨by simp [hl], by dsimp only; omega, ?_, ?_, ?_⟩ (by dsimp only; omega)
            · ((conv => whnf); repeat' (first | exact trivial | exact rfl | apply And.intro); all_goals (first | omega | (simp <;> done) | skip))
            · dsimp only
              rw [take_snoc hi', sentQ_snoc, hqi, hr, ← ho, k1]; simp; omega
            · dsimp only
              rw [k1]; simp; omega
            · dsimp only
              rw [take_snoc hi', List.map_append, hx, set_done (by simp; omega) (by simp; omega), List.drop_drop, hqi]
              simp [hr]
    · have hxe : xs = (roundT t).queues := by rw [hx, List.take_of_length_le (by omega), List.drop_of_length_le (by omega)]; simp [roundT]
      have hoe : out = sentQ t.quantum 0 t.queues := by rw [ho, List.take_of_length_le (by omega)]
      subst hxe hoe
      (refine callG [some 3] ( l14Own_spec (roundT t) (small_round ht)) (by ((conv => whnf) <;> first | exact trivial | rfl | assumption | omega | (simp_all; done))) (by ((conv => whnf); repeat' (first | exact trivial | exact rfl | apply And.intro); all_goals (first | omega | (simp <;> done) | skip))) ?_; rintro _ _ ⟨rfl, rfl⟩; ((conv => whnf); repeat' (first | (refine Br.mk (fun h => ?_) (fun h => ?_) <;> first | (exfalso; omega) | (exfalso; simp at h; done) | (conv => whnf)) | (refine Ob.mk (by first | omega | exact Hp.le_refl _ | (simp; omega)) ?_; (conv => whnf)) | (refine ix_nat (by omega) ?_; (conv => whnf)) | (refine ix_int (by omega) ?_; (conv => whnf)) | (refine wr_i64 (by omega) ?_; (conv => whnf)) | (refine qu_pos (by omega) ?_; (conv => whnf)) | (refine rm_pos (by omega) ?_; (conv => whnf)) | (refine pk _ rfl ?_; (conv => whnf)) | (refine And.intro (by first | rfl | omega) ?_; (conv => whnf)) | (refine nilq ?_; (conv => whnf)) | (refine nilqn ?_; (conv => whnf)) | (refine Al.mk (fun b hb => ?_); (conv => whnf)) | (refine quiet (by kernel_rfl) ?_; (conv => whnf)))))
      (refine T_ret _ rfl ?_; (conv => whnf); refine retS _ _ [some 0, some 5, some 4] ⟨rfl, rfl⟩ ?_; (conv => whnf))
      ((repeat' (first | exact trivial | exact rfl | apply And.intro)) <;> try decide)
def nextT (t : Td) : Td × List Int × Bool := if GoodT t ∧ GoodT (roundT t) then (roundT t, sentQ t.quantum 0 t.queues, true) else (⟨0, [], 0⟩, [], false)
theorem nextT_bad {t : Td} (h : ¬ (GoodT t ∧ GoodT (roundT t))) : nextT t = (⟨0, [], 0⟩, [], false) := by simp only [nextT, if_neg h]
theorem nextT_good {t : Td} (h : GoodT t) (h' : GoodT (roundT t)) : nextT t = (roundT t, sentQ t.quantum 0 t.queues, true) := by simp only [nextT, if_pos (And.intro h h')]
theorem specNextRound_spec (t : Td) (ht : SmallT t) : FSpec Try.prog 9 [.agg [.int .i64 t.quantum, .slc 0 t.queues.length, .int .i64 t.rounds]] [.row false 3 encQ t.queues] (fun r p => r = .tup [.agg [.int .i64 (nextT t).1.quantum, .slc 1 (nextT t).1.queues.length, .int .i64 (nextT t).1.rounds], .one (.slc 2 (nextT t).2.1.length), .one (.bool (nextT t).2.2)] ∧ p = [.row false 3 encQ t.queues, .row true 3 encQ (nextT t).1.queues, .row true 1 encInt (nextT t).2.1]) := by
  refine spec_enter tab tok Try.func9 rfl rfl rfl _ 1 Try.ntmps9 rfl (fun F ρ => ?_)
  (conv => whnf)
  have hm := ht.many
  (refine run 600 ?_; (conv => whnf); repeat' (first | (refine Br.mk (fun h => ?_) (fun h => ?_) <;> first | (exfalso; omega) | (exfalso; simp at h; done) | (conv => whnf)) | (refine Ob.mk (by first | omega | exact Hp.le_refl _ | (simp; omega)) ?_; (conv => whnf)) | (refine ix_nat (by omega) ?_; (conv => whnf)) | (refine ix_int (by omega) ?_; (conv => whnf)) | (refine wr_i64 (by omega) ?_; (conv => whnf)) | (refine qu_pos (by omega) ?_; (conv => whnf)) | (refine rm_pos (by omega) ?_; (conv => whnf)) | (refine pk _ rfl ?_; (conv => whnf)) | (refine And.intro (by first | rfl | omega) ?_; (conv => whnf)) | (refine nilq ?_; (conv => whnf)) | (refine nilqn ?_; (conv => whnf)) | (refine Al.mk (fun b hb => ?_); (conv => whnf)) | (refine quiet (by kernel_rfl) ?_; (conv => whnf))))
  (refine callG [some 0] ( specGoodTurns_spec t ht) (by ((conv => whnf) <;> first | exact trivial | rfl | assumption | omega | (simp_all; done))) (by ((conv => whnf); repeat' (first | exact trivial | exact rfl | apply And.intro); all_goals (first | omega | (simp <;> done) | skip))) ?_; rintro _ _ ⟨rfl, rfl⟩; ((conv => whnf); repeat' (first | (refine Br.mk (fun h => ?_) (fun h => ?_) <;> first | (exfalso; omega) | (exfalso; simp at h; done) | (conv => whnf)) | (refine Ob.mk (by first | omega | exact Hp.le_refl _ | (simp; omega)) ?_; (conv => whnf)) | (refine ix_nat (by omega) ?_; (conv => whnf)) | (refine ix_int (by omega) ?_; (conv => whnf)) | (refine wr_i64 (by omega) ?_; (conv => whnf)) | (refine qu_pos (by omega) ?_; (conv => whnf)) | (refine rm_pos (by omega) ?_; (conv => whnf)) | (refine pk _ rfl ?_; (conv => whnf)) | (refine And.intro (by first | rfl | omega) ?_; (conv => whnf)) | (refine nilq ?_; (conv => whnf)) | (refine nilqn ?_; (conv => whnf)) | (refine Al.mk (fun b hb => ?_); (conv => whnf)) | (refine quiet (by kernel_rfl) ?_; (conv => whnf)))))
  · have hb : ¬ (GoodT t ∧ GoodT (roundT t)) := fun hh => by simp [hh.1] at h
    rw [nextT_bad hb]
    (refine T_ret _ rfl ?_; (conv => whnf); refine retS _ _ [some 0, none, none] ⟨rfl, rfl⟩ ?_; (conv => whnf))
    ((repeat' (first | exact trivial | exact rfl | apply And.intro)) <;> try decide)
  · have hg : GoodT t := by simpa using h
    (refine callG [some 0] ( l14Round_spec t hg ht) (by ((conv => whnf) <;> first | exact trivial | rfl | assumption | omega | (simp_all; done))) (by ((conv => whnf); repeat' (first | exact trivial | exact rfl | apply And.intro); all_goals (first | omega | (simp <;> done) | skip))) ?_; rintro _ _ ⟨rfl, rfl⟩; ((conv => whnf); repeat' (first | (refine Br.mk (fun h => ?_) (fun h => ?_) <;> first | (exfalso; omega) | (exfalso; simp at h; done) | (conv => whnf)) | (refine Ob.mk (by first | omega | exact Hp.le_refl _ | (simp; omega)) ?_; (conv => whnf)) | (refine ix_nat (by omega) ?_; (conv => whnf)) | (refine ix_int (by omega) ?_; (conv => whnf)) | (refine wr_i64 (by omega) ?_; (conv => whnf)) | (refine qu_pos (by omega) ?_; (conv => whnf)) | (refine rm_pos (by omega) ?_; (conv => whnf)) | (refine pk _ rfl ?_; (conv => whnf)) | (refine And.intro (by first | rfl | omega) ?_; (conv => whnf)) | (refine nilq ?_; (conv => whnf)) | (refine nilqn ?_; (conv => whnf)) | (refine Al.mk (fun b hb => ?_); (conv => whnf)) | (refine quiet (by kernel_rfl) ?_; (conv => whnf)))))
    (refine callG [some 3] ( specGoodTurns_spec (roundT t) (small_round ht)) (by ((conv => whnf) <;> first | exact trivial | rfl | assumption | omega | (simp_all; done))) (by ((conv => whnf); repeat' (first | exact trivial | exact rfl | apply And.intro); all_goals (first | omega | (simp <;> done) | skip))) ?_; rintro _ _ ⟨rfl, rfl⟩; ((conv => whnf); repeat' (first | (refine Br.mk (fun h => ?_) (fun h => ?_) <;> first | (exfalso; omega) | (exfalso; simp at h; done) | (conv => whnf)) | (refine Ob.mk (by first | omega | exact Hp.le_refl _ | (simp; omega)) ?_; (conv => whnf)) | (refine ix_nat (by omega) ?_; (conv => whnf)) | (refine ix_int (by omega) ?_; (conv => whnf)) | (refine wr_i64 (by omega) ?_; (conv => whnf)) | (refine qu_pos (by omega) ?_; (conv => whnf)) | (refine rm_pos (by omega) ?_; (conv => whnf)) | (refine pk _ rfl ?_; (conv => whnf)) | (refine And.intro (by first | rfl | omega) ?_; (conv => whnf)) | (refine nilq ?_; (conv => whnf)) | (refine nilqn ?_; (conv => whnf)) | (refine Al.mk (fun b hb => ?_); (conv => whnf)) | (refine quiet (by kernel_rfl) ?_; (conv => whnf)))))
    · have hb : ¬ (GoodT t ∧ GoodT (roundT t)) := fun hh => by simp [hh.2] at h
      rw [nextT_bad hb]
      (refine T_ret _ rfl ?_; (conv => whnf); refine retS _ _ [some 0, none, none] ⟨rfl, rfl⟩ ?_; (conv => whnf))
      ((repeat' (first | exact trivial | exact rfl | apply And.intro)) <;> try decide)
    · have hg' : GoodT (roundT t) := by simpa using h
      rw [nextT_good hg hg']
      (refine T_ret _ rfl ?_; (conv => whnf); refine retS _ _ [some 0, some 3, some 4] ⟨rfl, rfl⟩ ?_; (conv => whnf))
      ((repeat' (first | exact trivial | exact rfl | apply And.intro)) <;> try decide)
end Go.Proofs.Ythdbhlpceodhlaa
