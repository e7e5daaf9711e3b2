/- A part of the framework that the proofs of this seat stand on: a separation logic over the model's walks, with a runner that Lean evaluates. It is proved here, without conditions of its own. -/
import Derived.Test.YthdbhlpceodhlaaSxN
set_option linter.unusedVariables false
set_option linter.unusedSimpArgs false
namespace Go.Proofs.Ythdbhlpceodhlaa.Sx
open Go

/-! ### 24. append, make, literals, slices of slices: rules -/
theorem step_T {X : Cx} {all rest : List Oper} {o : Oper} {ks : List KI} {s : St} {s' : St} (hg : o.guard = none) (hst : StepTo X.tb X.nt o s s') (h : T X (.ops all rest :: ks) s') : T X (.ops all (o :: rest) :: ks) s :=
  T_op (fun a F ρ w hs => by simp [Region.wanted, hg]) hst h
theorem ownL_one {h : Hp} {d : D} {vs : List Value} (e : D.ownL h [d] vs) : ∃ v, vs = [v] ∧ D.own h d v := by
  obtain ⟨v, r, h1, h2, rfl, e2, e3, e4, e5, e6⟩ := e
  simp [D.ownL] at e6
  subst e6
  exact ⟨v, rfl, D.own_mono e2 _ _ e5⟩
theorem denL_one {ρ : List LocV} {c : SC} {v : Value} (h : c.den ρ v) : SC.denL ρ [c] [v] := ⟨v, [], rfl, h, rfl⟩
theorem put_env {F : Fr} {nt : Nat} {ρ : List LocV} {env : List (Nat × SV)} {chs : List Chunk} {a : Act} {w : World} (h1 : a.defers = []) (h2 : a.tmps.size = nt) (h3 : ρ.length = chs.length) (h4 : EnvOk ρ env a) (h5 : Mem F ρ chs w) : Sat F nt ρ ⟨env, chs⟩ a w := ⟨h1, h2, h3, h4, h5⟩

/-- What append asks of the types: the slices', the elements'. -/
def apTyK (tb : Tab) (t t' sz : Nat) (K : Nat → Prop) : Prop :=
  match tfind tb t, tfind tb t' with
  | some ⟨_, _, .slice e, _⟩, some ⟨_, _, .slice e', _⟩ => match Nat.beq e e' with
    | true => match tfind tb e with
      | some ⟨s, bytes, _, _⟩ => match Nat.beq s sz with
        | true => K bytes
        | false => False
      | none => False
    | false => False
  | _, _ => False
theorem zeroB_length : ∀ {xs : List SC} {vs : List Value}, zeroB xs vs = true → vs.length = xs.length := fun h => SC.denL_length (zeroB_den (ρ := []) h)
def zszB (tb : Tab) : Bool := tb.all fun x => Nat.beq x.2.zero.length x.2.sz
theorem zsz {tb : Tab} (h : zszB tb = true) {t : Nat} {i : TyI} (hf : tfind tb t = some i) : i.zero.length = i.sz := by
  have : ∀ {l : Tab}, (l.all fun x => Nat.beq x.2.zero.length x.2.sz) = true → tfind l t = some i → i.zero.length = i.sz := by
    intro l
    induction l with
    | nil => intro _ hf; simp [tfind] at hf
    | cons x r ih =>
      intro hl hf
      obtain ⟨k, v⟩ := x
      simp only [List.all_cons, Bool.and_eq_true] at hl
      simp only [tfind] at hf
      split at hf
      · cases hf; exact Nat.eq_of_beq_eq_true hl.1
      · exact ih hl.2 hf
  exact this h hf
theorem apTyK_out {tb : Tab} {t t' sz : Nat} {K : Nat → Prop} (hz : zszB tb = true) (h : apTyK tb t t' sz K) : ∃ bytes, K bytes ∧ ∀ {P : Program}, TabOk P tb → ∃ e i z, P.underlying t = some (.slice e) ∧ P.underlying t' = some (.slice e) ∧ P.info? e = some i ∧ i.zero = some z ∧ z.cells.size = i.size ∧ i.size = sz ∧ i.bytes = bytes := by
  unfold apTyK at h
  split at h
  · rename_i h1 h2
    split at h
    · rename_i hb
      have := Nat.eq_of_beq_eq_true hb
      subst this
      split at h
      · rename_i s bytes k z he
        split at h
        · rename_i hs
          have := Nat.eq_of_beq_eq_true hs
          subst this
          refine ⟨bytes, h, fun {P} ht => ?_⟩
          obtain ⟨x1, d1, z1, a1, a2, a3, a4, a5, a6, a7⟩ := (tabB_find ht.1 h1).ex
          obtain ⟨x2, d2, z2, b1, b2, b3, b4, b5, b6, b7⟩ := (tabB_find ht.1 h2).ex
          obtain ⟨x3, d3, z3, c1, c2, c3, c4, c5, c6, c7⟩ := (tabB_find ht.1 he).ex
          have e1 := kindB_slice a5
          have e2 := kindB_slice b5
          subst e1 e2
          refine ⟨_, x3, z3, a2, b2, c1, c6, ?_, c3, c4⟩
          have := zeroB_length c7
          have h2 := zsz hz he
          simp at this h2
          rw [c3, this, h2]
        · exact h.elim
      · exact h.elim
    · exact h.elim
  · exact h.elim

/-- append(a, one more): the row, the element's cells, taken in. -/
def ap1K (tb : Tab) (nt : Nat) (env : List (Nat × SV)) (chs : List Chunk) (oa ob : Operand) (t t' d : Nat) {α : Type} (sz : Nat) (enc : α → List D) (xs : List α) (x : α) (C : List (Nat × SV) → List Chunk → Prop) : Prop :=
  opdK env oa (fun sa => match sa with
    | .one ca => opdK env ob (fun sb => match sb with
      | .one (.slc m 1) => match chs[m]? with
        | some (.box cells) => match Nat.beq cells.length sz with
          | true => apTyK tb t t' sz (fun bytes => Ob ((xs.length + 1) * bytes ≤ 140737488355328 ∧ xs.length + 1 ≤ 281474976710656) fun _ =>
              absK chs [.row sz enc xs] [ca] (fun chs1 => setK .dead m chs1 (fun chs2 => absK chs2 (enc x) cells (fun chs3 => newK chs3 (.row true sz enc (xs ++ [x])) (fun n chs4 => putK nt (some d) (.one (.slc n (xs ++ [x]).length)) env (fun env => C env chs4) False) False))))
          | false => False
        | _ => False
      | _ => False) False
    | _ => False) False
theorem ap1K_step {tb : Tab} (hz : zszB tb = true) {nt : Nat} {env : List (Nat × SV)} {chs : List Chunk} {oa ob : Operand} {t t' d : Nat} {ty : TypeId} {pos : String} {after : Array Edge} {α : Type} {sz : Nat} {enc : α → List D} {xs : List α} {x : α} {C : List (Nat × SV) → List Chunk → Prop}
    (h : ap1K tb nt env chs oa ob t t' d sz enc xs x C) : ∃ env' chs', C env' chs' ∧ StepTo tb nt { dst := some d, op := .call { callee := .builtin .append, args := #[oa, ob], argTypes := #[t, t'] }, type := ty, pos := pos, after := after, guard := none } ⟨env, chs⟩ ⟨env', chs'⟩ := by
  unfold ap1K at h
  rcases opdK_out h with h | ⟨sa, h2, hsa⟩
  · exact h.elim
  clear h
  split at h2
  · rename_i ca
    rcases opdK_out h2 with h | ⟨sb, h3, hsb⟩
    · exact h.elim
    clear h2
    split at h3
    · rename_i m
      split at h3
      · rename_i cells hc
        split at h3
        · rename_i hcl
          have hcl := Nat.eq_of_beq_eq_true hcl
          obtain ⟨bytes, ⟨⟨hb, hmx⟩, h4⟩, hty⟩ := apTyK_out hz h3
          obtain ⟨chs1, k1, k2, k3, k4⟩ := absK_out h4
          rw [setK_eq] at k1
          obtain ⟨chs3, j1, j2, j3, j4⟩ := absK_out k1
          rcases newK_out j1 with h | j1
          · exact h.elim
          rcases putK_out j1 with h | ⟨env', j1, hput⟩
          · exact h.elim
          refine ⟨env', _, j1, ?_⟩
          intro P F ρ a w ht hs
          obtain ⟨e, i, z, e1, e2, e3, e4, e5, e6, e7⟩ := hty ht
          obtain ⟨hs0, m0⟩ := hs.mem
          have hva := hsa ρ a hs.env
          have hvb := hsb ρ a hs.env
          obtain ⟨⟨hr, hs1, q1, q2, q3, q4, q5, q6, q7⟩⟩ := k4 m0 (denL_one hva)
          obtain ⟨va, hva', hrow⟩ := ownL_one q2
          simp at hva'
          obtain ⟨A, c, hav, hrow⟩ := D.own_row.1 hrow
          have hc1 : chs1[m]? = some (.box cells) := by
            rcases k3 m with h | ⟨_, α', a', b', c', h5⟩
            · rw [h]; exact hc
            · rw [hc] at h5; cases h5
          obtain ⟨lx, bm, Cm, tm, f1, f2, f3, f4, f5⟩ := q1.ok m _ hc1
          have m2 := memH_dead q1 m
          obtain ⟨⟨he, hs3, r1, r2, r3, r4, r5, r6, r7⟩⟩ := j4 m2 f5
          have hCm : Cm.toList.length = sz := by rw [SC.denL_length f5, hcl]
          have hdj : hr.dj he := r6 hr (fun i => by
            by_cases ei : i = m
            · simp only [if_pos ei]; exact Hp.dj_emp _
            · simp only [if_neg ei]; exact q4 i)
          have hle3 : ∀ i, (hs3 i).le (hs1 i) := fun i => by
            refine Hp.le_trans (r7 i) ?_
            by_cases ei : i = m
            · simp only [if_pos ei]; exact Hp.emp_le _
            · simp only [if_neg ei]; exact Hp.le_refl _
          obtain ⟨lx', f1', hbv⟩ := hvb
          rw [f1] at f1'; cases f1'
          rw [f2] at hbv
          have hone : ∀ u ∈ Cm.toList, u.oneCell' = true := SC.denL_one f5
          have hap := append_core (w := w) (hh := fun j => if j = 0 then he else Hp.emp) (ys := [x]) (ty := ty) (a := ⟨bm, 0, none⟩) (cb := lx.cap) (news := Cm.toList) e1 e2 e3 e4 e5 e6 hrow q3 (by simpa using hCm)
            (fun j u hj => by rw [add_at, cell_of (q1.le m _ _ f4)]; simpa using hj) hone
            (fun j y hj => by
              cases j with
              | zero =>
                simp at hj; subst hj
                simp only [if_true, Nat.zero_mul, List.drop_zero]
                rw [List.take_of_length_le (by omega)]; exact r2
              | succ j => simp at hj)
            (fun j => by by_cases hj : j = 0 <;> simp [hj]; exact r3; exact Hp.emp_le _)
            (fun j k hjk => by
              by_cases hj : j = 0
              · have hk : k ≠ 0 := by omega
                simp only [if_neg hk]; exact Hp.dj_emp _
              · simp only [if_neg hj]; exact Hp.emp_dj _)
            (fun j => by by_cases hj : j = 0 <;> simp [hj]; exact Hp.dj_symm hdj; exact Hp.emp_dj _)
            (by rw [e7]; simpa using hb) (by simpa [maxL] using hmx)
          obtain ⟨A', c', w', h', p1, p2, p3, p4, p5, p6, p7⟩ := hap.ex
          have keep : ∀ i, (hs3 i).le (heapOf w') ∧ (hs3 i).dj h' := fun i => p7 _ (r1.le i) (Hp.dj_of_le (Hp.dj_symm (q4 i)) (hle3 i) (Hp.le_refl _)) (fun j => by
            by_cases hj : j = 0
            · simp only [if_pos hj]; exact Hp.dj_symm (r4 i)
            · simp only [if_neg hj]; exact Hp.dj_emp _)
          have keepF : F.h.le (heapOf w') ∧ F.h.dj h' := p7 _ r1.F.h (Hp.dj_symm q5) (fun j => by
            by_cases hj : j = 0
            · simp only [if_pos hj]; exact Hp.dj_symm r5
            · simp only [if_neg hj]; exact Hp.dj_emp _)
          have hlen3 : ρ.length = chs3.length := by rw [hs.len, j2]; simp [k2]
          have m3 : MemH F ρ chs3 w' hs3 := ⟨r1.ok, r1.dj, r1.djF, fun i => (keep i).1, ⟨p4.trans r1.F.os, p5.trans r1.F.tape, p6.trans r1.F.out, keepF.1⟩⟩
          have m4 := memH_new m3 hlen3 ⟨A', c'⟩ (.row true sz enc (xs ++ [x])) h' p3 (fun i => Hp.dj_symm (keep i).2) (Hp.dj_symm keepF.2) ⟨⟨A', c'⟩, get_snoc _ _, p2⟩
          refine ⟨ρ ++ [⟨A', c'⟩], w', .slice A' (xs ++ [x]).length c', prefix_snoc _ _, hput (put_env hs.nd hs.nt (by simp [hlen3]) (envOk_mono (prefix_snoc _ _) hs.env) ⟨_, m4⟩) ⟨⟨A', c'⟩, by rw [← hlen3]; exact get_snoc _ _, rfl⟩, .inl ?_⟩
          have ea : a.eval oa = .slice A xs.length c := by rw [← hva'] at hav; exact hav
          simp only [execOp, resolve, List.map_toArray, List.map_cons, List.map_nil, invoke, builtin]
          simp [ea, hbv, p1]
          simpa [ea, hbv] using congrArg (fun r => Result.andThen r fun a w' => Result.ok (Next.value a) w') p1
        · exact h3.elim
      · exact h3.elim
    · exact h3.elim
  · exact h2.elim

/-- APPEND ONE. -/
theorem append1 {P : Program} {tb : Tab} {F : Fr} {nt n0 : Nat} {ρ0 : List LocV} {ro : List Chunk} {Q : Exit → Act → World → Prop} {all rest : List Oper} {ks : List KI} {env : List (Nat × SV)} {chs : List Chunk} {d : Nat} {oa ob : Operand} {t t' : Nat} {ty : TypeId} {pos : String} {after : Array Edge}
    (hz : zszB tb = true) {α : Type} (sz : Nat) (enc : α → List D) (xs : List α) (x : α)
    (h : ap1K tb nt env chs oa ob t t' d sz enc xs x (fun env chs => runT tb nt 600 (.ops all rest :: ks) env chs (fun ks env chs => T ⟨P, tb, F, nt, n0, ρ0, ro, Q⟩ ks ⟨env, chs⟩))) :
    T ⟨P, tb, F, nt, n0, ρ0, ro, Q⟩ (.ops all ({ dst := some d, op := .call { callee := .builtin .append, args := #[oa, ob], argTypes := #[t, t'] }, type := ty, pos := pos, after := after, guard := none } :: rest) :: ks) ⟨env, chs⟩ := by
  obtain ⟨env', chs', h1, h2⟩ := ap1K_step (ty := ty) (pos := pos) (after := after) hz h
  exact step_T (X := ⟨P, tb, F, nt, n0, ρ0, ro, Q⟩) rfl h2 (run 600 h1)

/-- append(a, b...), b's elements flat. -/
structure Flat {α : Type} (sz : Nat) (enc : α → List D) : Prop where
  len : ∀ y, (enc y).length = sz
  h : ∀ (y : α) (h g : Hp) (cs : List Value), D.rdL h (enc y) cs → D.ownL g (enc y) cs
def flatD : List D → Bool
  | [] => true
  | .row .. :: _ => false
  | _ :: r => flatD r
theorem flatD_own {h g : Hp} : ∀ {ds : List D} {cs : List Value}, flatD ds = true → D.rdL h ds cs → D.ownL g ds cs
  | [], _, _, e => e
  | .int .. :: r, _, hf, ⟨v, q, e1, e2, e3⟩ => ⟨v, q, Hp.emp, Hp.emp, e1, Hp.emp_le _, Hp.emp_le _, Hp.emp_dj _, e2, flatD_own (by simpa [flatD] using hf) e3⟩
  | .bool .. :: r, _, hf, ⟨v, q, e1, e2, e3⟩ => ⟨v, q, Hp.emp, Hp.emp, e1, Hp.emp_le _, Hp.emp_le _, Hp.emp_dj _, e2, flatD_own (by simpa [flatD] using hf) e3⟩
  | .str .. :: r, _, hf, ⟨v, q, e1, e2, e3⟩ => ⟨v, q, Hp.emp, Hp.emp, e1, Hp.emp_le _, Hp.emp_le _, Hp.emp_dj _, e2, flatD_own (by simpa [flatD] using hf) e3⟩
  | .shr .. :: r, _, hf, ⟨v, q, e1, e2, e3⟩ => ⟨v, q, Hp.emp, Hp.emp, e1, Hp.emp_le _, Hp.emp_le _, Hp.emp_dj _, D.own_shr.2 (D.rd_shr.1 e2), flatD_own (by simpa [flatD] using hf) e3⟩
  | .row .. :: _, _, hf, _ => by simp [flatD] at hf
theorem flat_of {α : Type} {sz : Nat} {enc : α → List D} (hl : ∀ y, (enc y).length = sz) (h : ∀ y, flatD (enc y) = true) : Flat sz enc := ⟨hl, fun y _ _ _ e => flatD_own (h y) e⟩
def apNK (tb : Tab) (nt : Nat) (env : List (Nat × SV)) (chs : List Chunk) (oa ob : Operand) (t t' d : Nat) {α : Type} (sz : Nat) (enc : α → List D) (xs ys : List α) (C : List (Nat × SV) → List Chunk → Prop) : Prop :=
  opdK env oa (fun sa => match sa with
    | .one ca => opdK env ob (fun sb => match sb with
      | .one (.slc m k) => match chs[m]? with
        | some (.row own sz' enc' ys') => Ob (Chunk.row own sz' enc' ys' = Chunk.row own sz enc ys ∧ k = ys.length) fun _ => apTyK tb t t' sz (fun bytes => Ob ((xs.length + ys.length) * bytes ≤ 140737488355328 ∧ xs.length + ys.length ≤ 281474976710656) fun _ =>
              absK chs [.row sz enc xs] [ca] (fun chs1 => newK chs1 (.row true sz enc (xs ++ ys)) (fun n chs4 => putK nt (some d) (.one (.slc n (xs ++ ys).length)) env (fun env => C env chs4) False) False))
        | _ => False
      | _ => False) False
    | _ => False) False
theorem run_append_zero {P : Program} (w : World) (t t' ty e : TypeId) (i : TypeInfo) (ht : P.underlying t = some (.slice e)) (hx : P.underlying t' = some (.slice e)) (hi : P.info? e = some i) (A B : Option Addr) (n c cb : Nat) (h : n ≤ c) :
    (Builtin.append_ #[t, t'] ty #[.slice A n c, .slice B 0 cb]).run P w = .ok (.slice A n c) w := by
  cases A <;> cases B <;> simp [Builtin.append_, run_underlying ht, run_underlying hx, sizeOf, typeInfo, hi, Builtin.lenOf, Builtin.firstCells, loadCells, loadCellsFrom, storeCells, h]
theorem apNK_step {tb : Tab} (hz : zszB tb = true) {nt : Nat} {env : List (Nat × SV)} {chs : List Chunk} {oa ob : Operand} {t t' d : Nat} {ty : TypeId} {pos : String} {after : Array Edge} {α : Type} {sz : Nat} {enc : α → List D} (hflat : Flat sz enc) {xs ys : List α} {C : List (Nat × SV) → List Chunk → Prop}
    (h : apNK tb nt env chs oa ob t t' d sz enc xs ys C) : ∃ env' chs', C env' chs' ∧ StepTo tb nt { dst := some d, op := .call { callee := .builtin .append, args := #[oa, ob], argTypes := #[t, t'] }, type := ty, pos := pos, after := after, guard := none } ⟨env, chs⟩ ⟨env', chs'⟩ := by
  unfold apNK at h
  rcases opdK_out h with h | ⟨sa, h2, hsa⟩
  · exact h.elim
  clear h
  split at h2
  · rename_i ca
    rcases opdK_out h2 with h | ⟨sb, h3, hsb⟩
    · exact h.elim
    clear h2
    split at h3
    · rename_i m k
      split at h3
      · rename_i β own sz' enc' ys' hc
        obtain ⟨⟨heq, rfl⟩, h3⟩ := h3
        rw [heq] at hc
        obtain ⟨bytes, ⟨⟨hb, hmx⟩, h4⟩, hty⟩ := apTyK_out hz h3
        obtain ⟨chs1, k1, k2, k3, k4⟩ := absK_out h4
        rcases newK_out k1 with h | j1
        · exact h.elim
        rcases putK_out j1 with h | ⟨env', j1, hput⟩
        · exact h.elim
        refine ⟨env', _, j1, ?_⟩
        intro P F ρ a w ht hs
        obtain ⟨e, i, z, e1, e2, e3, e4, e5, e6, e7⟩ := hty ht
        obtain ⟨hs0, m0⟩ := hs.mem
        have hva := hsa ρ a hs.env
        have hvb := hsb ρ a hs.env
        obtain ⟨⟨hr, hs1, q1, q2, q3, q4, q5, q6, q7⟩⟩ := k4 m0 (denL_one hva)
        obtain ⟨va, hva', hrow⟩ := ownL_one q2
        simp at hva'
        obtain ⟨A, c, hav, hrow⟩ := D.own_row.1 hrow
        have ea : a.eval oa = .slice A xs.length c := by rw [← hva'] at hav; exact hav
        obtain ⟨lx, f1, hbv⟩ := hvb
        obtain ⟨lx', f1', hrd⟩ := chunk_row.1 (m0.ok m _ hc)
        rw [f1] at f1'; cases f1'
        have hrd := heap_rd m0.F.h (m0.le m) hrd
        have hlen1 : ρ.length = chs1.length := by rw [hs.len, k2]
        -- what append gives
        have hap : Appd w hr (fun _ => Hp.emp) sz enc (xs ++ ys) ((Builtin.append_ #[t, t'] ty #[.slice A xs.length c, .slice lx.addr ys.length lx.cap]).run P w) := by
          rcases Nat.eq_zero_or_pos ys.length with h0 | h0
          · have : ys = [] := List.eq_nil_of_length_eq_zero h0
            subst this
            refine ⟨A, c, w, hr, ?_, by simpa using hrow, q3, rfl, rfl, rfl, fun g hg hd _ => ⟨hg, hd⟩⟩
            simpa using run_append_zero w t t' ty e i e1 e2 e3 A lx.addr xs.length c lx.cap hrow.1
          · obtain ⟨b, o, Cb, tbb, fr, p1, p2, p3⟩ := hrd.2.2.2 h0
            have hszs : ∀ j, j < ys.length → (cut Cb (o + j * sz) sz).length = sz ∨ True := fun _ _ => .inr trivial
            -- the cells of all elements
            have hfull : o + ys.length * sz ≤ Cb.size ∨ ¬ (o + ys.length * sz ≤ Cb.size) := Classical.em _
            rw [p1]
            rcases hfull with hfull | hfull
            · refine append_core (news := cut Cb o (ys.length * sz)) e1 e2 e3 e4 e5 e6 hrow q3 (row_cells _ hfull) ?_ ?_ ?_ (fun _ => Hp.emp_le _) (fun _ _ _ => Hp.emp_dj _) (fun _ => Hp.emp_dj _) (by rw [e7]; exact hb) (by simpa [maxL] using hmx)
              · intro j u hj
                rw [cut_get] at hj
                split at hj
                · rw [add_at, cell_of p2]; exact hj
                · cases hj
              · intro u hu
                obtain ⟨j, hj⟩ := List.getElem?_of_mem hu
                have hjl := (List.getElem?_eq_some_iff.1 hj).1
                rw [row_cells _ hfull] at hjl
                have hsz0 := hrow.2.2.1
                have hdm := Nat.div_add_mod j sz
                have hmlt := Nat.mod_lt j hsz0
                have hdl : j / sz < ys.length := by
                  rw [Nat.div_lt_iff_lt_mul hsz0]; exact hjl
                have hel := p3 (j / sz) _ (List.getElem?_eq_getElem hdl)
                refine D.rdL_one hel u ?_
                refine List.mem_of_getElem? (i := j % sz) ?_
                rw [cut_get, if_pos hmlt]
                rw [cut_get, if_pos hjl] at hj
                rw [← hj]
                congr 1
                rw [Nat.mul_comm (j / sz) sz]; omega
              · intro j y hj
                have hjl := (List.getElem?_eq_some_iff.1 hj).1
                have : (j + 1) * sz ≤ ys.length * sz := Nat.mul_le_mul_right _ hjl
                rw [Nat.add_mul, Nat.one_mul] at this
                rw [cut_cut (by omega)]
                exact hflat.h y _ _ _ (p3 j y hj)
            · -- the last element's cells are there
              exfalso
              have hl1 := D.rdL_length _ _ (p3 (ys.length - 1) _ (List.getElem?_eq_getElem (by omega)))
              rw [hflat.len, cut_len] at hl1
              have hmul : (ys.length - 1) * sz + sz = ys.length * sz := by
                rw [← Nat.succ_mul]; congr 1; omega
              have := hrow.2.2.1
              omega
        obtain ⟨A', c', w', h', p1, p2, p3, p4, p5, p6, p7⟩ := hap.ex
        have keep : ∀ i, (hs1 i).le (heapOf w') ∧ (hs1 i).dj h' := fun i => p7 _ (q1.le i) (Hp.dj_symm (q4 i)) (fun j => Hp.dj_emp _)
        have keepF : F.h.le (heapOf w') ∧ F.h.dj h' := p7 _ q1.F.h (Hp.dj_symm q5) (fun j => Hp.dj_emp _)
        have m3 : MemH F ρ chs1 w' hs1 := ⟨q1.ok, q1.dj, q1.djF, fun i => (keep i).1, ⟨p4.trans q1.F.os, p5.trans q1.F.tape, p6.trans q1.F.out, keepF.1⟩⟩
        have m4 := memH_new m3 hlen1 ⟨A', c'⟩ (.row true sz enc (xs ++ ys)) h' p3 (fun i => Hp.dj_symm (keep i).2) (Hp.dj_symm keepF.2) ⟨⟨A', c'⟩, get_snoc _ _, p2⟩
        refine ⟨ρ ++ [⟨A', c'⟩], w', .slice A' (xs ++ ys).length c', prefix_snoc _ _, hput (put_env hs.nd hs.nt (by simp [hlen1]) (envOk_mono (prefix_snoc _ _) hs.env) ⟨_, m4⟩) ⟨⟨A', c'⟩, by rw [← hlen1]; exact get_snoc _ _, rfl⟩, .inl ?_⟩
        simp only [execOp, resolve, List.map_toArray, List.map_cons, List.map_nil, invoke, builtin]
        simpa [ea, hbv] using congrArg (fun r => Result.andThen r fun a w' => Result.ok (Next.value a) w') p1
      · exact h3.elim
    · exact h3.elim
  · exact h2.elim

/-- APPEND ALL OF A SLICE, its elements flat. -/
theorem appendN {P : Program} {tb : Tab} {F : Fr} {nt n0 : Nat} {ρ0 : List LocV} {ro : List Chunk} {Q : Exit → Act → World → Prop} {all rest : List Oper} {ks : List KI} {env : List (Nat × SV)} {chs : List Chunk} {d : Nat} {oa ob : Operand} {t t' : Nat} {ty : TypeId} {pos : String} {after : Array Edge}
    (hz : zszB tb = true) {α : Type} (sz : Nat) (enc : α → List D) (hflat : Flat sz enc) (xs ys : List α)
    (h : apNK tb nt env chs oa ob t t' d sz enc xs ys (fun env chs => runT tb nt 600 (.ops all rest :: ks) env chs (fun ks env chs => T ⟨P, tb, F, nt, n0, ρ0, ro, Q⟩ ks ⟨env, chs⟩))) :
    T ⟨P, tb, F, nt, n0, ρ0, ro, Q⟩ (.ops all ({ dst := some d, op := .call { callee := .builtin .append, args := #[oa, ob], argTypes := #[t, t'] }, type := ty, pos := pos, after := after, guard := none } :: rest) :: ks) ⟨env, chs⟩ := by
  obtain ⟨env', chs', h1, h2⟩ := apNK_step (ty := ty) (pos := pos) (after := after) hz hflat h
  exact step_T (X := ⟨P, tb, F, nt, n0, ρ0, ro, Q⟩) rfl h2 (run 600 h1)

/-! ### 25. make; a literal; nil; what is only read from here on; slices of slices -/
def mkK (tb : Tab) (nt : Nat) (env : List (Nat × SV)) (chs : List Chunk) (t d : Nat) (ol oc : Operand) {α : Type} (enc : α → List D) (x0 : α) (n c : Nat) (C : List (Nat × SV) → List Chunk → Prop) : Prop :=
  opdK env ol (fun sl => match sl with
    | .one (.int _ l) => opdK env oc (fun sc => match sc with
      | .one (.int _ c') => match tfind tb t with
        | some ⟨_, _, .slice e, _⟩ => match tfind tb e with
          | some ⟨sz, bytes, _, zero⟩ => Ob (l = (n : Int) ∧ c' = (c : Int) ∧ n ≤ c ∧ bytes * c ≤ 281474976710656 ∧ c ≤ 281474976710656 ∧ 0 < sz) fun _ => absK [] (enc x0) zero (fun _ => newK chs (.row true sz enc (List.replicate n x0)) (fun k chs => putK nt (some d) (.one (.slc k (List.replicate n x0).length)) env (fun env => C env chs) False) False)
          | none => False
        | _ => False
      | _ => False) False
    | _ => False) False
theorem made_cut {z : Array Value} {c j : Nat} (hj : j < c) (hz : 0 < z.size) : cut (madeCells z (c * z.size)) (0 + j * z.size) z.size = z.toList := by
  apply List.ext_getElem?
  intro i
  rw [cut_get, Nat.zero_add]
  have hmul : (j + 1) * z.size ≤ c * z.size := Nat.mul_le_mul_right _ hj
  rw [Nat.add_mul, Nat.one_mul] at hmul
  split
  · rename_i hi
    have h1 : j * z.size + i < c * z.size := by omega
    have h2 : (j * z.size + i) % z.size = i := by
      rw [Nat.mul_comm, Nat.mul_add_mod]; exact Nat.mod_eq_of_lt hi
    have h3 : (madeCells z (c * z.size))[j * z.size + i]? = some z[i] := by
      simp [madeCells, h1, h2, hi]
    rw [h3]
    simp [hi]
  · rename_i hi
    rw [List.getElem?_eq_none (by simp; omega)]
theorem mkK_step {tb : Tab} {nt : Nat} {env : List (Nat × SV)} {chs : List Chunk} {t d : Nat} {ol oc : Operand} {ty : TypeId} {pos : String} {after : Array Edge} {α : Type} {enc : α → List D} {x0 : α} {n c : Nat} {C : List (Nat × SV) → List Chunk → Prop} (hz : zszB tb = true)
    (h : mkK tb nt env chs t d ol oc enc x0 n c C) : ∃ env' chs', C env' chs' ∧ StepTo tb nt { dst := some d, op := .makeSlice t ol oc, type := ty, pos := pos, after := after, guard := none } ⟨env, chs⟩ ⟨env', chs'⟩ := by
  unfold mkK at h
  rcases opdK_out h with h | ⟨sl, h2, hsl⟩
  · exact h.elim
  clear h
  split at h2
  · rename_i kl l
    rcases opdK_out h2 with h | ⟨sc, h3, hsc⟩
    · exact h.elim
    clear h2
    split at h3
    · rename_i kc c'
      split at h3
      · rename_i s0 b0 e z0 hty
        split at h3
        · rename_i sz bytes kd zero hte
          obtain ⟨⟨rfl, rfl, hnc, hby, hcm, hsz⟩, h4⟩ := h3
          obtain ⟨_, k1, _, _, k4⟩ := absK_out h4
          rcases newK_out k1 with h | j1
          · exact h.elim
          rcases putK_out j1 with h | ⟨env', j1, hput⟩
          · exact h.elim
          refine ⟨env', _, j1, ?_⟩
          intro P F ρ a w ht hs
          obtain ⟨x1, d1, z1, a1, a2, a3, a4, a5, a6, a7⟩ := (tabB_find ht.1 hty).ex
          obtain ⟨x2, d2, z2, b1, b2, b3, b4, b5, b6, b7⟩ := (tabB_find ht.1 hte).ex
          have e1 := kindB_slice a5
          subst e1
          have hzl : z2.cells.size = sz := by
            have := zeroB_length b7
            have h2 := zsz hz hte
            simp at this h2
            omega
          have hr := run_make (P := P) w t e x2 z2 a2 b1 b6 kl kc (n : Int) (c : Int) (by omega) (by omega) (by rw [b4]; have : ((bytes * c : Nat) : Int) ≤ 281474976710656 := by omega
                                                                                                                rwa [Int.natCast_mul] at this) (by omega)
          simp only [Int.toNat_natCast, b3] at hr
          -- an element's zero, with nothing hanging on it
          have hzero : D.ownL Hp.emp (enc x0) z2.cells.toList := by
            have m0 : MemH F ρ [] w (fun _ => Hp.emp) := ⟨by simp, fun _ _ _ => Hp.emp_dj _, fun _ => Hp.emp_dj _, fun _ => Hp.emp_le _, hs.mem.choose_spec.F⟩
            obtain ⟨⟨hp, hs', q1, q2, q3, q4, q5, q6, q7⟩⟩ := k4 (ρ := ρ) m0 (zeroB_den b7)
            have : hp.dj hp := q6 hp (fun _ => Hp.dj_emp _)
            have he : hp = Hp.emp := by
              funext k
              rcases this k with h | h <;> rw [h] <;> rfl
            rw [← he]; exact q2
          refine ⟨ρ ++ [⟨some ⟨w.heap.size, 0, none⟩, c⟩], _, _, prefix_snoc _ _, hput (sat_new hs (.cells (madeCells z2.cells (c * sz)) e) _ _ ?_) ⟨_, by have := hs.len; simp at this; rw [← this]; exact get_snoc _ _, by rw [List.length_replicate]⟩, .inl ?_⟩
          · intro hp hhp
            refine ⟨_, get_snoc _ _, by simpa using hnc, by simp [maxL]; omega, hsz, .inr ⟨w.heap.size, 0, _, e, fun _ => Hp.emp, rfl, hhp, ?_, fun _ => Hp.emp_le _, fun _ => rfl, fun _ _ _ => Hp.emp_dj _, ?_⟩⟩
            · simp [size_madeCells]
            · intro j y hj
              have hjl := (List.getElem?_eq_some_iff.1 hj).1
              simp at hjl
              have : y = x0 := by
                have := (List.getElem?_eq_some_iff.1 hj).2
                simpa using this.symm
              subst this
              rw [← hzl, made_cut (by omega) (by omega)]
              exact hzero
          · have el : a.eval ol = .int kl n := hsl ρ a hs.env
            have ec : a.eval oc = .int kc c := hsc ρ a hs.env
            simp [execOp, el, ec, hr]
        · exact h3.elim
      · exact h3.elim
    · exact h3.elim
  · exact h2.elim
/-- MAKE. -/
theorem make {P : Program} {tb : Tab} {F : Fr} {nt n0 : Nat} {ρ0 : List LocV} {ro : List Chunk} {Q : Exit → Act → World → Prop} {all rest : List Oper} {ks : List KI} {env : List (Nat × SV)} {chs : List Chunk} {d t : Nat} {ol oc : Operand} {ty : TypeId} {pos : String} {after : Array Edge}
    (hz : zszB tb = true) {α : Type} (enc : α → List D) (x0 : α) (n c : Nat)
    (h : mkK tb nt env chs t d ol oc enc x0 n c (fun env chs => runT tb nt 600 (.ops all rest :: ks) env chs (fun ks env chs => T ⟨P, tb, F, nt, n0, ρ0, ro, Q⟩ ks ⟨env, chs⟩))) :
    T ⟨P, tb, F, nt, n0, ρ0, ro, Q⟩ (.ops all ({ dst := some d, op := .makeSlice t ol oc, type := ty, pos := pos, after := after, guard := none } :: rest) :: ks) ⟨env, chs⟩ := by
  obtain ⟨env', chs', h1, h2⟩ := mkK_step (ty := ty) (pos := pos) (after := after) hz h
  exact step_T (X := ⟨P, tb, F, nt, n0, ρ0, ro, Q⟩) rfl h2 (run 600 h1)
end Go.Proofs.Ythdbhlpceodhlaa.Sx
