/- A part of the framework that the proofs of this seat stand on: a separation logic over the model's walks, with a runner that Lean evaluates. It is proved here, without conditions of its own. -/
import Derived.Test.YthdbhlpceodhlaaSxP
set_option linter.unusedVariables false
set_option linter.unusedSimpArgs false
namespace Go.Proofs.Ythdbhlpceodhlaa.Sx
open Go

/-! ### 29. operations whose outcome hangs on what memory holds -/
theorem T_opd {X : Cx} {all rest : List Oper} {o : Oper} {ks : List KI} {s : St} (hg : o.guard = none)
    (h : ∀ F ρ a w, Ok X → Fle X.F F → X.ρ0 <+: ρ → Sat F X.nt ρ s a w → ∃ s' ρ' w' v, T X (.ops all rest :: ks) s' ∧ ρ <+: ρ' ∧ Sat F X.nt ρ' s' (a.put o.dst v) w' ∧ (execOp a.eval o).run X.P w = .ok (.value v) w') : T X (.ops all (o :: rest) :: ks) s := by
  refine ⟨fun ht F ρ a w hF hρ hs => ?_⟩
  obtain ⟨s', ρ', w', v, h0, h1, h2, h3⟩ := h F ρ a w ht hF hρ hs
  have hn := h0.go ht F ρ' _ _ hF (hρ.trans h1) h2
  show wpList _ _ _ (o :: rest) a w
  unfold wpList
  rw [if_pos (by simp [Region.wanted, hg])]
  refine .inl ?_
  unfold Oper.wp
  rw [h3]; exact hn
/-- For either truth value. -/
structure Al (p : Bool → Prop) : Prop where
  ex : ∀ b, p b
def nilqK (tb : Tab) (nt : Nat) (env : List (Nat × SV)) (chs : List Chunk) (neg : Bool) (t d : Nat) (ox : Operand) (C : List (Nat × SV) → Prop) : Prop :=
  match tfind tb t with
  | some ⟨_, _, .slice e, _⟩ => opdK env ox (fun sv => match sv with
    | .one .nil => match neg with
      | true => putK nt (some d) (.one (.lit false)) env C False
      | false => putK nt (some d) (.one (.lit true)) env C False
    | .one (.slc l n) => match chs[l]? with
      | some (.row _ _ _ xs) => Ob (n = xs.length) fun _ => match neg with
        | true => Al fun b => (b = false → n = 0) → putK nt (some d) (.one (.bool b)) env C False
        | false => Al fun b => (b = true → n = 0) → putK nt (some d) (.one (.bool b)) env C False
      | some .nilr => Al fun b => putK nt (some d) (.one (.bool b)) env C False
      | _ => False
    | _ => False) False
  | _ => False
theorem run_eqnil {P : Program} {t e : TypeId} (hu : P.underlying t = some (.slice e)) (A : Option Addr) (n c : Nat) (w : World) : (Op.equal t (.slice A n c) (.slice none 0 0)).run P w = .ok A.isNone w := by
  have h : Op.equal t (.slice A n c) (.slice none 0 0) = Op.equalIn (9999 + 1) t (.slice A n c) (.slice none 0 0) := rfl
  rw [h]
  unfold Op.equalIn
  cases A <;> simp [run_underlying hu]
theorem nilq_core {X : Cx} {all rest : List Oper} {ks : List KI} {env : List (Nat × SV)} {chs : List Chunk} {d t : Nat} {ox : Operand} {t2 ty : TypeId} {pos : String} {after : Array Edge} (neg : Bool) {C : List (Nat × SV) → Prop} (hC : ∀ env, C env → T X (.ops all rest :: ks) ⟨env, chs⟩)
    (h : nilqK X.tb X.nt env chs neg t d ox C) :
    T X (.ops all ({ dst := some d, op := .binOp (if neg then .neq else .eql) t ox (.const (.slice none 0 0)) t2, type := ty, pos := pos, after := after, guard := none } :: rest) :: ks) ⟨env, chs⟩ := by
  refine T_opd rfl (fun F ρ a w hX hF hρ hs => ?_)
  unfold nilqK at h
  split at h
  · rename_i s0 b0 e z0 hty
    obtain ⟨x1, d1, z1, a1, a2, a3, a4, a5, a6, a7⟩ := (tabB_find hX.tab.1 hty).ex
    have e1 := kindB_slice a5
    subst e1
    have hrun : ∀ (A : Option Addr) (n c : Nat), a.eval ox = .slice A n c → (execOp a.eval { dst := some d, op := .binOp (if neg then .neq else .eql) t ox (.const (.slice none 0 0)) t2, type := ty, pos := pos, after := after, guard := none }).run X.P w = .ok (.value (.bool (if neg then !A.isNone else A.isNone))) w := by
      intro A n c he
      have hc : a.eval (.const (.slice none 0 0)) = .slice none 0 0 := rfl
      cases neg <;> simp [execOp, he, hc, eqGuard, binOp, run_eqnil a2]
    rcases opdK_out h with h | ⟨sv, h2, hsv⟩
    · exact h.elim
    clear h
    have fin : ∀ (b : Bool) (sb : SV), (∀ ρ, sb.den ρ (.bool b)) → putK X.nt (some d) sb env C False → (∃ A n c, a.eval ox = .slice A n c ∧ b = (if neg then !A.isNone else A.isNone)) → ∃ s' ρ' w' v, T X (.ops all rest :: ks) s' ∧ ρ <+: ρ' ∧ Sat F X.nt ρ' s' (a.put (some d) v) w' ∧ (execOp a.eval { dst := some d, op := .binOp (if neg then .neq else .eql) t ox (.const (.slice none 0 0)) t2, type := ty, pos := pos, after := after, guard := none }).run X.P w = .ok (.value v) w' := by
      intro b sb hb hp ⟨A, n, c, he, hbe⟩
      rcases putK_out hp with h | ⟨env', h, hput⟩
      · exact h.elim
      exact ⟨_, ρ, w, .bool b, hC _ h, List.prefix_rfl, hput hs (hb ρ), by rw [hrun A n c he, hbe]⟩
    have hv := hsv ρ a hs.env
    split at h2
    · have hv : a.eval ox = .slice none 0 0 := hv
      split at h2
      · exact fin false (.one (.lit false)) (fun _ => rfl) h2 ⟨none, 0, 0, hv, by simp⟩
      · exact fin true (.one (.lit true)) (fun _ => rfl) h2 ⟨none, 0, 0, hv, by simp⟩
    · rename_i l n
      obtain ⟨x, hx, hv⟩ := hv
      split at h2
      · rename_i α own sz enc xs hc
        obtain ⟨hn, h2⟩ := h2
        obtain ⟨hs0, m⟩ := hs.mem
        obtain ⟨y, hy, hrd⟩ := chunk_row.1 (m.ok l _ hc)
        rw [hx] at hy; cases hy
        have hnil : x.addr.isNone = true → n = 0 := by
          intro hnn
          have hrd := heap_rd m.F.h (m.le l) hrd
          rcases Nat.eq_zero_or_pos xs.length with h0 | h0
          · omega
          · obtain ⟨b, o, C, t, fr, q1, _⟩ := hrd.2.2.2 h0
            rw [q1] at hnn; cases hnn
        split at h2
        · refine fin _ (.one (.bool (!x.addr.isNone))) (fun _ => rfl) (h2.ex (!x.addr.isNone) (fun e => hnil (by simpa using e))) ⟨_, _, _, hv, by simp⟩
        · refine fin _ (.one (.bool x.addr.isNone)) (fun _ => rfl) (h2.ex x.addr.isNone hnil) ⟨_, _, _, hv, by simp⟩
      · exact fin _ (.one (.bool (if neg then !x.addr.isNone else x.addr.isNone))) (fun _ => rfl) (h2.ex (if neg then !x.addr.isNone else x.addr.isNone)) ⟨_, _, _, hv, rfl⟩
      · exact h2.elim
    · exact h2.elim
  · exact h.elim
/-- s == nil. -/
theorem nilq {P : Program} {tb : Tab} {F : Fr} {nt n0 : Nat} {ρ0 : List LocV} {ro : List Chunk} {Q : Exit → Act → World → Prop} {all rest : List Oper} {ks : List KI} {env : List (Nat × SV)} {chs : List Chunk} {d t : Nat} {ox : Operand} {t2 ty : TypeId} {pos : String} {after : Array Edge}
    (h : nilqK tb nt env chs false t d ox (fun env => runT tb nt 600 (.ops all rest :: ks) env chs (fun ks env chs => T ⟨P, tb, F, nt, n0, ρ0, ro, Q⟩ ks ⟨env, chs⟩))) :
    T ⟨P, tb, F, nt, n0, ρ0, ro, Q⟩ (.ops all ({ dst := some d, op := .binOp .eql t ox (.const (.slice none 0 0)) t2, type := ty, pos := pos, after := after, guard := none } :: rest) :: ks) ⟨env, chs⟩ :=
  nilq_core (X := ⟨P, tb, F, nt, n0, ρ0, ro, Q⟩) false (fun env h => run 600 h) h
/-- s != nil. -/
theorem nilqn {P : Program} {tb : Tab} {F : Fr} {nt n0 : Nat} {ρ0 : List LocV} {ro : List Chunk} {Q : Exit → Act → World → Prop} {all rest : List Oper} {ks : List KI} {env : List (Nat × SV)} {chs : List Chunk} {d t : Nat} {ox : Operand} {t2 ty : TypeId} {pos : String} {after : Array Edge}
    (h : nilqK tb nt env chs true t d ox (fun env => runT tb nt 600 (.ops all rest :: ks) env chs (fun ks env chs => T ⟨P, tb, F, nt, n0, ρ0, ro, Q⟩ ks ⟨env, chs⟩))) :
    T ⟨P, tb, F, nt, n0, ρ0, ro, Q⟩ (.ops all ({ dst := some d, op := .binOp .neq t ox (.const (.slice none 0 0)) t2, type := ty, pos := pos, after := after, guard := none } :: rest) :: ks) ⟨env, chs⟩ :=
  nilq_core (X := ⟨P, tb, F, nt, n0, ρ0, ro, Q⟩) true (fun env h => run 600 h) h

/-! ### 30. append of a slice that came in, its elements' slices shared -/
def shrD (g : Hp) : D → D
  | .row sz enc xs => .shr g sz enc xs
  | d => d
theorem shrD_own {g h : Hp} {d : D} {v : Value} (e : D.rd g d v) : D.own h (shrD g d) v := by
  cases d with
  | int k n => exact e
  | bool b => exact e
  | str s => exact e
  | row sz enc xs => exact D.own_shr.2 (D.rd_row.1 e)
  | shr g' sz enc xs => exact D.own_shr.2 (D.rd_shr.1 e)
theorem shrL_own {g h : Hp} : ∀ {ds : List D} {cs : List Value}, D.rdL g ds cs → D.ownL h (ds.map (shrD g)) cs
  | [], _, e => e
  | d :: r, _, ⟨v, q, e1, e2, e3⟩ => ⟨v, q, Hp.emp, Hp.emp, e1, Hp.emp_le _, Hp.emp_le _, Hp.emp_dj _, shrD_own e2, shrL_own e3⟩
/-- What the encoding is when shared. -/
structure Shares {α : Type} (g : Hp) (sz : Nat) (enc enc' : α → List D) : Prop where
  len : ∀ y, (enc y).length = sz
  sh : ∀ y, enc' y = (enc y).map (shrD g)
def apSK (tb : Tab) (nt : Nat) (env : List (Nat × SV)) (chs ro : List Chunk) (oa ob : Operand) (t t' d : Nat) {α : Type} (sz : Nat) (enc enc' : α → List D) (xs ys : List α) (C : List (Nat × SV) → List Chunk → Prop) : Prop :=
  opdK env oa (fun sa => match sa with
    | .one ca => opdK env ob (fun sb => match sb with
      | .one (.slc m k) => match ro[m]? with
        | some (.row false sz' encS ys') => Ob (Chunk.row false sz' encS ys' = Chunk.row false sz enc ys ∧ k = ys.length) fun _ => apTyK tb t t' sz (fun bytes => Ob ((xs.length + ys.length) * bytes ≤ 140737488355328 ∧ xs.length + ys.length ≤ 281474976710656) fun _ =>
              absK chs [.row sz enc' xs] [ca] (fun chs1 => newK chs1 (.row true sz enc' (xs ++ ys)) (fun n chs4 => putK nt (some d) (.one (.slc n (xs ++ ys).length)) env (fun env => C env chs4) False) False))
        | _ => False
      | _ => False) False
    | _ => False) False
theorem apS_core {X : Cx} {all rest : List Oper} {ks : List KI} (hz : zszB X.tb = true) {env : List (Nat × SV)} {chs : List Chunk} {oa ob : Operand} {t t' d : Nat} {ty : TypeId} {pos : String} {after : Array Edge} {α : Type} {sz : Nat} {enc enc' : α → List D} (hflat : Shares X.F.h sz enc enc') {xs ys : List α} {C : List (Nat × SV) → List Chunk → Prop} (hC : ∀ env chs, C env chs → T X (.ops all rest :: ks) ⟨env, chs⟩)
    (h : apSK X.tb X.nt env chs X.ro oa ob t t' d sz enc enc' xs ys C) :
    T X (.ops all ({ dst := some d, op := .call { callee := .builtin .append, args := #[oa, ob], argTypes := #[t, t'] }, type := ty, pos := pos, after := after, guard := none } :: rest) :: ks) ⟨env, chs⟩ := by
  refine T_opd rfl (fun F ρ a w hX hF hρ hs => ?_)
  unfold apSK at h
  rcases opdK_out h with h | ⟨sa, h2, hsa⟩
  · exact h.elim
  clear h
  split at h2
  · rename_i ca
    rcases opdK_out h2 with h | ⟨sb, h3, hsb⟩
    · exact h.elim
    clear h2
    split at h3
    · rename_i m k
      split at h3
      · rename_i β sz' encS ys' hro
        obtain ⟨⟨heq, rfl⟩, h3⟩ := h3
        rw [heq] at hro
        obtain ⟨bytes, ⟨⟨hb, hmx⟩, h4⟩, hty⟩ := apTyK_out hz h3
        obtain ⟨chs1, k1, k2, k3, k4⟩ := absK_out h4
        rcases newK_out k1 with h | j1
        · exact h.elim
        rcases putK_out j1 with h | ⟨env', j1, hput⟩
        · exact h.elim
        obtain ⟨e, i, z, e1, e2, e3, e4, e5, e6, e7⟩ := hty hX.tab
        obtain ⟨hs0, m0⟩ := hs.mem
        have hva := hsa ρ a hs.env
        have hvb := hsb ρ a hs.env
        obtain ⟨⟨hr, hs1, q1, q2, q3, q4, q5, q6, q7⟩⟩ := k4 m0 (denL_one hva)
        obtain ⟨va, hva', hrow⟩ := ownL_one q2
        simp at hva'
        obtain ⟨A, c, hav, hrow⟩ := D.own_row.1 hrow
        have ea : a.eval oa = .slice A xs.length c := by rw [← hva'] at hav; exact hav
        obtain ⟨lx, f1, hbv⟩ := hvb
        obtain ⟨lx', f1', hrd⟩ := hX.ro m _ hro rfl
        have f1' := pre_get hρ f1'
        rw [f1] at f1'; cases f1'
        have hFw : X.F.h.le (heapOf w) := Hp.le_trans hF.h m0.F.h
        have hlen1 : ρ.length = chs1.length := by rw [hs.len, k2]
        have hap : Appd w hr (fun _ => Hp.emp) sz enc' (xs ++ ys) ((Builtin.append_ #[t, t'] ty #[.slice A xs.length c, .slice lx.addr ys.length lx.cap]).run X.P w) := by
          rcases Nat.eq_zero_or_pos ys.length with h0 | h0
          · have : ys = [] := List.eq_nil_of_length_eq_zero h0
            subst this
            refine ⟨A, c, w, hr, ?_, by simpa using hrow, q3, rfl, rfl, rfl, fun g hg hd _ => ⟨hg, hd⟩⟩
            simpa using run_append_zero w t t' ty e i e1 e2 e3 A lx.addr xs.length c lx.cap hrow.1
          · obtain ⟨b, o, Cb, tbb, fr, p1, p2, p3⟩ := hrd.2.2.2 h0
            have p2w := hFw _ _ p2
            have hfull : o + ys.length * sz ≤ Cb.size ∨ ¬ (o + ys.length * sz ≤ Cb.size) := Classical.em _
            rw [p1]
            rcases hfull with hfull | hfull
            · refine append_core (news := cut Cb o (ys.length * sz)) e1 e2 e3 e4 e5 e6 hrow q3 (row_cells _ hfull) ?_ ?_ ?_ (fun _ => Hp.emp_le _) (fun _ _ _ => Hp.emp_dj _) (fun _ => Hp.emp_dj _) (by rw [e7]; exact hb) (by simpa [maxL] using hmx)
              · intro j u hj
                rw [cut_get] at hj
                split at hj
                · rw [add_at, cell_of p2w]; exact hj
                · cases hj
              · intro u hu
                obtain ⟨j, hj⟩ := List.getElem?_of_mem hu
                have hjl := (List.getElem?_eq_some_iff.1 hj).1
                rw [row_cells _ hfull] at hjl
                have hsz0 := hrow.2.2.1
                have hdm := Nat.div_add_mod j sz
                have hmlt := Nat.mod_lt j hsz0
                have hdl : j / sz < ys.length := by
                  rw [Nat.div_lt_iff_lt_mul hsz0]; exact hjl
                have hel := p3 (j / sz) _ (List.getElem?_eq_getElem hdl)
                refine D.rdL_one hel u ?_
                refine List.mem_of_getElem? (i := j % sz) ?_
                rw [cut_get, if_pos hmlt]
                rw [cut_get, if_pos hjl] at hj
                rw [← hj]
                congr 1
                rw [Nat.mul_comm (j / sz) sz]; omega
              · intro j y hj
                have hjl := (List.getElem?_eq_some_iff.1 hj).1
                have : (j + 1) * sz ≤ ys.length * sz := Nat.mul_le_mul_right _ hjl
                rw [Nat.add_mul, Nat.one_mul] at this
                rw [cut_cut (by omega), hflat.sh]
                exact shrL_own (p3 j y hj)
            · exfalso
              have hl1 := D.rdL_length _ _ (p3 (ys.length - 1) _ (List.getElem?_eq_getElem (by omega)))
              rw [hflat.len, cut_len] at hl1
              have hmul : (ys.length - 1) * sz + sz = ys.length * sz := by
                rw [← Nat.succ_mul]; congr 1; omega
              have := hrow.2.2.1
              omega
        obtain ⟨A', c', w', h', p1, p2, p3, p4, p5, p6, p7⟩ := hap.ex
        have keep : ∀ i, (hs1 i).le (heapOf w') ∧ (hs1 i).dj h' := fun i => p7 _ (q1.le i) (Hp.dj_symm (q4 i)) (fun j => Hp.dj_emp _)
        have keepF : F.h.le (heapOf w') ∧ F.h.dj h' := p7 _ q1.F.h (Hp.dj_symm q5) (fun j => Hp.dj_emp _)
        have m3 : MemH F ρ chs1 w' hs1 := ⟨q1.ok, q1.dj, q1.djF, fun i => (keep i).1, ⟨p4.trans q1.F.os, p5.trans q1.F.tape, p6.trans q1.F.out, keepF.1⟩⟩
        have m4 := memH_new m3 hlen1 ⟨A', c'⟩ (.row true sz enc' (xs ++ ys)) h' p3 (fun i => Hp.dj_symm (keep i).2) (Hp.dj_symm keepF.2) ⟨⟨A', c'⟩, get_snoc _ _, p2⟩
        refine ⟨_, ρ ++ [⟨A', c'⟩], w', .slice A' (xs ++ ys).length c', hC _ _ j1, prefix_snoc _ _, hput (put_env hs.nd hs.nt (by simp [hlen1]) (envOk_mono (prefix_snoc _ _) hs.env) ⟨_, m4⟩) ⟨⟨A', c'⟩, by rw [← hlen1]; exact get_snoc _ _, rfl⟩, ?_⟩
        simp only [execOp, resolve, List.map_toArray, List.map_cons, List.map_nil, invoke, builtin]
        simpa [ea, hbv] using congrArg (fun r => Result.andThen r fun a w' => Result.ok (Next.value a) w') p1
      · exact h3.elim
    · exact h3.elim
  · exact h2.elim
/-- APPEND ALL OF A SLICE THAT CAME IN; what its elements hold stays where it is. -/
theorem appendS {P : Program} {tb : Tab} {F : Fr} {nt n0 : Nat} {ρ0 : List LocV} {ro : List Chunk} {Q : Exit → Act → World → Prop} {all rest : List Oper} {ks : List KI} {env : List (Nat × SV)} {chs : List Chunk} {d : Nat} {oa ob : Operand} {t t' : Nat} {ty : TypeId} {pos : String} {after : Array Edge}
    (hz : zszB tb = true) {α : Type} (sz : Nat) (enc enc' : α → List D) (hsh : Shares F.h sz enc enc') (xs ys : List α)
    (h : apSK tb nt env chs ro oa ob t t' d sz enc enc' xs ys (fun env chs => runT tb nt 600 (.ops all rest :: ks) env chs (fun ks env chs => T ⟨P, tb, F, nt, n0, ρ0, ro, Q⟩ ks ⟨env, chs⟩))) :
    T ⟨P, tb, F, nt, n0, ρ0, ro, Q⟩ (.ops all ({ dst := some d, op := .call { callee := .builtin .append, args := #[oa, ob], argTypes := #[t, t'] }, type := ty, pos := pos, after := after, guard := none } :: rest) :: ks) ⟨env, chs⟩ :=
  apS_core (X := ⟨P, tb, F, nt, n0, ρ0, ro, Q⟩) hz hsh (fun env chs h => run 600 h) h
/-- An own row, told by another encoding. -/
theorem recode {P : Program} {tb : Tab} {F : Fr} {nt n0 : Nat} {ρ0 : List LocV} {ro : List Chunk} {Q : Exit → Act → World → Prop} {ks : List KI} {env : List (Nat × SV)} {chs : List Chunk} {α β : Type} {sz : Nat} {enc : α → List D} {xs : List α} (k : Nat) (enc' : β → List D) (ys : List β) (hk : chs[k]? = some (.row true sz enc xs))
    (hl : ys.length = xs.length) (he : ∀ (i : Nat) (x : α) (y : β), xs[i]? = some x → ys[i]? = some y → enc' y = enc x)
    (h : setK (.row true sz enc' ys) k chs (fun chs => runT tb nt 600 ks env chs (fun ks env chs => T ⟨P, tb, F, nt, n0, ρ0, ro, Q⟩ ks ⟨env, chs⟩))) : T ⟨P, tb, F, nt, n0, ρ0, ro, Q⟩ ks ⟨env, chs⟩ := by
  rw [setK_eq] at h
  refine T_conv (X := ⟨P, tb, F, nt, n0, ρ0, ro, Q⟩) (fun hX G ρ a w hF hρ hs => ?_) (run 600 h)
  obtain ⟨hs0, m⟩ := hs.mem
  obtain ⟨x, e1, e2, e3, e4, e5⟩ := m.ok k _ hk
  refine ⟨G, ρ, Fle.refl G, hρ, hs.nd, hs.nt, by simpa using hs.len, hs.env, ⟨_, memH_set m k (.row true sz enc' ys) (hs0 k) (m.le k) (fun j hj => m.dj k j (Ne.symm hj)) (m.djF k) ⟨x, e1, by omega, by omega, e4, ?_⟩⟩⟩
  rcases e5 with ⟨h0, rfl⟩ | ⟨b, o, C, t, hh, q1, q2, q3, q4, q5, q6, q7⟩
  · exact .inl ⟨h0, List.eq_nil_of_length_eq_zero (by simpa using hl)⟩
  · refine .inr ⟨b, o, C, t, hh, q1, q2, q3, q4, q5, q6, fun j y hy => ?_⟩
    have hj : j < xs.length := by have := (List.getElem?_eq_some_iff.1 hy).1; omega
    rw [he j _ y (List.getElem?_eq_getElem hj) hy]
    exact q7 j _ (List.getElem?_eq_getElem hj)
/-! ### 31. calls under a guard -/
def gdK (all : List Oper) (env : List (Nat × SV)) (g : Option (Nat × Bool)) : Prop :=
  match g with
  | none => True
  | some (j, want) => match all[j]? with
    | some oj => match oj.dst with
      | some d => match find env d with
        | some (.one (.lit b)) => b = want
        | some (.one (.pr p _)) => match want with
          | true => p
          | false => ¬ p
        | some (.one (.bool c)) => c = want
        | _ => False
      | none => False
    | none => False
theorem gdK_out {all : List Oper} {env : List (Nat × SV)} {o : Oper} (h : gdK all env o.guard) {nt : Nat} {chs : List Chunk} {F : Fr} {ρ : List LocV} {a : Act} {w : World} (hs : Sat F nt ρ ⟨env, chs⟩ a w) : Region.wanted o (yielded all.toArray a.tmps) = true := by
  unfold gdK at h
  split at h
  · rename_i hg; simp [Region.wanted, hg]
  · rename_i j want hg
    split at h
    · rename_i oj hj
      split at h
      · rename_i d hd
        have fin : ∀ b : Bool, b = want → (∃ v, a.tmps[d]? = some v ∧ v = .bool b) → Region.wanted o (yielded all.toArray a.tmps) = true := by
          rintro b rfl ⟨v, h1, rfl⟩
          simp [Region.wanted, hg, yielded_eq hj hd h1]
        split at h
        · rename_i b hf
          obtain ⟨v, h1, h2⟩ := hs.env d _ hf
          exact fin b h ⟨v, h1, h2⟩
        · rename_i p dp hf
          obtain ⟨v, h1, h2⟩ := hs.env d _ hf
          have h2 : v = .bool (@decide p dp) := h2
          split at h
          · exact fin true rfl ⟨v, h1, by rw [h2]; simp [h]⟩
          · exact fin false rfl ⟨v, h1, by rw [h2]; simp [h]⟩
        · rename_i c hf
          obtain ⟨v, h1, h2⟩ := hs.env d _ hf
          exact fin c h ⟨v, h1, h2⟩
        · exact h.elim
      · exact h.elim
    · exact h.elim
theorem T_call1 {X : Cx} {all rest : List Oper} {ks : List KI} {env : List (Nat × SV)} {chs : List Chunk} {dst : Option Nat} {fop : Operand} {xs : List Operand} {ts : Array TypeId} {ty : TypeId} {pos : String} {after : Array Edge} {g : Option (Nat × Bool)} {f : Nat} {args : List SV} {pre : List Chunk} {Post : SV → List Chunk → Prop}
    (sel : List (Option Nat)) (hspec : FSpec X.P f args pre Post) (hg : gdK all env g) (hin : CallIn sel env chs fop xs f args pre) {C : List (Nat × SV) → List Chunk → Prop} (hC : ∀ env chs, C env chs → T X (.ops all rest :: ks) ⟨env, chs⟩)
    (hout : ∀ res post, Post res post → callK X.nt sel pre env chs dst res post C) :
    T X (.ops all ({ dst := dst, op := .call { callee := .value fop, args := xs.toArray, argTypes := ts }, type := ty, pos := pos, after := after, guard := g } :: rest) :: ks) ⟨env, chs⟩ := by
  refine ⟨fun hX F ρ a w hF hρ hs => ?_⟩
  show wpList _ _ _ (_ :: rest) a w
  unfold wpList
  rw [if_pos (gdK_out (o := { dst := dst, op := .call { callee := .value fop, args := xs.toArray, argTypes := ts }, type := ty, pos := pos, after := after, guard := g }) hg hs)]
  refine .inl ?_
  obtain ⟨capv, hfe, hc⟩ := call_core (dst := dst) sel hspec hin hs
  unfold Oper.wp
  rw [run_callOp hspec.fn rfl hfe, Oper.upon_enter]
  refine hc.mono ?_
  rintro e w' ⟨v, res, post, rfl, hP, hk⟩
  obtain ⟨env', chs', ρ', h1, h2, h3⟩ := hk _ (hout res post hP)
  exact (hC _ _ h1).go hX F ρ' _ _ hF (hρ.trans h2) h3
/-- A CALL, under a guard or under none; the run goes on behind it. -/
theorem callG {P : Program} {tb : Tab} {F : Fr} {nt n0 : Nat} {ρ0 : List LocV} {ro : List Chunk} {Q : Exit → Act → World → Prop} {all rest : List Oper} {ks : List KI} {env : List (Nat × SV)} {chs : List Chunk} {dst : Option Nat} {fop : Operand} {xs : List Operand} {ts : Array TypeId} {ty : TypeId} {pos : String} {after : Array Edge} {g : Option (Nat × Bool)} {f : Nat} {args : List SV} {pre : List Chunk} {Post : SV → List Chunk → Prop}
    (sel : List (Option Nat)) (hspec : FSpec P f args pre Post) (hg : gdK all env g) (hin : CallIn sel env chs fop xs f args pre)
    (hout : ∀ res post, Post res post → callK nt sel pre env chs dst res post (fun env chs => runT tb nt 600 (.ops all rest :: ks) env chs (fun ks env chs => T ⟨P, tb, F, nt, n0, ρ0, ro, Q⟩ ks ⟨env, chs⟩))) :
    T ⟨P, tb, F, nt, n0, ρ0, ro, Q⟩ (.ops all ({ dst := dst, op := .call { callee := .value fop, args := xs.toArray, argTypes := ts }, type := ty, pos := pos, after := after, guard := g } :: rest) :: ks) ⟨env, chs⟩ :=
  T_call1 (X := ⟨P, tb, F, nt, n0, ρ0, ro, Q⟩) sel hspec hg hin (fun env chs h => run 600 h) hout
/-- .. in a drawn region that only reads. -/
theorem callqG {P : Program} {tb : Tab} {F : Fr} {nt n0 : Nat} {ρ0 : List LocV} {ro : List Chunk} {Q : Exit → Act → World → Prop} {all rest : List Oper} {ks : List KI} {env : List (Nat × SV)} {chs : List Chunk} {d : Nat} {fop : Operand} {xs : List Operand} {ts : Array TypeId} {ty : TypeId} {pos : String} {after : Array Edge} {g : Option (Nat × Bool)} {f : Nat} {args : List SV} {pre : List Chunk} {Post : SV → List Chunk → Prop}
    (sel : List (Option Nat)) (r : SV) (v : Value) (hspec : FSpec P f args pre Post) (hg : gdK all env g) (hv : ∀ ρ, r.den ρ v) (hin : CallIn sel env chs fop xs f args pre)
    (hd : Nat.blt d nt = true) (hout : ∀ res post, Post res post → callK nt sel pre env chs (some d) res post (fun env' chs' => env' = (d, r) :: env ∧ chs' = chs))
    (h : runQ tb nt all chs rest ((d, r) :: env) (fun rest env => endR P tb F nt n0 ρ0 ro Q all ks chs rest env)) :
    TQ ⟨P, tb, F, nt, n0, ρ0, ro, Q⟩ all ({ dst := some d, op := .call { callee := .value fop, args := xs.toArray, argTypes := ts }, type := ty, pos := pos, after := after, guard := g } :: rest) ks ⟨env, chs⟩ :=
  TQ_call0 (X := ⟨P, tb, F, nt, n0, ρ0, ro, Q⟩) (fun hs => gdK_out (o := { dst := some d, op := .call { callee := .value fop, args := xs.toArray, argTypes := ts }, type := ty, pos := pos, after := after, guard := g }) hg hs) sel r v hv hspec hin hd hout (quiet_on h)
/-! ### 32. what came in only to be read: shared, and back -/
theorem memH_ro {F : Fr} {ρ : List LocV} {chs : List Chunk} {w : World} {hs : Nat → Hp} (m : MemH F ρ chs w hs) (k : Nat) {α : Type} (sz : Nat) (enc : α → List D) (xs : List α) (h : Chunk.ok F.h ρ k Hp.emp (.row false sz enc xs)) : Mem F ρ (chs.set k (.row false sz enc xs)) w :=
  ⟨_, memH_set m k _ Hp.emp (Hp.emp_le _) (fun _ _ => Hp.emp_dj _) (Hp.emp_dj _) h⟩
theorem shareL {g h : Hp} : ∀ {ds : List D} {cs : List Value}, D.rdL g ds cs → D.rdL h (ds.map (shrD g)) cs := fun e => D.ownL_rdL _ _ (shrL_own e)
/-- A row that came in, its elements' slices named as shared. -/
theorem shareIn {P : Program} {tb : Tab} {F : Fr} {nt n0 : Nat} {ρ0 : List LocV} {ro : List Chunk} {Q : Exit → Act → World → Prop} {ks : List KI} {env : List (Nat × SV)} {chs : List Chunk} {α : Type} {sz : Nat} {enc : α → List D} {xs : List α} (k : Nat) (enc' : α → List D) (hsh : Shares F.h sz enc enc') (hk : ro[k]? = some (.row false sz enc xs))
    (h : setK (.row false sz enc' xs) k chs (fun chs => runT tb nt 600 ks env chs (fun ks env chs => T ⟨P, tb, F, nt, n0, ρ0, ro, Q⟩ ks ⟨env, chs⟩))) : T ⟨P, tb, F, nt, n0, ρ0, ro, Q⟩ ks ⟨env, chs⟩ := by
  rw [setK_eq] at h
  refine T_conv (X := ⟨P, tb, F, nt, n0, ρ0, ro, Q⟩) (fun hX G ρ a w hF hρ hs => ?_) (run 600 h)
  obtain ⟨hs0, m⟩ := hs.mem
  obtain ⟨x, e1, e2, e3, e4, e5⟩ := hX.ro k _ hk rfl
  refine ⟨G, ρ, Fle.refl G, hρ, hs.nd, hs.nt, by simpa using hs.len, hs.env, memH_ro m k sz enc' xs ⟨x, pre_get hρ e1, e2, e3, e4, fun hp => ?_⟩⟩
  obtain ⟨b, o, C, t, fr, q1, q2, q3⟩ := e5 hp
  exact ⟨b, o, C, t, fr, q1, hF.h _ _ q2, fun j y hj => by rw [hsh.sh]; exact shareL (q3 j y hj)⟩
/-- .. told again as it came in. -/
theorem roBack {P : Program} {tb : Tab} {F : Fr} {nt n0 : Nat} {ρ0 : List LocV} {ro : List Chunk} {Q : Exit → Act → World → Prop} {ks : List KI} {env : List (Nat × SV)} {chs : List Chunk} {α : Type} {sz : Nat} {enc : α → List D} {xs : List α} (k : Nat) (hk : ro[k]? = some (.row false sz enc xs))
    (h : setK (.row false sz enc xs) k chs (fun chs => runT tb nt 600 ks env chs (fun ks env chs => T ⟨P, tb, F, nt, n0, ρ0, ro, Q⟩ ks ⟨env, chs⟩))) : T ⟨P, tb, F, nt, n0, ρ0, ro, Q⟩ ks ⟨env, chs⟩ := by
  rw [setK_eq] at h
  refine T_conv (X := ⟨P, tb, F, nt, n0, ρ0, ro, Q⟩) (fun hX G ρ a w hF hρ hs => ?_) (run 600 h)
  obtain ⟨hs0, m⟩ := hs.mem
  have h1 := chunk_ok_pre hρ (hX.ro k _ hk rfl)
  obtain ⟨x, e1, e2⟩ := h1
  exact ⟨G, ρ, Fle.refl G, hρ, hs.nd, hs.nt, by simpa using hs.len, hs.env, memH_ro m k sz enc xs ⟨x, e1, rowRd_mono hF.h e2⟩⟩
end Go.Proofs.Ythdbhlpceodhlaa.Sx
