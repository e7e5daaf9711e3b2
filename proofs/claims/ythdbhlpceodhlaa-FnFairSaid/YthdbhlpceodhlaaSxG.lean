/- A part of the framework that the proofs of this seat stand on: a separation logic over the model's walks, with a runner that Lean evaluates. It is proved here, without conditions of its own. -/
import Derived.Test.YthdbhlpceodhlaaSxF
set_option linter.unusedVariables false
set_option linter.unusedSimpArgs false
namespace Go.Proofs.Ythdbhlpceodhlaa.Sx
open Go

/-! ### 14. cells laid over others -/
def lay {α : Type} (l : List α) (p : Nat) (ns : List α) : List α := l.take p ++ ns ++ l.drop (p + ns.length)
theorem lay_get {α : Type} {l : List α} {p : Nat} {ns : List α} (h : p + ns.length ≤ l.length) (k : Nat) : (lay l p ns)[k]? = if p ≤ k ∧ k < p + ns.length then ns[k - p]? else l[k]? := by
  have hm : min p l.length = p := by omega
  simp only [lay, List.getElem?_append, List.length_append, List.length_take, List.getElem?_take, List.getElem?_drop, hm]
  by_cases h1 : k < p
  · have h2 : ¬ (p ≤ k ∧ k < p + ns.length) := by omega
    rw [if_pos (by omega), if_pos h1, if_neg h2, if_pos h1]
  · by_cases h2 : k < p + ns.length
    · rw [if_pos h2, if_neg h1, if_pos ⟨by omega, h2⟩]
    · rw [if_neg h2, if_neg (by omega)]
      congr 1
      omega
theorem lay_length {α : Type} {l : List α} {p : Nat} {ns : List α} (h : p + ns.length ≤ l.length) : (lay l p ns).length = l.length := by
  simp [lay]; omega
theorem cut_get {C : Array Value} {o n : Nat} (j : Nat) : (cut C o n)[j]? = if j < n then C[o + j]? else none := by
  simp [cut, List.getElem?_take, List.getElem?_drop]
theorem cut_lay_other {C : Array Value} {p : Nat} {ns : List Value} (h : p + ns.length ≤ C.size) {k n : Nat} (h2 : k + n ≤ p ∨ p + ns.length ≤ k) : cut (lay C.toList p ns).toArray k n = cut C k n := by
  apply List.ext_getElem?
  intro j
  rw [cut_get, cut_get]
  split
  · rename_i hj
    rw [List.getElem?_toArray, lay_get (by simpa using h), if_neg (by omega)]
    simp
  · rfl
theorem cut_lay_same {C : Array Value} {k n f : Nat} {ns : List Value} (h : k + n ≤ C.size) (h2 : f + ns.length ≤ n) : cut (lay C.toList (k + f) ns).toArray k n = lay (cut C k n) f ns := by
  apply List.ext_getElem?
  intro j
  have hl : (cut C k n).length = n := by rw [cut_len]; omega
  rw [cut_get, lay_get (by omega)]
  split
  · rename_i hj
    rw [List.getElem?_toArray, lay_get (by simp; omega)]
    by_cases q : k + f ≤ k + j ∧ k + j < k + f + ns.length
    · rw [if_pos q, if_pos (by omega)]
      congr 1; omega
    · rw [if_neg q, if_neg (by omega), cut_get, if_pos hj]
      simp
  · rename_i hj
    rw [if_neg (by omega), cut_get, if_neg hj]

theorem row_set {h : Hp} {A : Option Addr} {c : Nat} {α : Type} {sz : Nat} {enc : α → List D} {xs : List α} (hr : rowOwn h A c sz enc xs) {i f : Nat} (hi : i < xs.length) {ns : List Value} (hf : f + ns.length ≤ sz) {x : α}
    (hx : ∀ (g g' : Hp) (cs : List Value), D.ownL g (enc xs[i]) cs → D.ownL g' (enc x) (lay cs f ns)) :
    ∃ b o C t, A = some ⟨b, o, none⟩ ∧ h b = some (.cells C t (0, 0)) ∧ o + (i * sz + f) + ns.length ≤ C.size ∧ rowOwn (h.upd b (.cells (lay C.toList (o + (i * sz + f)) ns).toArray t (0, 0))) A c sz enc (xs.set i x) := by
  obtain ⟨h1, h2, h3, h4⟩ := hr
  rcases h4 with ⟨_, rfl⟩ | ⟨b, o, C, t, hs, q1, q2, q3, q4, q5, q6, q7⟩
  · simp at hi
  have hmul : (i + 1) * sz ≤ c * sz := Nat.mul_le_mul_right _ (by omega)
  rw [Nat.add_mul, Nat.one_mul] at hmul
  have hfit : o + (i * sz + f) + ns.length ≤ C.size := by omega
  refine ⟨b, o, C, t, q1, q2, hfit, by simpa using h1, by simpa using h2, h3, .inr ⟨b, o, _, t, fun j => if j = i then Hp.emp else hs j, q1, Hp.upd_same _ _ _, ?_, ?_, ?_, ?_, ?_⟩⟩
  · simp only [List.size_toArray]
    rw [lay_length (by simpa using hfit)]
    simpa using q3
  · intro j
    by_cases e : j = i
    · simp only [if_pos e]; exact Hp.emp_le _
    · simp only [if_neg e]
      intro k q hk
      rw [Hp.upd_ne]
      · exact q4 j k q hk
      · intro e'; subst e'; rw [q5 j] at hk; cases hk
  · intro j
    by_cases e : j = i
    · simp only [if_pos e]; rfl
    · simp only [if_neg e]; exact q5 j
  · intro j k hjk
    by_cases e : j = i
    · simp only [if_pos e]; exact Hp.emp_dj _
    · by_cases e' : k = i
      · simp only [if_pos e']; exact Hp.dj_emp _
      · simp only [if_neg e, if_neg e']; exact q6 j k hjk
  · intro j y hj
    by_cases e : j = i
    · subst e
      simp [List.getElem?_set, hi] at hj
      subst hj
      simp only [if_true]
      rw [← Nat.add_assoc, cut_lay_same (by omega) hf]
      exact hx _ _ _ (q7 j _ (List.getElem?_eq_getElem hi))
    · simp only [if_neg e]
      rw [List.getElem?_set_ne (Ne.symm e)] at hj
      have hjl := (List.getElem?_eq_some_iff.1 hj).1
      rw [cut_lay_other hfit]
      · exact q7 j y hj
      · rcases Nat.lt_or_gt_of_ne e with e | e
        · left
          have : (j + 1) * sz ≤ i * sz := Nat.mul_le_mul_right _ e
          rw [Nat.add_mul, Nat.one_mul] at this
          omega
        · right
          have : (i + 1) * sz ≤ j * sz := Nat.mul_le_mul_right _ e
          rw [Nat.add_mul, Nat.one_mul] at this
          omega
theorem row_opn_set {h : Hp} {A : Option Addr} {c : Nat} {α : Type} {sz : Nat} {enc : α → List D} {xs : List α} {i f : Nat} {cs : List Value} (hr : rowOpn h A c sz enc xs i cs) {ns : List Value} (hf : f + ns.length ≤ sz) :
    ∃ b o C t, A = some ⟨b, o, none⟩ ∧ h b = some (.cells C t (0, 0)) ∧ o + (i * sz + f) + ns.length ≤ C.size ∧ rowOpn (h.upd b (.cells (lay C.toList (o + (i * sz + f)) ns).toArray t (0, 0))) A c sz enc xs i (lay cs f ns) := by
  obtain ⟨h1, h2, h3, hi, b, o, C, t, hs, q1, q2, q3, q4, q5, q6, q7, q8⟩ := hr
  have hmul : (i + 1) * sz ≤ c * sz := Nat.mul_le_mul_right _ (by omega)
  rw [Nat.add_mul, Nat.one_mul] at hmul
  have hfit : o + (i * sz + f) + ns.length ≤ C.size := by omega
  refine ⟨b, o, C, t, q1, q2, hfit, h1, h2, h3, hi, b, o, _, t, hs, q1, Hp.upd_same _ _ _, ?_, ?_, q5, q6, ?_, ?_⟩
  · simp only [List.size_toArray]
    rw [lay_length (by simpa using hfit)]
    simpa using q3
  · intro j k q hk
    rw [Hp.upd_ne]
    · exact q4 j k q hk
    · intro e'; subst e'; rw [q5 j] at hk; cases hk
  · rw [← Nat.add_assoc, cut_lay_same (by omega) hf, q7]
  · intro j y e hj
    have hjl := (List.getElem?_eq_some_iff.1 hj).1
    rw [cut_lay_other hfit]
    · exact q8 j y e hj
    · rcases Nat.lt_or_gt_of_ne e with e | e
      · left
        have : (j + 1) * sz ≤ i * sz := Nat.mul_le_mul_right _ e
        rw [Nat.add_mul, Nat.one_mul] at this
        omega
      · right
        have : (i + 1) * sz ≤ j * sz := Nat.mul_le_mul_right _ e
        rw [Nat.add_mul, Nat.one_mul] at this
        omega
theorem ownL_flat {h : Hp} {ρ : List LocV} {ds : List D} {vs : List Value} {cs : List SC} (hf : ∀ {h : Hp} {ρ : List LocV} {vs : List Value}, D.rdL h ds vs → SC.denL ρ cs vs) (ho : D.ownL h ds vs) : SC.denL ρ cs vs := hf (D.ownL_rdL _ _ ho)
theorem denL_lay' {ρ : List LocV} {cs new : List SC} {vs ns : List Value} {o : Nat} (h1 : SC.denL ρ cs vs) (h2 : SC.denL ρ new ns) : SC.denL ρ (cs.take o ++ new ++ cs.drop (o + new.length)) (lay vs o ns) := denL_lay h1 h2

theorem storeK_out {tb : Tab} {nt : Nat} {s : St} {t l i e f : Nat} {new : List SC} {K : List Chunk → Prop} {Z : Prop} (h : storeK tb s.chs t l i e f new K Z) :
    Z ∨ ∃ chs', K chs' ∧ ∀ {P : Program} {F : Fr} {ρ : List LocV} {a : Act} {w : World} {p v : Value}, TabOk P tb → Sat F nt ρ s a w → (SC.ptr l i e f).den ρ p → SC.denL ρ new v.cells.toList →
      ∃ w', (Instr.storeAt t p v).run P w = .ok () w' ∧ Sat F nt ρ ⟨s.env, chs'⟩ a w' := by
  unfold storeK at h
  split at h
  · exact .inl h
  rename_i ty hty
  split at h
  · exact .inl h
  rename_i hb
  have hnl := Nat.eq_of_beq_eq_true hb
  -- the run, wherever it lies
  have run : ∀ {P : Program} {w : World} {v : Value} {b o : Nat} {C : Array Value} {t' : TypeId} {ρ : List LocV}, TabOk P tb → SC.denL ρ new v.cells.toList → heapOf w b = some (.cells C t' (0, 0)) → o + new.length ≤ C.size →
      (Instr.storeAt t (.pointer (some ⟨b, o, none⟩)) v).run P w = .ok () (w.setRow b (lay C.toList o v.cells.toList).toArray) := by
    intro P w v b o C t' ρ ht hd hb hfit
    obtain ⟨x1, d1, z1, k1, k2, k3, k4, k5, k6, k7⟩ := (tabB_find ht.1 hty).ex
    have hl := SC.denL_length hd
    have hst := run_storeCells_at P b o t' v.cells.toList 0 C w hb (by rw [hl]; simpa using hfit) (SC.denL_one hd)
    have h1 : v.cells.size = x1.size := by rw [k3]; simp at hl; omega
    simp only [Nat.add_zero] at hst
    simp [Instr.storeAt, Instr.sureAddr, storeVar, sizeOf, typeInfo, k1, h1]
    simpa [lay] using hst
  split at h
  · rename_i vs hc
    split at h
    · rcases layK_out h with h | ⟨h1, h⟩
      · exact .inl h
      rw [setK_eq] at h
      refine .inr ⟨_, h, ?_⟩
      intro P F ρ a w p v ht hs hp hv
      obtain ⟨x, ad, hx, ha, rfl⟩ := hp
      obtain ⟨hs', m⟩ := hs.mem
      obtain ⟨x', b, C, t', hx', ha', hcap, hb, hd⟩ := m.ok l _ hc
      rw [hx] at hx'; cases hx'
      rw [ha] at ha'; cases ha'
      have hC : C.size = vs.length := by have := SC.denL_length hd; simpa using this
      have hl := SC.denL_length hv
      simp only [Nat.mul_zero, Nat.zero_add, add_at]
      have hr := run ht hv (m.le l _ _ hb) (o := f) (by omega)
      refine ⟨_, hr, hs.nd, hs.nt, by simpa using hs.len, hs.env, ?_⟩
      refine mem_upd m hb (heapOf_setRow w (m.le l _ _ hb) _) rfl rfl rfl _ ?_
      refine ⟨x, b, _, t', hx, ha, ?_, Hp.upd_same _ _ _, ?_⟩
      · simp only [List.size_toArray]
        rw [lay_length (by rw [hl]; simp; omega)]
        simpa using hcap
      · simpa using denL_lay' hd hv
    · exact .inl h
  · rename_i α sz enc xs hc
    split at h
    · rename_i hsz
      have hsz := Nat.eq_of_beq_eq_true hsz
      subst hsz
      obtain ⟨hi, h⟩ := h
      rcases flatK_out (h := Hp.emp) (ρ := []) h with h | ⟨old, h, hold⟩
      · exact .inl h
      rcases layK_out h with h | ⟨h1, h⟩
      · exact .inl h
      rcases toDK_out h with h | ⟨ds, ⟨⟨x, hx, h⟩⟩, hds⟩
      · exact .inl h
      rw [setK_eq] at h
      refine .inr ⟨_, h, ?_⟩
      intro P F ρ a w p v ht hs hp hv
      obtain ⟨xl, ad, hxl, ha, rfl⟩ := hp
      obtain ⟨hs', m⟩ := hs.mem
      obtain ⟨x', hx', hrow⟩ := m.ok l _ hc
      rw [hxl] at hx'; cases hx'
      have hl := SC.denL_length hv
      have hsize : ∀ (g : Hp) (cs : List Value), D.ownL g (enc xs[i]) cs → old.length = cs.length := fun g cs ho => (SC.denL_length (ownL_flat (ρ := ρ) hold ho)).symm
      have hold_sz : old.length = e := by
        obtain ⟨g1, g2, g3, g4⟩ := hrow
        rcases g4 with ⟨_, rfl⟩ | ⟨b, o, C, t, hs2, q1, q2, q3, q4, q5, q6, q7⟩
        · simp at hi
        have := hsize _ _ (q7 i _ (List.getElem?_eq_getElem hi))
        rw [this, cut_len]
        have hmul : (i + 1) * e ≤ xl.cap * e := Nat.mul_le_mul_right _ (by omega)
        rw [Nat.add_mul, Nat.one_mul] at hmul
        omega
      obtain ⟨b, o, C, t', hA, hb, hfit, hnew⟩ := row_set hrow hi (f := f) (ns := v.cells.toList) (x := x) (by omega) (fun g g' cs ho => by
        rw [hx]; exact hds (denL_lay' (ownL_flat (ρ := ρ) hold ho) hv))
      rw [ha] at hA; cases hA
      rw [add_at]
      have hr := run ht hv (m.le l _ _ hb) (o := o + (i * e + f)) (by omega)
      refine ⟨_, hr, hs.nd, hs.nt, by simpa using hs.len, hs.env, ?_⟩
      refine mem_upd m hb (heapOf_setRow w (m.le l _ _ hb) _) rfl rfl rfl _ ?_
      exact ⟨xl, hxl, hnew⟩
    · exact .inl h
  · rename_i α sz enc xs k vs hc
    split at h
    · rename_i hsz
      have hsz := Nat.eq_of_beq_eq_true hsz
      subst hsz
      obtain ⟨rfl, h⟩ := h
      rcases layK_out h with h | ⟨h1, h⟩
      · exact .inl h
      rw [setK_eq] at h
      refine .inr ⟨_, h, ?_⟩
      intro P F ρ a w p v ht hs hp hv
      obtain ⟨xl, ad, hxl, ha, rfl⟩ := hp
      obtain ⟨hs', m⟩ := hs.mem
      obtain ⟨x', cs, hx', hd, hrow⟩ := m.ok l _ hc
      rw [hxl] at hx'; cases hx'
      have hl := SC.denL_length hv
      have hvs : vs.length = e := by
        obtain ⟨g1, g2, g3, g4, b, o, C, t, hs2, q1, q2, q3, q4, q5, q6, q7, q8⟩ := hrow
        have := SC.denL_length hd
        rw [← this, ← q7, cut_len]
        have hmul : (i + 1) * e ≤ xl.cap * e := Nat.mul_le_mul_right _ (by omega)
        rw [Nat.add_mul, Nat.one_mul] at hmul
        omega
      obtain ⟨b, o, C, t', hA, hb, hfit, hnew⟩ := row_opn_set hrow (f := f) (ns := v.cells.toList) (by omega)
      rw [ha] at hA; cases hA
      rw [add_at]
      have hr := run ht hv (m.le l _ _ hb) (o := o + (i * e + f)) (by omega)
      refine ⟨_, hr, hs.nd, hs.nt, by simpa using hs.len, hs.env, ?_⟩
      refine mem_upd m hb (heapOf_setRow w (m.le l _ _ hb) _) rfl rfl rfl _ ?_
      exact ⟨xl, _, hxl, denL_lay' hd hv, hnew⟩
    · exact .inl h
  · exact .inl h

/-- ONE OPERATION. -/
theorem effK_out {tb : Tab} {nt : Nat} {env : List (Nat × SV)} {chs : List Chunk} {o : Oper} {K : List (Nat × SV) → List Chunk → Prop} {Z : Prop} (h : effK tb nt env chs o K Z) : Z ∨ ∃ env' chs', K env' chs' ∧ StepTo tb nt o ⟨env, chs⟩ ⟨env', chs'⟩ := by
  unfold effK at h
  split at h
  · rename_i t ho
    split at h
    · rename_i ty hty
      rcases newK_out h with h | h
      · exact .inl h
      rcases putK_out h with h | ⟨env', h, h2⟩
      · exact .inl h
      refine .inr ⟨env', _, h, box_step h2 ?_⟩
      intro P F ρ a w ht hs
      obtain ⟨x1, d1, z1, k1, k2, k3, k4, k5, k6, k7⟩ := (tabB_find ht.1 hty).ex
      refine ⟨z1.cells.toList, t, zeroB_den k7, ?_⟩
      simp [execOp, ho, Instr.alloc, zeroValue, typeInfo, k1, k6, newVar, newRow]
    · exact .inl h
  · rename_i t x ho
    rcases opdK_out h with h | ⟨sv, h, hsv⟩
    · exact .inl h
    split at h
    · rename_i cs hcs
      rcases newK_out h with h | h
      · exact .inl h
      rcases putK_out h with h | ⟨env', h, h2⟩
      · exact .inl h
      refine .inr ⟨env', _, h, box_step h2 ?_⟩
      intro P F ρ a w ht hs
      refine ⟨(a.eval x).cells.toList, t, svCells_den hcs (hsv _ _ hs.env), ?_⟩
      simp [execOp, ho, Instr.box, newVar, newRow]
    · exact .inl h
  · rename_i t p x ho
    split at h
    · rename_i hd
      rcases opdK_out h with h | ⟨sp, h, hsp⟩
      · exact .inl h
      split at h
      · rcases opdK_out h with h | ⟨sv, h, hsv⟩
        · exact .inl h
        split at h
        · rename_i new hnew
          rcases storeK_out (nt := nt) (s := ⟨env, chs⟩) h with h | ⟨chs', h, hst⟩
          · exact .inl h
          refine .inr ⟨_, _, h, ?_⟩
          intro P F ρ a w ht hs
          obtain ⟨w', hr, hs'⟩ := hst ht hs (hsp _ _ hs.env) (svCells_den hnew (hsv _ _ hs.env))
          refine ⟨ρ, w', undef, List.prefix_rfl, ?_, .inr ⟨?_, rfl⟩⟩
          · rw [hd]; exact hs'
          · simp [execOp, ho, hr]
        · exact .inl h
      · exact .inl h
    · exact .inl h
  · rcases evalK_out (s := ⟨env, chs⟩) h with h | ⟨sv, h, hev⟩
    · exact .inl h
    rcases putK_out h with h | ⟨env', h, h2⟩
    · exact .inl h
    refine .inr ⟨env', _, h, ?_⟩
    intro P F ρ a w ht hs
    obtain ⟨v, hv, hr⟩ := hev ht hs
    exact ⟨ρ, w, v, List.prefix_rfl, h2 hs hv, .inl hr⟩

/-! ### 15. the runner -/
theorem T_op {X : Cx} {all rest : List Oper} {o : Oper} {ks : List KI} {s s' : St} (hg : ∀ (a : Act) F ρ w, Sat F X.nt ρ s a w → Region.wanted o (yielded all.toArray a.tmps) = true) (hst : StepTo X.tb X.nt o s s')
    (h : T X (.ops all rest :: ks) s') : T X (.ops all (o :: rest) :: ks) s := by
  refine ⟨fun ht F ρ a w hF hρ hs => ?_⟩
  obtain ⟨ρ', w', v, h1, h2, h3⟩ := hst ht.tab hs
  have hn := h.go ht F ρ' _ _ hF (hρ.trans h1) h2
  have hw := hg a F ρ w hs
  show wpList _ _ _ (o :: rest) a w
  unfold wpList
  rw [if_pos hw]
  refine .inl ?_
  unfold Oper.wp
  rcases h3 with h3 | ⟨h3, rfl⟩
  · rw [h3]; exact hn
  · rw [h3]; exact hn
theorem T_skipop {X : Cx} {all rest : List Oper} {o : Oper} {ks : List KI} {s s' : St} (hg : ∀ (a : Act) F ρ w, Sat F X.nt ρ s a w → Region.wanted o (yielded all.toArray a.tmps) = false)
    (hst : ∀ (a : Act) F ρ w, Sat F X.nt ρ s a w → Sat F X.nt ρ s' (a.put o.dst undef) w) (h : T X (.ops all rest :: ks) s') : T X (.ops all (o :: rest) :: ks) s := by
  refine ⟨fun ht F ρ a w hF hρ hs => ?_⟩
  have hn := h.go ht F ρ _ _ hF hρ (hst a F ρ w hs)
  have hw := hg a F ρ w hs
  show wpList _ _ _ (o :: rest) a w
  unfold wpList
  rw [if_neg (by rw [hw]; simp)]
  exact hn
/-- A guarded operation. -/
def guardK (tb : Tab) (nt : Nat) (all : List Oper) (o : Oper) (env : List (Nat × SV)) (chs : List Chunk) (K : List (Nat × SV) → List Chunk → Prop) (Z : Prop) : Prop :=
  match o.guard with
  | none => effK tb nt env chs o K Z
  | some (j, want) => match all[j]? with
    | some oj => match oj.dst with
      | some d => match find env d with
        | some (.one (.lit b)) => match b, want with
          | true, true => effK tb nt env chs o K Z
          | false, false => effK tb nt env chs o K Z
          | _, _ => putK nt o.dst (.tup []) env (fun env => K env chs) Z
        | some (.one (.pr p _)) => match Nat.blt d nt with
          | true => match want with
            | true => Br p (¬ p) (effK tb nt ((d, .one (.lit true)) :: env) chs o K Z) (putK nt o.dst (.tup []) ((d, .one (.lit false)) :: env) (fun env => K env chs) Z)
            | false => Br p (¬ p) (putK nt o.dst (.tup []) ((d, .one (.lit true)) :: env) (fun env => K env chs) Z) (effK tb nt ((d, .one (.lit false)) :: env) chs o K Z)
          | false => Z
        | some (.one (.bool c)) => match Nat.blt d nt with
          | true => match want with
            | true => Br (c = true) (c = false) (effK tb nt ((d, .one (.lit true)) :: env) chs o K Z) (putK nt o.dst (.tup []) ((d, .one (.lit false)) :: env) (fun env => K env chs) Z)
            | false => Br (c = true) (c = false) (putK nt o.dst (.tup []) ((d, .one (.lit true)) :: env) (fun env => K env chs) Z) (effK tb nt ((d, .one (.lit false)) :: env) chs o K Z)
          | false => Z
        | some (.tup []) => putK nt o.dst (.tup []) env (fun env => K env chs) Z
        | _ => Z
      | none => Z
    | none => Z
/-- The run of what needs no word. -/
def runT (tb : Tab) (nt : Nat) : Nat → List KI → List (Nat × SV) → List Chunk → (List KI → List (Nat × SV) → List Chunk → Prop) → Prop
  | 0, ks, env, chs, C => C ks env chs
  | n + 1, ks, env, chs, C => match ks with
    | .code c :: r => match c with
      | .skip => runT tb nt n r env chs C
      | .seq a b => runT tb nt n (.code a :: .code b :: r) env chs C
      | .block id c => runT tb nt n (.code c :: .blk id :: r) env chs C
      | .region id ops false => runT tb nt n (.ops ops.toList ops.toList :: r) env chs C
      | .exit id => match exitK id r with
        | some r' => runT tb nt n r' env chs C
        | none => C ks env chs
      | .cond c x y => opdK env c (fun sv => match sv with
        | .one (.lit true) => runT tb nt n (.code x :: r) env chs C
        | .one (.lit false) => runT tb nt n (.code y :: r) env chs C
        | .one (.pr p _) => Br p (¬ p) (runT tb nt n (.code x :: r) env chs C) (runT tb nt n (.code y :: r) env chs C)
        | .one (.bool b) => Br (b = true) (b = false) (runT tb nt n (.code x :: r) env chs C) (runT tb nt n (.code y :: r) env chs C)
        | _ => C ks env chs) (C ks env chs)
      | _ => C ks env chs
    | .blk _ :: r => runT tb nt n r env chs C
    | .ops all rest :: r => match rest with
      | [] => runT tb nt n r env chs C
      | o :: rest => guardK tb nt all o env chs (fun env chs => runT tb nt n (.ops all rest :: r) env chs C) (C ks env chs)
    | _ => C ks env chs
end Go.Proofs.Ythdbhlpceodhlaa.Sx
