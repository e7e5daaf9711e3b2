/- A part of the framework that the proofs of this seat stand on: a separation logic over the model's walks, with a runner that Lean evaluates. It is proved here, without conditions of its own. -/
import Derived.Test.YthdbhlpceodhlaaSxO
set_option linter.unusedVariables false
set_option linter.unusedSimpArgs false
namespace Go.Proofs.Ythdbhlpceodhlaa.Sx
open Go

/-! ### 26. literals of slices -/
def joinS (env : List (Nat × SV)) (sz : Nat) : Nat → List (Nat × Operand) → (List SC → Prop) → Prop
  | _, [], K => K []
  | j, (n, x) :: r, K => match Nat.beq j n with
    | true => opdK env x (fun sv => match svCells sv with
      | some new => match Nat.beq new.length sz with
        | true => joinS env sz (j + 1) r (fun cs => appK new cs K)
        | false => False
      | none => False) False
    | false => False
theorem appK_eq : ∀ (a b : List SC) (K : List SC → Prop), appK a b K = K (a ++ b)
  | [], b, K => rfl
  | x :: a, b, K => by simp [appK, appK_eq a b]
def bslK (tb : Tab) (nt : Nat) (env : List (Nat × SV)) (chs : List Chunk) (t len : Nat) (parts : List (Nat × Operand)) (d : Option Nat) (C : List (Nat × SV) → List Chunk → Prop) : Prop :=
  match tfind tb t with
  | some ⟨_, _, .slice e, _⟩ => match tfind tb e with
    | some ⟨sz, _, _, _⟩ => match Nat.beq parts.length len, Nat.blt 0 sz, Nat.ble (len * sz) 16777216 with
      | true, true, true => match len with
        | 0 => newK chs .nilr (fun n chs => putK nt d (.one (.slc n 0)) env (fun env => C env chs) False) False
        | _ + 1 => joinS env sz 0 parts (fun cells => newK chs (.box cells) (fun n chs => putK nt d (.one (.slc n len)) env (fun env => C env chs) False) False)
      | _, _, _ => False
    | none => False
  | _ => False
theorem joinS_out {env : List (Nat × SV)} {sz : Nat} : ∀ {j : Nat} {parts : List (Nat × Operand)} {K : List SC → Prop}, joinS env sz j parts K → ∃ cs, K cs ∧ cs.length = parts.length * sz ∧
    ∀ {ρ : List LocV} {a : Act} {C : Array Value}, EnvOk ρ env a → (j + parts.length) * sz ≤ C.size → ∃ vs : List Value, SC.denL ρ cs vs ∧ Instr.fill (fun i => some (i * sz, sz)) C (parts.map fun x => (x.1, a.eval x.2)) = some (lay C.toList (j * sz) vs).toArray
  | j, [], K, h => ⟨[], h, by simp, fun {ρ a C} _ _ => ⟨[], rfl, by simp [Instr.fill, lay]⟩⟩
  | j, (n, x) :: r, K, h => by
    simp only [joinS] at h
    split at h
    · rename_i hj
      have := Nat.eq_of_beq_eq_true hj
      subst this
      rcases opdK_out h with h | ⟨sv, h, hsv⟩
      · exact h.elim
      split at h
      · rename_i new hnew
        split at h
        · rename_i hb
          have hb := Nat.eq_of_beq_eq_true hb
          obtain ⟨cs, h1, h2, h3⟩ := joinS_out h
          rw [appK_eq] at h1
          refine ⟨_, h1, by simp [h2, hb, Nat.add_mul, Nat.add_comm], fun {ρ a C} he hC => ?_⟩
          have hv := svCells_den hnew (hsv ρ a he)
          have hl := SC.denL_length hv
          have hm : (j + 1) * sz ≤ C.size := Nat.le_trans (Nat.mul_le_mul_right _ (by simp)) hC
          rw [Nat.add_mul, Nat.one_mul] at hm
          obtain ⟨vs, g1, g2⟩ := h3 (C := (lay C.toList (j * sz) (a.eval x).cells.toList).toArray) he (by
            simp only [List.size_toArray]
            rw [lay_length (by simp at hl ⊢; omega)]
            simpa [Nat.add_assoc, Nat.add_comm 1] using hC)
          refine ⟨(a.eval x).cells.toList ++ vs, SC.denL_append hv g1, ?_⟩
          have hvl := SC.denL_length g1
          rw [List.map_cons, fill_one (off := j * sz) (sz := sz) rfl (by rw [← hb, ← hl]; simp) (by omega)]
          have e0 : (C.toList.take (j * sz) ++ (a.eval x).cells.toList ++ C.toList.drop (j * sz + sz)).toArray = (lay C.toList (j * sz) (a.eval x).cells.toList).toArray := by
            unfold lay; rw [hl, hb]
          rw [e0, g2]
          congr 2
          -- laid one behind another
          apply List.ext_getElem?
          intro k
          have hne : (a.eval x).cells.toList.length = sz := by rw [hl, hb]
          have hCs : (j + (r.length + 1)) * sz ≤ C.size := by simpa using hC
          have hvs : vs.length = r.length * sz := by rw [hvl, h2]
          have hsum : j * sz + sz + vs.length ≤ C.size := by
            rw [hvs]
            have : (j + (r.length + 1)) * sz = j * sz + (r.length * sz + sz) := by rw [Nat.add_mul, Nat.add_mul, Nat.one_mul]
            omega
          have q1 : (lay C.toList (j * sz) (a.eval x).cells.toList).length = C.size := by
            rw [lay_length (by rw [hne]; simp; omega)]; simp
          have hj1 : (j + 1) * sz = j * sz + sz := by rw [Nat.add_mul, Nat.one_mul]
          rw [lay_get (by rw [q1, hj1]; omega), lay_get (by rw [hne]; simp; omega), lay_get (by rw [List.length_append, hne]; simp; omega)]
          rw [hj1]
          simp only [List.length_append, hne]
          by_cases c1 : j * sz ≤ k ∧ k < j * sz + sz
          · rw [if_neg (by omega), if_pos c1, if_pos (by omega), List.getElem?_append_left (by omega)]
          · by_cases c2 : j * sz + sz ≤ k ∧ k < j * sz + sz + vs.length
            · rw [if_pos c2, if_pos (by omega), List.getElem?_append_right (by omega)]
              congr 1; omega
            · rw [if_neg c2, if_neg c1, if_neg (by omega)]
        · exact h.elim
      · exact h.elim
    · exact h.elim
theorem bslK_step {tb : Tab} {nt : Nat} {env : List (Nat × SV)} {chs : List Chunk} {t len : Nat} {parts : Array (Nat × Operand)} {d : Option Nat} {ty : TypeId} {pos : String} {after : Array Edge} {C : List (Nat × SV) → List Chunk → Prop} (hz : zszB tb = true)
    (h : bslK tb nt env chs t len parts.toList d C) : ∃ env' chs', C env' chs' ∧ StepTo tb nt { dst := d, op := .buildSlice t len parts, type := ty, pos := pos, after := after, guard := none } ⟨env, chs⟩ ⟨env', chs'⟩ := by
  unfold bslK at h
  split at h
  · rename_i s0 b0 e z0 hty
    split at h
    · rename_i sz bytes kd zero hte
      split at h
      · rename_i hl hsz hbig
        have hl := Nat.eq_of_beq_eq_true hl
        have hsz : 0 < sz := by simpa [Nat.blt_eq] using hsz
        have hbig := Nat.le_of_ble_eq_true hbig
        have hmap : ∀ a : Act, parts.map (fun (x : Nat × Operand) => (x.1, a.eval x.2)) = (parts.toList.map fun x => (x.1, a.eval x.2)).toArray := by
          intro a; apply Array.ext'; simp
        split at h
        · have hp : parts = #[] := by
            have : parts.toList = [] := List.eq_nil_of_length_eq_zero (by simpa using hl)
            exact Array.ext' (by simpa using this)
          subst hp
          rcases newK_out h with h | j1
          · exact h.elim
          rcases putK_out j1 with h | ⟨env', j1, hput⟩
          · exact h.elim
          refine ⟨env', _, j1, ?_⟩
          intro P F ρ a w ht hs
          obtain ⟨x1, d1, z1, a1, a2, a3, a4, a5, a6, a7⟩ := (tabB_find ht.1 hty).ex
          obtain ⟨x2, d2, z2, b1, b2, b3, b4, b5, b6, b7⟩ := (tabB_find ht.1 hte).ex
          have e1 := kindB_slice a5
          subst e1
          have hln := hs.len
          simp at hln
          refine ⟨ρ ++ [⟨some ⟨w.heap.size, 0, none⟩, 0⟩], w.alloc (.cells #[] e), _, prefix_snoc _ _, hput (sat_new hs _ _ _ (fun hp hhp => ⟨_, get_snoc _ _, rfl⟩)) ⟨_, by rw [← hln]; exact get_snoc _ _, rfl⟩, .inl ?_⟩
          simp [execOp, Instr.buildSlice, run_underlying a2, sizeOf, typeInfo, b1, Instr.fill, newRow, Array.range]
          congr 2
          apply Array.ext (by simp); intro i h1 h2; simp at h2
        · rename_i len hbb hba
          obtain ⟨cells, h1, hcl, h2⟩ := joinS_out h
          rcases newK_out h1 with h | j1
          · exact h.elim
          rcases putK_out j1 with h | ⟨env', j1, hput⟩
          · exact h.elim
          refine ⟨env', _, j1, ?_⟩
          intro P F ρ a w ht hs
          obtain ⟨x1, d1, z1, a1, a2, a3, a4, a5, a6, a7⟩ := (tabB_find ht.1 hty).ex
          obtain ⟨x2, d2, z2, b1, b2, b3, b4, b5, b6, b7⟩ := (tabB_find ht.1 hte).ex
          have e1 := kindB_slice a5
          subst e1
          have hln := hs.len
          simp at hln
          have hne : ¬ ((len + 1) * sz = 0) := by
            have : 0 < (len + 1) * sz := Nat.mul_pos (by omega) hsz
            omega
          obtain ⟨vs, g1, g2⟩ := h2 (ρ := ρ) (a := a) (C := madeCells z2.cells ((len + 1) * sz)) hs.env (by rw [size_madeCells, hl]; simp)
          have hvl := SC.denL_length g1
          have hfull : (lay (madeCells z2.cells ((len + 1) * sz)).toList (0 * sz) vs).toArray = vs.toArray := by
            have h3 : vs.length = (madeCells z2.cells ((len + 1) * sz)).toList.length := by
              rw [hvl, hcl, hl]; simp [size_madeCells]
            simp only [lay, Nat.zero_mul, Nat.zero_add, List.take_zero, List.nil_append]
            rw [List.drop_of_length_le (by omega)]
            simp
          rw [hfull] at g2
          refine ⟨ρ ++ [⟨some ⟨w.heap.size, 0, none⟩, len + 1⟩], w.alloc (.cells vs.toArray e), .slice (some ⟨w.heap.size, 0, none⟩) (len + 1) (len + 1), prefix_snoc _ _, hput (sat_new hs _ _ _ (fun hp hhp => ?_)) ⟨_, by rw [← hln]; exact get_snoc _ _, rfl⟩, .inl ?_⟩
          · refine ⟨_, w.heap.size, _, e, get_snoc _ _, rfl, ?_, hhp, by simpa using SC.denL_mono (prefix_snoc _ _) g1⟩
            simp only [List.size_toArray, hvl, hcl, hl]
            exact Nat.le_mul_of_pos_right _ hsz
          · have hbig' : ¬ (16777216 < (len + 1) * sz) := by rw [← Nat.succ_eq_add_one]; omega
            have hmm := hmap a
            have hfill : Instr.fill (fun i => some (i * sz, sz)) ((Array.range ((len + 1) * sz)).map (z2.cells[· % z2.cells.size]!)) (parts.map (fun (x : Nat × Operand) => (x.1, a.eval x.2))).toList = some vs.toArray := by
              rw [hmm]; exact g2
            simp [execOp, Instr.buildSlice, run_underlying a2, sizeOf, typeInfo, b1, b3, hbig', hne, zeroValue, b6, newRow]
            have hfill' : Instr.fill (fun i => some (i * sz, sz)) (Array.map (fun x => z2.cells[x % z2.cells.size]!) (Array.range ((len + 1) * sz))) (List.map (fun x => (x.fst, a.eval x.snd)) parts.toList) = some vs.toArray := by
              simpa using hfill
            rw [hfill']
            simp
      · exact h.elim
    · exact h.elim
  · exact h.elim
/-- A LITERAL OF A SLICE. -/
theorem blit {P : Program} {tb : Tab} {F : Fr} {nt n0 : Nat} {ρ0 : List LocV} {ro : List Chunk} {Q : Exit → Act → World → Prop} {all rest : List Oper} {ks : List KI} {env : List (Nat × SV)} {chs : List Chunk} {d : Option Nat} {t len : Nat} {parts : Array (Nat × Operand)} {ty : TypeId} {pos : String} {after : Array Edge}
    (hz : zszB tb = true) (h : bslK tb nt env chs t len parts.toList d (fun env chs => runT tb nt 600 (.ops all rest :: ks) env chs (fun ks env chs => T ⟨P, tb, F, nt, n0, ρ0, ro, Q⟩ ks ⟨env, chs⟩))) :
    T ⟨P, tb, F, nt, n0, ρ0, ro, Q⟩ (.ops all ({ dst := d, op := .buildSlice t len parts, type := ty, pos := pos, after := after, guard := none } :: rest) :: ks) ⟨env, chs⟩ := by
  obtain ⟨env', chs', h1, h2⟩ := bslK_step (ty := ty) (pos := pos) (after := after) hz h
  exact step_T (X := ⟨P, tb, F, nt, n0, ρ0, ro, Q⟩) rfl h2 (run 600 h1)

/-! ### 27. the state told otherwise, no code run -/
/-- AN OWN ROW's ELEMENT IS OPENED. -/
theorem opn {P : Program} {tb : Tab} {F : Fr} {nt n0 : Nat} {ρ0 : List LocV} {ro : List Chunk} {Q : Exit → Act → World → Prop} {ks : List KI} {env : List (Nat × SV)} {chs : List Chunk} {α : Type} {sz : Nat} {enc : α → List D} {xs : List α} (k i : Nat) (hk : chs[k]? = some (.row true sz enc xs)) (hi : i < xs.length)
    (h : setK .dead k chs (fun chs1 => opnK F.h true (enc xs[i]) chs1 (fun vs chs2 => setK (.opn true sz enc xs i vs) k chs2 (fun chs => runT tb nt 600 ks env chs (fun ks env chs => T ⟨P, tb, F, nt, n0, ρ0, ro, Q⟩ ks ⟨env, chs⟩))))) : T ⟨P, tb, F, nt, n0, ρ0, ro, Q⟩ ks ⟨env, chs⟩ :=
  opn0 (X := ⟨P, tb, F, nt, n0, ρ0, ro, Q⟩) (fun chs h => run 600 h) k i hk hi h
theorem opr {P : Program} {tb : Tab} {F : Fr} {nt n0 : Nat} {ρ0 : List LocV} {ro : List Chunk} {Q : Exit → Act → World → Prop} {ks : List KI} {env : List (Nat × SV)} {chs : List Chunk} {α : Type} {sz : Nat} {enc : α → List D} {xs : List α} (k i : Nat) (hk : chs[k]? = some (.row false sz enc xs)) (hi : i < xs.length)
    (h : opnK F.h false (enc xs[i]) chs (fun vs chs2 => setK (.opn false sz enc xs i vs) k chs2 (fun chs => runT tb nt 600 ks env chs (fun ks env chs => T ⟨P, tb, F, nt, n0, ρ0, ro, Q⟩ ks ⟨env, chs⟩)))) : T ⟨P, tb, F, nt, n0, ρ0, ro, Q⟩ ks ⟨env, chs⟩ :=
  opr0 (X := ⟨P, tb, F, nt, n0, ρ0, ro, Q⟩) (fun chs h => run 600 h) k i hk hi h
theorem close {P : Program} {tb : Tab} {F : Fr} {nt n0 : Nat} {ρ0 : List LocV} {ro : List Chunk} {Q : Exit → Act → World → Prop} {ks : List KI} {env : List (Nat × SV)} {chs : List Chunk} {α : Type} {sz : Nat} {enc : α → List D} {xs : List α} {i : Nat} {vs : List SC} (k : Nat) (x : α) (hk : chs[k]? = some (.opn true sz enc xs i vs))
    (h : absK chs (enc x) vs (fun chs' => setK (.row true sz enc (xs.set i x)) k chs' (fun chs => runT tb nt 600 ks env chs (fun ks env chs => T ⟨P, tb, F, nt, n0, ρ0, ro, Q⟩ ks ⟨env, chs⟩)))) : T ⟨P, tb, F, nt, n0, ρ0, ro, Q⟩ ks ⟨env, chs⟩ :=
  close0 (X := ⟨P, tb, F, nt, n0, ρ0, ro, Q⟩) (fun chs h => run 600 h) k x hk h
theorem shut {P : Program} {tb : Tab} {F : Fr} {nt n0 : Nat} {ρ0 : List LocV} {ro : List Chunk} {Q : Exit → Act → World → Prop} {ks : List KI} {env : List (Nat × SV)} {chs : List Chunk} {α : Type} {sz : Nat} {enc : α → List D} {xs : List α} {i : Nat} {vs : List SC} (k : Nat) (hk : chs[k]? = some (.opn false sz enc xs i vs))
    (h : setK (.row false sz enc xs) k chs (fun chs => runT tb nt 600 ks env chs (fun ks env chs => T ⟨P, tb, F, nt, n0, ρ0, ro, Q⟩ ks ⟨env, chs⟩))) : T ⟨P, tb, F, nt, n0, ρ0, ro, Q⟩ ks ⟨env, chs⟩ := by
  rw [setK_eq] at h
  refine T_conv (X := ⟨P, tb, F, nt, n0, ρ0, ro, Q⟩) (fun hX G ρ a w hF hρ hs => ?_) (run 600 h)
  obtain ⟨hs0, m⟩ := hs.mem
  obtain ⟨x, cs, e1, e2, e3⟩ := m.ok k _ hk
  exact ⟨G, ρ, Fle.refl G, hρ, hs.nd, hs.nt, by simpa using hs.len, hs.env, ⟨_, memH_set m k (.row false sz enc xs) (hs0 k) (m.le k) (fun j hj => m.dj k j (Ne.symm hj)) (m.djF k) ⟨x, e1, opr_rd e3⟩⟩⟩
/-- FROM HERE ON ONLY READ. -/
theorem demote {P : Program} {tb : Tab} {F : Fr} {nt n0 : Nat} {ρ0 : List LocV} {ro : List Chunk} {Q : Exit → Act → World → Prop} {ks : List KI} {env : List (Nat × SV)} {chs : List Chunk} {α : Type} {sz : Nat} {enc : α → List D} {xs : List α} (k : Nat) (hk : chs[k]? = some (.row true sz enc xs))
    (h : setK (.row false sz enc xs) k chs (fun chs => runT tb nt 600 ks env chs (fun ks env chs => T ⟨P, tb, F, nt, n0, ρ0, ro, Q⟩ ks ⟨env, chs⟩))) : T ⟨P, tb, F, nt, n0, ρ0, ro, Q⟩ ks ⟨env, chs⟩ := by
  rw [setK_eq] at h
  refine T_conv (X := ⟨P, tb, F, nt, n0, ρ0, ro, Q⟩) (fun hX G ρ a w hF hρ hs => ?_) (run 600 h)
  obtain ⟨hs0, m⟩ := hs.mem
  obtain ⟨x, e1, e2⟩ := m.ok k _ hk
  have hdj : G.h.dj (hs0 k) := Hp.dj_symm (m.djF k)
  let G' : Fr := ⟨G.h.un (hs0 k), G.os, G.tape, G.out⟩
  have hle : G.h.le G'.h := Hp.le_un_l _ _
  refine ⟨G', ρ, ⟨hle, rfl, rfl, rfl⟩, hρ, hs.nd, hs.nt, by simpa using hs.len, hs.env, fun i => if i = k then Hp.emp else hs0 i, ?_, ?_, ?_, ?_, ⟨m.F.os, m.F.tape, m.F.out, Hp.un_le m.F.h (m.le k)⟩⟩
  · intro i c hc
    by_cases e : i = k
    · subst e
      have hlt : i < chs.length := by have := (List.getElem?_eq_some_iff.1 hc).1; simpa using this
      simp [List.getElem?_set, hlt] at hc
      subst hc
      exact ⟨x, e1, rowRd_mono (Hp.le_un_r hdj) (rowOwn_rd e2)⟩
    · simp only [if_neg e]
      have hc : chs[i]? = some c := by
        have := hc
        rw [List.getElem?_set_ne (Ne.symm e)] at this
        exact this
      have := m.ok i c hc
      cases c with
      | dead => trivial
      | box vs => exact this
      | nilr => exact this
      | view l off sz => exact this
      | row own sz enc xs =>
        cases own with
        | true => exact this
        | false => obtain ⟨y, y1, y2⟩ := this; exact ⟨y, y1, rowRd_mono hle y2⟩
      | opn own sz enc xs j vs =>
        cases own with
        | true => exact this
        | false =>
          obtain ⟨y, cs, y1, y2, q1, q2, q3, q4, b, o, C, t, fr, q5, q6, q7, q8⟩ := this
          exact ⟨y, cs, y1, y2, q1, q2, q3, q4, b, o, C, t, fr, q5, hle _ _ q6, q7, fun j x hx => D.rdL_mono hle _ _ (q8 j x hx)⟩
  · intro i j hij
    by_cases e : i = k
    · simp only [if_pos e]; exact Hp.emp_dj _
    · by_cases e' : j = k
      · simp only [if_pos e']; exact Hp.dj_emp _
      · simp only [if_neg e, if_neg e']; exact m.dj i j hij
  · intro i
    by_cases e : i = k
    · simp only [if_pos e]; exact Hp.emp_dj _
    · simp only [if_neg e]; exact Hp.dj_un (m.djF i) (m.dj i k e)
  · intro i
    by_cases e : i = k
    · simp only [if_pos e]; exact Hp.emp_le _
    · simp only [if_neg e]; exact m.le i
/-- A nil slice gets a location. -/
theorem nilAt {P : Program} {tb : Tab} {F : Fr} {nt n0 : Nat} {ρ0 : List LocV} {ro : List Chunk} {Q : Exit → Act → World → Prop} {ks : List KI} {env : List (Nat × SV)} {chs : List Chunk} (d : Nat) (hd : find env d = some (.one .nil))
    (h : newK chs .nilr (fun n chs => runT tb nt 600 ks ((d, .one (.slc n 0)) :: env) chs (fun ks env chs => T ⟨P, tb, F, nt, n0, ρ0, ro, Q⟩ ks ⟨env, chs⟩)) False) : T ⟨P, tb, F, nt, n0, ρ0, ro, Q⟩ ks ⟨env, chs⟩ := by
  rcases newK_out h with h | h
  · exact h.elim
  refine T_conv (X := ⟨P, tb, F, nt, n0, ρ0, ro, Q⟩) (fun hX G ρ a w hF hρ hs => ?_) (run 600 h)
  obtain ⟨hs0, m⟩ := hs.mem
  have m' := memH_new m hs.len ⟨none, 0⟩ .nilr Hp.emp (Hp.emp_le _) (fun i => Hp.emp_dj _) (Hp.emp_dj _) ⟨_, get_snoc _ _, rfl⟩
  have hl := hs.len
  simp at hl
  refine ⟨G, ρ ++ [⟨none, 0⟩], Fle.refl G, hρ.trans (prefix_snoc _ _), hs.nd, hs.nt, by simp [hl], ?_, ⟨_, m'⟩⟩
  intro k sv hk
  simp only [find] at hk
  cases e : Nat.beq d k with
  | true =>
    rw [e] at hk; cases hk
    have := Nat.eq_of_beq_eq_true e
    subst this
    obtain ⟨v, h1, h2⟩ := hs.env _ _ hd
    exact ⟨v, h1, ⟨⟨none, 0⟩, by rw [← hl]; exact get_snoc _ _, h2⟩⟩
  | false =>
    rw [e] at hk
    exact envOk_mono (prefix_snoc _ _) hs.env k sv hk
/-- What a row is long. -/
theorem rowLen {P : Program} {tb : Tab} {F : Fr} {nt n0 : Nat} {ρ0 : List LocV} {ro : List Chunk} {Q : Exit → Act → World → Prop} {ks : List KI} {env : List (Nat × SV)} {chs : List Chunk} {α : Type} {own : Bool} {sz : Nat} {enc : α → List D} {xs : List α} (k : Nat) (hk : chs[k]? = some (.row own sz enc xs))
    (h : xs.length ≤ 281474976710656 → T ⟨P, tb, F, nt, n0, ρ0, ro, Q⟩ ks ⟨env, chs⟩) : T ⟨P, tb, F, nt, n0, ρ0, ro, Q⟩ ks ⟨env, chs⟩ := by
  refine ⟨fun hX G ρ a w hF hρ hs => ?_⟩
  obtain ⟨hs0, m⟩ := hs.mem
  have hl : xs.length ≤ 281474976710656 := by
    obtain ⟨x, e1, e2⟩ := chunk_row.1 (m.ok k _ hk)
    cases own with
    | true => exact e2.2.1
    | false => exact e2.2.1
  exact (h hl).go hX G ρ a w hF hρ hs

/-! ### 28. slices of slices -/
def optIntK (env : List (Nat × SV)) (x : Option Operand) (n : Nat) (K : Int → Prop) : Prop :=
  match x with
  | none => K n
  | some x => opdK env x (fun sv => match sv with
    | .one (.int _ i) => K i
    | _ => False) False
/-- s[i:] of an own row: the row from i on; what lay before is given up. -/
def cutK (tb : Tab) (nt : Nat) (env : List (Nat × SV)) (chs : List Chunk) (t d : Nat) (ox lo : Operand) (C : List (Nat × SV) → List Chunk → Prop) : Prop :=
  match tfind tb t with
  | some ⟨_, _, .slice e, _⟩ => match tfind tb e with
    | some ⟨es, _, _, _⟩ => opdK env ox (fun sx => match sx with
      | .one (.slc l n) => opdK env lo (fun sl => match sl with
        | .one (.int _ i) => match chs[l]? with
          | some (.row true sz enc xs) => match Nat.beq es sz with
            | true => Ob (n = xs.length) fun _ => Ix i (n + 1) (n + 1) (fun j => setK .dead l chs (fun chs => newK chs (.row true sz enc (xs.drop j)) (fun k chs => putK nt (some d) (.one (.slc k (xs.drop j).length)) env (fun env => C env chs) False) False))
            | false => False
          | _ => False
        | _ => False) False
      | _ => False) False
    | none => False
  | _ => False
theorem cutK_step {tb : Tab} {nt : Nat} {env : List (Nat × SV)} {chs : List Chunk} {t d : Nat} {ox lo : Operand} {ty : TypeId} {pos : String} {after : Array Edge} {C : List (Nat × SV) → List Chunk → Prop}
    (h : cutK tb nt env chs t d ox lo C) : ∃ env' chs', C env' chs' ∧ StepTo tb nt { dst := some d, op := .slice t ox (some lo) none none, type := ty, pos := pos, after := after, guard := none } ⟨env, chs⟩ ⟨env', chs'⟩ := by
  unfold cutK at h
  split at h
  · rename_i s0 b0 e z0 hty
    split at h
    · rename_i es bytes kd zero hte
      rcases opdK_out h with h | ⟨sx, h2, hsx⟩
      · exact h.elim
      clear h
      split at h2
      · rename_i l n
        rcases opdK_out h2 with h | ⟨sl, h3, hsl⟩
        · exact h.elim
        clear h2
        split at h3
        · rename_i ki i
          split at h3
          · rename_i α sz enc xs hc
            split at h3
            · rename_i hes
              have hes := Nat.eq_of_beq_eq_true hes
              subst hes
              obtain ⟨rfl, h3⟩ := h3
              obtain ⟨j, rfl, hj, _, h3⟩ := h3.ex
              rw [setK_eq] at h3
              rcases newK_out h3 with h | h4
              · exact h.elim
              rcases putK_out h4 with h | ⟨env', h4, hput⟩
              · exact h.elim
              refine ⟨env', _, h4, ?_⟩
              intro P F ρ a w ht hs
              obtain ⟨x1, d1, z1, a1, a2, a3, a4, a5, a6, a7⟩ := (tabB_find ht.1 hty).ex
              obtain ⟨x2, d2, z2, b1, b2, b3, b4, b5, b6, b7⟩ := (tabB_find ht.1 hte).ex
              have e1 := kindB_slice a5
              subst e1
              obtain ⟨hs0, m⟩ := hs.mem
              obtain ⟨x, hx, g1, g2, g3, g4⟩ := m.ok l _ hc
              obtain ⟨x', hx', hxv⟩ := hsx ρ a hs.env
              rw [hx] at hx'; cases hx'
              have hlv : a.eval lo = .int ki j := hsl ρ a hs.env
              have m1 := memH_dead m l
              -- the row from j on
              have hnew : rowOwn (hs0 l) (if x.cap = j then x.addr else x.addr.map (·.add (j * es))) (x.cap - j) es enc (xs.drop j) := by
                refine ⟨by simp; omega, by simp; have := g2; simp only [maxL] at *; omega, g3, ?_⟩
                by_cases hcj : x.cap = j
                · left
                  exact ⟨by omega, by rw [List.drop_eq_nil_iff]; omega⟩
                · rcases g4 with ⟨h0, rfl⟩ | ⟨b, o, C', te, hh, q1, q2, q3, q4, q5, q6, q7⟩
                  · exfalso; simp at hj; omega
                  · right
                    have hmul : j * es ≤ x.cap * es := Nat.mul_le_mul_right _ (by omega)
                    refine ⟨b, o + j * es, C', te, fun k => hh (j + k), ?_, q2, ?_, fun k => q4 _, fun k => q5 _, fun k k' hk => q6 _ _ (by omega), ?_⟩
                    · rw [if_neg hcj, q1]; simp [add_at]
                    · rw [Nat.mul_sub_right_distrib]; omega
                    · intro k y hk
                      rw [List.getElem?_drop] at hk
                      have := q7 (j + k) y hk
                      rwa [Nat.add_mul, ← Nat.add_assoc] at this
              have hlen1 : ρ.length = (chs.set l .dead).length := by simpa using hs.len
              have m4 := memH_new m1 hlen1 ⟨if x.cap = j then x.addr else x.addr.map (·.add (j * es)), x.cap - j⟩ (.row true es enc (xs.drop j)) (hs0 l) (m.le l) (fun k => by
                by_cases ek : k = l
                · simp only [if_pos ek]; exact Hp.dj_emp _
                · simp only [if_neg ek]; exact m.dj l k (Ne.symm ek)) (m.djF l) ⟨_, get_snoc _ _, hnew⟩
              refine ⟨ρ ++ [⟨if x.cap = j then x.addr else x.addr.map (·.add (j * es)), x.cap - j⟩], w, .slice (if x.cap = j then x.addr else x.addr.map (·.add (j * es))) (xs.length - j) (x.cap - j), prefix_snoc _ _, hput (put_env hs.nd hs.nt (by simpa using hs.len) (envOk_mono (prefix_snoc _ _) hs.env) ⟨_, m4⟩) ⟨_, by rw [← hlen1]; exact get_snoc _ _, by simp⟩, .inl ?_⟩
              have hjc : (j : Int) ≤ xs.length := by omega
              simp [execOp, hxv, hlv, Instr.sliceAt, run_underlying a2, Instr.slice, Instr.sliceBounds, Instr.sliceBound, asIntOf, sizeOf, typeInfo, b1, b3, hjc, show j ≤ xs.length by omega]
            · exact h3.elim
          · exact h3.elim
        · exact h3.elim
      · exact h2.elim
    · exact h.elim
  · exact h.elim
/-- s[i:], WHAT LAY BEFORE GIVEN UP. -/
theorem cutOwn {P : Program} {tb : Tab} {F : Fr} {nt n0 : Nat} {ρ0 : List LocV} {ro : List Chunk} {Q : Exit → Act → World → Prop} {all rest : List Oper} {ks : List KI} {env : List (Nat × SV)} {chs : List Chunk} {d t : Nat} {ox lo : Operand} {ty : TypeId} {pos : String} {after : Array Edge}
    (h : cutK tb nt env chs t d ox lo (fun env chs => runT tb nt 600 (.ops all rest :: ks) env chs (fun ks env chs => T ⟨P, tb, F, nt, n0, ρ0, ro, Q⟩ ks ⟨env, chs⟩))) :
    T ⟨P, tb, F, nt, n0, ρ0, ro, Q⟩ (.ops all ({ dst := some d, op := .slice t ox (some lo) none none, type := ty, pos := pos, after := after, guard := none } :: rest) :: ks) ⟨env, chs⟩ := by
  obtain ⟨env', chs', h1, h2⟩ := cutK_step (ty := ty) (pos := pos) (after := after) h
  exact step_T (X := ⟨P, tb, F, nt, n0, ρ0, ro, Q⟩) rfl h2 (run 600 h1)
/-- A call in a drawn region that only reads: its answer is one scalar. -/
theorem callq {P : Program} {tb : Tab} {F : Fr} {nt n0 : Nat} {ρ0 : List LocV} {ro : List Chunk} {Q : Exit → Act → World → Prop} {all rest : List Oper} {ks : List KI} {env : List (Nat × SV)} {chs : List Chunk} {d : Nat} {fop : Operand} {xs : List Operand} {ts : Array TypeId} {ty : TypeId} {pos : String} {after : Array Edge} {f : Nat} {args : List SV} {pre : List Chunk} {Post : SV → List Chunk → Prop}
    (sel : List (Option Nat)) (r : SV) (v : Value) (hspec : FSpec P f args pre Post) (hv : ∀ ρ, r.den ρ v) (hin : CallIn sel env chs fop xs f args pre)
    (hd : Nat.blt d nt = true) (hout : ∀ res post, Post res post → callK nt sel pre env chs (some d) res post (fun env' chs' => env' = (d, r) :: env ∧ chs' = chs))
    (h : runQ tb nt all chs rest ((d, r) :: env) (fun rest env => endR P tb F nt n0 ρ0 ro Q all ks chs rest env)) :
    TQ ⟨P, tb, F, nt, n0, ρ0, ro, Q⟩ all ({ dst := some d, op := .call { callee := .value fop, args := xs.toArray, argTypes := ts }, type := ty, pos := pos, after := after, guard := none } :: rest) ks ⟨env, chs⟩ :=
  TQ_call0 (X := ⟨P, tb, F, nt, n0, ρ0, ro, Q⟩) (fun _ => by simp [Region.wanted]) sel r v hv hspec hin hd hout (quiet_on h)
end Go.Proofs.Ythdbhlpceodhlaa.Sx
