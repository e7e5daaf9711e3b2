/- A part of the framework that the proofs of this seat stand on: a separation logic over the model's walks, with a runner that Lean evaluates. It is proved here, without conditions of its own. -/
import Derived.Test.YthdbhlpceodhlaaSxM
set_option linter.unusedVariables false
set_option linter.unusedSimpArgs false
namespace Go.Proofs.Ythdbhlpceodhlaa.Sx
open Go

/-! ### 23. append -/
theorem run_append_at {P : Program} (w : World) (t t' ty e : TypeId) (i : TypeInfo) (ht : P.underlying t = some (.slice e)) (hi : P.info? e = some i)
    (g o sLen sCap : Nat) (cur : Array Value) (te : TypeId) (hg : w.heap[g]? = some (.cells cur te (0, 0))) (hx : P.underlying t' = some (.slice e))
    (a : Addr) (m c : Nat) (news : List Value) (hl : news.length = m * i.size) (hnews : ∀ j u, news[j]? = some u → w.cell? (a.add j) = some u) (h1 : ∀ u ∈ news, u.oneCell' = true)
    (hroom : sLen + m ≤ sCap) (hfit : o + sLen * i.size + news.length ≤ cur.size) :
    (Builtin.append_ #[t, t'] ty #[.slice (some ⟨g, o, none⟩) sLen sCap, .slice (some a) m c]).run P w =
      .ok (.slice (some ⟨g, o, none⟩) (sLen + m) sCap) (w.setRow g (lay cur.toList (o + sLen * i.size) news).toArray) := by
  have hf := run_firstCells_some (P := P) w i.size m a m c news hl hnews
  have hst := run_storeCells_at P g (o + sLen * i.size) te news 0 cur w hg (by simpa using hfit) h1
  simp only [Nat.add_zero] at hst
  simp [Builtin.append_, run_underlying ht, run_underlying hx, sizeOf, typeInfo, hi, Builtin.lenOf, hroom, hf, add_at, hst, lay]
theorem run_append_new {P : Program} (w : World) (t t' ty e : TypeId) (i : TypeInfo) (z : Value) (ht : P.underlying t = some (.slice e)) (hx : P.underlying t' = some (.slice e)) (hi : P.info? e = some i) (hz : i.zero = some z)
    (A : Option Addr) (sLen sCap : Nat) (olds : List Value) (hlo : olds.length = sLen * i.size) (holds : 0 < sLen → ∃ b, A = some b ∧ ∀ j v, olds[j]? = some v → w.cell? (b.add j) = some v)
    (a : Addr) (n c : Nat) (news : List Value) (hl : news.length = n * i.size) (hnews : ∀ j v, news[j]? = some v → w.cell? (a.add j) = some v)
    (hg : sCap < sLen + n) (h63 : ((sLen + n : Nat) : Int) ≤ 9223372036854775807) (hfit : Builtin.nextslicecap (sLen + n) sCap * i.bytes ≤ 281474976710656) :
    (Builtin.append_ #[t, t'] ty #[.slice A sLen sCap, .slice (some a) n c]).run P w =
      .ok (.slice (some ⟨w.heap.size, 0, none⟩) (sLen + n) (grownCap w (sLen + n) sCap e))
        (w.drew.alloc (.cells (olds.toArray ++ news.toArray ++ Builtin.zeroCells z.cells (grownCap w (sLen + n) sCap e - (sLen + n))) e)) := by
  have hn : ¬ (sLen + n ≤ sCap) := by omega
  have h63' : ¬ (9223372036854775807 < ((sLen : Int) + (n : Int))) := by omega
  have h48' : ¬ (281474976710656 < Builtin.nextslicecap (sLen + n) sCap * i.bytes) := by omega
  have hf := run_firstCells_some (P := P) w.drew i.size n a n c news hl (by simpa using hnews)
  have hfo : (Builtin.firstCells i.size sLen (.slice A sLen sCap)).run P w.drew = .ok olds.toArray w.drew := by
    rcases Nat.eq_zero_or_pos sLen with h0 | h0
    · subst h0
      have : olds = [] := List.eq_nil_of_length_eq_zero (by simpa using hlo)
      subst this
      cases A with
      | none => simp [Builtin.firstCells]
      | some b => simp [Builtin.firstCells, loadCells, loadCellsFrom]
    · obtain ⟨b, rfl, hb⟩ := holds h0
      exact run_firstCells_some (P := P) w.drew i.size sLen b sLen sCap olds hlo (by simpa using hb)
  simp [Builtin.append_, run_underlying ht, run_underlying hx, sizeOf, typeInfo, zeroValue, hi, hz, Builtin.lenOf, hn, h63', h48', Question.forced, hf, hfo, newRow, grownCap]
  congr 2
  apply Array.ext'
  simp [List.append_assoc]
theorem heapOf_drew (w : World) : heapOf w.drew = heapOf w := rfl

/-- All of a row's cells, one behind another. -/
theorem row_cells {C : Array Value} {o sz : Nat} : ∀ (n : Nat), o + n * sz ≤ C.size → (cut C o (n * sz)).length = n * sz := by
  intro n h
  rw [cut_len]; omega
theorem cut_cut {C : Array Value} {o N k n : Nat} (h : k + n ≤ N) : (((cut C o N).drop k).take n) = cut C (o + k) n := by
  rw [← cut_sub h]; rfl

open Classical in
noncomputable def Hp.uni (hh : Nat → Hp) : Hp := fun k => if h : ∃ j, hh j k ≠ none then hh h.choose k else none
theorem Hp.le_uni {hh : Nat → Hp} (hd : ∀ j k, j ≠ k → (hh j).dj (hh k)) (j : Nat) : (hh j).le (Hp.uni hh) := by
  intro k o e
  have hex : ∃ j, hh j k ≠ none := ⟨j, by rw [e]; simp⟩
  unfold Hp.uni
  rw [dif_pos hex]
  by_cases q : hex.choose = j
  · rw [q]; exact e
  · exact absurd (Hp.dj_none (hd j _ (Ne.symm q)) e) hex.choose_spec
theorem Hp.uni_le {hh : Nat → Hp} {g : Hp} (h : ∀ j, (hh j).le g) : (Hp.uni hh).le g := by
  intro k o e
  unfold Hp.uni at e
  split at e
  · exact h _ _ _ e
  · cases e
theorem Hp.dj_uni {hh : Nat → Hp} {g : Hp} (h : ∀ j, g.dj (hh j)) : g.dj (Hp.uni hh) := by
  intro k
  unfold Hp.uni
  split
  · exact h _ k
  · exact .inr rfl
theorem cut_lay_in {C : Array Value} {p : Nat} {ns : List Value} (h : p + ns.length ≤ C.size) {k m : Nat} (hk : k + m ≤ ns.length) : cut (lay C.toList p ns).toArray (p + k) m = (ns.drop k).take m := by
  apply List.ext_getElem?
  intro j
  rw [cut_get, List.getElem?_take]
  split
  · rename_i hj
    rw [List.getElem?_toArray, lay_get (by simpa using h), if_pos (by omega), List.getElem?_drop]
    congr 1; omega
  · rfl
theorem cut_app_l {a b : List Value} {k m : Nat} (hk : k + m ≤ a.length) : cut (a ++ b).toArray k m = (a.drop k).take m := by
  apply List.ext_getElem?
  intro j
  rw [cut_get, List.getElem?_take]
  split
  · rename_i hj
    rw [List.getElem?_toArray, List.getElem?_append_left (by omega), List.getElem?_drop]
  · rfl
theorem cut_app_r {a b c : List Value} {k m : Nat} (hk : k + m ≤ b.length) : cut (a ++ b ++ c).toArray (a.length + k) m = (b.drop k).take m := by
  apply List.ext_getElem?
  intro j
  rw [cut_get, List.getElem?_take]
  split
  · rename_i hj
    rw [List.getElem?_toArray, List.getElem?_append_left (by simp; omega), List.getElem?_append_right (by omega), List.getElem?_drop]
    congr 1; omega
  · rfl

/-- What an append leaves. -/
structure Appd (w : World) (h : Hp) (hh : Nat → Hp) {α : Type} (sz : Nat) (enc : α → List D) (zs : List α) (r : Result Value) : Prop where
  ex : ∃ A c w' h', r = .ok (.slice A zs.length c) w' ∧ rowOwn h' A c sz enc zs ∧ h'.le (heapOf w') ∧ w'.os = w.os ∧ w'.tape = w.tape ∧ w'.output = w.output ∧
    ∀ g : Hp, g.le (heapOf w) → g.dj h → (∀ j, g.dj (hh j)) → g.le (heapOf w') ∧ g.dj h'
theorem append_core {P : Program} {w : World} {h : Hp} {hh : Nat → Hp} {α : Type} {sz : Nat} {enc : α → List D} {xs ys : List α} {A : Option Addr} {c : Nat} {t t' ty e : TypeId} {i : TypeInfo} {z : Value} {a : Addr} {cb : Nat} {news : List Value}
    (ht : P.underlying t = some (.slice e)) (hx : P.underlying t' = some (.slice e)) (hi : P.info? e = some i) (hz : i.zero = some z) (hzs : z.cells.size = i.size) (hsz : i.size = sz)
    (hrow : rowOwn h A c sz enc xs) (hle : h.le (heapOf w)) (hl : news.length = ys.length * sz) (hnews : ∀ j u, news[j]? = some u → w.cell? (a.add j) = some u) (h1 : ∀ u ∈ news, u.oneCell' = true)
    (hy : ∀ (j : Nat) (y : α), ys[j]? = some y → D.ownL (hh j) (enc y) ((news.drop (j * sz)).take sz)) (hhle : ∀ j, (hh j).le (heapOf w)) (hhdj : ∀ j k, j ≠ k → (hh j).dj (hh k)) (hhh : ∀ j, (hh j).dj h)
    (hb : (xs.length + ys.length) * i.bytes ≤ 140737488355328) (hm : xs.length + ys.length ≤ maxL) :
    Appd w h hh sz enc (xs ++ ys) ((Builtin.append_ #[t, t'] ty #[.slice A xs.length c, .slice (some a) ys.length cb]).run P w) := by
  subst hsz
  obtain ⟨g1, g2, g3, g4⟩ := hrow
  have hlen : (xs ++ ys).length = xs.length + ys.length := by simp
  -- the elements' heaplets
  have fam : ∀ (hs : Nat → Hp) (h' : Hp), (∀ j, (hs j).le h) → (∀ j k, j ≠ k → (hs j).dj (hs k)) → (∀ j k, j ≠ k → (if j < xs.length then hs j else hh (j - xs.length)).dj (if k < xs.length then hs k else hh (k - xs.length))) := by
    intro hs h' q4 q6 j k hjk
    split
    · split
      · exact q6 j k hjk
      · exact Hp.dj_symm (Hp.dj_of_le (hhh _) (Hp.le_refl _) (q4 j))
    · split
      · exact Hp.dj_of_le (hhh _) (Hp.le_refl _) (q4 k)
      · exact hhdj _ _ (by omega)
  by_cases hroom : xs.length + ys.length ≤ c
  · -- in place
    rcases g4 with ⟨rfl, rfl⟩ | ⟨b, o, C, te, hs, q1, q2, q3, q4, q5, q6, q7⟩
    · -- nothing at all
      have hys : ys = [] := List.eq_nil_of_length_eq_zero (by simp at hroom; simpa using hroom)
      subst hys
      have hnews0 : news = [] := List.eq_nil_of_length_eq_zero (by simpa using hl)
      subst hnews0
      refine ⟨A, 0, w, h, ?_, rowOwn_nil g3, hle, rfl, rfl, rfl, fun g hg hd _ => ⟨hg, hd⟩⟩
      cases A with
      | none => simp [Builtin.append_, run_underlying ht, run_underlying hx, sizeOf, typeInfo, hi, Builtin.lenOf, Builtin.firstCells, loadCells, loadCellsFrom]
      | some b => simp [Builtin.append_, run_underlying ht, run_underlying hx, sizeOf, typeInfo, hi, Builtin.lenOf, Builtin.firstCells, loadCells, loadCellsFrom, storeCells]
    · subst q1
      have hcc : (xs.length + ys.length) * i.size ≤ c * i.size := Nat.mul_le_mul_right _ hroom
      rw [Nat.add_mul] at hcc
      have hfit : o + xs.length * i.size + news.length ≤ C.size := by rw [hl]; omega
      have hr := run_append_at w t t' ty e i ht hi b o xs.length c C te (hle _ _ q2) hx a ys.length cb news hl hnews h1 hroom hfit
      have hw := heapOf_setRow w (hle _ _ q2) (lay C.toList (o + xs.length * i.size) news).toArray
      have hbn : ∀ j, hh j b = none := fun j => Hp.dj_none (Hp.dj_symm (hhh j)) q2
      have hdu : (h.upd b (.cells (lay C.toList (o + xs.length * i.size) news).toArray te (0, 0))).dj (Hp.uni hh) := by
        refine Hp.dj_uni (fun j k => ?_)
        by_cases hk : k = b
        · right; rw [hk]; exact hbn j
        · rw [Hp.upd_ne _ _ hk]; exact (Hp.dj_symm (hhh j)) k
      have upw : ∀ {g : Hp}, g.le (heapOf w) → g b = none → g.le (heapOf (w.setRow b (lay C.toList (o + xs.length * i.size) news).toArray)) := by
        intro g hg hgb k q hk
        rw [hw, Hp.upd_ne]
        · exact hg k q hk
        · intro e'; subst e'; rw [hgb] at hk; cases hk
      refine ⟨_, c, w.setRow b (lay C.toList (o + xs.length * i.size) news).toArray, (h.upd b (.cells (lay C.toList (o + xs.length * i.size) news).toArray te (0, 0))).un (Hp.uni hh), by rw [hlen]; exact hr, ?_, ?_, rfl, rfl, rfl, ?_⟩
      · refine ⟨by omega, by omega, g3, .inr ⟨b, o, _, te, fun j => if j < xs.length then hs j else hh (j - xs.length), rfl, Hp.le_un_l _ _ _ _ (Hp.upd_same _ _ _), ?_, ?_, ?_, fam hs h q4 q6, ?_⟩⟩
        · simp only [List.size_toArray]
          rw [lay_length (by simpa using hfit)]
          simpa using q3
        · intro j
          dsimp only
          split
          · refine Hp.le_trans ?_ (Hp.le_un_l _ _)
            intro k q hk
            rw [Hp.upd_ne]
            · exact q4 j k q hk
            · intro e'; subst e'; rw [q5 j] at hk; cases hk
          · exact Hp.le_trans (Hp.le_uni hhdj _) (Hp.le_un_r hdu)
        · intro j
          dsimp only
          split
          · exact q5 j
          · exact hbn _
        · intro j y hj
          dsimp only
          by_cases hjl : j < xs.length
          · rw [if_pos hjl]
            rw [List.getElem?_append_left hjl] at hj
            have : (j + 1) * i.size ≤ xs.length * i.size := Nat.mul_le_mul_right _ hjl
            rw [Nat.add_mul, Nat.one_mul] at this
            rw [cut_lay_other hfit (by left; omega)]
            exact q7 j y hj
          · rw [if_neg hjl]
            rw [List.getElem?_append_right (by omega)] at hj
            have hjy := (List.getElem?_eq_some_iff.1 hj).1
            have h3 : (j - xs.length + 1) * i.size ≤ ys.length * i.size := Nat.mul_le_mul_right _ hjy
            rw [Nat.add_mul, Nat.one_mul] at h3
            have h4 : o + j * i.size = o + xs.length * i.size + (j - xs.length) * i.size := by
              rw [Nat.add_assoc, ← Nat.add_mul]; congr 2; omega
            rw [h4, cut_lay_in hfit (by rw [hl]; omega)]
            exact hy _ y hj
      · refine Hp.un_le ?_ (Hp.uni_le fun j => upw (hhle j) (hbn j))
        intro k q hk
        by_cases e' : k = b
        · subst e'; rw [Hp.upd_same] at hk; rw [hw, Hp.upd_same]; exact hk
        · rw [Hp.upd_ne _ _ e'] at hk; rw [hw, Hp.upd_ne _ _ e']; exact hle k q hk
      · intro g hg hd hdh
        have hgb : g b = none := Hp.dj_none (Hp.dj_symm hd) q2
        refine ⟨upw hg hgb, Hp.dj_un (fun k => ?_) (Hp.dj_uni hdh)⟩
        by_cases e' : k = b
        · left; rw [e']; exact hgb
        · rw [Hp.upd_ne _ _ e']; exact hd k
  · -- a new row
    have hcap : c < xs.length + ys.length := by omega
    have hm' : xs.length + ys.length ≤ 281474976710656 := hm
    have hfit : Builtin.nextslicecap (xs.length + ys.length) c * i.bytes ≤ 281474976710656 := growslice_fits hcap hb
    obtain ⟨olds, hol, holds, hs, hse, hsle, hsdj⟩ : ∃ olds : List Value, olds.length = xs.length * i.size ∧ (0 < xs.length → ∃ b, A = some b ∧ ∀ j v, olds[j]? = some v → w.cell? (b.add j) = some v) ∧
        ∃ hs : Nat → Hp, (∀ (j : Nat) (x : α), xs[j]? = some x → D.ownL (hs j) (enc x) ((olds.drop (j * i.size)).take i.size)) ∧ (∀ j, (hs j).le h) ∧ (∀ j k, j ≠ k → (hs j).dj (hs k)) := by
      rcases g4 with ⟨rfl, rfl⟩ | ⟨b, o, C, te, hs, q1, q2, q3, q4, q5, q6, q7⟩
      · exact ⟨[], by simp, by simp, fun _ => Hp.emp, by simp, fun _ => Hp.emp_le _, fun _ _ _ => Hp.emp_dj _⟩
      · have hxc : xs.length * i.size ≤ c * i.size := Nat.mul_le_mul_right _ g1
        refine ⟨cut C o (xs.length * i.size), row_cells _ (by omega), fun _ => ⟨_, q1, ?_⟩, hs, ?_, q4, q6⟩
        · intro j v hj
          rw [cut_get] at hj
          split at hj
          · rw [add_at, cell_of (hle _ _ q2)]; exact hj
          · cases hj
        · intro j x hj
          have hjl := (List.getElem?_eq_some_iff.1 hj).1
          have : (j + 1) * i.size ≤ xs.length * i.size := Nat.mul_le_mul_right _ hjl
          rw [Nat.add_mul, Nat.one_mul] at this
          rw [cut_cut (by omega)]
          exact q7 j x hj
    have hr := run_append_new (ty := ty) (c := cb) w t t' e i z ht hx hi hz A xs.length c olds hol holds a ys.length news hl hnews hcap (by omega) hfit
    have hgc := grownCap_ge w (xs.length + ys.length) c e
    have hw : heapOf (w.drew.alloc (.cells (olds.toArray ++ news.toArray ++ Builtin.zeroCells z.cells (grownCap w (xs.length + ys.length) c e - (xs.length + ys.length))) e)) = (heapOf w).upd w.heap.size (.cells (olds.toArray ++ news.toArray ++ Builtin.zeroCells z.cells (grownCap w (xs.length + ys.length) c e - (xs.length + ys.length))) e) := by
      rw [heapOf_alloc]; rfl
    have hCeq : (olds.toArray ++ news.toArray ++ Builtin.zeroCells z.cells (grownCap w (xs.length + ys.length) c e - (xs.length + ys.length))) = (olds ++ news ++ (Builtin.zeroCells z.cells (grownCap w (xs.length + ys.length) c e - (xs.length + ys.length))).toList).toArray := by
      apply Array.ext'; simp
    generalize hCdef : (olds.toArray ++ news.toArray ++ Builtin.zeroCells z.cells (grownCap w (xs.length + ys.length) c e - (xs.length + ys.length))) = C at hr hw hCeq
    have hCs : C.size = grownCap w (xs.length + ys.length) c e * i.size := by
      rw [← hCdef]
      simp only [Array.size_append, List.size_toArray, size_zeroCells, hzs, hol, hl, ← Nat.add_mul]
      congr 1
      omega
    have non : ∀ {g : Hp}, g.le (heapOf w) → g w.heap.size = none := by
      intro g hg
      cases e : g w.heap.size with
      | none => rfl
      | some q => have := hg _ _ e; rw [heapOf_size] at this; cases this
    have upw : ∀ {g : Hp}, g.le (heapOf w) → g.le (heapOf (w.drew.alloc (.cells C e))) := by
      intro g hg k q hk
      rw [hw, Hp.upd_ne]
      · exact hg k q hk
      · intro e'; subst e'; rw [non hg] at hk; cases hk
    have hdu : (h.upd w.heap.size (.cells C e)).dj (Hp.uni hh) := by
      refine Hp.dj_uni (fun j k => ?_)
      by_cases hk : k = w.heap.size
      · right; rw [hk]; exact non (hhle j)
      · rw [Hp.upd_ne _ _ hk]; exact (Hp.dj_symm (hhh j)) k
    refine ⟨_, _, w.drew.alloc (.cells C e), (h.upd w.heap.size (.cells C e)).un (Hp.uni hh), by rw [hlen]; exact hr, ?_, ?_, rfl, rfl, rfl, ?_⟩
    · refine ⟨by omega, by omega, g3, .inr ⟨w.heap.size, 0, C, e, fun j => if j < xs.length then hs j else hh (j - xs.length), rfl, Hp.le_un_l _ _ _ _ (Hp.upd_same _ _ _), by omega, ?_, ?_, fam hs h hsle hsdj, ?_⟩⟩
      · intro j
        dsimp only
        split
        · refine Hp.le_trans ?_ (Hp.le_un_l _ _)
          intro k q hk
          rw [Hp.upd_ne]
          · exact hsle j k q hk
          · intro e'; subst e'; rw [non (Hp.le_trans (hsle j) hle)] at hk; cases hk
        · exact Hp.le_trans (Hp.le_uni hhdj _) (Hp.le_un_r hdu)
      · intro j
        dsimp only
        split
        · exact non (Hp.le_trans (hsle j) hle)
        · exact non (hhle _)
      · intro j y hj
        dsimp only
        rw [hCeq]
        by_cases hjl : j < xs.length
        · rw [if_pos hjl]
          rw [List.getElem?_append_left hjl] at hj
          have : (j + 1) * i.size ≤ xs.length * i.size := Nat.mul_le_mul_right _ hjl
          rw [Nat.add_mul, Nat.one_mul] at this
          rw [List.append_assoc, cut_app_l (by rw [hol]; omega), Nat.zero_add]
          exact hse j y hj
        · rw [if_neg hjl]
          rw [List.getElem?_append_right (by omega)] at hj
          have hjy := (List.getElem?_eq_some_iff.1 hj).1
          have h3 : (j - xs.length + 1) * i.size ≤ ys.length * i.size := Nat.mul_le_mul_right _ hjy
          rw [Nat.add_mul, Nat.one_mul] at h3
          have h4 : 0 + j * i.size = olds.length + (j - xs.length) * i.size := by
            rw [hol, ← Nat.add_mul, Nat.zero_add]; congr 1; omega
          rw [h4, cut_app_r (by rw [hl]; omega)]
          exact hy _ y hj
    · refine Hp.un_le ?_ (Hp.uni_le fun j => upw (hhle j))
      intro k q hk
      by_cases e' : k = w.heap.size
      · subst e'; rw [Hp.upd_same] at hk; rw [hw, Hp.upd_same]; exact hk
      · rw [Hp.upd_ne _ _ e'] at hk; rw [hw, Hp.upd_ne _ _ e']; exact hle k q hk
    · intro g hg hd hdh
      refine ⟨upw hg, Hp.dj_un (fun k => ?_) (Hp.dj_uni hdh)⟩
      by_cases e' : k = w.heap.size
      · left; rw [e']; exact non hg
      · rw [Hp.upd_ne _ _ e']; exact hd k
end Go.Proofs.Ythdbhlpceodhlaa.Sx
