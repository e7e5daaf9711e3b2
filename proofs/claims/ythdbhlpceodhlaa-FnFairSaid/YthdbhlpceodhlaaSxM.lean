/- A part of the framework that the proofs of this seat stand on: a separation logic over the model's walks, with a runner that Lean evaluates. It is proved here, without conditions of its own. -/
import Derived.Test.YthdbhlpceodhlaaSxL
set_option linter.unusedVariables false
set_option linter.unusedSimpArgs false
namespace Go.Proofs.Ythdbhlpceodhlaa.Sx
open Go

/-! ### 22. what hangs on an element: taken in, told out -/
def Hp.un (a b : Hp) : Hp := fun k => match a k with | some o => some o | none => b k
theorem Hp.le_un_l (a b : Hp) : a.le (a.un b) := fun k o e => by simp [Hp.un, e]
theorem Hp.le_un_r {a b : Hp} (h : a.dj b) : b.le (a.un b) := fun k o e => by
  have : a k = none := by rcases h k with h | h; exact h; rw [e] at h; cases h
  simp [Hp.un, this, e]
theorem Hp.un_le {a b g : Hp} (ha : a.le g) (hb : b.le g) : (a.un b).le g := fun k o e => by
  simp only [Hp.un] at e
  split at e
  · rename_i q hq; cases e; exact ha _ _ hq
  · exact hb _ _ e
theorem Hp.dj_un {a b g : Hp} (ha : g.dj a) (hb : g.dj b) : g.dj (a.un b) := fun k => by
  rcases ha k with h | h
  · exact .inl h
  · rcases hb k with h' | h'
    · exact .inl h'
    · right; simp [Hp.un, h, h']

def absK : List Chunk → List D → List SC → (List Chunk → Prop) → Prop
  | chs, [], [], K => K chs
  | chs, d :: ds, c :: cs, K => match d with
    | .int k n => match c with
      | .int k' n' => match decide (k' = k) with
        | true => n' = n ∧ absK chs ds cs K
        | false => False
      | _ => False
    | .str s => match c with
      | .str s' => s' = s ∧ absK chs ds cs K
      | _ => False
    | .bool b => match c.asB with
      | some b' => b' = b ∧ absK chs ds cs K
      | none => False
    | .row sz enc ys => match c with
      | .slc l n => match chs[l]? with
        | some (.row true sz' enc' ys') => Chunk.row true sz' enc' ys' = Chunk.row true sz enc ys ∧ n = ys.length ∧ setK .dead l chs (fun chs => absK chs ds cs K)
        | some .nilr => ys = [] ∧ n = 0 ∧ 0 < sz ∧ absK chs ds cs K
        | _ => False
      | .nil => ys = [] ∧ 0 < sz ∧ absK chs ds cs K
      | _ => False
    | .shr .. => False
  | _, _, _, _ => False
theorem memH_dead {F : Fr} {ρ : List LocV} {chs : List Chunk} {w : World} {hs : Nat → Hp} (m : MemH F ρ chs w hs) (l : Nat) : MemH F ρ (chs.set l .dead) w (fun i => if i = l then Hp.emp else hs i) := by
  refine ⟨?_, ?_, ?_, ?_, m.F⟩
  · intro i c hc
    by_cases e : i = l
    · subst e
      have hlt : i < chs.length := by have := (List.getElem?_eq_some_iff.1 hc).1; simpa using this
      simp [List.getElem?_set, hlt] at hc
      subst hc; trivial
    · rw [List.getElem?_set_ne (Ne.symm e)] at hc
      simp only [if_neg e]; exact m.ok i c hc
  · intro i j hij
    by_cases e : i = l
    · simp only [if_pos e]; exact Hp.emp_dj _
    · by_cases e' : j = l
      · simp only [if_pos e']; exact Hp.dj_emp _
      · simp only [if_neg e, if_neg e']; exact m.dj i j hij
  · intro i
    by_cases e : i = l
    · simp only [if_pos e]; exact Hp.emp_dj _
    · simp only [if_neg e]; exact m.djF i
  · intro i
    by_cases e : i = l
    · simp only [if_pos e]; exact Hp.emp_le _
    · simp only [if_neg e]; exact m.le i
/-- What absK takes in: cells with all that hangs on them. -/
structure Took (F : Fr) (ρ : List LocV) (chs : List Chunk) (w : World) (hs : Nat → Hp) (ds : List D) (vs : List Value) where
  ex : ∃ h hs', MemH F ρ chs w hs' ∧ D.ownL h ds vs ∧ h.le (heapOf w) ∧ (∀ i, h.dj (hs' i)) ∧ h.dj F.h ∧ (∀ g : Hp, (∀ i, g.dj (hs i)) → g.dj h) ∧ (∀ i, (hs' i).le (hs i))
theorem absK_out : ∀ {ds : List D} {cs : List SC} {chs : List Chunk} {K : List Chunk → Prop}, absK chs ds cs K → ∃ chs', K chs' ∧ chs'.length = chs.length ∧ (∀ i : Nat, chs'[i]? = chs[i]? ∨ (chs'[i]? = some .dead ∧ ∃ (α : Type) (sz : Nat) (enc : α → List D) (xs : List α), chs[i]? = some (.row true sz enc xs))) ∧
    ∀ {F : Fr} {ρ : List LocV} {w : World} {hs : Nat → Hp} {vs : List Value}, MemH F ρ chs w hs → SC.denL ρ cs vs → Took F ρ chs' w hs ds vs
  | [], [], chs, K, h => by
    have h : K chs := by simpa [absK] using h
    refine ⟨chs, h, rfl, fun i => .inl rfl, fun {F ρ w hs vs} m hd => ⟨⟨Hp.emp, hs, m, hd, Hp.emp_le _, fun i => Hp.emp_dj _, Hp.emp_dj _, fun g hg => Hp.dj_emp _, fun i => Hp.le_refl _⟩⟩⟩
  | [], _ :: _, chs, K, h => by simp [absK] at h
  | _ :: _, [], chs, K, h => by simp [absK] at h
  | d :: ds, c :: cs, chs, K, h => by
    -- a cell on which nothing hangs
    have plain : (∀ {ρ : List LocV} {h : Hp} {v : Value}, c.den ρ v → D.own h d v) → absK chs ds cs K → ∃ chs', K chs' ∧ chs'.length = chs.length ∧ (∀ i : Nat, chs'[i]? = chs[i]? ∨ (chs'[i]? = some .dead ∧ ∃ (α : Type) (sz : Nat) (enc : α → List D) (xs : List α), chs[i]? = some (.row true sz enc xs))) ∧
        ∀ {F : Fr} {ρ : List LocV} {w : World} {hs : Nat → Hp} {vs : List Value}, MemH F ρ chs w hs → SC.denL ρ (c :: cs) vs → Took F ρ chs' w hs (d :: ds) vs := by
      intro hd h
      obtain ⟨chs', h1, h2, h3, h4⟩ := absK_out h
      refine ⟨chs', h1, h2, h3, fun {F ρ w hs vs} m hv => ?_⟩
      obtain ⟨v, r, rfl, e2, e3⟩ := hv
      obtain ⟨⟨hp, hs', q1, q2, q3, q4, q5, q6, q7⟩⟩ := h4 m e3
      exact ⟨⟨hp, hs', q1, ⟨v, r, Hp.emp, hp, rfl, Hp.emp_le _, Hp.le_refl _, Hp.emp_dj _, hd e2, q2⟩, q3, q4, q5, q6, q7⟩⟩
    simp only [absK] at h
    split at h
    · split at h
      · split at h
        · rename_i hk
          have := of_decide_eq_true hk
          subst this
          obtain ⟨rfl, h⟩ := h
          exact plain (fun e => e) h
        · exact h.elim
      · exact h.elim
    · split at h
      · obtain ⟨rfl, h⟩ := h
        exact plain (fun e => e) h
      · exact h.elim
    · split at h
      · rename_i b' hb
        obtain ⟨rfl, h⟩ := h
        exact plain (fun e => asB_den hb e) h
      · exact h.elim
    · rename_i α sz enc ys
      split at h
      · rename_i l n
        split at h
        · rename_i β sz' enc' ys' hc
          obtain ⟨e, rfl, h⟩ := h
          rw [setK_eq] at h
          rw [e] at hc
          obtain ⟨chs', h1, h2, h3, h4⟩ := absK_out h
          refine ⟨chs', h1, by simpa using h2, fun i => ?_, fun {F ρ w hs vs} m hv => ?_⟩
          · by_cases ei : l = i
            · subst ei
              have hlt : l < chs.length := (List.getElem?_eq_some_iff.1 hc).1
              rcases h3 l with h3 | ⟨h3, _⟩
              · right
                refine ⟨?_, _, _, _, _, hc⟩
                rw [h3]; simp [List.getElem?_set, hlt]
              · exact .inr ⟨h3, _, _, _, _, hc⟩
            · rcases h3 i with h3 | ⟨h3, α, a, b, c, h5⟩
              · left; rw [h3, List.getElem?_set_ne ei]
              · right; rw [List.getElem?_set_ne ei] at h5; exact ⟨h3, α, a, b, c, h5⟩
          · obtain ⟨v, r, rfl, ⟨x, hx, rfl⟩, e3⟩ := hv
            obtain ⟨x', hx', hown⟩ := m.ok l _ hc
            rw [hx] at hx'; cases hx'
            obtain ⟨⟨hp, hs', q1, q2, q3, q4, q5, q6, q7⟩⟩ := h4 (memH_dead m l) e3
            have hd1 : (hs l).dj hp := q6 (hs l) (fun i => by
              by_cases ei : i = l
              · simp only [if_pos ei]; exact Hp.dj_emp _
              · simp only [if_neg ei]; exact m.dj l i (Ne.symm ei))
            have hle : ∀ i, (hs' i).le (hs i) := fun i => by
              refine Hp.le_trans (q7 i) ?_
              by_cases ei : i = l
              · simp only [if_pos ei]; exact Hp.emp_le _
              · simp only [if_neg ei]; exact Hp.le_refl _
            have hl' : ∀ i, (hs l).dj (hs' i) := fun i => by
              refine Hp.dj_of_le ?_ (Hp.le_refl _) (q7 i)
              by_cases ei : i = l
              · simp only [if_pos ei]; exact Hp.dj_emp _
              · simp only [if_neg ei]; exact m.dj l i (Ne.symm ei)
            refine ⟨⟨(hs l).un hp, hs', q1, ?_, Hp.un_le (m.le l) q3, fun i => Hp.dj_symm (Hp.dj_un (Hp.dj_symm (hl' i)) (Hp.dj_symm (q4 i))), Hp.dj_symm (Hp.dj_un (Hp.dj_symm (m.djF l)) (Hp.dj_symm q5)), fun g hg => Hp.dj_un (hg l) (q6 g (fun i => ?_)), hle⟩⟩
            · exact ⟨_, r, hs l, hp, rfl, Hp.le_un_l _ _, Hp.le_un_r hd1, hd1, D.own_row.2 ⟨x.addr, x.cap, rfl, hown⟩, q2⟩
            · by_cases ei : i = l
              · simp only [if_pos ei]; exact Hp.dj_emp _
              · simp only [if_neg ei]; exact hg i
        · rename_i hc
          obtain ⟨rfl, rfl, h0, h⟩ := h
          obtain ⟨chs', h1, h2, h3, h4⟩ := absK_out h
          refine ⟨chs', h1, h2, h3, fun {F ρ w hs vs} m hv => ?_⟩
          obtain ⟨v, r, rfl, ⟨x, hx, rfl⟩, e3⟩ := hv
          obtain ⟨x', hx', hcap⟩ := m.ok l _ hc
          rw [hx] at hx'; cases hx'
          obtain ⟨⟨hp, hs', q1, q2, q3, q4, q5, q6, q7⟩⟩ := h4 m e3
          exact ⟨⟨hp, hs', q1, ⟨_, r, Hp.emp, hp, rfl, Hp.emp_le _, Hp.le_refl _, Hp.emp_dj _, D.own_row.2 ⟨x.addr, x.cap, rfl, by rw [hcap]; exact rowOwn_nil h0⟩, q2⟩, q3, q4, q5, q6, q7⟩⟩
        · exact h.elim
      · obtain ⟨rfl, h0, h⟩ := h
        exact plain (fun {ρ h v} e => by rw [show v = _ from e]; exact D.own_row.2 ⟨none, 0, rfl, rowOwn_nil h0⟩) h
      · exact h.elim
    · exact h.elim

def opnK (F0 : Hp) (own : Bool) : List D → List Chunk → (List SC → List Chunk → Prop) → Prop
  | [], chs, K => K [] chs
  | .int k n :: r, chs, K => opnK F0 own r chs (fun vs chs => K (.int k n :: vs) chs)
  | .bool b :: r, chs, K => opnK F0 own r chs (fun vs chs => K (.bool b :: vs) chs)
  | .str s :: r, chs, K => opnK F0 own r chs (fun vs chs => K (.str s :: vs) chs)
  | .row sz enc ys :: r, chs, K => newK chs (.row own sz enc ys) (fun n chs => opnK F0 own r chs (fun vs chs => K (.slc n ys.length :: vs) chs)) False
  | .shr g sz enc ys :: r, chs, K => Ob (Hp.le g F0) fun _ => newK chs (.row false sz enc ys) (fun n chs => opnK F0 own r chs (fun vs chs => K (.slc n ys.length :: vs) chs)) False
theorem memH_new {F : Fr} {ρ : List LocV} {chs : List Chunk} {w : World} {hs : Nat → Hp} (m : MemH F ρ chs w hs) (hl : ρ.length = chs.length) (x : LocV) (c : Chunk) (h : Hp) (h1 : h.le (heapOf w)) (h2 : ∀ i, h.dj (hs i)) (h3 : h.dj F.h) (hc : c.ok F.h (ρ ++ [x]) ρ.length h) :
    MemH F (ρ ++ [x]) (chs ++ [c]) w (fun i => if i = ρ.length then h else hs i) := by
  refine ⟨?_, ?_, ?_, ?_, m.F⟩
  · intro i c' hi
    by_cases e : i = ρ.length
    · subst e
      rw [hl] at hi; simp at hi; subst hi
      rw [if_pos rfl]; exact hc
    · rw [if_neg e]
      have : i < chs.length := by
        have := (List.getElem?_eq_some_iff.1 hi).1
        simp at this; omega
      rw [List.getElem?_append_left this] at hi
      exact chunk_ok_pre (prefix_snoc ρ x) (m.ok i c' hi)
  · intro i j hij
    by_cases e : i = ρ.length
    · by_cases e' : j = ρ.length
      · omega
      · simp only [if_pos e, if_neg e']; exact h2 j
    · by_cases e' : j = ρ.length
      · simp only [if_neg e, if_pos e']; exact Hp.dj_symm (h2 i)
      · simp only [if_neg e, if_neg e']; exact m.dj i j hij
  · intro i
    by_cases e : i = ρ.length
    · simp only [if_pos e]; exact h3
    · simp only [if_neg e]; exact m.djF i
  · intro i
    by_cases e : i = ρ.length
    · simp only [if_pos e]; exact h1
    · simp only [if_neg e]; exact m.le i
theorem opnK_out {F0 : Hp} {own : Bool} : ∀ {ds : List D} {chs : List Chunk} {K : List SC → List Chunk → Prop}, opnK F0 own ds chs K → ∃ vs new, K vs (chs ++ new) ∧
    ∀ {F : Fr} {ρ : List LocV} {w : World} {hs : Nat → Hp} {us : List Value} {h : Hp}, F0.le F.h → MemH F ρ chs w hs → ρ.length = chs.length → (own = true → D.ownL h ds us) → (own = false → D.rdL F.h ds us) → h.le (heapOf w) → (∀ i, h.dj (hs i)) → h.dj F.h →
      ∃ ρ' hs', ρ <+: ρ' ∧ ρ'.length = (chs ++ new).length ∧ SC.denL ρ' vs us ∧ MemH F ρ' (chs ++ new) w hs' ∧ ∀ i, i < chs.length → hs' i = hs i
  | [], chs, K, h => ⟨[], [], by simpa [opnK] using h, fun {F ρ w hs us h} _ m hl ho hr _ _ _ => by
      refine ⟨ρ, hs, List.prefix_rfl, by simpa using hl, ?_, by simpa using m, fun _ _ => rfl⟩
      cases own with
      | true => exact ho rfl
      | false => exact hr rfl⟩
  | d :: r, chs, K, h => by
    have plain : ∀ (c : SC), (∀ {h : Hp} {v : Value}, D.own h d v → ∀ {ρ : List LocV}, c.den ρ v) → (∀ {h : Hp} {v : Value}, D.rd h d v → ∀ {ρ : List LocV}, c.den ρ v) → opnK F0 own r chs (fun vs chs => K (c :: vs) chs) → ∃ vs new, K vs (chs ++ new) ∧
        ∀ {F : Fr} {ρ : List LocV} {w : World} {hs : Nat → Hp} {us : List Value} {h : Hp}, F0.le F.h → MemH F ρ chs w hs → ρ.length = chs.length → (own = true → D.ownL h (d :: r) us) → (own = false → D.rdL F.h (d :: r) us) → h.le (heapOf w) → (∀ i, h.dj (hs i)) → h.dj F.h →
        ∃ ρ' hs', ρ <+: ρ' ∧ ρ'.length = (chs ++ new).length ∧ SC.denL ρ' vs us ∧ MemH F ρ' (chs ++ new) w hs' ∧ ∀ i, i < chs.length → hs' i = hs i := by
      intro c hd1 hd2 h
      obtain ⟨vs, new, h1, h2⟩ := opnK_out h
      refine ⟨_, new, h1, fun {F ρ w hs us hp} hF0 m hl ho hr hle hdj hdF => ?_⟩
      cases own with
      | true =>
        obtain ⟨v, q, g1, g2, rfl, e2, e3, e4, e5, e6⟩ := ho rfl
        obtain ⟨ρ', hs', k1, k2, k3, k4, k5⟩ := h2 (h := g2) hF0 m hl (fun _ => e6) (by simp) (Hp.le_trans e3 hle) (fun i => Hp.dj_of_le (hdj i) e3 (Hp.le_refl _)) (Hp.dj_of_le hdF e3 (Hp.le_refl _))
        exact ⟨ρ', hs', k1, k2, ⟨v, q, rfl, hd1 e5, k3⟩, k4, k5⟩
      | false =>
        obtain ⟨v, q, rfl, e5, e6⟩ := hr rfl
        obtain ⟨ρ', hs', k1, k2, k3, k4, k5⟩ := h2 (h := hp) hF0 m hl (by simp) (fun _ => e6) hle hdj hdF
        exact ⟨ρ', hs', k1, k2, ⟨v, q, rfl, hd2 e5, k3⟩, k4, k5⟩
    cases d with
    | int k n => exact plain (.int k n) (fun e => fun {ρ} => e) (fun e => fun {ρ} => e) h
    | bool b => exact plain (.bool b) (fun e => fun {ρ} => e) (fun e => fun {ρ} => e) h
    | str s => exact plain (.str s) (fun e => fun {ρ} => e) (fun e => fun {ρ} => e) h
    | row sz enc ys =>
      have h : newK chs (.row own sz enc ys) (fun n chs => opnK F0 own r chs (fun vs chs => K (.slc n ys.length :: vs) chs)) False := h
      rcases newK_out h with h | h
      · exact h.elim
      obtain ⟨vs, new, h1, h2⟩ := opnK_out h
      refine ⟨_, .row own sz enc ys :: new, by simpa using h1, fun {F ρ w hs us hp} hF0 m hl ho hr hle hdj hdF => ?_⟩
      cases own with
      | true =>
        obtain ⟨v, q, g1, g2, rfl, e2, e3, e4, e5, e6⟩ := ho rfl
        obtain ⟨A, c, rfl, hrow⟩ := D.own_row.1 e5
        have m' := memH_new m hl ⟨A, c⟩ (.row true sz enc ys) g1 (Hp.le_trans e2 hle) (fun i => Hp.dj_of_le (hdj i) e2 (Hp.le_refl _)) (Hp.dj_of_le hdF e2 (Hp.le_refl _)) ⟨⟨A, c⟩, get_snoc _ _, hrow⟩
        obtain ⟨ρ', hs', k1, k2, k3, k4, k5⟩ := h2 (h := g2) hF0 m' (by simp [hl]) (fun _ => e6) (by simp) (Hp.le_trans e3 hle) (fun i => by
          by_cases e : i = ρ.length
          · simp only [if_pos e]; exact Hp.dj_symm e4
          · simp only [if_neg e]; exact Hp.dj_of_le (hdj i) e3 (Hp.le_refl _)) (Hp.dj_of_le hdF e3 (Hp.le_refl _))
        refine ⟨ρ', hs', (prefix_snoc _ _).trans k1, by simpa using k2, ⟨_, q, rfl, ⟨⟨A, c⟩, ?_, rfl⟩, k3⟩, by simpa using k4, fun i hi => ?_⟩
        · rw [← hl]; exact pre_get k1 (get_snoc _ _)
        · rw [k5 i (by simp; omega), if_neg (by omega)]
      | false =>
        obtain ⟨v, q, rfl, e5, e6⟩ := hr rfl
        obtain ⟨A, c, rfl, hrow⟩ := D.rd_row.1 e5
        have m' := memH_new m hl ⟨A, c⟩ (.row false sz enc ys) Hp.emp (Hp.emp_le _) (fun i => Hp.emp_dj _) (Hp.emp_dj _) ⟨⟨A, c⟩, get_snoc _ _, hrow⟩
        obtain ⟨ρ', hs', k1, k2, k3, k4, k5⟩ := h2 (h := hp) hF0 m' (by simp [hl]) (by simp) (fun _ => e6) hle (fun i => by
          by_cases e : i = ρ.length
          · simp only [if_pos e]; exact Hp.dj_emp _
          · simp only [if_neg e]; exact hdj i) hdF
        refine ⟨ρ', hs', (prefix_snoc _ _).trans k1, by simpa using k2, ⟨_, q, rfl, ⟨⟨A, c⟩, ?_, rfl⟩, k3⟩, by simpa using k4, fun i hi => ?_⟩
        · rw [← hl]; exact pre_get k1 (get_snoc _ _)
        · rw [k5 i (by simp; omega), if_neg (by omega)]
    | shr g sz enc ys =>
      have h : Ob (Hp.le g F0) fun _ => newK chs (.row false sz enc ys) (fun n chs => opnK F0 own r chs (fun vs chs => K (.slc n ys.length :: vs) chs)) False := h
      obtain ⟨hg, h⟩ := h
      rcases newK_out h with h | h
      · exact h.elim
      obtain ⟨vs, new, h1, h2⟩ := opnK_out h
      refine ⟨_, .row false sz enc ys :: new, by simpa using h1, fun {F ρ w hs us hp} hF0 m hl ho hr hle hdj hdF => ?_⟩
      cases own with
      | true =>
        obtain ⟨v, q, g1, g2, rfl, e2, e3, e4, e5, e6⟩ := ho rfl
        obtain ⟨A, c, rfl, hrow⟩ := D.own_shr.1 e5
        have m' := memH_new m hl ⟨A, c⟩ (.row false sz enc ys) Hp.emp (Hp.emp_le _) (fun i => Hp.emp_dj _) (Hp.emp_dj _) ⟨⟨A, c⟩, get_snoc _ _, rowRd_mono (Hp.le_trans hg hF0) hrow⟩
        obtain ⟨ρ', hs', k1, k2, k3, k4, k5⟩ := h2 (h := g2) hF0 m' (by simp [hl]) (fun _ => e6) (by simp) (Hp.le_trans e3 hle) (fun i => by
          by_cases e : i = ρ.length
          · simp only [if_pos e]; exact Hp.dj_emp _
          · simp only [if_neg e]; exact Hp.dj_of_le (hdj i) e3 (Hp.le_refl _)) (Hp.dj_of_le hdF e3 (Hp.le_refl _))
        refine ⟨ρ', hs', (prefix_snoc _ _).trans k1, by simpa using k2, ⟨_, q, rfl, ⟨⟨A, c⟩, ?_, rfl⟩, k3⟩, by simpa using k4, fun i hi => ?_⟩
        · rw [← hl]; exact pre_get k1 (get_snoc _ _)
        · rw [k5 i (by simp; omega), if_neg (by omega)]
      | false =>
        obtain ⟨v, q, rfl, e5, e6⟩ := hr rfl
        obtain ⟨A, c, rfl, hrow⟩ := D.rd_shr.1 e5
        have m' := memH_new m hl ⟨A, c⟩ (.row false sz enc ys) Hp.emp (Hp.emp_le _) (fun i => Hp.emp_dj _) (Hp.emp_dj _) ⟨⟨A, c⟩, get_snoc _ _, rowRd_mono (Hp.le_trans hg hF0) hrow⟩
        obtain ⟨ρ', hs', k1, k2, k3, k4, k5⟩ := h2 (h := hp) hF0 m' (by simp [hl]) (by simp) (fun _ => e6) hle (fun i => by
          by_cases e : i = ρ.length
          · simp only [if_pos e]; exact Hp.dj_emp _
          · simp only [if_neg e]; exact hdj i) hdF
        refine ⟨ρ', hs', (prefix_snoc _ _).trans k1, by simpa using k2, ⟨_, q, rfl, ⟨⟨A, c⟩, ?_, rfl⟩, k3⟩, by simpa using k4, fun i hi => ?_⟩
        · rw [← hl]; exact pre_get k1 (get_snoc _ _)
        · rw [k5 i (by simp; omega), if_neg (by omega)]

/-- One chunk is told anew: its heaplet may shrink or grow by what is free. -/
theorem memH_set {F : Fr} {ρ : List LocV} {chs : List Chunk} {w : World} {hs : Nat → Hp} (m : MemH F ρ chs w hs) (l : Nat) (c : Chunk) (h : Hp) (h1 : h.le (heapOf w)) (h2 : ∀ i, i ≠ l → h.dj (hs i)) (h3 : h.dj F.h) (hc : c.ok F.h ρ l h) : MemH F ρ (chs.set l c) w (fun i => if i = l then h else hs i) := by
  refine ⟨?_, ?_, ?_, ?_, m.F⟩
  · intro i c' hi
    by_cases e : i = l
    · subst e
      have hlt : i < chs.length := by have := (List.getElem?_eq_some_iff.1 hi).1; simpa using this
      simp [List.getElem?_set, hlt] at hi
      subst hi
      rw [if_pos rfl]; exact hc
    · rw [List.getElem?_set_ne (Ne.symm e)] at hi
      rw [if_neg e]; exact m.ok i c' hi
  · intro i j hij
    by_cases e : i = l
    · by_cases e' : j = l
      · omega
      · simp only [if_pos e, if_neg e']; exact h2 j e'
    · by_cases e' : j = l
      · simp only [if_neg e, if_pos e']; exact Hp.dj_symm (h2 i e)
      · simp only [if_neg e, if_neg e']; exact m.dj i j hij
  · intro i
    by_cases e : i = l
    · simp only [if_pos e]; exact h3
    · simp only [if_neg e]; exact m.djF i
  · intro i
    by_cases e : i = l
    · simp only [if_pos e]; exact h1
    · simp only [if_neg e]; exact m.le i

/-- ELEMENT i OF AN OWN ROW IS OPENED: what hangs on it gets locations of its own. -/
theorem opn0 {X : Cx} {ks : List KI} {env : List (Nat × SV)} {chs : List Chunk} {α : Type} {sz : Nat} {enc : α → List D} {xs : List α} {C : List Chunk → Prop} (hC : ∀ chs, C chs → T X ks ⟨env, chs⟩) (k i : Nat) (hk : chs[k]? = some (.row true sz enc xs)) (hi : i < xs.length)
    (h : setK .dead k chs (fun chs1 => opnK X.F.h true (enc xs[i]) chs1 (fun vs chs2 => setK (.opn true sz enc xs i vs) k chs2 C))) : T X ks ⟨env, chs⟩ := by
  rw [setK_eq] at h
  obtain ⟨vs, new, h1, h2⟩ := opnK_out h
  rw [setK_eq] at h1
  refine T_conv (fun hX F ρ a w hF hρ hs => ?_) (hC _ h1)
  obtain ⟨hs0, m⟩ := hs.mem
  have hl := hs.len
  obtain ⟨x, hx, g1, g2, g3, g4⟩ := m.ok k _ hk
  have hkl : k < chs.length := (List.getElem?_eq_some_iff.1 hk).1
  rcases g4 with ⟨_, rfl⟩ | ⟨b, o, C', t, hh, q1, q2, q3, q4, q5, q6, q7⟩
  · simp at hi
  classical
  -- the element's heaplet, and the rest
  let rest : Hp := fun b' => if hh i b' ≠ none then none else hs0 k b'
  have rle : rest.le (hs0 k) := by
    intro b' o' hb
    simp only [rest] at hb
    split at hb
    · cases hb
    · exact hb
  have rdj : (hh i).dj rest := by
    intro b'
    by_cases e : hh i b' = none
    · exact .inl e
    · right; simp [rest, e]
  have m1 := memH_set m k .dead rest (Hp.le_trans rle (m.le k)) (fun j hj => Hp.dj_of_le (m.dj k j (Ne.symm hj)) rle (Hp.le_refl _)) (Hp.dj_of_le (m.djF k) rle (Hp.le_refl _)) trivial
  have hel := q7 i _ (List.getElem?_eq_getElem hi)
  obtain ⟨ρ', hs', e1, e2, e3, e4, e5⟩ := h2 (h := hh i) hF.h m1 (by simpa using hl) (fun _ => hel) (by simp) (Hp.le_trans (q4 i) (m.le k)) (fun j => by
    by_cases e : j = k
    · simp only [if_pos e]; exact rdj
    · simp only [if_neg e]; exact Hp.dj_of_le (m.dj k j (Ne.symm e)) (q4 i) (Hp.le_refl _)) (Hp.dj_of_le (m.djF k) (q4 i) (Hp.le_refl _))
  have e5k : hs' k = rest := by rw [e5 k (by simpa using hkl), if_pos rfl]
  have hxk : ρ'[k]? = some x := pre_get e1 hx
  refine ⟨F, ρ', Fle.refl F, hρ.trans e1, hs.nd, hs.nt, by simpa using e2, envOk_mono e1 hs.env, ?_⟩
  refine ⟨_, memH_set e4 k _ (hs' k) (e4.le k) (fun j hj => e4.dj k j (Ne.symm hj)) (e4.djF k) ?_⟩
  rw [e5k]
  refine ⟨x, _, hxk, e3, g1, g2, g3, hi, b, o, C', t, fun j => if j = i then Hp.emp else hh j, q1, ?_, q3, ?_, ?_, ?_, rfl, ?_⟩
  · simp [rest, q5, q2]
  · intro j
    by_cases e : j = i
    · simp only [if_pos e]; exact Hp.emp_le _
    · simp only [if_neg e]
      intro b' o' hb
      have : hh i b' = none := Hp.dj_none (q6 j i e) hb
      simp [rest, this, q4 j b' o' hb]
  · intro j
    by_cases e : j = i
    · simp only [if_pos e]; rfl
    · simp only [if_neg e]; exact q5 j
  · intro j j' hjj
    by_cases e : j = i
    · simp only [if_pos e]; exact Hp.emp_dj _
    · by_cases e' : j' = i
      · simp only [if_pos e']; exact Hp.dj_emp _
      · simp only [if_neg e, if_neg e']; exact q6 j j' hjj
  · intro j y e hj
    simp only [if_neg e]
    exact q7 j y hj
/-- .. OF A ROW THAT IS ONLY READ. -/
theorem opr0 {X : Cx} {ks : List KI} {env : List (Nat × SV)} {chs : List Chunk} {α : Type} {sz : Nat} {enc : α → List D} {xs : List α} {C : List Chunk → Prop} (hC : ∀ chs, C chs → T X ks ⟨env, chs⟩) (k i : Nat) (hk : chs[k]? = some (.row false sz enc xs)) (hi : i < xs.length)
    (h : opnK X.F.h false (enc xs[i]) chs (fun vs chs2 => setK (.opn false sz enc xs i vs) k chs2 C)) : T X ks ⟨env, chs⟩ := by
  obtain ⟨vs, new, h1, h2⟩ := opnK_out h
  rw [setK_eq] at h1
  refine T_conv (fun hX F ρ a w hF hρ hs => ?_) (hC _ h1)
  obtain ⟨hs0, m⟩ := hs.mem
  have hl := hs.len
  obtain ⟨x, hx, g1, g2, g3, g4⟩ := m.ok k _ hk
  have hkl : k < chs.length := (List.getElem?_eq_some_iff.1 hk).1
  obtain ⟨b, o, C', t, fr, q1, q2, q3⟩ := g4 (by omega)
  have hel := q3 i _ (List.getElem?_eq_getElem hi)
  obtain ⟨ρ', hs', e1, e2, e3, e4, e5⟩ := h2 (h := Hp.emp) hF.h m hl (by simp) (fun _ => hel) (Hp.emp_le _) (fun j => Hp.emp_dj _) (Hp.emp_dj _)
  have hxk : ρ'[k]? = some x := pre_get e1 hx
  refine ⟨F, ρ', Fle.refl F, hρ.trans e1, hs.nd, hs.nt, by simpa using e2, envOk_mono e1 hs.env, ?_⟩
  refine ⟨_, memH_set e4 k _ (hs' k) (e4.le k) (fun j hj => e4.dj k j (Ne.symm hj)) (e4.djF k) ?_⟩
  exact ⟨x, _, hxk, e3, g1, g2, g3, hi, b, o, C', t, fr, q1, q2, rfl, q3⟩
/-- AN OPEN ELEMENT IS CLOSED: x is what lies there now. -/
theorem close0 {X : Cx} {ks : List KI} {env : List (Nat × SV)} {chs : List Chunk} {α : Type} {sz : Nat} {enc : α → List D} {xs : List α} {i : Nat} {vs : List SC} {C : List Chunk → Prop} (hC : ∀ chs, C chs → T X ks ⟨env, chs⟩) (k : Nat) (x : α) (hk : chs[k]? = some (.opn true sz enc xs i vs))
    (h : absK chs (enc x) vs (fun chs' => setK (.row true sz enc (xs.set i x)) k chs' C)) : T X ks ⟨env, chs⟩ := by
  obtain ⟨chs', h1, h2, h3, h4⟩ := absK_out h
  rw [setK_eq] at h1
  refine T_conv (fun hX F ρ a w hF hρ hs => ?_) (hC _ h1)
  obtain ⟨hs0, m⟩ := hs.mem
  obtain ⟨lx, cs, hx, hd, _⟩ := m.ok k _ hk
  obtain ⟨⟨hp, hs', e1, e2, e3, e4, e5, e6, e7⟩⟩ := h4 m hd
  have hk' : chs'[k]? = some (.opn true sz enc xs i vs) := by
    rcases h3 k with h3 | ⟨_, α, a, b, c, h5⟩
    · rw [h3]; exact hk
    · rw [hk] at h5; cases h5
  obtain ⟨lx', cs', hx', hd', g1, g2, g3, hi, b, o, C', t, hh, q1, q2, q3, q4, q5, q6, q7, q8⟩ := e1.ok k _ hk'
  rw [hx] at hx'; cases hx'
  have := SC.denL_fun hd hd'
  subst this
  refine ⟨F, ρ, Fle.refl F, hρ, hs.nd, hs.nt, by simpa [h2] using hs.len, hs.env, ?_⟩
  refine ⟨_, memH_set e1 k _ ((hs' k).un hp) (Hp.un_le (e1.le k) e3) (fun j hj => Hp.dj_symm (Hp.dj_un (e1.dj j k hj) (Hp.dj_symm (e4 j)))) (Hp.dj_symm (Hp.dj_un (Hp.dj_symm (e1.djF k)) (Hp.dj_symm e5))) ?_⟩
  have hpb : hp b = none := Hp.dj_none (Hp.dj_symm (e4 k)) q2
  refine ⟨lx, hx, by simpa using g1, by simpa using g2, g3, .inr ⟨b, o, C', t, fun j => if j = i then hp else if j < xs.length then hh j else Hp.emp, q1, Hp.le_un_l _ _ _ _ q2, q3, ?_, ?_, ?_, ?_⟩⟩
  · intro j
    by_cases e : j = i
    · simp only [if_pos e]; exact Hp.le_un_r (Hp.dj_symm (e4 k))
    · simp only [if_neg e]
      split
      · exact Hp.le_trans (q4 j) (Hp.le_un_l _ _)
      · exact Hp.emp_le _
  · intro j
    by_cases e : j = i
    · simp only [if_pos e]; exact hpb
    · simp only [if_neg e]
      split
      · exact q5 j
      · rfl
  · intro j j' hjj
    have ho : ∀ j, (hh j).dj hp := fun j => Hp.dj_symm (Hp.dj_of_le (e4 k) (Hp.le_refl _) (q4 j))
    by_cases e : j = i
    · by_cases e' : j' = i
      · omega
      · simp only [if_pos e, if_neg e']
        split
        · exact Hp.dj_symm (ho j')
        · exact Hp.dj_emp _
    · by_cases e' : j' = i
      · simp only [if_neg e, if_pos e']
        split
        · exact ho j
        · exact Hp.emp_dj _
      · simp only [if_neg e, if_neg e']
        split
        · split
          · exact q6 j j' hjj
          · exact Hp.dj_emp _
        · exact Hp.emp_dj _
  · intro j y hj
    by_cases e : j = i
    · subst e
      simp [List.getElem?_set, hi] at hj
      subst hj
      simp only [if_true]
      rw [q7]; exact e2
    · have hjl : j < xs.length := by have := (List.getElem?_eq_some_iff.1 hj).1; simpa using this
      simp only [if_neg e, if_pos hjl]
      rw [List.getElem?_set_ne (Ne.symm e)] at hj
      exact q8 j y e hj
end Go.Proofs.Ythdbhlpceodhlaa.Sx
