/- A part of the framework that the proofs of this seat stand on: a separation logic over the model's walks, with a runner that Lean evaluates. It is proved here, without conditions of its own. -/
import Derived.WalkKit
import Derived.Deep.Quiet
import Derived.StillTail
import Derived.KernelRfl
set_option linter.unusedVariables false
set_option linter.unusedSimpArgs false
namespace Go.Proofs.Ythdbhlpceodhlaa.Sx
open Go

/-! ### 1. heaplets -/
abbrev Hp := Nat → Option Obj
def Hp.le (h g : Hp) : Prop := ∀ b o, h b = some o → g b = some o
def Hp.dj (h g : Hp) : Prop := ∀ b, h b = none ∨ g b = none
def Hp.upd (h : Hp) (b : Nat) (o : Obj) : Hp := fun k => if k = b then some o else h k
def Hp.emp : Hp := fun _ => none
def heapOf (w : World) : Hp := fun b => w.heap[b]?
theorem Hp.le_refl (h : Hp) : h.le h := fun _ _ e => e
theorem Hp.le_trans {a b c : Hp} (h : a.le b) (g : b.le c) : a.le c := fun k o e => g k o (h k o e)
theorem Hp.emp_le (h : Hp) : Hp.emp.le h := fun _ _ e => by simp [Hp.emp] at e
theorem Hp.dj_symm {a b : Hp} (h : a.dj b) : b.dj a := fun k => (h k).symm
theorem Hp.dj_of_le {a b a' b' : Hp} (h : a.dj b) (ha : a'.le a) (hb : b'.le b) : a'.dj b' := fun k => by
  rcases h k with h | h
  · left; cases e : a' k with | none => rfl | some o => rw [ha k o e] at h; cases h
  · right; cases e : b' k with | none => rfl | some o => rw [hb k o e] at h; cases h
theorem Hp.emp_dj (h : Hp) : Hp.emp.dj h := fun _ => .inl rfl
theorem Hp.dj_emp (h : Hp) : h.dj Hp.emp := fun _ => .inr rfl
theorem Hp.upd_same (h : Hp) (b : Nat) (o : Obj) : h.upd b o b = some o := by simp [Hp.upd]
theorem Hp.upd_ne (h : Hp) {b k : Nat} (o : Obj) (e : k ≠ b) : h.upd b o k = h k := by simp [Hp.upd, e]
theorem Hp.dj_none {a b : Hp} (h : a.dj b) {k : Nat} {o : Obj} (e : a k = some o) : b k = none := by
  rcases h k with h | h
  · rw [e] at h; cases h
  · exact h

theorem heapOf_alloc (w : World) (o : Obj) : heapOf (w.alloc o) = (heapOf w).upd w.heap.size o := by
  funext k
  simp only [heapOf, World.alloc, Hp.upd, Array.getElem?_push]
theorem heapOf_size (w : World) : heapOf w w.heap.size = none := by simp [heapOf]
theorem heapOf_setRow (w : World) {g : Nat} {cur : Array Value} {t : TypeId} {fr : Nat × Nat} (hg : heapOf w g = some (.cells cur t fr)) (cs : Array Value) :
    heapOf (w.setRow g cs) = (heapOf w).upd g (.cells cs t fr) := by
  funext k
  by_cases hk : k = g
  · subst hk; rw [Hp.upd_same]; exact setRow_heap w k cur cs t fr hg
  · rw [Hp.upd_ne _ _ hk]; exact setRow_other w g k cs hk

/-! ### 2. data as trees of cells -/
inductive D : Type 1
  | int (k : IntKind) (n : Int)
  | bool (b : Bool)
  | str (s : ByteArray)
  | row {α : Type} (sz : Nat) (enc : α → List D) (xs : List α)
  | shr {α : Type} (g : Nat → Option Obj) (sz : Nat) (enc : α → List D) (xs : List α)     -- a slice that is only read, of the memory g

def cut (C : Array Value) (o n : Nat) : List Value := (C.toList.drop o).take n
def maxL : Nat := 281474976710656

mutual
def D.rd (h : Hp) : D → Value → Prop
  | .int k n, v => v = .int k n
  | .bool b, v => v = .bool b
  | .str s, v => v = .string s
  | .row sz enc xs, v => ∃ A c, v = .slice A xs.length c ∧ xs.length ≤ c ∧ xs.length ≤ maxL ∧ 0 < sz ∧ (0 < xs.length → ∃ b o C t fr, A = some ⟨b, o, none⟩ ∧ h b = some (.cells C t fr) ∧
      ∀ j x, xs[j]? = some x → D.rdL h (enc x) (cut C (o + j * sz) sz))
  | .shr g sz enc xs, v => ∃ A c, v = .slice A xs.length c ∧ xs.length ≤ c ∧ xs.length ≤ maxL ∧ 0 < sz ∧ (0 < xs.length → ∃ b o C t fr, A = some ⟨b, o, none⟩ ∧ g b = some (.cells C t fr) ∧
      ∀ j x, xs[j]? = some x → D.rdL g (enc x) (cut C (o + j * sz) sz))
def D.rdL (h : Hp) : List D → List Value → Prop
  | [], vs => vs = []
  | d :: ds, vs => ∃ v r, vs = v :: r ∧ D.rd h d v ∧ D.rdL h ds r
end
mutual
def D.own (h : Hp) : D → Value → Prop
  | .int k n, v => v = .int k n
  | .bool b, v => v = .bool b
  | .str s, v => v = .string s
  | .row sz enc xs, v => ∃ A c, v = .slice A xs.length c ∧ xs.length ≤ c ∧ xs.length ≤ maxL ∧ 0 < sz ∧ ((c = 0 ∧ xs = []) ∨ ∃ b o C t, ∃ hs : Nat → Hp, A = some ⟨b, o, none⟩ ∧ h b = some (.cells C t (0, 0)) ∧ o + c * sz ≤ C.size ∧
      (∀ i, Hp.le (hs i) h) ∧ (∀ i, hs i b = none) ∧ (∀ i j, i ≠ j → Hp.dj (hs i) (hs j)) ∧
      ∀ j x, xs[j]? = some x → D.ownL (hs j) (enc x) (cut C (o + j * sz) sz))
  | .shr g sz enc xs, v => ∃ A c, v = .slice A xs.length c ∧ xs.length ≤ c ∧ xs.length ≤ maxL ∧ 0 < sz ∧ (0 < xs.length → ∃ b o C t fr, A = some ⟨b, o, none⟩ ∧ g b = some (.cells C t fr) ∧
      ∀ j x, xs[j]? = some x → D.rdL g (enc x) (cut C (o + j * sz) sz))
def D.ownL (h : Hp) : List D → List Value → Prop
  | [], vs => vs = []
  | d :: ds, vs => ∃ v r h1 h2, vs = v :: r ∧ h1.le h ∧ h2.le h ∧ h1.dj h2 ∧ D.own h1 d v ∧ D.ownL h2 ds r
end

def rowRd (h : Hp) (A : Option Addr) (c : Nat) {α : Type} (sz : Nat) (enc : α → List D) (xs : List α) : Prop :=
  xs.length ≤ c ∧ xs.length ≤ maxL ∧ 0 < sz ∧ (0 < xs.length → ∃ b o C t fr, A = some ⟨b, o, none⟩ ∧ h b = some (.cells C t fr) ∧
      ∀ j x, xs[j]? = some x → D.rdL h (enc x) (cut C (o + j * sz) sz))
def rowOwn (h : Hp) (A : Option Addr) (c : Nat) {α : Type} (sz : Nat) (enc : α → List D) (xs : List α) : Prop :=
  xs.length ≤ c ∧ xs.length ≤ maxL ∧ 0 < sz ∧ ((c = 0 ∧ xs = []) ∨ ∃ b o C t, ∃ hs : Nat → Hp, A = some ⟨b, o, none⟩ ∧ h b = some (.cells C t (0, 0)) ∧ o + c * sz ≤ C.size ∧
      (∀ i, Hp.le (hs i) h) ∧ (∀ i, hs i b = none) ∧ (∀ i j, i ≠ j → Hp.dj (hs i) (hs j)) ∧
      ∀ j x, xs[j]? = some x → D.ownL (hs j) (enc x) (cut C (o + j * sz) sz))

theorem D.rd_shr {h g : Hp} {α : Type} {sz : Nat} {enc : α → List D} {xs : List α} {v : Value} : D.rd h (.shr g sz enc xs) v ↔ ∃ A c, v = .slice A xs.length c ∧ rowRd g A c sz enc xs := by
  simp only [D.rd, rowRd]
theorem D.own_shr {h g : Hp} {α : Type} {sz : Nat} {enc : α → List D} {xs : List α} {v : Value} : D.own h (.shr g sz enc xs) v ↔ ∃ A c, v = .slice A xs.length c ∧ rowRd g A c sz enc xs := by
  simp only [D.own, rowRd]
theorem D.rd_row {h : Hp} {α : Type} {sz : Nat} {enc : α → List D} {xs : List α} {v : Value} : D.rd h (.row sz enc xs) v ↔ ∃ A c, v = .slice A xs.length c ∧ rowRd h A c sz enc xs := by
  simp only [D.rd, rowRd]
theorem D.own_row {h : Hp} {α : Type} {sz : Nat} {enc : α → List D} {xs : List α} {v : Value} : D.own h (.row sz enc xs) v ↔ ∃ A c, v = .slice A xs.length c ∧ rowOwn h A c sz enc xs := by
  simp only [D.own, rowOwn]

mutual
theorem D.rd_mono {h g : Hp} (hg : h.le g) : ∀ (d : D) (v : Value), D.rd h d v → D.rd g d v
  | .int .., _, e => e
  | .bool .., _, e => e
  | .str .., _, e => e
  | .shr .., _, e => D.rd_shr.2 (D.rd_shr.1 e)
  | .row sz enc xs, v, e => by
    obtain ⟨A, c, e1, e2, e3, e4, e5⟩ := e
    refine ⟨A, c, e1, e2, e3, e4, fun hp => ?_⟩
    obtain ⟨b, o, C, t, fr, q1, q2, q3⟩ := e5 hp
    exact ⟨b, o, C, t, fr, q1, hg _ _ q2, fun j x hx => D.rdL_mono hg (enc x) _ (q3 j x hx)⟩
theorem D.rdL_mono {h g : Hp} (hg : h.le g) : ∀ (ds : List D) (vs : List Value), D.rdL h ds vs → D.rdL g ds vs
  | [], _, e => e
  | d :: ds, vs, e => by
    obtain ⟨v, r, e1, e2, e3⟩ := e
    exact ⟨v, r, e1, D.rd_mono hg d v e2, D.rdL_mono hg ds r e3⟩
end
mutual
theorem D.own_mono {h g : Hp} (hg : h.le g) : ∀ (d : D) (v : Value), D.own h d v → D.own g d v
  | .int .., _, e => e
  | .bool .., _, e => e
  | .str .., _, e => e
  | .shr .., _, e => D.own_shr.2 (D.own_shr.1 e)
  | .row sz enc xs, v, e => by
    obtain ⟨A, c, e1, e2, e3, e4, e5⟩ := e
    refine ⟨A, c, e1, e2, e3, e4, ?_⟩
    rcases e5 with e5 | ⟨b, o, C, t, hs, q1, q2, q3, q4, q5, q6, q7⟩
    · exact .inl e5
    · exact .inr ⟨b, o, C, t, hs, q1, hg _ _ q2, q3, fun i => Hp.le_trans (q4 i) hg, q5, q6, q7⟩
theorem D.ownL_mono {h g : Hp} (hg : h.le g) : ∀ (ds : List D) (vs : List Value), D.ownL h ds vs → D.ownL g ds vs
  | [], _, e => e
  | d :: ds, vs, e => by
    obtain ⟨v, r, h1, h2, e1, e2, e3, e4, e5, e6⟩ := e
    exact ⟨v, r, h1, h2, e1, Hp.le_trans e2 hg, Hp.le_trans e3 hg, e4, e5, e6⟩
end
mutual
theorem D.own_rd {h : Hp} : ∀ (d : D) (v : Value), D.own h d v → D.rd h d v
  | .int .., _, e => e
  | .bool .., _, e => e
  | .str .., _, e => e
  | .shr .., _, e => D.rd_shr.2 (D.own_shr.1 e)
  | .row sz enc xs, v, e => by
    obtain ⟨A, c, e1, e2, e3, e4, e5⟩ := e
    refine ⟨A, c, e1, e2, e3, e4, fun hp => ?_⟩
    rcases e5 with ⟨_, rfl⟩ | ⟨b, o, C, t, hs, q1, q2, q3, q4, q5, q6, q7⟩
    · simp at hp
    · exact ⟨b, o, C, t, (0, 0), q1, q2, fun j x hx => D.rdL_mono (q4 j) (enc x) _ (D.ownL_rdL (enc x) _ (q7 j x hx))⟩
theorem D.ownL_rdL {h : Hp} : ∀ (ds : List D) (vs : List Value), D.ownL h ds vs → D.rdL h ds vs
  | [], _, e => e
  | d :: ds, vs, e => by
    obtain ⟨v, r, h1, h2, e1, e2, e3, e4, e5, e6⟩ := e
    exact ⟨v, r, e1, D.rd_mono e2 d v (D.own_rd d v e5), D.rdL_mono e3 ds r (D.ownL_rdL ds r e6)⟩
end
theorem rowOwn_mono {h g : Hp} (hg : h.le g) {A : Option Addr} {c : Nat} {α : Type} {sz : Nat} {enc : α → List D} {xs : List α} (e : rowOwn h A c sz enc xs) : rowOwn g A c sz enc xs := by
  obtain ⟨e2, e3, e4, e5⟩ := e
  refine ⟨e2, e3, e4, ?_⟩
  rcases e5 with e5 | ⟨b, o, C, t, hs, q1, q2, q3, q4, q5, q6, q7⟩
  · exact .inl e5
  · exact .inr ⟨b, o, C, t, hs, q1, hg _ _ q2, q3, fun i => Hp.le_trans (q4 i) hg, q5, q6, q7⟩
theorem rowRd_mono {h g : Hp} (hg : h.le g) {A : Option Addr} {c : Nat} {α : Type} {sz : Nat} {enc : α → List D} {xs : List α} (e : rowRd h A c sz enc xs) : rowRd g A c sz enc xs := by
  obtain ⟨e2, e3, e4, e5⟩ := e
  refine ⟨e2, e3, e4, fun hp => ?_⟩
  obtain ⟨b, o, C, t, fr, q1, q2, q3⟩ := e5 hp
  exact ⟨b, o, C, t, fr, q1, hg _ _ q2, fun j x hx => D.rdL_mono hg (enc x) _ (q3 j x hx)⟩
theorem rowOwn_rd {h : Hp} {A : Option Addr} {c : Nat} {α : Type} {sz : Nat} {enc : α → List D} {xs : List α} (e : rowOwn h A c sz enc xs) : rowRd h A c sz enc xs := by
  obtain ⟨e2, e3, e4, e5⟩ := e
  refine ⟨e2, e3, e4, fun hp => ?_⟩
  rcases e5 with ⟨_, rfl⟩ | ⟨b, o, C, t, hs, q1, q2, q3, q4, q5, q6, q7⟩
  · simp at hp
  · exact ⟨b, o, C, t, (0, 0), q1, q2, fun j x hx => D.rdL_mono (q4 j) (enc x) _ (D.ownL_rdL (enc x) _ (q7 j x hx))⟩
theorem D.rdL_length {h : Hp} : ∀ (ds : List D) (vs : List Value), D.rdL h ds vs → vs.length = ds.length
  | [], _, e => by simp [D.rdL] at e; simp [e]
  | d :: ds, vs, e => by
    obtain ⟨v, r, e1, e2, e3⟩ := e
    simp [e1, D.rdL_length ds r e3]

/-- The value of one cell: no aggregate, no tuple. -/
theorem D.rd_one {h : Hp} : ∀ {d : D} {v : Value}, D.rd h d v → v.oneCell' = true
  | .int .., _, e => by subst e; rfl
  | .bool .., _, e => by subst e; rfl
  | .str .., _, e => by subst e; rfl
  | .row .., v, e => by obtain ⟨A, c, rfl, _⟩ := e; rfl
  | .shr .., v, e => by obtain ⟨A, c, rfl, _⟩ := e; rfl
theorem D.rdL_one {h : Hp} : ∀ {ds : List D} {vs : List Value}, D.rdL h ds vs → ∀ v ∈ vs, v.oneCell' = true
  | [], _, e, v, hv => by simp [D.rdL] at e; subst e; simp at hv
  | d :: ds, vs, e, v, hv => by
    obtain ⟨u, r, rfl, e2, e3⟩ := e
    rcases List.mem_cons.1 hv with rfl | hv
    · exact D.rd_one e2
    · exact D.rdL_one e3 v hv

/-! ### 3. symbolic values -/
structure LocV where
  addr : Option Addr
  cap : Nat

inductive SC : Type
  | int (k : IntKind) (n : Int)
  | pr (p : Prop) (d : Decidable p)
  | bool (b : Bool)
  | lit (b : Bool)
  | str (s : ByteArray)
  | slc (l n : Nat)
  | ptr (l i e f : Nat)
  | nil
  | val (v : Value)
  | clo (f : Nat) (cs : List (Nat × Nat))     -- a function value: what it captured lies in boxes: locations
inductive SW : Type
  | one (x : SC)
  | agg (xs : List SC)
inductive SV : Type
  | one (x : SC)
  | agg (xs : List SC)
  | tup (xs : List SW)

def ptrsDen (ρ : List LocV) : List (Nat × Nat) → List Value → Prop
  | [], vs => vs = []
  | (l, f) :: r, vs => ∃ x a q, ρ[l]? = some x ∧ x.addr = some a ∧ vs = .pointer (some (a.add f)) :: q ∧ ptrsDen ρ r q
def SC.den (ρ : List LocV) : SC → Value → Prop
  | .int k n, v => v = .int k n
  | .pr p d, v => v = .bool (@decide p d)
  | .bool b, v => v = .bool b
  | .lit b, v => v = .bool b
  | .str s, v => v = .string s
  | .slc l n, v => ∃ x, ρ[l]? = some x ∧ v = .slice x.addr n x.cap
  | .ptr l i e f, v => ∃ x a, ρ[l]? = some x ∧ x.addr = some a ∧ v = .pointer (some (a.add (i * e + f)))
  | .nil, v => v = .slice none 0 0
  | .val u, v => v = u ∧ u.oneCell' = true
  | .clo f cs, v => ∃ ps, ptrsDen ρ cs ps ∧ v = .func (.func f) #[] ps.toArray
def SC.denL (ρ : List LocV) : List SC → List Value → Prop
  | [], vs => vs = []
  | s :: ss, vs => ∃ v r, vs = v :: r ∧ s.den ρ v ∧ SC.denL ρ ss r
def SW.den (ρ : List LocV) : SW → Value → Prop
  | .one x, v => x.den ρ v
  | .agg xs, v => ∃ cs, v = .agg cs.toArray ∧ SC.denL ρ xs cs
def SW.denL (ρ : List LocV) : List SW → List Value → Prop
  | [], vs => vs = []
  | s :: ss, vs => ∃ v r, vs = v :: r ∧ s.den ρ v ∧ SW.denL ρ ss r
def SV.den (ρ : List LocV) : SV → Value → Prop
  | .one x, v => x.den ρ v
  | .agg xs, v => ∃ cs, v = .agg cs.toArray ∧ SC.denL ρ xs cs
  | .tup xs, v => ∃ cs, v = .tuple cs.toArray ∧ SW.denL ρ xs cs
def SV.denL (ρ : List LocV) : List SV → List Value → Prop
  | [], vs => vs = []
  | s :: ss, vs => ∃ v r, vs = v :: r ∧ s.den ρ v ∧ SV.denL ρ ss r

theorem pre_get {ρ ρ' : List LocV} (h : ρ <+: ρ') {l : Nat} {x : LocV} (e : ρ[l]? = some x) : ρ'[l]? = some x := by
  obtain ⟨t, rfl⟩ := h
  rw [List.getElem?_append_left (List.getElem?_eq_some_iff.1 e).1]; exact e
theorem ptrsDen_mono {ρ ρ' : List LocV} (h : ρ <+: ρ') : ∀ {cs : List (Nat × Nat)} {vs : List Value}, ptrsDen ρ cs vs → ptrsDen ρ' cs vs
  | [], _, e => e
  | (l, f) :: r, vs, e => by
    obtain ⟨x, a, q, e1, e2, e3, e4⟩ := e
    exact ⟨x, a, q, pre_get h e1, e2, e3, ptrsDen_mono h e4⟩
theorem SC.den_mono {ρ ρ' : List LocV} (h : ρ <+: ρ') : ∀ {s : SC} {v : Value}, s.den ρ v → s.den ρ' v
  | .int .., _, e => e
  | .pr .., _, e => e
  | .bool .., _, e => e
  | .lit .., _, e => e
  | .str .., _, e => e
  | .nil, _, e => e
  | .slc .., _, e => by obtain ⟨x, e1, e2⟩ := e; exact ⟨x, pre_get h e1, e2⟩
  | .ptr .., _, e => by obtain ⟨x, a, e1, e2⟩ := e; exact ⟨x, a, pre_get h e1, e2⟩
  | .val .., _, e => e
  | .clo .., _, e => by obtain ⟨ps, e1, e2⟩ := e; exact ⟨ps, ptrsDen_mono h e1, e2⟩
theorem SC.denL_mono {ρ ρ' : List LocV} (h : ρ <+: ρ') : ∀ {s : List SC} {v : List Value}, SC.denL ρ s v → SC.denL ρ' s v
  | [], _, e => e
  | _ :: _, _, e => by obtain ⟨v, r, e1, e2, e3⟩ := e; exact ⟨v, r, e1, SC.den_mono h e2, SC.denL_mono h e3⟩
theorem SW.den_mono {ρ ρ' : List LocV} (h : ρ <+: ρ') : ∀ {s : SW} {v : Value}, s.den ρ v → s.den ρ' v
  | .one _, _, e => SC.den_mono h e
  | .agg _, _, e => by obtain ⟨cs, e1, e2⟩ := e; exact ⟨cs, e1, SC.denL_mono h e2⟩
theorem SW.denL_mono {ρ ρ' : List LocV} (h : ρ <+: ρ') : ∀ {s : List SW} {v : List Value}, SW.denL ρ s v → SW.denL ρ' s v
  | [], _, e => e
  | _ :: _, _, e => by obtain ⟨v, r, e1, e2, e3⟩ := e; exact ⟨v, r, e1, SW.den_mono h e2, SW.denL_mono h e3⟩
theorem SV.den_mono {ρ ρ' : List LocV} (h : ρ <+: ρ') : ∀ {s : SV} {v : Value}, s.den ρ v → s.den ρ' v
  | .one _, _, e => SC.den_mono h e
  | .agg _, _, e => by obtain ⟨cs, e1, e2⟩ := e; exact ⟨cs, e1, SC.denL_mono h e2⟩
  | .tup _, _, e => by obtain ⟨cs, e1, e2⟩ := e; exact ⟨cs, e1, SW.denL_mono h e2⟩
theorem SV.denL_mono {ρ ρ' : List LocV} (h : ρ <+: ρ') : ∀ {s : List SV} {v : List Value}, SV.denL ρ s v → SV.denL ρ' s v
  | [], _, e => e
  | _ :: _, _, e => by obtain ⟨v, r, e1, e2, e3⟩ := e; exact ⟨v, r, e1, SV.den_mono h e2, SV.denL_mono h e3⟩

theorem ptrsDen_fun {ρ : List LocV} : ∀ {cs : List (Nat × Nat)} {vs us : List Value}, ptrsDen ρ cs vs → ptrsDen ρ cs us → vs = us
  | [], _, _, e, e' => by simp [ptrsDen] at e e'; rw [e, e']
  | (l, f) :: r, _, _, e, e' => by
    obtain ⟨x, a, q, e1, e2, rfl, e4⟩ := e
    obtain ⟨x', a', q', e1', e2', rfl, e4'⟩ := e'
    rw [e1] at e1'; cases e1'; rw [e2] at e2'; cases e2'; rw [ptrsDen_fun e4 e4']
theorem SC.den_fun {ρ : List LocV} : ∀ {s : SC} {v u : Value}, s.den ρ v → s.den ρ u → v = u
  | .int .., _, _, e, e' => by rw [e, e']
  | .pr .., _, _, e, e' => by rw [e, e']
  | .bool .., _, _, e, e' => by rw [e, e']
  | .lit .., _, _, e, e' => by rw [e, e']
  | .str .., _, _, e, e' => by rw [e, e']
  | .nil, _, _, e, e' => by rw [e, e']
  | .slc .., _, _, e, e' => by obtain ⟨x, e1, rfl⟩ := e; obtain ⟨x', e1', rfl⟩ := e'; rw [e1] at e1'; cases e1'; rfl
  | .ptr .., _, _, e, e' => by obtain ⟨x, a, e1, e2, rfl⟩ := e; obtain ⟨x', a', e1', e2', rfl⟩ := e'; rw [e1] at e1'; cases e1'; rw [e2] at e2'; cases e2'; rfl
  | .val .., _, _, e, e' => by rw [e.1, e'.1]
  | .clo .., _, _, e, e' => by obtain ⟨x, e1, rfl⟩ := e; obtain ⟨x', e1', rfl⟩ := e'; rw [ptrsDen_fun e1 e1']
theorem SC.denL_fun {ρ : List LocV} : ∀ {s : List SC} {v u : List Value}, SC.denL ρ s v → SC.denL ρ s u → v = u
  | [], _, _, e, e' => by simp [SC.denL] at e e'; rw [e, e']
  | _ :: _, _, _, e, e' => by obtain ⟨v, r, rfl, e2, e3⟩ := e; obtain ⟨v', r', rfl, e2', e3'⟩ := e'; rw [SC.den_fun e2 e2', SC.denL_fun e3 e3']
theorem SW.den_fun {ρ : List LocV} : ∀ {s : SW} {v u : Value}, s.den ρ v → s.den ρ u → v = u
  | .one _, _, _, e, e' => SC.den_fun e e'
  | .agg _, _, _, e, e' => by obtain ⟨cs, rfl, e2⟩ := e; obtain ⟨cs', rfl, e2'⟩ := e'; rw [SC.denL_fun e2 e2']
theorem SW.denL_fun {ρ : List LocV} : ∀ {s : List SW} {v u : List Value}, SW.denL ρ s v → SW.denL ρ s u → v = u
  | [], _, _, e, e' => by simp [SW.denL] at e e'; rw [e, e']
  | _ :: _, _, _, e, e' => by obtain ⟨v, r, rfl, e2, e3⟩ := e; obtain ⟨v', r', rfl, e2', e3'⟩ := e'; rw [SW.den_fun e2 e2', SW.denL_fun e3 e3']
theorem SV.den_fun {ρ : List LocV} : ∀ {s : SV} {v u : Value}, s.den ρ v → s.den ρ u → v = u
  | .one _, _, _, e, e' => SC.den_fun e e'
  | .agg _, _, _, e, e' => by obtain ⟨cs, rfl, e2⟩ := e; obtain ⟨cs', rfl, e2'⟩ := e'; rw [SC.denL_fun e2 e2']
  | .tup _, _, _, e, e' => by obtain ⟨cs, rfl, e2⟩ := e; obtain ⟨cs', rfl, e2'⟩ := e'; rw [SW.denL_fun e2 e2']
theorem SV.denL_fun {ρ : List LocV} : ∀ {s : List SV} {v u : List Value}, SV.denL ρ s v → SV.denL ρ s u → v = u
  | [], _, _, e, e' => by simp [SV.denL] at e e'; rw [e, e']
  | _ :: _, _, _, e, e' => by obtain ⟨v, r, rfl, e2, e3⟩ := e; obtain ⟨v', r', rfl, e2', e3'⟩ := e'; rw [SV.den_fun e2 e2', SV.denL_fun e3 e3']
theorem SC.den_one {ρ : List LocV} : ∀ {s : SC} {v : Value}, s.den ρ v → v.oneCell' = true
  | .int .., _, e => by subst e; rfl
  | .pr .., _, e => by subst e; rfl
  | .bool .., _, e => by subst e; rfl
  | .lit .., _, e => by subst e; rfl
  | .str .., _, e => by subst e; rfl
  | .nil, _, e => by subst e; rfl
  | .slc .., _, e => by obtain ⟨x, e1, rfl⟩ := e; rfl
  | .ptr .., _, e => by obtain ⟨x, a, e1, e2, rfl⟩ := e; rfl
  | .val .., _, e => by rw [e.1]; exact e.2
  | .clo .., _, e => by obtain ⟨x, e1, rfl⟩ := e; rfl
theorem SC.denL_length {ρ : List LocV} : ∀ {s : List SC} {v : List Value}, SC.denL ρ s v → v.length = s.length
  | [], _, e => by simp [SC.denL] at e; simp [e]
  | _ :: _, _, e => by obtain ⟨v, r, rfl, e2, e3⟩ := e; simp [SC.denL_length e3]
theorem SC.denL_one {ρ : List LocV} : ∀ {s : List SC} {v : List Value}, SC.denL ρ s v → ∀ x ∈ v, x.oneCell' = true
  | [], _, e, x, hx => by simp [SC.denL] at e; subst e; simp at hx
  | _ :: _, _, e, x, hx => by
    obtain ⟨v, r, rfl, e2, e3⟩ := e
    rcases List.mem_cons.1 hx with rfl | hx
    · exact SC.den_one e2
    · exact SC.denL_one e3 x hx
theorem SC.denL_get {ρ : List LocV} : ∀ {s : List SC} {v : List Value}, SC.denL ρ s v → ∀ {j : Nat} {x : SC}, s[j]? = some x → ∃ u, v[j]? = some u ∧ x.den ρ u
  | [], _, e, j, x, hx => by simp at hx
  | _ :: _, _, e, 0, x, hx => by obtain ⟨v, r, rfl, e2, e3⟩ := e; simp at hx; subst hx; exact ⟨v, rfl, e2⟩
  | _ :: _, _, e, j + 1, x, hx => by obtain ⟨v, r, rfl, e2, e3⟩ := e; simp at hx; simpa using SC.denL_get e3 hx
theorem SC.denL_append {ρ : List LocV} : ∀ {s t : List SC} {v u : List Value}, SC.denL ρ s v → SC.denL ρ t u → SC.denL ρ (s ++ t) (v ++ u)
  | [], _, _, _, e, e' => by simp [SC.denL] at e; subst e; exact e'
  | _ :: _, _, _, _, e, e' => by obtain ⟨v, r, rfl, e2, e3⟩ := e; exact ⟨v, _, rfl, e2, SC.denL_append e3 e'⟩
theorem SC.denL_drop {ρ : List LocV} : ∀ (n : Nat) {s : List SC} {v : List Value}, SC.denL ρ s v → SC.denL ρ (s.drop n) (v.drop n)
  | 0, _, _, e => e
  | n + 1, [], _, e => by simp [SC.denL] at e; subst e; simp [SC.denL]
  | n + 1, _ :: _, _, e => by obtain ⟨v, r, rfl, e2, e3⟩ := e; simpa using SC.denL_drop n e3
theorem SC.denL_take {ρ : List LocV} : ∀ (n : Nat) {s : List SC} {v : List Value}, SC.denL ρ s v → SC.denL ρ (s.take n) (v.take n)
  | 0, _, _, e => by simp [SC.denL]
  | n + 1, [], _, e => by simp [SC.denL] at e; subst e; simp [SC.denL]
  | n + 1, _ :: _, _, e => by obtain ⟨v, r, rfl, e2, e3⟩ := e; exact ⟨v, _, rfl, e2, SC.denL_take n e3⟩
end Go.Proofs.Ythdbhlpceodhlaa.Sx
