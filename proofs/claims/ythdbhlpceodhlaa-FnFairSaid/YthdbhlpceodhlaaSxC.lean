/- A part of the framework that the proofs of this seat stand on: a separation logic over the model's walks, with a runner that Lean evaluates. It is proved here, without conditions of its own. -/
import Derived.Test.YthdbhlpceodhlaaSxB
set_option linter.unusedVariables false
set_option linter.unusedSimpArgs false
namespace Go.Proofs.Ythdbhlpceodhlaa.Sx
open Go

/-! ### 7. what the runner leaves to be shown -/
/-- To be shown; then on. -/
structure Ob (p : Prop) (K : p → Prop) : Prop where
  h : p
  k : K h
/-- Both ways. -/
structure Br (p q A B : Prop) : Prop where
  t : p → A
  f : q → B
/-- To be chosen. -/
structure Pk {α : Type} (p : α → Prop) (K : α → Prop) : Prop where
  mk' ::
  ex : ∃ x, p x ∧ K x
theorem pk {α : Type} {p : α → Prop} {K : α → Prop} (x : α) (h : p x) (k : K x) : Pk p K := ⟨x, h, k⟩

structure Ix (i : Int) (n m : Nat) (K : Nat → Prop) : Prop where
  mk' ::
  ex : ∃ j : Nat, i = j ∧ j < n ∧ j < m ∧ K j
theorem ix_nat {j n m : Nat} {K : Nat → Prop} (h : j < n ∧ j < m) (k : K j) : Ix (j : Int) n m K := ⟨j, rfl, h.1, h.2, k⟩
theorem ix_int {i : Int} {n m : Nat} {K : Nat → Prop} (h0 : 0 ≤ i ∧ i < n ∧ i < m) (k : K i.toNat) : Ix i n m K := ⟨i.toNat, by omega, by omega, by omega, k⟩
structure Sl (lo hi : Int) (m : Nat) (K : Nat → Nat → Prop) : Prop where
  mk' ::
  ex : ∃ l h : Nat, lo = l ∧ hi = h ∧ l ≤ h ∧ h ≤ m ∧ K l h
theorem sl_int {lo hi : Int} {m : Nat} {K : Nat → Nat → Prop} (h : 0 ≤ lo ∧ lo ≤ hi ∧ hi ≤ m) (k : K lo.toNat hi.toNat) : Sl lo hi m K := ⟨lo.toNat, hi.toNat, by omega, by omega, by omega, by omega, k⟩
theorem sl_nat {l h m : Nat} {K : Nat → Nat → Prop} (e : l ≤ h ∧ h ≤ m) (k : K l h) : Sl (l : Int) (h : Int) m K := ⟨l, h, rfl, rfl, e.1, e.2, k⟩
structure Wr (k : IntKind) (e : Int) (K : Int → Prop) : Prop where
  mk' ::
  ex : K (k.wrap e)
theorem wr_i64 {e : Int} {K : Int → Prop} (h : -9223372036854775808 ≤ e ∧ e ≤ 9223372036854775807) (k : K e) : Wr .i64 e K := ⟨by rw [IntKind.wrap_i64, show (e + 9223372036854775808) % 18446744073709551616 - 9223372036854775808 = e by omega]; exact k⟩
theorem wr_any {k : IntKind} {e : Int} {K : Int → Prop} (h : K (k.wrap e)) : Wr k e K := ⟨h⟩
structure Qu (k : IntKind) (a b : Int) (K : Int → Prop) : Prop where
  mk' ::
  nz : b ≠ 0
  ex : K (k.wrap (a.tdiv b))
theorem qu_pos {a b : Int} {K : Int → Prop} (h : 0 ≤ a ∧ a ≤ 9223372036854775807 ∧ 0 < b) (k : K (a / b)) : Qu .i64 a b K := by
  refine ⟨by omega, ?_⟩
  have h1 : a.tdiv b = a / b := Int.tdiv_eq_ediv_of_nonneg h.1
  have h2 : 0 ≤ a / b := Int.ediv_nonneg h.1 (by omega)
  have h3 : a / b ≤ a := Int.ediv_le_self _ h.1
  rw [h1, IntKind.wrap_i64, show (a / b + 9223372036854775808) % 18446744073709551616 - 9223372036854775808 = a / b by omega]
  exact k
structure Rm (a b : Int) (K : Int → Prop) : Prop where
  mk' ::
  nz : b ≠ 0
  ex : K (a.tmod b)
theorem rm_pos {a b : Int} {K : Int → Prop} (h : 0 ≤ a ∧ 0 < b) (k : K (a % b)) : Rm a b K := ⟨by omega, by rw [Int.tmod_eq_emod_of_nonneg h.1]; exact k⟩

def bt (s : ByteArray) (i : Nat) : Int := if h : i < s.size then (s[i]'h).toNat else 0

/-! ### 8. small functions that hand on -/
def dropK : Nat → List SC → (List SC → Prop) → Prop → Prop
  | 0, l, K, _ => K l
  | n + 1, _ :: l, K, Z => dropK n l K Z
  | _ + 1, [], _, Z => Z
def takeK : Nat → List SC → (List SC → Prop) → Prop → Prop
  | 0, _, K, _ => K []
  | n + 1, x :: l, K, Z => takeK n l (fun r => K (x :: r)) Z
  | _ + 1, [], _, Z => Z
theorem dropK_out : ∀ {n : Nat} {l : List SC} {K : List SC → Prop} {Z : Prop}, dropK n l K Z → Z ∨ (n ≤ l.length ∧ K (l.drop n))
  | 0, _, _, _, h => .inr ⟨Nat.zero_le _, h⟩
  | n + 1, _ :: l, K, Z, h => by
    rcases dropK_out (n := n) (l := l) h with h | ⟨h1, h2⟩
    · exact .inl h
    · exact .inr ⟨by simp; omega, h2⟩
  | _ + 1, [], _, _, h => .inl h
theorem takeK_out : ∀ {n : Nat} {l : List SC} {K : List SC → Prop} {Z : Prop}, takeK n l K Z → Z ∨ (n ≤ l.length ∧ K (l.take n))
  | 0, _, _, _, h => .inr ⟨Nat.zero_le _, by simpa [takeK] using h⟩
  | n + 1, x :: l, K, Z, h => by
    rcases takeK_out (n := n) (l := l) h with h | ⟨h1, h2⟩
    · exact .inl h
    · exact .inr ⟨by simp; omega, by simpa using h2⟩
  | _ + 1, [], _, _, h => .inl h
def TK.aggB : TK → Bool → Bool := fun _ b => b
/-- The value that lies in these cells from f on, of a type of the table. -/
def cellsK (ty : TyI) (f : Nat) (vs : List SC) (K : SV → Prop) (Z : Prop) : Prop :=
  dropK f vs (fun r => takeK ty.sz r (fun cs => match ty.kind with
    | .struct _ => K (.agg cs)
    | _ => match cs with
      | [c] => K (.one c)
      | _ => Z) Z) Z
def flatK : List D → (List SC → Prop) → Prop → Prop
  | [], K, _ => K []
  | .int k n :: r, K, Z => flatK r (fun l => K (.int k n :: l)) Z
  | .bool b :: r, K, Z => flatK r (fun l => K (.bool b :: l)) Z
  | .str s :: r, K, Z => flatK r (fun l => K (.str s :: l)) Z
  | .row .. :: _, _, Z => Z
  | .shr .. :: _, _, Z => Z
def ddropK : Nat → List D → (List D → Prop) → Prop → Prop
  | 0, l, K, _ => K l
  | n + 1, _ :: l, K, Z => ddropK n l K Z
  | _ + 1, [], _, Z => Z
def dtakeK : Nat → List D → (List D → Prop) → Prop → Prop
  | 0, _, K, _ => K []
  | n + 1, x :: l, K, Z => dtakeK n l (fun r => K (x :: r)) Z
  | _ + 1, [], _, Z => Z
theorem ddropK_out : ∀ {n : Nat} {l : List D} {K : List D → Prop} {Z : Prop}, ddropK n l K Z → Z ∨ (n ≤ l.length ∧ K (l.drop n))
  | 0, _, _, _, h => .inr ⟨Nat.zero_le _, h⟩
  | n + 1, _ :: l, K, Z, h => by
    rcases ddropK_out (n := n) (l := l) h with h | ⟨h1, h2⟩
    · exact .inl h
    · exact .inr ⟨by simp; omega, h2⟩
  | _ + 1, [], _, _, h => .inl h
theorem dtakeK_out : ∀ {n : Nat} {l : List D} {K : List D → Prop} {Z : Prop}, dtakeK n l K Z → Z ∨ (n ≤ l.length ∧ K (l.take n))
  | 0, _, _, _, h => .inr ⟨Nat.zero_le _, by simpa [dtakeK] using h⟩
  | n + 1, x :: l, K, Z, h => by
    rcases dtakeK_out (n := n) (l := l) h with h | ⟨h1, h2⟩
    · exact .inl h
    · exact .inr ⟨by simp; omega, by simpa using h2⟩
  | _ + 1, [], _, _, h => .inl h
theorem flatK_out {h : Hp} {ρ : List LocV} : ∀ {ds : List D} {K : List SC → Prop} {Z : Prop}, flatK ds K Z → Z ∨ ∃ cs, K cs ∧ ∀ {h : Hp} {ρ : List LocV} {vs : List Value}, D.rdL h ds vs → SC.denL ρ cs vs
  | [], K, Z, e => .inr ⟨[], e, fun h => h⟩
  | .int k n :: r, K, Z, e => by
    rcases flatK_out (h := h) (ρ := ρ) (ds := r) e with e | ⟨cs, e1, e2⟩
    · exact .inl e
    · exact .inr ⟨_, e1, fun ⟨v, q, h1, h2, h3⟩ => ⟨v, q, h1, h2, e2 h3⟩⟩
  | .bool b :: r, K, Z, e => by
    rcases flatK_out (h := h) (ρ := ρ) (ds := r) e with e | ⟨cs, e1, e2⟩
    · exact .inl e
    · exact .inr ⟨_, e1, fun ⟨v, q, h1, h2, h3⟩ => ⟨v, q, h1, h2, e2 h3⟩⟩
  | .str s :: r, K, Z, e => by
    rcases flatK_out (h := h) (ρ := ρ) (ds := r) e with e | ⟨cs, e1, e2⟩
    · exact .inl e
    · exact .inr ⟨_, e1, fun ⟨v, q, h1, h2, h3⟩ => ⟨v, q, h1, h2, e2 h3⟩⟩
  | .row .. :: _, _, _, e => .inl e
  | .shr .. :: _, _, _, e => .inl e
theorem rdL_drop {h : Hp} : ∀ (n : Nat) {ds : List D} {vs : List Value}, D.rdL h ds vs → D.rdL h (ds.drop n) (vs.drop n)
  | 0, _, _, e => e
  | n + 1, [], _, e => by simp [D.rdL] at e; subst e; simp [D.rdL]
  | n + 1, _ :: _, _, e => by obtain ⟨v, r, rfl, e2, e3⟩ := e; simpa using rdL_drop n e3
theorem rdL_take {h : Hp} : ∀ (n : Nat) {ds : List D} {vs : List Value}, D.rdL h ds vs → D.rdL h (ds.take n) (vs.take n)
  | 0, _, _, e => by simp [D.rdL]
  | n + 1, [], _, e => by simp [D.rdL] at e; subst e; simp [D.rdL]
  | n + 1, _ :: _, _, e => by obtain ⟨v, r, rfl, e2, e3⟩ := e; exact ⟨v, _, rfl, e2, rdL_take n e3⟩

/-! ### 9. operands -/
def constK : Value → (SV → Prop) → Prop → Prop
  | .int k n, K, _ => K (.one (.int k n))
  | .bool b, K, _ => K (.one (.lit b))
  | .string s, K, _ => K (.one (.str s))
  | .slice none 0 0, K, _ => K (.one .nil)
  | .pointer none, K, _ => K (.one (.val (.pointer none)))
  | .nilFunc, K, _ => K (.one (.val .nilFunc))
  | _, _, Z => Z
def opdK (env : List (Nat × SV)) : Operand → (SV → Prop) → Prop → Prop
  | .tmp t, K, Z => match find env t with
    | some sv => K sv
    | none => Z
  | .const v, K, Z => constK v K Z
  | .func f, K, _ => K (.one (.clo f []))
  | .global _, _, Z => Z
theorem constK_out {v : Value} {K : SV → Prop} {Z : Prop} (h : constK v K Z) : Z ∨ ∃ sv, K sv ∧ ∀ ρ, sv.den ρ v := by
  unfold constK at h
  split at h
  · exact .inr ⟨_, h, fun _ => rfl⟩
  · exact .inr ⟨_, h, fun _ => rfl⟩
  · exact .inr ⟨_, h, fun _ => rfl⟩
  · exact .inr ⟨_, h, fun _ => rfl⟩
  · exact .inr ⟨_, h, fun _ => ⟨rfl, rfl⟩⟩
  · exact .inr ⟨_, h, fun _ => ⟨rfl, rfl⟩⟩
  · exact .inl h
theorem opdK_out {env : List (Nat × SV)} {x : Operand} {K : SV → Prop} {Z : Prop} (h : opdK env x K Z) : Z ∨ ∃ sv, K sv ∧ ∀ ρ a, EnvOk ρ env a → sv.den ρ (a.eval x) := by
  cases x with
  | tmp t =>
    simp only [opdK] at h
    split at h
    · rename_i sv hf
      refine .inr ⟨sv, h, fun ρ a he => ?_⟩
      obtain ⟨v, h1, h2⟩ := he t sv hf
      simpa [Act.eval, Array.getD_eq_getD_getElem?, h1] using h2
    · exact .inl h
  | const v =>
    rcases constK_out h with h | ⟨sv, h1, h2⟩
    · exact .inl h
    · exact .inr ⟨sv, h1, fun ρ a _ => h2 ρ⟩
  | func f => exact .inr ⟨_, h, fun ρ a _ => ⟨[], rfl, rfl⟩⟩
  | global g => exact .inl h

/-! ### 10. operations that leave the memory alone -/
def Ev (tb : Tab) (s : St) (o : Oper) (sv : SV) : Prop :=
  ∀ {P : Program} {F : Fr} {nt : Nat} {ρ : List LocV} {a : Act} {w : World}, TabOk P tb → Sat F nt ρ s a w → ∃ v, sv.den ρ v ∧ (execOp a.eval o).run P w = .ok (.value v) w

theorem add_at (b o n : Nat) : (⟨b, o, none⟩ : Addr).add n = ⟨b, o + n, none⟩ := by unfold Addr.add; split <;> simp_all
theorem cell_of {w : World} {b : Nat} {C : Array Value} {t : TypeId} {fr : Nat × Nat} (h : heapOf w b = some (.cells C t fr)) (o : Nat) : w.cell? ⟨b, o, none⟩ = C[o]? := by
  simp only [heapOf] at h; simp [World.cell?, h]
/-- A variable is loaded. -/
theorem run_loadVar {P : Program} {w : World} {t : Nat} {ty : TyI} (hty : TyOk P t ty) {b o : Nat} {C : Array Value} {t' : TypeId} {fr : Nat × Nat} (h : heapOf w b = some (.cells C t' fr)) {cs : List Value}
    (hc : (C.toList.drop o).take ty.sz = cs) (hl : cs.length = ty.sz) :
    (ty.kind.isAgg = true → (loadVar t ⟨b, o, none⟩).run P w = .ok (.agg cs.toArray) w) ∧ (ty.kind.isAgg = false → ∀ v, cs = [v] → (loadVar t ⟨b, o, none⟩).run P w = .ok v w) := by
  obtain ⟨x, d, z, h1, h2, h3, h4, h5, h6, h7⟩ := hty.ex
  have hcell : ∀ j v, cs[j]? = some v → w.cell? ((⟨b, o, none⟩ : Addr).add j) = some v := by
    intro j v hj
    rw [add_at, cell_of h]
    rw [← hc] at hj
    simp only [List.getElem?_take, List.getElem?_drop] at hj
    split at hj
    · simpa using hj
    · cases hj
  constructor
  · intro ha
    have hs : (sizeOf t).run P w = .ok ty.sz w := by simp [sizeOf, typeInfo, h1, h3]
    have hlc := run_loadCells_list (P := P) w ⟨b, o, none⟩ cs hcell
    rw [hl] at hlc
    simp [loadVar, run_isAgg h2 h5, ha, hs, hlc]
  · rintro ha v rfl
    have := hcell 0 v rfl
    rw [add_at, Nat.add_zero] at this
    simp [loadVar, run_isAgg h2 h5, ha, this]
theorem cut_len {C : Array Value} {o n : Nat} : (cut C o n).length = min n (C.size - o) := by simp [cut]
theorem cut_sub {C : Array Value} {o n f m : Nat} (h : f + m ≤ n) : (C.toList.drop (o + f)).take m = ((cut C o n).drop f).take m := by
  simp only [cut, List.drop_take, List.drop_drop, List.take_take]
  rw [Nat.min_eq_left (by omega)]

theorem cellsK_out {ty : TyI} {f : Nat} {vs : List SC} {K : SV → Prop} {Z : Prop} (h : cellsK ty f vs K Z) : Z ∨ ∃ sv, K sv ∧ f + ty.sz ≤ vs.length ∧
    ((ty.kind.isAgg = true ∧ sv = .agg ((vs.drop f).take ty.sz)) ∨ (ty.kind.isAgg = false ∧ ∃ c, (vs.drop f).take ty.sz = [c] ∧ sv = .one c)) := by
  unfold cellsK at h
  rcases dropK_out h with h | ⟨h1, h⟩
  · exact .inl h
  rcases takeK_out h with h | ⟨h2, h⟩
  · exact .inl h
  have h3 : f + ty.sz ≤ vs.length := by simp at h2; omega
  cases hk : ty.kind with
  | struct fs => rw [hk] at h; exact .inr ⟨_, h, h3, .inl ⟨rfl, rfl⟩⟩
  | _ =>
    rw [hk] at h
    simp only at h
    split at h
    · rename_i c hc
      exact .inr ⟨_, h, h3, .inr ⟨rfl, c, hc, rfl⟩⟩
    · exact .inl h

/-- The load of a variable. -/
def loadK (tb : Tab) (chs : List Chunk) (t l i e f : Nat) (K : SV → Prop) (Z : Prop) : Prop :=
  match tfind tb t with
  | none => Z
  | some ty => match chs[l]? with
    | some (.box vs) => match e with
      | 0 => cellsK ty f vs K Z
      | _ + 1 => Z
    | some (.row _ sz enc xs) => match Nat.beq e sz with
      | true => Ob (i < xs.length) fun h => ddropK f (enc xs[i]) (fun r => dtakeK ty.sz r (fun r => flatK r (fun cs => match ty.kind with
        | .struct _ => K (.agg cs)
        | _ => match cs with
          | [c] => K (.one c)
          | _ => Z) Z) Z) Z
      | false => Z
    | some (.opn _ sz _ _ k vs) => match Nat.beq e sz with
      | true => Ob (i = k) fun _ => cellsK ty f vs K Z
      | false => Z
    | _ => Z

theorem sat_chunk {F : Fr} {nt : Nat} {ρ : List LocV} {s : St} {a : Act} {w : World} (hs : Sat F nt ρ s a w) {l : Nat} {c : Chunk} (h : s.chs[l]? = some c) :
    ∃ hp : Hp, c.ok F.h ρ l hp ∧ hp.le (heapOf w) ∧ F.h.le (heapOf w) := by
  obtain ⟨hs', hm⟩ := hs.mem
  exact ⟨hs' l, hm.ok l c h, hm.le l, hm.F.h⟩
theorem heap_rd {F h g : Hp} {own : Bool} {A : Option Addr} {c : Nat} {α : Type} {sz : Nat} {enc : α → List D} {xs : List α} (hF : F.le g) (hh : h.le g)
    (e : if own then rowOwn h A c sz enc xs else rowRd F A c sz enc xs) : rowRd g A c sz enc xs := by
  cases own
  · exact rowRd_mono hF e
  · exact rowRd_mono hh (rowOwn_rd e)
theorem chunk_row {F : Hp} {ρ : List LocV} {i : Nat} {h : Hp} {α : Type} {own : Bool} {sz : Nat} {enc : α → List D} {xs : List α} :
    Chunk.ok F ρ i h (.row own sz enc xs) ↔ ∃ x, ρ[i]? = some x ∧ (if own then rowOwn h x.addr x.cap sz enc xs else rowRd F x.addr x.cap sz enc xs) := by
  cases own <;> simp [Chunk.ok]
/-- What a row says of element i, in the world as it is. -/
theorem row_elem {g : Hp} {A : Option Addr} {c : Nat} {α : Type} {sz : Nat} {enc : α → List D} {xs : List α} (h : rowRd g A c sz enc xs) {i : Nat} (hi : i < xs.length) :
    ∃ b o C t fr, A = some ⟨b, o, none⟩ ∧ g b = some (.cells C t fr) ∧ D.rdL g (enc xs[i]) (cut C (o + i * sz) sz) := by
  obtain ⟨b, o, C, t, fr, h1, h2, h3⟩ := h.2.2.2 (by omega)
  exact ⟨b, o, C, t, fr, h1, h2, h3 i _ (List.getElem?_eq_getElem hi)⟩
theorem loadK_out {tb : Tab} {s : St} {t l i e f : Nat} {K : SV → Prop} {Z : Prop} (h : loadK tb s.chs t l i e f K Z) :
    Z ∨ ∃ sv, K sv ∧ ∀ {P : Program} {F : Fr} {nt : Nat} {ρ : List LocV} {a : Act} {w : World} {v : Value}, TabOk P tb → Sat F nt ρ s a w → (SC.ptr l i e f).den ρ v → ∃ u, sv.den ρ u ∧ (Instr.loadAt t v).run P w = .ok u w := by
  unfold loadK at h
  split at h
  · exact .inl h
  rename_i ty hty
  split at h
  · rename_i vs hc
    split at h
    · rcases cellsK_out h with h | ⟨sv, h1, h2, h3⟩
      · exact .inl h
      · refine .inr ⟨sv, h1, ?_⟩
        intro P F nt ρ a w v ht hs hp
        obtain ⟨x, ad, hx, ha, rfl⟩ := hp
        obtain ⟨hp, ⟨x', b, C, t', hx', ha', hcap, hb, hd⟩, hle, _⟩ := sat_chunk hs hc
        rw [hx] at hx'; cases hx'
        rw [ha] at ha'; cases ha'
        have hl : ((C.toList.drop f).take ty.sz).length = ty.sz := by
          have := SC.denL_length hd
          simp at this ⊢; omega
        obtain ⟨r1, r2⟩ := run_loadVar (tabB_find ht.1 hty) (hle _ _ hb) (o := f) rfl hl
        have hd2 := SC.denL_take ty.sz (SC.denL_drop f hd)
        simp only [Nat.mul_zero, Nat.zero_add, add_at]
        rcases h3 with ⟨ha, rfl⟩ | ⟨ha, c, hcs, rfl⟩
        · exact ⟨_, ⟨_, rfl, hd2⟩, by simp [Instr.loadAt, Instr.sureAddr, r1 ha]⟩
        · rw [hcs] at hd2
          obtain ⟨v, r, e1, e2, e3⟩ := hd2
          simp only [SC.denL] at e3
          subst e3
          exact ⟨v, e2, by simp [Instr.loadAt, Instr.sureAddr, r2 ha v e1]⟩
    · exact .inl h
  · rename_i α own sz enc xs hc
    split at h
    · rename_i hsz
      have hsz := Nat.eq_of_beq_eq_true hsz
      subst hsz
      obtain ⟨hi, h⟩ := h
      rcases ddropK_out h with h | ⟨h1, h⟩
      · exact .inl h
      rcases dtakeK_out h with h | ⟨h2, h⟩
      · exact .inl h
      rcases flatK_out (h := Hp.emp) (ρ := []) h with h | ⟨cs, h, hcs⟩
      · exact .inl h
      have main : ∀ {P : Program} {F : Fr} {nt : Nat} {ρ : List LocV} {a : Act} {w : World} {v : Value}, TabOk P tb → Sat F nt ρ s a w → (SC.ptr l i e f).den ρ v →
          ∃ ds b o C t' fr, v = .pointer (some ⟨b, o, none⟩) ∧ heapOf w b = some (.cells C t' fr) ∧ ds = (C.toList.drop o).take ty.sz ∧ ds.length = ty.sz ∧ SC.denL ρ cs ds := by
        intro P F nt ρ a w v ht hs hp
        obtain ⟨x, ad, hx, ha, rfl⟩ := hp
        obtain ⟨hp, hck, hle, hF⟩ := sat_chunk hs hc
        obtain ⟨x', hx', hrow⟩ := chunk_row.1 hck
        rw [hx] at hx'; cases hx'
        obtain ⟨b, o, C, t', fr, hA, hb, hrd⟩ := row_elem (heap_rd hF hle hrow) hi
        rw [ha] at hA; cases hA
        have hlen := D.rdL_length _ _ hrd
        have hln : f + ty.sz ≤ e := by
          have := cut_len (C := C) (o := o + i * e) (n := e)
          simp at h2; omega
        have hx := hcs (ρ := ρ) (rdL_take ty.sz (rdL_drop f hrd))
        refine ⟨_, b, o + (i * e + f), C, t', fr, by rw [add_at], hb, rfl, ?_, ?_⟩
        · rw [← Nat.add_assoc, cut_sub hln]
          simp [hlen]; simp at h2; omega
        · rw [← Nat.add_assoc, cut_sub hln]; exact hx
      cases hk : ty.kind with
      | struct fs =>
        rw [hk] at h
        refine .inr ⟨_, h, ?_⟩
        intro P F nt ρ a w v ht hs hp
        obtain ⟨ds, b, o, C, t', fr, rfl, hb, hds, hl, hd⟩ := main ht hs hp
        obtain ⟨r1, r2⟩ := run_loadVar (tabB_find ht.1 hty) hb (o := o) hds.symm hl
        exact ⟨_, ⟨_, rfl, hd⟩, by simp [Instr.loadAt, Instr.sureAddr, r1 (by rw [hk]; rfl)]⟩
      | _ =>
        rw [hk] at h
        simp only at h
        split at h
        · rename_i c
          refine .inr ⟨_, h, ?_⟩
          intro P F nt ρ a w v ht hs hp
          obtain ⟨ds, b, o, C, t', fr, rfl, hb, hds, hl, hd⟩ := main ht hs hp
          obtain ⟨r1, r2⟩ := run_loadVar (tabB_find ht.1 hty) hb (o := o) hds.symm hl
          obtain ⟨v, r, e1, e2, e3⟩ := hd
          simp only [SC.denL] at e3
          subst e3
          exact ⟨v, e2, by simp [Instr.loadAt, Instr.sureAddr, r2 (by rw [hk]; rfl) v e1]⟩
        · exact .inl h
    · exact .inl h
  · rename_i α own sz enc xs k vs hc
    split at h
    · rename_i hsz
      have hsz := Nat.eq_of_beq_eq_true hsz
      subst hsz
      obtain ⟨rfl, h⟩ := h
      rcases cellsK_out h with h | ⟨sv, h1, h2, h3⟩
      · exact .inl h
      · refine .inr ⟨sv, h1, ?_⟩
        intro P F nt ρ a w v ht hs hp
        obtain ⟨x, ad, hx, ha, rfl⟩ := hp
        obtain ⟨hp, hck, hle, hF⟩ := sat_chunk hs hc
        have : ∃ x' cs b o C t' fr, ρ[l]? = some x' ∧ SC.denL ρ vs cs ∧ x'.addr = some ⟨b, o, none⟩ ∧ heapOf w b = some (.cells C t' fr) ∧ cut C (o + i * e) e = cs := by
          cases own with
          | true =>
            obtain ⟨x', cs, q1, q2, q3, q4, q5, q6, b, o, C, t', hs, q7, q8, q9, q10, q11, q12, q13, q14⟩ := hck
            exact ⟨x', cs, b, o, C, t', _, q1, q2, q7, hle _ _ q8, q13⟩
          | false =>
            obtain ⟨x', cs, q1, q2, q3, q4, q5, q6, b, o, C, t', fr, q7, q8, q9, q10⟩ := hck
            exact ⟨x', cs, b, o, C, t', fr, q1, q2, q7, hF _ _ q8, q9⟩
        obtain ⟨x', cs, b, o, C, t', fr, hx', hd, hA, hb, hcut⟩ := this
        rw [hx] at hx'; cases hx'
        rw [ha] at hA; cases hA
        have hlen := SC.denL_length hd
        have hln : f + ty.sz ≤ e := by
          have := cut_len (C := C) (o := o + i * e) (n := e)
          rw [hcut] at this; omega
        have hl : ((C.toList.drop (o + (i * e + f))).take ty.sz).length = ty.sz := by
          rw [← Nat.add_assoc, cut_sub hln, hcut]
          simp [hlen]; omega
        obtain ⟨r1, r2⟩ := run_loadVar (tabB_find ht.1 hty) hb (o := o + (i * e + f)) rfl hl
        have hd2 := SC.denL_take ty.sz (SC.denL_drop f hd)
        rw [← hcut, ← cut_sub hln, Nat.add_assoc] at hd2
        simp only [add_at]
        rcases h3 with ⟨ha, rfl⟩ | ⟨ha, c, hcs, rfl⟩
        · exact ⟨_, ⟨_, rfl, hd2⟩, by simp [Instr.loadAt, Instr.sureAddr, r1 ha]⟩
        · rw [hcs] at hd2
          obtain ⟨v, r, e1, e2, e3⟩ := hd2
          simp only [SC.denL] at e3
          subst e3
          exact ⟨v, e2, by simp [Instr.loadAt, Instr.sureAddr, r2 ha v e1]⟩
    · exact .inl h
  · exact .inl h
end Go.Proofs.Ythdbhlpceodhlaa.Sx
