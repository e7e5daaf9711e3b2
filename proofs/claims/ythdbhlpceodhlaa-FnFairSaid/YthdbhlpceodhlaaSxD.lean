/- A part of the framework that the proofs of this seat stand on: a separation logic over the model's walks, with a runner that Lean evaluates. It is proved here, without conditions of its own. -/
import Derived.Test.YthdbhlpceodhlaaSxC
set_option linter.unusedVariables false
set_option linter.unusedSimpArgs false
namespace Go.Proofs.Ythdbhlpceodhlaa.Sx
open Go

/-! ### 11. the evaluator of operations that leave the memory alone -/
def litAddK (f o : Nat) (K : Nat → Prop) : Prop :=
  match f with
  | 0 => K o
  | _ => K (f + o)
theorem litAddK_eq (f o : Nat) (K : Nat → Prop) : litAddK f o K = K (f + o) := by
  cases f <;> simp [litAddK]
def fldK (tb : Tab) (t n : Nat) (K : Nat → Nat → Nat → Prop) (Z : Prop) : Prop :=
  match tfind tb t with
  | some ⟨_, _, .struct fs, _⟩ => match fs[n]? with
    | some (o, sz, ty) => K o sz ty
    | none => Z
  | _ => Z
theorem fldK_out {tb : Tab} {t n : Nat} {K : Nat → Nat → Nat → Prop} {Z : Prop} (h : fldK tb t n K Z) : Z ∨ ∃ o sz ty, K o sz ty ∧ ∀ {P : Program}, TabOk P tb →
    ∃ (gs : Array Field) (g : Field), P.underlying t = some (.struct gs) ∧ gs[n]? = some g ∧ g.offset = o ∧ g.type = ty ∧ (∃ x, P.info? ty = some x ∧ x.size = sz) ∧ 0 < sz := by
  unfold fldK at h
  split at h
  · rename_i a b fs z hf
    split at h
    · rename_i o sz ty hn
      refine .inr ⟨o, sz, ty, h, fun {P} ht => ?_⟩
      obtain ⟨x, d, z, h1, h2, h3, h4, h5, h6, h7⟩ := (tabB_find ht.1 hf).ex
      obtain ⟨gs, rfl, hg⟩ := kindB_struct h5
      obtain ⟨g, g1, g2, g3, g4, g5⟩ := fieldsB_get hg hn
      obtain ⟨x', g6, g7⟩ := Option.map_eq_some_iff.1 g4
      exact ⟨gs, g, h2, by simpa using g1, g2, g3, ⟨x', g6, g7⟩, g5⟩
    · exact .inl h
  · exact .inl h
theorem run_fieldAt {P : Program} {w : World} {t n o sz ty : Nat} {gs : Array Field} {g : Field} (h1 : P.underlying t = some (.struct gs)) (h2 : gs[n]? = some g) (h3 : g.offset = o) (h4 : g.type = ty) (h5 : ∃ x, P.info? ty = some x ∧ x.size = sz) (h6 : 0 < sz) (ad : Addr) :
    (Instr.fieldAt t (.pointer (some ad)) n).run P w = .ok (.pointer (some (ad.add o))) w := by
  obtain ⟨x, hx, hsz⟩ := h5
  have : ¬ x.size = 0 := by omega
  simp [Instr.fieldAt, run_underlying h1, h2, Instr.sureAddr, fieldPlace, sizeOf, typeInfo, h4, hx, this, h3]

/-- The Bool of a symbolic value. -/
def SC.asB : SC → Option Bool
  | .pr p d => some (@decide p d)
  | .bool b => some b
  | .lit b => some b
  | _ => none
/-- x & y, y small: what it is lies from 0 to y. -/
structure An (k : IntKind) (y : Int) (K : Int → Prop) : Prop where
  ok : (k = .u64 ∨ k = .i64) ∧ 0 ≤ y ∧ y ≤ 65535
  ex : ∀ n : Int, 0 ≤ n ∧ n ≤ y → K n
def binK (op : BinOp) (a b : SC) (K : SC → Prop) (Z : Prop) : Prop :=
  match a, b with
  | .int k x, .int k' y => match decide (k = k') with
    | true => match op with
      | .add => Wr k (x + y) (fun n => K (.int k n))
      | .sub => Wr k (x - y) (fun n => K (.int k n))
      | .mul => Wr k (x * y) (fun n => K (.int k n))
      | .quo => Qu k x y (fun n => K (.int k n))
      | .rem => Rm x y (fun n => K (.int k n))
      | .shr => Ob (0 ≤ y) fun _ => K (.int k (x.fdiv (2 ^ (min y.toNat k.bits))))
      | .and => An k y (fun n => K (.int k n))
      | .eql => K (.pr (x = y) inferInstance)
      | .neq => K (.pr (¬ x = y) inferInstance)
      | .lss => K (.pr (x < y) inferInstance)
      | .leq => K (.pr (x ≤ y) inferInstance)
      | .gtr => K (.pr (y < x) inferInstance)
      | .geq => K (.pr (y ≤ x) inferInstance)
      | _ => Z
    | false => Z
  | .str x, .str y => match op with
    | .add => Ob (x.size + y.size ≤ 9223372036854775807) fun _ => K (.str (x ++ y))
    | .eql => K (.pr (x = y) inferInstance)
    | .neq => K (.pr (¬ x = y) inferInstance)
    | _ => Z
  | a, b => match a.asB, b.asB with
    | some x, some y => match op with
      | .eql => K (.pr (x = y) inferInstance)
      | .neq => K (.pr (¬ x = y) inferInstance)
      | _ => Z
    | _, _ => Z
theorem asB_den {ρ : List LocV} {a : SC} {v : Value} {x : Bool} (h : a.asB = some x) (hv : a.den ρ v) : v = .bool x := by
  cases a <;> simp [SC.asB] at h <;> simp_all [SC.den]
/-- What the operator does with these values. -/
def BinEv (op : BinOp) (a b c : SC) : Prop := ∀ {P : Program} {ρ : List LocV} {w : World} {v u : Value} (t : TypeId) (x y : Operand), (op = .eql ∨ op = .neq → (∃ p, a.asB = some p) → P.underlying t = some .bool) → a.den ρ v → b.den ρ u →
  ∃ r, c.den ρ r ∧ (do eqGuard op t x y v u; binOp op t v u : Sem Value).run P w = .ok r w
theorem eqGuard_int {P : Program} {w : World} (op : BinOp) (t : TypeId) (x y : Operand) (k k' : IntKind) (a b : Int) : (eqGuard op t x y (.int k a) (.int k' b)).run P w = .ok () w := by
  cases op <;> simp [eqGuard]
theorem eqGuard_str {P : Program} {w : World} (op : BinOp) (t : TypeId) (x y : Operand) (a b : ByteArray) : (eqGuard op t x y (.string a) (.string b)).run P w = .ok () w := by
  cases op <;> simp [eqGuard]
theorem eqGuard_bool {P : Program} {w : World} (op : BinOp) (t : TypeId) (x y : Operand) (a b : Bool) : (eqGuard op t x y (.bool a) (.bool b)).run P w = .ok () w := by
  cases op <;> simp [eqGuard]
theorem bytes_beq (a b : ByteArray) : (a.toList == b.toList) = decide (a = b) := by
  rw [Bool.eq_iff_iff]
  simp only [ByteArray.toList_eq, beq_iff_eq, decide_eq_true_eq]
  exact ⟨byteArray_ext, fun h => by rw [h]⟩

theorem binK_out {op : BinOp} {a b : SC} {K : SC → Prop} {Z : Prop} (h : binK op a b K Z) : Z ∨ ∃ c, K c ∧ BinEv op a b c := by
  unfold binK at h
  split at h
  · rename_i k x k' y
    split at h
    · rename_i hk
      have hk := of_decide_eq_true hk
      subst hk
      split at h
      · exact .inr ⟨_, h.ex, fun t p q _ hv hu => by subst hv hu; exact ⟨_, rfl, by simp [eqGuard_int, binOp, Op.intArith]⟩⟩
      · exact .inr ⟨_, h.ex, fun t p q _ hv hu => by subst hv hu; exact ⟨_, rfl, by simp [eqGuard_int, binOp, Op.intArith]⟩⟩
      · exact .inr ⟨_, h.ex, fun t p q _ hv hu => by subst hv hu; exact ⟨_, rfl, by simp [eqGuard_int, binOp, Op.intArith]⟩⟩
      · exact .inr ⟨_, h.ex, fun t p q _ hv hu => by subst hv hu; exact ⟨_, rfl, by simp [eqGuard_int, binOp, Op.intDiv, h.nz]⟩⟩
      · exact .inr ⟨_, h.ex, fun t p q _ hv hu => by subst hv hu; exact ⟨_, rfl, by simp [eqGuard_int, binOp, Op.intDiv, h.nz]⟩⟩
      · obtain ⟨h0, h⟩ := h
        refine .inr ⟨_, h, fun t p q _ hv hu => ?_⟩
        subst hv hu
        exact ⟨_, rfl, by simp [eqGuard_int, binOp, Op.shift, show ¬ y < 0 by omega]⟩
      · obtain ⟨⟨hk, h0, h1⟩, h⟩ := h
        have hb : 16 ≤ k.bits := by rcases hk with rfl | rfl <;> decide
        have hle : (BitVec.ofInt k.bits x &&& BitVec.ofInt k.bits y).toNat ≤ y.toNat := by
          rw [BitVec.toNat_and]
          refine Nat.le_trans Nat.and_le_right ?_
          rw [BitVec.toNat_ofInt]
          have h2 : (65536 : Int) ≤ ((2 ^ k.bits : Nat) : Int) := by
            have : 2 ^ 16 ≤ 2 ^ k.bits := Nat.pow_le_pow_right (by omega) hb
            omega
          rw [Int.emod_eq_of_lt h0 (by omega)]
          exact Nat.le_refl _
        have hw : k.wrap (BitVec.ofInt k.bits x &&& BitVec.ofInt k.bits y).toNat = (BitVec.ofInt k.bits x &&& BitVec.ofInt k.bits y).toNat := by
          generalize (BitVec.ofInt k.bits x &&& BitVec.ofInt k.bits y).toNat = z at *
          rcases hk with rfl | rfl <;> simp [IntKind.wrap, IntKind.bits, IntKind.signed] <;> omega
        refine .inr ⟨_, h _ ⟨Int.natCast_nonneg (BitVec.ofInt k.bits x &&& BitVec.ofInt k.bits y).toNat, by omega⟩, fun t p q _ hv hu => ?_⟩
        subst hv hu
        exact ⟨_, rfl, by simp only [Sem.run_bind, eqGuard_int, Result.andThen_ok, binOp, ne_eq, not_true_eq_false, if_false, Op.intBits, hw]; rfl⟩
      · refine .inr ⟨_, h, fun t p q _ hv hu => ?_⟩
        subst hv hu
        refine ⟨_, rfl, ?_⟩
        have e : (x == y) = decide (x = y) := by rw [Bool.eq_iff_iff]; simp
        simp [eqGuard_int, binOp, Op.intCmp, e]
      · refine .inr ⟨_, h, fun t p q _ hv hu => ?_⟩
        subst hv hu
        refine ⟨_, rfl, ?_⟩
        have e : (x != y) = decide (¬ x = y) := by rw [Bool.eq_iff_iff]; simp
        simp only [Sem.run_bind, eqGuard_int, Result.andThen_ok, binOp, Op.intCmp, e, ne_eq, not_true_eq_false, if_false]
        rfl
      · exact .inr ⟨_, h, fun t p q _ hv hu => by subst hv hu; exact ⟨_, rfl, by simp [eqGuard_int, binOp, Op.intCmp]⟩⟩
      · exact .inr ⟨_, h, fun t p q _ hv hu => by subst hv hu; exact ⟨_, rfl, by simp [eqGuard_int, binOp, Op.intCmp]⟩⟩
      · exact .inr ⟨_, h, fun t p q _ hv hu => by subst hv hu; exact ⟨_, rfl, by simp [eqGuard_int, binOp, Op.intCmp]⟩⟩
      · exact .inr ⟨_, h, fun t p q _ hv hu => by subst hv hu; exact ⟨_, rfl, by simp [eqGuard_int, binOp, Op.intCmp]⟩⟩
      · exact .inl h
    · exact .inl h
  · rename_i x y
    split at h
    · obtain ⟨h1, h⟩ := h
      refine .inr ⟨_, h, fun t p q _ hv hu => ?_⟩
      subst hv hu
      refine ⟨_, rfl, ?_⟩
      have hn : ¬ (IntKind.i64.max < ((x.size : Int) + y.size)) := by show ¬ (9223372036854775807 < ((x.size : Int) + y.size)); omega
      simp [eqGuard_str, binOp, Op.stringOp, hn]
      omega
    · refine .inr ⟨_, h, fun t p q _ hv hu => ?_⟩
      subst hv hu
      refine ⟨_, rfl, ?_⟩
      simp [eqGuard_str, binOp, Op.stringOp, bytes_beq]
    · refine .inr ⟨_, h, fun t p q _ hv hu => ?_⟩
      subst hv hu
      refine ⟨_, rfl, ?_⟩
      simp [eqGuard_str, binOp, Op.stringOp, bytes_beq]
    · exact .inl h
  · split at h
    · rename_i x y hx hy
      split at h
      · refine .inr ⟨_, h, fun t p q ht hv hu => ?_⟩
        have e1 := asB_den hx hv
        have e2 := asB_den hy hu
        subst e1 e2
        refine ⟨_, rfl, ?_⟩
        have e : (x == y) = decide (x = y) := by rw [Bool.eq_iff_iff]; simp
        simp only [Sem.run_bind, eqGuard_bool, Result.andThen_ok, binOp, run_equal_bool _ t x y (ht (.inl rfl) ⟨x, hx⟩), e]
        rfl
      · refine .inr ⟨_, h, fun t p q ht hv hu => ?_⟩
        have e1 := asB_den hx hv
        have e2 := asB_den hy hu
        subst e1 e2
        refine ⟨_, rfl, ?_⟩
        have e : (x == y) = decide (x = y) := by rw [Bool.eq_iff_iff]; simp
        simp only [Sem.run_bind, eqGuard_bool, Result.andThen_ok, binOp, run_equal_bool _ t x y (ht (.inr rfl) ⟨x, hx⟩), e]
        simp
      · exact .inl h
    · exact .inl h

def unK (op : UnOp) (a : SC) (K : SC → Prop) (Z : Prop) : Prop :=
  match op, a with
  | .not, .pr p d => K (.pr (¬ p) (@instDecidableNot p d))
  | .not, .bool b => K (.bool (!b))
  | .not, .lit true => K (.lit false)
  | .not, .lit false => K (.lit true)
  | .neg, .int k n => Wr k (0 - n) (fun m => K (.int k m))
  | _, _ => Z
theorem unK_out {op : UnOp} {a : SC} {K : SC → Prop} {Z : Prop} (h : unK op a K Z) : Z ∨ ∃ c, K c ∧ ∀ {P : Program} {ρ : List LocV} {w : World} {v : Value}, a.den ρ v → ∃ r, c.den ρ r ∧ (Op.unary op v).run P w = .ok r w := by
  unfold unK at h
  split at h
  · refine .inr ⟨_, h, fun hv => ?_⟩
    subst hv
    refine ⟨_, rfl, ?_⟩
    simp [Op.unary]
  · exact .inr ⟨_, h, fun hv => by subst hv; exact ⟨_, rfl, by simp [Op.unary]⟩⟩
  · exact .inr ⟨_, h, fun hv => by subst hv; exact ⟨_, rfl, by simp [Op.unary]⟩⟩
  · exact .inr ⟨_, h, fun hv => by subst hv; exact ⟨_, rfl, by simp [Op.unary]⟩⟩
  · exact .inr ⟨_, h.ex, fun hv => by subst hv; exact ⟨_, rfl, by simp [Op.unary, Op.intArith]⟩⟩
  · exact .inl h

/-- The row behind a location, a view seen through: where it lies, from what element on, its length, its elements' cells. -/
def rowAtK (chs : List Chunk) (l : Nat) (K : Nat → Option Nat → Nat → Nat → Prop) (Z : Prop) : Prop :=
  match chs[l]? with
  | some (.row _ sz _ xs) => K l none xs.length sz
  | some (.opn _ sz _ xs _ _) => K l none xs.length sz
  | some (.view l2 off sz) => match chs[l2]? with
    | some (.row _ sz' _ xs) => match Nat.beq sz sz' with
      | true => K l2 (some off) (xs.length - off) sz
      | false => Z
    | some (.opn _ sz' _ xs _ _) => match Nat.beq sz sz' with
      | true => K l2 (some off) (xs.length - off) sz
      | false => Z
    | _ => Z
  | _ => Z
def idxK (l2 : Nat) (off : Option Nat) (sz j : Nat) (K : SC → Prop) : Prop :=
  match off with
  | none => K (.ptr l2 j sz 0)
  | some o => K (.ptr l2 (o + j) sz 0)
def indexAddrK (tb : Tab) (chs : List Chunk) (t : Nat) (p q : SV) (K : SV → Prop) (Z : Prop) : Prop :=
  match p, q with
  | .one (.slc l n), .one (.int _ i) => match tfind tb t with
    | some ⟨_, _, .slice e, _⟩ => match tfind tb e with
      | some ⟨es, _, _, _⟩ => rowAtK chs l (fun l2 off m sz => match Nat.beq es sz with
        | true => Ix i n m (fun j => idxK l2 off sz j (fun c => K (.one c)))
        | false => Z) Z
      | none => Z
    | _ => Z
  | _, _ => Z
theorem rowAtK_out {s : St} {l : Nat} {K : Nat → Option Nat → Nat → Nat → Prop} {Z : Prop} (h : rowAtK s.chs l K Z) : Z ∨ ∃ l2 off m sz, K l2 off m sz ∧
    ∀ {F : Fr} {nt : Nat} {ρ : List LocV} {a : Act} {w : World}, Sat F nt ρ s a w → ∀ j, j < m → ∃ x y b o, ρ[l]? = some x ∧ ρ[l2]? = some y ∧ y.addr = some ⟨b, o, none⟩ ∧ x.addr = some ⟨b, o + (off.getD 0) * sz, none⟩ := by
  unfold rowAtK at h
  have key : ∀ {F : Fr} {nt : Nat} {ρ : List LocV} {a : Act} {w : World} {l2 : Nat} {α : Type} {own : Bool} {sz : Nat} {enc : α → List D} {xs : List α}, Sat F nt ρ s a w → s.chs[l2]? = some (.row own sz enc xs) → 0 < xs.length →
      ∃ y b o, ρ[l2]? = some y ∧ y.addr = some ⟨b, o, none⟩ ∧ xs.length ≤ y.cap := by
    intro F nt ρ a w l2 α own sz enc xs hs hc hp
    obtain ⟨hp', hck, hle, hF⟩ := sat_chunk hs hc
    obtain ⟨x', hx', hrow⟩ := chunk_row.1 hck
    have hr := heap_rd hF hle hrow
    obtain ⟨b, o, C, t, fr, h1, h2, h3⟩ := hr.2.2.2 hp
    exact ⟨x', b, o, hx', h1, hr.1⟩
  have key2 : ∀ {F : Fr} {nt : Nat} {ρ : List LocV} {a : Act} {w : World} {l2 : Nat} {α : Type} {own : Bool} {sz : Nat} {enc : α → List D} {xs : List α} {k : Nat} {vs : List SC}, Sat F nt ρ s a w → s.chs[l2]? = some (.opn own sz enc xs k vs) →
      ∃ y b o, ρ[l2]? = some y ∧ y.addr = some ⟨b, o, none⟩ ∧ xs.length ≤ y.cap := by
    intro F nt ρ a w l2 α own sz enc xs k vs hs hc
    obtain ⟨hp', hck, hle, hF⟩ := sat_chunk hs hc
    cases own with
    | true =>
      obtain ⟨x', cs, q1, q2, q3, q4, q5, q6, b, o, C, t', hs, q7, q8⟩ := hck
      exact ⟨x', b, o, q1, q7, q3⟩
    | false =>
      obtain ⟨x', cs, q1, q2, q3, q4, q5, q6, b, o, C, t', fr, q7, q8, q9, q10⟩ := hck
      exact ⟨x', b, o, q1, q7, q3⟩
  split at h
  · rename_i α own sz enc xs hc
    refine .inr ⟨_, _, _, _, h, fun {F nt ρ a w} hs j hj => ?_⟩
    obtain ⟨y, b, o, h1, h2, _⟩ := key hs hc (by omega)
    exact ⟨y, y, b, o, h1, h1, h2, by simpa using h2⟩
  · rename_i α own sz enc xs k vs hc
    refine .inr ⟨_, _, _, _, h, fun {F nt ρ a w} hs j hj => ?_⟩
    obtain ⟨y, b, o, h1, h2, _⟩ := key2 hs hc
    exact ⟨y, y, b, o, h1, h1, h2, by simpa using h2⟩
  · rename_i l2 off sz hv
    have view : ∀ {F : Fr} {nt : Nat} {ρ : List LocV} {a : Act} {w : World} {y : LocV} {b o m : Nat}, Sat F nt ρ s a w → ρ[l2]? = some y → y.addr = some ⟨b, o, none⟩ → off < y.cap → ∃ x, ρ[l]? = some x ∧ x.addr = some ⟨b, o + off * sz, none⟩ := by
      intro F nt ρ a w y b o m hs hy ha hlt
      obtain ⟨_, ⟨x, y', e1, e2, e3, e4, e5⟩, _⟩ := sat_chunk hs hv
      rw [hy] at e2; cases e2
      refine ⟨x, e1, ?_⟩
      rw [e5 (by omega), ha]
      simp [add_at]
    split at h
    · rename_i α own sz' enc xs hc
      split at h
      · refine .inr ⟨_, _, _, _, h, fun {F nt ρ a w} hs j hj => ?_⟩
        obtain ⟨y, b, o, h1, h2, h3⟩ := key hs hc (by omega)
        obtain ⟨x, hx, hxa⟩ := view (m := 0) hs h1 h2 (by omega)
        exact ⟨x, y, b, o, hx, h1, h2, by simpa using hxa⟩
      · exact .inl h
    · rename_i α own sz' enc xs k vs hc
      split at h
      · refine .inr ⟨_, _, _, _, h, fun {F nt ρ a w} hs j hj => ?_⟩
        obtain ⟨y, b, o, h1, h2, h3⟩ := key2 hs hc
        obtain ⟨x, hx, hxa⟩ := view (m := 0) hs h1 h2 (by omega)
        exact ⟨x, y, b, o, hx, h1, h2, by simpa using hxa⟩
      · exact .inl h
    · exact .inl h
  · exact .inl h
theorem idxK_eq {l2 : Nat} {off : Option Nat} {sz j : Nat} {K : SC → Prop} (h : idxK l2 off sz j K) : K (.ptr l2 (off.getD 0 + j) sz 0) := by
  cases off <;> simpa [idxK] using h
theorem indexAddrK_out {tb : Tab} {s : St} {t : Nat} {p q : SV} {K : SV → Prop} {Z : Prop} (h : indexAddrK tb s.chs t p q K Z) : Z ∨ ∃ sv, K sv ∧
    ∀ {P : Program} {F : Fr} {nt : Nat} {ρ : List LocV} {a : Act} {w : World} {v u : Value}, TabOk P tb → Sat F nt ρ s a w → p.den ρ v → q.den ρ u → ∃ r, sv.den ρ r ∧ (Instr.indexAt t v u).run P w = .ok r w := by
  unfold indexAddrK at h
  split at h
  · rename_i l n k i
    split at h
    · rename_i sz0 by0 e z0 hty
      split at h
      · rename_i es bys kd z hte
        rcases rowAtK_out h with h | ⟨l2, off, m, sz, h, hm⟩
        · exact .inl h
        split at h
        · rename_i hb
          have hb := Nat.eq_of_beq_eq_true hb
          subst hb
          obtain ⟨j, rfl, hj, hjm, h⟩ := h.ex
          refine .inr ⟨_, idxK_eq h, ?_⟩
          intro P F nt ρ a w v u ht hs hv hu
          obtain ⟨x, y, b, o, hx, hy, hya, hxa⟩ := hm hs j hjm
          obtain ⟨x', hx', rfl⟩ := hv
          rw [hx] at hx'; cases hx'
          subst hu
          refine ⟨_, ⟨y, _, hy, hya, rfl⟩, ?_⟩
          obtain ⟨x1, d1, z1, g1, g2, g3, g4, g5, g6, g7⟩ := (tabB_find ht.1 hty).ex
          have hd := kindB_slice g5
          subst hd
          obtain ⟨x2, d2, z2, k1, k2, k3, k4, k5, k6, k7⟩ := (tabB_find ht.1 hte).ex
          have h0 : (0 : Int) ≤ j ∧ (j : Int) < n := by omega
          simp [Instr.indexAt, asIntOf, run_underlying g2, hxa, h0, sizeOf, typeInfo, k1, k3, add_at, hj]
          rw [Nat.add_assoc, ← Nat.add_mul]
        · exact .inl h
      · exact .inl h
    · exact .inl h
  · exact .inl h

def strIdxK (p q : SV) (K : SV → Prop) (Z : Prop) : Prop :=
  match p, q with
  | .one (.str s), .one (.int _ i) => Ix i s.size s.size (fun j => K (.one (.int .u8 (bt s j))))
  | _, _ => Z
def kindK (tb : Tab) (t : Nat) (K : TK → Prop) (Z : Prop) : Prop :=
  match tfind tb t with
  | some ⟨_, _, k, _⟩ => K k
  | none => Z
def lenK (tb : Tab) (t : Nat) (p : SV) (K : SV → Prop) (Z : Prop) : Prop :=
  match tfind tb t with
  | some ⟨_, _, .slice _, _⟩ => match p with
    | .one (.slc _ n) => K (.one (.int .i64 (n : Int)))
    | .one .nil => K (.one (.int .i64 0))
    | _ => Z
  | some ⟨_, _, .str, _⟩ => match p with
    | .one (.str s) => K (.one (.int .i64 (s.size : Int)))
    | _ => Z
  | _ => Z
theorem lenK_out {tb : Tab} {t : Nat} {p : SV} {K : SV → Prop} {Z : Prop} (h : lenK tb t p K Z) : Z ∨ ∃ sv, K sv ∧
    ∀ {P : Program} {ρ : List LocV} {w : World} {v : Value} (ty : TypeId), TabOk P tb → p.den ρ v → ∃ r, sv.den ρ r ∧ (Builtin.len_ #[t] ty #[v]).run P w = .ok r w := by
  unfold lenK at h
  split at h
  · rename_i hty
    split at h
    · refine .inr ⟨_, h, ?_⟩
      intro P ρ w v ty ht hv
      obtain ⟨x1, d1, z1, g1, g2, g3, g4, g5, g6, g7⟩ := (tabB_find ht.1 hty).ex
      have hd := kindB_slice g5
      subst hd
      obtain ⟨x, hx, rfl⟩ := hv
      exact ⟨_, rfl, by simp [Builtin.len_, run_underlying g2, goInt]⟩
    · refine .inr ⟨_, h, ?_⟩
      intro P ρ w v ty ht hv
      obtain ⟨x1, d1, z1, g1, g2, g3, g4, g5, g6, g7⟩ := (tabB_find ht.1 hty).ex
      have hd := kindB_slice g5
      subst hd
      subst hv
      exact ⟨_, rfl, by simp [Builtin.len_, run_underlying g2, goInt]⟩
    · exact .inl h
  · rename_i hty
    split at h
    · refine .inr ⟨_, h, ?_⟩
      intro P ρ w v ty ht hv
      obtain ⟨x1, d1, z1, g1, g2, g3, g4, g5, g6, g7⟩ := (tabB_find ht.1 hty).ex
      have hd := kindB_str g5
      subst hd
      subst hv
      exact ⟨_, rfl, by simp [Builtin.len_, run_underlying g2, goInt]⟩
    · exact .inl h
  · exact .inl h

def minmaxK (mx : Bool) (p q : SV) (K : SV → Prop) (Z : Prop) : Prop :=
  match p, q with
  | .one (.int k x), .one (.int k' y) => match decide (k = k') with
    | true => match mx with
      | true => K (.one (.int k (max x y)))
      | false => K (.one (.int k (min x y)))
    | false => Z
  | _, _ => Z
def fieldK (tb : Tab) (t n : Nat) (p : SV) (K : SV → Prop) (Z : Prop) : Prop :=
  match p with
  | .agg cs => fldK tb t n (fun o sz ty => match tfind tb ty with
    | some ti => match Nat.beq ti.sz sz with
      | true => cellsK ti o cs K Z
      | false => Z
    | none => Z) Z
  | _ => Z
def extractK (p : SV) (i : Nat) (K : SV → Prop) (Z : Prop) : Prop :=
  match p with
  | .tup xs => match xs[i]? with
    | some (.one c) => K (.one c)
    | some (.agg cs) => K (.agg cs)
    | none => Z
  | _ => Z
def convK (tb : Tab) (src dst : Nat) (p : SV) (K : SV → Prop) (Z : Prop) : Prop :=
  match tfind tb dst, tfind tb src with
  | some ⟨_, _, .int k, _⟩, some _ => match p with
    | .one (.int _ n) => Wr k n (fun m => K (.one (.int k m)))
    | _ => Z
  | _, _ => Z
def sliceStrK (tb : Tab) (t : Nat) (p : SV) (lo hi : Option SV) (K : SV → Prop) (Z : Prop) : Prop :=
  match tfind tb t with
  | some ⟨_, _, .str, _⟩ => match p with
    | .one (.str s) => match lo, hi with
      | some (.one (.int _ l)), some (.one (.int _ h)) => Sl l h s.size (fun l h => K (.one (.str (s.extract l h))))
      | none, some (.one (.int _ h)) => Sl 0 h s.size (fun l h => K (.one (.str (s.extract 0 h))))
      | some (.one (.int _ l)), none => Sl l (s.size : Int) s.size (fun l h => K (.one (.str (s.extract l s.size))))
      | none, none => K (.one (.str (s.extract 0 s.size)))
      | _, _ => Z
    | _ => Z
  | _ => Z
def svCells : SV → Option (List SC)
  | .one c => some [c]
  | .agg cs => some cs
  | .tup _ => none
/-- cells with others laid over them from o on -/
def layK (o : Nat) (new cs : List SC) (K : List SC → Prop) (Z : Prop) : Prop :=
  match o, new, cs with
  | 0, [], cs => K cs
  | 0, x :: new, _ :: cs => layK 0 new cs (fun r => K (x :: r)) Z
  | o + 1, new, c :: cs => layK o new cs (fun r => K (c :: r)) Z
  | _, _, _ => Z
theorem layK_out : ∀ {o : Nat} {new cs : List SC} {K : List SC → Prop} {Z : Prop}, layK o new cs K Z → Z ∨ (o + new.length ≤ cs.length ∧ K (cs.take o ++ new ++ cs.drop (o + new.length)))
  | 0, [], cs, K, Z, h => .inr ⟨by simp, by simpa [layK] using h⟩
  | 0, x :: new, c :: cs, K, Z, h => by
    simp only [layK] at h
    rcases layK_out h with h | ⟨h1, h2⟩
    · exact .inl h
    · refine .inr ⟨by simp at h1 ⊢; omega, ?_⟩
      simpa [Nat.add_comm] using h2
  | 0, x :: new, [], K, Z, h => .inl (by simpa [layK] using h)
  | o + 1, new, c :: cs, K, Z, h => by
    simp only [layK] at h
    rcases layK_out h with h | ⟨h1, h2⟩
    · exact .inl h
    · refine .inr ⟨by simp at h1 ⊢; omega, ?_⟩
      simpa [show o + 1 + new.length = (o + new.length) + 1 by omega] using h2
  | o + 1, new, [], K, Z, h => .inl (by simpa [layK] using h)
def partsK (tb : Tab) (t : Nat) (env : List (Nat × SV)) : List (Nat × Operand) → List SC → (List SC → Prop) → Prop → Prop
  | [], cs, K, _ => K cs
  | (n, x) :: r, cs, K, Z => opdK env x (fun sv => match svCells sv with
    | some new => fldK tb t n (fun o sz _ => match Nat.beq new.length sz with
      | true => layK o new cs (fun cs => partsK tb t env r cs K Z) Z
      | false => Z) Z
    | none => Z) Z
def buildK (tb : Tab) (t : Nat) (env : List (Nat × SV)) (parts : List (Nat × Operand)) (K : SV → Prop) (Z : Prop) : Prop :=
  match tfind tb t with
  | some ⟨_, _, .struct _, z⟩ => partsK tb t env parts z (fun cs => K (.agg cs)) Z
  | _ => Z
def capsK (env : List (Nat × SV)) : List Operand → (List (Nat × Nat) → Prop) → Prop → Prop
  | [], K, _ => K []
  | x :: r, K, Z => opdK env x (fun sv => match sv with
    | .one (.ptr l 0 0 f) => capsK env r (fun cs => K ((l, f) :: cs)) Z
    | _ => Z) Z

def evalK (tb : Tab) (env : List (Nat × SV)) (chs : List Chunk) (op : Op) (K : SV → Prop) (Z : Prop) : Prop :=
  match op with
  | .move x => opdK env x K Z
  | .assign x => opdK env x K Z
  | .pick c a b => opdK env c (fun c => match c with
    | .one (.lit true) => opdK env a K Z
    | .one (.lit false) => opdK env b K Z
    | _ => Z) Z
  | .load t x => opdK env x (fun p => match p with
    | .one (.ptr l i e f) => loadK tb chs t l i e f K Z
    | _ => Z) Z
  | .fieldAddr t x n => opdK env x (fun p => match p with
    | .one (.ptr l i e f) => fldK tb t n (fun o _ _ => litAddK f o (fun f => K (.one (.ptr l i e f)))) Z
    | _ => Z) Z
  | .indexAddr t x i => opdK env x (fun p => opdK env i (fun q => indexAddrK tb chs t p q K Z) Z) Z
  | .nilCheck x => opdK env x (fun p => match p with
    | .one (.ptr l i e f) => K (.one (.ptr l i e f))
    | .one (.clo f cs) => K (.one (.clo f cs))
    | _ => Z) Z
  | .binOp op t x y _ => opdK env x (fun p => opdK env y (fun q => match p, q with
    | .one a, .one b => kindK tb t (fun k => match a.asB, k with
      | some _, .bool => binK op a b (fun c => K (.one c)) Z
      | some _, _ => Z
      | none, _ => binK op a b (fun c => K (.one c)) Z) Z
    | _, _ => Z) Z) Z
  | .unOp op _ x => opdK env x (fun p => match p with
    | .one a => unK op a (fun c => K (.one c)) Z
    | _ => Z) Z
  | .convert src dst x => opdK env x (fun p => convK tb src dst p K Z) Z
  | .field t x n => opdK env x (fun p => fieldK tb t n p K Z) Z
  | .extract x i => opdK env x (fun p => extractK p i K Z) Z
  | .index t x i => opdK env x (fun p => opdK env i (fun q => kindK tb t (fun k => match k with
    | .str => strIdxK p q K Z
    | _ => Z) Z) Z) Z
  | .build t parts => buildK tb t env parts.toList K Z
  | .makeFunc (.func f) first captured => match first.toList with
    | [] => capsK env captured.toList (fun cs => K (.one (.clo f cs))) Z
    | _ => Z
  | .call { callee := .builtin .len, args := args, argTypes := ts } => match args.toList, ts.toList with
    | [x], [t] => opdK env x (fun p => lenK tb t p K Z) Z
    | _, _ => Z
  | .call { callee := .builtin .min, args := args, argTypes := ts } => match args.toList with
    | [x, y] => opdK env x (fun p => opdK env y (fun q => minmaxK false p q K Z) Z) Z
    | _ => Z
  | .call { callee := .builtin .max, args := args, argTypes := ts } => match args.toList with
    | [x, y] => opdK env x (fun p => opdK env y (fun q => minmaxK true p q K Z) Z) Z
    | _ => Z
  | .slice t x none none none => opdK env x (fun p => sliceStrK tb t p none none K Z) Z
  | .slice t x (some l) none none => opdK env x (fun p => opdK env l (fun l => sliceStrK tb t p (some l) none K Z) Z) Z
  | .slice t x none (some h) none => opdK env x (fun p => opdK env h (fun h => sliceStrK tb t p none (some h) K Z) Z) Z
  | .slice t x (some l) (some h) none => opdK env x (fun p => opdK env l (fun l => opdK env h (fun h => sliceStrK tb t p (some l) (some h) K Z) Z) Z) Z
  | _ => Z
end Go.Proofs.Ythdbhlpceodhlaa.Sx
