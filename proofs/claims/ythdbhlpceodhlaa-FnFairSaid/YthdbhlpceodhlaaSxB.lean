/- A part of the framework that the proofs of this seat stand on: a separation logic over the model's walks, with a runner that Lean evaluates. It is proved here, without conditions of its own. -/
import Derived.Test.YthdbhlpceodhlaaSxA
import Derived.Deep.LoopGhost
set_option linter.unusedVariables false
set_option linter.unusedSimpArgs false
namespace Go.Proofs.Ythdbhlpceodhlaa.Sx
open Go

/-! ### 4. the table of types -/
inductive TK where
  | struct (fs : List (Nat × Nat × Nat))      -- of each field: offset, cells, type
  | slice (e : Nat)
  | int (k : IntKind)
  | str
  | bool
  | other
structure TyI where
  sz : Nat
  bytes : Nat
  kind : TK
  zero : List SC
abbrev Tab := List (Nat × TyI)
def tfind : Tab → Nat → Option TyI
  | [], _ => none
  | (k, v) :: r, d => match Nat.beq k d with | true => some v | false => tfind r d

def isNilS : Value → Bool
  | .slice none 0 0 => true
  | _ => false
def isNilP : Value → Bool
  | .pointer none => true
  | _ => false
theorem isNilS_eq {v : Value} (h : isNilS v = true) : v = .slice none 0 0 := by
  unfold isNilS at h; split at h <;> simp_all
theorem isNilP_eq {v : Value} (h : isNilP v = true) : v = .pointer none := by
  unfold isNilP at h; split at h <;> simp_all
def zeroB : List SC → List Value → Bool
  | [], [] => true
  | .int k n :: r, .int k' n' :: r' => decide (k = k') && decide (n = n') && zeroB r r'
  | .lit b :: r, .bool b' :: r' => (b == b') && zeroB r r'
  | .nil :: r, v :: r' => isNilS v && zeroB r r'
  | .str s :: r, .string s' :: r' => decide (s.data.toList = s'.data.toList) && zeroB r r'
  | .val u :: r, v :: r' => isNilP u && isNilP v && zeroB r r'
  | _, _ => false
def fieldsB (P : Program) : List (Nat × Nat × Nat) → List Field → Bool
  | [], [] => true
  | (o, s, t) :: r, g :: gs => decide (g.offset = o) && decide (g.type = t) && decide ((P.info? t).map (·.size) = some s) && decide (0 < s) && fieldsB P r gs
  | _, _ => false
def kindB (P : Program) : TK → TypeDesc → Bool
  | .struct fs, .struct gs => fieldsB P fs gs.toList
  | .slice e, .slice e' => decide (e = e')
  | .int k, .int k' => decide (k = k')
  | .str, .string => true
  | .bool, .bool => true
  | .other, .pointer _ => true
  | .other, .func .. => true
  | .other, .interface _ => true
  | _, _ => false
def tyB (P : Program) (t : Nat) (i : TyI) : Bool :=
  match P.info? t, P.underlying t with
  | some x, some d => decide (x.size = i.sz) && decide (x.bytes = i.bytes) && kindB P i.kind d && (match x.zero with | some z => zeroB i.zero z.cells.toList | none => false)
  | _, _ => false
def tabB (P : Program) : Tab → Bool
  | [] => true
  | (t, i) :: r => tyB P t i && tabB P r

theorem byteArray_ext {a b : ByteArray} (h : a.data.toList = b.data.toList) : a = b := by
  cases a; cases b; congr; exact Array.ext' h
theorem zeroB_den {ρ : List LocV} : ∀ {xs : List SC} {vs : List Value}, zeroB xs vs = true → SC.denL ρ xs vs
  | [], [], _ => rfl
  | [], _ :: _, h => by simp [zeroB] at h
  | .int k n :: r, v :: vs, h => by
    cases v <;> simp [zeroB] at h
    obtain ⟨⟨rfl, rfl⟩, h⟩ := h
    exact ⟨_, _, rfl, rfl, zeroB_den h⟩
  | .lit b :: r, v :: vs, h => by
    cases v <;> simp [zeroB] at h
    obtain ⟨rfl, h⟩ := h
    exact ⟨_, _, rfl, rfl, zeroB_den h⟩
  | .str s :: r, v :: vs, h => by
    cases v <;> simp [zeroB] at h
    obtain ⟨h1, h⟩ := h
    have := byteArray_ext (by simpa using h1)
    subst this
    exact ⟨_, _, rfl, rfl, zeroB_den h⟩
  | .nil :: r, v :: vs, h => by
    simp [zeroB] at h
    exact ⟨_, _, rfl, isNilS_eq h.1, zeroB_den h.2⟩
  | .val u :: r, v :: vs, h => by
    simp [zeroB] at h
    obtain ⟨⟨h1, h2⟩, h⟩ := h
    rw [isNilP_eq h1, isNilP_eq h2]
    exact ⟨_, _, rfl, ⟨rfl, rfl⟩, zeroB_den h⟩
  | .pr .. :: _, _, h => by simp [zeroB] at h
  | .bool .. :: _, _, h => by simp [zeroB] at h
  | .slc .. :: _, _, h => by simp [zeroB] at h
  | .ptr .. :: _, _, h => by simp [zeroB] at h
  | .clo .. :: _, _, h => by simp [zeroB] at h
  | .int .. :: _, [], h => by simp [zeroB] at h
  | .lit .. :: _, [], h => by simp [zeroB] at h
  | .str .. :: _, [], h => by simp [zeroB] at h
  | .nil :: _, [], h => by simp [zeroB] at h
  | .val .. :: _, [], h => by simp [zeroB] at h

/-- What the table says of a type holds in the program. -/
structure TyOk (P : Program) (t : Nat) (i : TyI) : Prop where
  ex : ∃ x d z, P.info? t = some x ∧ P.underlying t = some d ∧ x.size = i.sz ∧ x.bytes = i.bytes ∧ kindB P i.kind d = true ∧ x.zero = some z ∧ zeroB i.zero z.cells.toList = true
theorem tabB_find {P : Program} : ∀ {tb : Tab} {t : Nat} {i : TyI}, tabB P tb = true → tfind tb t = some i → TyOk P t i
  | [], _, _, _, h => by simp [tfind] at h
  | (k, v) :: r, t, i, hb, h => by
    simp only [tabB, Bool.and_eq_true] at hb
    simp only [tfind] at h
    cases e : Nat.beq k t with
    | false => rw [e] at h; exact tabB_find hb.2 h
    | true =>
      rw [e] at h
      cases h
      have := Nat.eq_of_beq_eq_true e
      subst this
      have h1 := hb.1
      unfold tyB at h1
      split at h1
      · rename_i x d hx hd
        simp only [Bool.and_eq_true, decide_eq_true_eq] at h1
        obtain ⟨⟨⟨h2, h3⟩, h4⟩, h5⟩ := h1
        split at h5
        · rename_i z hz
          exact ⟨x, d, z, hx, hd, h2, h3, h4, hz, h5⟩
        · simp at h5
      · simp at h1
/-- What T asks of the program. -/
def TabOk (P : Program) (tb : Tab) : Prop := tabB P tb = true ∧ P.follows .mixedOrders = true

theorem kindB_struct {P : Program} {fs : List (Nat × Nat × Nat)} {d : TypeDesc} (h : kindB P (.struct fs) d = true) : ∃ gs, d = .struct gs ∧ fieldsB P fs gs.toList = true := by
  cases d <;> simp [kindB] at h
  exact ⟨_, rfl, h⟩
theorem kindB_slice {P : Program} {e : Nat} {d : TypeDesc} (h : kindB P (.slice e) d = true) : d = .slice e := by
  cases d <;> simp [kindB] at h
  subst h; rfl
theorem kindB_int {P : Program} {k : IntKind} {d : TypeDesc} (h : kindB P (.int k) d = true) : d = .int k := by
  cases d <;> simp [kindB] at h
  subst h; rfl
theorem kindB_str {P : Program} {d : TypeDesc} (h : kindB P .str d = true) : d = .string := by
  cases d <;> simp [kindB] at h
  rfl
theorem fieldsB_get {P : Program} : ∀ {fs : List (Nat × Nat × Nat)} {gs : List Field}, fieldsB P fs gs = true → ∀ {n : Nat} {o s t : Nat}, fs[n]? = some (o, s, t) →
    ∃ g, gs[n]? = some g ∧ g.offset = o ∧ g.type = t ∧ (P.info? t).map (·.size) = some s ∧ 0 < s
  | [], _, _, n, o, s, t, h => by simp at h
  | (o', s', t') :: r, [], hb, n, o, s, t, h => by simp [fieldsB] at hb
  | (o', s', t') :: r, g :: gs, hb, n, o, s, t, h => by
    simp only [fieldsB, Bool.and_eq_true, decide_eq_true_eq] at hb
    obtain ⟨⟨⟨⟨h1, h2⟩, h3⟩, h4⟩, h5⟩ := hb
    cases n with
    | zero => simp at h; obtain ⟨rfl, rfl, rfl⟩ := h; exact ⟨g, rfl, h1, h2, h3, h4⟩
    | succ n => simpa using fieldsB_get h5 (by simpa using h)
theorem kindB_bool {P : Program} {d : TypeDesc} (h : kindB P .bool d = true) : d = .bool := by
  cases d <;> simp [kindB] at h
  rfl
/-- Is a type an aggregate? -/
def TK.isAgg : TK → Bool
  | .struct _ => true
  | _ => false
theorem run_isAgg {P : Program} {t : Nat} {d : TypeDesc} {k : TK} (hd : P.underlying t = some d) (h : kindB P k d = true) (w : World) : (Go.isAgg t).run P w = .ok k.isAgg w := by
  cases k <;> cases d <;> simp [kindB] at h <;> simp [Go.isAgg, run_underlying hd, TK.isAgg]

/-! ### 5. chunks of memory, the state -/
inductive Chunk : Type 1
  | dead
  | box (vs : List SC)
  | row {α : Type} (own : Bool) (sz : Nat) (enc : α → List D) (xs : List α)
  | nilr
  | view (l off sz : Nat)
  | opn {α : Type} (own : Bool) (sz : Nat) (enc : α → List D) (xs : List α) (i : Nat) (vs : List SC)

structure Fr where
  h : Hp
  os : Os
  tape : Nat → Question → Nat
  out : Array (Nat × ByteArray)
structure Fr.ok (F : Fr) (w : World) : Prop where
  os : w.os = F.os
  tape : w.tape = F.tape
  out : w.output = F.out
  h : F.h.le (heapOf w)

/-- An own row, element i lies open: its cells are told; what hangs on it lies elsewhere. -/
def rowOpn (h : Hp) (A : Option Addr) (c : Nat) {α : Type} (sz : Nat) (enc : α → List D) (xs : List α) (i : Nat) (cs : List Value) : Prop :=
  xs.length ≤ c ∧ xs.length ≤ maxL ∧ 0 < sz ∧ i < xs.length ∧ ∃ b o C t, ∃ hs : Nat → Hp, A = some ⟨b, o, none⟩ ∧ h b = some (.cells C t (0, 0)) ∧ o + c * sz ≤ C.size ∧
      (∀ i, Hp.le (hs i) h) ∧ (∀ i, hs i b = none) ∧ (∀ i j, i ≠ j → Hp.dj (hs i) (hs j)) ∧ cut C (o + i * sz) sz = cs ∧
      ∀ j x, j ≠ i → xs[j]? = some x → D.ownL (hs j) (enc x) (cut C (o + j * sz) sz)
/-- The same of a row that is only read. -/
def rowOpr (h : Hp) (A : Option Addr) (c : Nat) {α : Type} (sz : Nat) (enc : α → List D) (xs : List α) (i : Nat) (cs : List Value) : Prop :=
  xs.length ≤ c ∧ xs.length ≤ maxL ∧ 0 < sz ∧ i < xs.length ∧ ∃ b o C t fr, A = some ⟨b, o, none⟩ ∧ h b = some (.cells C t fr) ∧ cut C (o + i * sz) sz = cs ∧
      ∀ j x, xs[j]? = some x → D.rdL h (enc x) (cut C (o + j * sz) sz)

def Chunk.ok (F : Hp) (ρ : List LocV) (i : Nat) (h : Hp) : Chunk → Prop
  | .dead => True
  | .box vs => ∃ x b C t, ρ[i]? = some x ∧ x.addr = some ⟨b, 0, none⟩ ∧ x.cap ≤ C.size ∧ h b = some (.cells C t (0, 0)) ∧ SC.denL ρ vs C.toList
  | .row true sz enc xs => ∃ x, ρ[i]? = some x ∧ rowOwn h x.addr x.cap sz enc xs
  | .row false sz enc xs => ∃ x, ρ[i]? = some x ∧ rowRd F x.addr x.cap sz enc xs
  | .nilr => ∃ x, ρ[i]? = some x ∧ x.cap = 0
  | .view l off sz => ∃ x y, ρ[i]? = some x ∧ ρ[l]? = some y ∧ off ≤ y.cap ∧ x.cap = y.cap - off ∧ (0 < x.cap → x.addr = y.addr.map (·.add (off * sz)))
  | .opn true sz enc xs k vs => ∃ x cs, ρ[i]? = some x ∧ SC.denL ρ vs cs ∧ rowOpn h x.addr x.cap sz enc xs k cs
  | .opn false sz enc xs k vs => ∃ x cs, ρ[i]? = some x ∧ SC.denL ρ vs cs ∧ rowOpr F x.addr x.cap sz enc xs k cs

structure MemH (F : Fr) (ρ : List LocV) (cs : List Chunk) (w : World) (hs : Nat → Hp) : Prop where
  ok : ∀ i c, cs[i]? = some c → Chunk.ok F.h ρ i (hs i) c
  dj : ∀ i j, i ≠ j → (hs i).dj (hs j)
  djF : ∀ i, (hs i).dj F.h
  le : ∀ i, (hs i).le (heapOf w)
  F : F.ok w
def Mem (F : Fr) (ρ : List LocV) (cs : List Chunk) (w : World) : Prop := ∃ hs, MemH F ρ cs w hs

def find : List (Nat × SV) → Nat → Option SV
  | [], _ => none
  | (k, v) :: r, d => match Nat.beq k d with | true => some v | false => find r d
structure St where
  env : List (Nat × SV)
  chs : List Chunk
def EnvOk (ρ : List LocV) (env : List (Nat × SV)) (a : Act) : Prop := ∀ d sv, find env d = some sv → ∃ v, a.tmps[d]? = some v ∧ sv.den ρ v
structure Sat (F : Fr) (nt : Nat) (ρ : List LocV) (s : St) (a : Act) (w : World) : Prop where
  nd : a.defers = []
  nt : a.tmps.size = nt
  len : ρ.length = s.chs.length
  env : EnvOk ρ s.env a
  mem : Mem F ρ s.chs w

theorem chunk_ok_pre {F : Hp} {ρ ρ' : List LocV} (hρ : ρ <+: ρ') {i : Nat} {h : Hp} : ∀ {c : Chunk}, c.ok F ρ i h → c.ok F ρ' i h
  | .dead, _ => trivial
  | .box vs, e => by obtain ⟨x, b, C, t, e1, e2, e3, e4, e5⟩ := e; exact ⟨x, b, C, t, pre_get hρ e1, e2, e3, e4, SC.denL_mono hρ e5⟩
  | .row true .., e => by obtain ⟨x, e1, e2⟩ := e; exact ⟨x, pre_get hρ e1, e2⟩
  | .row false .., e => by obtain ⟨x, e1, e2⟩ := e; exact ⟨x, pre_get hρ e1, e2⟩
  | .nilr, e => by obtain ⟨x, e1, e2⟩ := e; exact ⟨x, pre_get hρ e1, e2⟩
  | .view .., e => by obtain ⟨x, y, e1, e2, e3⟩ := e; exact ⟨x, y, pre_get hρ e1, pre_get hρ e2, e3⟩
  | .opn true .., e => by obtain ⟨x, cs, e1, e2, e3⟩ := e; exact ⟨x, cs, pre_get hρ e1, SC.denL_mono hρ e2, e3⟩
  | .opn false .., e => by obtain ⟨x, cs, e1, e2, e3⟩ := e; exact ⟨x, cs, pre_get hρ e1, SC.denL_mono hρ e2, e3⟩

theorem envOk_put {ρ : List LocV} {env : List (Nat × SV)} {a : Act} {d : Nat} {sv : SV} {v : Value} (h : EnvOk ρ env a) (hd : d < a.tmps.size) (hv : sv.den ρ v) : EnvOk ρ ((d, sv) :: env) (a.put (some d) v) := by
  intro k x hk
  simp only [find] at hk
  cases e : Nat.beq d k with
  | true =>
    rw [e] at hk; cases hk
    have := Nat.eq_of_beq_eq_true e; subst this
    exact ⟨v, by simp [Act.put, hd], hv⟩
  | false =>
    rw [e] at hk
    obtain ⟨u, h1, h2⟩ := h k x hk
    have hne : d ≠ k := fun e' => by rw [e'] at e; simp at e
    exact ⟨u, by simp only [Act.put]; rw [Array.getElem?_setIfInBounds_ne hne]; exact h1, h2⟩
theorem envOk_mono {ρ ρ' : List LocV} (hρ : ρ <+: ρ') {env : List (Nat × SV)} {a : Act} (h : EnvOk ρ env a) : EnvOk ρ' env a := fun d sv hd => by
  obtain ⟨v, h1, h2⟩ := h d sv hd; exact ⟨v, h1, SV.den_mono hρ h2⟩
theorem put_defers (a : Act) (d : Option Nat) (v : Value) : (a.put d v).defers = a.defers := by cases d <;> rfl
theorem put_size (a : Act) (d : Option Nat) (v : Value) : (a.put d v).tmps.size = a.tmps.size := by cases d <;> simp [Act.put]

/-! ### 6. what is left to do; the judgement -/
inductive KI where
  | code (c : Code)
  | blk (id : Nat)
  | ops (all rest : List Oper)
  | bk (G : Act → World → Prop)
structure Cx where
  P : Program
  tb : Tab
  F : Fr
  nt : Nat
  n0 : Nat
  ρ0 : List LocV
  ro : List Chunk
  Q : Exit → Act → World → Prop
/-- Only read: true for good. -/
def Chunk.isRo : Chunk → Bool
  | .row false .. => true
  | _ => false
/-- The frame has grown: more is left alone. -/
structure Fle (F G : Fr) : Prop where
  h : F.h.le G.h
  os : G.os = F.os
  tape : G.tape = F.tape
  out : G.out = F.out
theorem Fle.refl (F : Fr) : Fle F F := ⟨Hp.le_refl _, rfl, rfl, rfl⟩
theorem Fle.trans {F G H : Fr} (h : Fle F G) (k : Fle G H) : Fle F H := ⟨Hp.le_trans h.h k.h, k.os.trans h.os, k.tape.trans h.tape, k.out.trans h.out⟩
structure Ok (X : Cx) : Prop where
  tab : TabOk X.P X.tb
  n0 : X.ρ0.length = X.n0
  ro : ∀ (i : Nat) (c : Chunk), X.ro[i]? = some c → c.isRo = true → Chunk.ok X.F.h X.ρ0 i Hp.emp c
def runK (P : Program) (Q : Exit → Act → World → Prop) : List KI → Exit → Act → World → Prop
  | [] => Q
  | .code c :: ks => fun e a w => match e with | .normal => c.wp P (runK P Q ks) a w | e => runK P Q ks e a w
  | .blk id :: ks => Exit.inBlock id (runK P Q ks)
  | .ops all rest :: ks => fun e a w => match e with | .normal => wpList P all.toArray (runK P Q ks) rest a w | e => runK P Q ks e a w
  | .bk G :: ks => fun e a w => match e with | .normal => G a w | e => runK P Q ks e a w
/-- From the state s on, with ks left to do, all goes as Q asks. -/
structure T (X : Cx) (ks : List KI) (s : St) : Prop where
  go : Ok X → ∀ F ρ a w, Fle X.F F → X.ρ0 <+: ρ → Sat F X.nt ρ s a w → runK X.P X.Q ks .normal a w

theorem T_seq {X : Cx} {x y : Code} {ks : List KI} {s : St} (h : T X (.code x :: .code y :: ks) s) : T X (.code (.seq x y) :: ks) s :=
  ⟨fun ht F ρ a w hF hρ hs => by
    refine wp_seq (Code.wp_mono ?_ (h.go ht F ρ a w hF hρ hs))
    intro e a w q
    cases e <;> exact q⟩
theorem T_skip {X : Cx} {ks : List KI} {s : St} (h : T X ks s) : T X (.code .skip :: ks) s := ⟨fun ht F ρ a w hF hρ hs => wp_skip (h.go ht F ρ a w hF hρ hs)⟩
theorem T_block {X : Cx} {id : Nat} {c : Code} {ks : List KI} {s : St} (h : T X (.code c :: .blk id :: ks) s) : T X (.code (.block id c) :: ks) s := ⟨fun ht F ρ a w hF hρ hs => wp_block (h.go ht F ρ a w hF hρ hs)⟩
theorem T_blk {X : Cx} {id : Nat} {ks : List KI} {s : St} (h : T X ks s) : T X (.blk id :: ks) s := ⟨h.go⟩
theorem T_ops_nil {X : Cx} {all : List Oper} {ks : List KI} {s : St} (h : T X ks s) : T X (.ops all [] :: ks) s := ⟨h.go⟩
theorem T_region {X : Cx} {id : Nat} {l : List Oper} {ks : List KI} {s : St} (h : T X (.ops l l :: ks) s) : T X (.code (.region id l.toArray false) :: ks) s :=
  ⟨fun ht F ρ a w hF hρ hs => wp_region_lit (h.go ht F ρ a w hF hρ hs)⟩
/-- Where an exit goes. -/
def exitK (id : Nat) : List KI → Option (List KI)
  | [] => none
  | .blk id' :: ks => match Nat.beq id id' with | true => some ks | false => exitK id ks
  | _ :: ks => exitK id ks
theorem runK_exit {P : Program} {Q : Exit → Act → World → Prop} {id : Nat} : ∀ {ks ks' : List KI}, exitK id ks = some ks' → ∀ {a w}, runK P Q ks' .normal a w → runK P Q ks (.exit id) a w
  | [], _, h, _, _, _ => by simp [exitK] at h
  | .code _ :: ks, ks', h, a, w, hr => runK_exit (ks := ks) h hr
  | .ops _ _ :: ks, ks', h, a, w, hr => runK_exit (ks := ks) h hr
  | .bk _ :: ks, ks', h, a, w, hr => runK_exit (ks := ks) h hr
  | .blk id' :: ks, ks', h, a, w, hr => by
    simp only [exitK] at h
    cases e : Nat.beq id id' with
    | true =>
      rw [e] at h; cases h
      have := Nat.eq_of_beq_eq_true e
      subst this
      simpa [runK, Exit.inBlock] using hr
    | false =>
      rw [e] at h
      have hne : ¬ id = id' := fun e' => by rw [e'] at e; simp at e
      simp only [runK, Exit.inBlock, hne, if_false]
      exact runK_exit h hr
theorem runK_ret {P : Program} {Q : Exit → Act → World → Prop} : ∀ {ks : List KI} {a w}, Q .ret a w → runK P Q ks .ret a w
  | [], _, _, h => h
  | .code _ :: ks, _, _, h => runK_ret (ks := ks) h
  | .ops _ _ :: ks, _, _, h => runK_ret (ks := ks) h
  | .bk _ :: ks, _, _, h => runK_ret (ks := ks) h
  | .blk id' :: ks, _, _, h => by simp only [runK, Exit.inBlock]; exact runK_ret h
theorem T_exit {X : Cx} {id : Nat} {ks ks' : List KI} {s : St} (he : exitK id ks = some ks') (h : T X ks' s) : T X (.code (.exit id) :: ks) s :=
  ⟨fun ht F ρ a w hF hρ hs => wp_exit (runK_exit he (h.go ht F ρ a w hF hρ hs))⟩

/-- What a round leaves: the relation at a lesser measure. -/
def Back (X : Cx) {Y : Type} (mk : Y → St) (I : Y → Prop) (μ : Y → Nat) (y : Y) (a : Act) (w : World) : Prop :=
  ∃ y' F ρ, I y' ∧ μ y' < μ y ∧ Fle X.F F ∧ X.ρ0 <+: ρ ∧ Sat F X.nt ρ (mk y') a w
/-- A loop, the rounds counted by a ghost. -/
theorem T_loop0 {X : Cx} {c : Code} {ks : List KI} {s : St} {Y : Type} (mk : Y → St) (I : Y → Prop) (μ : Y → Nat)
    (h0 : Ok X → ∀ F ρ a w, Fle X.F F → X.ρ0 <+: ρ → Sat F X.nt ρ s a w → ∃ y F' ρ', I y ∧ Fle X.F F' ∧ X.ρ0 <+: ρ' ∧ Sat F' X.nt ρ' (mk y) a w)
    (hr : ∀ y, I y → T X (.code c :: .bk (Back X mk I μ y) :: ks) (mk y)) :
    T X (.code (.loop c) :: ks) s := by
  refine ⟨?_⟩
  intro ht F ρ a w hF hρ hs
  obtain ⟨y0, F1, ρ1, hI, hF1, hρ1, hs1⟩ := h0 ht F ρ a w hF hρ hs
  refine wp_loop_ghost (fun n a w => ∃ y F' ρ', μ y = n ∧ I y ∧ Fle X.F F' ∧ X.ρ0 <+: ρ' ∧ Sat F' X.nt ρ' (mk y) a w) (μ y0) ⟨y0, F1, ρ1, rfl, hI, hF1, hρ1, hs1⟩ ?_
  rintro n a w ⟨y, F', ρ', rfl, hI, hF', hρ', hs'⟩
  refine Code.wp_mono ?_ ((hr y hI).go ht F' ρ' a w hF' hρ' hs')
  intro e a w q
  cases e with
  | normal =>
    obtain ⟨y', F2, ρ2, h1, h2, h3, h4, h5⟩ := q
    exact ⟨μ y', h2, y', F2, ρ2, rfl, h1, h3, h4, h5⟩
  | _ => exact q
/-- The end of a round. -/
theorem T_back0 {X : Cx} {ks : List KI} {s : St} {G : Act → World → Prop} (h : Ok X → ∀ F ρ a w, Fle X.F F → X.ρ0 <+: ρ → Sat F X.nt ρ s a w → G a w) : T X (.bk G :: ks) s :=
  ⟨fun ht F ρ a w hF hρ hs => h ht F ρ a w hF hρ hs⟩
end Go.Proofs.Ythdbhlpceodhlaa.Sx
