/- A part of the framework that the proofs of this seat stand on: a separation logic over the model's walks, with a runner that Lean evaluates. It is proved here, without conditions of its own. -/
import Derived.Test.YthdbhlpceodhlaaSxQ
import Derived.OrdersHeld
set_option linter.unusedVariables false
set_option linter.unusedSimpArgs false
namespace Go.Proofs.Ythdbhlpceodhlaa.Sx
open Go

/-! ### 33. regions that draw their order, read and write -/
def locSC (n : Nat) : SC → Bool
  | .slc l _ => Nat.blt l n
  | .ptr l _ _ _ => Nat.blt l n
  | .clo _ cs => cs.all fun x => Nat.blt x.1 n
  | _ => true
def locCh (n : Nat) : Chunk → Bool
  | .box vs => vs.all (locSC n)
  | .view l _ _ => Nat.blt l n
  | .opn _ _ _ _ _ vs => vs.all (locSC n)
  | _ => true
theorem pre_back {ρ ρ' : List LocV} (h : ρ <+: ρ') {l : Nat} (hl : l < ρ.length) : ρ[l]? = ρ'[l]? := by
  obtain ⟨t, rfl⟩ := h
  rw [List.getElem?_append_left hl]
theorem ptrs_back {ρ ρ' : List LocV} (h : ρ <+: ρ') : ∀ {cs : List (Nat × Nat)} {vs : List Value}, (cs.all fun x => Nat.blt x.1 ρ.length) = true → ptrsDen ρ' cs vs → ptrsDen ρ cs vs
  | [], _, _, e => e
  | (l, f) :: r, _, hb, ⟨x, a, q, e1, e2, e3, e4⟩ => by
    simp only [List.all_cons, Bool.and_eq_true] at hb
    exact ⟨x, a, q, by rw [pre_back h (by simpa [Nat.blt_eq] using hb.1)]; exact e1, e2, e3, ptrs_back h hb.2 e4⟩
theorem locSC_back {ρ ρ' : List LocV} (h : ρ <+: ρ') : ∀ {c : SC} {v : Value}, locSC ρ.length c = true → c.den ρ' v → c.den ρ v
  | .slc .., _, hb, ⟨x, e1, e2⟩ => ⟨x, by rw [pre_back h (by simpa [locSC, Nat.blt_eq] using hb)]; exact e1, e2⟩
  | .ptr .., _, hb, ⟨x, a, e1, e2⟩ => ⟨x, a, by rw [pre_back h (by simpa [locSC, Nat.blt_eq] using hb)]; exact e1, e2⟩
  | .clo .., _, hb, ⟨ps, e1, e2⟩ => ⟨ps, ptrs_back h hb e1, e2⟩
  | .int .., _, _, e => e
  | .pr .., _, _, e => e
  | .bool .., _, _, e => e
  | .lit .., _, _, e => e
  | .str .., _, _, e => e
  | .nil, _, _, e => e
  | .val .., _, _, e => e
theorem locSCL_back {ρ ρ' : List LocV} (h : ρ <+: ρ') : ∀ {cs : List SC} {vs : List Value}, cs.all (locSC ρ.length) = true → SC.denL ρ' cs vs → SC.denL ρ cs vs
  | [], _, _, e => e
  | c :: r, _, hb, ⟨v, q, e1, e2, e3⟩ => by
    simp only [List.all_cons, Bool.and_eq_true] at hb
    exact ⟨v, q, e1, locSC_back h hb.1 e2, locSCL_back h hb.2 e3⟩
theorem locCh_back {ρ ρ' : List LocV} (h : ρ <+: ρ') {F hp : Hp} {i : Nat} (hi : i < ρ.length) : ∀ {c : Chunk}, locCh ρ.length c = true → Chunk.ok F ρ' i hp c → Chunk.ok F ρ i hp c := by
  have hx : ρ[i]? = ρ'[i]? := pre_back h hi
  intro c hb e
  cases c with
  | dead => trivial
  | box vs => obtain ⟨x, b, C, t, e1, e2, e3, e4, e5⟩ := e; exact ⟨x, b, C, t, by rw [hx]; exact e1, e2, e3, e4, locSCL_back h hb e5⟩
  | nilr => obtain ⟨x, e1, e2⟩ := e; exact ⟨x, by rw [hx]; exact e1, e2⟩
  | view l off sz => obtain ⟨x, y, e1, e2, e3⟩ := e; exact ⟨x, y, by rw [hx]; exact e1, by rw [pre_back h (by simpa [locCh, Nat.blt_eq] using hb)]; exact e2, e3⟩
  | row own sz enc xs => cases own <;> (obtain ⟨x, e1, e2⟩ := e; exact ⟨x, by rw [hx]; exact e1, e2⟩)
  | opn own sz enc xs k vs => cases own <;> (obtain ⟨x, cs, e1, e2, e3⟩ := e; exact ⟨x, cs, by rw [hx]; exact e1, locSCL_back h hb e2, e3⟩)
/-- What is told of the memory for the time of the region: the chunks that nobody in it writes. -/
def agK : List Chunk → List Chunk → Prop → Prop
  | [], _, K => K
  | .dead :: cs, _ :: l, K => agK cs l K
  | c :: cs, d :: l, K => d = c ∧ agK cs l K
  | _ :: _, [], _ => False
theorem agK_out : ∀ {cs l : List Chunk} {K : Prop}, agK cs l K → K ∧ ∀ (i : Nat) (c : Chunk), cs[i]? = some c → c = .dead ∨ l[i]? = some c
  | [], _, K, h => ⟨by simpa [agK] using h, by simp⟩
  | c :: cs, [], K, h => by cases c <;> simp [agK] at h
  | c :: cs, d :: l, K, h => by
    have fin : (K ∧ ∀ (i : Nat) (c : Chunk), cs[i]? = some c → c = .dead ∨ l[i]? = some c) → (c = .dead ∨ d = c) → K ∧ ∀ (i : Nat) (x : Chunk), (c :: cs)[i]? = some x → x = .dead ∨ (d :: l)[i]? = some x := by
      rintro ⟨h1, h2⟩ h3
      refine ⟨h1, fun i x hx => ?_⟩
      cases i with
      | zero =>
        simp at hx; subst hx
        rcases h3 with h3 | h3
        · exact .inl h3
        · exact .inr (by simp [h3])
      | succ i => simpa using h2 i x (by simpa using hx)
    cases c with
    | dead => exact fin (agK_out (by simpa [agK] using h)) (.inl rfl)
    | _ =>
      simp only [agK] at h
      exact fin (agK_out h.2) (.inr h.1)
theorem mem_common {F : Fr} {ρs ρ' : List LocV} {cs l : List Chunk} {w : World} (h : ρs <+: ρ') (hlen : cs.length ≤ ρs.length) (hag : ∀ (i : Nat) (c : Chunk), cs[i]? = some c → c = .dead ∨ l[i]? = some c) (hb : cs.all (locCh ρs.length) = true) (hm : Mem F ρ' l w) : Mem F ρs cs w := by
  obtain ⟨hs, m⟩ := hm
  refine ⟨hs, fun i c hc => ?_, m.dj, m.djF, m.le, m.F⟩
  have hi : i < ρs.length := by have := (List.getElem?_eq_some_iff.1 hc).1; omega
  have hbc : locCh ρs.length c = true := List.all_eq_true.1 hb c (List.mem_of_getElem? hc)
  rcases hag i c hc with rfl | h1
  · trivial
  · exact locCh_back h hi hbc (m.ok i c h1)
def padD : List Chunk → List Chunk → List Chunk
  | _, [] => []
  | [], _ :: r => .dead :: padD [] r
  | c :: cs, _ :: r => c :: padD cs r
theorem padD_length : ∀ (cs l : List Chunk), (padD cs l).length = l.length
  | cs, [] => by cases cs <;> rfl
  | [], _ :: r => by simp [padD, padD_length [] r]
  | c :: cs, _ :: r => by simp [padD, padD_length cs r]
theorem padD_get : ∀ (cs l : List Chunk) (i : Nat) (c : Chunk), (padD cs l)[i]? = some c → c = .dead ∨ cs[i]? = some c
  | cs, [], i, c, h => by cases cs <;> simp [padD] at h
  | [], _ :: r, 0, c, h => by simp [padD] at h; exact .inl h.symm
  | [], _ :: r, i + 1, c, h => by
    have := padD_get [] r i c (by simpa [padD] using h)
    simpa using this
  | c :: cs, _ :: r, 0, x, h => by simp [padD] at h; exact .inr (by simp [h])
  | c :: cs, _ :: r, i + 1, x, h => by
    have := padD_get cs r i x (by simpa [padD] using h)
    simpa using this
theorem mem_pad {F : Fr} {ρs ρ : List LocV} {cs l : List Chunk} {w : World} (h : ρs <+: ρ) (hm : Mem F ρs cs w) : Mem F ρ (padD cs l) w := by
  obtain ⟨hs, m⟩ := hm
  refine ⟨hs, fun i c hc => ?_, m.dj, m.djF, m.le, m.F⟩
  rcases padD_get cs l i c hc with rfl | h1
  · trivial
  · exact chunk_ok_pre h (m.ok i c h1)
/-- Whatever order is picked; S is asked behind every operation but the late ones. -/
def wpAnyM (P : Program) (ops : Array Oper) (Q : Exit → Act → World → Prop) (S : World → Prop) (late : Nat → Bool) : Nat → Array Bool → Act → World → Prop
  | 0, listed, a, w => Region.ready .any ops listed = [] ∧ Q .normal a w
  | fuel + 1, listed, a, w => (Region.ready .any ops listed = [] → Q .normal a w) ∧
    ∀ i ∈ Region.ready .any ops listed, wpOp P ops Q i (fun a' w' => (late i = false → S w') ∧ wpAnyM P ops Q S late fuel (listed.setIfInBounds i true) a' w') a w
theorem wpAny_of_M {P : Program} {ops : Array Oper} {Q : Exit → Act → World → Prop} {S : World → Prop} {late : Nat → Bool} : ∀ (fuel : Nat) (listed : Array Bool) (a : Act) (w : World), wpAnyM P ops Q S late fuel listed a w → wpAny P .any ops Q fuel listed a w
  | 0, _, _, _, h => h
  | fuel + 1, _, _, _, h => ⟨h.1, fun i hi => wpOp_mono (fun a' w' h' => wpAny_of_M fuel _ a' w' h'.2) (h.2 i hi)⟩
theorem wpAnyM_first {P : Program} {ops : Array Oper} {Q : Exit → Act → World → Prop} {S : World → Prop} {late : Nat → Bool} {i : Nat} {oi : Oper} {v : Value} (hi : ops[i]? = some oi) (hsel : ∀ (j : Nat) (o : Oper) cs b, ops[j]? = some o → o.op ≠ .select cs b)
    (hQ : ∀ c a w, Q (.panic c) (a.put oi.dst v) w → Q (.panic c) a w) (hlate : ∀ j, late j = true → Region.waitsFor .any ops j i = true) : ∀ (fuel : Nat) (listed : Array Bool) (a : Act) (w : World),
      (∀ j oj, ops[j]? = some oj → j ≠ i → listed.getD j true = false → (∀ e ∈ oj.after, Region.binds .any e = true → e.on ≠ i) → oi.apart ops oj = true) →
      i ∈ Region.ready .any ops listed → YieldsIf P ops S oi v a → S w → wpAnyM P ops Q S late fuel (listed.setIfInBounds i true) (a.put oi.dst v) w → wpAnyM P ops Q S late (fuel + 1) listed a w := by
  intro fuel
  induction fuel with
  | zero =>
    intro listed a w _ hr hy hS H
    refine ⟨fun h => (by rw [h] at hr; cases hr), fun j hj => ?_⟩
    by_cases hji : j = i
    · subst hji; exact hy.wpOp hi hS ⟨fun _ => hS, H⟩
    · have hm := ready_mono hj hji
      rw [H.1] at hm
      cases hm
  | succ fuel ih =>
    intro listed a w hfree hr hy hS H
    refine ⟨fun h => (by rw [h] at hr; cases hr), fun j hj => ?_⟩
    by_cases hji : j = i
    · subst hji; exact hy.wpOp hi hS ⟨fun _ => hS, H⟩
    · have h1 := H.2 j (ready_mono hj hji)
      obtain ⟨hjun, oj, hoj, hall⟩ := mem_ready.1 hj
      have hnot : ∀ e ∈ oj.after, Region.binds .any e = true → e.on ≠ i := fun e he hb heq => by
        have h1 := hall e he hb
        have h0 := (mem_ready.1 hr).1
        rw [heq, getD_both h0] at h1
        cases h1
      have hnl : late j = false := by
        cases hl : late j with
        | false => rfl
        | true =>
          obtain ⟨o', ho', e, he, hb, hon⟩ := Region.waitsFor_spec (hlate j hl)
          rw [hoj] at ho'; cases ho'
          exact absurd hon (hnot e he hb)
      have h2 := wpOp_putIf hoj (hfree j oj hoj hji hjun hnot) (fun cs b => hsel i oi cs b hi) (fun cs b => hsel j oj cs b hoj) hQ hy h1
      have hfree' : ∀ k ok, ops[k]? = some ok → k ≠ i → (listed.setIfInBounds j true).getD k true = false →
          (∀ e ∈ ok.after, Region.binds .any e = true → e.on ≠ i) → oi.apart ops ok = true := fun k ok hk hki hun hno => by
        refine hfree k ok hk hki ?_ hno
        by_cases hjk : j = k
        · subst hjk; exact hjun
        · rw [getD_set_ne true hjk] at hun; exact hun
      refine wpOp_mono (fun a' w' h3 => ⟨h3.2.1, ih (listed.setIfInBounds j true) a' w' hfree' (ready_mono hr (Ne.symm hji)) h3.1 (h3.2.1 hnl) ?_⟩) h2
      rw [Array.setIfInBounds_comm _ _ hji]
      exact h3.2.2
/-- A region's plan: 0: taken first; 1: a step; 2: a late step, that waits for all that are taken first; 3: a variable made, which may be made sooner. -/
abbrev Plan := List (Nat × Nat)
def lateF (pl : Plan) (j : Nat) : Bool := pl.any fun x => Nat.beq x.1 j && Nat.beq x.2 2
def lateB (ops : Array Oper) (pl : Plan) : Bool := pl.all fun x => !(Nat.beq x.2 2) || pl.all fun y => !(Nat.beq y.2 0) || Region.waitsFor .any ops x.1 y.1
theorem lateB_spec {ops : Array Oper} {pl : Plan} (h : lateB ops pl = true) {i j : Nat} (hi : (i, 0) ∈ pl) (hj : lateF pl j = true) : Region.waitsFor .any ops j i = true := by
  obtain ⟨x, hx, hx2⟩ := List.any_eq_true.1 hj
  simp only [Bool.and_eq_true] at hx2
  have h1 := List.all_eq_true.1 h x hx
  rw [hx2.2] at h1
  simp only [Bool.not_true, Bool.false_or] at h1
  have h2 := List.all_eq_true.1 h1 (i, 0) hi
  have e := Nat.eq_of_beq_eq_true hx2.1
  rw [e] at h2
  simpa using h2
def pendL : Plan → List Nat
  | [] => []
  | (i, k) :: r => match k with
    | 3 => i :: pendL r
    | _ => pendL r
theorem pendL_mem : ∀ {sch : Plan} {j : Nat}, j ∈ pendL sch ↔ (j, 3) ∈ sch
  | [], j => by simp [pendL]
  | (i, k) :: r, j => by
    have ih := pendL_mem (sch := r) (j := j)
    unfold pendL
    split
    · simp [ih]
    · rename_i hk
      rw [ih, List.mem_cons]
      refine ⟨.inr, fun h => h.elim (fun e => ?_) id⟩
      cases e
      exact absurd rfl hk
def listL : List Nat → Array Bool → Array Bool
  | [], a => a
  | k :: r, a => listL r (a.setIfInBounds k true)
def firstB (i : Nat) (r : Plan) : Bool := r.all fun x => !(Nat.beq x.1 i)
theorem firstB_spec {i : Nat} {r : Plan} (h : firstB i r = true) {k : Nat} : (i, k) ∉ r := fun hm => by
  have := List.all_eq_true.1 h _ hm
  simp at this
def schB (ops : Array Oper) : Plan → Array Bool → Bool
  | [], listed => (Region.ready .any ops listed).isEmpty
  | (i, 0) :: r, listed => firstB i r && (Region.ready .any ops listed).contains i && Region.free .any ops listed i && schB ops r (listed.setIfInBounds i true)
  | (i, _ + 1) :: r, listed => firstB i r && (Region.ready .any ops listed).contains i && decide (Region.ready .any ops (listL (pendL r) listed) = [i]) && schB ops r (listed.setIfInBounds i true)
def QH (X : Cx) (ks : List KI) : Exit → Act → World → Prop
  | .panic _, _, _ => False
  | e, a, w => runK X.P X.Q ks e a w
/-- No other operation writes slot d. -/
def soleB (j d : Nat) : Nat → List Oper → Bool
  | _, [] => true
  | k, o :: r => (match o.dst with | some e => Nat.beq k j || !(Nat.beq e d) | none => true) && soleB j d (k + 1) r
theorem soleB_spec {j d : Nat} : ∀ {k : Nat} {l : List Oper}, soleB j d k l = true → ∀ {i : Nat} {o : Oper}, l[i]? = some o → k + i ≠ j → o.dst ≠ some d
  | _, [], _, i, o, h, _ => by simp at h
  | k, p :: r, hb, i, o, h, hne => by
    simp only [soleB, Bool.and_eq_true] at hb
    cases i with
    | zero =>
      simp at h; subst h
      have h1 := hb.1
      intro e
      rw [e] at h1
      simp only [Bool.or_eq_true] at h1
      rcases h1 with h1 | h1
      · exact hne (by simpa using h1)
      · simp at h1
    | succ i => exact soleB_spec hb.2 (by simpa using h) (by omega)
theorem run_bsl {P : Program} {tb : Tab} (ht : TabOk P tb) {t e sz b0 s0 bytes : Nat} {z0 zero : List SC} {kd : TK} (hty : tfind tb t = some ⟨s0, b0, .slice e, z0⟩) (hte : tfind tb e = some ⟨sz, bytes, kd, zero⟩) {len : Nat} {parts : Array (Nat × Operand)} (hl : parts.toList.length = len + 1) (hsz : 0 < sz) (hbig : (len + 1) * sz ≤ 16777216)
    {d : Option Nat} {ty : TypeId} {pos : String} {after : Array Edge} {a : Act} {w : World} {ρ : List LocV} {cells : List SC} (hcl : cells.length = (len + 1) * sz) (g : ∀ C : Array Value, (len + 1) * sz ≤ C.size → ∃ vs : List Value, SC.denL ρ cells vs ∧ Instr.fill (fun i => some (i * sz, sz)) C (parts.toList.map fun x => (x.1, a.eval x.2)) = some (lay C.toList (0 * sz) vs).toArray) :
    ∃ vs, SC.denL ρ cells vs ∧ (execOp a.eval { dst := d, op := .buildSlice t (len + 1) parts, type := ty, pos := pos, after := after, guard := none }).run P w = .ok (.value (.slice (some ⟨w.heap.size, 0, none⟩) (len + 1) (len + 1))) (w.alloc (.cells vs.toArray e)) := by
  have hmap : parts.map (fun (x : Nat × Operand) => (x.1, a.eval x.2)) = (parts.toList.map fun x => (x.1, a.eval x.2)).toArray := by
    apply Array.ext'; simp
  obtain ⟨x1, d1, z1, a1, a2, a3, a4, a5, a6, a7⟩ := (tabB_find ht.1 hty).ex
  obtain ⟨x2, d2, z2, b1, b2, b3, b4, b5, b6, b7⟩ := (tabB_find ht.1 hte).ex
  have e1 := kindB_slice a5
  subst e1
  have hne : ¬ ((len + 1) * sz = 0) := by
    have : 0 < (len + 1) * sz := Nat.mul_pos (by omega) hsz
    omega
  obtain ⟨vs, g1, g2⟩ := g (madeCells z2.cells ((len + 1) * sz)) (by simp [size_madeCells])
  have hv : vs.length = (len + 1) * sz := by rw [SC.denL_length g1, hcl]
  have hfull : (lay (madeCells z2.cells ((len + 1) * sz)).toList (0 * sz) vs).toArray = vs.toArray := by
    have h3 : vs.length = (madeCells z2.cells ((len + 1) * sz)).toList.length := by
      rw [hv]; simp [size_madeCells]
    simp only [lay, Nat.zero_mul, Nat.zero_add, List.take_zero, List.nil_append]
    rw [List.drop_of_length_le (by omega)]
    simp
  rw [hfull] at g2
  have hbig' : ¬ (16777216 < (len + 1) * sz) := by omega
  have hfill : Instr.fill (fun i => some (i * sz, sz)) ((Array.range ((len + 1) * sz)).map (z2.cells[· % z2.cells.size]!)) (parts.map (fun (x : Nat × Operand) => (x.1, a.eval x.2))).toList = some vs.toArray := by
    rw [hmap]; exact g2
  refine ⟨vs, g1, ?_⟩
  simp [execOp, Instr.buildSlice, run_underlying a2, sizeOf, typeInfo, b1, b3, hbig', hne, zeroValue, b6, newRow]
  have hfill' : Instr.fill (fun i => some (i * sz, sz)) (Array.map (fun x => z2.cells[x % z2.cells.size]!) (Array.range ((len + 1) * sz))) (List.map (fun x => (x.fst, a.eval x.snd)) parts.toList) = some vs.toArray := by
    simpa using hfill
  rw [hfill']
  simp
def constSC : Value → Option SC
  | .int k n => some (.int k n)
  | .bool b => some (.lit b)
  | .string s => some (.str s)
  | _ => none
def constCells : Nat → List (Nat × Operand) → Option (List SC)
  | _, [] => some []
  | j, (n, x) :: r => match x, Nat.beq j n with
    | .const v, true => match constSC v with
      | some c => match constCells (j + 1) r with
        | some cs => some (c :: cs)
        | none => none
      | none => none
    | _, _ => none
theorem constCells_join : ∀ {j : Nat} {parts : List (Nat × Operand)} {cs : List SC} {K : List SC → Prop}, constCells j parts = some cs → K cs → joinS [] 1 j parts K
  | _, [], cs, K, h, hk => by simp [constCells] at h; subst h; exact hk
  | j, (n, x) :: r, cs, K, h, hk => by
    simp only [constCells] at h
    split at h
    · rename_i v hb
      split at h
      · rename_i c hc
        split at h
        · rename_i cs' hr
          cases h
          simp only [joinS, hb, opdK]
          have : ∀ K' : SV → Prop, K' (.one c) → constK v K' False := by
            intro K' hK'
            cases v <;> simp [constSC] at hc <;> subst hc <;> exact hK'
          refine this _ ?_
          exact constCells_join hr hk
        · cases h
      · cases h
    · cases h
/-- What a maker's block holds, and whether a slice of so many is told. -/
def mkOf (tb : Tab) (o : Oper) : Option (List SC × Option Nat) :=
  match o.op with
  | .alloc t => match tfind tb t with
    | some ty => some (ty.zero, none)
    | none => none
  | .buildSlice t (len + 1) parts => match tfind tb t with
    | some ⟨_, _, .slice e, _⟩ => match tfind tb e with
      | some ⟨1, _, _, _⟩ => match Nat.beq parts.toList.length (len + 1), Nat.ble (len + 1) 16777216 with
        | true, true => match constCells 0 parts.toList with
          | some cells => some (cells, some (len + 1))
          | none => none
        | _, _ => none
      | _ => none
    | _ => none
  | _ => none
def mkVal (k : Option Nat) (b : Nat) : Value := match k with
  | none => .pointer (some ⟨b, 0, none⟩)
  | some n => .slice (some ⟨b, 0, none⟩) n n
/-- The operations that make variables are plain. -/
def alB (tb : Tab) (nt : Nat) (all : List Oper) (pl : Plan) : Bool :=
  (pendL pl).all fun j => match all[j]? with
    | some o => match o.dst, o.guard with
      | some d, none => Nat.blt d nt && (mkOf tb o).isSome && soleB j d 0 all
      | _, _ => false
    | none => false
structure AlOk (tb : Tab) (nt : Nat) (all : List Oper) (j : Nat) (o : Oper) (d : Nat) (cells : List SC) (kk : Option Nat) : Prop where
  at_ : all[j]? = some o
  dst : o.dst = some d
  gd : o.guard = none
  lt : d < nt
  mo : mkOf tb o = some (cells, kk)
  sole : ∀ {i : Nat} {p : Oper}, all[i]? = some p → i ≠ j → p.dst ≠ some d
theorem alB_spec {tb : Tab} {nt : Nat} {all : List Oper} {pl : Plan} (h : alB tb nt all pl = true) {j : Nat} (hj : (j, 3) ∈ pl) : ∃ o d cells kk, AlOk tb nt all j o d cells kk := by
  have := List.all_eq_true.1 h j (pendL_mem.2 hj)
  split at this
  · rename_i o ho
    split at this
    · rename_i d h2 h3
      simp only [Bool.and_eq_true, Option.isSome_iff_exists] at this
      obtain ⟨⟨k1, ⟨cells, kk⟩, k2⟩, k3⟩ := this
      exact ⟨o, d, cells, kk, ho, h2, h3, by simpa [Nat.blt_eq] using k1, k2, fun hi hne => soleB_spec k3 hi (by simpa using hne)⟩
    · cases this
  · cases this
def lackB (all : List Oper) (js : List Nat) (env : List (Nat × SV)) : Bool := js.all fun j => match all[j]? with
  | some o => match o.dst with
    | some d => match find env d with
      | none => true
      | some _ => false
    | none => false
  | none => false
theorem lackB_spec {all : List Oper} {js : List Nat} {env : List (Nat × SV)} (h : lackB all js env = true) {j : Nat} (hj : j ∈ js) {o : Oper} (ho : all[j]? = some o) {d : Nat} (hd : o.dst = some d) : find env d = none := by
  have := List.all_eq_true.1 h j hj
  simp only [ho, hd] at this
  split at this
  · assumption
  · cases this
theorem lackB_lit {all : List Oper} {js : List Nat} {env : List (Nat × SV)} {d : Nat} {sv sv' : SV} (hf : find env d = some sv) (h : lackB all js env = true) : lackB all js ((d, sv') :: env) = true := by
  refine List.all_eq_true.2 fun j hj => ?_
  have := List.all_eq_true.1 h j hj
  split at this
  · rename_i o ho
    split at this
    · rename_i e he
      split at this
      · rename_i hn
        have hne : Nat.beq d e = false := by
          cases hb : Nat.beq d e with
          | false => rfl
          | true => rw [Nat.eq_of_beq_eq_true hb] at hf; rw [hf] at hn; cases hn
        simp only [ho, he, find, hne, hn]
      · cases this
    · cases this
  · cases this
/-- Variables made ahead of their time: they lie in the frame meanwhile. -/
structure HidOk (tb : Tab) (all : List Oper) (F0 F : Fr) (a : Act) (bl : List (Nat × Nat)) : Prop where
  le : Fle F0 F
  at_ : ∀ x ∈ bl, F0.h x.2 = none ∧ ∃ o d cells kk C t', all[x.1]? = some o ∧ o.dst = some d ∧ mkOf tb o = some (cells, kk) ∧ a.tmps[d]? = some (mkVal kk x.2) ∧ F.h x.2 = some (.cells C t' (0, 0)) ∧ ∀ ρ, SC.denL ρ cells C.toList
  only : ∀ k o, F.h k = some o → F0.h k = some o ∨ ∃ x ∈ bl, x.2 = k
  nd : ∀ x ∈ bl, ∀ y ∈ bl, x.2 = y.2 → x = y
theorem hid_nil {tb : Tab} {all : List Oper} {F : Fr} {a : Act} : HidOk tb all F F a [] := ⟨Fle.refl F, fun x h => (by cases h), fun k o h => .inl h, fun x h => (by cases h)⟩
/-- What has been listed: what the plan has, and what was made ahead. -/
structure LsOk (sch : Plan) (bl : List (Nat × Nat)) (l0 l : Array Bool) : Prop where
  up : ∀ k, l0.getD k true = true → l.getD k true = true
  dn : ∀ k, l.getD k true = true → l0.getD k true = true ∨ ∃ b, (k, b) ∈ bl
  bl : ∀ x ∈ bl, (x.1, 3) ∈ sch ∧ l.getD x.1 true = true ∧ l0.getD x.1 true = false
  sz : l.size = l0.size
theorem ls_nil {sch : Plan} {l : Array Bool} : LsOk sch [] l l := ⟨fun _ h => h, fun _ h => .inl h, fun x h => (by cases h), rfl⟩
theorem getD_tf {l : Array Bool} {k : Nat} : l.getD k false = true ↔ (k < l.size ∧ l.getD k true = true) := by
  by_cases h : k < l.size
  · simp [Array.getD, h]
  · simp [Array.getD, h]
theorem getD_lt {l : Array Bool} {k : Nat} (h : l.getD k true = false) : k < l.size := by
  rcases Nat.lt_or_ge k l.size with hk | hk
  · exact hk
  · rw [show l.getD k true = true by simp [Array.getD]; omega] at h; cases h
theorem getD_set {l : Array Bool} {i k : Nat} : (l.setIfInBounds i true).getD k true = if k = i then true else l.getD k true := by
  by_cases h : k = i
  · subst h
    rw [if_pos rfl]
    by_cases hk : k < l.size
    · simp [Array.getD, hk]
    · simp [Array.getD, hk]
  · rw [if_neg h]
    exact getD_set_ne true (Ne.symm h)
theorem LsOk.upf {sch : Plan} {bl : List (Nat × Nat)} {l0 l : Array Bool} (h : LsOk sch bl l0 l) {k : Nat} (hk : l0.getD k false = true) : l.getD k false = true := by
  rw [getD_tf] at hk ⊢
  exact ⟨by rw [h.sz]; exact hk.1, h.up k hk.2⟩
theorem ready_up {ops : Array Oper} {l0 l : Array Bool} (h : ∀ k, l0.getD k false = true → l.getD k false = true) {i : Nat} (hi : i ∈ Region.ready .any ops l0) (hn : l.getD i true = false) : i ∈ Region.ready .any ops l := by
  obtain ⟨h1, oj, h2, h3⟩ := mem_ready.1 hi
  exact mem_ready.2 ⟨hn, oj, h2, fun e he hb => h _ (h3 e he hb)⟩
theorem LsOk.set {k : Nat} {i : Nat} {sch : Plan} {bl : List (Nat × Nat)} {l0 l : Array Bool} (h : LsOk ((i, k) :: sch) bl l0 l) (hno : ∀ b, (i, b) ∉ bl) : LsOk sch bl (l0.setIfInBounds i true) (l.setIfInBounds i true) := by
  refine ⟨fun j hj => ?_, fun j hj => ?_, fun x hx => ?_, by simp [h.sz]⟩
  · rw [getD_set] at hj ⊢
    split
    · rfl
    · rename_i hne; rw [if_neg hne] at hj; exact h.up j hj
  · rw [getD_set] at hj ⊢
    split
    · exact .inl rfl
    · rename_i hne; rw [if_neg hne] at hj; exact h.dn j hj
  · obtain ⟨h1, h2, h3⟩ := h.bl x hx
    have hne : x.1 ≠ i := fun e => hno x.2 (by rw [← e]; exact hx)
    rw [getD_set, getD_set, if_neg hne, if_neg hne]
    rcases List.mem_cons.1 h1 with e | h1
    · exact absurd (congrArg Prod.fst e) hne
    · exact ⟨h1, h2, h3⟩
theorem ls_no {i k : Nat} (hk : k ≠ 3) {sch : Plan} {bl : List (Nat × Nat)} {l0 l : Array Bool} (h : LsOk ((i, k) :: sch) bl l0 l) (hf : firstB i sch = true) (b : Nat) : (i, b) ∉ bl := fun hm => by
  have := (h.bl _ hm).1
  rcases List.mem_cons.1 this with e | e
  · exact hk (congrArg Prod.snd e).symm
  · exact firstB_spec hf e
def pendN : Plan → Array Bool → Nat
  | [], _ => 0
  | x :: r, l => (if l.getD x.1 true = true then 0 else 1) + pendN r l
theorem pendN_set {i : Nat} : ∀ {sch : Plan} {l : Array Bool}, pendN sch (l.setIfInBounds i true) ≤ pendN sch l
  | [], _ => Nat.le_refl _
  | x :: r, l => by
    have := pendN_set (i := i) (sch := r) (l := l)
    simp only [pendN, getD_set]
    split
    · simp; omega
    · omega
theorem pendN_lt {i k : Nat} : ∀ {sch : Plan} {l : Array Bool}, (i, k) ∈ sch → l.getD i true = false → pendN sch (l.setIfInBounds i true) < pendN sch l
  | x :: r, l, hm, hl => by
    have h1 := pendN_set (i := i) (sch := r) (l := l)
    rcases List.mem_cons.1 hm with rfl | hm
    · simp only [pendN, getD_set, hl]; simp; omega
    · have h2 := pendN_lt hm hl
      simp only [pendN, getD_set]
      split
      · simp; omega
      · omega
theorem listL_get {k : Nat} : ∀ {js : List Nat} {l : Array Bool}, (listL js l).getD k true = true ↔ (l.getD k true = true ∨ k ∈ js)
  | [], l => by simp [listL]
  | j :: r, l => by
    rw [listL, listL_get, getD_set]
    by_cases h : k = j
    · simp [h]
    · simp [h]
theorem listL_size : ∀ {js : List Nat} {l : Array Bool}, (listL js l).size = l.size
  | [], l => rfl
  | j :: r, l => by rw [listL, listL_size]; simp
/-- Who may come: the step, or a variable made ahead. -/
theorem ready_cases {ops : Array Oper} {i k : Nat} {sch : Plan} {bl : List (Nat × Nat)} {l0 l : Array Bool} (h : LsOk ((i, k) :: sch) bl l0 l) (hno : ∀ b, (i, b) ∉ bl) (hr : Region.ready .any ops (listL (pendL sch) l0) = [i]) {j : Nat} (hj : j ∈ Region.ready .any ops l) : j = i ∨ ((j, 3) ∈ sch ∧ l.getD j true = false) := by
  have hun := (mem_ready.1 hj).1
  by_cases hp : j ∈ pendL sch
  · exact .inr ⟨pendL_mem.1 hp, hun⟩
  · left
    have h0 : l0.getD j true = false := by
      cases e : l0.getD j true with
      | false => rfl
      | true => rw [h.up j e] at hun; cases hun
    have h1 : j ∈ Region.ready .any ops (listL (pendL sch) l0) := by
      refine ready_up (fun q hq => ?_) hj ?_
      · rw [getD_tf] at hq ⊢
        refine ⟨by rw [listL_size, ← h.sz]; exact hq.1, listL_get.2 ?_⟩
        rcases h.dn q hq.2 with e | ⟨b, hb⟩
        · exact .inl e
        · rcases List.mem_cons.1 (h.bl _ hb).1 with e | e
          · have e1 : q = i := congrArg Prod.fst e
            rw [e1] at hb
            exact absurd hb (hno b)
          · exact .inr (pendL_mem.2 e)
      · cases e : (listL (pendL sch) l0).getD j true with
        | false => rfl
        | true =>
          rcases listL_get.1 e with e | e
          · rw [e] at h0; cases h0
          · exact absurd e hp
    rw [hr] at h1
    simpa using h1
def Chunk.isRd : Chunk → Bool
  | .row false .. => true
  | .opn false .. => true
  | _ => false
theorem chunk_F {F F' : Hp} {ρ : List LocV} {i : Nat} {h : Hp} : ∀ {c : Chunk}, c.isRd = false → c.ok F ρ i h → c.ok F' ρ i h
  | .dead, _, _ => trivial
  | .box _, _, e => e
  | .row true .., _, e => e
  | .row false .., hb, _ => by cases hb
  | .nilr, _, e => e
  | .view .., _, e => e
  | .opn true .., _, e => e
  | .opn false .., hb, _ => by cases hb
theorem opr_mono {F F' : Hp} (hF : F.le F') {A : Option Addr} {c : Nat} {α : Type} {sz : Nat} {enc : α → List D} {xs : List α} {i : Nat} {cs : List Value} (h : rowOpr F A c sz enc xs i cs) : rowOpr F' A c sz enc xs i cs := by
  obtain ⟨e1, e2, e3, e4, b, o, C, t, fr, q1, q2, q3, q4⟩ := h
  exact ⟨e1, e2, e3, e4, b, o, C, t, fr, q1, hF _ _ q2, q3, fun j x hx => D.rdL_mono hF _ _ (q4 j x hx)⟩
theorem chunk_Fle {F F' : Hp} (hF : F.le F') {ρ : List LocV} {i : Nat} {h h' : Hp} : ∀ {c : Chunk}, c.isRd = true → c.ok F ρ i h → c.ok F' ρ i h'
  | .dead, hb, _ => by cases hb
  | .box _, hb, _ => by cases hb
  | .row true .., hb, _ => by cases hb
  | .row false .., _, e => by obtain ⟨x, e1, e2⟩ := e; exact ⟨x, e1, rowRd_mono hF e2⟩
  | .nilr, hb, _ => by cases hb
  | .view .., hb, _ => by cases hb
  | .opn true .., hb, _ => by cases hb
  | .opn false .., _, e => by obtain ⟨x, cs, e1, e2, e3⟩ := e; exact ⟨x, cs, e1, e2, opr_mono hF e3⟩
/-- What is only read is in the base. -/
def RoS (F : Fr) (ρ : List LocV) (cs : List Chunk) : Prop := ∀ (i : Nat) (c : Chunk), cs[i]? = some c → c.isRd = true → c.ok F.h ρ i Hp.emp
theorem mem_down {F0 F : Fr} {ρ : List LocV} {cs : List Chunk} {w : World} (hF : Fle F0 F) (hr : RoS F0 ρ cs) (h : Mem F ρ cs w) : Mem F0 ρ cs w := by
  obtain ⟨hs, m⟩ := h
  refine ⟨hs, fun i c hc => ?_, m.dj, fun i => Hp.dj_of_le (m.djF i) (Hp.le_refl _) hF.h, m.le, ⟨by rw [m.F.os, hF.os], by rw [m.F.tape, hF.tape], by rw [m.F.out, hF.out], Hp.le_trans hF.h m.F.h⟩⟩
  cases e : c.isRd with
  | true => exact chunk_Fle (Hp.le_refl _) e (hr i c hc e)
  | false => exact chunk_F e (m.ok i c hc)
def roInB : List Chunk → List Chunk → Bool
  | _, [] => true
  | [], d :: l => !d.isRd && roInB [] l
  | .dead :: cs, d :: l => !d.isRd && roInB cs l
  | _ :: cs, _ :: l => roInB cs l
theorem roInB_spec : ∀ {cs l : List Chunk}, roInB cs l = true → ∀ (i : Nat) (d : Chunk), l[i]? = some d → d.isRd = true → ∃ c, cs[i]? = some c ∧ c ≠ .dead
  | _, [], _, i, d, h, _ => by simp at h
  | [], e :: l, hb, i, d, h, hd => by
    simp only [roInB, Bool.and_eq_true] at hb
    cases i with
    | zero => simp at h; subst h; rw [hd] at hb; simp at hb
    | succ i => obtain ⟨c, h1, h2⟩ := roInB_spec hb.2 i d (by simpa using h) hd; simp at h1
  | c :: cs, e :: l, hb, i, d, h, hd => by
    have fin : (c = .dead → e.isRd = false) → roInB cs l = true → ∃ x, (c :: cs)[i]? = some x ∧ x ≠ .dead := by
      intro h1 h2
      cases i with
      | zero =>
        simp at h; subst h
        exact ⟨c, rfl, fun e' => by rw [h1 e'] at hd; cases hd⟩
      | succ i => simpa using roInB_spec h2 i d (by simpa using h) hd
    cases c with
    | dead =>
      simp only [roInB, Bool.and_eq_true] at hb
      exact fin (fun _ => by simpa using hb.1) hb.2
    | _ => exact fin (fun e' => by cases e') (by simpa [roInB] using hb)
theorem put_get_ne {a : Act} {x : Option Nat} {v : Value} {d : Nat} (h : x ≠ some d) : (a.put x v).tmps[d]? = a.tmps[d]? := by
  cases x with
  | none => rfl
  | some e => simp only [Act.put]; rw [Array.getElem?_setIfInBounds_ne]; exact fun e' => h (by rw [e'])
theorem HidOk.put {tb : Tab} {nt : Nat} {all : List Oper} {pl : Plan} {F0 F : Fr} {a : Act} {bl : List (Nat × Nat)} (h : HidOk tb all F0 F a bl) (ha : alB tb nt all pl = true) (hin : ∀ x ∈ bl, (x.1, 3) ∈ pl) {i : Nat} {o : Oper} (ho : all[i]? = some o) (hno : ∀ b, (i, b) ∉ bl) (v : Value) : HidOk tb all F0 F (a.put o.dst v) bl := by
  refine ⟨h.le, fun x hx => ?_, h.only, h.nd⟩
  obtain ⟨h1, p, d, cells, kk, C, t', h2, h4, h5, h6, h7, h8⟩ := h.at_ x hx
  obtain ⟨p', d2, cells2, kk2, k⟩ := alB_spec ha (hin x hx)
  have e1 := k.at_
  rw [h2] at e1; cases e1
  have e2 := k.dst
  rw [h4] at e2; cases e2
  have hne : i ≠ x.1 := fun e => hno x.2 (by rw [e]; exact hx)
  exact ⟨h1, p, d, cells, kk, C, t', h2, h4, h5, by rw [put_get_ne (k.sole ho hne)]; exact h6, h7, h8⟩
/-- A maker, by the world alone. -/
theorem run_alloc {tb : Tab} {P : Program} {o : Oper} {cells : List SC} {kk : Option Nat} (hT : TabOk P tb) (hm : mkOf tb o = some (cells, kk)) (a : Act) (w : World) : ∃ vs t', (∀ ρ, SC.denL ρ cells vs) ∧ (execOp a.eval o).run P w = .ok (.value (mkVal kk w.heap.size)) (w.alloc (.cells vs.toArray t' (0, 0))) := by
  unfold mkOf at hm
  split at hm
  · rename_i t ho
    split at hm
    · rename_i ty hty
      cases hm
      obtain ⟨x1, d1, z1, k1, k2, k3, k4, k5, k6, k7⟩ := (tabB_find hT.1 hty).ex
      refine ⟨z1.cells.toList, t, fun ρ => zeroB_den k7, ?_⟩
      simp [execOp, ho, Instr.alloc, zeroValue, typeInfo, k1, k6, newVar, newRow, mkVal]
    · cases hm
  · rename_i t len parts ho
    split at hm
    · rename_i s0 b0 e z0 hty
      split at hm
      · rename_i b1 k1 z1 hte
        split at hm
        · rename_i hl hbig
          split at hm
          · rename_i cs hcs
            cases hm
            have hl := Nat.eq_of_beq_eq_true hl
            have hbig := Nat.le_of_ble_eq_true hbig
            obtain ⟨cs', hcs', hlen, hg⟩ := joinS_out (constCells_join (K := fun c => c = cells) hcs rfl)
            subst hcs'
            have hrun : ∀ ρ, ∃ vs, SC.denL ρ cs' vs ∧ (execOp a.eval { dst := o.dst, op := .buildSlice t (len + 1) parts, type := o.type, pos := o.pos, after := o.after, guard := none }).run P w = .ok (.value (.slice (some ⟨w.heap.size, 0, none⟩) (len + 1) (len + 1))) (w.alloc (.cells vs.toArray e)) := fun ρ =>
              run_bsl hT hty hte hl (by decide) (by simpa using hbig) (by rw [hlen, hl]) (fun C hC => hg (ρ := ρ) (a := a) (C := C) (fun d sv hd => by simp [find] at hd) (by rw [hl]; simpa using hC))
            obtain ⟨vs, _, hr⟩ := hrun []
            refine ⟨vs, e, fun ρ => ?_, ?_⟩
            · obtain ⟨us, h1, h2⟩ := hrun ρ
              rw [hr] at h2
              have : vs.toArray = us.toArray := by
                have h3 := congrArg (fun r => match r with | Result.ok _ w' => heapOf w' w.heap.size | _ => none) h2
                simp only [heapOf_alloc, Hp.upd_same] at h3
                simpa using h3
              have : vs = us := by simpa using this
              rw [this]; exact h1
            · have : execOp a.eval o = execOp a.eval { dst := o.dst, op := .buildSlice t (len + 1) parts, type := o.type, pos := o.pos, after := o.after, guard := none } := by
                simp only [execOp, ho]
              rw [this, hr]; rfl
          · cases hm
        · cases hm
      · cases hm
    · cases hm
  · cases hm
theorem heap_none {w : World} {h : Hp} (hh : h.le (heapOf w)) : h w.heap.size = none := by
  cases e : h w.heap.size with
  | none => rfl
  | some o => have := hh _ _ e; rw [heapOf_size] at this; cases this
theorem le_alloc {w : World} {h : Hp} (hh : h.le (heapOf w)) (o : Obj) : h.le (heapOf (w.alloc o)) := fun b x e => by
  rw [heapOf_alloc]
  have hb : b ≠ w.heap.size := fun e' => by rw [e', heap_none hh] at e; cases e
  rw [Hp.upd_ne _ _ hb]; exact hh b x e
/-- The frame with one block more. -/
def Fr.more (F : Fr) (b : Nat) (o : Obj) : Fr := ⟨F.h.upd b o, F.os, F.tape, F.out⟩
theorem fle_more {F : Fr} {b : Nat} (o : Obj) (h : F.h b = none) : Fle F (F.more b o) := ⟨fun k x e => by
  have hb : k ≠ b := fun e' => by rw [e', h] at e; cases e
  simp only [Fr.more, Hp.upd_ne _ _ hb]; exact e, rfl, rfl, rfl⟩
theorem mem_more {F : Fr} {ρ : List LocV} {cs : List Chunk} {w : World} (h : Mem F ρ cs w) (o : Obj) : Mem (F.more w.heap.size o) ρ cs (w.alloc o) := by
  obtain ⟨hs, m⟩ := h
  have hn : F.h w.heap.size = none := heap_none m.F.h
  refine ⟨hs, fun i c hc => ?_, m.dj, fun i k => ?_, fun i => le_alloc (m.le i) o, ⟨m.F.os, m.F.tape, m.F.out, fun k x e => ?_⟩⟩
  · cases e : c.isRd with
    | true => exact chunk_Fle (fle_more o hn).h e (m.ok i c hc)
    | false => exact chunk_F e (m.ok i c hc)
  · by_cases hk : k = w.heap.size
    · left; rw [hk]; exact heap_none (m.le i)
    · simp only [Fr.more, Hp.upd_ne _ _ hk]; exact m.djF i k
  · rw [heapOf_alloc]
    by_cases hk : k = w.heap.size
    · subst hk; simp only [Fr.more, Hp.upd_same] at e ⊢; exact e
    · simp only [Fr.more, Hp.upd_ne _ _ hk] at e
      rw [Hp.upd_ne _ _ hk]; exact m.F.h k x e
structure TH (X : Cx) (all : List Oper) (pl sch : Plan) (cs : List Chunk) (ks : List KI) (s : St) : Prop where
  go : Ok X → Region.noSelect all.toArray = true → lateB all.toArray pl = true → alB X.tb X.nt all pl = true → (∀ x ∈ sch, x ∈ pl) → lackB all (pendL sch) s.env = true → ∀ F0 F ρs ρ a w l0 l bl n, schB all.toArray sch l0 = true → LsOk sch bl l0 l → pendN sch l ≤ n → Fle X.F F0 → HidOk X.tb all F0 F a bl → RoS F0 ρs cs →
    X.ρ0 <+: ρs → ρs <+: ρ → cs.length ≤ ρs.length → cs.all (locCh ρs.length) = true → Sat F X.nt ρ s a w → ((∃ x ∈ sch, x.2 = 0 ∨ x.2 = 3) → Mem F ρs cs w) →
    wpAnyM X.P all.toArray (QH X ks) (fun w' => Mem F0 ρs cs w') (lateF pl) n l a w
/-- What is asked behind a step. -/
def stK (kd : Nat) (cs chs : List Chunk) (r : Plan) (K : Prop) : Prop :=
  match kd with
  | 2 => match r.all fun x => !(Nat.beq x.2 0) && !(Nat.beq x.2 3) with
    | true => K
    | false => False
  | _ => agK cs chs K
def StepOk (kd : Nat) (cs chs : List Chunk) (r : Plan) : Prop := (kd = 2 ∧ ∀ x ∈ r, x.2 ≠ 0 ∧ x.2 ≠ 3) ∨ ∀ (i : Nat) (c : Chunk), cs[i]? = some c → c = .dead ∨ chs[i]? = some c
theorem stK_out {kd : Nat} {cs chs : List Chunk} {r : Plan} {K : Prop} (h : stK kd cs chs r K) : K ∧ StepOk kd cs chs r := by
  unfold stK at h
  split at h
  · split at h
    · rename_i hr
      refine ⟨h, .inl ⟨rfl, fun x hx => ?_⟩⟩
      have := List.all_eq_true.1 hr x hx
      simp only [Bool.and_eq_true] at this
      exact ⟨fun e => by rw [e] at this; simp at this, fun e => by rw [e] at this; simp at this⟩
    · exact h.elim
  · obtain ⟨h1, h2⟩ := agK_out h
    exact ⟨h1, .inr h2⟩
theorem TH_nil {X : Cx} {all : List Oper} {pl : Plan} {cs : List Chunk} {ks : List KI} {s : St} (h : T X ks s) : TH X all pl [] cs ks s := by
  refine ⟨fun hX _ _ _ _ _ F0 F ρs ρ a w l0 l bl n hB hl hn hF hH _ h1 h2 _ _ hs _ => ?_⟩
  have hbl : bl = [] := by
    cases bl with
    | nil => rfl
    | cons x r => have := (hl.bl x (by simp)).1; cases this
  have hr : Region.ready .any all.toArray l = [] := by
    have h0 : Region.ready .any all.toArray l0 = [] := by simpa [schB] using hB
    cases e : Region.ready .any all.toArray l with
    | nil => rfl
    | cons j r =>
      have hj : j ∈ Region.ready .any all.toArray l := by rw [e]; simp
      have hj0 : j ∈ Region.ready .any all.toArray l0 := by
        refine ready_up (fun q hq => ?_) hj ?_
        · rw [getD_tf] at hq ⊢
          refine ⟨by rw [← hl.sz]; exact hq.1, (hl.dn q hq.2).elim id (fun ⟨b, hb⟩ => ?_)⟩
          rw [hbl] at hb; cases hb
        · cases e2 : l0.getD j true with
          | false => rfl
          | true => have := hl.up j e2; rw [(mem_ready.1 hj).1] at this; cases this
      rw [h0] at hj0; cases hj0
  have hq := h.go hX F ρ a w (hF.trans hH.le) (h1.trans h2) hs
  cases n with
  | zero => exact ⟨hr, hq⟩
  | succ n => exact ⟨fun _ => hq, fun j hj => (by rw [hr] at hj; cases hj)⟩
theorem TH_take {X : Cx} {all : List Oper} {pl : Plan} {i : Nat} {sch : Plan} {cs : List Chunk} {ks : List KI} {o : Oper} {env env' : List (Nat × SV)} {chs : List Chunk} (ho : all[i]? = some o) (hst : AdvQ X.tb X.nt all o (padD cs chs) env env') (hlk : lackB all (pendL sch) env' = true) (h : TH X all pl sch cs ks ⟨env', chs⟩) : TH X all pl ((i, 0) :: sch) cs ks ⟨env, chs⟩ := by
  refine ⟨fun hX hsel hlt hal hin _ F0 F ρs ρ a w l0 l bl n hB hl hn hF hH hro h1 h2 h3 h4 hs hm => ?_⟩
  have hm := hm ⟨(i, 0), by simp, .inl rfl⟩
  simp only [schB, Bool.and_eq_true] at hB
  obtain ⟨⟨⟨hfi, hr⟩, hf⟩, hB⟩ := hB
  have hr : i ∈ Region.ready .any all.toArray l0 := by simpa using hr
  have hno := ls_no (by decide) hl hfi
  have hun : l.getD i true = false := by
    cases e : l.getD i true with
    | false => rfl
    | true =>
      rcases hl.dn i e with e | ⟨b, hb⟩
      · rw [(mem_ready.1 hr).1] at e; cases e
      · exact absurd hb (hno b)
  have hrl := ready_up (fun k hk => hl.upf hk) hr hun
  have hi : all.toArray[i]? = some o := by simpa using ho
  have hpn := pendN_lt (i := i) (k := 0) (sch := (i, 0) :: sch) (by simp) hun
  have hpn2 : pendN ((i, 0) :: sch) (l.setIfInBounds i true) = pendN sch (l.setIfInBounds i true) := by simp [pendN, getD_set]
  obtain ⟨m, rfl⟩ : ∃ m, n = m + 1 := ⟨n - 1, by omega⟩
  have hse : Sat F X.nt ρ ⟨env, padD cs chs⟩ a w := ⟨hs.nd, hs.nt, by rw [hs.len]; exact (padD_length _ _).symm, hs.env, mem_pad h2 hm⟩
  have hm0 := mem_down hH.le hro hm
  have hro' : RoS F0 ρ (padD cs chs) := fun k c hc hrd => by
    rcases padD_get cs chs k c hc with rfl | hc'
    · cases hrd
    · exact chunk_ok_pre h2 (hro k c hc' hrd)
  have hse0 : Sat F0 X.nt ρ ⟨env, padD cs chs⟩ a w := ⟨hs.nd, hs.nt, by rw [hs.len]; exact (padD_length _ _).symm, hs.env, mem_pad h2 hm0⟩
  have fin : ∀ v, YieldsIf X.P all.toArray (fun w' => Mem F0 ρs cs w') o v a → Sat F0 X.nt ρ ⟨env', padD cs chs⟩ (a.put o.dst v) w → wpAnyM X.P all.toArray (QH X ks) (fun w' => Mem F0 ρs cs w') (lateF pl) (m + 1) l a w := by
    intro v hy hs'
    refine wpAnyM_first hi (Region.noSelect_spec hsel) (fun _ _ _ hq => hq.elim) (fun j hj => lateB_spec hlt (hin (i, 0) (by simp)) hj) m l a w (fun j oj hoj hji hjun hnot => Region.free_spec hi hf j oj hoj hji ?_ hnot) hrl hy hm0
      (h.go hX hsel hlt hal (fun x hx => hin x (by simp [hx])) hlk F0 F ρs ρ _ w _ _ bl m hB (hl.set hno) (by omega) hF (hH.put hal (fun x hx => hin _ (hl.bl x hx).1) ho hno v) hro h1 h2 h3 h4 ⟨hs'.nd, hs'.nt, hs.len, hs'.env, hs.mem⟩ (fun _ => hm))
    cases e : l0.getD j true with
    | false => rfl
    | true => rw [hl.up j e] at hjun; cases hjun
  rcases hst with ⟨g1, g2⟩ | ⟨g1, g2⟩
  · obtain ⟨v, hs', hr'⟩ := g2 hX.tab hse0
    exact fin v (.inl ⟨g1 hse0, fun w' hw' => hr' w' (mem_pad h2 hw')⟩) hs'
  · exact fin undef (.inr ⟨g1 hse0, rfl⟩) (g2 hse0)
/-- A variable made ahead of its time. -/
theorem hid_step {X : Cx} (hX : Ok X) {all : List Oper} {pl sch : Plan} {cs : List Chunk} {s : St} {F0 F : Fr} {ρs ρ : List LocV} {a : Act} {w : World} {l0 l : Array Bool} {bl : List (Nat × Nat)} (hal : alB X.tb X.nt all pl = true) (hin : ∀ x ∈ sch, x ∈ pl) (hlk : lackB all (pendL sch) s.env = true) (hl : LsOk sch bl l0 l)
    (hH : HidOk X.tb all F0 F a bl) (hs : Sat F X.nt ρ s a w) (hm : Mem F ρs cs w) (hro : RoS F0 ρs cs) {j : Nat} (hj : (j, 3) ∈ sch) (hun : l.getD j true = false) {Q : Exit → Act → World → Prop} {K : Act → World → Prop}
    (hK : ∀ F' a' w', LsOk sch ((j, w.heap.size) :: bl) l0 (l.setIfInBounds j true) → pendN sch (l.setIfInBounds j true) < pendN sch l → HidOk X.tb all F0 F' a' ((j, w.heap.size) :: bl) → Sat F' X.nt ρ s a' w' → Mem F' ρs cs w' → Mem F0 ρs cs w' → K a' w') : wpOp X.P all.toArray Q j K a w := by
  obtain ⟨o, d, cells, kk, k⟩ := alB_spec hal (hin _ hj)
  obtain ⟨vs, t', hz, hrun⟩ := run_alloc hX.tab k.mo a w
  have hi : all.toArray[j]? = some o := by simpa using k.at_
  unfold wpOp
  simp only [hi]
  rw [if_pos (by simp [Region.wanted, k.gd])]
  refine .inl ?_
  unfold Oper.wp
  rw [hrun]
  have hFn : F.h w.heap.size = none := heap_none (by obtain ⟨hs0, m⟩ := hm; exact m.F.h)
  have hF0n : F0.h w.heap.size = none := by
    cases e : F0.h w.heap.size with
    | none => rfl
    | some x => rw [hH.le.h _ _ e] at hFn; cases hFn
  have hbn : ∀ x ∈ bl, x.2 ≠ w.heap.size := fun x hx e => by
    obtain ⟨_, _, _, _, _, C, t2, _, _, _, _, h7, _⟩ := hH.at_ x hx
    rw [e, hFn] at h7; cases h7
  have hjn : ∀ b, (j, b) ∉ bl := fun b hb => by rw [(hl.bl _ hb).2.1] at hun; cases hun
  have hlt : d < a.tmps.size := by rw [hs.nt]; exact k.lt
  have hH1 := hH.put (nt := X.nt) hal (fun x hx => hin _ (hl.bl x hx).1) k.at_ hjn (mkVal kk w.heap.size)
  have hm1 := mem_more hm (.cells vs.toArray t' (0, 0))
  have hle := fle_more (F := F) (.cells vs.toArray t' (0, 0)) hFn
  refine hK (F.more w.heap.size (.cells vs.toArray t' (0, 0))) _ _ ⟨fun q hq => ?_, fun q hq => ?_, fun x hx => ?_, by simp [hl.sz]⟩ (pendN_lt hj hun) ⟨hH.le.trans hle, fun x hx => ?_, fun q x hq => ?_, fun x hx y hy e => ?_⟩ ?_ hm1 (mem_down (hH.le.trans hle) hro hm1)
  · rw [getD_set]; split
    · rfl
    · exact hl.up q hq
  · rw [getD_set] at hq
    split at hq
    · rename_i e; exact .inr ⟨w.heap.size, by simp [e]⟩
    · rcases hl.dn q hq with e | ⟨b, hb⟩
      · exact .inl e
      · exact .inr ⟨b, by simp [hb]⟩
  · rcases List.mem_cons.1 hx with rfl | hx
    · refine ⟨hj, by simp [getD_set], ?_⟩
      cases e : l0.getD j true with
      | false => rfl
      | true => rw [hl.up j e] at hun; cases hun
    · obtain ⟨h1, h2, h3⟩ := hl.bl x hx
      refine ⟨h1, ?_, h3⟩
      rw [getD_set]; split
      · rfl
      · exact h2
  · rcases List.mem_cons.1 hx with rfl | hx
    · refine ⟨hF0n, o, d, cells, kk, vs.toArray, t', k.at_, k.dst, k.mo, ?_, by simp [Fr.more, Hp.upd_same], fun ρ => by simpa using hz ρ⟩
      rw [k.dst]; simp [Act.put, hlt]
    · obtain ⟨h1, p, d2, cells2, kk2, C, t3, h2, h4, h5, h6, h7, h8⟩ := hH1.at_ x hx
      exact ⟨h1, p, d2, cells2, kk2, C, t3, h2, h4, h5, h6, by simp only [Fr.more, Hp.upd_ne _ _ (hbn x hx)]; exact h7, h8⟩
  · by_cases hq2 : q = w.heap.size
    · exact .inr ⟨(j, w.heap.size), by simp, hq2.symm⟩
    · simp only [Fr.more, Hp.upd_ne _ _ hq2] at hq
      rcases hH.only q x hq with e | ⟨y, hy, e⟩
      · exact .inl e
      · exact .inr ⟨y, by simp [hy], e⟩
  · rcases List.mem_cons.1 hx with rfl | hx
    · rcases List.mem_cons.1 hy with rfl | hy
      · rfl
      · exact absurd e.symm (hbn y hy)
    · rcases List.mem_cons.1 hy with rfl | hy
      · exact absurd e (hbn x hx)
      · exact hH.nd x hx y hy e
  · have hlk' : find s.env d = none := lackB_spec hlk (pendL_mem.2 hj) k.at_ k.dst
    refine ⟨by rw [put_defers]; exact hs.nd, by rw [put_size]; exact hs.nt, hs.len, fun e sv he => ?_, mem_more hs.mem _⟩
    obtain ⟨u, h1, h2⟩ := hs.env e sv he
    refine ⟨u, ?_, h2⟩
    have hne : o.dst ≠ some e := by
      rw [k.dst]; intro e'; cases e'
      rw [hlk'] at he; cases he
    rw [put_get_ne hne]; exact h1
/-- An operation carried out. -/
theorem TH_dyn {X : Cx} {all : List Oper} {pl : Plan} {i kd : Nat} {sch : Plan} {cs : List Chunk} {ks : List KI} {o : Oper} {s : St} (hkd : kd ≠ 2) (ho : all[i]? = some o)
    (h : Ok X → ∀ F ρ a w, Fle X.F F → X.ρ0 <+: ρ → Sat F X.nt ρ s a w → ∀ K : Act → World → Prop, (∀ s' ρ' v w', TH X all pl sch cs ks s' → StepOk (kd + 1) cs s'.chs sch → lackB all (pendL sch) s'.env = true → ρ <+: ρ' → Sat F X.nt ρ' s' (a.put o.dst v) w' → K (a.put o.dst v) w') →
      wpOp X.P all.toArray (QH X ks) i K a w) : TH X all pl ((i, kd + 1) :: sch) cs ks s := by
  refine ⟨fun hX hsel hlt hal hin hlk F0 F ρs ρ a w l0 l bl n hB hl hn hF hH hro h1 h2 h3 h4 hs hm => ?_⟩
  simp only [schB, Bool.and_eq_true, decide_eq_true_eq] at hB
  obtain ⟨⟨⟨hfi, hr0⟩, hr⟩, hB⟩ := hB
  have hr0 : i ∈ Region.ready .any all.toArray l0 := by simpa using hr0
  have hin' : ∀ x ∈ sch, x ∈ pl := fun x hx => hin x (by simp [hx])
  induction n generalizing F a w l bl with
  | zero =>
    exfalso
    have hno := ls_no (by omega) hl hfi
    have hun : l.getD i true = false := by
      cases e : l.getD i true with
      | false => rfl
      | true =>
        rcases hl.dn i e with e | ⟨b, hb⟩
        · rw [(mem_ready.1 hr0).1] at e; cases e
        · exact absurd hb (hno b)
    have := pendN_lt (i := i) (k := kd + 1) (sch := (i, kd + 1) :: sch) (by simp) hun
    omega
  | succ n ih =>
  have hno := ls_no (by omega) hl hfi
  have hun : l.getD i true = false := by
    cases e : l.getD i true with
    | false => rfl
    | true =>
      rcases hl.dn i e with e | ⟨b, hb⟩
      · rw [(mem_ready.1 hr0).1] at e; cases e
      · exact absurd hb (hno b)
  have hrl := ready_up (fun k hk => hl.upf hk) hr0 hun
  refine ⟨fun h0 => (by rw [h0] at hrl; cases hrl), fun j hj => ?_⟩
  rcases ready_cases hl hno hr hj with rfl | ⟨hj3, hju⟩
  · refine h hX F ρ a w (hF.trans hH.le) (h1.trans h2) hs _ (fun s' ρ' v w' hT hag hlk' hρ' hs' => ?_)
    have hpn := pendN_lt (i := j) (k := kd + 1) (sch := (j, kd + 1) :: sch) (by simp) hun
    have hpn2 : pendN ((j, kd + 1) :: sch) (l.setIfInBounds j true) = pendN sch (l.setIfInBounds j true) := by simp [pendN, getD_set]
    have hH' := hH.put (nt := X.nt) hal (fun x hx => hin _ (hl.bl x hx).1) ho hno v
    rcases hag with ⟨hk, hno'⟩ | hag
    · refine ⟨fun hl' => ?_, hT.go hX hsel hlt hal hin' hlk' F0 F ρs ρ' _ w' _ _ bl n hB (hl.set hno) (by omega) hF hH' hro h1 (h2.trans hρ') h3 h4 hs' (fun ⟨i', hi', e⟩ => e.elim (fun e => absurd e (hno' _ hi').1) (fun e => absurd e (hno' _ hi').2))⟩
      have : lateF pl j = true := List.any_eq_true.2 ⟨(j, kd + 1), hin _ (by simp), by simp [hk]⟩
      rw [this] at hl'; cases hl'
    · have hm' := mem_common (h2.trans hρ') h3 hag h4 hs'.mem
      exact ⟨fun _ => mem_down hH.le hro hm', hT.go hX hsel hlt hal hin' hlk' F0 F ρs ρ' _ w' _ _ bl n hB (hl.set hno) (by omega) hF hH' hro h1 (h2.trans hρ') h3 h4 hs' (fun _ => hm')⟩
  · have hm1 := hm ⟨(j, 3), by simp [hj3], .inr rfl⟩
    refine hid_step hX hal hin hlk hl hH hs hm1 hro (by simp [hj3]) hju (fun F' a' w' k1 k2 k3 k4 k5 k6 => ⟨fun _ => k6, ih F' a' w' _ _ k1 (by omega) k3 k4 (fun _ => k5)⟩)
theorem TH_step {X : Cx} {all : List Oper} {pl : Plan} {i kd : Nat} {sch : Plan} {cs : List Chunk} {ks : List KI} {o : Oper} {s s' : St} (hkd : kd ≠ 2) (ho : all[i]? = some o) (hst : Adv X.tb X.nt all o s s') (hag : StepOk (kd + 1) cs s'.chs sch) (hlk : lackB all (pendL sch) s'.env = true) (h : TH X all pl sch cs ks s') : TH X all pl ((i, kd + 1) :: sch) cs ks s := by
  refine TH_dyn hkd ho (fun hX F ρ a w hF hρ hs K hK => ?_)
  have hi : all.toArray[i]? = some o := by simpa using ho
  unfold wpOp
  simp only [hi]
  rcases hst with ⟨g1, g2⟩ | ⟨g1, g2⟩
  · rw [if_pos (g1 hs)]
    refine .inl ?_
    obtain ⟨ρ', w', v, k1, k2, k3⟩ := g2 hX.tab hs
    have := hK s' ρ' v w' h hag hlk k1 k2
    unfold Oper.wp
    rcases k3 with k3 | ⟨k3, rfl⟩
    · rw [k3]; exact this
    · rw [k3]; exact this
  · rw [if_neg (by rw [g1 hs]; simp)]
    exact hK s' ρ undef w h hag hlk List.prefix_rfl (g2 hs)
/-- What is made, at the latest now. -/
theorem TH_alloc {X : Cx} {all : List Oper} {pl : Plan} {i : Nat} {sch : Plan} {cs : List Chunk} {ks : List KI} {o : Oper} {env : List (Nat × SV)} {chs : List Chunk} {d : Nat} {cells : List SC} {kk : Option Nat} (ho : all[i]? = some o) (hmk : mkOf X.tb o = some (cells, kk)) (hd : o.dst = some d)
    (f : Nat → LocV) (c : Chunk) (sv : SC) (hcok : ∀ (F : Hp) (ρ : List LocV) (b : Nat) (C : Array Value) (t' : TypeId) (h : Hp), (∀ ρ, SC.denL ρ cells C.toList) → h b = some (.cells C t' (0, 0)) → c.ok F (ρ ++ [f b]) ρ.length h) (hsv : ∀ (ρ : List LocV) (b : Nat), ρ.length = chs.length → sv.den (ρ ++ [f b]) (mkVal kk b))
    (hag : ∀ (i : Nat) (c : Chunk), cs[i]? = some c → c = .dead ∨ chs[i]? = some c) (hri : roInB cs chs = true) (hlk : lackB all (pendL sch) ((d, .one sv) :: env) = true)
    (h : TH X all pl sch cs ks ⟨(d, .one sv) :: env, chs ++ [c]⟩) : TH X all pl ((i, 3) :: sch) cs ks ⟨env, chs⟩ := by
  refine ⟨fun hX hsel hlt hal hin hlk0 F0 F ρs ρ a w l0 l bl n hB hl hn hF hH hro h1 h2 h3 h4 hs hm => ?_⟩
  simp only [schB, Bool.and_eq_true, decide_eq_true_eq] at hB
  obtain ⟨⟨⟨hfi, hr0⟩, hr⟩, hB⟩ := hB
  have hr0 : i ∈ Region.ready .any all.toArray l0 := by simpa using hr0
  have hin' : ∀ x ∈ sch, x ∈ pl := fun x hx => hin x (by simp [hx])
  have hag' : ∀ (i : Nat) (c' : Chunk), cs[i]? = some c' → c' = .dead ∨ (chs ++ [c])[i]? = some c' := fun j c' hc => by
    rcases hag j c' hc with e | e
    · exact .inl e
    · exact .inr (by rw [List.getElem?_append_left (List.getElem?_eq_some_iff.1 e).1]; exact e)
  -- the variable lies there already
  have past : ∀ (F : Fr) (a : Act) (w : World) (l : Array Bool) (bl : List (Nat × Nat)) (b n : Nat), (i, b) ∈ bl → LsOk ((i, 3) :: sch) bl l0 l → pendN ((i, 3) :: sch) l ≤ n → HidOk X.tb all F0 F a bl → Sat F X.nt ρ ⟨env, chs⟩ a w → Mem F ρs cs w →
      wpAnyM X.P all.toArray (QH X ks) (fun w' => Mem F0 ρs cs w') (lateF pl) n l a w := by
    intro F a w l bl b n hb hl hn hH hs hm
    obtain ⟨g1, p, d3, cells3, kk3, C, t', g2, g4, g5, g6, g7, g8⟩ := hH.at_ _ hb
    rw [ho] at g2; cases g2
    rw [hd] at g4; cases g4
    rw [hmk] at g5; cases g5
    -- the frame without it
    let F' : Fr := ⟨fun k => if k = b then none else F.h k, F.os, F.tape, F.out⟩
    have hF'F : Hp.le F'.h F.h := fun k x e => by
      simp only [F'] at e
      split at e
      · cases e
      · exact e
    have hF0F' : Fle F0 F' := ⟨fun k x e => by
      simp only [F']
      rw [if_neg (fun e' => by rw [e', g1] at e; cases e)]
      exact hH.le.h k x e, hH.le.os, hH.le.tape, hH.le.out⟩
    have hbb : F'.h b = none := by simp [F']
    obtain ⟨hs0, m⟩ := hs.mem
    have hlen := hs.len
    have hlen : ρ.length = chs.length := hlen
    have hfr : F'.ok w := ⟨m.F.os, m.F.tape, m.F.out, Hp.le_trans hF'F m.F.h⟩
    have m' : MemH F' ρ chs w hs0 := by
      refine ⟨fun k c hc => ?_, m.dj, fun k => Hp.dj_of_le (m.djF k) (Hp.le_refl _) hF'F, m.le, hfr⟩
      cases e : c.isRd with
      | false => exact chunk_F e (m.ok k c hc)
      | true =>
        obtain ⟨c', hc', hnd⟩ := roInB_spec hri k c hc e
        rcases hag k c' hc' with e' | e'
        · exact absurd e' hnd
        · rw [hc] at e'; cases e'
          exact chunk_Fle hF0F'.h e (chunk_ok_pre h2 (hro k c hc' e))
    have m2 := memH_new m' hlen (f b) c (Hp.emp.upd b (.cells C t' (0, 0)))
      (fun k x e => by
        by_cases hk : k = b
        · subst hk; rw [Hp.upd_same] at e; cases e; exact m.F.h _ _ g7
        · rw [Hp.upd_ne _ _ hk] at e; cases e)
      (fun k q => by
        by_cases hq : q = b
        · subst hq; right
          exact (m.djF k q).elim id (fun e => by rw [g7] at e; cases e)
        · left; rw [Hp.upd_ne _ _ hq]; rfl)
      (fun q => by
        by_cases hq : q = b
        · subst hq; exact .inr hbb
        · left; rw [Hp.upd_ne _ _ hq]; rfl)
      (hcok F'.h ρ b C t' _ g8 (Hp.upd_same _ _ _))
    have hs2 : Sat F' X.nt (ρ ++ [f b]) ⟨(d, .one sv) :: env, chs ++ [c]⟩ a w := by
      refine ⟨hs.nd, hs.nt, by simp [hlen], fun e sv he => ?_, ⟨_, m2⟩⟩
      simp only [find] at he
      cases hde : Nat.beq d e with
      | true =>
        rw [hde] at he; cases he
        have := Nat.eq_of_beq_eq_true hde; subst this
        exact ⟨_, g6, hsv ρ b hlen⟩
      | false =>
        rw [hde] at he
        obtain ⟨u, k1, k2⟩ := hs.env e sv he
        exact ⟨u, k1, SV.den_mono (prefix_snoc _ _) k2⟩
    -- what is left of the made ahead
    let bl' := bl.filter fun x => !(Nat.beq x.1 i)
    have hbl' : ∀ x, x ∈ bl' ↔ x ∈ bl ∧ x.1 ≠ i := fun x => by
      simp only [bl', List.mem_filter]
      refine ⟨fun ⟨k1, k2⟩ => ⟨k1, fun e => by rw [e] at k2; simp at k2⟩, fun ⟨k1, k2⟩ => ⟨k1, ?_⟩⟩
      cases e : Nat.beq x.1 i with
      | false => rfl
      | true => exact absurd (Nat.eq_of_beq_eq_true e) k2
    have hone : ∀ x ∈ bl, x.1 = i → x.2 = b := fun x hx e => by
      obtain ⟨_, p2, d4, cells4, kk4, C2, t5, j2, j4, j5, j6, j7, j8⟩ := hH.at_ x hx
      rw [e, ho] at j2; cases j2
      rw [hd] at j4; cases j4
      rw [hmk] at j5; cases j5
      rw [g6] at j6
      cases kk with
      | none => simp [mkVal] at j6; exact j6.symm
      | some n => simp [mkVal] at j6; exact j6.symm
    have hpn := pendN_set (i := i) (sch := sch) (l := l)
    have hil := (hl.bl _ hb).2.1
    have hpe : pendN ((i, 3) :: sch) l = pendN sch l := by simp only [pendN]; rw [if_pos hil]; omega
    refine h.go hX hsel hlt hal hin' hlk F0 F' ρs _ a w (l0.setIfInBounds i true) l bl' n hB ⟨fun k hk => ?_, fun k hk => ?_, fun x hx => ?_, by simp [hl.sz]⟩ (by omega) hF ⟨hF0F', fun x hx => ?_, fun k x hk => ?_, fun x hx y hy e => ?_⟩ hro h1 (h2.trans (prefix_snoc _ _)) h3 h4 hs2 (fun _ => ?_)
    · rw [getD_set] at hk
      split at hk
      · rename_i e; rw [e]; exact hil
      · exact hl.up k hk
    · rw [getD_set]
      split
      · exact .inl rfl
      · rename_i hne
        rcases hl.dn k hk with e | ⟨b', hb'⟩
        · exact .inl e
        · exact .inr ⟨b', (hbl' _).2 ⟨hb', hne⟩⟩
    · obtain ⟨k1, k2⟩ := (hbl' x).1 hx
      obtain ⟨q1, q2, q3⟩ := hl.bl x k1
      refine ⟨?_, q2, by rw [getD_set, if_neg k2]; exact q3⟩
      rcases List.mem_cons.1 q1 with e | e
      · exact absurd (congrArg Prod.fst e) k2
      · exact e
    · obtain ⟨k1, k2⟩ := (hbl' x).1 hx
      obtain ⟨q1, p2, d4, cells4, kk4, C2, t5, j2, j4, j5, j6, j7, j8⟩ := hH.at_ x k1
      refine ⟨q1, p2, d4, cells4, kk4, C2, t5, j2, j4, j5, j6, ?_, j8⟩
      have : x.2 ≠ b := fun e => k2 (congrArg Prod.fst (hH.nd x k1 _ hb e))
      simp only [F']; rw [if_neg this]; exact j7
    · simp only [F'] at hk
      split at hk
      · cases hk
      · rename_i hkb
        rcases hH.only k x hk with e | ⟨y, hy, e⟩
        · exact .inl e
        · exact .inr ⟨y, (hbl' y).2 ⟨hy, fun e' => hkb (by rw [← e]; exact hone y hy e')⟩, e⟩
    · exact hH.nd x ((hbl' x).1 hx).1 y ((hbl' y).1 hy).1 e
    · exact mem_common (h2.trans (prefix_snoc _ _)) h3 hag' h4 hs2.mem
  have hm0 := hm ⟨(i, 3), by simp, .inr rfl⟩
  clear hm
  induction n generalizing F a w l bl with
  | zero =>
    by_cases hb : ∃ b, (i, b) ∈ bl
    · obtain ⟨b, hb⟩ := hb
      exact past F a w l bl b 0 hb hl hn hH hs hm0
    · exfalso
      have hun : l.getD i true = false := by
        cases e : l.getD i true with
        | false => rfl
        | true =>
          rcases hl.dn i e with e | hb'
          · rw [(mem_ready.1 hr0).1] at e; cases e
          · exact absurd hb' hb
      have := pendN_lt (i := i) (k := 3) (sch := (i, 3) :: sch) (by simp) hun
      omega
  | succ n ih =>
  by_cases hb : ∃ b, (i, b) ∈ bl
  · obtain ⟨b, hb⟩ := hb
    exact past F a w l bl b (n + 1) hb hl hn hH hs hm0
  have hno : ∀ b, (i, b) ∉ bl := fun b hb' => hb ⟨b, hb'⟩
  have hun : l.getD i true = false := by
    cases e : l.getD i true with
    | false => rfl
    | true =>
      rcases hl.dn i e with e | hb'
      · rw [(mem_ready.1 hr0).1] at e; cases e
      · exact absurd hb' hb
  have hrl := ready_up (fun k hk => hl.upf hk) hr0 hun
  refine ⟨fun h0 => (by rw [h0] at hrl; cases hrl), fun j hj => ?_⟩
  have hahead : (j, 3) ∈ (i, 3) :: sch → l.getD j true = false → wpOp X.P all.toArray (QH X ks) j (fun a' w' => (lateF pl j = false → Mem F0 ρs cs w') ∧ wpAnyM X.P all.toArray (QH X ks) (fun w' => Mem F0 ρs cs w') (lateF pl) n (l.setIfInBounds j true) a' w') a w := fun hj3 hju =>
    hid_step hX hal hin hlk0 hl hH hs hm0 hro hj3 hju (fun F' a' w' k1 k2 k3 k4 k5 k6 => ⟨fun _ => k6, ih F' a' w' _ _ k1 (by omega) k3 k4 k5⟩)
  rcases ready_cases hl hno hr hj with rfl | ⟨hj3, hju⟩
  · exact hahead (by simp) hun
  · exact hahead (by simp [hj3]) hju
theorem TH_call {X : Cx} {all : List Oper} {pl : Plan} {i kd : Nat} {sch : Plan} {cs : List Chunk} {ks : List KI} {env : List (Nat × SV)} {chs : List Chunk} {dst : Option Nat} {fop : Operand} {xs : List Operand} {ts : Array TypeId} {ty : TypeId} {pos : String} {after : Array Edge} {g : Option (Nat × Bool)} {f : Nat} {args : List SV} {pre : List Chunk} {Post : SV → List Chunk → Prop}
    (hkd : kd ≠ 2) (ho : all[i]? = some { dst := dst, op := .call { callee := .value fop, args := xs.toArray, argTypes := ts }, type := ty, pos := pos, after := after, guard := g })
    (sel : List (Option Nat)) (hspec : FSpec X.P f args pre Post) (hg : gdK all env g) (hin : CallIn sel env chs fop xs f args pre) {C : List (Nat × SV) → List Chunk → Prop} (hC : ∀ env chs, C env chs → TH X all pl sch cs ks ⟨env, chs⟩ ∧ StepOk (kd + 1) cs chs sch ∧ lackB all (pendL sch) env = true)
    (hout : ∀ res post, Post res post → callK X.nt sel pre env chs dst res post C) : TH X all pl ((i, kd + 1) :: sch) cs ks ⟨env, chs⟩ := by
  refine TH_dyn hkd ho (fun hX F ρ a w hF hρ hs K hK => ?_)
  have hi : all.toArray[i]? = some { dst := dst, op := .call { callee := .value fop, args := xs.toArray, argTypes := ts }, type := ty, pos := pos, after := after, guard := g } := by simpa using ho
  unfold wpOp
  simp only [hi]
  rw [if_pos (gdK_out (o := { dst := dst, op := .call { callee := .value fop, args := xs.toArray, argTypes := ts }, type := ty, pos := pos, after := after, guard := g }) hg hs)]
  refine .inl ?_
  obtain ⟨capv, hfe, hc⟩ := call_core (dst := dst) sel hspec hin hs
  unfold Oper.wp
  rw [run_callOp hspec.fn rfl hfe, Oper.upon_enter]
  refine hc.mono ?_
  rintro e w' ⟨v, res, post, rfl, hP, hk⟩
  obtain ⟨env', chs', ρ', h1, h2, h3⟩ := hk _ (hout res post hP)
  obtain ⟨k1, k2, k3⟩ := hC _ _ h1
  exact hK _ ρ' v w' k1 k2 k3 h2 h3
/-- The run of a plan. -/
def runH (tb : Tab) (nt : Nat) (all : List Oper) (cs : List Chunk) : Plan → List (Nat × SV) → List Chunk → (Plan → List (Nat × SV) → List Chunk → Prop) → Prop
  | [], env, chs, C => C [] env chs
  | (i, kd) :: r, env, chs, C => match lackB all (pendL ((i, kd) :: r)) env with
    | false => False
    | true => match all[i]? with
      | none => C ((i, kd) :: r) env chs
      | some o => match kd with
        | 0 => guardQ tb nt all o env (padD cs chs) (fun env => runH tb nt all cs r env chs C) (C ((i, 0) :: r) env chs)
        | 3 => match mkOf tb o, o.dst with
          | some (cells, none), some d => agK cs chs (match roInB cs chs with
              | true => newK chs (.box cells) (fun n chs => runH tb nt all cs r ((d, .one (.ptr n 0 0 0)) :: env) chs C) False
              | false => False)
          | _, _ => C ((i, 3) :: r) env chs
        | kd + 1 => guardK tb nt all o env chs (fun env chs => stK (kd + 1) cs chs r (runH tb nt all cs r env chs C)) (C ((i, kd + 1) :: r) env chs)
def endH (P : Program) (tb : Tab) (F : Fr) (nt n0 : Nat) (ρ0 : List LocV) (ro : List Chunk) (Q : Exit → Act → World → Prop) (all : List Oper) (pl : Plan) (cs : List Chunk) (ks : List KI) (sch : Plan) (env : List (Nat × SV)) (chs : List Chunk) : Prop :=
  match sch with
  | [] => runT tb nt 600 ks env chs (fun ks env chs => T ⟨P, tb, F, nt, n0, ρ0, ro, Q⟩ ks ⟨env, chs⟩)
  | x :: sch => TH ⟨P, tb, F, nt, n0, ρ0, ro, Q⟩ all pl (x :: sch) cs ks ⟨env, chs⟩
/-- guardK tells of one step at most. -/
theorem TH_guard {X : Cx} {all : List Oper} {pl : Plan} {i kd : Nat} {o : Oper} {sch : Plan} {cs : List Chunk} {ks : List KI} {env : List (Nat × SV)} {chs : List Chunk} {K : List (Nat × SV) → List Chunk → Prop} {Z : Prop} (hkd : kd ≠ 2) (ho : all[i]? = some o) (h : guardK X.tb X.nt all o env chs K Z) (hK : ∀ env' chs', K env' chs' → TH X all pl sch cs ks ⟨env', chs'⟩ ∧ StepOk (kd + 1) cs chs' sch ∧ lackB all (pendL sch) env' = true) (hZ : Z → TH X all pl ((i, kd + 1) :: sch) cs ks ⟨env, chs⟩) :
    TH X all pl ((i, kd + 1) :: sch) cs ks ⟨env, chs⟩ := by
  have conv0 : ∀ {d : Nat} {sv sv' : SV}, find env d = some sv → (∀ {F : Fr} {ρ : List LocV} {a : Act} {w : World}, Sat F X.nt ρ ⟨env, chs⟩ a w → Sat F X.nt ρ ⟨(d, sv') :: env, chs⟩ a w) → TH X all pl ((i, kd + 1) :: sch) cs ks ⟨(d, sv') :: env, chs⟩ → TH X all pl ((i, kd + 1) :: sch) cs ks ⟨env, chs⟩ :=
    fun hf hc h => ⟨fun hX hsel hlt hal hin hlk F0 F ρs ρ a w l0 l bl n hB hl hn hF hH hro h1 h2 h3 h4 hs hm => h.go hX hsel hlt hal hin (lackB_lit hf hlk) F0 F ρs ρ a w l0 l bl n hB hl hn hF hH hro h1 h2 h3 h4 (hc hs) hm⟩
  unfold guardK at h
  have eff : ∀ {env : List (Nat × SV)}, (∀ {F : Fr} {ρ : List LocV} {a : Act} {w : World}, Sat F X.nt ρ ⟨env, chs⟩ a w → Region.wanted o (yielded all.toArray a.tmps) = true) → effK X.tb X.nt env chs o K Z → Z ∨ TH X all pl ((i, kd + 1) :: sch) cs ks ⟨env, chs⟩ := by
    intro env hw h
    rcases effK_out h with h | ⟨e', c', h1, h2⟩
    · exact .inl h
    · obtain ⟨k1, k2, k3⟩ := hK e' c' h1
      exact .inr (TH_step hkd ho (.inl ⟨hw, h2⟩) k2 k3 k1)
  have skp : ∀ {env : List (Nat × SV)}, (∀ {F : Fr} {ρ : List LocV} {a : Act} {w : World}, Sat F X.nt ρ ⟨env, chs⟩ a w → Region.wanted o (yielded all.toArray a.tmps) = false) → putK X.nt o.dst (.tup []) env (fun env => K env chs) Z → Z ∨ TH X all pl ((i, kd + 1) :: sch) cs ks ⟨env, chs⟩ := by
    intro env hw h
    rcases sat_skip (tb := X.tb) h with h | ⟨s', h1, h2⟩
    · exact .inl h
    · obtain ⟨k1, k2, k3⟩ := hK s' chs h1
      exact .inr (TH_step hkd ho (.inr ⟨hw, h2⟩) k2 k3 k1)
  split at h
  · rename_i hg
    exact (eff (fun _ => by simp [Region.wanted, hg]) h).elim hZ id
  · rename_i j want hg
    split at h
    · rename_i oj hj
      split at h
      · rename_i d hd
        have wan : ∀ {env : List (Nat × SV)} {b : Bool}, find env d = some (.one (.lit b)) → ∀ {F : Fr} {ρ : List LocV} {a : Act} {w : World}, Sat F X.nt ρ ⟨env, chs⟩ a w → Region.wanted o (yielded all.toArray a.tmps) = (b == want) := by
          intro env b hf F ρ a w hs
          obtain ⟨v, h1, h2⟩ := hs.env d _ hf
          have h2 : v = .bool b := h2
          subst h2
          simp [Region.wanted, hg, yielded_eq hj hd h1]
        have here : ∀ {sv : SV} {r : List (Nat × SV)}, find ((d, sv) :: r) d = some sv := by intro sv r; simp [find]
        split at h
        · rename_i b hf
          split at h
          · exact (eff (fun hs => by rw [wan hf hs]; rfl) h).elim hZ id
          · exact (eff (fun hs => by rw [wan hf hs]; rfl) h).elim hZ id
          · rename_i hn1 hn2
            exact (skp (fun hs => by rw [wan hf hs]; cases b <;> cases want <;> simp_all) h).elim hZ id
        · rename_i p dp hf
          split at h
          · have conv : ∀ (b : Bool), (p ↔ b = true) → TH X all pl ((i, kd + 1) :: sch) cs ks ⟨(d, .one (.lit b)) :: env, chs⟩ → TH X all pl ((i, kd + 1) :: sch) cs ks ⟨env, chs⟩ := by
              intro b hp
              refine conv0 hf (fun hs => sat_lit hs ?_)
              obtain ⟨v, h1, h2⟩ := hs.env d _ hf
              have h2 : v = .bool (@decide p dp) := h2
              refine ⟨v, h1, ?_⟩
              rw [h2]
              congr 1
              rw [Bool.eq_iff_iff]; simpa using hp
            split at h
            · by_cases hp : p
              · exact (eff (fun hs => by rw [wan here hs]; rfl) (h.t hp)).elim hZ (conv true (by simp [hp]))
              · exact (skp (fun hs => by rw [wan here hs]; rfl) (h.f hp)).elim hZ (conv false (by simp [hp]))
            · by_cases hp : p
              · exact (skp (fun hs => by rw [wan here hs]; rfl) (h.t hp)).elim hZ (conv true (by simp [hp]))
              · exact (eff (fun hs => by rw [wan here hs]; rfl) (h.f hp)).elim hZ (conv false (by simp [hp]))
          · exact hZ h
        · rename_i c hf
          split at h
          · have conv : ∀ (b : Bool), c = b → TH X all pl ((i, kd + 1) :: sch) cs ks ⟨(d, .one (.lit b)) :: env, chs⟩ → TH X all pl ((i, kd + 1) :: sch) cs ks ⟨env, chs⟩ := by
              intro b hp
              refine conv0 hf (fun hs => sat_lit hs ?_)
              obtain ⟨v, h1, h2⟩ := hs.env d _ hf
              have h2 : v = .bool c := h2
              exact ⟨v, h1, by rw [h2, hp]⟩
            split at h
            · cases hp : c with
              | true => exact (eff (fun hs => by rw [wan here hs]; rfl) (h.t hp)).elim hZ (conv true hp)
              | false => exact (skp (fun hs => by rw [wan here hs]; rfl) (h.f hp)).elim hZ (conv false hp)
            · cases hp : c with
              | true => exact (skp (fun hs => by rw [wan here hs]; rfl) (h.t hp)).elim hZ (conv true hp)
              | false => exact (eff (fun hs => by rw [wan here hs]; rfl) (h.f hp)).elim hZ (conv false hp)
          · exact hZ h
        · rename_i hf
          refine (skp (fun {F ρ a w} hs => ?_) h).elim hZ id
          obtain ⟨v, h1, cs, h2, h3⟩ := hs.env d _ hf
          subst h2
          simp [Region.wanted, hg, yielded, hj, hd, h1]
        · exact hZ h
      · exact hZ h
    · exact hZ h
theorem agK_mp {K K' : Prop} (f : K → K') : ∀ {cs l : List Chunk}, agK cs l K → agK cs l K'
  | [], _, h => by simpa [agK] using f (by simpa [agK] using h)
  | c :: cs, [], h => by cases c <;> simp [agK] at h
  | c :: cs, d :: l, h => by
    cases c with
    | dead => simp only [agK] at h ⊢; exact agK_mp f h
    | _ => simp only [agK] at h ⊢; exact ⟨h.1, agK_mp f h.2⟩
theorem runH_lack {tb : Tab} {nt : Nat} {all : List Oper} {cs : List Chunk} {sch : Plan} {env : List (Nat × SV)} {chs : List Chunk} {C : Plan → List (Nat × SV) → List Chunk → Prop} (h : runH tb nt all cs sch env chs C) : lackB all (pendL sch) env = true := by
  cases sch with
  | nil => rfl
  | cons x r =>
    obtain ⟨i, kd⟩ := x
    unfold runH at h
    split at h
    · exact h.elim
    · assumption
theorem stK_TH {tb : Tab} {nt : Nat} {all : List Oper} {C : Plan → List (Nat × SV) → List Chunk → Prop} {kd : Nat} {cs chs : List Chunk} {env : List (Nat × SV)} {r : Plan} {K' : Prop} (f : runH tb nt all cs r env chs C → K') (h : stK kd cs chs r (runH tb nt all cs r env chs C)) : K' ∧ StepOk kd cs chs r ∧ lackB all (pendL r) env = true := ⟨f (stK_out h).1, (stK_out h).2, runH_lack (stK_out h).1⟩
theorem runH_TH {P : Program} {tb : Tab} {F : Fr} {nt n0 : Nat} {ρ0 : List LocV} {ro : List Chunk} {Q : Exit → Act → World → Prop} {all : List Oper} {pl : Plan} {cs : List Chunk} {ks : List KI} : ∀ {sch : Plan} {env : List (Nat × SV)} {chs : List Chunk}, runH tb nt all cs sch env chs (endH P tb F nt n0 ρ0 ro Q all pl cs ks) → TH ⟨P, tb, F, nt, n0, ρ0, ro, Q⟩ all pl sch cs ks ⟨env, chs⟩
  | [], env, chs, h => TH_nil (run 600 h)
  | (i, kd) :: r, env, chs, h => by
    unfold runH at h
    split at h
    · exact h.elim
    rename_i hlk0
    split at h
    · exact h
    rename_i o ho
    split at h
    · rcases guardQ_out h with h | ⟨env', h1, h2⟩
      · exact h
      · exact TH_take (X := ⟨P, tb, F, nt, n0, ρ0, ro, Q⟩) ho h2 (runH_lack h1) (runH_TH h1)
    · split at h
      · rename_i cells d hmk hd
        obtain ⟨h1, hag⟩ := agK_out h
        split at h1
        · rename_i hri
          rcases newK_out h1 with h1 | h1
          · exact h1.elim
          exact TH_alloc (X := ⟨P, tb, F, nt, n0, ρ0, ro, Q⟩) ho hmk hd (fun b => ⟨some ⟨b, 0, none⟩, 0⟩) (.box cells) (.ptr chs.length 0 0 0) (fun F ρ b C t' h hz hb => ⟨_, b, C, t', get_snoc _ _, rfl, Nat.zero_le _, hb, hz _⟩) (fun ρ b hl => ⟨_, _, by rw [← hl]; exact get_snoc _ _, rfl, by rw [add_at]; rfl⟩) hag hri (runH_lack h1) (runH_TH h1)
        · exact h1.elim
      · exact h
    · rename_i kd hk
      exact TH_guard (X := ⟨P, tb, F, nt, n0, ρ0, ro, Q⟩) (fun e => hk (by rw [e])) ho h (fun e' c' h' => stK_TH runH_TH h') id
def killL : List Nat → List Chunk → List Chunk
  | [], l => l
  | k :: r, l => killL r (l.set k .dead)
theorem killL_get : ∀ {ks : List Nat} {l : List Chunk} (i : Nat) (c : Chunk), (killL ks l)[i]? = some c → c = .dead ∨ l[i]? = some c
  | [], _, i, c, h => .inr h
  | k :: r, l, i, c, h => by
    rcases killL_get (ks := r) (l := l.set k .dead) i c h with h | h
    · exact .inl h
    · by_cases e : k = i
      · subst e
        have hlt : k < l.length := by have := (List.getElem?_eq_some_iff.1 h).1; simpa using this
        simp [List.getElem?_set, hlt] at h
        exact .inl h.symm
      · rw [List.getElem?_set_ne e] at h; exact .inr h
theorem killL_length : ∀ {ks : List Nat} {l : List Chunk}, (killL ks l).length = l.length
  | [], _ => rfl
  | k :: r, l => by simp [killL, killL_length (ks := r)]
def heldB (tb : Tab) (nt : Nat) (l : List Oper) (pl : Plan) : Bool := Region.noSelect l.toArray && Nat.beq pl.length l.toArray.size && schB l.toArray pl (Array.replicate l.toArray.size false) && lateB l.toArray pl && alB tb nt l pl
theorem pendN_le : ∀ {sch : Plan} {l : Array Bool}, pendN sch l ≤ sch.length
  | [], _ => Nat.le_refl _
  | x :: r, l => by
    have := pendN_le (sch := r) (l := l)
    simp only [pendN, List.length_cons]; split <;> omega
/-- A REGION THAT DRAWS ITS ORDER: what is read is read first (of the chunks that nobody writes but late), the rest goes in order. -/
theorem held {P : Program} {tb : Tab} {F : Fr} {nt n0 : Nat} {ρ0 : List LocV} {ro : List Chunk} {Q : Exit → Act → World → Prop} {id : Nat} {l : List Oper} {ks : List KI} {env : List (Nat × SV)} {chs : List Chunk} (mask : List Nat) (pl : Plan) (hB : heldB tb nt l pl = true) (hloc : (killL mask chs).all (locCh chs.length) = true)
    (h : runH tb nt l (killL mask chs) pl env chs (endH P tb F nt n0 ρ0 ro Q l pl (killL mask chs) ks)) : T ⟨P, tb, F, nt, n0, ρ0, ro, Q⟩ (.code (.region id l.toArray true) :: ks) ⟨env, chs⟩ := by
  refine ⟨fun hX G ρ a w hF hρ hs => ?_⟩
  simp only [heldB, Bool.and_eq_true] at hB
  obtain ⟨⟨⟨⟨hsel, hlen⟩, hB⟩, hlt⟩, hal⟩ := hB
  have hlen := Nat.eq_of_beq_eq_true hlen
  have hl := hs.len
  have hl : ρ.length = chs.length := hl
  have hm : Mem G ρ (killL mask chs) w := mem_common List.prefix_rfl (by rw [killL_length, hl]; exact Nat.le_refl _) (fun i c h => killL_get i c h) (by rw [hl]; exact hloc) hs.mem
  refine wp_mono (Q := QH ⟨P, tb, F, nt, n0, ρ0, ro, Q⟩ ks) (wp_region_any hX.tab.2 (wpAny_of_M (S := fun w' => Mem G ρ (killL mask chs) w') (late := lateF pl) _ _ _ _ ?_)) (fun e a w hq => ?_)
  · refine (runH_TH h).go hX hsel hlt hal (fun x hx => hx) (runH_lack h) G G ρ ρ a _ _ _ [] _ hB ls_nil (by rw [← hlen]; exact pendN_le) hF hid_nil (fun i c hc hrd => ?_) hρ List.prefix_rfl (by rw [killL_length, hl]; exact Nat.le_refl _) (by rw [hl]; exact hloc) (sat_mem (w' := { w with drawn := w.drawn + 1 }) hs (mem_world hs.mem rfl rfl rfl rfl)) (fun _ => mem_world hm rfl rfl rfl rfl)
    obtain ⟨hs0, m⟩ := hm
    exact chunk_Fle (Hp.le_refl _) hrd (m.ok i c hc)
  · cases e <;> first | exact hq | exact hq.elim
/-- .. a call in it. -/
theorem callH {P : Program} {tb : Tab} {F : Fr} {nt n0 : Nat} {ρ0 : List LocV} {ro : List Chunk} {Q : Exit → Act → World → Prop} {all : List Oper} {pl : Plan} {i kd : Nat} {sch : Plan} {cs : List Chunk} {ks : List KI} {env : List (Nat × SV)} {chs : List Chunk} {dst : Option Nat} {fop : Operand} {xs : List Operand} {ts : Array TypeId} {ty : TypeId} {pos : String} {after : Array Edge} {g : Option (Nat × Bool)} {f : Nat} {args : List SV} {pre : List Chunk} {Post : SV → List Chunk → Prop}
    (sel : List (Option Nat)) (hspec : FSpec P f args pre Post) (hkd : kd ≠ 2) (ho : all[i]? = some { dst := dst, op := .call { callee := .value fop, args := xs.toArray, argTypes := ts }, type := ty, pos := pos, after := after, guard := g })
    (hg : gdK all env g) (hin : CallIn sel env chs fop xs f args pre)
    (hout : ∀ res post, Post res post → callK nt sel pre env chs dst res post (fun env chs => stK (kd + 1) cs chs sch (runH tb nt all cs sch env chs (endH P tb F nt n0 ρ0 ro Q all pl cs ks)))) : TH ⟨P, tb, F, nt, n0, ρ0, ro, Q⟩ all pl ((i, kd + 1) :: sch) cs ks ⟨env, chs⟩ :=
  TH_call (X := ⟨P, tb, F, nt, n0, ρ0, ro, Q⟩) hkd ho sel hspec hg hin (fun env chs h => stK_TH runH_TH h) hout
/-- .. one step of the kinds that need a word. -/
theorem stepH {P : Program} {tb : Tab} {F : Fr} {nt n0 : Nat} {ρ0 : List LocV} {ro : List Chunk} {Q : Exit → Act → World → Prop} {all : List Oper} {pl : Plan} {i kd : Nat} {o : Oper} {sch : Plan} {cs : List Chunk} {ks : List KI} {env env' : List (Nat × SV)} {chs chs' : List Chunk}
    (hkd : kd ≠ 2) (ho : all[i]? = some o) (hg : gdK all env o.guard) (hst : StepTo tb nt o ⟨env, chs⟩ ⟨env', chs'⟩) (h : stK (kd + 1) cs chs' sch (runH tb nt all cs sch env' chs' (endH P tb F nt n0 ρ0 ro Q all pl cs ks))) : TH ⟨P, tb, F, nt, n0, ρ0, ro, Q⟩ all pl ((i, kd + 1) :: sch) cs ks ⟨env, chs⟩ := by
  obtain ⟨k1, k2, k3⟩ := stK_TH runH_TH h
  exact TH_step (X := ⟨P, tb, F, nt, n0, ρ0, ro, Q⟩) hkd ho (.inl ⟨fun hs => gdK_out hg hs, hst⟩) k2 k3 k1
/-! ### 34. a cell that is told no more -/
theorem denL_val {ρ : List LocV} : ∀ {vs : List SC} {cs : List Value} (j : Nat), SC.denL ρ vs cs → ∃ v : Value, SC.denL ρ (vs.set j (.val v)) cs
  | [], _, j, e => ⟨undef, by simpa using e⟩
  | c :: r, _, 0, ⟨v, q, e1, e2, e3⟩ => ⟨v, ⟨v, q, e1, ⟨rfl, SC.den_one e2⟩, e3⟩⟩
  | c :: r, _, j + 1, ⟨v, q, e1, e2, e3⟩ => by
    obtain ⟨u, hu⟩ := denL_val j e3
    exact ⟨u, v, q, e1, e2, hu⟩
/-- A cell of an open element is from here on only known to hold some value. -/
theorem ghost {P : Program} {tb : Tab} {F : Fr} {nt n0 : Nat} {ρ0 : List LocV} {ro : List Chunk} {Q : Exit → Act → World → Prop} {ks : List KI} {env : List (Nat × SV)} {chs : List Chunk} {α : Type} {sz : Nat} {enc : α → List D} {xs : List α} {i : Nat} {vs : List SC} (k j : Nat) (hk : chs[k]? = some (.opn true sz enc xs i vs))
    (h : ∀ v : Value, setK (.opn true sz enc xs i (vs.set j (.val v))) k chs (fun chs => runT tb nt 600 ks env chs (fun ks env chs => T ⟨P, tb, F, nt, n0, ρ0, ro, Q⟩ ks ⟨env, chs⟩))) : T ⟨P, tb, F, nt, n0, ρ0, ro, Q⟩ ks ⟨env, chs⟩ := by
  refine ⟨fun hX G ρ a w hF hρ hs => ?_⟩
  obtain ⟨hs0, m⟩ := hs.mem
  obtain ⟨x, cs, e1, e2, e3⟩ := m.ok k _ hk
  obtain ⟨v, hv⟩ := denL_val j e2
  have h := h v
  rw [setK_eq] at h
  exact (run (P := P) (tb := tb) (F := F) (n0 := n0) (ρ0 := ρ0) (ro := ro) (Q := Q) 600 h).go hX G ρ a w hF hρ ⟨hs.nd, hs.nt, by simpa using hs.len, hs.env, ⟨_, memH_set m k (.opn true sz enc xs i (vs.set j (.val v))) (hs0 k) (m.le k) (fun j hj => m.dj k j (Ne.symm hj)) (m.djF k) ⟨x, cs, e1, hv, e3⟩⟩⟩
/-! ### 35. appends and the like as steps of a drawn region -/
theorem blitH {P : Program} {tb : Tab} {F : Fr} {nt n0 : Nat} {ρ0 : List LocV} {ro : List Chunk} {Q : Exit → Act → World → Prop} {all : List Oper} {pl : Plan} {i kd : Nat} {sch : Plan} {cs : List Chunk} {ks : List KI} {env : List (Nat × SV)} {chs : List Chunk} {d : Option Nat} {t len : Nat} {parts : Array (Nat × Operand)} {ty : TypeId} {pos : String} {after : Array Edge}
    (hz : zszB tb = true) (hkd : kd ≠ 2) (ho : all[i]? = some { dst := d, op := .buildSlice t len parts, type := ty, pos := pos, after := after, guard := none })
    (h : bslK tb nt env chs t len parts.toList d (fun env chs => stK (kd + 1) cs chs sch (runH tb nt all cs sch env chs (endH P tb F nt n0 ρ0 ro Q all pl cs ks)))) : TH ⟨P, tb, F, nt, n0, ρ0, ro, Q⟩ all pl ((i, kd + 1) :: sch) cs ks ⟨env, chs⟩ := by
  obtain ⟨env', chs', h1, h2⟩ := bslK_step (ty := ty) (pos := pos) (after := after) hz h
  exact stepH hkd ho trivial h2 h1
theorem append1H {P : Program} {tb : Tab} {F : Fr} {nt n0 : Nat} {ρ0 : List LocV} {ro : List Chunk} {Q : Exit → Act → World → Prop} {all : List Oper} {pl : Plan} {i kd : Nat} {sch : Plan} {cs : List Chunk} {ks : List KI} {env : List (Nat × SV)} {chs : List Chunk} {d : Nat} {oa ob : Operand} {t t' : Nat} {ty : TypeId} {pos : String} {after : Array Edge}
    (hz : zszB tb = true) {α : Type} (sz : Nat) (enc : α → List D) (xs : List α) (x : α) (hkd : kd ≠ 2) (ho : all[i]? = some { dst := some d, op := .call { callee := .builtin .append, args := #[oa, ob], argTypes := #[t, t'] }, type := ty, pos := pos, after := after, guard := none })
    (h : ap1K tb nt env chs oa ob t t' d sz enc xs x (fun env chs => stK (kd + 1) cs chs sch (runH tb nt all cs sch env chs (endH P tb F nt n0 ρ0 ro Q all pl cs ks)))) : TH ⟨P, tb, F, nt, n0, ρ0, ro, Q⟩ all pl ((i, kd + 1) :: sch) cs ks ⟨env, chs⟩ := by
  obtain ⟨env', chs', h1, h2⟩ := ap1K_step (ty := ty) (pos := pos) (after := after) hz h
  exact stepH hkd ho trivial h2 h1
theorem appendNH {P : Program} {tb : Tab} {F : Fr} {nt n0 : Nat} {ρ0 : List LocV} {ro : List Chunk} {Q : Exit → Act → World → Prop} {all : List Oper} {pl : Plan} {i kd : Nat} {sch : Plan} {cs : List Chunk} {ks : List KI} {env : List (Nat × SV)} {chs : List Chunk} {d : Nat} {oa ob : Operand} {t t' : Nat} {ty : TypeId} {pos : String} {after : Array Edge}
    (hz : zszB tb = true) {α : Type} (sz : Nat) (enc : α → List D) (hflat : Flat sz enc) (xs ys : List α) (hkd : kd ≠ 2) (ho : all[i]? = some { dst := some d, op := .call { callee := .builtin .append, args := #[oa, ob], argTypes := #[t, t'] }, type := ty, pos := pos, after := after, guard := none })
    (h : apNK tb nt env chs oa ob t t' d sz enc xs ys (fun env chs => stK (kd + 1) cs chs sch (runH tb nt all cs sch env chs (endH P tb F nt n0 ρ0 ro Q all pl cs ks)))) : TH ⟨P, tb, F, nt, n0, ρ0, ro, Q⟩ all pl ((i, kd + 1) :: sch) cs ks ⟨env, chs⟩ := by
  obtain ⟨env', chs', h1, h2⟩ := apNK_step (ty := ty) (pos := pos) (after := after) hz hflat h
  exact stepH hkd ho trivial h2 h1
theorem cutOwnH {P : Program} {tb : Tab} {F : Fr} {nt n0 : Nat} {ρ0 : List LocV} {ro : List Chunk} {Q : Exit → Act → World → Prop} {all : List Oper} {pl : Plan} {i kd : Nat} {sch : Plan} {cs : List Chunk} {ks : List KI} {env : List (Nat × SV)} {chs : List Chunk} {d t : Nat} {ox lo : Operand} {ty : TypeId} {pos : String} {after : Array Edge}
    (hkd : kd ≠ 2) (ho : all[i]? = some { dst := some d, op := .slice t ox (some lo) none none, type := ty, pos := pos, after := after, guard := none })
    (h : cutK tb nt env chs t d ox lo (fun env chs => stK (kd + 1) cs chs sch (runH tb nt all cs sch env chs (endH P tb F nt n0 ρ0 ro Q all pl cs ks)))) : TH ⟨P, tb, F, nt, n0, ρ0, ro, Q⟩ all pl ((i, kd + 1) :: sch) cs ks ⟨env, chs⟩ := by
  obtain ⟨env', chs', h1, h2⟩ := cutK_step (ty := ty) (pos := pos) (after := after) h
  exact stepH hkd ho trivial h2 h1
end Go.Proofs.Ythdbhlpceodhlaa.Sx
