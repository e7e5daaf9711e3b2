/- A part of the framework that the proofs of this seat stand on: a separation logic over the model's walks, with a runner that Lean evaluates. It is proved here, without conditions of its own. -/
import Derived.Test.YthdbhlpceodhlaaSxS
set_option linter.unusedVariables false
set_option linter.unusedSimpArgs false
namespace Go.Proofs.Ythdbhlpceodhlaa.Sx
open Go

/-! ### 36. a literal of a slice, told as a row -/
theorem ownL_split {h : Hp} : ∀ {a b : List D} {vs : List Value}, D.ownL h (a ++ b) vs → ∃ h1 h2, h1.le h ∧ h2.le h ∧ h1.dj h2 ∧ D.ownL h1 a (vs.take a.length) ∧ D.ownL h2 b (vs.drop a.length)
  | [], b, vs, e => ⟨Hp.emp, h, Hp.emp_le _, Hp.le_refl _, Hp.emp_dj _, rfl, e⟩
  | d :: a, b, vs, e => by
    obtain ⟨v, r, g1, g2, rfl, e2, e3, e4, e5, e6⟩ := e
    obtain ⟨k1, k2, q1, q2, q3, q4, q5⟩ := ownL_split (a := a) e6
    have hd : g1.dj k1 := Hp.dj_of_le e4 (Hp.le_refl _) q1
    have hd2 : g1.dj k2 := Hp.dj_of_le e4 (Hp.le_refl _) q2
    exact ⟨g1.un k1, k2, Hp.un_le e2 (Hp.le_trans q1 e3), Hp.le_trans q2 e3, Hp.dj_symm (Hp.dj_un (Hp.dj_symm hd2) (Hp.dj_symm q3)), ⟨v, _, g1, k1, rfl, Hp.le_un_l _ _, Hp.le_un_r hd, hd, e5, q4⟩, q5⟩
theorem ownL_rows {α : Type} {sz : Nat} {enc : α → List D} (hl : ∀ y, (enc y).length = sz) : ∀ {xs : List α} {h : Hp} {vs : List Value}, D.ownL h (xs.flatMap enc) vs → ∃ hs : Nat → Hp, (∀ i, (hs i).le h) ∧ (∀ i j, i ≠ j → (hs i).dj (hs j)) ∧ ∀ j x, xs[j]? = some x → D.ownL (hs j) (enc x) ((vs.drop (j * sz)).take sz)
  | [], h, vs, _ => ⟨fun _ => Hp.emp, fun _ => Hp.emp_le _, fun _ _ _ => Hp.emp_dj _, fun j x e => by simp at e⟩
  | y :: r, h, vs, e => by
    obtain ⟨h1, h2, q1, q2, q3, q4, q5⟩ := ownL_split (a := enc y) (b := r.flatMap enc) (by simpa using e)
    obtain ⟨hs, k1, k2, k3⟩ := ownL_rows hl q5
    refine ⟨fun i => match i with | 0 => h1 | i + 1 => hs i, fun i => ?_, fun i j hij => ?_, fun j x hx => ?_⟩
    · cases i with
      | zero => exact q1
      | succ i => exact Hp.le_trans (k1 i) q2
    · cases i with
      | zero => cases j with
        | zero => exact absurd rfl hij
        | succ j => exact Hp.dj_of_le q3 (Hp.le_refl _) (k1 j)
      | succ i => cases j with
        | zero => exact Hp.dj_symm (Hp.dj_of_le q3 (Hp.le_refl _) (k1 i))
        | succ j => exact k2 i j (fun e => hij (by rw [e]))
    · cases j with
      | zero => simp at hx; subst hx; simpa [hl] using q4
      | succ j =>
        have := k3 j x (by simpa using hx)
        rw [hl, List.drop_drop] at this
        rw [show (j + 1) * sz = sz + j * sz by rw [Nat.add_mul]; omega]
        exact this
theorem memH_alloc {F : Fr} {ρ : List LocV} {chs : List Chunk} {w : World} {hs : Nat → Hp} (m : MemH F ρ chs w hs) (o : Obj) : MemH F ρ chs (w.alloc o) hs :=
  ⟨m.ok, m.dj, m.djF, fun i => le_alloc (m.le i) o, ⟨m.F.os, m.F.tape, m.F.out, le_alloc m.F.h o⟩⟩
def bslRK (tb : Tab) (nt : Nat) (env : List (Nat × SV)) (chs : List Chunk) (t len : Nat) (parts : List (Nat × Operand)) (d : Option Nat) {α : Type} (enc : α → List D) (xs : List α) (C : List (Nat × SV) → List Chunk → Prop) : Prop :=
  match tfind tb t with
  | some ⟨_, _, .slice e, _⟩ => match tfind tb e with
    | some ⟨sz, _, _, _⟩ => match Nat.beq parts.length len, Nat.blt 0 sz, Nat.ble (len * sz) 16777216 with
      | true, true, true => match len with
        | 0 => False
        | _ + 1 => joinS env sz 0 parts (fun cells => absK chs (xs.flatMap enc) cells (fun chs => newK chs (.row true sz enc xs) (fun n chs => putK nt d (.one (.slc n xs.length)) env (fun env => C env chs) False) False))
      | _, _, _ => False
    | none => False
  | _ => False
theorem flatMap_len {α : Type} {sz : Nat} {enc : α → List D} (hl : ∀ y, (enc y).length = sz) : ∀ xs : List α, (xs.flatMap enc).length = xs.length * sz
  | [] => by simp
  | y :: r => by rw [List.flatMap_cons, List.length_append, hl, flatMap_len hl r, List.length_cons, Nat.add_mul]; omega
def slSz (tb : Tab) (t sz : Nat) : Bool := match tfind tb t with
  | some ⟨_, _, .slice e, _⟩ => match tfind tb e with
    | some ⟨s, _, _, _⟩ => Nat.beq s sz
    | none => false
  | _ => false
theorem slSz_spec {tb : Tab} {t sz : Nat} (h : slSz tb t sz = true) : ∃ e s0 b0 z0 b1 k1 z1, tfind tb t = some ⟨s0, b0, .slice e, z0⟩ ∧ tfind tb e = some ⟨sz, b1, k1, z1⟩ := by
  unfold slSz at h
  split at h
  · rename_i s0 b0 e z0 h1
    split at h
    · rename_i s b1 k1 z1 h2
      have := Nat.eq_of_beq_eq_true h
      subst this
      exact ⟨e, s0, b0, z0, b1, k1, z1, h1, h2⟩
    · cases h
  · cases h
theorem bslRK_step {tb : Tab} {nt : Nat} {env : List (Nat × SV)} {chs : List Chunk} {t len : Nat} {parts : Array (Nat × Operand)} {d : Option Nat} {ty : TypeId} {pos : String} {after : Array Edge} {C : List (Nat × SV) → List Chunk → Prop} {α : Type} {sz0 : Nat} {enc : α → List D} {xs : List α} (hle : ∀ y, (enc y).length = sz0) (hsz0 : ∃ e s0 b0 z0 b1 k1 z1, tfind tb t = some ⟨s0, b0, .slice e, z0⟩ ∧ tfind tb e = some ⟨sz0, b1, k1, z1⟩)
    (h : bslRK tb nt env chs t len parts.toList d enc xs C) : ∃ env' chs', C env' chs' ∧ StepTo tb nt { dst := d, op := .buildSlice t len parts, type := ty, pos := pos, after := after, guard := none } ⟨env, chs⟩ ⟨env', chs'⟩ := by
  unfold bslRK at h
  split at h
  · rename_i s0 b0 e z0 hty
    split at h
    · rename_i sz bytes kd zero hte
      split at h
      · rename_i hl hsz hbig
        have hl := Nat.eq_of_beq_eq_true hl
        have hsz : 0 < sz := by simpa [Nat.blt_eq] using hsz
        have hbig := Nat.le_of_ble_eq_true hbig
        have hss : sz0 = sz := by
          obtain ⟨e', s', b', z', b1, k1, z1, h1, h2⟩ := hsz0
          rw [hty] at h1; cases h1
          rw [hte] at h2; cases h2; rfl
        subst hss
        split at h
        · exact h.elim
        · rename_i len hbb hba
          obtain ⟨cells, h1, hcl, h2⟩ := joinS_out h
          obtain ⟨chs1, h1, hlen1, hsame, htook⟩ := absK_out h1
          rcases newK_out h1 with h | j1
          · exact h.elim
          rcases putK_out j1 with h | ⟨env', j1, hput⟩
          · exact h.elim
          refine ⟨env', _, j1, ?_⟩
          intro P F ρ a w ht hs
          have hln := hs.len
          simp at hln
          obtain ⟨hs0, m⟩ := hs.mem
          obtain ⟨vs, g1, hrun⟩ := run_bsl (d := d) (ty := ty) (pos := pos) (after := after) (w := w) (a := a) ht hty hte hl hsz hbig (by rw [hcl, hl]) (fun C hC => h2 (ρ := ρ) (a := a) (C := C) hs.env (by rw [hl]; simpa using hC))
          have hvl := SC.denL_length g1
          obtain ⟨h0, hs', m', q2, q3, q4, q5, q6, q7⟩ := (htook m g1).ex
          have hxl : xs.length = len + 1 := by
            have h3 := D.rdL_length _ _ (D.ownL_rdL _ _ q2)
            rw [flatMap_len hle, hvl, hcl, hl] at h3
            exact (Nat.eq_of_mul_eq_mul_right hsz h3).symm
          obtain ⟨hh, r1, r2, r3⟩ := ownL_rows hle q2
          have hln1 : ρ.length = chs1.length := by rw [hlen1]; exact hln
          have hb : h0 w.heap.size = none := heap_none q3
          have hFb : F.h w.heap.size = none := heap_none m.F.h
          have m2 := memH_new (memH_alloc m' (.cells vs.toArray e (0, 0))) hln1 ⟨some ⟨w.heap.size, 0, none⟩, len + 1⟩ (.row true sz0 enc xs) (h0.upd w.heap.size (.cells vs.toArray e (0, 0)))
            (fun k x hk => by
              rw [heapOf_alloc]
              by_cases hkb : k = w.heap.size
              · subst hkb; rw [Hp.upd_same] at hk ⊢; exact hk
              · rw [Hp.upd_ne _ _ hkb] at hk ⊢; exact q3 k x hk)
            (fun i k => by
              by_cases hkb : k = w.heap.size
              · subst hkb; right; exact heap_none (m'.le i)
              · rw [Hp.upd_ne _ _ hkb]; exact q4 i k)
            (fun k => by
              by_cases hkb : k = w.heap.size
              · subst hkb; right; exact hFb
              · rw [Hp.upd_ne _ _ hkb]; exact q5 k)
            ⟨_, get_snoc _ _, by rw [hxl]; exact Nat.le_refl _, by rw [hxl]; have : len + 1 ≤ (len + 1) * sz0 := Nat.le_mul_of_pos_right _ hsz; have h9 : (len + 1) * sz0 ≤ 16777216 := hbig; unfold maxL; omega, hsz, .inr ⟨w.heap.size, 0, vs.toArray, e, hh, rfl, Hp.upd_same _ _ _, by simp [hvl, hcl, hl], fun i k x hk => by
              have hkb : k ≠ w.heap.size := fun e => by rw [e] at hk; rw [r1 i _ _ hk] at hb; cases hb
              rw [Hp.upd_ne _ _ hkb]; exact r1 i k x hk, fun i => (by
              cases e1 : hh i w.heap.size with
              | none => rfl
              | some x => rw [r1 i _ _ e1] at hb; cases hb), r2, fun j x hx => by simpa [cut] using r3 j x hx⟩⟩
          have hs2 : Sat F nt (ρ ++ [⟨some ⟨w.heap.size, 0, none⟩, len + 1⟩]) ⟨env, chs1 ++ [.row true sz0 enc xs]⟩ a (w.alloc (.cells vs.toArray e (0, 0))) :=
            ⟨hs.nd, hs.nt, by simp [hln1], envOk_mono (prefix_snoc _ _) hs.env, ⟨_, m2⟩⟩
          exact ⟨_, _, _, prefix_snoc _ _, hput hs2 ⟨_, by rw [← hln1]; exact get_snoc _ _, by rw [hxl]⟩, .inl hrun⟩
      · exact h.elim
    · exact h.elim
  · exact h.elim
/-- A LITERAL OF A SLICE, told as a row. -/
theorem blitR {P : Program} {tb : Tab} {F : Fr} {nt n0 : Nat} {ρ0 : List LocV} {ro : List Chunk} {Q : Exit → Act → World → Prop} {all rest : List Oper} {ks : List KI} {env : List (Nat × SV)} {chs : List Chunk} {d : Option Nat} {t len : Nat} {parts : Array (Nat × Operand)} {ty : TypeId} {pos : String} {after : Array Edge}
    {α : Type} (sz : Nat) (enc : α → List D) (xs : List α) (hle : ∀ y, (enc y).length = sz) (hsz : slSz tb t sz = true)
    (h : bslRK tb nt env chs t len parts.toList d enc xs (fun env chs => runT tb nt 600 (.ops all rest :: ks) env chs (fun ks env chs => T ⟨P, tb, F, nt, n0, ρ0, ro, Q⟩ ks ⟨env, chs⟩))) :
    T ⟨P, tb, F, nt, n0, ρ0, ro, Q⟩ (.ops all ({ dst := d, op := .buildSlice t len parts, type := ty, pos := pos, after := after, guard := none } :: rest) :: ks) ⟨env, chs⟩ := by
  obtain ⟨env', chs', h1, h2⟩ := bslRK_step (ty := ty) (pos := pos) (after := after) hle (slSz_spec hsz) h
  exact step_T rfl h2 (run 600 h1)
theorem blitRH {P : Program} {tb : Tab} {F : Fr} {nt n0 : Nat} {ρ0 : List LocV} {ro : List Chunk} {Q : Exit → Act → World → Prop} {all : List Oper} {pl : Plan} {i kd : Nat} {sch : Plan} {cs : List Chunk} {ks : List KI} {env : List (Nat × SV)} {chs : List Chunk} {d : Option Nat} {t len : Nat} {parts : Array (Nat × Operand)} {ty : TypeId} {pos : String} {after : Array Edge}
    {α : Type} (sz : Nat) (enc : α → List D) (xs : List α) (hle : ∀ y, (enc y).length = sz) (hsz : slSz tb t sz = true) (hkd : kd ≠ 2) (ho : all[i]? = some { dst := d, op := .buildSlice t len parts, type := ty, pos := pos, after := after, guard := none })
    (h : bslRK tb nt env chs t len parts.toList d enc xs (fun env chs => stK (kd + 1) cs chs sch (runH tb nt all cs sch env chs (endH P tb F nt n0 ρ0 ro Q all pl cs ks)))) : TH ⟨P, tb, F, nt, n0, ρ0, ro, Q⟩ all pl ((i, kd + 1) :: sch) cs ks ⟨env, chs⟩ := by
  obtain ⟨env', chs', h1, h2⟩ := bslRK_step (ty := ty) (pos := pos) (after := after) hle (slSz_spec hsz) h
  exact stepH hkd ho trivial h2 h1
/-- .. made at the latest now, in a drawn region. -/
theorem makeRH {P : Program} {tb : Tab} {F : Fr} {nt n0 : Nat} {ρ0 : List LocV} {ro : List Chunk} {Q : Exit → Act → World → Prop} {all : List Oper} {pl : Plan} {i : Nat} {sch : Plan} {cs : List Chunk} {ks : List KI} {env : List (Nat × SV)} {chs : List Chunk} {o : Oper} {cells : List SC} {n d : Nat}
    {α : Type} (enc : α → List D) (xs : List α) (hle : ∀ y, (enc y).length = 1) (ho : all[i]? = some o) (hmk : mkOf tb o = some (cells, some n)) (hd : o.dst = some d) (hn : xs.length = n) (hc : cells.length = n)
    (h : toDK cells (fun ds => xs.flatMap enc = ds ∧ agK cs chs (match roInB cs chs with
      | true => newK chs (.row true 1 enc xs) (fun n chs => runH tb nt all cs sch ((d, .one (.slc n xs.length)) :: env) chs (endH P tb F nt n0 ρ0 ro Q all pl cs ks)) False
      | false => False)) False) : TH ⟨P, tb, F, nt, n0, ρ0, ro, Q⟩ all pl ((i, 3) :: sch) cs ks ⟨env, chs⟩ := by
  rcases toDK_out h with h | ⟨ds, ⟨rfl, h⟩, hden⟩
  · exact h.elim
  obtain ⟨h1, hag⟩ := agK_out h
  split at h1
  · rename_i hri
    rcases newK_out h1 with h1 | h1
    · exact h1.elim
    have hbig : n ≤ 16777216 := by
      unfold mkOf at hmk
      split at hmk
      · split at hmk <;> cases hmk
      · split at hmk
        · split at hmk
          · split at hmk
            · rename_i h2
              have h2 := Nat.le_of_ble_eq_true h2
              split at hmk <;> cases hmk
              exact h2
            · cases hmk
          · cases hmk
        · cases hmk
      · cases hmk
    refine TH_alloc (X := ⟨P, tb, F, nt, n0, ρ0, ro, Q⟩) ho hmk hd (fun b => ⟨some ⟨b, 0, none⟩, n⟩) (.row true 1 enc xs) (.slc chs.length xs.length) (fun F ρ b C t' h hz hb => ?_) (fun ρ b hl => ⟨_, by rw [← hl]; exact get_snoc _ _, by rw [hn]; rfl⟩) hag hri (runH_lack h1) (runH_TH h1)
    have hC : C.toList.length = cells.length := SC.denL_length (hz [])
    have hC : C.size = n := by rw [← hc, ← hC]; simp
    obtain ⟨hh, r1, r2, r3⟩ := ownL_rows (h := Hp.emp) hle (hden (h := Hp.emp) (hz []))
    refine ⟨_, get_snoc _ _, by rw [hn]; exact Nat.le_refl _, by rw [hn]; unfold maxL; omega, by decide, .inr ⟨b, 0, C, t', fun _ => Hp.emp, rfl, hb, by show 0 + n * 1 ≤ C.size; omega, fun i => Hp.emp_le _, fun i => rfl, fun i j _ => Hp.emp_dj _, fun j x hx => ?_⟩⟩
    have := r3 j x hx
    have he : hh j = Hp.emp := by
      funext k
      cases e : hh j k with
      | none => rfl
      | some y => have := r1 j k y e; cases this
    rw [he] at this
    simpa [cut] using this
  · exact h1.elim
/-! ### 37. a cut: what is left is done from a state told anew -/
theorem oper_mono2 {P : Program} {o : Oper} {a : Act} {w : World} {K K' : Act → World → Prop} {Q Q' : Exit → Act → World → Prop} (h : ∀ a w, K a w → K' a w) (hq : ∀ e a w, Q e a w → Q' e a w) (hh : o.wp P a w K Q) : o.wp P a w K' Q' := by
  unfold Oper.wp at *
  generalize (execOp a.eval o).run P w = r at *
  cases r with
  | ok n w' =>
    cases n <;> simp only [Oper.upon] at hh ⊢ <;>
      first
        | exact h _ _ hh
        | exact Calls.mono hh (fun e w'' he => by cases e <;> first | exact h _ _ he | exact hq _ _ _ he | exact (let ⟨a, w, k⟩ := he; ⟨a, w, hq _ _ _ k⟩))
        | exact Rows.mono hh (fun _ _ he => h _ _ he)
        | exact hq _ _ _ hh
  | halt x w' => cases x <;> simp only [Oper.upon] at hh ⊢ <;> first | exact hq _ _ _ hh | exact hh
theorem wpList_mono2 {P : Program} {ops : Array Oper} {Q Q' : Exit → Act → World → Prop} (hq : ∀ e a w, Q e a w → Q' e a w) : ∀ {l : List Oper} {a : Act} {w : World}, wpList P ops Q l a w → wpList P ops Q' l a w
  | [], _, _, h => hq _ _ _ h
  | o :: r, a, w, h => by
    unfold wpList at h ⊢
    split
    · rename_i hw
      rw [if_pos hw] at h
      rcases h with h | ⟨h1, a2, w2, h2⟩
      · exact .inl (oper_mono2 (fun a w => wpList_mono2 hq) hq h)
      · exact .inr ⟨h1, a2, w2, hq _ _ _ h2⟩
    · rename_i hw
      rw [if_neg hw] at h
      exact wpList_mono2 hq h
theorem inBlock_mono2 {id : Nat} {Q Q' : Exit → Act → World → Prop} (hq : ∀ e a w, Q e a w → Q' e a w) {e : Exit} {a : Act} {w : World} (h : Exit.inBlock id Q e a w) : Exit.inBlock id Q' e a w := by
  cases e <;> simp only [Exit.inBlock] at h ⊢ <;> first | exact hq _ _ _ h | (split at h <;> split <;> first | exact hq _ _ _ h | contradiction)
def insK : Nat → KI → List KI → List KI
  | 0, b, ks => b :: ks
  | n + 1, b, k :: ks => k :: insK n b ks
  | _ + 1, b, [] => [b]
def cutL : Nat → List KI → List KI
  | 0, ks => ks
  | n + 1, _ :: ks => cutL n ks
  | _ + 1, [] => []
theorem runK_ins {P : Program} {Q : Exit → Act → World → Prop} {M : Act → World → Prop} : ∀ {n : Nat} {ks : List KI}, (∀ a w, M a w → runK P Q (cutL n ks) .normal a w) → ∀ e a w, runK P Q (insK n (.bk M) ks) e a w → runK P Q ks e a w
  | 0, ks, h, e, a, w, hr => by
    cases e with
    | normal => exact h a w hr
    | _ => exact hr
  | n + 1, [], h, e, a, w, hr => by
    cases e with
    | normal => exact h a w hr
    | _ => exact hr
  | n + 1, k :: ks, h, e, a, w, hr => by
    have ih := runK_ins (n := n) (ks := ks) h
    cases k with
    | code c => cases e with
      | normal => exact Code.wp_mono ih hr
      | _ => exact ih _ _ _ hr
    | blk id => exact inBlock_mono2 ih hr
    | ops al rest => cases e with
      | normal => exact wpList_mono2 ih hr
      | _ => exact ih _ _ _ hr
    | bk G => cases e with
      | normal => exact hr
      | _ => exact ih _ _ _ hr
def Mid (X : Cx) {Y : Type} (mk : Y → St) (I : Y → Prop) (a : Act) (w : World) : Prop := ∃ y F ρ, I y ∧ Fle X.F F ∧ X.ρ0 <+: ρ ∧ Sat F X.nt ρ (mk y) a w
/-- A CUT behind the first n things that are left to do. -/
theorem T_cut {X : Cx} {ks : List KI} {s : St} {Y : Type} (n : Nat) (mk : Y → St) (I : Y → Prop) (h2 : ∀ y, I y → T X (cutL n ks) (mk y)) (h1 : T X (insK n (.bk (Mid X mk I)) ks) s) : T X ks s := by
  refine ⟨fun hX F ρ a w hF hρ hs => runK_ins (fun a w hm => ?_) _ _ _ (h1.go hX F ρ a w hF hρ hs)⟩
  obtain ⟨y, G, ρ', hy, hG, hρ', hs'⟩ := hm
  exact (h2 y hy).go hX G ρ' a w hG hρ' hs'
/-- .. there. -/
theorem T_mid {X : Cx} {ks : List KI} {s : St} {Y : Type} {mk : Y → St} {I : Y → Prop} (y : Y) (sel : List (Option Nat)) (h : Sub X.n0 sel s (mk y)) (hI : I y) : T X (.bk (Mid X mk I) :: ks) s := by
  refine ⟨fun hX F ρ a w hF hρ hs => ?_⟩
  obtain ⟨ρ', h1, h2⟩ := sub_sat h hρ hX.n0 hs
  exact ⟨y, F, ρ', hI, hF, h1, h2⟩
def splitL : Nat → List KI → List KI
  | 0, k :: ks => match k with
    | .code (.seq a b) => .code a :: .code b :: ks
    | k => k :: ks
  | n + 1, k :: ks => k :: splitL n ks
  | _, [] => []
theorem runK_split {P : Program} {Q : Exit → Act → World → Prop} : ∀ {n : Nat} {ks : List KI}, ∀ e a w, runK P Q (splitL n ks) e a w → runK P Q ks e a w
  | 0, [], e, a, w, h => h
  | _ + 1, [], e, a, w, h => h
  | 0, k :: ks, e, a, w, h => by
    simp only [splitL] at h
    split at h
    · cases e with
      | normal =>
        refine wp_seq (Code.wp_mono ?_ h)
        intro e a w q
        cases e <;> exact q
      | _ => exact h
    · exact h
  | n + 1, k :: ks, e, a, w, h => by
    have ih := runK_split (P := P) (Q := Q) (n := n) (ks := ks)
    cases k with
    | code c => cases e with
      | normal => exact Code.wp_mono ih h
      | _ => exact ih _ _ _ h
    | blk id => exact inBlock_mono2 ih h
    | ops al rest => cases e with
      | normal => exact wpList_mono2 ih h
      | _ => exact ih _ _ _ h
    | bk G => cases e with
      | normal => exact h
      | _ => exact ih _ _ _ h
/-- The n-th thing left to do, taken apart. -/
theorem T_split {X : Cx} {ks : List KI} {s : St} (n : Nat) (h : T X (splitL n ks) s) : T X ks s := ⟨fun hX F ρ a w hF hρ hs => runK_split _ _ _ (h.go hX F ρ a w hF hρ hs)⟩
theorem ix_0 {n m : Nat} {K : Nat → Prop} (h : 0 < n ∧ 0 < m) (k : K 0) : Ix (0 : Int) n m K := ⟨0, rfl, h.1, h.2, k⟩
theorem ix_1 {n m : Nat} {K : Nat → Prop} (h : 1 < n ∧ 1 < m) (k : K 1) : Ix (1 : Int) n m K := ⟨1, rfl, h.1, h.2, k⟩
theorem ix_2 {n m : Nat} {K : Nat → Prop} (h : 2 < n ∧ 2 < m) (k : K 2) : Ix (2 : Int) n m K := ⟨2, rfl, h.1, h.2, k⟩
/-! ### 38. bytes that came in -/
theorem rdr_intR {P : Program} {W : World} {t : TypeId} {k : IntKind} (ht : P.underlying t = some (.int k)) : Rdr P W t (fun n : { n : Int // (Lit.int k n).wf = true } => [.int k n.1]) := by
  intro H e sp held n cs x hx hz
  obtain ⟨z, rfl, _, hw⟩ := DataW.trod_int ht hx
  exact ⟨⟨z, hw⟩, _, _, rfl, rfl, rfl⟩
theorem rowRd_map {α β : Type} {h : Hp} {A : Option Addr} {c sz : Nat} {enc : α → List D} (f : β → α) {xs : List β} (e : rowRd h A c sz (fun y => enc (f y)) xs) : rowRd h A c sz enc (xs.map f) := by
  obtain ⟨e1, e2, e3, e4⟩ := e
  refine ⟨by simpa using e1, by simpa using e2, e3, fun hp => ?_⟩
  obtain ⟨b, o, C, t, fr, q1, q2, q3⟩ := e4 (by simpa using hp)
  refine ⟨b, o, C, t, fr, q1, q2, fun j x hx => ?_⟩
  rw [List.getElem?_map] at hx
  cases hj : xs[j]? with
  | none => rw [hj] at hx; cases hx
  | some y => rw [hj] at hx; cases hx; exact q3 j y hj
theorem wf_u8 {n : Int} (h : (Lit.int .u8 n).wf = true) : 0 ≤ n ∧ n ≤ 255 := by
  simp only [Lit.wf, Bool.and_eq_true, decide_eq_true_eq] at h
  exact h
end Go.Proofs.Ythdbhlpceodhlaa.Sx
