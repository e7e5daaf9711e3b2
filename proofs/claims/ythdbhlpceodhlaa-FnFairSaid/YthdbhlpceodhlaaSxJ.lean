/- A part of the framework that the proofs of this seat stand on: a separation logic over the model's walks, with a runner that Lean evaluates. It is proved here, without conditions of its own. -/
import Derived.Test.YthdbhlpceodhlaaSxI
set_option linter.unusedVariables false
set_option linter.unusedSimpArgs false
namespace Go.Proofs.Ythdbhlpceodhlaa.Sx
open Go

/-! ### 17. the state told anew: before a loop, at a round's end, at the return -/
def clashB (i : Nat) (n : Bool) : List (Option Nat) → List Chunk → Bool
  | some j :: sel, t :: ts => (match Nat.beq i j with | true => !(n || needs t) | false => true) && clashB i n sel ts
  | none :: sel, _ :: ts => clashB i n sel ts
  | _, _ => true
def dstB : List (Option Nat) → List Chunk → Bool
  | some i :: sel, t :: ts => clashB i (needs t) sel ts && dstB sel ts
  | none :: sel, _ :: ts => dstB sel ts
  | _, _ => true
theorem clashB_out {i : Nat} {n : Bool} : ∀ {sel : List (Option Nat)} {ts : List Chunk}, clashB i n sel ts = true → ∀ {j : Nat} {t : Chunk}, sel[j]? = some (some i) → ts[j]? = some t → n = false ∧ needs t = false
  | [], _, _, j, t, h, _ => by simp at h
  | some k :: sel, [], _, j, t, _, h => by simp at h
  | none :: sel, [], _, j, t, _, h => by simp at h
  | some k :: sel, u :: ts, hb, j, t, h1, h2 => by
    simp only [clashB, Bool.and_eq_true] at hb
    cases j with
    | zero =>
      simp at h1 h2
      subst h1 h2
      have := hb.1
      simp at this
      exact this
    | succ j => exact clashB_out hb.2 (by simpa using h1) (by simpa using h2)
  | none :: sel, u :: ts, hb, j, t, h1, h2 => by
    simp only [clashB] at hb
    cases j with
    | zero => simp at h1
    | succ j => exact clashB_out hb (by simpa using h1) (by simpa using h2)
theorem dstB_out : ∀ {sel : List (Option Nat)} {ts : List Chunk}, dstB sel ts = true → ∀ {j k i : Nat} {t u : Chunk}, j ≠ k → sel[j]? = some (some i) → sel[k]? = some (some i) → ts[j]? = some t → ts[k]? = some u → needs t = false ∧ needs u = false
  | [], _, _, j, k, i, t, u, _, h, _, _, _ => by simp at h
  | some x :: sel, [], _, j, k, i, t, u, _, _, _, h, _ => by simp at h
  | none :: sel, [], _, j, k, i, t, u, _, _, _, h, _ => by simp at h
  | some x :: sel, y :: ts, hb, j, k, i, t, u, hn, h1, h2, h3, h4 => by
    simp only [dstB, Bool.and_eq_true] at hb
    cases j with
    | zero =>
      cases k with
      | zero => omega
      | succ k =>
        simp at h1 h3
        subst h1 h3
        exact clashB_out hb.1 (by simpa using h2) (by simpa using h4)
    | succ j =>
      cases k with
      | zero =>
        simp at h2 h4
        subst h2 h4
        exact (clashB_out hb.1 (by simpa using h1) (by simpa using h3)).symm
      | succ k => exact dstB_out (j := j) (k := k) (i := i) hb.2 (by omega) (by simpa using h1) (by simpa using h2) (by simpa using h3) (by simpa using h4)
  | none :: sel, y :: ts, hb, j, k, i, t, u, hn, h1, h2, h3, h4 => by
    simp only [dstB] at hb
    cases j with
    | zero => simp at h1
    | succ j =>
      cases k with
      | zero => simp at h2
      | succ k => exact dstB_out (j := j) (k := k) (i := i) hb (by omega) (by simpa using h1) (by simpa using h2) (by simpa using h3) (by simpa using h4)
/-- The first n locations stay. -/
def preB : Nat → List Nat → List (Option Nat) → Bool
  | 0, _, _ => true
  | n + 1, k :: ns, some i :: sel => Nat.beq k i && preB n ns sel
  | _ + 1, _, _ => false
theorem preB_out : ∀ {n k m : Nat} {sel : List (Option Nat)}, preB n (List.range' k m) sel = true → ∀ j, j < n → sel[j]? = some (some (k + j))
  | 0, _, _, _, _, j, h => by omega
  | n + 1, k, 0, sel, h, j, hj => by simp [preB] at h
  | n + 1, k, m + 1, [], h, j, hj => by simp [preB, List.range'_succ] at h
  | n + 1, k, m + 1, none :: sel, h, j, hj => by simp [preB, List.range'_succ] at h
  | n + 1, k, m + 1, some i :: sel, h, j, hj => by
    simp only [List.range'_succ, preB, Bool.and_eq_true] at h
    have := Nat.eq_of_beq_eq_true h.1
    subst this
    cases j with
    | zero => simp
    | succ j =>
      have := preB_out h.2 j (by omega)
      simpa [Nat.add_assoc, Nat.add_comm 1 j] using this
def mEnv (sel : List (Option Nat)) (senv : List (Nat × SV)) : List (Nat × SV) → Prop → Prop
  | [], K => K
  | (d, t) :: r, K => match find senv d with
    | some sv => mSV sel sv t (mEnv sel senv r K)
    | none => False
theorem mEnv_out {sel : List (Option Nat)} {senv : List (Nat × SV)} : ∀ {tenv : List (Nat × SV)} {K : Prop}, mEnv sel senv tenv K → K ∧ ∀ {ρ ρ' : List LocV} {a : Act}, RelL sel ρ ρ' → EnvOk ρ senv a → EnvOk ρ' tenv a
  | [], K, h => ⟨h, fun _ _ d sv hd => by simp [find] at hd⟩
  | (d, t) :: r, K, h => by
    simp only [mEnv] at h
    split at h
    · rename_i sv hf
      obtain ⟨h, h1⟩ := mSV_out h
      obtain ⟨h, h2⟩ := mEnv_out h
      refine ⟨h, fun {ρ ρ' a} hr he k x hk => ?_⟩
      simp only [find] at hk
      cases e : Nat.beq d k with
      | true =>
        rw [e] at hk
        cases hk
        have := Nat.eq_of_beq_eq_true e
        subst this
        obtain ⟨v, e1, e2⟩ := he _ _ hf
        exact ⟨v, e1, h1 hr _ e2⟩
      | false =>
        rw [e] at hk
        exact h2 hr he k x hk
    · exact h.elim
/-- s told as s'. -/
def Sub (n0 : Nat) (sel : List (Option Nat)) (s s' : St) : Prop :=
  match preB n0 nats sel with
  | true => match dstB sel s'.chs with
    | true => mEnv sel s.env s'.env (mChs sel false s.chs sel s'.chs True)
    | false => False
  | false => False
def locOf (ρ : List LocV) : Option Nat → LocV
  | some i => (ρ[i]?).getD ⟨none, 0⟩
  | none => ⟨none, 0⟩
theorem relL_map {ρ : List LocV} {sel : List (Option Nat)} : RelL sel ρ (sel.map (locOf ρ)) :=
  ⟨fun j i hj x hx => by simp [hj, locOf, hx], fun j hj => by simp [hj, locOf]⟩
theorem pre_of {ρ ρ0 : List LocV} {sel : List (Option Nat)} {n0 : Nat} (h : ρ0 <+: ρ) (hn : ρ0.length = n0) (hp : preB n0 nats sel = true) : ρ0 <+: sel.map (locOf ρ) := by
  rw [nats_eq, List.range_eq_range'] at hp
  have hp := preB_out hp
  refine List.prefix_iff_eq_take.2 ?_
  apply List.ext_getElem?
  intro j
  by_cases hj : j < n0
  · have e := hp j hj
    rw [List.getElem?_take, if_pos (by omega), List.getElem?_map, e]
    obtain ⟨x, hx⟩ : ∃ x, ρ0[j]? = some x := ⟨_, List.getElem?_eq_getElem (by omega)⟩
    simp [locOf, hx, pre_get h hx]
  · rw [List.getElem?_take, if_neg (by omega), List.getElem?_eq_none (by omega)]
/-- The heaplets of what is told anew. -/
def hsel (hs : Nat → Hp) (sel : List (Option Nat)) (ts : List Chunk) (j : Nat) : Hp :=
  match sel[j]?, ts[j]? with
  | some (some i), some t => if needs t then hs i else Hp.emp
  | _, _ => Hp.emp
theorem hsel_dj {hs : Nat → Hp} (hd : ∀ i j, i ≠ j → (hs i).dj (hs j)) {sel : List (Option Nat)} {ts : List Chunk} (h : dstB sel ts = true) : ∀ j k, j ≠ k → (hsel hs sel ts j).dj (hsel hs sel ts k) := by
  intro j k hjk
  unfold hsel
  split
  · rename_i i t h1 h2
    split
    · rename_i hn
      split
      · rename_i i' t' h3 h4
        split
        · rename_i hn'
          by_cases e : i = i'
          · subst e
            have := dstB_out h hjk h1 h3 h2 h4
            rw [this.1] at hn; cases hn
          · exact hd _ _ e
        · exact Hp.dj_emp _
      · exact Hp.dj_emp _
    · exact Hp.emp_dj _
  · exact Hp.emp_dj _
theorem hsel_le {hs : Nat → Hp} {g : Hp} (hd : ∀ i, (hs i).le g) {sel : List (Option Nat)} {ts : List Chunk} (j : Nat) : (hsel hs sel ts j).le g := by
  unfold hsel
  split
  · split
    · exact hd _
    · exact Hp.emp_le _
  · exact Hp.emp_le _
theorem hsel_djF {hs : Nat → Hp} {g : Hp} (hd : ∀ i, (hs i).dj g) {sel : List (Option Nat)} {ts : List Chunk} (j : Nat) : (hsel hs sel ts j).dj g := by
  unfold hsel
  split
  · split
    · exact hd _
    · exact Hp.emp_dj _
  · exact Hp.emp_dj _
theorem nilr_ok {F : Hp} {ρ : List LocV} {j : Nat} {h : Hp} (e : ρ[j]? = some ⟨none, 0⟩) : Chunk.ok F ρ j h .nilr := ⟨_, e, rfl⟩
/-- A chunk told out of nothing. -/
theorem mCh_nil {sel : List (Option Nat)} {dem : Bool} {tgt : Chunk} (h : mCh sel dem .nilr tgt True) {F : Hp} {ρ' : List LocV} {j : Nat} {hp : Hp} (e : ρ'[j]? = some ⟨none, 0⟩) : Chunk.ok F ρ' j hp tgt := by
  unfold mCh at h
  split at h
  · trivial
  · simp_all
  · exact nilr_ok e
  · simp_all
  · simp_all
  · rename_i own _ _ _ _
    obtain ⟨rfl, h0, h⟩ := h
    cases own with
    | true => exact ⟨_, e, rowOwn_nil h0⟩
    | false => exact ⟨_, e, rowRd_nil h0⟩
  all_goals simp_all
theorem sub_sat {F : Fr} {nt n0 : Nat} {ρ ρ0 : List LocV} {sel : List (Option Nat)} {s s' : St} {a : Act} {w : World} (h : Sub n0 sel s s') (hρ : ρ0 <+: ρ) (hn : ρ0.length = n0) (hs : Sat F nt ρ s a w) :
    ∃ ρ', ρ0 <+: ρ' ∧ Sat F nt ρ' s' a w := by
  unfold Sub at h
  split at h
  · rename_i hp
    split at h
    · rename_i hd
      obtain ⟨h, he⟩ := mEnv_out h
      obtain ⟨_, hl, h1, h2⟩ := mChs_out h
      have hr : RelL sel ρ (sel.map (locOf ρ)) := relL_map
      refine ⟨sel.map (locOf ρ), pre_of hρ hn hp, hs.nd, hs.nt, by simp [hl], he hr hs.env, ?_⟩
      obtain ⟨hs', m⟩ := hs.mem
      refine ⟨hsel hs' sel s'.chs, ?_, hsel_dj m.dj hd, hsel_djF m.djF, hsel_le m.le, m.F⟩
      intro j t ht
      have hj : j < sel.length := by have := (List.getElem?_eq_some_iff.1 ht).1; omega
      obtain ⟨x, hx⟩ : ∃ x, sel[j]? = some x := ⟨_, List.getElem?_eq_getElem hj⟩
      cases x with
      | some i =>
        obtain ⟨c, t', hc, ht', hm⟩ := h1 j i hx
        rw [ht] at ht'; cases ht'
        refine (mCh_out hm).2 hr hx (Hp.le_refl _) ?_ (by simp) (m.ok i c hc)
        intro hnd
        unfold hsel
        rw [hx, ht]
        simp only [hnd, if_true]
        exact Hp.le_refl _
      | none =>
        obtain ⟨t', ht', hm⟩ := h2 j hx
        rw [ht] at ht'; cases ht'
        exact mCh_nil hm (hr.new j hx)
    · exact h.elim
  · exact h.elim
/-- THE STATE TOLD ANEW. -/
theorem T_sub {X : Cx} {ks : List KI} {s : St} (sel : List (Option Nat)) (s' : St) (h : Sub X.n0 sel s s') (ht : T X ks s') : T X ks s :=
  T_conv (fun hX F ρ a w hF hρ hs => by
    obtain ⟨ρ', h1, h2⟩ := sub_sat h hρ hX.n0 hs
    exact ⟨F, ρ', Fle.refl F, h1, h2⟩) ht
/-- A LOOP: the states at its head ('mk y'), what holds of y, what each round lowers. -/
theorem T_loop {X : Cx} {c : Code} {ks : List KI} {s : St} {Y : Type} (mk : Y → St) (I : Y → Prop) (μ : Y → Nat) (y0 : Y) (sel : List (Option Nat)) (h0 : Sub X.n0 sel s (mk y0)) (hI : I y0)
    (hr : ∀ y, I y → T X (.code c :: .bk (Back X mk I μ y) :: ks) (mk y)) : T X (.code (.loop c) :: ks) s :=
  T_loop0 mk I μ (fun hX F ρ a w hF hρ hs => by
    obtain ⟨ρ', h1, h2⟩ := sub_sat h0 hρ hX.n0 hs
    exact ⟨y0, F, ρ', hI, hF, h1, h2⟩) hr
/-- A ROUND'S END. -/
theorem T_back {X : Cx} {ks : List KI} {s : St} {Y : Type} {mk : Y → St} {I : Y → Prop} {μ : Y → Nat} {y : Y} (y' : Y) (sel : List (Option Nat)) (h : Sub X.n0 sel s (mk y')) (hI : I y') (hμ : μ y' < μ y) : T X (.bk (Back X mk I μ y) :: ks) s :=
  T_back0 (fun hX F ρ a w hF hρ hs => by
    obtain ⟨ρ', h1, h2⟩ := sub_sat h hρ hX.n0 hs
    exact ⟨y', F, ρ', hI, hμ, hF, h1, h2⟩)

/-! ### 18. contracts -/
structure FnOk (P : Program) (f : Nat) : Prop where
  ex : ∃ fn c, P.funcs[f]? = some fn ∧ fn.body = some c ∧ (fn.name == "runtime.NumGoroutine") = false
/-- What a call of f asks and leaves. -/
structure FSpec (P : Program) (f : Nat) (args : List SV) (pre : List Chunk) (Post : SV → List Chunk → Prop) : Prop where
  fn : FnOk P f
  go : ∀ F ρ w vs, ρ.length = pre.length → SV.denL ρ args vs → Mem F ρ pre w →
    Calls P f vs.toArray w (fun e w' => ∃ v ρ' res post, e = .returned v ∧ ρ <+: ρ' ∧ ρ'.length = post.length ∧ Post res post ∧ SV.den ρ' res v ∧ Mem F ρ' post w')
def Ret (F : Fr) (ρ : List LocV) (Post : SV → List Chunk → Prop) (e : Ending) (w' : World) : Prop :=
  ∃ v ρ' res post, e = .returned v ∧ ρ <+: ρ' ∧ ρ'.length = post.length ∧ Post res post ∧ SV.den ρ' res v ∧ Mem F ρ' post w'
def args0 : List Nat → List SV → List (Nat × SV)
  | n :: ns, a :: r => (n, a) :: args0 ns r
  | _, _ => []
def args0K : List Nat → List SV → (List (Nat × SV) → Prop) → Prop
  | n :: ns, a :: r, K => args0K ns r (fun q => K ((n, a) :: q))
  | _, _, K => K []
theorem args0K_out : ∀ {ns : List Nat} {args : List SV} {K : List (Nat × SV) → Prop}, args0K ns args K → K (args0 ns args)
  | [], [], K, h => h
  | [], _ :: _, K, h => h
  | _ :: _, [], K, h => h
  | n :: ns, a :: r, K, h => args0K_out (ns := ns) (args := r) h
theorem find_args0 {ρ : List LocV} : ∀ {k m : Nat} {args : List SV} {vs : List Value}, SV.denL ρ args vs → ∀ {d : Nat} {sv : SV}, find (args0 (List.range' k m) args) d = some sv → ∃ v, k ≤ d ∧ vs[d - k]? = some v ∧ sv.den ρ v
  | k, 0, args, vs, h, d, sv, hf => by simp [args0, find] at hf
  | k, m + 1, [], vs, h, d, sv, hf => by simp [args0, List.range'_succ, find] at hf
  | k, m + 1, a :: r, vs, h, d, sv, hf => by
    obtain ⟨v, q, rfl, e2, e3⟩ := h
    simp only [List.range'_succ, args0, find] at hf
    cases e : Nat.beq k d with
    | true =>
      rw [e] at hf; cases hf
      have := Nat.eq_of_beq_eq_true e
      subst this
      exact ⟨v, Nat.le_refl _, by simp, e2⟩
    | false =>
      rw [e] at hf
      obtain ⟨u, h1, h2, h3⟩ := find_args0 e3 hf
      refine ⟨u, by omega, ?_, h3⟩
      rw [show d - k = (d - (k + 1)) + 1 by omega]
      simpa using h2
theorem denL_length {ρ : List LocV} : ∀ {args : List SV} {vs : List Value}, SV.denL ρ args vs → vs.length = args.length
  | [], _, e => by simp [SV.denL] at e; simp [e]
  | _ :: _, _, e => by obtain ⟨v, r, rfl, e2, e3⟩ := e; simp [denL_length e3]
/-- INTO A FUNCTION. -/
theorem spec_enter {P : Program} {f : Nat} {fn : Func} {c : Code} {args : List SV} {pre : List Chunk} {Post : SV → List Chunk → Prop} (tb : Tab) (hT : TabOk P tb) (hf : P.funcs[f]? = some fn) (hb : fn.body = some c) (hnm : (fn.name == "runtime.NumGoroutine") = false)
    (hn' : Nat.ble args.length fn.ntmps = true) (nt n0 : Nat) (hnt : fn.ntmps = nt) (hn0 : pre.length = n0)
    (h : ∀ F ρ, args0K nats args (fun env => T ⟨P, tb, F, nt, n0, ρ, pre, bodyPost P fn (Ret F ρ Post)⟩ [.code c] ⟨env, pre⟩)) : FSpec P f args pre Post := by
  have hn : args.length ≤ fn.ntmps := Nat.le_of_ble_eq_true hn'
  refine ⟨⟨fn, c, hf, hb, hnm⟩, fun F ρ w vs hρ hd hm => ?_⟩
  refine calls_of_wp hf hb ?_
  have hl := denL_length hd
  refine (args0K_out (h F ρ)).go ⟨hT, by rw [hρ, hn0], ?_⟩ F ρ _ _ (Fle.refl F) List.prefix_rfl ⟨rfl, ?_, by simpa using hρ, ?_, hm⟩
  · intro i c' hc hro
    obtain ⟨hs, m⟩ := hm
    have := m.ok i c' hc
    cases c' <;> simp [Chunk.isRo] at hro
    rename_i own _ _ _
    cases own with
    | true => simp at hro
    | false => exact this
  · simp [hl, hnt]; omega
  · intro d sv hf
    simp only [nats_eq, List.range_eq_range'] at hf
    obtain ⟨v, h1, h2, h3⟩ := find_args0 hd hf
    refine ⟨v, ?_, h3⟩
    have hdl : d < vs.length := by have := (List.getElem?_eq_some_iff.1 h2).1; omega
    simp only [Nat.sub_zero] at h2
    rw [Array.getElem?_append]
    simp [hdl]
    simpa [List.getElem?_eq_getElem hdl] using h2

/-! ### 19. the return -/
def resK (tb : Tab) (s : St) : List ResultVar → (List SW → Prop) → Prop
  | [], K => K []
  | .tmp t :: r, K => match find s.env t with
    | some (.one c) => resK tb s r (fun l => K (.one c :: l))
    | some (.agg cs) => resK tb s r (fun l => K (.agg cs :: l))
    | _ => False
  | .cell t ty :: r, K => match find s.env t with
    | some (.one (.ptr l i e f)) => loadK tb s.chs ty l i e f (fun sv => match sv with
      | .one c => resK tb s r (fun q => K (.one c :: q))
      | .agg cs => resK tb s r (fun q => K (.agg cs :: q))
      | .tup _ => False) False
    | _ => False
def SW.toSV : SW → SV
  | .one c => .one c
  | .agg cs => .agg cs
def wrapK (l : List SW) (K : SV → Prop) : Prop :=
  match l with
  | [.one c] => K (.one c)
  | [.agg cs] => K (.agg cs)
  | l => K (.tup l)
theorem sw_toSV {ρ : List LocV} {x : SW} {v : Value} : x.toSV.den ρ v ↔ x.den ρ v := by cases x <;> rfl
def rv (tmps : Array Value) : ResultVar → Sem Value
  | .tmp t => pure (tmps.getD t undef)
  | .cell b t => do loadVar t (← asAddr (tmps.getD b undef))
theorem results_rv (fn : Func) (tmps : Array Value) : results fn tmps = (do let vs ← fn.results.mapM (rv tmps); pure (if h : vs.size = 1 then vs[0] else .tuple vs)) := rfl
theorem resK_out {tb : Tab} {s : St} : ∀ {rs : List ResultVar} {K : List SW → Prop}, resK tb s rs K → ∃ l, K l ∧ ∀ {P : Program} {F : Fr} {nt : Nat} {ρ : List LocV} {a : Act} {w : World}, TabOk P tb → Sat F nt ρ s a w →
    ∃ vs, SW.denL ρ l vs ∧ (rs.mapM (rv a.tmps)).run P w = .ok vs w
  | [], K, h => ⟨[], h, fun _ _ => ⟨[], rfl, by simp⟩⟩
  | .tmp t :: r, K, h => by
    simp only [resK] at h
    have fin : ∀ {x : SW}, find s.env t = some x.toSV → resK tb s r (fun l => K (x :: l)) → ∃ l, K l ∧ ∀ {P : Program} {F : Fr} {nt : Nat} {ρ : List LocV} {a : Act} {w : World}, TabOk P tb → Sat F nt ρ s a w →
        ∃ vs, SW.denL ρ l vs ∧ ((.tmp t :: r : List ResultVar).mapM (rv a.tmps)).run P w = .ok vs w := by
      intro x hf h
      obtain ⟨l, h1, h2⟩ := resK_out h
      refine ⟨_, h1, fun {P F nt ρ a w} ht hs => ?_⟩
      obtain ⟨vs, e1, e2⟩ := h2 ht hs
      obtain ⟨v, e3, e4⟩ := hs.env _ _ hf
      refine ⟨v :: vs, ⟨v, vs, rfl, sw_toSV.1 e4, e1⟩, ?_⟩
      simp [List.mapM_cons, rv, e2, Array.getD_eq_getD_getElem?, e3]
    split at h
    · rename_i c hf; exact fin (x := .one c) hf h
    · rename_i c hf; exact fin (x := .agg c) hf h
    · exact h.elim
  | .cell t ty :: r, K, h => by
    simp only [resK] at h
    split at h
    · rename_i l i e f hf
      rcases loadK_out h with h | ⟨sv, h, hsv⟩
      · exact h.elim
      have fin : ∀ {x : SW}, sv = x.toSV → resK tb s r (fun l => K (x :: l)) → ∃ l, K l ∧ ∀ {P : Program} {F : Fr} {nt : Nat} {ρ : List LocV} {a : Act} {w : World}, TabOk P tb → Sat F nt ρ s a w →
        ∃ vs, SW.denL ρ l vs ∧ ((.cell t ty :: r : List ResultVar).mapM (rv a.tmps)).run P w = .ok vs w := by
        intro x hx h
        obtain ⟨l, h1, h2⟩ := resK_out h
        refine ⟨_, h1, fun {P F nt ρ a w} ht hs => ?_⟩
        obtain ⟨vs, e1, e2⟩ := h2 ht hs
        obtain ⟨v, e3, e4⟩ := hs.env _ _ hf
        obtain ⟨u, g1, g2⟩ := hsv ht hs e4
        refine ⟨u :: vs, ⟨u, vs, rfl, sw_toSV.1 (by rw [← hx]; exact g1), e1⟩, ?_⟩
        obtain ⟨lx, ad, q1, q2, rfl⟩ := e4
        have hg : a.tmps.getD t undef = .pointer (some (ad.add (i * e + f))) := by rw [Array.getD_eq_getD_getElem?, e3]; rfl
        have g2' : (loadVar ty (ad.add (i * e + f))).run P w = .ok u w := by
          simpa [Instr.loadAt, Instr.sureAddr] using g2
        simp [List.mapM_cons, rv, e2, hg, asAddr, g2']
      split at h
      · rename_i c; exact fin (x := .one c) rfl h
      · rename_i c; exact fin (x := .agg c) rfl h
      · exact h.elim
    · exact h.elim
theorem wrapK_out {l : List SW} {K : SV → Prop} (h : wrapK l K) : ∃ sv, K sv ∧ ∀ {ρ : List LocV} {vs : List Value}, SW.denL ρ l vs → sv.den ρ (if h : vs.toArray.size = 1 then vs.toArray[0] else .tuple vs.toArray) := by
  match l, h with
  | [], h =>
    refine ⟨_, h, fun {ρ vs} hd => ?_⟩
    simp [SW.denL] at hd
    subst hd
    exact ⟨[], rfl, rfl⟩
  | [.one c], h =>
    refine ⟨_, h, fun {ρ vs} hd => ?_⟩
    obtain ⟨v, r, rfl, e1, e2⟩ := hd
    simp [SW.denL] at e2; subst e2
    exact e1
  | [.agg c], h =>
    refine ⟨_, h, fun {ρ vs} hd => ?_⟩
    obtain ⟨v, r, rfl, e1, e2⟩ := hd
    simp [SW.denL] at e2; subst e2
    exact e1
  | x :: y :: l, h =>
    have h : K (.tup (x :: y :: l)) := by cases x <;> exact h
    refine ⟨_, h, fun {ρ vs} hd => ?_⟩
    have hd' := hd
    obtain ⟨v, r, rfl, e1, v2, r2, rfl, e2, e3⟩ := hd
    rw [dif_neg (by simp)]
    exact ⟨_, rfl, hd'⟩
/-- What is only read among what is left came in. -/
def roOk : List Chunk → List Chunk → Prop → Prop
  | r :: ro, t :: post, K => match t with
    | .row false sz enc xs => r = .row false sz enc xs ∧ roOk ro post K
    | .opn false .. => False
    | _ => roOk ro post K
  | [], t :: post, K => match t with
    | .row false .. => False
    | .opn false .. => False
    | _ => roOk [] post K
  | _, [], K => K
theorem roOk_out : ∀ {ro post : List Chunk} {K : Prop}, roOk ro post K → K ∧ ∀ (j : Nat) (t : Chunk), post[j]? = some t → (t.isRo = true → ro[j]? = some t) ∧ (∀ (α : Type) (sz : Nat) (enc : α → List D) (xs : List α) (i : Nat) (vs : List SC), t ≠ Chunk.opn false sz enc xs i vs)
  | [], [], K, h => ⟨h, by simp⟩
  | _ :: _, [], K, h => ⟨h, by simp⟩
  | r :: ro, t :: post, K, h => by
    have main : (K ∧ ∀ (j : Nat) (t : Chunk), post[j]? = some t → (t.isRo = true → ro[j]? = some t) ∧ (∀ (α : Type) (sz : Nat) (enc : α → List D) (xs : List α) (i : Nat) (vs : List SC), t ≠ Chunk.opn false sz enc xs i vs)) →
        ((t.isRo = true → r = t) ∧ (∀ (α : Type) (sz : Nat) (enc : α → List D) (xs : List α) (i : Nat) (vs : List SC), t ≠ Chunk.opn false sz enc xs i vs)) →
        K ∧ ∀ (j : Nat) (u : Chunk), (t :: post)[j]? = some u → (u.isRo = true → (r :: ro)[j]? = some u) ∧ (∀ (α : Type) (sz : Nat) (enc : α → List D) (xs : List α) (i : Nat) (vs : List SC), u ≠ Chunk.opn false sz enc xs i vs) := by
      rintro ⟨h1, h2⟩ ⟨h3, h4⟩
      refine ⟨h1, fun j u hj => ?_⟩
      cases j with
      | zero => simp at hj; subst hj; exact ⟨fun e => by simp [h3 e], h4⟩
      | succ j => simpa using h2 j u (by simpa using hj)
    simp only [roOk] at h
    split at h
    · exact main (roOk_out h.2) ⟨fun _ => h.1, by simp⟩
    · exact h.elim
    · rename_i t h1 h2
      refine main (roOk_out h) ⟨fun e => ?_, fun α sz enc xs i vs e => h2 α sz enc xs i vs e⟩
      cases t <;> simp [Chunk.isRo] at e
  | [], t :: post, K, h => by
    simp only [roOk] at h
    split at h
    · exact h.elim
    · exact h.elim
    · rename_i t h1 h2
      obtain ⟨h3, h4⟩ := roOk_out h
      refine ⟨h3, fun j u hj => ?_⟩
      cases j with
      | zero =>
        simp at hj
        subst hj
        refine ⟨fun e => ?_, fun α sz enc xs i vs e => h2 α sz enc xs i vs e⟩
        cases t <;> simp [Chunk.isRo] at e
      | succ j => simpa using h4 j u (by simpa using hj)
/-- What the return asks: the value, the chunks, told as the contract tells them. -/
def RetC (n0 : Nat) (ro : List Chunk) (sel : List (Option Nat)) (s : St) (sv res : SV) (post : List Chunk) : Prop :=
  match preB n0 nats sel with
  | true => match dstB sel post with
    | true => mSV sel sv res (mChs sel true s.chs sel post (roOk ro post True))
    | false => False
  | false => False
structure RetS (X : Cx) (Post : SV → List Chunk → Prop) (s : St) (sv : SV) : Prop where
  ex : ∃ res post sel, Post res post ∧ RetC X.n0 X.ro sel s sv res post
theorem retS {X : Cx} {Post : SV → List Chunk → Prop} {s : St} {sv : SV} (res : SV) (post : List Chunk) (sel : List (Option Nat)) (h : Post res post) (hc : RetC X.n0 X.ro sel s sv res post) : RetS X Post s sv := ⟨res, post, sel, h, hc⟩
theorem retC_out {n0 : Nat} {ro : List Chunk} {sel : List (Option Nat)} {s : St} {sv res : SV} {post : List Chunk} (h : RetC n0 ro sel s sv res post) : preB n0 nats sel = true ∧ dstB sel post = true ∧ mSV sel sv res (mChs sel true s.chs sel post (roOk ro post True)) := by
  unfold RetC at h
  split at h
  · rename_i h1
    split at h
    · rename_i h2; exact ⟨h1, h2, h⟩
    · exact h.elim
  · exact h.elim
theorem T_ret {P : Program} {tb : Tab} {F : Fr} {nt n0 : Nat} {ρ0 : List LocV} {ro : List Chunk} {fn : Func} {Post : SV → List Chunk → Prop} {ks : List KI} {s : St} (rs : List ResultVar) (hrs : fn.results = rs.toArray)
    (h : resK tb s rs (fun l => wrapK l (fun sv => RetS ⟨P, tb, F, nt, n0, ρ0, ro, bodyPost P fn (Ret F ρ0 Post)⟩ Post s sv))) : T ⟨P, tb, F, nt, n0, ρ0, ro, bodyPost P fn (Ret F ρ0 Post)⟩ (.code .ret :: ks) s := by
  refine ⟨fun hX F' ρ a w hF hρ hs => ?_⟩
  refine wp_ret (runK_ret ?_)
  obtain ⟨l, h, hl⟩ := resK_out h
  obtain ⟨sv, ⟨res, post, sel, hP, hc⟩, hsv⟩ := wrapK_out h
  obtain ⟨hp, hd, h⟩ := retC_out hc
  have hro := (roOk_out (mChs_out (mSV_out h).1).1).2
  obtain ⟨vs, e1, e2⟩ := hl hX.tab hs
  have e2 : (results fn a.tmps).run P w = .ok (if h : vs.toArray.size = 1 then vs.toArray[0] else .tuple vs.toArray) w := by
    rw [results_rv, hrs]
    simp [List.mapM_toArray, e2]
  refine ⟨hs.nd, _, e2, _, sel.map (locOf ρ), res, post, rfl, pre_of hρ hX.n0 hp, ?_, hP, ?_, ?_⟩
  · obtain ⟨h, _⟩ := mSV_out h
    simp [(mChs_out h).2.1]
  · exact (mSV_out h).2 relL_map _ (hsv e1)
  · obtain ⟨h, _⟩ := mSV_out h
    obtain ⟨_, hlen, h1, h2⟩ := mChs_out h
    have hr : RelL sel ρ (sel.map (locOf ρ)) := relL_map
    obtain ⟨hs', m⟩ := hs.mem
    refine ⟨hsel hs' sel post, ?_, hsel_dj m.dj hd, fun j => Hp.dj_of_le (hsel_djF m.djF j) (Hp.le_refl _) hF.h, hsel_le m.le, ⟨m.F.os.trans hF.os, m.F.tape.trans hF.tape, m.F.out.trans hF.out, Hp.le_trans hF.h m.F.h⟩⟩
    intro j t ht
    obtain ⟨r1, r2⟩ := hro j t ht
    by_cases hiro : t.isRo = true
    · have := hX.ro j t (r1 hiro) hiro
      have hpre := pre_of hρ hX.n0 hp
      have h3 := chunk_ok_pre hpre this
      cases t <;> simp [Chunk.isRo] at hiro
      rename_i own _ _ _
      cases own with
      | true => simp at hiro
      | false => exact h3
    have hj : j < sel.length := by have := (List.getElem?_eq_some_iff.1 ht).1; omega
    obtain ⟨x, hx⟩ : ∃ x, sel[j]? = some x := ⟨_, List.getElem?_eq_getElem hj⟩
    cases x with
    | none =>
      obtain ⟨t', ht', hm⟩ := h2 j hx
      rw [ht] at ht'; cases ht'
      exact mCh_nil hm (hr.new j hx)
    | some i =>
      obtain ⟨c, t', hc, ht', hm⟩ := h1 j i hx
      rw [ht] at ht'; cases ht'
      have hh : ∀ {F1 F2 : Hp}, F1.le F2 → (needs t = false → (hs' i).le F2) → Chunk.ok F1 ρ i (hs' i) c → Chunk.ok F2 (sel.map (locOf ρ)) j (hsel hs' sel post j) t := by
        intro F1 F2 hF12 hn hc'
        refine (mCh_out hm).2 hr hx hF12 ?_ (fun _ hnn => hn hnn) hc'
        intro hnd
        unfold hsel
        rw [hx, ht]
        simp only [hnd, if_true]
        exact Hp.le_refl _
      -- in the grown frame joined with the heaplet, then back
      have big : Chunk.ok (fun b => heapOf w b) (sel.map (locOf ρ)) j (hsel hs' sel post j) t := hh (F1 := F'.h) m.F.h (fun _ => m.le i) (m.ok i c hc)
      cases t with
      | dead => trivial
      | box vs => exact big
      | nilr => exact big
      | view l off sz => exact big
      | row own sz enc xs =>
        cases own with
        | true => exact big
        | false => simp [Chunk.isRo] at hiro
      | opn own sz enc xs k vs =>
        cases own with
        | true => exact big
        | false => exact absurd rfl (r2 _ _ _ _ _ _)
end Go.Proofs.Ythdbhlpceodhlaa.Sx
