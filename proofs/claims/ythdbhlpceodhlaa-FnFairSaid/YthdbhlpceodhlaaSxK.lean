/- A part of the framework that the proofs of this seat stand on: a separation logic over the model's walks, with a runner that Lean evaluates. It is proved here, without conditions of its own. -/
import Derived.Test.YthdbhlpceodhlaaSxJ
set_option linter.unusedVariables false
set_option linter.unusedSimpArgs false
namespace Go.Proofs.Ythdbhlpceodhlaa.Sx
open Go

/-! ### 20. a call -/
def RelT (τ : List Nat) (ρ ρ' : List LocV) : Prop := ∀ (j l : Nat), τ[j]? = some l → ∀ x, ρ[j]? = some x → ρ'[l]? = some x
def renPtrs (τ : List Nat) : List (Nat × Nat) → (List (Nat × Nat) → Prop) → Prop
  | [], K => K []
  | (l, f) :: r, K => match τ[l]? with
    | some l' => renPtrs τ r (fun q => K ((l', f) :: q))
    | none => False
def renSC (τ : List Nat) (c : SC) (K : SC → Prop) : Prop :=
  match c with
  | .slc l n => match τ[l]? with
    | some l' => K (.slc l' n)
    | none => False
  | .ptr l i e f => match τ[l]? with
    | some l' => K (.ptr l' i e f)
    | none => False
  | .clo f cs => renPtrs τ cs (fun cs => K (.clo f cs))
  | .int k n => K (.int k n)
  | .pr p d => K (.pr p d)
  | .bool b => K (.bool b)
  | .lit b => K (.lit b)
  | .str s => K (.str s)
  | .nil => K .nil
  | .val v => K (.val v)
def renSCL (τ : List Nat) : List SC → (List SC → Prop) → Prop
  | [], K => K []
  | c :: r, K => renSC τ c (fun c => renSCL τ r (fun q => K (c :: q)))
def renSW (τ : List Nat) (x : SW) (K : SW → Prop) : Prop :=
  match x with
  | .one c => renSC τ c (fun c => K (.one c))
  | .agg cs => renSCL τ cs (fun cs => K (.agg cs))
def renSWL (τ : List Nat) : List SW → (List SW → Prop) → Prop
  | [], K => K []
  | c :: r, K => renSW τ c (fun c => renSWL τ r (fun q => K (c :: q)))
def renSV (τ : List Nat) (x : SV) (K : SV → Prop) : Prop :=
  match x with
  | .one c => renSC τ c (fun c => K (.one c))
  | .agg cs => renSCL τ cs (fun cs => K (.agg cs))
  | .tup cs => renSWL τ cs (fun cs => K (.tup cs))
def renCh (τ : List Nat) (c : Chunk) (K : Chunk → Prop) : Prop :=
  match c with
  | .dead => K .dead
  | .nilr => K .nilr
  | .box vs => renSCL τ vs (fun vs => K (.box vs))
  | .view l off sz => match τ[l]? with
    | some l' => K (.view l' off sz)
    | none => False
  | .row true sz enc xs => K (.row true sz enc xs)
  | .opn true sz enc xs i vs => renSCL τ vs (fun vs => K (.opn true sz enc xs i vs))
  | .row false .. => False
  | .opn false .. => False
theorem renPtrs_out {τ : List Nat} : ∀ {cs : List (Nat × Nat)} {K : List (Nat × Nat) → Prop}, renPtrs τ cs K → ∃ ds, K ds ∧ ∀ {ρ ρ' : List LocV}, RelT τ ρ ρ' → ∀ vs, ptrsDen ρ cs vs → ptrsDen ρ' ds vs
  | [], K, h => ⟨[], h, fun _ _ h => h⟩
  | (l, f) :: r, K, h => by
    simp only [renPtrs] at h
    split at h
    · rename_i l' hl
      obtain ⟨ds, h1, h2⟩ := renPtrs_out h
      exact ⟨_, h1, fun hr vs ⟨x, a, q, e1, e2, e3, e4⟩ => ⟨x, a, q, hr _ _ hl x e1, e2, e3, h2 hr q e4⟩⟩
    · exact h.elim
theorem renSC_out {τ : List Nat} {c : SC} {K : SC → Prop} (h : renSC τ c K) : ∃ d, K d ∧ ∀ {ρ ρ' : List LocV}, RelT τ ρ ρ' → ∀ v, c.den ρ v → d.den ρ' v := by
  unfold renSC at h
  split at h
  · split at h
    · rename_i l' hl
      exact ⟨_, h, fun hr v ⟨x, e1, e2⟩ => ⟨x, hr _ _ hl x e1, e2⟩⟩
    · exact h.elim
  · split at h
    · rename_i l' hl
      exact ⟨_, h, fun hr v ⟨x, a, e1, e2⟩ => ⟨x, a, hr _ _ hl x e1, e2⟩⟩
    · exact h.elim
  · obtain ⟨ds, h1, h2⟩ := renPtrs_out h
    exact ⟨_, h1, fun hr v ⟨ps, e1, e2⟩ => ⟨ps, h2 hr _ e1, e2⟩⟩
  all_goals exact ⟨_, h, fun _ _ h => h⟩
theorem renSCL_out {τ : List Nat} : ∀ {c : List SC} {K : List SC → Prop}, renSCL τ c K → ∃ d, K d ∧ ∀ {ρ ρ' : List LocV}, RelT τ ρ ρ' → ∀ v, SC.denL ρ c v → SC.denL ρ' d v
  | [], K, h => ⟨[], h, fun _ _ h => h⟩
  | c :: r, K, h => by
    obtain ⟨d, h1, h2⟩ := renSC_out h
    obtain ⟨ds, h3, h4⟩ := renSCL_out h1
    exact ⟨_, h3, fun hr v ⟨u, q, e1, e2, e3⟩ => ⟨u, q, e1, h2 hr _ e2, h4 hr _ e3⟩⟩
theorem renSW_out {τ : List Nat} {c : SW} {K : SW → Prop} (h : renSW τ c K) : ∃ d, K d ∧ ∀ {ρ ρ' : List LocV}, RelT τ ρ ρ' → ∀ v, c.den ρ v → d.den ρ' v := by
  cases c with
  | one c => have h : renSC τ c (fun c => K (.one c)) := h; obtain ⟨d, h1, h2⟩ := renSC_out h; exact ⟨.one d, h1, fun hr v e => h2 hr v e⟩
  | agg cs => have h : renSCL τ cs (fun cs => K (.agg cs)) := h; obtain ⟨d, h1, h2⟩ := renSCL_out h; exact ⟨_, h1, fun hr v ⟨us, e1, e2⟩ => ⟨us, e1, h2 hr _ e2⟩⟩
theorem renSWL_out {τ : List Nat} : ∀ {c : List SW} {K : List SW → Prop}, renSWL τ c K → ∃ d, K d ∧ ∀ {ρ ρ' : List LocV}, RelT τ ρ ρ' → ∀ v, SW.denL ρ c v → SW.denL ρ' d v
  | [], K, h => ⟨[], h, fun _ _ h => h⟩
  | c :: r, K, h => by
    obtain ⟨d, h1, h2⟩ := renSW_out h
    obtain ⟨ds, h3, h4⟩ := renSWL_out h1
    exact ⟨_, h3, fun hr v ⟨u, q, e1, e2, e3⟩ => ⟨u, q, e1, h2 hr _ e2, h4 hr _ e3⟩⟩
theorem renSV_out {τ : List Nat} {c : SV} {K : SV → Prop} (h : renSV τ c K) : ∃ d, K d ∧ ∀ {ρ ρ' : List LocV}, RelT τ ρ ρ' → ∀ v, c.den ρ v → d.den ρ' v := by
  cases c with
  | one c => have h : renSC τ c (fun c => K (.one c)) := h; obtain ⟨d, h1, h2⟩ := renSC_out h; exact ⟨.one d, h1, fun hr v e => h2 hr v e⟩
  | agg cs => have h : renSCL τ cs (fun cs => K (.agg cs)) := h; obtain ⟨d, h1, h2⟩ := renSCL_out h; exact ⟨_, h1, fun hr v ⟨us, e1, e2⟩ => ⟨us, e1, h2 hr _ e2⟩⟩
  | tup cs => have h : renSWL τ cs (fun cs => K (.tup cs)) := h; obtain ⟨d, h1, h2⟩ := renSWL_out h; exact ⟨_, h1, fun hr v ⟨us, e1, e2⟩ => ⟨us, e1, h2 hr _ e2⟩⟩
def RenTo (τ : List Nat) (c d : Chunk) : Prop := ∀ {ρ ρ' : List LocV} {F F' h : Hp} {j i : Nat}, RelT τ ρ ρ' → (∀ x, ρ[j]? = some x → ρ'[i]? = some x) → Chunk.ok F ρ j h c → Chunk.ok F' ρ' i h d
theorem renCh_out {τ : List Nat} {c : Chunk} {K : Chunk → Prop} (h : renCh τ c K) : ∃ d, K d ∧ RenTo τ c d := by
  unfold renCh at h
  split at h
  · exact ⟨_, h, fun _ _ _ => trivial⟩
  · exact ⟨_, h, fun hr hi ⟨x, e1, e2⟩ => ⟨x, hi x e1, e2⟩⟩
  · obtain ⟨d, h1, h2⟩ := renSCL_out h
    exact ⟨_, h1, fun hr hi ⟨x, b, C, t, e1, e2, e3, e4, e5⟩ => ⟨x, b, C, t, hi x e1, e2, e3, e4, h2 hr _ e5⟩⟩
  · split at h
    · rename_i l' hl
      exact ⟨_, h, fun hr hi ⟨x, y, e1, e2, e3⟩ => ⟨x, y, hi x e1, hr _ _ hl y e2, e3⟩⟩
    · exact h.elim
  · exact ⟨_, h, fun hr hi ⟨x, e1, e2⟩ => ⟨x, hi x e1, e2⟩⟩
  · obtain ⟨d, h1, h2⟩ := renSCL_out h
    exact ⟨_, h1, fun hr hi ⟨x, cs, e1, e2, e3⟩ => ⟨x, cs, hi x e1, h2 hr _ e2, e3⟩⟩
  · exact h.elim
  · exact h.elim
def updK (τ : List Nat) : List Chunk → List Chunk → List (Option Nat) → List Chunk → (List Chunk → Prop) → Prop
  | p :: pre, q :: post, some i :: sel, chs, K => match needs p with
    | true => renCh τ q (fun c => setK c i chs (fun chs => updK τ pre post sel chs K))
    | false => updK τ pre post sel chs K
  | [], _, [], chs, K => K chs
  | _, _, _, _, _ => False
def newsK (τ : List Nat) : List Chunk → List Chunk → (List Chunk → Prop) → Prop
  | [], chs, K => K chs
  | q :: r, chs, K => renCh τ q (fun c => snocK c chs (fun chs => newsK τ r chs K))
theorem updK_out {τ : List Nat} : ∀ {pre post : List Chunk} {sel : List (Option Nat)} {chs : List Chunk} {K : List Chunk → Prop}, updK τ pre post sel chs K → ∃ chs', K chs' ∧ chs'.length = chs.length ∧ ∀ (i : Nat) (c : Chunk), chs'[i]? = some c →
    (∃ (j : Nat) (p q : Chunk), pre[j]? = some p ∧ needs p = true ∧ post[j]? = some q ∧ sel[j]? = some (some i) ∧ RenTo τ q c) ∨ ((∀ (j : Nat) (p : Chunk), pre[j]? = some p → needs p = true → sel[j]? ≠ some (some i)) ∧ chs[i]? = some c)
  | [], post, [], chs, K, h => ⟨chs, by cases post <;> simpa [updK] using h, rfl, fun i c hc => .inr ⟨by simp, hc⟩⟩
  | p :: pre, q :: post, some i0 :: sel, chs, K, h => by
    simp only [updK] at h
    split at h
    · rename_i hn
      obtain ⟨c0, h, hren⟩ := renCh_out h
      rw [setK_eq] at h
      obtain ⟨chs', h1, h2, h3⟩ := updK_out h
      refine ⟨chs', h1, by simpa using h2, fun i c hc => ?_⟩
      rcases h3 i c hc with ⟨j, p', q', e1, e2, e3, e4, e5⟩ | ⟨e1, e2⟩
      · exact .inl ⟨j + 1, p', q', by simpa using e1, e2, by simpa using e3, by simpa using e4, e5⟩
      · by_cases hi : i0 = i
        · subst hi
          have hlt : i0 < chs.length := by
            have := (List.getElem?_eq_some_iff.1 e2).1; simpa using this
          simp [List.getElem?_set, hlt] at e2
          subst e2
          exact .inl ⟨0, p, q, rfl, hn, rfl, rfl, hren⟩
        · rw [List.getElem?_set_ne hi] at e2
          refine .inr ⟨fun j p' hp hnp => ?_, e2⟩
          cases j with
          | zero => simp; exact hi
          | succ j => simpa using e1 j p' (by simpa using hp) hnp
    · rename_i hn
      obtain ⟨chs', h1, h2, h3⟩ := updK_out h
      refine ⟨chs', h1, h2, fun i c hc => ?_⟩
      rcases h3 i c hc with ⟨j, p', q', e1, e2, e3, e4, e5⟩ | ⟨e1, e2⟩
      · exact .inl ⟨j + 1, p', q', by simpa using e1, e2, by simpa using e3, by simpa using e4, e5⟩
      · refine .inr ⟨fun j p' hp hnp => ?_, e2⟩
        cases j with
        | zero => simp at hp; subst hp; rw [hn] at hnp; cases hnp
        | succ j => simpa using e1 j p' (by simpa using hp) hnp
  | [], post, x :: sel, chs, K, h => by simp [updK] at h
  | p :: pre, [], sel, chs, K, h => by simp [updK] at h
  | p :: pre, q :: post, [], chs, K, h => by simp [updK] at h
  | p :: pre, q :: post, none :: sel, chs, K, h => by simp [updK] at h
theorem newsK_out {τ : List Nat} : ∀ {ex chs : List Chunk} {K : List Chunk → Prop}, newsK τ ex chs K → ∃ new, K (chs ++ new) ∧ new.length = ex.length ∧ ∀ (k : Nat) (c : Chunk), new[k]? = some c → ∃ q, ex[k]? = some q ∧ RenTo τ q c
  | [], chs, K, h => ⟨[], by simpa [newsK] using h, rfl, by simp⟩
  | q :: r, chs, K, h => by
    obtain ⟨c0, h, hren⟩ := renCh_out h
    rw [snocK_eq] at h
    obtain ⟨new, h1, h2, h3⟩ := newsK_out h
    refine ⟨c0 :: new, by simpa using h1, by simp [h2], fun k c hc => ?_⟩
    cases k with
    | zero => simp at hc; subst hc; exact ⟨q, rfl, hren⟩
    | succ k => simpa using h3 k c (by simpa using hc)
def fromK : List Chunk → List Nat → (List Nat → Prop) → Prop
  | [], ns, K => K ns
  | _ :: l, _ :: ns, K => fromK l ns K
  | _, [], _ => False
theorem fromK_out : ∀ {l : List Chunk} {ns : List Nat} {K : List Nat → Prop}, fromK l ns K → K (ns.drop l.length)
  | [], ns, K, h => h
  | _ :: l, _ :: ns, K, h => by simpa using fromK_out (l := l) h
  | _ :: _, [], _, h => by simp [fromK] at h
def tauK : List (Option Nat) → List Nat → (List Nat → Prop) → Prop
  | [], ns, K => K ns
  | some i :: r, ns, K => tauK r ns (fun t => K (i :: t))
  | none :: _, _, _ => False
theorem tauK_out : ∀ {sel : List (Option Nat)} {ns : List Nat} {K : List Nat → Prop}, tauK sel ns K → ∃ is : List Nat, sel = is.map some ∧ K (is ++ ns)
  | [], ns, K, h => ⟨[], rfl, h⟩
  | some i :: r, ns, K, h => by
    have h : tauK r ns (fun t => K (i :: t)) := h
    obtain ⟨is, rfl, h2⟩ := tauK_out h
    exact ⟨i :: is, rfl, h2⟩
  | none :: _, _, _, h => h.elim
def chDropK : List Chunk → List Chunk → (List Chunk → Prop) → Prop
  | [], l, K => K l
  | _ :: p, _ :: l, K => chDropK p l K
  | _, [], _ => False
theorem chDropK_out : ∀ {p l : List Chunk} {K : List Chunk → Prop}, chDropK p l K → p.length ≤ l.length ∧ K (l.drop p.length)
  | [], l, K, h => ⟨by simp, h⟩
  | _ :: p, _ :: l, K, h => by simpa using chDropK_out (p := p) h
  | _ :: _, [], _, h => by simp [chDropK] at h
/-- What the caller knows behind the call. -/
def callK (nt : Nat) (sel : List (Option Nat)) (pre : List Chunk) (env : List (Nat × SV)) (chs : List Chunk) (dst : Option Nat) (res : SV) (post : List Chunk) (C : List (Nat × SV) → List Chunk → Prop) : Prop :=
  fromK chs nats (fun ns => tauK sel ns (fun τ => renSV τ res (fun sv => updK τ pre post sel chs (fun chs => chDropK pre post (fun ex => newsK τ ex chs (fun chs => putK nt dst sv env (fun env => C env chs) False))))))
def argsK (env : List (Nat × SV)) : List Operand → (List SV → Prop) → Prop
  | [], K => K []
  | x :: r, K => opdK env x (fun sv => argsK env r (fun q => K (sv :: q))) False
theorem argsK_out {env : List (Nat × SV)} : ∀ {xs : List Operand} {K : List SV → Prop}, argsK env xs K → ∃ svs, K svs ∧ ∀ ρ a, EnvOk ρ env a → SV.denL ρ svs (xs.map a.eval)
  | [], K, h => ⟨[], h, fun _ _ _ => rfl⟩
  | x :: r, K, h => by
    rcases opdK_out h with h | ⟨sv, h, hsv⟩
    · exact h.elim
    obtain ⟨svs, h1, h2⟩ := argsK_out h
    exact ⟨_, h1, fun ρ a he => ⟨_, _, rfl, hsv ρ a he, h2 ρ a he⟩⟩
def capK : List (Nat × Nat) → List SV
  | [] => []
  | (l, f) :: r => .one (.ptr l 0 0 f) :: capK r
theorem capK_den {ρ : List LocV} : ∀ {cs : List (Nat × Nat)} {vs : List Value}, ptrsDen ρ cs vs → SV.denL ρ (capK cs) vs
  | [], _, h => h
  | (l, f) :: r, _, ⟨x, a, q, e1, e2, e3, e4⟩ => ⟨_, q, e3, ⟨x, a, e1, e2, by simp⟩, capK_den e4⟩
def appSV : List SV → List SV → List SV
  | [], l => l
  | x :: r, l => x :: appSV r l
theorem appSV_den {ρ : List LocV} : ∀ {a b : List SV} {vs us : List Value}, SV.denL ρ a vs → SV.denL ρ b us → SV.denL ρ (appSV a b) (vs ++ us)
  | [], _, _, _, h, h' => by simp [SV.denL] at h; subst h; exact h'
  | _ :: _, _, _, _, ⟨v, r, e1, e2, e3⟩, h' => by subst e1; exact ⟨v, _, rfl, e2, appSV_den e3 h'⟩
/-- What the caller shows at the call. -/
def CallIn (sel : List (Option Nat)) (env : List (Nat × SV)) (chs : List Chunk) (fop : Operand) (xs : List Operand) (f : Nat) (args : List SV) (pre : List Chunk) : Prop :=
  match dstB sel pre with
  | true => opdK env fop (fun fv => match fv with
    | .one (.clo g caps) => match Nat.beq g f with
      | true => argsK env xs (fun svs => mSVL sel (appSV svs (capK caps)) args (mChs sel true chs sel pre True))
      | false => False
    | _ => False) False
  | false => False

theorem run_callOp {P : Program} {f : Nat} (h : FnOk P f) {o : Oper} {a : Act} {fop : Operand} {xs : List Operand} {ts : Array TypeId} (ho : o.op = .call { callee := .value fop, args := xs.toArray, argTypes := ts }) {caps : List Value} (hf : a.eval fop = .func (.func f) #[] caps.toArray) (w : World) :
    (execOp a.eval o).run P w = .ok (.enter f (xs.map a.eval ++ caps).toArray) w := by
  obtain ⟨fn, c, h1, h2, h3⟩ := h.ex
  simp [execOp, ho, resolve, hf, Deferred.ofValue, invoke, callFunc, h1, h2]
  simpa using h3

theorem call_core {P : Program} {nt : Nat} {F : Fr} {ρ : List LocV} {env : List (Nat × SV)} {chs : List Chunk} {a : Act} {w : World} {dst : Option Nat} {fop : Operand} {xs : List Operand} {f : Nat} {args : List SV} {pre : List Chunk} {Post : SV → List Chunk → Prop}
    (sel : List (Option Nat)) (hspec : FSpec P f args pre Post) (hin : CallIn sel env chs fop xs f args pre) (hs : Sat F nt ρ ⟨env, chs⟩ a w) :
    ∃ caps : List Value, a.eval fop = .func (.func f) #[] caps.toArray ∧ Calls P f (xs.map a.eval ++ caps).toArray w (fun e w' => ∃ v res post, e = .returned v ∧ Post res post ∧
      ∀ K : List (Nat × SV) → List Chunk → Prop, callK nt sel pre env chs dst res post K → ∃ env' chs' ρ', K env' chs' ∧ ρ <+: ρ' ∧ Sat F nt ρ' ⟨env', chs'⟩ (a.put dst v) w') := by
  classical
  -- what goes in
  unfold CallIn at hin
  split at hin
  · rename_i hdst
    rcases opdK_out hin with h | ⟨fv, hin2, hfv⟩
    · exact h.elim
    replace hin := hin2
    clear hin2
    split at hin
    · rename_i g caps
      split at hin
      · rename_i hg
        have := Nat.eq_of_beq_eq_true hg
        subst this
        obtain ⟨svs, hin2, hsvs⟩ := argsK_out hin
        obtain ⟨hin3, harg⟩ := mSVL_out hin2
        obtain ⟨_, hlen, hm1, hm2⟩ := mChs_out hin3
        obtain ⟨capv, hcap, hfe⟩ := hfv ρ a hs.env
        obtain ⟨hs', m⟩ := hs.mem
        have hr : RelL sel ρ (sel.map (locOf ρ)) := relL_map
        have hden := harg hr _ (appSV_den (hsvs ρ a hs.env) (capK_den hcap))
        -- the callee's frame: all else
        let used : Nat → Prop := fun b => ∃ j, hsel hs' sel pre j b ≠ none
        let F' : Fr := ⟨fun b => if used b then none else heapOf w b, F.os, F.tape, F.out⟩
        have hF'le : F'.h.le (heapOf w) := by
          intro b o hb
          simp only [F'] at hb
          split at hb
          · cases hb
          · exact hb
        have free : ∀ {h : Hp}, h.le (heapOf w) → (∀ j, h.dj (hsel hs' sel pre j)) → h.le F'.h := by
          intro h hle hdj b o hb
          simp only [F']
          rw [if_neg]
          · exact hle b o hb
          · rintro ⟨j, hj⟩
            rcases hdj j b with h1 | h1
            · rw [hb] at h1; cases h1
            · exact hj h1
        have hFF : F.h.le F'.h := free m.F.h (fun j => Hp.dj_symm (hsel_djF m.djF j))
        have hmem : Mem F' (sel.map (locOf ρ)) pre w := by
          refine ⟨hsel hs' sel pre, ?_, hsel_dj m.dj hdst, ?_, hsel_le m.le, ⟨m.F.os, m.F.tape, m.F.out, hF'le⟩⟩
          · intro j t ht
            have hj : j < sel.length := by have := (List.getElem?_eq_some_iff.1 ht).1; omega
            obtain ⟨x, hx⟩ : ∃ x, sel[j]? = some x := ⟨_, List.getElem?_eq_getElem hj⟩
            cases x with
            | none =>
              obtain ⟨t', ht', hmm⟩ := hm2 j hx
              rw [ht] at ht'; cases ht'
              exact mCh_nil hmm (hr.new j hx)
            | some i =>
              obtain ⟨c, t', hc, ht', hmm⟩ := hm1 j i hx
              rw [ht] at ht'; cases ht'
              refine (mCh_out hmm).2 hr hx hFF ?_ ?_ (m.ok i c hc)
              · intro hnd
                unfold hsel
                rw [hx, ht]
                simp only [hnd, if_true]
                exact Hp.le_refl _
              · intro _ hnd
                refine free (m.le i) (fun k => ?_)
                unfold hsel
                split
                · rename_i i' t' h1 h2
                  split
                  · rename_i hnt
                    by_cases e : i = i'
                    · subst e
                      have hjk : j ≠ k := by
                        intro e'; subst e'
                        rw [ht] at h2; cases h2
                        rw [hnd] at hnt; cases hnt
                      have := dstB_out hdst hjk hx h1 ht h2
                      rw [this.2] at hnt; cases hnt
                    · exact m.dj _ _ e
                  · exact Hp.dj_emp _
                · exact Hp.dj_emp _
          · intro j b
            by_cases hu : used b
            · right; simp only [F']; rw [if_pos hu]
            · left
              cases e : hsel hs' sel pre j b with
              | none => rfl
              | some o => exact absurd ⟨j, by rw [e]; simp⟩ hu
        have hcalls := hspec.go F' (sel.map (locOf ρ)) w _ (by simp [hlen]) hden hmem
        refine ⟨capv, hfe, hcalls.mono ?_⟩
        rintro e w' ⟨v, ρc, res, post, rfl, hpre, hlc, hP, hvd, hs2, m2⟩
        refine ⟨v, res, post, rfl, hP, fun K hk => ?_⟩
        unfold callK at hk
        have hk := fromK_out hk
        obtain ⟨is, rfl, hk⟩ := tauK_out hk
        obtain ⟨sv, hk, hsv⟩ := renSV_out hk
        obtain ⟨chs1, hk, hl1, hu⟩ := updK_out hk
        obtain ⟨hpl, hk⟩ := chDropK_out hk
        obtain ⟨new, hk, hl2, hnew⟩ := newsK_out hk
        rcases putK_out hk with h | ⟨s', hk, hput⟩
        · exact h.elim
        have hnl : ρ.length = chs.length := hs.len
        -- the new valuation
        have hrel : RelT (is ++ nats.drop chs.length) ρc (ρ ++ ρc.drop pre.length) := by
          intro j l hj x hx
          by_cases hjl : j < is.length
          · rw [List.getElem?_append_left hjl] at hj
            have hx' : (is.map some |>.map (locOf ρ))[j]? = some x := by
              have hlt : j < (is.map some |>.map (locOf ρ)).length := by simpa using hjl
              obtain ⟨y, hy⟩ : ∃ y, (is.map some |>.map (locOf ρ))[j]? = some y := ⟨_, List.getElem?_eq_getElem hlt⟩
              have := pre_get hpre hy
              rw [hx] at this; cases this; exact hy
            have hsl : (is.map some)[j]? = some (some l) := by simp [hj]
            obtain ⟨c, t', hc, _, _⟩ := hm1 j l hsl
            have hll : l < ρ.length := by rw [hnl]; exact (List.getElem?_eq_some_iff.1 hc).1
            obtain ⟨y, hy⟩ : ∃ y, ρ[l]? = some y := ⟨_, List.getElem?_eq_getElem hll⟩
            simp [hj, locOf, hy] at hx'
            subst hx'
            rw [List.getElem?_append_left hll]; exact hy
          · rw [List.getElem?_append_right (by omega)] at hj
            rw [nats_eq] at hj
            simp only [List.getElem?_drop, List.getElem?_range'] at hj
            have hj2 : chs.length + (j - is.length) = l := by
              have := List.getElem?_eq_some_iff.1 hj
              obtain ⟨_, q⟩ := this
              simpa using q
            subst hj2
            have hil : is.length = pre.length := by simpa using hlen
            rw [List.getElem?_append_right (by omega), hnl, Nat.add_sub_cancel_left, List.getElem?_drop, hil]
            rw [show pre.length + (j - pre.length) = j by omega]
            exact hx
        have hρρ : ρ <+: ρ ++ ρc.drop pre.length := ⟨_, rfl⟩
        refine ⟨_, _, ρ ++ ρc.drop pre.length, hk, hρρ, hput ⟨hs.nd, hs.nt, ?_, envOk_mono hρρ hs.env, ?_⟩ (hsv hrel v hvd)⟩
        · simp [hl1, hl2, hnl, hlc]
        -- the memory behind the call
        have sel_some : ∀ (j i : Nat), (is.map some)[j]? = some (some i) → is[j]? = some i := by intro j i h; simpa using h
        refine ⟨fun i => if h : ∃ j : Nat, (is.map some)[j]? = some (some i) ∧ ∃ p : Chunk, pre[j]? = some p ∧ needs p = true then hs2 h.choose else if i < chs.length then hs' i else hs2 (pre.length + (i - chs.length)), ?_, ?_, ?_, ?_, ⟨m2.F.os, m2.F.tape, m2.F.out, Hp.le_trans hFF m2.F.h⟩⟩
        · intro i c hc
          by_cases hil : i < chs1.length
          · rw [List.getElem?_append_left hil] at hc
            rcases hu i c hc with ⟨j, p, q, e1, e2, e3, e4, e5⟩ | ⟨e1, e2⟩
            · have hex : ∃ j : Nat, (is.map some)[j]? = some (some i) ∧ ∃ p : Chunk, pre[j]? = some p ∧ needs p = true := ⟨j, e4, p, e1, e2⟩
              simp only [dif_pos hex]
              have hch := hex.choose_spec
              have hjj : hex.choose = j := by
                by_cases q0 : hex.choose = j
                · exact q0
                · obtain ⟨g1, p', g2, g3⟩ := hch
                  have := dstB_out hdst q0 g1 e4 g2 e1
                  rw [this.2] at e2; cases e2
              rw [hjj]
              refine e5 hrel ?_ (m2.ok j q e3)
              intro x hx
              exact hrel j i (by rw [List.getElem?_append_left]; exact sel_some j i e4; have := (List.getElem?_eq_some_iff.1 (sel_some j i e4)).1; exact this) x hx
            · have hnex : ¬ ∃ j : Nat, (is.map some)[j]? = some (some i) ∧ ∃ p : Chunk, pre[j]? = some p ∧ needs p = true := by
                rintro ⟨j, h1, p, h2, h3⟩
                exact e1 j p h2 h3 h1
              simp only [dif_neg hnex]
              rw [if_pos (by omega)]
              exact chunk_ok_pre hρρ (m.ok i c e2)
          · rw [List.getElem?_append_right (by omega)] at hc
            obtain ⟨q, hq, hren⟩ := hnew _ _ hc
            have hnex : ¬ ∃ j : Nat, (is.map some)[j]? = some (some i) ∧ ∃ p : Chunk, pre[j]? = some p ∧ needs p = true := by
              rintro ⟨j, h1, _⟩
              obtain ⟨c, t', hc, _, _⟩ := hm1 j i h1
              have := (List.getElem?_eq_some_iff.1 hc).1
              omega
            simp only [dif_neg hnex]
            rw [if_neg (by omega)]
            rw [List.getElem?_drop, hl1] at hq
            refine hren hrel ?_ (m2.ok _ q hq)
            intro x hx
            rw [List.getElem?_append_right (by omega), List.getElem?_drop, hnl]
            exact hx
        · -- apart from one another
          have kept : ∀ i, (¬ ∃ j : Nat, (is.map some)[j]? = some (some i) ∧ ∃ p : Chunk, pre[j]? = some p ∧ needs p = true) → (hs' i).le F'.h := by
            intro i hn
            refine free (m.le i) (fun k => ?_)
            unfold hsel
            split
            · rename_i i' t' h1 h2
              split
              · rename_i hnt
                by_cases e : i = i'
                · subst e
                  exact absurd ⟨k, h1, t', h2, hnt⟩ hn
                · exact m.dj _ _ e
              · exact Hp.dj_emp _
            · exact Hp.dj_emp _
          intro i k hik
          by_cases h1 : ∃ j : Nat, (is.map some)[j]? = some (some i) ∧ ∃ p : Chunk, pre[j]? = some p ∧ needs p = true
          · have c1 := h1.choose_spec
            have c1l : h1.choose < pre.length := by obtain ⟨_, p, hp, _⟩ := c1; exact (List.getElem?_eq_some_iff.1 hp).1
            by_cases h2 : ∃ j : Nat, (is.map some)[j]? = some (some k) ∧ ∃ p : Chunk, pre[j]? = some p ∧ needs p = true
            · simp only [dif_pos h1, dif_pos h2]
              refine m2.dj _ _ (fun e => ?_)
              have c2 := h2.choose_spec
              rw [e] at c1
              have := c1.1.symm.trans c2.1
              simp at this
              exact hik this
            · simp only [dif_pos h1, dif_neg h2]
              split
              · exact Hp.dj_of_le (m2.djF _) (Hp.le_refl _) (kept k h2)
              · exact m2.dj _ _ (by omega)
          · by_cases h2 : ∃ j : Nat, (is.map some)[j]? = some (some k) ∧ ∃ p : Chunk, pre[j]? = some p ∧ needs p = true
            · have c2 := h2.choose_spec
              have c2l : h2.choose < pre.length := by obtain ⟨_, p, hp, _⟩ := c2; exact (List.getElem?_eq_some_iff.1 hp).1
              simp only [dif_neg h1, dif_pos h2]
              split
              · exact Hp.dj_symm (Hp.dj_of_le (m2.djF _) (Hp.le_refl _) (kept i h1))
              · exact m2.dj _ _ (by omega)
            · simp only [dif_neg h1, dif_neg h2]
              split
              · split
                · exact m.dj _ _ hik
                · exact Hp.dj_symm (Hp.dj_of_le (m2.djF _) (Hp.le_refl _) (kept i h1))
              · split
                · exact Hp.dj_of_le (m2.djF _) (Hp.le_refl _) (kept k h2)
                · exact m2.dj _ _ (by omega)
        · intro i
          by_cases h1 : ∃ j : Nat, (is.map some)[j]? = some (some i) ∧ ∃ p : Chunk, pre[j]? = some p ∧ needs p = true
          · simp only [dif_pos h1]; exact Hp.dj_of_le (m2.djF _) (Hp.le_refl _) hFF
          · simp only [dif_neg h1]
            split
            · exact m.djF i
            · exact Hp.dj_of_le (m2.djF _) (Hp.le_refl _) hFF
        · intro i
          by_cases h1 : ∃ j : Nat, (is.map some)[j]? = some (some i) ∧ ∃ p : Chunk, pre[j]? = some p ∧ needs p = true
          · simp only [dif_pos h1]; exact m2.le _
          · simp only [dif_neg h1]
            split
            · refine Hp.le_trans (free (m.le i) (fun k => ?_)) m2.F.h
              unfold hsel
              split
              · rename_i i' t' h2 h3
                split
                · rename_i hnt
                  by_cases e : i = i'
                  · subst e
                    exact absurd ⟨k, h2, t', h3, hnt⟩ h1
                  · exact m.dj _ _ e
                · exact Hp.dj_emp _
              · exact Hp.dj_emp _
            · exact m2.le _
      · exact hin.elim
    · exact hin.elim
  · exact hin.elim
theorem T_call0 {X : Cx} {all rest : List Oper} {ks : List KI} {env : List (Nat × SV)} {chs : List Chunk} {dst : Option Nat} {fop : Operand} {xs : List Operand} {ts : Array TypeId} {ty : TypeId} {pos : String} {after : Array Edge} {f : Nat} {args : List SV} {pre : List Chunk} {Post : SV → List Chunk → Prop}
    (sel : List (Option Nat)) (hspec : FSpec X.P f args pre Post) (hin : CallIn sel env chs fop xs f args pre) {C : List (Nat × SV) → List Chunk → Prop} (hC : ∀ env chs, C env chs → T X (.ops all rest :: ks) ⟨env, chs⟩)
    (hout : ∀ res post, Post res post → callK X.nt sel pre env chs dst res post C) :
    T X (.ops all ({ dst := dst, op := .call { callee := .value fop, args := xs.toArray, argTypes := ts }, type := ty, pos := pos, after := after, guard := none } :: rest) :: ks) ⟨env, chs⟩ := by
  refine ⟨fun hX F ρ a w hF hρ hs => ?_⟩
  show wpList _ _ _ (_ :: rest) a w
  unfold wpList
  rw [if_pos (by simp [Region.wanted])]
  refine .inl ?_
  obtain ⟨capv, hfe, hc⟩ := call_core (dst := dst) sel hspec hin hs
  unfold Oper.wp
  rw [run_callOp hspec.fn rfl hfe, Oper.upon_enter]
  refine hc.mono ?_
  rintro e w' ⟨v, res, post, rfl, hP, hk⟩
  obtain ⟨env', chs', ρ', h1, h2, h3⟩ := hk _ (hout res post hP)
  exact (hC _ _ h1).go hX F ρ' _ _ hF (hρ.trans h2) h3
/-- A CALL; the run goes on behind it. -/
theorem call {P : Program} {tb : Tab} {F : Fr} {nt n0 : Nat} {ρ0 : List LocV} {ro : List Chunk} {Q : Exit → Act → World → Prop} {all rest : List Oper} {ks : List KI} {env : List (Nat × SV)} {chs : List Chunk} {dst : Option Nat} {fop : Operand} {xs : List Operand} {ts : Array TypeId} {ty : TypeId} {pos : String} {after : Array Edge} {f : Nat} {args : List SV} {pre : List Chunk} {Post : SV → List Chunk → Prop}
    (sel : List (Option Nat)) (hspec : FSpec P f args pre Post) (hin : CallIn sel env chs fop xs f args pre)
    (hout : ∀ res post, Post res post → callK nt sel pre env chs dst res post (fun env chs => runT tb nt 600 (.ops all rest :: ks) env chs (fun ks env chs => T ⟨P, tb, F, nt, n0, ρ0, ro, Q⟩ ks ⟨env, chs⟩))) :
    T ⟨P, tb, F, nt, n0, ρ0, ro, Q⟩ (.ops all ({ dst := dst, op := .call { callee := .value fop, args := xs.toArray, argTypes := ts }, type := ty, pos := pos, after := after, guard := none } :: rest) :: ks) ⟨env, chs⟩ :=
  T_call0 (X := ⟨P, tb, F, nt, n0, ρ0, ro, Q⟩) sel hspec hin (fun env chs h => run 600 h) hout
end Go.Proofs.Ythdbhlpceodhlaa.Sx
