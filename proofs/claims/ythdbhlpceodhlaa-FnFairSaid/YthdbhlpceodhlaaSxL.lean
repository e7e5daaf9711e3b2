/- A part of the framework that the proofs of this seat stand on: a separation logic over the model's walks, with a runner that Lean evaluates. It is proved here, without conditions of its own. -/
import Derived.Test.YthdbhlpceodhlaaSxK
set_option linter.unusedVariables false
set_option linter.unusedSimpArgs false
namespace Go.Proofs.Ythdbhlpceodhlaa.Sx
open Go

/-! ### 21. regions that draw their order -/
def guardQ (tb : Tab) (nt : Nat) (all : List Oper) (o : Oper) (env : List (Nat × SV)) (chs : List Chunk) (K : List (Nat × SV) → Prop) (Z : Prop) : Prop :=
  match o.guard with
  | none => evalK tb env chs o.op (fun sv => putK nt o.dst sv env K Z) Z
  | some (j, want) => match all[j]? with
    | some oj => match oj.dst with
      | some d => match find env d with
        | some (.one (.lit b)) => match b, want with
          | true, true => evalK tb env chs o.op (fun sv => putK nt o.dst sv env K Z) Z
          | false, false => evalK tb env chs o.op (fun sv => putK nt o.dst sv env K Z) Z
          | _, _ => putK nt o.dst (.tup []) env K Z
        | some (.one (.pr p _)) => match Nat.blt d nt with
          | true => match want with
            | true => Br p (¬ p) (evalK tb ((d, .one (.lit true)) :: env) chs o.op (fun sv => putK nt o.dst sv ((d, .one (.lit true)) :: env) K Z) Z) (putK nt o.dst (.tup []) ((d, .one (.lit false)) :: env) K Z)
            | false => Br p (¬ p) (putK nt o.dst (.tup []) ((d, .one (.lit true)) :: env) K Z) (evalK tb ((d, .one (.lit false)) :: env) chs o.op (fun sv => putK nt o.dst sv ((d, .one (.lit false)) :: env) K Z) Z)
          | false => Z
        | some (.one (.bool c)) => match Nat.blt d nt with
          | true => match want with
            | true => Br (c = true) (c = false) (evalK tb ((d, .one (.lit true)) :: env) chs o.op (fun sv => putK nt o.dst sv ((d, .one (.lit true)) :: env) K Z) Z) (putK nt o.dst (.tup []) ((d, .one (.lit false)) :: env) K Z)
            | false => Br (c = true) (c = false) (putK nt o.dst (.tup []) ((d, .one (.lit true)) :: env) K Z) (evalK tb ((d, .one (.lit false)) :: env) chs o.op (fun sv => putK nt o.dst sv ((d, .one (.lit false)) :: env) K Z) Z)
          | false => Z
        | some (.tup []) => putK nt o.dst (.tup []) env K Z
        | _ => Z
      | none => Z
    | none => Z
/-- An operation of such a region, met or passed by; the memory stays. -/
def AdvQ (tb : Tab) (nt : Nat) (all : List Oper) (o : Oper) (chs : List Chunk) (env env' : List (Nat × SV)) : Prop :=
  ((∀ {F : Fr} {ρ : List LocV} {a : Act} {w : World}, Sat F nt ρ ⟨env, chs⟩ a w → Region.wanted o (yielded all.toArray a.tmps) = true) ∧
    ∀ {P : Program} {F : Fr} {ρ : List LocV} {a : Act} {w : World}, TabOk P tb → Sat F nt ρ ⟨env, chs⟩ a w → ∃ v, Sat F nt ρ ⟨env', chs⟩ (a.put o.dst v) w ∧ ∀ w', Mem F ρ chs w' → (execOp a.eval o).run P w' = .ok (.value v) w') ∨
  ((∀ {F : Fr} {ρ : List LocV} {a : Act} {w : World}, Sat F nt ρ ⟨env, chs⟩ a w → Region.wanted o (yielded all.toArray a.tmps) = false) ∧
    ∀ {F : Fr} {ρ : List LocV} {a : Act} {w : World}, Sat F nt ρ ⟨env, chs⟩ a w → Sat F nt ρ ⟨env', chs⟩ (a.put o.dst undef) w)
theorem sat_mem {F : Fr} {nt : Nat} {ρ : List LocV} {s : St} {a : Act} {w w' : World} (hs : Sat F nt ρ s a w) (h : Mem F ρ s.chs w') : Sat F nt ρ s a w' := ⟨hs.nd, hs.nt, hs.len, hs.env, h⟩
theorem evalQ {tb : Tab} {nt : Nat} {all : List Oper} {o : Oper} {env : List (Nat × SV)} {chs : List Chunk} {K : List (Nat × SV) → Prop} {Z : Prop}
    (hw : ∀ {F : Fr} {ρ : List LocV} {a : Act} {w : World}, Sat F nt ρ ⟨env, chs⟩ a w → Region.wanted o (yielded all.toArray a.tmps) = true)
    (h : evalK tb env chs o.op (fun sv => putK nt o.dst sv env K Z) Z) : Z ∨ ∃ env', K env' ∧ AdvQ tb nt all o chs env env' := by
  rcases evalK_out (s := ⟨env, chs⟩) h with h | ⟨sv, h, hev⟩
  · exact .inl h
  rcases putK_out h with h | ⟨env', h, hput⟩
  · exact .inl h
  refine .inr ⟨env', h, .inl ⟨hw, fun {P F ρ a w} ht hs => ?_⟩⟩
  obtain ⟨v, hv, _⟩ := hev ht hs
  refine ⟨v, hput hs hv, fun w' hm => ?_⟩
  obtain ⟨v', hv', hr⟩ := hev ht (sat_mem hs hm)
  rw [SV.den_fun hv hv']; exact hr
theorem advQ_lit {tb : Tab} {nt : Nat} {all : List Oper} {o : Oper} {env env' : List (Nat × SV)} {chs : List Chunk} {d : Nat} {b : Bool}
    (hl : ∀ {F : Fr} {ρ : List LocV} {a : Act} {w : World}, Sat F nt ρ ⟨env, chs⟩ a w → ∃ v, a.tmps[d]? = some v ∧ v = .bool b) (h : AdvQ tb nt all o chs ((d, .one (.lit b)) :: env) env') : AdvQ tb nt all o chs env env' := by
  rcases h with ⟨h1, h2⟩ | ⟨h1, h2⟩
  · exact .inl ⟨fun hs => h1 (sat_lit hs (hl hs)), fun ht hs => h2 ht (sat_lit hs (hl hs))⟩
  · exact .inr ⟨fun hs => h1 (sat_lit hs (hl hs)), fun hs => h2 (sat_lit hs (hl hs))⟩
theorem guardQ_out {tb : Tab} {nt : Nat} {all : List Oper} {o : Oper} {env : List (Nat × SV)} {chs : List Chunk} {K : List (Nat × SV) → Prop} {Z : Prop} (h : guardQ tb nt all o env chs K Z) : Z ∨ ∃ env', K env' ∧ AdvQ tb nt all o chs env env' := by
  unfold guardQ at h
  have skp : ∀ {env : List (Nat × SV)}, (∀ {F : Fr} {ρ : List LocV} {a : Act} {w : World}, Sat F nt ρ ⟨env, chs⟩ a w → Region.wanted o (yielded all.toArray a.tmps) = false) → putK nt o.dst (.tup []) env K Z → Z ∨ ∃ env', K env' ∧ AdvQ tb nt all o chs env env' := by
    intro env hw h
    rcases sat_skip (tb := tb) h with h | ⟨e', h1, h2⟩
    · exact .inl h
    · exact .inr ⟨e', h1, .inr ⟨hw, fun hs => h2 hs⟩⟩
  split at h
  · rename_i hg
    exact evalQ (fun _ => by simp [Region.wanted, hg]) h
  · rename_i j want hg
    split at h
    · rename_i oj hj
      split at h
      · rename_i d hd
        have wan : ∀ {env : List (Nat × SV)} {b : Bool}, find env d = some (.one (.lit b)) → ∀ {F : Fr} {ρ : List LocV} {a : Act} {w : World}, Sat F nt ρ ⟨env, chs⟩ a w → Region.wanted o (yielded all.toArray a.tmps) = (b == want) := by
          intro env b hf F ρ a w hs
          obtain ⟨v, h1, h2⟩ := hs.env d _ hf
          have h2 : v = .bool b := h2
          subst h2
          simp [Region.wanted, hg, yielded_eq hj hd h1]
        have here : ∀ {sv : SV} {r : List (Nat × SV)}, find ((d, sv) :: r) d = some sv := by intro sv r; simp [find]
        split at h
        · rename_i b hf
          split at h
          · exact evalQ (fun hs => by rw [wan hf hs]; rfl) h
          · exact evalQ (fun hs => by rw [wan hf hs]; rfl) h
          · rename_i hn1 hn2
            exact skp (fun hs => by rw [wan hf hs]; cases b <;> cases want <;> simp_all) h
        · rename_i p dp hf
          split at h
          · have conv : ∀ (b : Bool), (p ↔ b = true) → ∀ {F : Fr} {ρ : List LocV} {a : Act} {w : World}, Sat F nt ρ ⟨env, chs⟩ a w → ∃ v, a.tmps[d]? = some v ∧ v = .bool b := by
              intro b hp F ρ a w hs
              obtain ⟨v, h1, h2⟩ := hs.env d _ hf
              have h2 : v = .bool (@decide p dp) := h2
              refine ⟨v, h1, ?_⟩
              rw [h2]
              congr 1
              rw [Bool.eq_iff_iff]; simpa using hp
            have fin : ∀ {b : Bool}, (p ↔ b = true) → (Z ∨ ∃ env', K env' ∧ AdvQ tb nt all o chs ((d, .one (.lit b)) :: env) env') → Z ∨ ∃ env', K env' ∧ AdvQ tb nt all o chs env env' := by
              rintro b hp (h | ⟨e', h1, h2⟩)
              · exact .inl h
              · exact .inr ⟨e', h1, advQ_lit (conv b hp) h2⟩
            split at h
            · by_cases hp : p
              · exact fin (b := true) (by simp [hp]) (evalQ (fun hs => by rw [wan here hs]; rfl) (h.t hp))
              · exact fin (b := false) (by simp [hp]) (skp (fun hs => by rw [wan here hs]; rfl) (h.f hp))
            · by_cases hp : p
              · exact fin (b := true) (by simp [hp]) (skp (fun hs => by rw [wan here hs]; rfl) (h.t hp))
              · exact fin (b := false) (by simp [hp]) (evalQ (fun hs => by rw [wan here hs]; rfl) (h.f hp))
          · exact .inl h
        · rename_i c hf
          split at h
          · have conv : ∀ (b : Bool), c = b → ∀ {F : Fr} {ρ : List LocV} {a : Act} {w : World}, Sat F nt ρ ⟨env, chs⟩ a w → ∃ v, a.tmps[d]? = some v ∧ v = .bool b := by
              intro b hp F ρ a w hs
              obtain ⟨v, h1, h2⟩ := hs.env d _ hf
              have h2 : v = .bool c := h2
              exact ⟨v, h1, by rw [h2, hp]⟩
            have fin : ∀ {b : Bool}, c = b → (Z ∨ ∃ env', K env' ∧ AdvQ tb nt all o chs ((d, .one (.lit b)) :: env) env') → Z ∨ ∃ env', K env' ∧ AdvQ tb nt all o chs env env' := by
              rintro b hp (h | ⟨e', h1, h2⟩)
              · exact .inl h
              · exact .inr ⟨e', h1, advQ_lit (conv b hp) h2⟩
            split at h
            · cases hp : c with
              | true => exact fin hp (evalQ (fun hs => by rw [wan here hs]; rfl) (h.t hp))
              | false => exact fin hp (skp (fun hs => by rw [wan here hs]; rfl) (h.f hp))
            · cases hp : c with
              | true => exact fin hp (skp (fun hs => by rw [wan here hs]; rfl) (h.t hp))
              | false => exact fin hp (evalQ (fun hs => by rw [wan here hs]; rfl) (h.f hp))
          · exact .inl h
        · rename_i hf
          refine skp (fun {F ρ a w} hs => ?_) h
          obtain ⟨v, h1, cs, h2, h3⟩ := hs.env d _ hf
          subst h2
          simp [Region.wanted, hg, yielded, hj, hd, h1]
        · exact .inl h
      · exact .inl h
    · exact .inl h

structure TQ (X : Cx) (all rest : List Oper) (ks : List KI) (s : St) : Prop where
  go : Ok X → ∀ F ρ a w, Fle X.F F → X.ρ0 <+: ρ → Sat F X.nt ρ s a w → wpQuiet X.P all.toArray (fun w' => Mem F ρ s.chs w') (fun a' => ∀ w', Mem F ρ s.chs w' → runK X.P X.Q ks .normal a' w') rest a
theorem TQ_nil {X : Cx} {all : List Oper} {ks : List KI} {s : St} (h : T X ks s) : TQ X all [] ks s :=
  ⟨fun hX F ρ a w hF hρ hs w' hm => h.go hX F ρ a w' hF hρ (sat_mem hs hm)⟩
theorem TQ_adv {X : Cx} {all rest : List Oper} {o : Oper} {ks : List KI} {env env' : List (Nat × SV)} {chs : List Chunk} (hst : AdvQ X.tb X.nt all o chs env env') (h : TQ X all rest ks ⟨env', chs⟩) : TQ X all (o :: rest) ks ⟨env, chs⟩ := by
  refine ⟨fun hX F ρ a w hF hρ hs => ?_⟩
  unfold wpQuiet
  rcases hst with ⟨h1, h2⟩ | ⟨h1, h2⟩
  · rw [if_pos (h1 hs)]
    obtain ⟨v, hs', hr⟩ := h2 hX.tab hs
    refine ⟨v, fun w' hm => ?_, h.go hX F ρ _ w hF hρ hs'⟩
    unfold Oper.quietAt
    rw [hr w' hm]
    exact ⟨rfl, rfl⟩
  · rw [if_neg (by rw [h1 hs]; simp)]
    exact h.go hX F ρ _ w hF hρ (h2 hs)
/-- A call that only reads, among others in open order: its answer is told ahead. -/
theorem TQ_call0 {X : Cx} {all rest : List Oper} {ks : List KI} {env : List (Nat × SV)} {chs : List Chunk} {d : Nat} {fop : Operand} {xs : List Operand} {ts : Array TypeId} {ty : TypeId} {pos : String} {after : Array Edge} {g : Option (Nat × Bool)} {f : Nat} {args : List SV} {pre : List Chunk} {Post : SV → List Chunk → Prop}
    (hg : ∀ {F : Fr} {ρ : List LocV} {a : Act} {w : World}, Sat F X.nt ρ ⟨env, chs⟩ a w → Region.wanted { dst := some d, op := .call { callee := .value fop, args := xs.toArray, argTypes := ts }, type := ty, pos := pos, after := after, guard := g } (yielded all.toArray a.tmps) = true)
    (sel : List (Option Nat)) (r : SV) (v : Value) (hv : ∀ ρ, r.den ρ v) (hspec : FSpec X.P f args pre Post) (hin : CallIn sel env chs fop xs f args pre)
    (hd : Nat.blt d X.nt = true) (hout : ∀ res post, Post res post → callK X.nt sel pre env chs (some d) res post (fun env' chs' => env' = (d, r) :: env ∧ chs' = chs))
    (h : TQ X all rest ks ⟨(d, r) :: env, chs⟩) :
    TQ X all ({ dst := some d, op := .call { callee := .value fop, args := xs.toArray, argTypes := ts }, type := ty, pos := pos, after := after, guard := g } :: rest) ks ⟨env, chs⟩ := by
  refine ⟨fun hX F ρ a w hF hρ hs => ?_⟩
  unfold wpQuiet
  rw [if_pos (hg hs)]
  have hlt : d < a.tmps.size := by rw [hs.nt]; simpa [Nat.blt_eq] using hd
  refine ⟨v, fun w' hm => ?_, h.go hX F ρ _ w hF hρ ⟨hs.nd, by rw [put_size]; exact hs.nt, hs.len, envOk_put hs.env hlt (hv ρ), hs.mem⟩⟩
  obtain ⟨capv, hfe, hc⟩ := call_core (dst := some d) sel hspec hin (sat_mem hs hm)
  unfold Oper.quietAt
  rw [run_callOp hspec.fn rfl hfe]
  refine ⟨rfl, hc.mono ?_⟩
  rintro e w'' ⟨u, res, post, rfl, hP, hk⟩
  obtain ⟨env', chs', ρ', ⟨rfl, rfl⟩, h2, h3⟩ := hk _ (hout res post hP)
  have hρ' : ρ' = ρ := by
    obtain ⟨t, rfl⟩ := h2
    have := h3.len
    have hl := hs.len
    simp at this
    simp at hl
    have : t = [] := List.eq_nil_of_length_eq_zero (by omega)
    simp [this]
  subst hρ'
  obtain ⟨u', e1, e2⟩ := h3.env d r (by simp [find])
  have e3 : (a.put (some d) u).tmps[d]? = some u := by simp [Act.put, hlt]
  rw [e3] at e1
  cases e1
  exact ⟨by rw [SV.den_fun e2 (hv _)], h3.mem⟩
def runQ (tb : Tab) (nt : Nat) (all : List Oper) (chs : List Chunk) : List Oper → List (Nat × SV) → (List Oper → List (Nat × SV) → Prop) → Prop
  | [], env, C => C [] env
  | o :: r, env, C => guardQ tb nt all o env chs (fun env => runQ tb nt all chs r env C) (C (o :: r) env)
def endQ (X : Cx) (all : List Oper) (ks : List KI) (chs : List Chunk) (rest : List Oper) (env : List (Nat × SV)) : Prop :=
  match rest with
  | [] => T X ks ⟨env, chs⟩
  | o :: r => TQ X all (o :: r) ks ⟨env, chs⟩
theorem runQ_TQ {X : Cx} {all : List Oper} {ks : List KI} {chs : List Chunk} : ∀ {rest : List Oper} {env : List (Nat × SV)}, runQ X.tb X.nt all chs rest env (fun rest env => endQ X all ks chs rest env) → TQ X all rest ks ⟨env, chs⟩
  | [], env, h => TQ_nil h
  | o :: r, env, h => by
    rcases guardQ_out h with h | ⟨env', h1, h2⟩
    · exact h
    · exact TQ_adv h2 (runQ_TQ h1)
theorem T_quiet0 {X : Cx} {id : Nat} {l : List Oper} {ks : List KI} {s : St} (hB : Region.lexB .any l.toArray = true) (h : TQ X l l ks s) : T X (.code (.region id l.toArray true) :: ks) s := by
  refine ⟨fun hX F ρ a w hF hρ hs => ?_⟩
  refine wp_region_quiet (C := fun w' => Mem F ρ s.chs w') hX.tab.2 hB (mem_world hs.mem rfl rfl rfl rfl) ?_
  simpa using h.go hX F ρ a w hF hρ hs
/-- .. the end: on with the run. -/
def endR (P : Program) (tb : Tab) (F : Fr) (nt n0 : Nat) (ρ0 : List LocV) (ro : List Chunk) (Q : Exit → Act → World → Prop) (all : List Oper) (ks : List KI) (chs : List Chunk) (rest : List Oper) (env : List (Nat × SV)) : Prop :=
  match rest with
  | [] => runT tb nt 600 ks env chs (fun ks env chs => T ⟨P, tb, F, nt, n0, ρ0, ro, Q⟩ ks ⟨env, chs⟩)
  | o :: r => TQ ⟨P, tb, F, nt, n0, ρ0, ro, Q⟩ all (o :: r) ks ⟨env, chs⟩
theorem runQ_R {P : Program} {tb : Tab} {F : Fr} {nt n0 : Nat} {ρ0 : List LocV} {ro : List Chunk} {Q : Exit → Act → World → Prop} {all : List Oper} {ks : List KI} {chs : List Chunk} : ∀ {rest : List Oper} {env : List (Nat × SV)}, runQ tb nt all chs rest env (fun rest env => endR P tb F nt n0 ρ0 ro Q all ks chs rest env) → TQ ⟨P, tb, F, nt, n0, ρ0, ro, Q⟩ all rest ks ⟨env, chs⟩
  | [], env, h => TQ_nil (run 600 h)
  | o :: r, env, h => by
    rcases guardQ_out h with h | ⟨env', h1, h2⟩
    · exact h
    · exact TQ_adv (X := ⟨P, tb, F, nt, n0, ρ0, ro, Q⟩) h2 (runQ_R h1)
/-- A REGION THAT DRAWS ITS ORDER AND ONLY READS. -/
theorem quiet {P : Program} {tb : Tab} {F : Fr} {nt n0 : Nat} {ρ0 : List LocV} {ro : List Chunk} {Q : Exit → Act → World → Prop} {id : Nat} {l : List Oper} {ks : List KI} {env : List (Nat × SV)} {chs : List Chunk} (hB : Region.lexB .any l.toArray = true)
    (h : runQ tb nt l chs l env (fun rest env => endR P tb F nt n0 ρ0 ro Q l ks chs rest env)) : T ⟨P, tb, F, nt, n0, ρ0, ro, Q⟩ (.code (.region id l.toArray true) :: ks) ⟨env, chs⟩ := T_quiet0 hB (runQ_R h)
/-- .. and on behind a call in it. -/
theorem quiet_on {P : Program} {tb : Tab} {F : Fr} {nt n0 : Nat} {ρ0 : List LocV} {ro : List Chunk} {Q : Exit → Act → World → Prop} {all rest : List Oper} {ks : List KI} {env : List (Nat × SV)} {chs : List Chunk}
    (h : runQ tb nt all chs rest env (fun rest env => endR P tb F nt n0 ρ0 ro Q all ks chs rest env)) : TQ ⟨P, tb, F, nt, n0, ρ0, ro, Q⟩ all rest ks ⟨env, chs⟩ := runQ_R h

structure TS (X : Cx) (all rest : List Oper) (tl : List Oper) (ks : List KI) (s : St) : Prop where
  go : Ok X → ∀ F ρ a w, Fle X.F F → X.ρ0 <+: ρ → Sat F X.nt ρ s a w → wpStill X.P all.toArray w (fun a' => wpList X.P all.toArray (runK X.P X.Q ks) tl a' w) rest a
theorem TS_adv {X : Cx} {all rest tl : List Oper} {o : Oper} {ks : List KI} {env env' : List (Nat × SV)} {chs : List Chunk} (hst : AdvQ X.tb X.nt all o chs env env') (h : TS X all rest tl ks ⟨env', chs⟩) : TS X all (o :: rest) tl ks ⟨env, chs⟩ := by
  refine ⟨fun hX F ρ a w hF hρ hs => ?_⟩
  unfold wpStill
  rcases hst with ⟨h1, h2⟩ | ⟨h1, h2⟩
  · rw [if_pos (h1 hs)]
    obtain ⟨v, hs', hr⟩ := h2 hX.tab hs
    unfold Oper.still
    rw [hr w hs.mem]
    exact ⟨rfl, h.go hX F ρ _ w hF hρ hs'⟩
  · rw [if_neg (by rw [h1 hs]; simp)]
    exact h.go hX F ρ _ w hF hρ (h2 hs)
def endS (P : Program) (tb : Tab) (F : Fr) (nt n0 : Nat) (ρ0 : List LocV) (ro : List Chunk) (Q : Exit → Act → World → Prop) (all tl : List Oper) (ks : List KI) (chs : List Chunk) (rest : List Oper) (env : List (Nat × SV)) : Prop :=
  match rest with
  | [] => runT tb nt 600 (.ops all tl :: ks) env chs (fun ks env chs => T ⟨P, tb, F, nt, n0, ρ0, ro, Q⟩ ks ⟨env, chs⟩)
  | o :: r => TS ⟨P, tb, F, nt, n0, ρ0, ro, Q⟩ all (o :: r) tl ks ⟨env, chs⟩
theorem runQ_TS {P : Program} {tb : Tab} {F : Fr} {nt n0 : Nat} {ρ0 : List LocV} {ro : List Chunk} {Q : Exit → Act → World → Prop} {all tl : List Oper} {ks : List KI} {chs : List Chunk} : ∀ {rest : List Oper} {env : List (Nat × SV)}, runQ tb nt all chs rest env (fun rest env => endS P tb F nt n0 ρ0 ro Q all tl ks chs rest env) → TS ⟨P, tb, F, nt, n0, ρ0, ro, Q⟩ all rest tl ks ⟨env, chs⟩
  | [], env, h => by
    have h : runT tb nt 600 (.ops all tl :: ks) env chs (fun ks env chs => T ⟨P, tb, F, nt, n0, ρ0, ro, Q⟩ ks ⟨env, chs⟩) := h
    exact ⟨fun hX G ρ a w hF hρ hs => (run 600 h).go hX G ρ a w hF hρ hs⟩
  | o :: r, env, h => by
    rcases guardQ_out h with h | ⟨env', h1, h2⟩
    · exact h
    · exact TS_adv (X := ⟨P, tb, F, nt, n0, ρ0, ro, Q⟩) h2 (runQ_TS h1)
def takeOps : Nat → List Oper → List Oper
  | 0, _ => []
  | _ + 1, [] => []
  | n + 1, o :: r => o :: takeOps n r
def dropOps : Nat → List Oper → List Oper
  | 0, l => l
  | _ + 1, [] => []
  | n + 1, _ :: r => dropOps n r
theorem takeOps_eq : ∀ (n : Nat) (l : List Oper), takeOps n l = l.take n
  | 0, l => by simp [takeOps]
  | n + 1, [] => by simp [takeOps]
  | n + 1, o :: r => by simp [takeOps, takeOps_eq n r]
theorem dropOps_eq : ∀ (n : Nat) (l : List Oper), dropOps n l = l.drop n
  | 0, l => by simp [dropOps]
  | n + 1, [] => by simp [dropOps]
  | n + 1, o :: r => by simp [dropOps, dropOps_eq n r]
/-- A REGION THAT DRAWS THE ORDER OF ITS FIRST n OPERATIONS, WHICH ONLY READ; the others follow in the text's order. -/
theorem tail {P : Program} {tb : Tab} {F : Fr} {nt n0 : Nat} {ρ0 : List LocV} {ro : List Chunk} {Q : Exit → Act → World → Prop} {id : Nat} {l : List Oper} {ks : List KI} {env : List (Nat × SV)} {chs : List Chunk} (n : Nat) (hB : Region.lexTailB .any l.toArray n = true)
    (h : runQ tb nt l chs (takeOps n l) env (fun rest env => endS P tb F nt n0 ρ0 ro Q l (dropOps n l) ks chs rest env)) : T ⟨P, tb, F, nt, n0, ρ0, ro, Q⟩ (.code (.region id l.toArray true) :: ks) ⟨env, chs⟩ := by
  refine ⟨fun hX F ρ a w hF hρ hs => ?_⟩
  refine wp_region_still_tail n hX.tab.2 hB ?_
  have := (runQ_TS h).go hX F ρ a { w with drawn := w.drawn + 1 } hF hρ (sat_mem hs (mem_world hs.mem rfl rfl rfl rfl))
  rwa [takeOps_eq, dropOps_eq] at this
end Go.Proofs.Ythdbhlpceodhlaa.Sx
