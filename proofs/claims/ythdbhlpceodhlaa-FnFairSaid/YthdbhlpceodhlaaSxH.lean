/- A part of the framework that the proofs of this seat stand on: a separation logic over the model's walks, with a runner that Lean evaluates. It is proved here, without conditions of its own. -/
import Derived.Test.YthdbhlpceodhlaaSxG
set_option linter.unusedVariables false
set_option linter.unusedSimpArgs false
namespace Go.Proofs.Ythdbhlpceodhlaa.Sx
open Go

/-- Another word for the same state. -/
theorem T_conv {X : Cx} {ks : List KI} {s s' : St} (hc : Ok X → ∀ F ρ a w, Fle X.F F → X.ρ0 <+: ρ → Sat F X.nt ρ s a w → ∃ F' ρ', Fle F F' ∧ X.ρ0 <+: ρ' ∧ Sat F' X.nt ρ' s' a w) (h : T X ks s') : T X ks s :=
  ⟨fun ht F ρ a w hF hρ hs => by
    obtain ⟨F', ρ', h0, h1, h2⟩ := hc ht F ρ a w hF hρ hs
    exact h.go ht F' ρ' a w (hF.trans h0) h1 h2⟩
theorem sat_lit {F : Fr} {nt : Nat} {ρ : List LocV} {s : St} {a : Act} {w : World} {d : Nat} {b : Bool} (hs : Sat F nt ρ s a w) (h : ∃ v, a.tmps[d]? = some v ∧ v = .bool b) : Sat F nt ρ ⟨(d, .one (.lit b)) :: s.env, s.chs⟩ a w :=
  ⟨hs.nd, hs.nt, hs.len, fun k sv hk => by
    simp only [find] at hk
    cases e : Nat.beq d k with
    | true =>
      rw [e] at hk; cases hk
      have := Nat.eq_of_beq_eq_true e
      subst this
      exact h
    | false => rw [e] at hk; exact hs.env k sv hk, hs.mem⟩
theorem sat_skip {tb : Tab} {nt : Nat} {o : Oper} {env : List (Nat × SV)} {K : List (Nat × SV) → Prop} {Z : Prop} (h : putK nt o.dst (.tup []) env K Z) : Z ∨ ∃ env', K env' ∧ ∀ {F : Fr} {ρ : List LocV} {chs : List Chunk} {a : Act} {w : World}, Sat F nt ρ ⟨env, chs⟩ a w → Sat F nt ρ ⟨env', chs⟩ (a.put o.dst undef) w := by
  rcases putK_out h with h | ⟨s', h, h2⟩
  · exact .inl h
  · exact .inr ⟨s', h, fun hs => h2 hs ⟨[], rfl, rfl⟩⟩
/-- An operation that is met or passed by. -/
def Adv (tb : Tab) (nt : Nat) (all : List Oper) (o : Oper) (s s' : St) : Prop :=
  ((∀ {F : Fr} {ρ : List LocV} {a : Act} {w : World}, Sat F nt ρ s a w → Region.wanted o (yielded all.toArray a.tmps) = true) ∧ StepTo tb nt o s s') ∨
  ((∀ {F : Fr} {ρ : List LocV} {a : Act} {w : World}, Sat F nt ρ s a w → Region.wanted o (yielded all.toArray a.tmps) = false) ∧ ∀ {F : Fr} {ρ : List LocV} {a : Act} {w : World}, Sat F nt ρ s a w → Sat F nt ρ s' (a.put o.dst undef) w)
theorem T_adv {X : Cx} {all rest : List Oper} {o : Oper} {ks : List KI} {s s' : St} (hst : Adv X.tb X.nt all o s s') (h : T X (.ops all rest :: ks) s') : T X (.ops all (o :: rest) :: ks) s := by
  rcases hst with ⟨h1, h2⟩ | ⟨h1, h2⟩
  · exact T_op (fun a F ρ w hs => h1 hs) h2 h
  · exact T_skipop (fun a F ρ w hs => h1 hs) (fun a F ρ w hs => h2 hs) h
theorem yielded_eq {all : List Oper} {a : Act} {j d : Nat} {oj : Oper} {b : Bool} (h1 : all[j]? = some oj) (h2 : oj.dst = some d) (h3 : a.tmps[d]? = some (.bool b)) : yielded all.toArray a.tmps j = some b := by
  simp [yielded, h1, h2, h3]
theorem guardK_T {X : Cx} {all rest : List Oper} {o : Oper} {ks : List KI} {env : List (Nat × SV)} {chs : List Chunk} {K : List (Nat × SV) → List Chunk → Prop} {Z : Prop} (h : guardK X.tb X.nt all o env chs K Z) (hK : ∀ env' chs', K env' chs' → T X (.ops all rest :: ks) ⟨env', chs'⟩) (hZ : Z → T X (.ops all (o :: rest) :: ks) ⟨env, chs⟩) :
    T X (.ops all (o :: rest) :: ks) ⟨env, chs⟩ := by
  unfold guardK at h
  have eff : ∀ {env : List (Nat × SV)}, (∀ {F : Fr} {ρ : List LocV} {a : Act} {w : World}, Sat F X.nt ρ ⟨env, chs⟩ a w → Region.wanted o (yielded all.toArray a.tmps) = true) → effK X.tb X.nt env chs o K Z → Z ∨ T X (.ops all (o :: rest) :: ks) ⟨env, chs⟩ := by
    intro env hw h
    rcases effK_out h with h | ⟨e', c', h1, h2⟩
    · exact .inl h
    · exact .inr (T_adv (.inl ⟨hw, h2⟩) (hK e' c' h1))
  have skp : ∀ {env : List (Nat × SV)}, (∀ {F : Fr} {ρ : List LocV} {a : Act} {w : World}, Sat F X.nt ρ ⟨env, chs⟩ a w → Region.wanted o (yielded all.toArray a.tmps) = false) → putK X.nt o.dst (.tup []) env (fun env => K env chs) Z → Z ∨ T X (.ops all (o :: rest) :: ks) ⟨env, chs⟩ := by
    intro env hw h
    rcases sat_skip (tb := X.tb) h with h | ⟨s', h1, h2⟩
    · exact .inl h
    · exact .inr (T_adv (.inr ⟨hw, h2⟩) (hK s' chs h1))
  split at h
  · rename_i hg
    exact (eff (fun _ => by simp [Region.wanted, hg]) h).elim hZ id
  · rename_i j want hg
    split at h
    · rename_i oj hj
      split at h
      · rename_i d hd
        have wan : ∀ {env : List (Nat × SV)} {b : Bool}, find env d = some (.one (.lit b)) → ∀ {F : Fr} {ρ : List LocV} {a : Act} {w : World}, Sat F X.nt ρ ⟨env, chs⟩ a w → Region.wanted o (yielded all.toArray a.tmps) = (b == want) := by
          intro env b hf F ρ a w hs
          obtain ⟨v, h1, h2⟩ := hs.env d _ hf
          have h2 : v = .bool b := h2
          subst h2
          simp [Region.wanted, hg, yielded_eq hj hd h1]
        have here : ∀ {sv : SV} {r : List (Nat × SV)}, find ((d, sv) :: r) d = some sv := by intro sv r; simp [find]
        split at h
        · rename_i b hf
          split at h
          · exact (eff (fun hs => by rw [wan hf hs]; rfl) h).elim hZ id
          · exact (eff (fun hs => by rw [wan hf hs]; rfl) h).elim hZ id
          · rename_i hn1 hn2
            exact (skp (fun hs => by rw [wan hf hs]; cases b <;> cases want <;> simp_all) h).elim hZ id
        · rename_i p dp hf
          split at h
          · have conv : ∀ (b : Bool), (p ↔ b = true) → Ok X → ∀ F ρ a w, Fle X.F F → X.ρ0 <+: ρ → Sat F X.nt ρ ⟨env, chs⟩ a w → ∃ F' ρ', Fle F F' ∧ X.ρ0 <+: ρ' ∧ Sat F' X.nt ρ' ⟨(d, .one (.lit b)) :: env, chs⟩ a w := by
              intro b hp _ F ρ a w _ hρ hs
              refine ⟨F, ρ, Fle.refl F, hρ, sat_lit hs ?_⟩
              obtain ⟨v, h1, h2⟩ := hs.env d _ hf
              have h2 : v = .bool (@decide p dp) := h2
              refine ⟨v, h1, ?_⟩
              rw [h2]
              congr 1
              rw [Bool.eq_iff_iff]; simpa using hp
            split at h
            · by_cases hp : p
              · exact (eff (fun hs => by rw [wan here hs]; rfl) (h.t hp)).elim hZ (T_conv (conv true (by simp [hp])))
              · exact (skp (fun hs => by rw [wan here hs]; rfl) (h.f hp)).elim hZ (T_conv (conv false (by simp [hp])))
            · by_cases hp : p
              · exact (skp (fun hs => by rw [wan here hs]; rfl) (h.t hp)).elim hZ (T_conv (conv true (by simp [hp])))
              · exact (eff (fun hs => by rw [wan here hs]; rfl) (h.f hp)).elim hZ (T_conv (conv false (by simp [hp])))
          · exact hZ h
        · rename_i c hf
          split at h
          · have conv : ∀ (b : Bool), c = b → Ok X → ∀ F ρ a w, Fle X.F F → X.ρ0 <+: ρ → Sat F X.nt ρ ⟨env, chs⟩ a w → ∃ F' ρ', Fle F F' ∧ X.ρ0 <+: ρ' ∧ Sat F' X.nt ρ' ⟨(d, .one (.lit b)) :: env, chs⟩ a w := by
              intro b hp _ F ρ a w _ hρ hs
              refine ⟨F, ρ, Fle.refl F, hρ, sat_lit hs ?_⟩
              obtain ⟨v, h1, h2⟩ := hs.env d _ hf
              have h2 : v = .bool c := h2
              exact ⟨v, h1, by rw [h2, hp]⟩
            split at h
            · cases hp : c with
              | true => exact (eff (fun hs => by rw [wan here hs]; rfl) (h.t hp)).elim hZ (T_conv (conv true hp))
              | false => exact (skp (fun hs => by rw [wan here hs]; rfl) (h.f hp)).elim hZ (T_conv (conv false hp))
            · cases hp : c with
              | true => exact (skp (fun hs => by rw [wan here hs]; rfl) (h.t hp)).elim hZ (T_conv (conv true hp))
              | false => exact (eff (fun hs => by rw [wan here hs]; rfl) (h.f hp)).elim hZ (T_conv (conv false hp))
          · exact hZ h
        · rename_i hf
          refine (skp (fun {F ρ a w} hs => ?_) h).elim hZ id
          obtain ⟨v, h1, cs, h2, h3⟩ := hs.env d _ hf
          subst h2
          simp [Region.wanted, hg, yielded, hj, hd, h1]
        · exact hZ h
      · exact hZ h
    · exact hZ h
theorem T_cond {X : Cx} {c : Operand} {x y : Code} {ks : List KI} {s : St} {sv : SV} {p : Prop} (b : p ∨ ¬ p)
    (he : ∀ ρ a, EnvOk ρ s.env a → a.eval c = .bool (@decide p (Classical.propDecidable p))) (h1 : p → T X (.code x :: ks) s) (h2 : ¬ p → T X (.code y :: ks) s) : T X (.code (.cond c x y) :: ks) s := by
  refine ⟨fun ht F ρ a w hF hρ hs => ?_⟩
  have e := he ρ a hs.env
  rcases b with hp | hp
  · exact wp_cond_true (by rw [e]; simp [hp]) ((h1 hp).go ht F ρ a w hF hρ hs)
  · exact wp_cond_false (by rw [e]; simp [hp]) ((h2 hp).go ht F ρ a w hF hρ hs)
/-- THE RUN. -/
theorem runT_T {X : Cx} : ∀ {n : Nat} {ks : List KI} {env : List (Nat × SV)} {chs : List Chunk}, runT X.tb X.nt n ks env chs (fun ks env chs => T X ks ⟨env, chs⟩) → T X ks ⟨env, chs⟩
  | 0, ks, env, chs, h => h
  | n + 1, ks, env, chs, h => by
    unfold runT at h
    split at h
    · rename_i c r
      split at h
      · exact T_skip (runT_T h)
      · exact T_seq (runT_T h)
      · exact T_block (runT_T h)
      · rename_i id ops
        have : ops = ops.toList.toArray := by simp
        rw [this]
        exact T_region (runT_T h)
      · split at h
        · rename_i r' he
          exact T_exit he (runT_T h)
        · exact h
      · rename_i c x y
        rcases opdK_out h with h | ⟨sv, h, hsv⟩
        · exact h
        split at h
        · refine T_cond (sv := .one (.lit true)) (p := True) (.inl trivial) (fun ρ a he => ?_) (fun _ => runT_T h) (fun hn => absurd trivial hn)
          have : a.eval c = .bool true := hsv ρ a he
          simp [this]
        · refine T_cond (sv := .one (.lit true)) (p := False) (.inr id) (fun ρ a he => ?_) (fun hn => absurd hn id) (fun _ => runT_T h)
          have : a.eval c = .bool false := hsv ρ a he
          simp [this]
        · rename_i p dp
          refine T_cond (sv := .one (.lit true)) (p := p) (Classical.em p) (fun ρ a he => ?_) (fun hp => runT_T (h.t hp)) (fun hp => runT_T (h.f hp))
          have : a.eval c = .bool (@decide p dp) := hsv ρ a he
          rw [this]
          congr 1
          rw [Bool.eq_iff_iff]; simp
        · rename_i b
          refine T_cond (sv := .one (.lit true)) (p := b = true) (Classical.em _) (fun ρ a he => ?_) (fun hp => runT_T (h.t hp)) (fun hp => runT_T (h.f (by simpa using hp)))
          have : a.eval c = .bool b := hsv ρ a he
          rw [this]
          congr 1
          rw [Bool.eq_iff_iff]; simp
        · exact h
      · exact h
    · exact T_blk (runT_T h)
    · rename_i all rest r
      split at h
      · exact T_ops_nil (runT_T h)
      · rename_i o rest
        exact guardK_T h (fun e' c' hs' => runT_T hs') id
    · exact h
/-- Run it: what is left stands as T's. -/
theorem run {P : Program} {tb : Tab} {F : Fr} {nt n0 : Nat} {ρ0 : List LocV} {ro : List Chunk} {Q : Exit → Act → World → Prop} (n : Nat) {ks : List KI} {env : List (Nat × SV)} {chs : List Chunk}
    (h : runT tb nt n ks env chs (fun ks env chs => T ⟨P, tb, F, nt, n0, ρ0, ro, Q⟩ ks ⟨env, chs⟩)) : T ⟨P, tb, F, nt, n0, ρ0, ro, Q⟩ ks ⟨env, chs⟩ := runT_T h
end Go.Proofs.Ythdbhlpceodhlaa.Sx
