/- A part of the framework that the proofs of this seat stand on: a separation logic over the model's walks, with a runner that Lean evaluates. It is proved here, without conditions of its own. -/
import Derived.Test.YthdbhlpceodhlaaSxQ
import Derived.OrdersHeld
set_option linter.unusedVariables false
set_option linter.unusedSimpArgs false
namespace Go.Proofs.Ythdbhlpceodhlaa.Sx
open Go

/-! ### 33. regions that draw their order, read and write -/
def locSC (n : Nat) : SC → Bool
  | .slc l _ => Nat.blt l n
  | .ptr l _ _ _ => Nat.blt l n
  | .clo _ cs => cs.all fun x => Nat.blt x.1 n
  | _ => true
def locCh (n : Nat) : Chunk → Bool
  | .box vs => vs.all (locSC n)
  | .view l _ _ => Nat.blt l n
  | .opn _ _ _ _ _ vs => vs.all (locSC n)
  | _ => true
theorem pre_back {ρ ρ' : List LocV} (h : ρ <+: ρ') {l : Nat} (hl : l < ρ.length) : ρ[l]? = ρ'[l]? := by
  obtain ⟨t, rfl⟩ := h
  rw [List.getElem?_append_left hl]
theorem ptrs_back {ρ ρ' : List LocV} (h : ρ <+: ρ') : ∀ {cs : List (Nat × Nat)} {vs : List Value}, (cs.all fun x => Nat.blt x.1 ρ.length) = true → ptrsDen ρ' cs vs → ptrsDen ρ cs vs
  | [], _, _, e => e
  | (l, f) :: r, _, hb, ⟨x, a, q, e1, e2, e3, e4⟩ => by
    simp only [List.all_cons, Bool.and_eq_true] at hb
    exact ⟨x, a, q, by rw [pre_back h (by simpa [Nat.blt_eq] using hb.1)]; exact e1, e2, e3, ptrs_back h hb.2 e4⟩
theorem locSC_back {ρ ρ' : List LocV} (h : ρ <+: ρ') : ∀ {c : SC} {v : Value}, locSC ρ.length c = true → c.den ρ' v → c.den ρ v
  | .slc .., _, hb, ⟨x, e1, e2⟩ => ⟨x, by rw [pre_back h (by simpa [locSC, Nat.blt_eq] using hb)]; exact e1, e2⟩
  | .ptr .., _, hb, ⟨x, a, e1, e2⟩ => ⟨x, a, by rw [pre_back h (by simpa [locSC, Nat.blt_eq] using hb)]; exact e1, e2⟩
  | .clo .., _, hb, ⟨ps, e1, e2⟩ => ⟨ps, ptrs_back h hb e1, e2⟩
  | .int .., _, _, e => e
  | .pr .., _, _, e => e
  | .bool .., _, _, e => e
  | .lit .., _, _, e => e
  | .str .., _, _, e => e
  | .nil, _, _, e => e
  | .val .., _, _, e => e
theorem locSCL_back {ρ ρ' : List LocV} (h : ρ <+: ρ') : ∀ {cs : List SC} {vs : List Value}, cs.all (locSC ρ.length) = true → SC.denL ρ' cs vs → SC.denL ρ cs vs
  | [], _, _, e => e
  | c :: r, _, hb, ⟨v, q, e1, e2, e3⟩ => by
    simp only [List.all_cons, Bool.and_eq_true] at hb
    exact ⟨v, q, e1, locSC_back h hb.1 e2, locSCL_back h hb.2 e3⟩
theorem locCh_back {ρ ρ' : List LocV} (h : ρ <+: ρ') {F hp : Hp} {i : Nat} (hi : i < ρ.length) : ∀ {c : Chunk}, locCh ρ.length c = true → Chunk.ok F ρ' i hp c → Chunk.ok F ρ i hp c := by
  have hx : ρ[i]? = ρ'[i]? := pre_back h hi
  intro c hb e
  cases c with
  | dead => trivial
  | box vs => obtain ⟨x, b, C, t, e1, e2, e3, e4, e5⟩ := e; exact ⟨x, b, C, t, by rw [hx]; exact e1, e2, e3, e4, locSCL_back h hb e5⟩
  | nilr => obtain ⟨x, e1, e2⟩ := e; exact ⟨x, by rw [hx]; exact e1, e2⟩
  | view l off sz => obtain ⟨x, y, e1, e2, e3⟩ := e; exact ⟨x, y, by rw [hx]; exact e1, by rw [pre_back h (by simpa [locCh, Nat.blt_eq] using hb)]; exact e2, e3⟩
  | row own sz enc xs => cases own <;> (obtain ⟨x, e1, e2⟩ := e; exact ⟨x, by rw [hx]; exact e1, e2⟩)
  | opn own sz enc xs k vs => cases own <;> (obtain ⟨x, cs, e1, e2, e3⟩ := e; exact ⟨x, cs, by rw [hx]; exact e1, locSCL_back h hb e2, e3⟩)
/-- What is told of the memory for the time of the region: the chunks that nobody in it writes. -/
def agK : List Chunk → List Chunk → Prop → Prop
  | [], _, K => K
  | .dead :: cs, _ :: l, K => agK cs l K
  | c :: cs, d :: l, K => d = c ∧ agK cs l K
  | _ :: _, [], _ => False
theorem agK_out : ∀ {cs l : List Chunk} {K : Prop}, agK cs l K → K ∧ ∀ (i : Nat) (c : Chunk), cs[i]? = some c → c = .dead ∨ l[i]? = some c
  | [], _, K, h => ⟨by simpa [agK] using h, by simp⟩
  | c :: cs, [], K, h => by cases c <;> simp [agK] at h
  | c :: cs, d :: l, K, h => by
    have fin : (K ∧ ∀ (i : Nat) (c : Chunk), cs[i]? = some c → c = .dead ∨ l[i]? = some c) → (c = .dead ∨ d = c) → K ∧ ∀ (i : Nat) (x : Chunk), (c :: cs)[i]? = some x → x = .dead ∨ (d :: l)[i]? = some x := by
      rintro ⟨h1, h2⟩ h3
      refine ⟨h1, fun i x hx => ?_⟩
      cases i with
      | zero =>
        simp at hx; subst hx
        rcases h3 with h3 | h3
        · exact .inl h3
        · exact .inr (by simp [h3])
      | succ i => simpa using h2 i x (by simpa using hx)
    cases c with
    | dead => exact fin (agK_out (by simpa [agK] using h)) (.inl rfl)
    | _ =>
      simp only [agK] at h
      exact fin (agK_out h.2) (.inr h.1)
theorem mem_common {F : Fr} {ρs ρ' : List LocV} {cs l : List Chunk} {w : World} (h : ρs <+: ρ') (hlen : cs.length ≤ ρs.length) (hag : ∀ (i : Nat) (c : Chunk), cs[i]? = some c → c = .dead ∨ l[i]? = some c) (hb : cs.all (locCh ρs.length) = true) (hm : Mem F ρ' l w) : Mem F ρs cs w := by
  obtain ⟨hs, m⟩ := hm
  refine ⟨hs, fun i c hc => ?_, m.dj, m.djF, m.le, m.F⟩
  have hi : i < ρs.length := by have := (List.getElem?_eq_some_iff.1 hc).1; omega
  have hbc : locCh ρs.length c = true := List.all_eq_true.1 hb c (List.mem_of_getElem? hc)
  rcases hag i c hc with rfl | h1
  · trivial
  · exact locCh_back h hi hbc (m.ok i c h1)
def padD : List Chunk → List Chunk → List Chunk
  | _, [] => []
  | [], _ :: r => .dead :: padD [] r
  | c :: cs, _ :: r => c :: padD cs r
theorem padD_length : ∀ (cs l : List Chunk), (padD cs l).length = l.length
  | cs, [] => by cases cs <;> rfl
  | [], _ :: r => by simp [padD, padD_length [] r]
  | c :: cs, _ :: r => by simp [padD, padD_length cs r]
theorem padD_get : ∀ (cs l : List Chunk) (i : Nat) (c : Chunk), (padD cs l)[i]? = some c → c = .dead ∨ cs[i]? = some c
  | cs, [], i, c, h => by cases cs <;> simp [padD] at h
  | [], _ :: r, 0, c, h => by simp [padD] at h; exact .inl h.symm
  | [], _ :: r, i + 1, c, h => by
    have := padD_get [] r i c (by simpa [padD] using h)
    simpa using this
  | c :: cs, _ :: r, 0, x, h => by simp [padD] at h; exact .inr (by simp [h])
  | c :: cs, _ :: r, i + 1, x, h => by
    have := padD_get cs r i x (by simpa [padD] using h)
    simpa using this
theorem mem_pad {F : Fr} {ρs ρ : List LocV} {cs l : List Chunk} {w : World} (h : ρs <+: ρ) (hm : Mem F ρs cs w) : Mem F ρ (padD cs l) w := by
  obtain ⟨hs, m⟩ := hm
  refine ⟨hs, fun i c hc => ?_, m.dj, m.djF, m.le, m.F⟩
  rcases padD_get cs l i c hc with rfl | h1
  · trivial
  · exact chunk_ok_pre h (m.ok i c h1)
def schB (ops : Array Oper) : List (Nat × Bool) → Array Bool → Bool
  | [], listed => (Region.ready .any ops listed).isEmpty
  | (i, true) :: r, listed => (Region.ready .any ops listed).contains i && Region.free .any ops listed i && schB ops r (listed.setIfInBounds i true)
  | (i, false) :: r, listed => decide (Region.ready .any ops listed = [i]) && schB ops r (listed.setIfInBounds i true)
def QH (X : Cx) (ks : List KI) : Exit → Act → World → Prop
  | .panic _, _, _ => False
  | e, a, w => runK X.P X.Q ks e a w
structure TH (X : Cx) (all : List Oper) (sch : List (Nat × Bool)) (cs : List Chunk) (ks : List KI) (s : St) : Prop where
  go : Ok X → Region.noSelect all.toArray = true → ∀ F ρs ρ a w listed, schB all.toArray sch listed = true → Fle X.F F → X.ρ0 <+: ρs → ρs <+: ρ → cs.length ≤ ρs.length → cs.all (locCh ρs.length) = true → Sat F X.nt ρ s a w → Mem F ρs cs w →
    wpAnyH X.P .any all.toArray (QH X ks) (fun w' => Mem F ρs cs w') sch.length listed a w
theorem TH_nil {X : Cx} {all : List Oper} {cs : List Chunk} {ks : List KI} {s : St} (h : T X ks s) : TH X all [] cs ks s :=
  ⟨fun hX _ F ρs ρ a w listed hB hF h1 h2 _ _ hs _ => ⟨by simpa [schB] using hB, h.go hX F ρ a w hF (h1.trans h2) hs⟩⟩
theorem TH_take {X : Cx} {all : List Oper} {i : Nat} {sch : List (Nat × Bool)} {cs : List Chunk} {ks : List KI} {o : Oper} {env env' : List (Nat × SV)} {chs : List Chunk} (ho : all[i]? = some o) (hst : AdvQ X.tb X.nt all o (padD cs chs) env env') (h : TH X all sch cs ks ⟨env', chs⟩) : TH X all ((i, true) :: sch) cs ks ⟨env, chs⟩ := by
  refine ⟨fun hX hsel F ρs ρ a w listed hB hF h1 h2 h3 h4 hs hm => ?_⟩
  simp only [schB, Bool.and_eq_true] at hB
  obtain ⟨⟨hr, hf⟩, hB⟩ := hB
  have hi : all.toArray[i]? = some o := by simpa using ho
  have hse : Sat F X.nt ρ ⟨env, padD cs chs⟩ a w := ⟨hs.nd, hs.nt, by rw [hs.len]; exact (padD_length _ _).symm, hs.env, mem_pad h2 hm⟩
  have fin : ∀ v, YieldsIf X.P all.toArray (fun w' => Mem F ρs cs w') o v a → Sat F X.nt ρ ⟨env', padD cs chs⟩ (a.put o.dst v) w → wpAnyH X.P .any all.toArray (QH X ks) (fun w' => Mem F ρs cs w') (sch.length + 1) listed a w := by
    intro v hy hs'
    exact wpAnyH_take hi hsel hf hr (fun _ _ _ hq => hq.elim) hy hm (h.go hX hsel F ρs ρ _ w _ hB hF h1 h2 h3 h4 ⟨hs'.nd, hs'.nt, hs.len, hs'.env, hs.mem⟩ hm)
  rcases hst with ⟨g1, g2⟩ | ⟨g1, g2⟩
  · obtain ⟨v, hs', hr'⟩ := g2 hX.tab hse
    exact fin v (.inl ⟨g1 hse, fun w' hw' => hr' w' (mem_pad h2 hw')⟩) hs'
  · exact fin undef (.inr ⟨g1 hse, rfl⟩) (g2 hse)
/-- An operation carried out. -/
theorem TH_dyn {X : Cx} {all : List Oper} {i : Nat} {sch : List (Nat × Bool)} {cs : List Chunk} {ks : List KI} {o : Oper} {s : St} (ho : all[i]? = some o)
    (h : Ok X → ∀ F ρ a w, Fle X.F F → X.ρ0 <+: ρ → Sat F X.nt ρ s a w → ∀ K : Act → World → Prop, (∀ s' ρ' a' w', TH X all sch cs ks s' → (∀ (i : Nat) (c : Chunk), cs[i]? = some c → c = .dead ∨ s'.chs[i]? = some c) → ρ <+: ρ' → Sat F X.nt ρ' s' a' w' → K a' w') →
      wpOp X.P all.toArray (QH X ks) i K a w) : TH X all ((i, false) :: sch) cs ks s := by
  refine ⟨fun hX hsel F ρs ρ a w listed hB hF h1 h2 h3 h4 hs hm => ?_⟩
  simp only [schB, Bool.and_eq_true, decide_eq_true_eq] at hB
  obtain ⟨hr, hB⟩ := hB
  refine wpAnyH_all hr (by simp) (fun j hj => ?_)
  simp at hj
  subst hj
  refine h hX F ρ a w hF (h1.trans h2) hs _ (fun s' ρ' a' w' hT hag hρ' hs' => ?_)
  have hm' := mem_common (h2.trans hρ') h3 hag h4 hs'.mem
  exact ⟨hm', hT.go hX hsel F ρs ρ' a' w' _ hB hF h1 (h2.trans hρ') h3 h4 hs' hm'⟩
theorem TH_step {X : Cx} {all : List Oper} {i : Nat} {sch : List (Nat × Bool)} {cs : List Chunk} {ks : List KI} {o : Oper} {s s' : St} (ho : all[i]? = some o) (hst : Adv X.tb X.nt all o s s') (hag : ∀ (i : Nat) (c : Chunk), cs[i]? = some c → c = .dead ∨ s'.chs[i]? = some c) (h : TH X all sch cs ks s') : TH X all ((i, false) :: sch) cs ks s := by
  refine TH_dyn ho (fun hX F ρ a w hF hρ hs K hK => ?_)
  have hi : all.toArray[i]? = some o := by simpa using ho
  unfold wpOp
  simp only [hi]
  rcases hst with ⟨g1, g2⟩ | ⟨g1, g2⟩
  · rw [if_pos (g1 hs)]
    refine .inl ?_
    obtain ⟨ρ', w', v, k1, k2, k3⟩ := g2 hX.tab hs
    have := hK s' ρ' _ w' h hag k1 k2
    unfold Oper.wp
    rcases k3 with k3 | ⟨k3, rfl⟩
    · rw [k3]; exact this
    · rw [k3]; exact this
  · rw [if_neg (by rw [g1 hs]; simp)]
    exact hK s' ρ _ w h hag List.prefix_rfl (g2 hs)
theorem TH_call {X : Cx} {all : List Oper} {i : Nat} {sch : List (Nat × Bool)} {cs : List Chunk} {ks : List KI} {env : List (Nat × SV)} {chs : List Chunk} {dst : Option Nat} {fop : Operand} {xs : List Operand} {ts : Array TypeId} {ty : TypeId} {pos : String} {after : Array Edge} {g : Option (Nat × Bool)} {f : Nat} {args : List SV} {pre : List Chunk} {Post : SV → List Chunk → Prop}
    (ho : all[i]? = some { dst := dst, op := .call { callee := .value fop, args := xs.toArray, argTypes := ts }, type := ty, pos := pos, after := after, guard := g })
    (sel : List (Option Nat)) (hspec : FSpec X.P f args pre Post) (hg : gdK all env g) (hin : CallIn sel env chs fop xs f args pre) {C : List (Nat × SV) → List Chunk → Prop} (hC : ∀ env chs, C env chs → agK cs chs (TH X all sch cs ks ⟨env, chs⟩))
    (hout : ∀ res post, Post res post → callK X.nt sel pre env chs dst res post C) : TH X all ((i, false) :: sch) cs ks ⟨env, chs⟩ := by
  refine TH_dyn ho (fun hX F ρ a w hF hρ hs K hK => ?_)
  have hi : all.toArray[i]? = some { dst := dst, op := .call { callee := .value fop, args := xs.toArray, argTypes := ts }, type := ty, pos := pos, after := after, guard := g } := by simpa using ho
  unfold wpOp
  simp only [hi]
  rw [if_pos (gdK_out (o := { dst := dst, op := .call { callee := .value fop, args := xs.toArray, argTypes := ts }, type := ty, pos := pos, after := after, guard := g }) hg hs)]
  refine .inl ?_
  obtain ⟨capv, hfe, hc⟩ := call_core (dst := dst) sel hspec hin hs
  unfold Oper.wp
  rw [run_callOp hspec.fn rfl hfe, Oper.upon_enter]
  refine hc.mono ?_
  rintro e w' ⟨v, res, post, rfl, hP, hk⟩
  obtain ⟨env', chs', ρ', h1, h2, h3⟩ := hk _ (hout res post hP)
  obtain ⟨k1, k2⟩ := agK_out (hC _ _ h1)
  exact hK _ ρ' _ w' k1 k2 h2 h3
def runH (tb : Tab) (nt : Nat) (all : List Oper) (cs : List Chunk) : List (Nat × Bool) → List (Nat × SV) → List Chunk → (List (Nat × Bool) → List (Nat × SV) → List Chunk → Prop) → Prop
  | [], env, chs, C => C [] env chs
  | (i, true) :: r, env, chs, C => match all[i]? with
    | some o => guardQ tb nt all o env (padD cs chs) (fun env => runH tb nt all cs r env chs C) (C ((i, true) :: r) env chs)
    | none => C ((i, true) :: r) env chs
  | (i, false) :: r, env, chs, C => match all[i]? with
    | some o => guardK tb nt all o env chs (fun env chs => agK cs chs (runH tb nt all cs r env chs C)) (C ((i, false) :: r) env chs)
    | none => C ((i, false) :: r) env chs
def endH (P : Program) (tb : Tab) (F : Fr) (nt n0 : Nat) (ρ0 : List LocV) (ro : List Chunk) (Q : Exit → Act → World → Prop) (all : List Oper) (cs : List Chunk) (ks : List KI) (sch : List (Nat × Bool)) (env : List (Nat × SV)) (chs : List Chunk) : Prop :=
  match sch with
  | [] => runT tb nt 600 ks env chs (fun ks env chs => T ⟨P, tb, F, nt, n0, ρ0, ro, Q⟩ ks ⟨env, chs⟩)
  | x :: sch => TH ⟨P, tb, F, nt, n0, ρ0, ro, Q⟩ all (x :: sch) cs ks ⟨env, chs⟩
/-- guardK tells of one step at most. -/
theorem TH_guard {X : Cx} {all : List Oper} {i : Nat} {o : Oper} {sch : List (Nat × Bool)} {cs : List Chunk} {ks : List KI} {env : List (Nat × SV)} {chs : List Chunk} {K : List (Nat × SV) → List Chunk → Prop} {Z : Prop} (ho : all[i]? = some o) (h : guardK X.tb X.nt all o env chs K Z) (hK : ∀ env' chs', K env' chs' → agK cs chs' (TH X all sch cs ks ⟨env', chs'⟩)) (hZ : Z → TH X all ((i, false) :: sch) cs ks ⟨env, chs⟩) :
    TH X all ((i, false) :: sch) cs ks ⟨env, chs⟩ := by
  have conv0 : ∀ {env1 : List (Nat × SV)}, (∀ {F : Fr} {ρ : List LocV} {a : Act} {w : World}, Sat F X.nt ρ ⟨env, chs⟩ a w → Sat F X.nt ρ ⟨env1, chs⟩ a w) → TH X all ((i, false) :: sch) cs ks ⟨env1, chs⟩ → TH X all ((i, false) :: sch) cs ks ⟨env, chs⟩ :=
    fun hc h => ⟨fun hX hsel F ρs ρ a w listed hB hF h1 h2 h3 h4 hs hm => h.go hX hsel F ρs ρ a w listed hB hF h1 h2 h3 h4 (hc hs) hm⟩
  unfold guardK at h
  have eff : ∀ {env : List (Nat × SV)}, (∀ {F : Fr} {ρ : List LocV} {a : Act} {w : World}, Sat F X.nt ρ ⟨env, chs⟩ a w → Region.wanted o (yielded all.toArray a.tmps) = true) → effK X.tb X.nt env chs o K Z → Z ∨ TH X all ((i, false) :: sch) cs ks ⟨env, chs⟩ := by
    intro env hw h
    rcases effK_out h with h | ⟨e', c', h1, h2⟩
    · exact .inl h
    · obtain ⟨k1, k2⟩ := agK_out (hK e' c' h1)
      exact .inr (TH_step ho (.inl ⟨hw, h2⟩) k2 k1)
  have skp : ∀ {env : List (Nat × SV)}, (∀ {F : Fr} {ρ : List LocV} {a : Act} {w : World}, Sat F X.nt ρ ⟨env, chs⟩ a w → Region.wanted o (yielded all.toArray a.tmps) = false) → putK X.nt o.dst (.tup []) env (fun env => K env chs) Z → Z ∨ TH X all ((i, false) :: sch) cs ks ⟨env, chs⟩ := by
    intro env hw h
    rcases sat_skip (tb := X.tb) h with h | ⟨s', h1, h2⟩
    · exact .inl h
    · obtain ⟨k1, k2⟩ := agK_out (hK s' chs h1)
      exact .inr (TH_step ho (.inr ⟨hw, h2⟩) k2 k1)
  split at h
  · rename_i hg
    exact (eff (fun _ => by simp [Region.wanted, hg]) h).elim hZ id
  · rename_i j want hg
    split at h
    · rename_i oj hj
      split at h
      · rename_i d hd
        have wan : ∀ {env : List (Nat × SV)} {b : Bool}, find env d = some (.one (.lit b)) → ∀ {F : Fr} {ρ : List LocV} {a : Act} {w : World}, Sat F X.nt ρ ⟨env, chs⟩ a w → Region.wanted o (yielded all.toArray a.tmps) = (b == want) := by
          intro env b hf F ρ a w hs
          obtain ⟨v, h1, h2⟩ := hs.env d _ hf
          have h2 : v = .bool b := h2
          subst h2
          simp [Region.wanted, hg, yielded_eq hj hd h1]
        have here : ∀ {sv : SV} {r : List (Nat × SV)}, find ((d, sv) :: r) d = some sv := by intro sv r; simp [find]
        split at h
        · rename_i b hf
          split at h
          · exact (eff (fun hs => by rw [wan hf hs]; rfl) h).elim hZ id
          · exact (eff (fun hs => by rw [wan hf hs]; rfl) h).elim hZ id
          · rename_i hn1 hn2
            exact (skp (fun hs => by rw [wan hf hs]; cases b <;> cases want <;> simp_all) h).elim hZ id
        · rename_i p dp hf
          split at h
          · have conv : ∀ (b : Bool), (p ↔ b = true) → TH X all ((i, false) :: sch) cs ks ⟨(d, .one (.lit b)) :: env, chs⟩ → TH X all ((i, false) :: sch) cs ks ⟨env, chs⟩ := by
              intro b hp
              refine conv0 (fun hs => sat_lit hs ?_)
              obtain ⟨v, h1, h2⟩ := hs.env d _ hf
              have h2 : v = .bool (@decide p dp) := h2
              refine ⟨v, h1, ?_⟩
              rw [h2]
              congr 1
              rw [Bool.eq_iff_iff]; simpa using hp
            split at h
            · by_cases hp : p
              · exact (eff (fun hs => by rw [wan here hs]; rfl) (h.t hp)).elim hZ (conv true (by simp [hp]))
              · exact (skp (fun hs => by rw [wan here hs]; rfl) (h.f hp)).elim hZ (conv false (by simp [hp]))
            · by_cases hp : p
              · exact (skp (fun hs => by rw [wan here hs]; rfl) (h.t hp)).elim hZ (conv true (by simp [hp]))
              · exact (eff (fun hs => by rw [wan here hs]; rfl) (h.f hp)).elim hZ (conv false (by simp [hp]))
          · exact hZ h
        · rename_i c hf
          split at h
          · have conv : ∀ (b : Bool), c = b → TH X all ((i, false) :: sch) cs ks ⟨(d, .one (.lit b)) :: env, chs⟩ → TH X all ((i, false) :: sch) cs ks ⟨env, chs⟩ := by
              intro b hp
              refine conv0 (fun hs => sat_lit hs ?_)
              obtain ⟨v, h1, h2⟩ := hs.env d _ hf
              have h2 : v = .bool c := h2
              exact ⟨v, h1, by rw [h2, hp]⟩
            split at h
            · cases hp : c with
              | true => exact (eff (fun hs => by rw [wan here hs]; rfl) (h.t hp)).elim hZ (conv true hp)
              | false => exact (skp (fun hs => by rw [wan here hs]; rfl) (h.f hp)).elim hZ (conv false hp)
            · cases hp : c with
              | true => exact (skp (fun hs => by rw [wan here hs]; rfl) (h.t hp)).elim hZ (conv true hp)
              | false => exact (eff (fun hs => by rw [wan here hs]; rfl) (h.f hp)).elim hZ (conv false hp)
          · exact hZ h
        · rename_i hf
          refine (skp (fun {F ρ a w} hs => ?_) h).elim hZ id
          obtain ⟨v, h1, cs, h2, h3⟩ := hs.env d _ hf
          subst h2
          simp [Region.wanted, hg, yielded, hj, hd, h1]
        · exact hZ h
      · exact hZ h
    · exact hZ h
theorem agK_mp {K K' : Prop} (f : K → K') : ∀ {cs l : List Chunk}, agK cs l K → agK cs l K'
  | [], _, h => by simpa [agK] using f (by simpa [agK] using h)
  | c :: cs, [], h => by cases c <;> simp [agK] at h
  | c :: cs, d :: l, h => by
    cases c with
    | dead => simp only [agK] at h ⊢; exact agK_mp f h
    | _ => simp only [agK] at h ⊢; exact ⟨h.1, agK_mp f h.2⟩
theorem runH_TH {P : Program} {tb : Tab} {F : Fr} {nt n0 : Nat} {ρ0 : List LocV} {ro : List Chunk} {Q : Exit → Act → World → Prop} {all : List Oper} {cs : List Chunk} {ks : List KI} : ∀ {sch : List (Nat × Bool)} {env : List (Nat × SV)} {chs : List Chunk}, runH tb nt all cs sch env chs (endH P tb F nt n0 ρ0 ro Q all cs ks) → TH ⟨P, tb, F, nt, n0, ρ0, ro, Q⟩ all sch cs ks ⟨env, chs⟩
  | [], env, chs, h => TH_nil (run 600 h)
  | (i, true) :: r, env, chs, h => by
    simp only [runH] at h
    split at h
    · rename_i o ho
      rcases guardQ_out h with h | ⟨env', h1, h2⟩
      · exact h
      · exact TH_take (X := ⟨P, tb, F, nt, n0, ρ0, ro, Q⟩) ho h2 (runH_TH h1)
    · exact h
  | (i, false) :: r, env, chs, h => by
    simp only [runH] at h
    split at h
    · rename_i o ho
      exact TH_guard (X := ⟨P, tb, F, nt, n0, ρ0, ro, Q⟩) ho h (fun e' c' h' => agK_mp runH_TH h') id
    · exact h
def killL : List Nat → List Chunk → List Chunk
  | [], l => l
  | k :: r, l => killL r (l.set k .dead)
theorem killL_get : ∀ {ks : List Nat} {l : List Chunk} (i : Nat) (c : Chunk), (killL ks l)[i]? = some c → c = .dead ∨ l[i]? = some c
  | [], _, i, c, h => .inr h
  | k :: r, l, i, c, h => by
    rcases killL_get (ks := r) (l := l.set k .dead) i c h with h | h
    · exact .inl h
    · by_cases e : k = i
      · subst e
        have hlt : k < l.length := by have := (List.getElem?_eq_some_iff.1 h).1; simpa using this
        simp [List.getElem?_set, hlt] at h
        exact .inl h.symm
      · rw [List.getElem?_set_ne e] at h; exact .inr h
theorem killL_length : ∀ {ks : List Nat} {l : List Chunk}, (killL ks l).length = l.length
  | [], _ => rfl
  | k :: r, l => by simp [killL, killL_length (ks := r)]
def heldB (ops : Array Oper) (sch : List (Nat × Bool)) : Bool := Region.noSelect ops && Nat.beq sch.length ops.size && schB ops sch (Array.replicate ops.size false)
/-- A REGION THAT DRAWS ITS ORDER: what is read is read first (of the chunks that nobody writes), the rest goes in order. -/
theorem held {P : Program} {tb : Tab} {F : Fr} {nt n0 : Nat} {ρ0 : List LocV} {ro : List Chunk} {Q : Exit → Act → World → Prop} {id : Nat} {l : List Oper} {ks : List KI} {env : List (Nat × SV)} {chs : List Chunk} (mask : List Nat) (sch : List (Nat × Bool)) (hB : heldB l.toArray sch = true) (hloc : (killL mask chs).all (locCh chs.length) = true)
    (h : runH tb nt l (killL mask chs) sch env chs (endH P tb F nt n0 ρ0 ro Q l (killL mask chs) ks)) : T ⟨P, tb, F, nt, n0, ρ0, ro, Q⟩ (.code (.region id l.toArray true) :: ks) ⟨env, chs⟩ := by
  refine ⟨fun hX G ρ a w hF hρ hs => ?_⟩
  simp only [heldB, Bool.and_eq_true] at hB
  obtain ⟨⟨hsel, hlen⟩, hB⟩ := hB
  have hlen := Nat.eq_of_beq_eq_true hlen
  have hl := hs.len
  have hl : ρ.length = chs.length := hl
  have hm : Mem G ρ (killL mask chs) w := mem_common List.prefix_rfl (by rw [killL_length, hl]; exact Nat.le_refl _) (fun i c h => killL_get i c h) (by rw [hl]; exact hloc) hs.mem
  refine wp_mono (Q := QH ⟨P, tb, F, nt, n0, ρ0, ro, Q⟩ ks) (wp_region_held (S := fun w' => Mem G ρ (killL mask chs) w') hX.tab.2 ?_) (fun e a w hq => ?_)
  · have := (runH_TH h).go hX hsel G ρ ρ a _ _ hB hF hρ List.prefix_rfl (by rw [killL_length, hl]; exact Nat.le_refl _) (by rw [hl]; exact hloc) (sat_mem (w' := { w with drawn := w.drawn + 1 }) hs (mem_world hs.mem rfl rfl rfl rfl)) (mem_world hm rfl rfl rfl rfl)
    rwa [hlen] at this
  · cases e <;> first | exact hq | exact hq.elim
/-- .. a call in it. -/
theorem callH {P : Program} {tb : Tab} {F : Fr} {nt n0 : Nat} {ρ0 : List LocV} {ro : List Chunk} {Q : Exit → Act → World → Prop} {all : List Oper} {i : Nat} {sch : List (Nat × Bool)} {cs : List Chunk} {ks : List KI} {env : List (Nat × SV)} {chs : List Chunk} {dst : Option Nat} {fop : Operand} {xs : List Operand} {ts : Array TypeId} {ty : TypeId} {pos : String} {after : Array Edge} {g : Option (Nat × Bool)} {f : Nat} {args : List SV} {pre : List Chunk} {Post : SV → List Chunk → Prop}
    (sel : List (Option Nat)) (hspec : FSpec P f args pre Post) (ho : all[i]? = some { dst := dst, op := .call { callee := .value fop, args := xs.toArray, argTypes := ts }, type := ty, pos := pos, after := after, guard := g })
    (hg : gdK all env g) (hin : CallIn sel env chs fop xs f args pre)
    (hout : ∀ res post, Post res post → callK nt sel pre env chs dst res post (fun env chs => agK cs chs (runH tb nt all cs sch env chs (endH P tb F nt n0 ρ0 ro Q all cs ks)))) : TH ⟨P, tb, F, nt, n0, ρ0, ro, Q⟩ all ((i, false) :: sch) cs ks ⟨env, chs⟩ :=
  TH_call (X := ⟨P, tb, F, nt, n0, ρ0, ro, Q⟩) ho sel hspec hg hin (fun env chs h => agK_mp runH_TH h) hout
/-- .. one step of the kinds that need a word. -/
theorem stepH {P : Program} {tb : Tab} {F : Fr} {nt n0 : Nat} {ρ0 : List LocV} {ro : List Chunk} {Q : Exit → Act → World → Prop} {all : List Oper} {i : Nat} {o : Oper} {sch : List (Nat × Bool)} {cs : List Chunk} {ks : List KI} {env env' : List (Nat × SV)} {chs chs' : List Chunk}
    (ho : all[i]? = some o) (hg : gdK all env o.guard) (hst : StepTo tb nt o ⟨env, chs⟩ ⟨env', chs'⟩) (h : agK cs chs' (runH tb nt all cs sch env' chs' (endH P tb F nt n0 ρ0 ro Q all cs ks))) : TH ⟨P, tb, F, nt, n0, ρ0, ro, Q⟩ all ((i, false) :: sch) cs ks ⟨env, chs⟩ := by
  obtain ⟨k1, k2⟩ := agK_out (agK_mp (runH_TH) h)
  exact TH_step (X := ⟨P, tb, F, nt, n0, ρ0, ro, Q⟩) ho (.inl ⟨fun hs => gdK_out hg hs, hst⟩) k2 k1
/-! ### 34. a cell that is told no more -/
theorem denL_val {ρ : List LocV} : ∀ {vs : List SC} {cs : List Value} (j : Nat), SC.denL ρ vs cs → ∃ v : Value, SC.denL ρ (vs.set j (.val v)) cs
  | [], _, j, e => ⟨undef, by simpa using e⟩
  | c :: r, _, 0, ⟨v, q, e1, e2, e3⟩ => ⟨v, ⟨v, q, e1, ⟨rfl, SC.den_one e2⟩, e3⟩⟩
  | c :: r, _, j + 1, ⟨v, q, e1, e2, e3⟩ => by
    obtain ⟨u, hu⟩ := denL_val j e3
    exact ⟨u, v, q, e1, e2, hu⟩
/-- A cell of an open element is from here on only known to hold some value. -/
theorem ghost {P : Program} {tb : Tab} {F : Fr} {nt n0 : Nat} {ρ0 : List LocV} {ro : List Chunk} {Q : Exit → Act → World → Prop} {ks : List KI} {env : List (Nat × SV)} {chs : List Chunk} {α : Type} {sz : Nat} {enc : α → List D} {xs : List α} {i : Nat} {vs : List SC} (k j : Nat) (hk : chs[k]? = some (.opn true sz enc xs i vs))
    (h : ∀ v : Value, setK (.opn true sz enc xs i (vs.set j (.val v))) k chs (fun chs => runT tb nt 600 ks env chs (fun ks env chs => T ⟨P, tb, F, nt, n0, ρ0, ro, Q⟩ ks ⟨env, chs⟩))) : T ⟨P, tb, F, nt, n0, ρ0, ro, Q⟩ ks ⟨env, chs⟩ := by
  refine ⟨fun hX G ρ a w hF hρ hs => ?_⟩
  obtain ⟨hs0, m⟩ := hs.mem
  obtain ⟨x, cs, e1, e2, e3⟩ := m.ok k _ hk
  obtain ⟨v, hv⟩ := denL_val j e2
  have h := h v
  rw [setK_eq] at h
  exact (run (P := P) (tb := tb) (F := F) (n0 := n0) (ρ0 := ρ0) (ro := ro) (Q := Q) 600 h).go hX G ρ a w hF hρ ⟨hs.nd, hs.nt, by simpa using hs.len, hs.env, ⟨_, memH_set m k (.opn true sz enc xs i (vs.set j (.val v))) (hs0 k) (m.le k) (fun j hj => m.dj k j (Ne.symm hj)) (m.djF k) ⟨x, cs, e1, hv, e3⟩⟩⟩
end Go.Proofs.Ythdbhlpceodhlaa.Sx
