/- A part of the framework that the proofs of this seat stand on: a separation logic over the model's walks, with a runner that Lean evaluates. It is proved here, without conditions of its own. -/
import Derived.Test.YthdbhlpceodhlaaSxD
set_option linter.unusedVariables false
set_option linter.unusedSimpArgs false
namespace Go.Proofs.Ythdbhlpceodhlaa.Sx
open Go

theorem fieldK_out {tb : Tab} {t n : Nat} {p : SV} {K : SV → Prop} {Z : Prop} (h : fieldK tb t n p K Z) : Z ∨ ∃ sv, K sv ∧
    ∀ {P : Program} {ρ : List LocV} {w : World} {v : Value}, TabOk P tb → p.den ρ v → ∃ r, sv.den ρ r ∧ (Instr.field t v n).run P w = .ok r w := by
  unfold fieldK at h
  split at h
  · rename_i cs
    rcases fldK_out h with h | ⟨o, sz, ty, h, hf⟩
    · exact .inl h
    split at h
    · rename_i ti hti
      split at h
      · rename_i hb
        have hb := Nat.eq_of_beq_eq_true hb
        rcases cellsK_out h with h | ⟨sv, h1, h2, h3⟩
        · exact .inl h
        refine .inr ⟨sv, h1, ?_⟩
        intro P ρ w v ht hv
        obtain ⟨vs, rfl, hd⟩ := hv
        obtain ⟨gs, g, g1, g2, g3, g4, ⟨x, g5, g6⟩, g7⟩ := hf ht
        obtain ⟨x1, d1, z1, k1, k2, k3, k4, k5, k6, k7⟩ := (tabB_find ht.1 hti).ex
        rw [g5] at k1; cases k1
        have hd2 := SC.denL_take ti.sz (SC.denL_drop o hd)
        subst g3 g4
        rcases h3 with ⟨ha, rfl⟩ | ⟨ha, c, hcs, rfl⟩
        · refine ⟨_, ⟨_, rfl, hd2⟩, ?_⟩
          simp [Instr.field, run_underlying g1, g2, part, asAgg, run_isAgg k2 k5, ha, sizeOf, typeInfo, g5, k3]
        · rw [hcs] at hd2
          obtain ⟨v, r, e1, e2, e3⟩ := hd2
          simp only [SC.denL] at e3
          subst e3
          refine ⟨v, e2, ?_⟩
          have hget : vs[g.offset]? = some v := by
            have := congrArg (·[0]?) e1
            simp only [List.getElem?_take, List.getElem?_drop] at this
            split at this
            · simpa using this
            · simp at this
          simp [Instr.field, run_underlying g1, g2, part, asAgg, run_isAgg k2 k5, ha, hget]
      · exact .inl h
    · exact .inl h
  · exact .inl h
theorem extractK_out {p : SV} {i : Nat} {K : SV → Prop} {Z : Prop} (h : extractK p i K Z) : Z ∨ ∃ sv, K sv ∧
    ∀ {P : Program} {ρ : List LocV} {w : World} {v : Value}, p.den ρ v → ∃ r, sv.den ρ r ∧ (Instr.extract v i).run P w = .ok r w := by
  have get : ∀ {ρ : List LocV} {xs : List SW} {cs : List Value}, SW.denL ρ xs cs → ∀ {i : Nat} {x : SW}, xs[i]? = some x → ∃ u, cs[i]? = some u ∧ x.den ρ u := by
    intro ρ xs
    induction xs with
    | nil => intro cs _ i x hx; simp at hx
    | cons y ys ih =>
      intro cs hd i x hx
      obtain ⟨v, r, rfl, e2, e3⟩ := hd
      cases i with
      | zero => simp at hx; subst hx; exact ⟨v, rfl, e2⟩
      | succ i => simpa using ih e3 (by simpa using hx)
  unfold extractK at h
  split at h
  · rename_i xs
    split at h
    · rename_i c hx
      refine .inr ⟨_, h, ?_⟩
      intro P ρ w v hv
      obtain ⟨cs, rfl, hd⟩ := hv
      obtain ⟨u, h1, h2⟩ := get hd hx
      exact ⟨u, h2, by simp [Instr.extract, h1]⟩
    · rename_i c hx
      refine .inr ⟨_, h, ?_⟩
      intro P ρ w v hv
      obtain ⟨cs, rfl, hd⟩ := hv
      obtain ⟨u, h1, h2⟩ := get hd hx
      exact ⟨u, h2, by simp [Instr.extract, h1]⟩
    · exact .inl h
  · exact .inl h
theorem convK_out {tb : Tab} {src dst : Nat} {p : SV} {K : SV → Prop} {Z : Prop} (h : convK tb src dst p K Z) : Z ∨ ∃ sv, K sv ∧
    ∀ {P : Program} {ρ : List LocV} {w : World} {v : Value}, TabOk P tb → p.den ρ v → ∃ r, sv.den ρ r ∧ (convert src dst v).run P w = .ok r w := by
  unfold convK at h
  split at h
  · rename_i ti hd hs
    split at h
    · refine .inr ⟨_, h.ex, ?_⟩
      intro P ρ w v ht hv
      subst hv
      obtain ⟨x1, d1, z1, k1, k2, k3, k4, k5, k6, k7⟩ := (tabB_find ht.1 hd).ex
      obtain ⟨x2, d2, z2, j1, j2, j3, j4, j5, j6, j7⟩ := (tabB_find ht.1 hs).ex
      have hk := kindB_int k5
      subst hk
      exact ⟨_, rfl, by simp [convert, run_underlying k2, run_underlying j2, Conv.intToInt]⟩
    · exact .inl h
  · exact .inl h
theorem run_sliceStr {P : Program} {w : World} {t : Nat} (h : P.underlying t = some .string) (s : ByteArray) (k k' : IntKind) {l u : Nat} (h1 : l ≤ u) (h2 : u ≤ s.size) :
    (Instr.sliceAt t (.string s) (some (.int k l)) (some (.int k' u)) none).run P w = .ok (.string (s.extract l u)) w ∧
    (Instr.sliceAt t (.string s) none (some (.int k' u)) none).run P w = .ok (.string (s.extract 0 u)) w ∧
    (Instr.sliceAt t (.string s) (some (.int k l)) none none).run P w = .ok (.string (s.extract l s.size)) w ∧
    (Instr.sliceAt t (.string s) none none none).run P w = .ok (.string (s.extract 0 s.size)) w := by
  have a1 : (l : Int) ≤ u := by omega
  have a2 : (u : Int) ≤ s.size := by omega
  have a3 : (l : Int) ≤ s.size := by omega
  have b1 : l ≤ s.size := by omega
  refine ⟨?_, ?_, ?_, ?_⟩ <;> simp [Instr.sliceAt, run_underlying h, Instr.slice, Instr.sliceBounds, Instr.sliceBound, asIntOf, h1, h2, b1]
theorem sliceStrK_out {tb : Tab} {t : Nat} {p : SV} {lo hi : Option SV} {K : SV → Prop} {Z : Prop} (h : sliceStrK tb t p lo hi K Z) : Z ∨ ∃ sv, K sv ∧
    ∀ {P : Program} {ρ : List LocV} {w : World} {v : Value} {l u : Option Value}, TabOk P tb → p.den ρ v → (∀ x, lo = some x → ∃ y, l = some y ∧ x.den ρ y) → (lo = none → l = none) → (∀ x, hi = some x → ∃ y, u = some y ∧ x.den ρ y) → (hi = none → u = none) →
    ∃ r, sv.den ρ r ∧ (Instr.sliceAt t v l u none).run P w = .ok r w := by
  unfold sliceStrK at h
  split at h
  · rename_i hty
    have hstr : ∀ {P : Program}, TabOk P tb → P.underlying t = some .string := by
      intro P ht
      obtain ⟨x1, d1, z1, k1, k2, k3, k4, k5, k6, k7⟩ := (tabB_find ht.1 hty).ex
      rw [k2, kindB_str k5]
    split at h
    · split at h
      · obtain ⟨l, u, e1, e2, e3, e4, h⟩ := h.ex
        refine .inr ⟨_, h, ?_⟩
        intro P ρ w v lv uv ht hv hl hln hu hun
        obtain ⟨y, rfl, hy⟩ := hl _ rfl
        obtain ⟨z, rfl, hz⟩ := hu _ rfl
        subst hv hy hz e1 e2
        exact ⟨_, rfl, (run_sliceStr (hstr ht) _ _ _ e3 e4).1⟩
      · obtain ⟨l, u, e1, e2, e3, e4, h⟩ := h.ex
        refine .inr ⟨_, h, ?_⟩
        intro P ρ w v lv uv ht hv hl hln hu hun
        obtain ⟨z, rfl, hz⟩ := hu _ rfl
        rw [hln rfl]
        subst hv hz e2
        exact ⟨_, rfl, (run_sliceStr (hstr ht) _ .i64 _ e3 e4).2.1⟩
      · obtain ⟨l, u, e1, e2, e3, e4, h⟩ := h.ex
        refine .inr ⟨_, h, ?_⟩
        intro P ρ w v lv uv ht hv hl hln hu hun
        obtain ⟨z, rfl, hz⟩ := hl _ rfl
        rw [hun rfl]
        subst hv hz e1
        exact ⟨_, rfl, (run_sliceStr (hstr ht) _ _ .i64 e3 e4).2.2.1⟩
      · refine .inr ⟨_, h, ?_⟩
        intro P ρ w v lv uv ht hv hl hln hu hun
        rw [hun rfl, hln rfl]
        subst hv
        exact ⟨_, rfl, (run_sliceStr (hstr ht) _ .i64 .i64 (Nat.zero_le _) (Nat.le_refl _)).2.2.2⟩
      · exact .inl h
    · exact .inl h
  · exact .inl h
theorem strIdxK_out {tb : Tab} {t : Nat} {p q : SV} {K : SV → Prop} {Z : Prop} (h : kindK tb t (fun k => match k with | .str => strIdxK p q K Z | _ => Z) Z) : Z ∨ ∃ sv, K sv ∧
    ∀ {P : Program} {ρ : List LocV} {w : World} {v u : Value}, TabOk P tb → p.den ρ v → q.den ρ u → ∃ r, sv.den ρ r ∧ (Instr.index t v u).run P w = .ok r w := by
  unfold kindK at h
  split at h
  · rename_i k _ hty
    split at h
    · unfold strIdxK at h
      split at h
      · obtain ⟨j, e1, e2, e3, h⟩ := h.ex
        refine .inr ⟨_, h, ?_⟩
        intro P ρ w v u ht hv hu
        obtain ⟨x1, d1, z1, k1, k2, k3, k4, k5, k6, k7⟩ := (tabB_find ht.1 hty).ex
        have hk := kindB_str k5
        subst hk
        subst hv hu e1
        refine ⟨_, rfl, ?_⟩
        rename_i s _ _ 
        have : s[j]? = some (s[j]'e2) := by simp [e2]
        simp [Instr.index, asIntOf, run_underlying k2, bt, e2, this]
      · exact .inl h
    · exact .inl h
  · exact .inl h
theorem minmaxK_out {mx : Bool} {p q : SV} {K : SV → Prop} {Z : Prop} (h : minmaxK mx p q K Z) : Z ∨ ∃ sv, K sv ∧
    ∀ {P : Program} {ρ : List LocV} {w : World} {v u : Value} (ts : Array TypeId) (ty : TypeId), p.den ρ v → q.den ρ u → ∃ r, sv.den ρ r ∧ (if mx then Builtin.max_ ts ty #[v, u] else Builtin.min_ ts ty #[v, u]).run P w = .ok r w := by
  unfold minmaxK at h
  split at h
  · split at h
    · rename_i hk
      have hk := of_decide_eq_true hk
      subst hk
      split at h
      · refine .inr ⟨_, h, ?_⟩
        intro P ρ w v u ts ty hv hu
        subst hv hu
        refine ⟨_, rfl, ?_⟩
        simp [Builtin.max_, Builtin.max2]
        omega
      · refine .inr ⟨_, h, ?_⟩
        intro P ρ w v u ts ty hv hu
        subst hv hu
        refine ⟨_, rfl, ?_⟩
        simp [Builtin.min_, Builtin.min2]
        omega
    · exact .inl h
  · exact .inl h
theorem fold_lay (off : Nat) : ∀ (new : List Value) (j : Nat) (C : Array Value), off + j + new.length ≤ C.size →
    (new.zipIdx j).foldl (fun (cs : Array Value) (x : Value × Nat) => cs.setIfInBounds (off + x.2) x.1) C = (C.toList.take (off + j) ++ new ++ C.toList.drop (off + j + new.length)).toArray
  | [], j, C, _ => by simp
  | v :: rest, j, C, h => by
    have ih := fold_lay off rest (j + 1) (C.setIfInBounds (off + j) v) (by simp at h ⊢; omega)
    simp only [List.zipIdx_cons, List.foldl_cons, ih]
    congr 1
    have e := list_seg_step C.toList (off + j) v rest (by simp at h ⊢; omega)
    simpa [Array.toList_setIfInBounds, Nat.add_assoc] using e
theorem svCells_den {ρ : List LocV} {sv : SV} {new : List SC} {v : Value} (h : svCells sv = some new) (hv : sv.den ρ v) : SC.denL ρ new v.cells.toList := by
  cases sv with
  | one c =>
    simp [svCells] at h; subst h
    have h1 := SC.den_one hv
    have : v.cells = #[v] := by cases v <;> simp [Value.oneCell'] at h1 <;> rfl
    rw [this]
    exact ⟨v, [], rfl, hv, rfl⟩
  | agg cs =>
    simp [svCells] at h; subst h
    obtain ⟨vs, rfl, hd⟩ := hv
    exact hd
  | tup xs => simp [svCells] at h
theorem fill_one {place : Nat → Option (Nat × Nat)} {C : Array Value} {n off sz : Nat} {v : Value} {rest : List (Nat × Value)} (h : place n = some (off, sz)) (h1 : v.cells.size = sz) (h2 : off + sz ≤ C.size) :
    Instr.fill place C ((n, v) :: rest) = Instr.fill place (C.toList.take off ++ v.cells.toList ++ C.toList.drop (off + sz)).toArray rest := by
  have h3 : ¬ (v.cells.size ≠ sz ∨ off + v.cells.size > C.size) := by omega
  have e := fold_lay off v.cells.toList 0 C (by simp; omega)
  have e2 : (v.cells.zipIdx.foldl (fun (cs : Array Value) (x : Value × Nat) => cs.setIfInBounds (off + x.2) x.1) C) = (v.cells.toList.zipIdx.foldl (fun (cs : Array Value) (x : Value × Nat) => cs.setIfInBounds (off + x.2) x.1) C) := by
    rw [← Array.foldl_toList, Array.toList_zipIdx]
  simp only [Instr.fill, h]
  rw [if_neg (by simpa using h3)]
  congr 1
  refine Eq.trans ?_ (e2.trans (e.trans ?_))
  · rfl
  · simp [h1]
theorem denL_lay {ρ : List LocV} {cs new : List SC} {vs ns : List Value} {o : Nat} (h1 : SC.denL ρ cs vs) (h2 : SC.denL ρ new ns) : SC.denL ρ (cs.take o ++ new ++ cs.drop (o + new.length)) (vs.take o ++ ns ++ vs.drop (o + ns.length)) := by
  rw [SC.denL_length h2]
  exact SC.denL_append (SC.denL_append (SC.denL_take o h1) h2) (SC.denL_drop _ h1)

theorem fieldsB_places {P : Program} : ∀ {fs : List (Nat × Nat × Nat)} {gs : List Field}, fieldsB P fs gs = true → gs.mapM (fun f => (P.info? f.type).map fun i => (f.offset, i.size)) = some (fs.map fun x => (x.1, x.2.1))
  | [], [], _ => rfl
  | [], _ :: _, h => by simp [fieldsB] at h
  | _ :: _, [], h => by simp [fieldsB] at h
  | (o, s, t) :: r, g :: gs, h => by
    simp only [fieldsB, Bool.and_eq_true, decide_eq_true_eq] at h
    obtain ⟨⟨⟨⟨h1, h2⟩, h3⟩, h4⟩, h5⟩ := h
    obtain ⟨x, hx, hs⟩ := Option.map_eq_some_iff.1 h3
    simp [List.mapM_cons, h2, hx, h1, hs, fieldsB_places h5]
theorem partsK_out {tb : Tab} {t : Nat} {env : List (Nat × SV)} {sz by0 : Nat} {fs : List (Nat × Nat × Nat)} {z : List SC} (hty : tfind tb t = some ⟨sz, by0, .struct fs, z⟩) : ∀ {parts : List (Nat × Operand)} {cs : List SC} {K : List SC → Prop} {Z : Prop}, partsK tb t env parts cs K Z →
    Z ∨ ∃ r, K r ∧ ∀ {ρ : List LocV} {a : Act} {vs : List Value}, EnvOk ρ env a → SC.denL ρ cs vs → ∃ us : List Value, SC.denL ρ r us ∧ Instr.fill (fun i => (fs.map fun x => (x.1, x.2.1))[i]?) vs.toArray (parts.map fun x => (x.1, a.eval x.2)) = some us.toArray
  | [], cs, K, Z, h => .inr ⟨cs, h, fun _ hd => ⟨_, hd, by simp [Instr.fill]⟩⟩
  | (n, x) :: r, cs, K, Z, h => by
    simp only [partsK] at h
    rcases opdK_out h with h | ⟨sv, h, hsv⟩
    · exact .inl h
    split at h
    · rename_i new hnew
      have h' : ∃ o s ty, fs[n]? = some (o, s, ty) ∧ (match Nat.beq new.length s with | true => layK o new cs (fun cs => partsK tb t env r cs K Z) Z | false => Z) ∨ Z := by
        unfold fldK at h
        rw [hty] at h
        simp only at h
        split at h
        · rename_i o s ty hn; exact ⟨o, s, ty, .inl ⟨hn, h⟩⟩
        · exact ⟨0, 0, 0, .inr h⟩
      obtain ⟨o, s, ty, ⟨hn, h⟩ | h⟩ := h'
      · split at h
        · rename_i hb
          have hb := Nat.eq_of_beq_eq_true hb
          rcases layK_out h with h | ⟨h1, h⟩
          · exact .inl h
          rcases partsK_out hty h with h | ⟨q, h, hq⟩
          · exact .inl h
          refine .inr ⟨q, h, fun {ρ a vs} he hd => ?_⟩
          have hv := svCells_den hnew (hsv ρ a he)
          have hl := SC.denL_length hv
          have hlay := denL_lay (o := o) hd hv
          obtain ⟨us, hu1, hu2⟩ := hq he hlay
          refine ⟨us, hu1, ?_⟩
          rw [List.map_cons, fill_one (off := o) (sz := s) (by simp [hn]) (by rw [← hb, ← hl]; simp) (by have := SC.denL_length hd; simp; omega)]
          rw [← hu2]
          congr 2
          simp [← hb, ← hl]
        · exact .inl h
      · exact .inl h
    · exact .inl h
theorem buildK_out {tb : Tab} {t : Nat} {env : List (Nat × SV)} {parts : List (Nat × Operand)} {K : SV → Prop} {Z : Prop} (h : buildK tb t env parts K Z) : Z ∨ ∃ sv, K sv ∧
    ∀ {P : Program} {ρ : List LocV} {a : Act} {w : World}, TabOk P tb → EnvOk ρ env a → ∃ r, sv.den ρ r ∧ (Instr.build t (parts.map fun x => (x.1, a.eval x.2)).toArray).run P w = .ok r w := by
  unfold buildK at h
  split at h
  · rename_i sz by0 fs z hty
    rcases partsK_out hty h with h | ⟨r, h, hr⟩
    · exact .inl h
    refine .inr ⟨_, h, ?_⟩
    intro P ρ a w ht he
    obtain ⟨x1, d1, z1, k1, k2, k3, k4, k5, k6, k7⟩ := (tabB_find ht.1 hty).ex
    obtain ⟨gs, rfl, hg⟩ := kindB_struct k5
    obtain ⟨us, h1, h2⟩ := hr he (zeroB_den k7)
    refine ⟨_, ⟨us, rfl, h1⟩, run_build w t _ _ ?_⟩
    simp only [Program.built, k1, k2, k6, fieldsB_places hg]
    simpa using h2
  · exact .inl h
theorem capsK_out {env : List (Nat × SV)} : ∀ {xs : List Operand} {K : List (Nat × Nat) → Prop} {Z : Prop}, capsK env xs K Z → Z ∨ ∃ cs, K cs ∧ ∀ {ρ : List LocV} {a : Act}, EnvOk ρ env a → ptrsDen ρ cs (xs.map a.eval)
  | [], K, Z, h => .inr ⟨[], h, fun _ => rfl⟩
  | x :: r, K, Z, h => by
    simp only [capsK] at h
    rcases opdK_out h with h | ⟨sv, h, hsv⟩
    · exact .inl h
    split at h
    · rename_i l f
      rcases capsK_out h with h | ⟨cs, h, hcs⟩
      · exact .inl h
      refine .inr ⟨_, h, fun {ρ a} he => ?_⟩
      obtain ⟨x', ad, h1, h2, h3⟩ := hsv ρ a he
      exact ⟨x', ad, _, h1, h2, by simp [h3], hcs he⟩
    · exact .inl h

/-- ONE OPERATION THAT LEAVES THE MEMORY ALONE. -/
theorem evalK_out {tb : Tab} {s : St} {o : Oper} {K : SV → Prop} {Z : Prop} (h : evalK tb s.env s.chs o.op K Z) : Z ∨ ∃ sv, K sv ∧ Ev tb s o sv := by
  unfold evalK at h
  split at h
  case h_1 x ho =>
    rcases opdK_out h with h | ⟨sv, h, hsv⟩
    · exact .inl h
    exact .inr ⟨sv, h, fun ht hs => ⟨_, hsv _ _ hs.env, by simp [execOp, ho]⟩⟩
  case h_2 x ho =>
    rcases opdK_out h with h | ⟨sv, h, hsv⟩
    · exact .inl h
    exact .inr ⟨sv, h, fun ht hs => ⟨_, hsv _ _ hs.env, by simp [execOp, ho]⟩⟩
  case h_3 c x y ho =>
    rcases opdK_out h with h | ⟨sc, h, hsc⟩
    · exact .inl h
    split at h
    · rcases opdK_out h with h | ⟨sv, h, hsv⟩
      · exact .inl h
      refine .inr ⟨sv, h, fun {P F nt ρ a w} ht hs => ⟨_, hsv _ _ hs.env, ?_⟩⟩
      have : a.eval c = .bool true := hsc _ _ hs.env
      simp [execOp, ho, this, asBool]
    · rcases opdK_out h with h | ⟨sv, h, hsv⟩
      · exact .inl h
      refine .inr ⟨sv, h, fun {P F nt ρ a w} ht hs => ⟨_, hsv _ _ hs.env, ?_⟩⟩
      have : a.eval c = .bool false := hsc _ _ hs.env
      simp [execOp, ho, this, asBool]
    · exact .inl h
  case h_4 t x ho =>
    rcases opdK_out h with h | ⟨sp, h, hsp⟩
    · exact .inl h
    split at h
    · rcases loadK_out h with h | ⟨sv, h, hsv⟩
      · exact .inl h
      refine .inr ⟨sv, h, fun {P F nt ρ a w} ht hs => ?_⟩
      obtain ⟨u, h1, h2⟩ := hsv ht hs (hsp _ _ hs.env)
      exact ⟨u, h1, by simp [execOp, ho, h2]⟩
    · exact .inl h
  case h_5 t x n ho =>
    rcases opdK_out h with h | ⟨sp, h, hsp⟩
    · exact .inl h
    split at h
    · rename_i l i e f
      rcases fldK_out h with h | ⟨o', sz, ty, h, hf⟩
      · exact .inl h
      rw [litAddK_eq] at h
      refine .inr ⟨_, h, fun {P F nt ρ a w} ht hs => ?_⟩
      obtain ⟨gs, g, g1, g2, g3, g4, g5, g6⟩ := hf ht
      obtain ⟨x', ad, h1, h2, h3⟩ := hsp _ _ hs.env
      have ha : ∃ b o, ad = ⟨b, o, none⟩ ∨ True := ⟨0, 0, .inr trivial⟩
      refine ⟨_, ⟨x', ad, h1, h2, rfl⟩, ?_⟩
      simp only [execOp, ho, h3, Sem.run_bind, run_fieldAt g1 g2 g3 g4 g5 g6, Result.andThen_ok]
      have : (ad.add (i * e + f)).add o' = ad.add (i * e + (f + o')) := by
        unfold Addr.add
        by_cases q1 : i * e + f = 0
        · have : f = 0 := by omega
          subst this
          simp_all
        · by_cases q2 : o' = 0
          · simp_all
          · have q3 : ¬ (i * e + (f + o') = 0) := by omega
            rw [if_neg q1, if_neg q2, if_neg q3]
            simp; omega
      simp [this]
    · exact .inl h
  case h_6 t x i ho =>
    rcases opdK_out h with h | ⟨sp, h, hsp⟩
    · exact .inl h
    rcases opdK_out h with h | ⟨sq, h, hsq⟩
    · exact .inl h
    rcases indexAddrK_out h with h | ⟨sv, h, hsv⟩
    · exact .inl h
    refine .inr ⟨sv, h, fun {P F nt ρ a w} ht hs => ?_⟩
    obtain ⟨u, h1, h2⟩ := hsv ht hs (hsp _ _ hs.env) (hsq _ _ hs.env)
    exact ⟨u, h1, by simp [execOp, ho, h2]⟩
  case h_7 x ho =>
    rcases opdK_out h with h | ⟨sp, h, hsp⟩
    · exact .inl h
    split at h
    · refine .inr ⟨_, h, fun {P F nt ρ a w} ht hs => ?_⟩
      obtain ⟨x', ad, h1, h2, h3⟩ := hsp _ _ hs.env
      exact ⟨_, ⟨x', ad, h1, h2, rfl⟩, by simp [execOp, ho, h3]⟩
    · refine .inr ⟨_, h, fun {P F nt ρ a w} ht hs => ?_⟩
      obtain ⟨ps, h1, h2⟩ := hsp _ _ hs.env
      exact ⟨_, ⟨ps, h1, rfl⟩, by simp [execOp, ho, h2]⟩
    · exact .inl h
  case h_8 op t x y yt ho =>
    rcases opdK_out h with h | ⟨sp, h, hsp⟩
    · exact .inl h
    rcases opdK_out h with h | ⟨sq, h, hsq⟩
    · exact .inl h
    cases sp with
    | one c =>
      cases sq with
      | one d =>
        have fin : ∀ {sv : SC}, BinEv op c d sv → (∀ {P : Program}, TabOk P tb → (op = .eql ∨ op = .neq → (∃ p, c.asB = some p) → P.underlying t = some .bool)) → Ev tb s o (.one sv) := by
          intro sv hb ht P F nt ρ a w hT hs
          obtain ⟨r, h1, h2⟩ := hb (P := P) (w := w) t x y (ht hT) (hsp _ _ hs.env) (hsq _ _ hs.env)
          refine ⟨r, h1, ?_⟩
          simp only [execOp, ho]
          have h3 := h2
          simp only [Sem.run_bind] at h3 ⊢
          rw [h3]
          rfl
        unfold kindK at h
        simp only at h
        split at h
        · rename_i sz by0 k z hty
          split at h
          · rcases binK_out h with h | ⟨sv, h, hb⟩
            · exact .inl h
            refine .inr ⟨_, h, fin hb (fun {P} hT _ _ => ?_)⟩
            obtain ⟨x1, d1, z1, k1, k2, k3, k4, k5, k6, k7⟩ := (tabB_find hT.1 hty).ex
            rw [k2, kindB_bool k5]
          · exact .inl h
          · rename_i hn
            rcases binK_out h with h | ⟨sv, h, hb⟩
            · exact .inl h
            refine .inr ⟨_, h, fin hb (fun {P} hT _ he => ?_)⟩
            obtain ⟨p, hp⟩ := he
            rw [hn] at hp; cases hp
        · exact .inl h
      | _ => exact .inl h
    | _ => exact .inl h
  case h_9 op t x ho =>
    rcases opdK_out h with h | ⟨sp, h, hsp⟩
    · exact .inl h
    cases sp with
    | one c =>
      rcases unK_out h with h | ⟨sv, h, hsv⟩
      · exact .inl h
      refine .inr ⟨_, h, fun {P F nt ρ a w} ht hs => ?_⟩
      obtain ⟨u, h1, h2⟩ := hsv (P := P) (w := w) (hsp _ _ hs.env)
      exact ⟨u, h1, by simp [execOp, ho, h2]⟩
    | _ => exact .inl h
  case h_10 src dst x ho =>
    rcases opdK_out h with h | ⟨sp, h, hsp⟩
    · exact .inl h
    rcases convK_out h with h | ⟨sv, h, hsv⟩
    · exact .inl h
    refine .inr ⟨_, h, fun {P F nt ρ a w} ht hs => ?_⟩
    obtain ⟨u, h1, h2⟩ := hsv (w := w) ht (hsp _ _ hs.env)
    exact ⟨u, h1, by simp [execOp, ho, h2]⟩
  case h_11 t x n ho =>
    rcases opdK_out h with h | ⟨sp, h, hsp⟩
    · exact .inl h
    rcases fieldK_out h with h | ⟨sv, h, hsv⟩
    · exact .inl h
    refine .inr ⟨_, h, fun {P F nt ρ a w} ht hs => ?_⟩
    obtain ⟨u, h1, h2⟩ := hsv (w := w) ht (hsp _ _ hs.env)
    exact ⟨u, h1, by simp [execOp, ho, h2]⟩
  case h_12 x i ho =>
    rcases opdK_out h with h | ⟨sp, h, hsp⟩
    · exact .inl h
    rcases extractK_out h with h | ⟨sv, h, hsv⟩
    · exact .inl h
    refine .inr ⟨_, h, fun {P F nt ρ a w} ht hs => ?_⟩
    obtain ⟨u, h1, h2⟩ := hsv (P := P) (w := w) (hsp _ _ hs.env)
    exact ⟨u, h1, by simp [execOp, ho, h2]⟩
  case h_13 t x i ho =>
    rcases opdK_out h with h | ⟨sp, h, hsp⟩
    · exact .inl h
    rcases opdK_out h with h | ⟨sq, h, hsq⟩
    · exact .inl h
    rcases strIdxK_out h with h | ⟨sv, h, hsv⟩
    · exact .inl h
    refine .inr ⟨_, h, fun {P F nt ρ a w} ht hs => ?_⟩
    obtain ⟨u, h1, h2⟩ := hsv (w := w) ht (hsp _ _ hs.env) (hsq _ _ hs.env)
    exact ⟨u, h1, by simp [execOp, ho, h2]⟩
  case h_14 t parts ho =>
    rcases buildK_out h with h | ⟨sv, h, hsv⟩
    · exact .inl h
    refine .inr ⟨_, h, fun {P F nt ρ a w} ht hs => ?_⟩
    obtain ⟨u, h1, h2⟩ := hsv (w := w) ht hs.env
    refine ⟨u, h1, ?_⟩
    have : (parts.map fun (x : Nat × Operand) => (x.1, a.eval x.2)) = (parts.toList.map fun x => (x.1, a.eval x.2)).toArray := by
      apply Array.ext'; simp
    simp only [execOp, ho, Sem.run_bind]
    have h3 := h2
    rw [← this] at h3
    rw [h3]
    rfl
  case h_15 f first captured ho =>
    split at h
    · rename_i hf
      rcases capsK_out h with h | ⟨cs, h, hcs⟩
      · exact .inl h
      refine .inr ⟨_, h, fun {P F nt ρ a w} ht hs => ?_⟩
      refine ⟨_, ⟨_, hcs hs.env, rfl⟩, ?_⟩
      have h1 : first.map a.eval = #[] := by
        have : first = #[] := Array.ext' (by simpa using hf)
        simp [this]
      have h2 : captured.map a.eval = (captured.toList.map a.eval).toArray := by apply Array.ext'; simp
      simp [execOp, ho, Instr.makeFunc, h1, h2]
    · exact .inl h
  case h_16 args ts ho =>
    split at h
    · rename_i x t hx hts
      rcases opdK_out h with h | ⟨sp, h, hsp⟩
      · exact .inl h
      rcases lenK_out h with h | ⟨sv, h, hsv⟩
      · exact .inl h
      refine .inr ⟨_, h, fun {P F nt ρ a w} ht hs => ?_⟩
      obtain ⟨u, h1, h2⟩ := hsv (w := w) o.type ht (hsp _ _ hs.env)
      refine ⟨u, h1, ?_⟩
      have e1 : args = #[x] := Array.ext' (by simpa using hx)
      have e2 : ts = #[t] := Array.ext' (by simpa using hts)
      subst e1 e2
      simp [execOp, ho, resolve, invoke, builtin, h2]
    · exact .inl h
  case h_17 args ts ho =>
    split at h
    · rename_i x y hx
      rcases opdK_out h with h | ⟨sp, h, hsp⟩
      · exact .inl h
      rcases opdK_out h with h | ⟨sq, h, hsq⟩
      · exact .inl h
      rcases minmaxK_out h with h | ⟨sv, h, hsv⟩
      · exact .inl h
      refine .inr ⟨_, h, fun {P F nt ρ a w} ht hs => ?_⟩
      obtain ⟨u, h1, h2⟩ := hsv (P := P) (w := w) ts o.type (hsp _ _ hs.env) (hsq _ _ hs.env)
      refine ⟨u, h1, ?_⟩
      have e1 : args = #[x, y] := Array.ext' (by simpa using hx)
      subst e1
      simp only [Bool.false_eq_true, if_false] at h2
      simp [execOp, ho, resolve, invoke, builtin, h2]
    · exact .inl h
  case h_18 args ts ho =>
    split at h
    · rename_i x y hx
      rcases opdK_out h with h | ⟨sp, h, hsp⟩
      · exact .inl h
      rcases opdK_out h with h | ⟨sq, h, hsq⟩
      · exact .inl h
      rcases minmaxK_out h with h | ⟨sv, h, hsv⟩
      · exact .inl h
      refine .inr ⟨_, h, fun {P F nt ρ a w} ht hs => ?_⟩
      obtain ⟨u, h1, h2⟩ := hsv (P := P) (w := w) ts o.type (hsp _ _ hs.env) (hsq _ _ hs.env)
      refine ⟨u, h1, ?_⟩
      have e1 : args = #[x, y] := Array.ext' (by simpa using hx)
      subst e1
      simp only [if_true] at h2
      simp [execOp, ho, resolve, invoke, builtin, h2]
    · exact .inl h
  case h_19 t x ho =>
    rcases opdK_out h with h | ⟨sp, h, hsp⟩
    · exact .inl h
    rcases sliceStrK_out h with h | ⟨sv, h, hsv⟩
    · exact .inl h
    refine .inr ⟨_, h, fun {P F nt ρ a w} ht hs => ?_⟩
    obtain ⟨u, h1, h2⟩ := hsv (w := w) (l := none) (u := none) ht (hsp _ _ hs.env) (by simp) (by simp) (by simp) (by simp)
    exact ⟨u, h1, by simp [execOp, ho, h2]⟩
  case h_20 t x l ho =>
    rcases opdK_out h with h | ⟨sp, h, hsp⟩
    · exact .inl h
    rcases opdK_out h with h | ⟨sl, h, hsl⟩
    · exact .inl h
    rcases sliceStrK_out h with h | ⟨sv, h, hsv⟩
    · exact .inl h
    refine .inr ⟨_, h, fun {P F nt ρ a w} ht hs => ?_⟩
    obtain ⟨u, h1, h2⟩ := hsv (w := w) (l := some (a.eval l)) (u := none) ht (hsp _ _ hs.env) (by rintro _ ⟨⟩; exact ⟨_, rfl, hsl _ _ hs.env⟩) (by simp) (by simp) (by simp)
    exact ⟨u, h1, by simp [execOp, ho, h2]⟩
  case h_21 t x hi ho =>
    rcases opdK_out h with h | ⟨sp, h, hsp⟩
    · exact .inl h
    rcases opdK_out h with h | ⟨sh, h, hsh⟩
    · exact .inl h
    rcases sliceStrK_out h with h | ⟨sv, h, hsv⟩
    · exact .inl h
    refine .inr ⟨_, h, fun {P F nt ρ a w} ht hs => ?_⟩
    obtain ⟨u, h1, h2⟩ := hsv (w := w) (l := none) (u := some (a.eval hi)) ht (hsp _ _ hs.env) (by simp) (by simp) (by rintro _ ⟨⟩; exact ⟨_, rfl, hsh _ _ hs.env⟩) (by simp)
    exact ⟨u, h1, by simp [execOp, ho, h2]⟩
  case h_22 t x l hi ho =>
    rcases opdK_out h with h | ⟨sp, h, hsp⟩
    · exact .inl h
    rcases opdK_out h with h | ⟨sl, h, hsl⟩
    · exact .inl h
    rcases opdK_out h with h | ⟨sh, h, hsh⟩
    · exact .inl h
    rcases sliceStrK_out h with h | ⟨sv, h, hsv⟩
    · exact .inl h
    refine .inr ⟨_, h, fun {P F nt ρ a w} ht hs => ?_⟩
    obtain ⟨u, h1, h2⟩ := hsv (w := w) (l := some (a.eval l)) (u := some (a.eval hi)) ht (hsp _ _ hs.env) (by rintro _ ⟨⟩; exact ⟨_, rfl, hsl _ _ hs.env⟩) (by simp) (by rintro _ ⟨⟩; exact ⟨_, rfl, hsh _ _ hs.env⟩) (by simp)
    exact ⟨u, h1, by simp [execOp, ho, h2]⟩
  case h_23 => exact .inl h
end Go.Proofs.Ythdbhlpceodhlaa.Sx
