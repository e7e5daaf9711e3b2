/- A part of the framework that the proofs of this seat stand on: a separation logic over the model's walks, with a runner that Lean evaluates. It is proved here, without conditions of its own. -/
import Derived.Test.YthdbhlpceodhlaaSxH
set_option linter.unusedVariables false
set_option linter.unusedSimpArgs false
namespace Go.Proofs.Ythdbhlpceodhlaa.Sx
open Go

/-! ### 16. one state read as another: locations chosen anew -/
structure RelL (sel : List (Option Nat)) (ρ ρ' : List LocV) : Prop where
  old : ∀ (j i : Nat), sel[j]? = some (some i) → ∀ x, ρ[i]? = some x → ρ'[j]? = some x
  new : ∀ (j : Nat), sel[j]? = some none → ρ'[j]? = some ⟨none, 0⟩
def selK (sel : List (Option Nat)) (j i : Nat) (K : Prop) : Prop :=
  match sel[j]? with
  | some (some i') => match Nat.beq i i' with
    | true => K
    | false => False
  | _ => False
theorem selK_out {sel : List (Option Nat)} {j i : Nat} {K : Prop} (h : selK sel j i K) : K ∧ sel[j]? = some (some i) := by
  unfold selK at h
  split at h
  · rename_i i' hs
    split at h
    · rename_i hb
      have := Nat.eq_of_beq_eq_true hb
      subst this
      exact ⟨h, hs⟩
    · exact h.elim
  · exact h.elim
def mPtrs (sel : List (Option Nat)) : List (Nat × Nat) → List (Nat × Nat) → Prop → Prop
  | [], [], K => K
  | (l, f) :: r, (l', f') :: r', K => selK sel l' l (match Nat.beq f f' with | true => mPtrs sel r r' K | false => False)
  | _, _, _ => False
def mSC (sel : List (Option Nat)) (src tgt : SC) (K : Prop) : Prop :=
  match src, tgt with
  | .int k n, .int k' n' => match decide (k = k') with
    | true => n = n' ∧ K
    | false => False
  | .str s, .str t => s = t ∧ K
  | .slc i n, .slc j m => selK sel j i (n = m ∧ K)
  | .nil, .slc j m => match sel[j]? with
    | some none => m = 0 ∧ K
    | _ => False
  | .nil, .nil => K
  | .ptr i x e f, .ptr j y e' f' => selK sel j i (match Nat.beq e e' with
    | true => match Nat.beq f f' with
      | true => x = y ∧ K
      | false => False
    | false => False)
  | .val v, .val u => v = u ∧ K
  | .clo f cs, .clo g ds => match Nat.beq f g with
    | true => mPtrs sel cs ds K
    | false => False
  | a, b => match a.asB, b.asB with
    | some x, some y => x = y ∧ K
    | _, _ => False
def mSCL (sel : List (Option Nat)) : List SC → List SC → Prop → Prop
  | [], [], K => K
  | a :: r, b :: r', K => mSC sel a b (mSCL sel r r' K)
  | _, _, _ => False
def mSW (sel : List (Option Nat)) (a b : SW) (K : Prop) : Prop :=
  match a, b with
  | .one x, .one y => mSC sel x y K
  | .agg x, .agg y => mSCL sel x y K
  | _, _ => False
def mSWL (sel : List (Option Nat)) : List SW → List SW → Prop → Prop
  | [], [], K => K
  | a :: r, b :: r', K => mSW sel a b (mSWL sel r r' K)
  | _, _, _ => False
def mSV (sel : List (Option Nat)) (a b : SV) (K : Prop) : Prop :=
  match a, b with
  | .one x, .one y => mSC sel x y K
  | .agg x, .agg y => mSCL sel x y K
  | .tup x, .tup y => mSWL sel x y K
  | _, _ => False
def mSVL (sel : List (Option Nat)) : List SV → List SV → Prop → Prop
  | [], [], K => K
  | a :: r, b :: r', K => mSV sel a b (mSVL sel r r' K)
  | _, _, _ => False
theorem mPtrs_out {sel : List (Option Nat)} : ∀ {cs ds : List (Nat × Nat)} {K : Prop}, mPtrs sel cs ds K → K ∧ ∀ {ρ ρ' : List LocV}, RelL sel ρ ρ' → ∀ vs, ptrsDen ρ cs vs → ptrsDen ρ' ds vs
  | [], [], K, h => ⟨h, fun _ _ h => h⟩
  | (l, f) :: r, (l', f') :: r', K, h => by
    simp only [mPtrs] at h
    have hs := (selK_out h).2
    replace h := (selK_out h).1
    split at h
    · rename_i hb
      have := Nat.eq_of_beq_eq_true hb
      subst this
      obtain ⟨h1, h2⟩ := mPtrs_out h
      exact ⟨h1, fun hr vs ⟨x, a, q, e1, e2, e3, e4⟩ => ⟨x, a, q, hr.old _ _ hs x e1, e2, e3, h2 hr q e4⟩⟩
    · exact h.elim
  | [], _ :: _, _, h => h.elim
  | _ :: _, [], _, h => h.elim
theorem mSC_out {sel : List (Option Nat)} {src tgt : SC} {K : Prop} (h : mSC sel src tgt K) : K ∧ ∀ {ρ ρ' : List LocV}, RelL sel ρ ρ' → ∀ v, src.den ρ v → tgt.den ρ' v := by
  unfold mSC at h
  split at h
  · split at h
    · rename_i hk
      have := of_decide_eq_true hk
      subst this
      obtain ⟨rfl, h⟩ := h
      exact ⟨h, fun _ _ h => h⟩
    · exact h.elim
  · obtain ⟨rfl, h⟩ := h
    exact ⟨h, fun _ _ h => h⟩
  · have hs := (selK_out h).2
    replace h := (selK_out h).1
    obtain ⟨rfl, h⟩ := h
    exact ⟨h, fun hr v ⟨x, e1, e2⟩ => ⟨x, hr.old _ _ hs x e1, e2⟩⟩
  · split at h
    · rename_i hs
      obtain ⟨rfl, h⟩ := h
      exact ⟨h, fun hr v e => ⟨_, hr.new _ hs, e⟩⟩
    · exact h.elim
  · exact ⟨h, fun _ _ h => h⟩
  · have hs := (selK_out h).2
    replace h := (selK_out h).1
    split at h
    · rename_i hb1
      split at h
      · rename_i hb2
        have := Nat.eq_of_beq_eq_true hb1
        subst this
        have := Nat.eq_of_beq_eq_true hb2
        subst this
        obtain ⟨rfl, h⟩ := h
        exact ⟨h, fun hr v ⟨x, a, e1, e2, e3⟩ => ⟨x, a, hr.old _ _ hs x e1, e2, e3⟩⟩
      · exact h.elim
    · exact h.elim
  · obtain ⟨rfl, h⟩ := h
    exact ⟨h, fun _ _ h => h⟩
  · split at h
    · rename_i hb
      have := Nat.eq_of_beq_eq_true hb
      subst this
      obtain ⟨h, hp⟩ := mPtrs_out h
      exact ⟨h, fun hr v ⟨ps, e1, e2⟩ => ⟨ps, hp hr _ e1, e2⟩⟩
    · exact h.elim
  · split at h
    · rename_i x y hx hy
      obtain ⟨rfl, h⟩ := h
      refine ⟨h, fun _ v hv => ?_⟩
      have := asB_den hx hv
      subst this
      cases tgt <;> simp [SC.asB] at hy <;> simp_all [SC.den]
    · exact h.elim
theorem mSCL_out {sel : List (Option Nat)} : ∀ {src tgt : List SC} {K : Prop}, mSCL sel src tgt K → K ∧ ∀ {ρ ρ' : List LocV}, RelL sel ρ ρ' → ∀ v, SC.denL ρ src v → SC.denL ρ' tgt v
  | [], [], K, h => ⟨h, fun _ _ h => h⟩
  | a :: r, b :: r', K, h => by
    obtain ⟨h, h1⟩ := mSC_out h
    obtain ⟨h, h2⟩ := mSCL_out h
    exact ⟨h, fun hr v ⟨u, q, e1, e2, e3⟩ => ⟨u, q, e1, h1 hr _ e2, h2 hr _ e3⟩⟩
  | [], _ :: _, _, h => h.elim
  | _ :: _, [], _, h => h.elim
theorem mSW_out {sel : List (Option Nat)} {src tgt : SW} {K : Prop} (h : mSW sel src tgt K) : K ∧ ∀ {ρ ρ' : List LocV}, RelL sel ρ ρ' → ∀ v, src.den ρ v → tgt.den ρ' v := by
  unfold mSW at h
  split at h
  · exact mSC_out h
  · obtain ⟨h, h1⟩ := mSCL_out h
    exact ⟨h, fun hr v ⟨cs, e1, e2⟩ => ⟨cs, e1, h1 hr _ e2⟩⟩
  · exact h.elim
theorem mSWL_out {sel : List (Option Nat)} : ∀ {src tgt : List SW} {K : Prop}, mSWL sel src tgt K → K ∧ ∀ {ρ ρ' : List LocV}, RelL sel ρ ρ' → ∀ v, SW.denL ρ src v → SW.denL ρ' tgt v
  | [], [], K, h => ⟨h, fun _ _ h => h⟩
  | a :: r, b :: r', K, h => by
    obtain ⟨h, h1⟩ := mSW_out h
    obtain ⟨h, h2⟩ := mSWL_out h
    exact ⟨h, fun hr v ⟨u, q, e1, e2, e3⟩ => ⟨u, q, e1, h1 hr _ e2, h2 hr _ e3⟩⟩
  | [], _ :: _, _, h => h.elim
  | _ :: _, [], _, h => h.elim
theorem mSV_out {sel : List (Option Nat)} {src tgt : SV} {K : Prop} (h : mSV sel src tgt K) : K ∧ ∀ {ρ ρ' : List LocV}, RelL sel ρ ρ' → ∀ v, src.den ρ v → tgt.den ρ' v := by
  unfold mSV at h
  split at h
  · exact mSC_out h
  · obtain ⟨h, h1⟩ := mSCL_out h
    exact ⟨h, fun hr v ⟨cs, e1, e2⟩ => ⟨cs, e1, h1 hr _ e2⟩⟩
  · obtain ⟨h, h1⟩ := mSWL_out h
    exact ⟨h, fun hr v ⟨cs, e1, e2⟩ => ⟨cs, e1, h1 hr _ e2⟩⟩
  · exact h.elim
theorem mSVL_out {sel : List (Option Nat)} : ∀ {src tgt : List SV} {K : Prop}, mSVL sel src tgt K → K ∧ ∀ {ρ ρ' : List LocV}, RelL sel ρ ρ' → ∀ v, SV.denL ρ src v → SV.denL ρ' tgt v
  | [], [], K, h => ⟨h, fun _ _ h => h⟩
  | a :: r, b :: r', K, h => by
    obtain ⟨h, h1⟩ := mSV_out h
    obtain ⟨h, h2⟩ := mSVL_out h
    exact ⟨h, fun hr v ⟨u, q, e1, e2, e3⟩ => ⟨u, q, e1, h1 hr _ e2, h2 hr _ e3⟩⟩
  | [], _ :: _, _, h => h.elim
  | _ :: _, [], _, h => h.elim

/-- Does a chunk hold memory of its own? -/
def needs : Chunk → Bool
  | .box _ => true
  | .row true .. => true
  | .opn true .. => true
  | _ => false
def mCh (sel : List (Option Nat)) (dem : Bool) (src tgt : Chunk) (K : Prop) : Prop :=
  match tgt, src with
  | .dead, _ => K
  | .box us, .box vs => mSCL sel vs us K
  | .nilr, .nilr => K
  | .view l off sz, .view l' off' sz' => selK sel l l' (match Nat.beq sz sz' with | true => off' = off ∧ K | false => False)
  | .row true sz enc xs, .row true sz' enc' xs' => Chunk.row true sz' enc' xs' = Chunk.row true sz enc xs ∧ K
  | .row _ sz enc xs, .nilr => xs = [] ∧ 0 < sz ∧ K
  | .row false sz enc xs, .row false sz' enc' xs' => Chunk.row false sz' enc' xs' = Chunk.row false sz enc xs ∧ K
  | .row false sz enc xs, .row true sz' enc' xs' => match dem with
    | true => Chunk.row true sz' enc' xs' = Chunk.row true sz enc xs ∧ K
    | false => False
  | .row false sz enc xs, .opn false sz' enc' xs' _ _ => Chunk.row false sz' enc' xs' = Chunk.row false sz enc xs ∧ K
  | .opn true sz enc xs i us, .opn true sz' enc' xs' i' vs => Chunk.row true sz' enc' xs' = Chunk.row true sz enc xs ∧ i' = i ∧ mSCL sel vs us K
  | .opn false sz enc xs i us, .opn false sz' enc' xs' i' vs => Chunk.row false sz' enc' xs' = Chunk.row false sz enc xs ∧ i' = i ∧ mSCL sel vs us K
  | _, _ => False
theorem rowRd_nil {h : Hp} {A : Option Addr} {c : Nat} {α : Type} {sz : Nat} {enc : α → List D} (h0 : 0 < sz) : rowRd h A c sz enc ([] : List α) := ⟨by simp, by simp, h0, by simp⟩
theorem rowOwn_nil {h : Hp} {A : Option Addr} {α : Type} {sz : Nat} {enc : α → List D} (h0 : 0 < sz) : rowOwn h A 0 sz enc ([] : List α) := ⟨by simp, by simp, h0, .inl ⟨rfl, rfl⟩⟩
theorem opr_rd {F : Hp} {A : Option Addr} {c : Nat} {α : Type} {sz : Nat} {enc : α → List D} {xs : List α} {i : Nat} {cs : List Value} (h : rowOpr F A c sz enc xs i cs) : rowRd F A c sz enc xs := by
  obtain ⟨h1, h2, h3, h4, b, o, C, t, fr, q1, q2, q3, q4⟩ := h
  exact ⟨h1, h2, h3, fun _ => ⟨b, o, C, t, fr, q1, q2, q4⟩⟩
theorem mCh_out {sel : List (Option Nat)} {dem : Bool} {src tgt : Chunk} {K : Prop} (h : mCh sel dem src tgt K) : K ∧ ∀ {ρ ρ' : List LocV} {F F' hp hp' : Hp} {i j : Nat}, RelL sel ρ ρ' → sel[j]? = some (some i) → F.le F' → (needs tgt = true → hp.le hp') →
    (dem = true → needs tgt = false → hp.le F') → Chunk.ok F ρ i hp src → Chunk.ok F' ρ' j hp' tgt := by
  unfold mCh at h
  split at h
  · exact ⟨h, fun _ _ _ _ _ _ => trivial⟩
  · obtain ⟨h, h1⟩ := mSCL_out h
    exact ⟨h, fun hr hs hF hh _ ⟨x, b, C, t, e1, e2, e3, e4, e5⟩ => ⟨x, b, C, t, hr.old _ _ hs x e1, e2, e3, hh rfl _ _ e4, h1 hr _ e5⟩⟩
  · exact ⟨h, fun hr hs hF hh _ ⟨x, e1, e2⟩ => ⟨x, hr.old _ _ hs x e1, e2⟩⟩
  · have hl := (selK_out h).2
    replace h := (selK_out h).1
    split at h
    · rename_i hb
      have := Nat.eq_of_beq_eq_true hb
      subst this
      obtain ⟨rfl, h⟩ := h
      exact ⟨h, fun hr hs hF hh _ ⟨x, y, e1, e2, e3⟩ => ⟨x, y, hr.old _ _ hs x e1, hr.old _ _ hl y e2, e3⟩⟩
    · exact h.elim
  · obtain ⟨e, h⟩ := h
    refine ⟨h, fun hr hs hF hh _ ho => ?_⟩
    rw [e] at ho
    obtain ⟨x, e1, e2⟩ := ho
    exact ⟨x, hr.old _ _ hs x e1, rowOwn_mono (hh rfl) e2⟩
  · rename_i own _ _ _ 
    obtain ⟨rfl, h0, h⟩ := h
    refine ⟨h, fun hr hs hF hh _ ⟨x, e1, e2⟩ => ?_⟩
    cases own with
    | true => exact ⟨x, hr.old _ _ hs x e1, by rw [e2]; exact rowOwn_nil h0⟩
    | false => exact ⟨x, hr.old _ _ hs x e1, rowRd_nil h0⟩
  · obtain ⟨e, h⟩ := h
    refine ⟨h, fun hr hs hF hh _ ho => ?_⟩
    rw [e] at ho
    obtain ⟨x, e1, e2⟩ := ho
    exact ⟨x, hr.old _ _ hs x e1, rowRd_mono hF e2⟩
  · split at h
    · obtain ⟨e, h⟩ := h
      refine ⟨h, fun hr hs hF hh hd ho => ?_⟩
      rw [e] at ho
      obtain ⟨x, e1, e2⟩ := ho
      exact ⟨x, hr.old _ _ hs x e1, rowRd_mono (hd rfl rfl) (rowOwn_rd e2)⟩
    · exact h.elim
  · obtain ⟨e, h⟩ := h
    refine ⟨h, fun hr hs hF hh hd ho => ?_⟩
    obtain ⟨x, cs, e1, e2, e3⟩ := ho
    cases e
    exact ⟨x, hr.old _ _ hs x e1, rowRd_mono hF (opr_rd e3)⟩
  · obtain ⟨e, rfl, h⟩ := h
    obtain ⟨h, h1⟩ := mSCL_out h
    refine ⟨h, fun hr hs hF hh hd ho => ?_⟩
    cases e
    obtain ⟨x, cs, e1, e2, q1, q2, q3, q4, b, o, C, t, hs', q5, q6, q7, q8, q9⟩ := ho
    exact ⟨x, cs, hr.old _ _ hs x e1, h1 hr _ e2, q1, q2, q3, q4, b, o, C, t, hs', q5, hh rfl _ _ q6, q7, fun i => Hp.le_trans (q8 i) (hh rfl), q9⟩
  · obtain ⟨e, rfl, h⟩ := h
    obtain ⟨h, h1⟩ := mSCL_out h
    refine ⟨h, fun hr hs hF hh hd ho => ?_⟩
    cases e
    obtain ⟨x, cs, e1, e2, q1, q2, q3, q4, b, o, C, t, fr, q5, q6, q7, q8⟩ := ho
    exact ⟨x, cs, hr.old _ _ hs x e1, h1 hr _ e2, q1, q2, q3, q4, b, o, C, t, fr, q5, hF _ _ q6, q7, fun j x hx => D.rdL_mono hF _ _ (q8 j x hx)⟩
  · exact h.elim

def mChs (sel0 : List (Option Nat)) (dem : Bool) (src : List Chunk) : List (Option Nat) → List Chunk → Prop → Prop
  | [], [], K => K
  | some i :: sel, t :: ts, K => match src[i]? with
    | some c => mCh sel0 dem c t (mChs sel0 dem src sel ts K)
    | none => False
  | none :: sel, t :: ts, K => mCh sel0 dem .nilr t (mChs sel0 dem src sel ts K)
  | _, _, _ => False
theorem mPtrs_mp {sel : List (Option Nat)} {K K' : Prop} (f : K → K') : ∀ {a b : List (Nat × Nat)}, mPtrs sel a b K → mPtrs sel a b K'
  | [], [], h => f h
  | [], _ :: _, h => h.elim
  | _ :: _, [], h => h.elim
  | (l, g) :: r, (l', g') :: r', h => by
    simp only [mPtrs, selK] at h ⊢
    split <;> rename_i hq <;> simp only [hq] at h <;> try exact h.elim
    split <;> rename_i hq2 <;> simp only [hq2] at h <;> try exact h.elim
    split <;> rename_i hq3 <;> simp only [hq3] at h <;> try exact h.elim
    exact mPtrs_mp f h
theorem selK_mp {sel : List (Option Nat)} {j i : Nat} {K K' : Prop} (f : K → K') (h : selK sel j i K) : selK sel j i K' := by
  unfold selK at h ⊢
  split <;> rename_i hq <;> simp only [hq] at h <;> try exact h.elim
  split <;> rename_i hq2 <;> simp only [hq2] at h <;> try exact h.elim
  exact f h
theorem mSC_mp {sel : List (Option Nat)} {K K' : Prop} (f : K → K') {a b : SC} (h : mSC sel a b K) : mSC sel a b K' := by
  unfold mSC at h ⊢
  split at h
  · split at h
    · exact ⟨h.1, f h.2⟩
    · exact h.elim
  · exact ⟨h.1, f h.2⟩
  · exact selK_mp (fun h => ⟨h.1, f h.2⟩) h
  · split at h
    · exact ⟨h.1, f h.2⟩
    · exact h.elim
  · exact f h
  · refine selK_mp (fun h => ?_) h
    split at h
    · split at h
      · exact ⟨h.1, f h.2⟩
      · exact h.elim
    · exact h.elim
  · exact ⟨h.1, f h.2⟩
  · split at h
    · exact mPtrs_mp f h
    · exact h.elim
  · split at h
    · exact ⟨h.1, f h.2⟩
    · exact h.elim
theorem mSCL_mp {sel : List (Option Nat)} {K K' : Prop} (f : K → K') : ∀ {a b : List SC}, mSCL sel a b K → mSCL sel a b K'
  | [], [], h => f h
  | [], _ :: _, h => h.elim
  | _ :: _, [], h => h.elim
  | x :: r, y :: r', h => mSC_mp (fun h => mSCL_mp f h) h
theorem mCh_mp {sel : List (Option Nat)} {dem : Bool} {K K' : Prop} (f : K → K') {a b : Chunk} (h : mCh sel dem a b K) : mCh sel dem a b K' := by
  unfold mCh at h ⊢
  split at h
  · exact f h
  · exact mSCL_mp f h
  · exact f h
  · refine selK_mp (fun h => ?_) h
    split at h
    · exact ⟨h.1, f h.2⟩
    · exact h.elim
  · exact ⟨h.1, f h.2⟩
  · exact ⟨h.1, h.2.1, f h.2.2⟩
  · exact ⟨h.1, f h.2⟩
  · split at h
    · exact ⟨h.1, f h.2⟩
    · exact h.elim
  · exact ⟨h.1, f h.2⟩
  · exact ⟨h.1, h.2.1, mSCL_mp f h.2.2⟩
  · exact ⟨h.1, h.2.1, mSCL_mp f h.2.2⟩
  · exact h.elim
theorem mChs_out {sel0 : List (Option Nat)} {dem : Bool} {src : List Chunk} : ∀ {sel : List (Option Nat)} {ts : List Chunk} {K : Prop}, mChs sel0 dem src sel ts K → K ∧ sel.length = ts.length ∧
    (∀ (j i : Nat), sel[j]? = some (some i) → ∃ (c t : Chunk), src[i]? = some c ∧ ts[j]? = some t ∧ mCh sel0 dem c t True) ∧ (∀ (j : Nat), sel[j]? = some none → ∃ t : Chunk, ts[j]? = some t ∧ mCh sel0 dem .nilr t True)
  | [], [], K, h => ⟨h, rfl, by simp, by simp⟩
  | some i :: sel, t :: ts, K, h => by
    simp only [mChs] at h
    split at h
    · rename_i c hc
      obtain ⟨h', e1, e2, e3⟩ := mChs_out (mCh_out h).1
      refine ⟨h', by simp [e1], ?_, ?_⟩
      · intro j i' hj
        cases j with
        | zero => simp at hj; subst hj; exact ⟨c, t, hc, rfl, mCh_mp (fun _ => trivial) h⟩
        | succ j => simpa using e2 j i' (by simpa using hj)
      · intro j hj
        cases j with
        | zero => simp at hj
        | succ j => simpa using e3 j (by simpa using hj)
    · exact h.elim
  | none :: sel, t :: ts, K, h => by
    simp only [mChs] at h
    obtain ⟨h', e1, e2, e3⟩ := mChs_out (mCh_out h).1
    refine ⟨h', by simp [e1], ?_, ?_⟩
    · intro j i' hj
      cases j with
      | zero => simp at hj
      | succ j => simpa using e2 j i' (by simpa using hj)
    · intro j hj
      cases j with
      | zero => exact ⟨t, rfl, mCh_mp (fun _ => trivial) h⟩
      | succ j => simpa using e3 j (by simpa using hj)
  | [], _ :: _, _, h => by simp [mChs] at h
  | some _ :: _, [], _, h => by simp [mChs] at h
  | none :: _, [], _, h => by simp [mChs] at h
end Go.Proofs.Ythdbhlpceodhlaa.Sx
