/- A part of the framework that the proofs of this seat stand on: a separation logic over the model's walks, with a runner that Lean evaluates. It is proved here, without conditions of its own. -/
import Derived.Test.YthdbhlpceodhlaaSxR
import Derived.WalkKit
import Derived.ProofKit
import Derived.OpenShut
import Derived.ShutString
import Derived.ChangeOld
import Derived.Below
import Derived.Carry
import Derived.SizedLaws
set_option linter.unusedVariables false
set_option linter.unusedSimpArgs false
namespace Go.Proofs.Ythdbhlpceodhlaa.Sx
open Go

/-! ### 35. what an argument reads as -/
/-- Values of type t read as enc tells them. -/
def Rdr (P : Program) (W : World) (t : TypeId) {β : Type} (enc : β → List D) : Prop :=
  ∀ {H : Type} (e : TypeId × Value → H) (sp : Nat → Bool) (held : Bool) (n : Nat) (cs : List Value) (x : DataW H × List MemPlace), DataW.trod e P W 0 sp held n t cs = some x → (∀ z ∈ x.1.weights P t, z ≤ reachBytes) → ∃ y : β, D.rdL (heapOf W) (enc y) cs
theorem rdr_map {P : Program} {W : World} {t : TypeId} {β γ : Type} {enc : β → List D} {enc' : γ → List D} (h : Rdr P W t enc) (f : β → γ) (he : ∀ y, enc' (f y) = enc y) : Rdr P W t enc' := by
  intro H e sp held n cs x hx hz
  obtain ⟨y, hy⟩ := h e sp held n cs x hx hz
  exact ⟨f y, by rw [he]; exact hy⟩
theorem rdr_int {P : Program} {W : World} {t : TypeId} {k : IntKind} (ht : P.underlying t = some (.int k)) : Rdr P W t (fun n : Int => [.int k n]) := by
  intro H e sp held n cs x hx hz
  obtain ⟨z, rfl, _, _⟩ := DataW.trod_int ht hx
  exact ⟨z, _, _, rfl, rfl, rfl⟩
theorem cell_in {w : World} {a : Addr} {v : Value} (h : w.cell? a = some v) : a.spot = none ∧ ∃ C t fr, heapOf w a.block = some (.cells C t fr) ∧ C[a.off]? = some v := by
  unfold World.cell? at h
  split at h
  · rename_i C t fr hc
    split at h
    · cases h
    · rename_i hs
      exact ⟨by simpa using hs, C, t, fr, hc, h⟩
  · cases h
theorem weights_all {H : Type} {P : Program} {t : TypeId} : ∀ {ds : List (DataW H)} {d : DataW H} {z : Nat}, d ∈ ds → z ∈ d.weights P t → z ∈ DataW.weightsAll P t ds
  | a :: r, d, z, hd, hz => by
    simp only [DataW.weightsAll, List.mem_append]
    rcases List.mem_cons.1 hd with rfl | hd
    · exact .inl hz
    · exact .inr (weights_all hd hz)
theorem rdr_slice {P : Program} {W : World} {t el : TypeId} {sz : Nat} {β : Type} {enc : β → List D} (ht : P.underlying t = some (.slice el)) (hsz : P.cellsOf el = sz) (h0 : 0 < sz) (hby : 0 < P.bytesOf el) (h : Rdr P W el enc) : Rdr P W t (fun xs : List β => [.row sz enc xs]) := by
  intro H e sp held n cs x hx hz
  rcases DataW.trod_slice ht hx with ⟨rfl, _⟩ | ⟨a, len, cap, elems, rest, m, rfl, rfl, rfl, _, hlc, hcm, hel, hat, _, _⟩
  · exact ⟨[], _, _, rfl, D.rd_row.2 ⟨none, 0, rfl, by simp, by simp, h0, by simp⟩, rfl⟩
  · have hel' : ∀ i, i < len → ∃ (y : β) (cs : List Value), W.cells? 0 (a.add (i * sz)) sz = some cs ∧ D.rdL (heapOf W) (enc y) cs := by
      intro i hi
      have h1 := hat i hi
      rw [hsz, List.getElem?_eq_getElem (by omega)] at h1
      cases hc : W.cells? 0 (a.add (i * sz)) sz with
      | none => rw [hc] at h1; cases h1
      | some cs =>
        rw [hc] at h1
        obtain ⟨y, hy⟩ := h e sp held m cs _ h1 (fun z hzz => hz z (by
          simp only [DataW.weights, ht, List.mem_cons, List.mem_append]
          exact .inr (.inl (weights_all (List.mem_map.2 ⟨_, List.getElem_mem .., rfl⟩) hzz))))
        exact ⟨y, cs, rfl, hy⟩
    classical
    let ys : List β := (List.range len).attach.map fun i => (hel' i.1 (List.mem_range.1 i.2)).choose
    have hyl : ys.length = len := by simp [ys]
    have hlm : len ≤ maxL := by
      have := hz ((len + (rest.map (·.1)).length) * P.bytesOf el) (by simp [DataW.weights, ht, hel])
      have h2 : reachBytes ≤ maxL := by decide
      have h3 : len * 1 ≤ (len + (rest.map (·.1)).length) * P.bytesOf el := Nat.mul_le_mul (Nat.le_add_right _ _) hby
      omega
    refine ⟨ys, _, _, rfl, D.rd_row.2 ⟨some a, cap, by rw [hyl], by omega, by omega, h0, fun hp => ?_⟩, rfl⟩
    rw [hyl] at hp
    -- the block
    obtain ⟨y0, cs0, hc0, _⟩ := hel' 0 hp
    obtain ⟨_, hl0, hcell0⟩ := World.cells?_some hc0
    have h00 := hcell0 0 (by omega)
    rw [List.getElem?_eq_getElem (by omega)] at h00
    obtain ⟨hspot, C, tt, fr, hblk, _⟩ := cell_in h00
    have hb : (((a.add (0 * sz)).add 0).block) = a.block := by simp [Addr.add]
    have hs : (((a.add (0 * sz)).add 0).spot) = a.spot := by simp [Addr.add]
    rw [hb] at hblk
    rw [hs] at hspot
    obtain ⟨b, o, sp'⟩ := a
    dsimp only at hspot hblk
    subst hspot
    refine ⟨b, o, C, tt, fr, rfl, hblk, fun j y hj => ?_⟩
    have hjl : j < len := by have := (List.getElem?_eq_some_iff.1 hj).1; omega
    have hy : y = (hel' j hjl).choose := by
      have := (List.getElem?_eq_some_iff.1 hj).2
      simp [ys] at this
      exact this.symm
    obtain ⟨cs, hc, hrd⟩ := (hel' j hjl).choose_spec
    rw [hy]
    obtain ⟨_, hl, hcell⟩ := World.cells?_some hc
    have : cut C (o + j * sz) sz = cs := by
      apply List.ext_getElem?
      intro k
      rw [cut_get]
      split
      · rename_i hk
        have := hcell k hk
        rw [add_at, add_at, cell_of hblk] at this
        exact this
      · rw [List.getElem?_eq_none (by omega)]
    rw [this]; exact hrd
theorem rdL_append {h : Hp} : ∀ {a b : List D} {u v : List Value}, D.rdL h a u → D.rdL h b v → D.rdL h (a ++ b) (u ++ v)
  | [], _, _, _, e, e' => by simp [D.rdL] at e; subst e; exact e'
  | _ :: _, _, _, _, ⟨v, r, rfl, e2, e3⟩, e' => ⟨v, _, rfl, e2, rdL_append e3 e'⟩
/-- The fields from offset o on. -/
def RdrF (P : Program) (W : World) (o : Nat) (fs : List Field) (N : Nat) {β : Type} (enc : β → List D) : Prop :=
  ∀ (cs : List Value), cs.length = N → (∀ f ∈ fs, ∀ {β' : Type} {enc' : β' → List D}, Rdr P W f.type enc' → ∃ y, D.rdL (heapOf W) (enc' y) ((cs.drop f.offset).take (P.cellsOf f.type))) → ∃ y : β, D.rdL (heapOf W) (enc y) (cs.drop o)
theorem rdrF_nil {P : Program} {W : World} {N : Nat} : RdrF P W N [] N (fun _ : Unit => []) := by
  intro cs hl _
  exact ⟨(), by simp [D.rdL, hl]⟩
theorem rdrF_cons {P : Program} {W : World} {o s N : Nat} {f : Field} {fs : List Field} {β γ : Type} {enc : β → List D} {encR : γ → List D} (hf : Rdr P W f.type enc) (ho : f.offset = o) (hs : P.cellsOf f.type = s) (hr : RdrF P W (o + s) fs N encR) : RdrF P W o (f :: fs) N (fun y : β × γ => enc y.1 ++ encR y.2) := by
  intro cs hl h
  obtain ⟨y, hy⟩ := h f (by simp) hf
  obtain ⟨z, hz⟩ := hr cs hl (fun g hg => h g (by simp [hg]))
  rw [ho, hs] at hy
  refine ⟨(y, z), ?_⟩
  have : cs.drop o = (cs.drop o).take s ++ cs.drop (o + s) := by
    rw [← List.drop_drop]; exact (List.take_append_drop s _).symm
  rw [this]
  exact rdL_append hy hz
theorem rdr_struct {P : Program} {W : World} {t : TypeId} {N : Nat} {fs : Array Field} {β : Type} {enc : β → List D} (ht : P.underlying t = some (.struct fs)) (hN : P.cellsOf t = N) (h : RdrF P W 0 fs.toList N enc) : Rdr P W t enc := by
  intro H e sp held n cs x hx hz
  obtain ⟨xs, m, rfl, rfl, hl, hxl, hf⟩ := DataW.trod_struct ht hx
  obtain ⟨y, hy⟩ := h cs (by rw [hl, hN]) (fun f hfm {β' enc'} hr => by
    obtain ⟨i, hi⟩ := List.getElem?_of_mem hfm
    have hi' : fs[i]? = some f := by simpa using hi
    have hlt : i < fs.size := (Array.getElem?_eq_some_iff.1 hi').1
    have := hf i f hi'
    rw [List.getElem?_eq_getElem (by omega)] at this
    exact hr e sp held m _ _ this (fun z hzz => hz z (by
      simp only [DataW.weights, ht]
      exact DataW.weights_mem_each (j := i) (t := f.type) (d := (xs[i]'(by omega)).1) (by simp [hi']) (by simp [List.getElem?_eq_getElem (show i < xs.length by omega)]) z hzz)))
  exact ⟨y, by simpa using hy⟩
/-- From a contract to the call that a row asks for. -/
theorem law_calls {P : Program} {f : Nat} {args : List SV} {pre : List Chunk} (hs : FSpec P f args pre (fun r p => r = .one (.bool true) ∧ p = pre)) {W : World} {vs : List Value} (ρ : List LocV) (hlen : ρ.length = pre.length) (hden : SV.denL ρ args vs) (hmem : Mem ⟨heapOf W, W.os, W.tape, W.output⟩ ρ pre W) :
    Calls P f vs.toArray W (fun e w' => e = .returned (.bool true) ∧ RowKit.Below W.heap.size W w') := by
  refine (hs.go _ ρ W vs hlen hden hmem).mono ?_
  rintro e w' ⟨v, ρ', res, post, rfl, _, _, ⟨rfl, rfl⟩, hv, hs', m⟩
  have hv : v = .bool true := hv
  refine ⟨by rw [hv], m.F.os, m.F.tape, m.F.out, ?_, fun k hk => ?_⟩
  · rcases Nat.lt_or_ge w'.heap.size W.heap.size with h | h
    · exfalso
      have h1 := m.F.h w'.heap.size W.heap[w'.heap.size] (by simp [heapOf, h])
      simp [heapOf] at h1
    · exact h
  · have h1 := m.F.h k W.heap[k] (by simp [heapOf, hk])
    simp only [heapOf] at h1
    rw [h1]; simp [hk]
end Go.Proofs.Ythdbhlpceodhlaa.Sx
