/- A part of the framework that the proofs of this seat stand on: a separation logic over the model's walks, with a runner that Lean evaluates. It is proved here, without conditions of its own. -/
import Derived.Test.YthdbhlpceodhlaaSxE
set_option linter.unusedVariables false
set_option linter.unusedSimpArgs false
namespace Go.Proofs.Ythdbhlpceodhlaa.Sx
open Go

/-! ### 12. memory: a new block, a block written anew -/
theorem prefix_snoc (ρ : List LocV) (x : LocV) : ρ <+: ρ ++ [x] := ⟨[x], rfl⟩
theorem get_snoc (ρ : List LocV) (x : LocV) : (ρ ++ [x])[ρ.length]? = some x := by simp
theorem mem_new {F : Fr} {ρ : List LocV} {chs : List Chunk} {w : World} (h : Mem F ρ chs w) (hl : ρ.length = chs.length) (o : Obj) (x : LocV) (c : Chunk)
    (hc : ∀ hp : Hp, hp w.heap.size = some o → c.ok F.h (ρ ++ [x]) ρ.length hp) : Mem F (ρ ++ [x]) (chs ++ [c]) (w.alloc o) := by
  obtain ⟨hs, m⟩ := h
  have hw : heapOf (w.alloc o) = (heapOf w).upd w.heap.size o := heapOf_alloc w o
  have up : ∀ {g : Hp}, g.le (heapOf w) → g.le (heapOf (w.alloc o)) := by
    intro g hg b q e
    have := hg b q e
    rw [hw, Hp.upd_ne]
    · exact this
    · intro e'; subst e'; rw [heapOf_size] at this; cases this
  have non : ∀ {g : Hp}, g.le (heapOf w) → g w.heap.size = none := by
    intro g hg
    cases e : g w.heap.size with
    | none => rfl
    | some q => have := hg _ _ e; rw [heapOf_size] at this; cases this
  refine ⟨fun i => if i = ρ.length then Hp.emp.upd w.heap.size o else hs i, ?_, ?_, ?_, ?_, ?_⟩
  · intro i c' hi
    by_cases e : i = ρ.length
    · subst e
      rw [hl] at hi
      simp at hi
      subst hi
      rw [if_pos rfl]
      exact hc _ (Hp.upd_same _ _ _)
    · rw [if_neg e]
      have : i < chs.length := by
        have := (List.getElem?_eq_some_iff.1 hi).1
        simp at this; omega
      rw [List.getElem?_append_left this] at hi
      exact chunk_ok_pre (prefix_snoc ρ x) (m.ok i c' hi)
  · intro i j hij k
    by_cases e : i = ρ.length
    · by_cases e' : j = ρ.length
      · omega
      · simp only [if_pos e, if_neg e']
        by_cases hk : k = w.heap.size
        · right; rw [hk]; exact non (m.le j)
        · left; rw [Hp.upd_ne _ _ hk]; rfl
    · by_cases e' : j = ρ.length
      · simp only [if_neg e, if_pos e']
        by_cases hk : k = w.heap.size
        · left; rw [hk]; exact non (m.le i)
        · right; rw [Hp.upd_ne _ _ hk]; rfl
      · simp only [if_neg e, if_neg e']; exact m.dj i j hij k
  · intro i k
    by_cases e : i = ρ.length
    · simp only [if_pos e]
      by_cases hk : k = w.heap.size
      · right; rw [hk]; exact non m.F.h
      · left; rw [Hp.upd_ne _ _ hk]; rfl
    · simp only [if_neg e]; exact m.djF i k
  · intro i
    by_cases e : i = ρ.length
    · simp only [if_pos e]
      intro b q hb
      by_cases hk : b = w.heap.size
      · subst hk; rw [Hp.upd_same] at hb; rw [hw, Hp.upd_same]; exact hb
      · rw [Hp.upd_ne _ _ hk] at hb; cases hb
    · simp only [if_neg e]; exact up (m.le i)
  · exact ⟨m.F.os, m.F.tape, m.F.out, up m.F.h⟩
theorem mem_upd {F : Fr} {ρ : List LocV} {chs : List Chunk} {w w' : World} {hs : Nat → Hp} (m : MemH F ρ chs w hs) {i b : Nat} {o o' : Obj} (hb : hs i b = some o)
    (hw : heapOf w' = (heapOf w).upd b o') (h1 : w'.os = w.os) (h2 : w'.tape = w.tape) (h3 : w'.output = w.output) (c : Chunk) (hc : c.ok F.h ρ i ((hs i).upd b o')) : Mem F ρ (chs.set i c) w' := by
  have up : ∀ {g : Hp}, g.le (heapOf w) → g b = none → g.le (heapOf w') := by
    intro g hg hn k q e
    rw [hw, Hp.upd_ne]
    · exact hg k q e
    · intro e'; subst e'; rw [hn] at e; cases e
  refine ⟨fun j => if j = i then (hs i).upd b o' else hs j, ?_, ?_, ?_, ?_, ?_⟩
  · intro j c' hj
    by_cases e : j = i
    · subst e
      rw [if_pos rfl]
      have hlt : j < chs.length := by have := (List.getElem?_eq_some_iff.1 hj).1; simpa using this
      simp [List.getElem?_set, hlt] at hj
      subst hj; exact hc
    · rw [if_neg e]
      rw [List.getElem?_set_ne (Ne.symm e)] at hj
      exact m.ok j c' hj
  · intro j k hjk q
    by_cases e : j = i
    · by_cases e' : k = i
      · omega
      · simp only [if_pos e, if_neg e']
        by_cases hq : q = b
        · right; rw [hq]; exact Hp.dj_none (m.dj i k (by omega)) hb
        · rw [Hp.upd_ne _ _ hq]; exact m.dj i k (by omega) q
    · by_cases e' : k = i
      · simp only [if_neg e, if_pos e']
        by_cases hq : q = b
        · left; rw [hq]; exact Hp.dj_none (m.dj i j (by omega)) hb
        · rw [Hp.upd_ne _ _ hq]; exact m.dj j i (by omega) q
      · simp only [if_neg e, if_neg e']; exact m.dj j k hjk q
  · intro j q
    by_cases e : j = i
    · simp only [if_pos e]
      by_cases hq : q = b
      · right; rw [hq]; exact Hp.dj_none (m.djF i) hb
      · rw [Hp.upd_ne _ _ hq]; exact m.djF i q
    · simp only [if_neg e]; exact m.djF j q
  · intro j
    by_cases e : j = i
    · simp only [if_pos e]
      intro k q hk
      by_cases hq : k = b
      · subst hq; rw [Hp.upd_same] at hk; rw [hw, Hp.upd_same]; exact hk
      · rw [Hp.upd_ne _ _ hq] at hk; rw [hw, Hp.upd_ne _ _ hq]; exact m.le i k q hk
    · simp only [if_neg e]; exact up (m.le j) (Hp.dj_none (m.dj i j (by omega)) hb)
  · exact ⟨h1.trans m.F.os, h2.trans m.F.tape, h3.trans m.F.out, up m.F.h (Hp.dj_none (m.djF i) hb)⟩
theorem mem_world {F : Fr} {ρ : List LocV} {chs : List Chunk} {w w' : World} (h : Mem F ρ chs w) (hw : heapOf w' = heapOf w) (h1 : w'.os = w.os) (h2 : w'.tape = w.tape) (h3 : w'.output = w.output) : Mem F ρ chs w' := by
  obtain ⟨hs, m⟩ := h
  exact ⟨hs, m.ok, m.dj, m.djF, fun i => by rw [hw]; exact m.le i, ⟨h1.trans m.F.os, h2.trans m.F.tape, h3.trans m.F.out, by rw [hw]; exact m.F.h⟩⟩

/-! ### 13. operations that make or write memory -/
def nats : List Nat := [0, 1, 2, 3, 4, 5, 6, 7, 8, 9, 10, 11, 12, 13, 14, 15, 16, 17, 18, 19, 20, 21, 22, 23, 24, 25, 26, 27, 28, 29, 30, 31, 32, 33, 34, 35, 36, 37, 38, 39, 40, 41, 42, 43, 44, 45, 46, 47, 48, 49, 50, 51, 52, 53, 54, 55, 56, 57, 58, 59, 60, 61, 62, 63, 64, 65, 66, 67, 68, 69, 70, 71, 72, 73, 74, 75, 76, 77, 78, 79]
def countK : List Chunk → List Nat → (Nat → Prop) → Prop → Prop
  | [], n :: _, K, _ => K n
  | _ :: l, _ :: ns, K, Z => countK l ns K Z
  | _, [], _, Z => Z
theorem countK_out : ∀ {l : List Chunk} {ns : List Nat} {K : Nat → Prop} {Z : Prop}, countK l ns K Z → Z ∨ ∃ n, ns[l.length]? = some n ∧ K n
  | [], n :: _, K, Z, h => .inr ⟨n, rfl, h⟩
  | _ :: l, _ :: ns, K, Z, h => by
    rcases countK_out (l := l) (ns := ns) h with h | ⟨n, h1, h2⟩
    · exact .inl h
    · exact .inr ⟨n, by simpa using h1, h2⟩
  | [], [], _, _, h => .inl h
  | _ :: _, [], _, _, h => .inl h
theorem nats_eq : nats = List.range 80 := by decide
def snocK (c : Chunk) : List Chunk → (List Chunk → Prop) → Prop
  | [], K => K [c]
  | d :: l, K => snocK c l (fun r => K (d :: r))
theorem snocK_eq (c : Chunk) : ∀ (l : List Chunk) (K : List Chunk → Prop), snocK c l K = K (l ++ [c])
  | [], K => rfl
  | d :: l, K => by simp [snocK, snocK_eq c l]
def setK (c : Chunk) : Nat → List Chunk → (List Chunk → Prop) → Prop
  | _, [], K => K []
  | 0, _ :: l, K => K (c :: l)
  | n + 1, d :: l, K => setK c n l (fun r => K (d :: r))
theorem setK_eq (c : Chunk) : ∀ (n : Nat) (l : List Chunk) (K : List Chunk → Prop), setK c n l K = K (l.set n c)
  | 0, [], K => rfl
  | _ + 1, [], K => rfl
  | 0, _ :: l, K => rfl
  | n + 1, d :: l, K => by simp [setK, setK_eq c n l]
/-- A new chunk at the end: its number, all chunks. -/
def newK (chs : List Chunk) (c : Chunk) (K : Nat → List Chunk → Prop) (Z : Prop) : Prop := countK chs nats (fun n => snocK c chs (fun chs => K n chs)) Z
theorem newK_out {chs : List Chunk} {c : Chunk} {K : Nat → List Chunk → Prop} {Z : Prop} (h : newK chs c K Z) : Z ∨ K chs.length (chs ++ [c]) := by
  rcases countK_out h with h | ⟨n, h1, h2⟩
  · exact .inl h
  · rw [nats_eq] at h1
    obtain ⟨h3, h4⟩ := List.getElem?_eq_some_iff.1 h1
    simp at h4
    subst h4
    rw [snocK_eq] at h2
    exact .inr h2
def putK (nt : Nat) (d : Option Nat) (sv : SV) (env : List (Nat × SV)) (K : List (Nat × SV) → Prop) (Z : Prop) : Prop :=
  match d with
  | none => K env
  | some d => match Nat.blt d nt with
    | true => K ((d, sv) :: env)
    | false => Z
/-- One operation takes s to s'. -/
def StepTo (tb : Tab) (nt : Nat) (o : Oper) (s s' : St) : Prop :=
  ∀ {P : Program} {F : Fr} {ρ : List LocV} {a : Act} {w : World}, TabOk P tb → Sat F nt ρ s a w → ∃ ρ' w' v, ρ <+: ρ' ∧ Sat F nt ρ' s' (a.put o.dst v) w' ∧
    ((execOp a.eval o).run P w = .ok (.value v) w' ∨ ((execOp a.eval o).run P w = .ok .skip w' ∧ v = undef))
theorem putK_out {nt : Nat} {d : Option Nat} {sv : SV} {env : List (Nat × SV)} {K : List (Nat × SV) → Prop} {Z : Prop} (h : putK nt d sv env K Z) : Z ∨ ∃ env', K env' ∧
    ∀ {F : Fr} {ρ : List LocV} {chs : List Chunk} {a : Act} {w : World} {v : Value}, Sat F nt ρ ⟨env, chs⟩ a w → sv.den ρ v → Sat F nt ρ ⟨env', chs⟩ (a.put d v) w := by
  unfold putK at h
  split at h
  · exact .inr ⟨env, h, fun hs _ => hs⟩
  · rename_i d
    split at h
    · rename_i hb
      refine .inr ⟨_, h, fun {F ρ chs a w v} hs hv => ?_⟩
      have hlt : d < a.tmps.size := by rw [hs.nt]; simpa [Nat.blt_eq] using hb
      exact ⟨hs.nd, by rw [put_size]; exact hs.nt, hs.len, envOk_put hs.env hlt hv, hs.mem⟩
    · exact .inl h

def joinK (env : List (Nat × SV)) (sz : Nat) : Nat → List (Nat × Operand) → (List SC → Prop) → Prop → Prop
  | _, [], K, _ => K []
  | j, (n, x) :: r, K, Z => match Nat.beq j n with
    | true => opdK env x (fun sv => match svCells sv with
      | some new => match Nat.beq new.length sz with
        | true => joinK env sz (j + 1) r (fun cs => K (new ++ cs)) Z
        | false => Z
      | none => Z) Z
    | false => Z
def appK : List SC → List SC → (List SC → Prop) → Prop
  | [], l, K => K l
  | x :: r, l, K => appK r l (fun q => K (x :: q))

/-- Cells laid into an own row: the element that then lies there. -/
def toDK : List SC → (List D → Prop) → Prop → Prop
  | [], K, _ => K []
  | .int k n :: r, K, Z => toDK r (fun l => K (.int k n :: l)) Z
  | .pr p d :: r, K, Z => toDK r (fun l => K (.bool (@decide p d) :: l)) Z
  | .bool b :: r, K, Z => toDK r (fun l => K (.bool b :: l)) Z
  | .lit b :: r, K, Z => toDK r (fun l => K (.bool b :: l)) Z
  | .str s :: r, K, Z => toDK r (fun l => K (.str s :: l)) Z
  | _ :: _, _, Z => Z
theorem toDK_out : ∀ {cs : List SC} {K : List D → Prop} {Z : Prop}, toDK cs K Z → Z ∨ ∃ ds, K ds ∧ ∀ {h : Hp} {ρ : List LocV} {vs : List Value}, SC.denL ρ cs vs → D.ownL h ds vs
  | [], K, Z, h => .inr ⟨[], h, fun h => h⟩
  | .int k n :: r, K, Z, h => by
    rcases toDK_out (cs := r) h with h | ⟨ds, h, hd⟩
    · exact .inl h
    · exact .inr ⟨_, h, fun ⟨v, q, e1, e2, e3⟩ => ⟨v, q, Hp.emp, Hp.emp, e1, Hp.emp_le _, Hp.emp_le _, Hp.emp_dj _, e2, hd e3⟩⟩
  | .pr p d :: r, K, Z, h => by
    rcases toDK_out (cs := r) h with h | ⟨ds, h, hd⟩
    · exact .inl h
    · exact .inr ⟨_, h, fun ⟨v, q, e1, e2, e3⟩ => ⟨v, q, Hp.emp, Hp.emp, e1, Hp.emp_le _, Hp.emp_le _, Hp.emp_dj _, e2, hd e3⟩⟩
  | .bool b :: r, K, Z, h => by
    rcases toDK_out (cs := r) h with h | ⟨ds, h, hd⟩
    · exact .inl h
    · exact .inr ⟨_, h, fun ⟨v, q, e1, e2, e3⟩ => ⟨v, q, Hp.emp, Hp.emp, e1, Hp.emp_le _, Hp.emp_le _, Hp.emp_dj _, e2, hd e3⟩⟩
  | .lit b :: r, K, Z, h => by
    rcases toDK_out (cs := r) h with h | ⟨ds, h, hd⟩
    · exact .inl h
    · exact .inr ⟨_, h, fun ⟨v, q, e1, e2, e3⟩ => ⟨v, q, Hp.emp, Hp.emp, e1, Hp.emp_le _, Hp.emp_le _, Hp.emp_dj _, e2, hd e3⟩⟩
  | .str b :: r, K, Z, h => by
    rcases toDK_out (cs := r) h with h | ⟨ds, h, hd⟩
    · exact .inl h
    · exact .inr ⟨_, h, fun ⟨v, q, e1, e2, e3⟩ => ⟨v, q, Hp.emp, Hp.emp, e1, Hp.emp_le _, Hp.emp_le _, Hp.emp_dj _, e2, hd e3⟩⟩
  | .nil :: _, _, _, h => .inl h
  | .slc .. :: _, _, _, h => .inl h
  | .ptr .. :: _, _, _, h => .inl h
  | .val .. :: _, _, _, h => .inl h
  | .clo .. :: _, _, _, h => .inl h
def storeK (tb : Tab) (chs : List Chunk) (t l i e f : Nat) (new : List SC) (K : List Chunk → Prop) (Z : Prop) : Prop :=
  match tfind tb t with
  | none => Z
  | some ty => match Nat.beq new.length ty.sz with
    | false => Z
    | true => match chs[l]? with
      | some (.box vs) => match e with
        | 0 => layK f new vs (fun vs => setK (.box vs) l chs K) Z
        | _ + 1 => Z
      | some (.row true sz enc xs) => match Nat.beq e sz with
        | true => Ob (i < xs.length) fun h => flatK (enc xs[i]) (fun old => layK f new old (fun cs => toDK cs (fun ds => Pk (fun x => enc x = ds) (fun x => setK (.row true sz enc (xs.set i x)) l chs K)) Z) Z) Z
        | false => Z
      | some (.opn true sz enc xs k vs) => match Nat.beq e sz with
        | true => Ob (i = k) fun _ => layK f new vs (fun vs => setK (.opn true sz enc xs k vs) l chs K) Z
        | false => Z
      | _ => Z

def effK (tb : Tab) (nt : Nat) (env : List (Nat × SV)) (chs : List Chunk) (o : Oper) (K : List (Nat × SV) → List Chunk → Prop) (Z : Prop) : Prop :=
  match o.op with
  | .alloc t => match tfind tb t with
    | some ty => newK chs (.box ty.zero) (fun n chs => putK nt o.dst (.one (.ptr n 0 0 0)) env (fun env => K env chs) Z) Z
    | none => Z
  | .box t x => opdK env x (fun sv => match svCells sv with
    | some cs => newK chs (.box cs) (fun n chs => putK nt o.dst (.one (.ptr n 0 0 0)) env (fun env => K env chs) Z) Z
    | none => Z) Z
  | .store t p x => match o.dst with
    | none => opdK env p (fun q => match q with
      | .one (.ptr l i e f) => opdK env x (fun sv => match svCells sv with
        | some new => storeK tb chs t l i e f new (fun chs => K env chs) Z
        | none => Z) Z
      | _ => Z) Z
    | some _ => Z
  | op => evalK tb env chs op (fun sv => putK nt o.dst sv env (fun env => K env chs) Z) Z

theorem sat_new {F : Fr} {nt : Nat} {ρ : List LocV} {s : St} {a : Act} {w : World} (hs : Sat F nt ρ s a w) (o : Obj) (x : LocV) (c : Chunk)
    (hc : ∀ hp : Hp, hp w.heap.size = some o → c.ok F.h (ρ ++ [x]) ρ.length hp) : Sat F nt (ρ ++ [x]) ⟨s.env, s.chs ++ [c]⟩ a (w.alloc o) :=
  ⟨hs.nd, hs.nt, by simp [hs.len], envOk_mono (prefix_snoc ρ x) hs.env, mem_new hs.mem hs.len o x c hc⟩
theorem box_step {tb : Tab} {nt : Nat} {o : Oper} {env env' : List (Nat × SV)} {chs : List Chunk} {cs : List SC}
    (h2 : ∀ {F : Fr} {ρ : List LocV} {a : Act} {w : World} {v : Value}, Sat F nt ρ ⟨env, chs ++ [.box cs]⟩ a w → (SV.one (.ptr chs.length 0 0 0)).den ρ v → Sat F nt ρ ⟨env', chs ++ [.box cs]⟩ (a.put o.dst v) w)
    (h3 : ∀ {P : Program} {F : Fr} {ρ : List LocV} {a : Act} {w : World}, TabOk P tb → Sat F nt ρ ⟨env, chs⟩ a w → ∃ vs t, SC.denL ρ cs vs ∧ (execOp a.eval o).run P w = .ok (.value (.pointer (some ⟨w.heap.size, 0, none⟩))) (w.alloc (.cells vs.toArray t))) :
    StepTo tb nt o ⟨env, chs⟩ ⟨env', chs ++ [.box cs]⟩ := by
  intro P F ρ a w ht hs
  obtain ⟨vs, t, hd, hr⟩ := h3 ht hs
  refine ⟨ρ ++ [⟨some ⟨w.heap.size, 0, none⟩, 0⟩], _, _, prefix_snoc _ _, h2 (sat_new hs _ _ _ ?_) ?_, .inl hr⟩
  · intro hp hhp
    exact ⟨_, w.heap.size, vs.toArray, t, get_snoc _ _, rfl, Nat.zero_le _, hhp, by simpa using SC.denL_mono (prefix_snoc _ _) hd⟩
  · refine ⟨_, _, by rw [← hs.len]; exact get_snoc _ _, rfl, ?_⟩
    rw [add_at]
end Go.Proofs.Ythdbhlpceodhlaa.Sx
