/-
  More of the words that the texts of this seat share.
-/
import Derived.Test.YtoliikpbhmfjnaaGKit
set_option linter.unusedVariables false
set_option linter.unusedSimpArgs false
namespace Go.Proofs.Ytoliikpbhmfjnaa
open Go.RowKit
/-- A part of a slice: b[l:h]. -/
theorem RdB.sub {w : World} {g off n cap l h : Nat} {xs : List UInt8} (hr : RdB w (.slice (some ⟨g, off, none⟩) n cap) xs) (hlh : l ≤ h) (hhn : h ≤ n) {g' off' m : Nat} (hg : g' = g) (ho : off' = off + l) (hm : m = h - l) {cap' : Nat} (hc : cap' = cap - l) :
    RdB w (.slice (some ⟨g', off', none⟩) m cap') ((xs.drop l).take m) := by
  subst hg; subst ho; subst hm; subst hc
  obtain ⟨A, c, e, hl, h1, h2, h3, hcc⟩ := hr
  cases e
  have hll : ((xs.drop l).take (h - l)).length = h - l := by simp; omega
  refine ⟨_, _, by rw [hll], by simp [bvs], by rw [hll]; omega, by omega, (fun e => by cases e), fun j u hu => ?_⟩
  rw [bvs_take, bvs_drop, List.getElem?_take, List.getElem?_drop] at hu
  split at hu
  · obtain ⟨g2, off2, e2, hc2⟩ := hcc (l + j) u hu
    cases e2
    exact ⟨g', off + l, rfl, by rw [Nat.add_assoc]; exact hc2⟩
  · cases hu
/-- An empty part, wherever it lies. -/
theorem rdb_empty {w : World} {A : Option Addr} {cap : Nat} (h : cap ≤ maxLen) (hA : A = none → cap = 0) : RdB w (.slice A 0 cap) [] := Rd.nil' h hA
theorem u64_nat {a : Int} (h : (Lit.int .u64 a).wf = true) : ∃ n : Nat, a = n ∧ n < 18446744073709551616 := by
  simp only [Lit.wf, IntKind.min, IntKind.max, IntKind.signed, IntKind.bits, Bool.and_eq_true, decide_eq_true_eq] at h
  refine ⟨a.toNat, ?_, ?_⟩ <;> simp at h <;> omega
theorem RdB.drew {w : World} {v : Value} {xs : List UInt8} (h : RdB w v xs) : RdB w.drew v xs := Rd.kept h (fun _ _ h => h)
theorem RdLL.drew {w : World} {v : Value} {l : List (List UInt8)} (h : RdLL w v l) : RdLL w.drew v l := h.below (Below.refl _ _).drew
theorem one_flat (ys : List UInt8) : [ys].flatten = ys := by simp
theorem below_drew_alloc (w : World) (o : Obj) : Below w.heap.size w (w.alloc o).drew := ((Below.refl _ _).alloc (Nat.le_refl _) _).drew
theorem size_drew_alloc (w : World) (o : Obj) : w.heap.size ≤ (w.alloc o).drew.heap.size := (below_drew_alloc w o).size

/-- A slice's block, if it holds something. -/
def lies (u : Value) (g : Nat) : Prop := ∃ off n cap, u = .slice (some ⟨g, off, none⟩) n cap ∧ 0 < n
theorem RdB.other {w w' : World} {v : Value} {xs : List UInt8} (h : RdB w v xs) {row : Option Nat} (hg : w.grownBy w' row) (hne : ∀ g, lies v g → row ≠ some g) : RdB w' v xs := by
  obtain ⟨A, cap, rfl, hl, h1, h2, h3, hc⟩ := h
  refine ⟨A, cap, rfl, hl, h1, h2, h3, fun j u hu => ?_⟩
  obtain ⟨g, off, rfl, hcc⟩ := hc j u hu
  have hpos : 0 < xs.length := by
    have := (List.getElem?_eq_some_iff.1 hu).1
    rw [bvs_length] at this
    omega
  exact ⟨g, off, rfl, hg.cell hcc (fun e => hne g ⟨off, _, cap, rfl, hpos⟩ e.symm)⟩
theorem RdB.lies_lt {w : World} {v : Value} {xs : List UInt8} (h : RdB w v xs) {g : Nat} (hg : lies v g) : g < w.heap.size := by
  obtain ⟨off, n, cap, rfl, hn⟩ := hg
  exact Rd.belowB_of h (by omega) g off n cap rfl hn
/-- A [][]byte of the call's own, whose elements lie elsewhere. -/
structure OwnLL (E : TypeId) (w : World) (base : Nat) (v : Value) (l : List (List UInt8)) : Prop where
  out : ∃ vs : List Value, w.ownsRow base E 1 v l.length vs ∧ ∀ j (h : j < l.length), ∃ u, vs[j]? = some u ∧ RdB w u l[j] ∧ ∀ g, lies u g → v.ownBlock ≠ some g
theorem OwnLL.rd {E : TypeId} {w : World} {base : Nat} {v : Value} {l : List (List UInt8)} (h : OwnLL E w base v l) : RdLL w v l := by
  obtain ⟨vs, h1, h2⟩ := h.out
  exact ⟨vs, own_rd h1, fun j hj => let ⟨u, hu, hr, _⟩ := h2 j hj; ⟨u, hu, hr⟩⟩
theorem OwnLL.nil (E : TypeId) (w : World) (base : Nat) : OwnLL E w base (.slice none 0 0) [] := ⟨[], World.ownsRow_nil w base E 1, fun j hj => by simp at hj⟩
theorem OwnLL.below {E : TypeId} {w w' : World} {base : Nat} {v : Value} {l : List (List UInt8)} (h : OwnLL E w base v l) (hb : Below w.heap.size w w') : OwnLL E w' base v l := by
  obtain ⟨vs, h1, h2⟩ := h.out
  exact ⟨vs, own_below h1 hb, fun j hj => let ⟨u, hu, hr, hs⟩ := h2 j hj; ⟨u, hu, hr.below hb, hs⟩⟩
theorem OwnLL.own {E : TypeId} {w : World} {base : Nat} {v : Value} {l : List (List UInt8)} (h : OwnLL E w base v l) : ∃ vs : List Value, vs.length = l.length ∧ w.ownsRow base E 1 v l.length vs ∧ ∀ j (h : j < l.length), ∃ u, vs[j]? = some u ∧ RdB w u l[j] ∧ ∀ g, lies u g → v.ownBlock ≠ some g := by
  obtain ⟨vs, h1, h2⟩ := h.out
  exact ⟨vs, by have := h1.1; omega, h1, h2⟩
/-- One more element behind them. -/
theorem OwnLL.push {E : TypeId} {w w' : World} {base : Nat} {v v' : Value} {l : List (List UInt8)} {vs : List Value} (hl : vs.length = l.length) (hel : ∀ j (h : j < l.length), ∃ u, vs[j]? = some u ∧ RdB w u l[j] ∧ ∀ g, lies u g → v.ownBlock ≠ some g)
    {u : Value} {x : List UInt8} (hu : RdB w u x) (hsep : ∀ g, lies u g → v.ownBlock ≠ some g) (o : Obj) {n : Nat} {cs : List Value} (ha : AppO base E 1 (w.alloc o) w' v v' n cs) (hcs : cs = vs ++ [u]) (hn : n = l.length + 1) : OwnLL E w' base v' (l ++ [x]) := by
  subst hcs
  subst hn
  have hb : Below w.heap.size w (w.alloc o) := (Below.refl _ _).alloc (Nat.le_refl _) _
  have hrow : ∀ q y, RdB w q y → (∀ g, lies q g → v.ownBlock ≠ some g) → RdB w' q y ∧ ∀ g, lies q g → v'.ownBlock ≠ some g := by
    intro q y hq hs
    refine ⟨(hq.below hb).other ha.grown hs, fun g hg e => ?_⟩
    rcases ha.row with h | h
    · exact hs g hg (by rw [← h]; exact e)
    · have h1 := h g e
      have h2 := hq.lies_lt hg
      simp at h1
      omega
  refine ⟨vs ++ [u], by simpa using ha.own, fun j hj => ?_⟩
  rw [List.length_append, List.length_singleton] at hj
  by_cases hjl : j < l.length
  · obtain ⟨q, hq, hr, hs⟩ := hel j hjl
    have := hrow q _ hr hs
    refine ⟨q, by rw [List.getElem?_append_left (by omega)]; exact hq, ?_, this.2⟩
    rw [List.getElem_append_left hjl]
    exact this.1
  · have hje : j = l.length := by omega
    subst hje
    have := hrow u x hu hsep
    refine ⟨u, by rw [List.getElem?_append_right (by omega), hl]; simp, ?_, this.2⟩
    simpa using this.1
end Go.Proofs.Ytoliikpbhmfjnaa
