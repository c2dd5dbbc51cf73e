/-
  From a row's reading of an op to the walks' words.
-/
import Derived.Test.YtkbmecjpjphngaaRows
import Derived.Test.YtkbmecjpjphngaaBMach
import Derived.ProofKit
import Derived.OpenShut
import Derived.Lib.SmallJoins
import Derived.Deep.Matrix
set_option linter.unusedVariables false
set_option linter.unusedSimpArgs false
namespace Go.Proofs.Ytkbmecjpjphngaa
open Go.ChangeShapes Go.WideShapes Go.ChangeAt Go.RowKit Go.Maps

theorem own : ownKnob Try.prog.godebug = none := by kernel_rfl
theorem laidOut : laidOutB Try.prog = true := by kernel_rfl

def toBytes (zs : List Int) : List UInt8 := zs.map fun z => UInt8.ofNat z.toNat
/-- A row of whole numbers reads as such. -/
theorem rd_of_ints {k : IntKind} {w : World} {A : Option Addr} {len cap : Nat} {zs : List Int} (hl : len ≤ cap) (hm : cap ≤ maxLen) (hz : zs.length = cap) (hA : A = none → cap = 0) (hc : ∀ a, A = some a → ∀ i, i < cap → w.cell? (a.add i) = some (.int k (zs.getD i 0))) :
    Rd w (.slice A len cap) len 1 ((zs.take len).map (Value.int k)) := by
  have hlen : (zs.take len).length = len := by simp; omega
  refine ⟨A, cap, rfl, by simp; omega, hl, hm, hA, fun j u hu => ?_⟩
  have hj : j < len := by
    rcases Nat.lt_or_ge j len with h | h
    · exact h
    · rw [List.getElem?_eq_none (by rw [List.length_map, hlen]; exact h)] at hu; cases hu
  cases A with
  | none => have := hA rfl; omega
  | some a =>
    have h0 := hc a rfl j (by omega)
    have hspot : a.spot = none := by
      have := hc a rfl 0 (by omega)
      have := World.cell?_spot this
      simpa [Addr.add] using this
    obtain ⟨g, off, spot⟩ := a
    simp only at hspot
    subst hspot
    refine ⟨g, off, rfl, ?_⟩
    rw [Addr.add_lit] at h0
    rw [h0, ← hu]
    have hjz : j < zs.length := by omega
    simp [hj, hjz, List.getD_eq_getElem?_getD]
theorem toBytes_map {zs : List Int} (hw : ∀ n ∈ zs, (Lit.int .u8 n).wf = true) (l : Nat) : (zs.take l).map (Value.int .u8) = bvs ((toBytes zs).take l) := by
  have : ∀ ys : List Int, (∀ n ∈ ys, (Lit.int .u8 n).wf = true) → ys.map (Value.int .u8) = bvs (toBytes ys) := by
    intro ys
    induction ys with
    | nil => intro _; rfl
    | cons y r ih =>
      intro h
      have h1 := h y (by simp)
      simp only [Lit.wf, IntKind.min, IntKind.max, IntKind.signed, IntKind.bits, Bool.and_eq_true, decide_eq_true_eq] at h1
      have h2 := ih (fun n hn => h n (by simp [hn]))
      simp only [List.map_cons, toBytes, bvs] at h2 ⊢
      rw [h2]
      congr 1
      refine u8v ?_
      rw [UInt8.toNat_ofNat']
      simp at h1
      omega
  rw [this _ (fun n hn => hw n (List.mem_of_mem_take hn))]
  simp [toBytes, List.map_take]
section
variable {H : Type} {enc : TypeId × Value → H} {w : World} {base : Nat} {held : Bool}
theorem open_byt {c : Value} {fuel : Nat} {x : DataW H × List MemPlace} (h : DataW.trod enc Try.prog w base (fun _ => true) held fuel 24 [c] = some x) :
    ∃ xs : List UInt8, RdB w c xs := by
  rcases open_ints Try.underlying24 Try.underlying5 (by kernel_rfl) h with ⟨hcs, _⟩ | ⟨a, l, cap, zs, hcs, _, hl, hm, hz, _, hcell, hwz⟩
  · simp at hcs
    subst hcs
    exact ⟨[], rdb_nil w⟩
  · simp at hcs
    subst hcs
    have hz' : zs.length = cap := by simpa using hz
    have h1 := rd_of_ints (k := .u8) (w := w) hl hm hz' (A := some a) (fun h => by cases h) (fun a' e i hi => by cases e; exact hcell i (by omega))
    rw [toBytes_map hwz] at h1
    refine ⟨(toBytes zs).take l, ?_⟩
    have : ((toBytes zs).take l).length = l := by simp [toBytes]; omega
    show Rd w _ ((toBytes zs).take l).length 1 _
    rw [this]
    exact h1
theorem open_nums {c : Value} {fuel : Nat} {x : DataW H × List MemPlace} (h : DataW.trod enc Try.prog w base (fun _ => true) held fuel 23 [c] = some x) :
    ∃ zs : List Int, Rd w c zs.length 1 (zs.map (Value.int .i64)) ∧ ∀ n ∈ zs, (Lit.int .i64 n).wf = true := by
  rcases open_ints Try.underlying23 Try.underlying3 (by kernel_rfl) h with ⟨hcs, _⟩ | ⟨a, l, cap, zs, hcs, _, hl, hm, hz, _, hcell, hwz⟩
  · simp at hcs
    subst hcs
    exact ⟨[], Rd.nil' (by simp [maxLen]) (fun _ => rfl), by simp⟩
  · simp at hcs
    subst hcs
    have hz' : zs.length = cap := by simpa using hz
    have h1 := rd_of_ints (k := .i64) (w := w) hl hm hz' (A := some a) (fun h => by cases h) (fun a' e i hi => by cases e; exact hcell i (by omega))
    refine ⟨zs.take l, ?_, fun n hn => hwz n (List.mem_of_mem_take hn)⟩
    have : (zs.take l).length = l := by simp; omega
    rw [this]
    exact h1
/-- A row of rows of bytes. -/
theorem open_rows {a : Option Addr} {len cap fuel : Nat} {x : DataW H × List MemPlace} (h : DataW.trod enc Try.prog w base (fun _ => true) held fuel 33 [.slice a len cap] = some x) :
    ∃ l : List (List UInt8), l.length = len ∧ RdLL w (.slice a len cap) l := by
  rcases Go.Deep.open_int_rows Try.underlying33 Try.underlying24 Try.underlying5 (by kernel_rfl) (by kernel_rfl) h with ⟨hcs, rfl⟩ | ⟨ad, l, c, A, L, C, Z, hcs, _, hl, hm, rfl, hr⟩
  · simp at hcs
    obtain ⟨rfl, rfl, rfl⟩ := hcs
    exact ⟨[], rfl, [], Rd.nil' (by simp [maxLen]) (fun _ => rfl), fun j hj => by simp at hj⟩
  · simp at hcs
    obtain ⟨rfl, rfl, rfl⟩ := hcs
    have hlen : ((List.range len).map fun r => (toBytes (Z r)).take (L r)).length = len := by simp
    refine ⟨(List.range len).map fun r => (toBytes (Z r)).take (L r), hlen, (List.range len).map fun r => .slice (A r) (L r) (C r), ⟨some ad, cap, by rw [hlen], by simp, by rw [hlen]; exact hl, hm, (fun h => by cases h), fun j u hu => ?_⟩, fun j hj => ?_⟩
    · have hj : j < len := by
        rcases Nat.lt_or_ge j len with h | h
        · exact h
        · rw [List.getElem?_eq_none (by simpa using h)] at hu; cases hu
      have h0 := (hr j (by omega)).1
      have hspot : ad.spot = none := by
        have := World.cell?_spot (hr 0 (by omega)).1
        simpa [Addr.add] using this
      obtain ⟨g, off, spot⟩ := ad
      simp only at hspot
      subst hspot
      refine ⟨g, off, rfl, ?_⟩
      rw [Addr.add_lit] at h0
      rw [h0, ← hu]
      simp [hj]
    · have hj' : j < len := by simpa using hj
      obtain ⟨h0, h1, h2, h3, h4, h5, h6⟩ := hr j (by omega)
      refine ⟨.slice (A j) (L j) (C j), by simp [hj'], ?_⟩
      have h1' := rd_of_ints (k := .u8) (w := w) h1 h2 h3 h5 (fun a' e i hi => (h6 a' e).2 i hi)
      rw [toBytes_map h4] at h1'
      have hl' : ((toBytes (Z j)).take (L j)).length = L j := by simp [toBytes]; omega
      have : RdB w (.slice (A j) (L j) (C j)) ((toBytes (Z j)).take (L j)) := by
        show Rd w _ ((toBytes (Z j)).take (L j)).length 1 _
        rw [hl']
        exact h1'
      simpa using this
/-- A struct whose fields are cells, by value. -/
theorem open_aggs {P : Program} {spare : Nat → Bool} {r : Reach} {b0 : Nat} {t : TypeId} {fs : Array Field} {v : Value} {d : DataW H} {p : List MemPlace} (hs : P.underlying t = some (.struct fs)) (hone : Go.Deep.oneCellFields P fs = true) (hC : P.cellsOf t = fs.size)
    (hv : Value.okWide P w r b0 t v) (h : DataW.Trod enc P w base spare held t v d p) :
    ∃ (cs : Array Value) (n : Nat), v = .agg cs ∧ cs.size = fs.size ∧ ∀ (i : Nat) (f : Field) (c : Value), fs[i]? = some f → cs[i]? = some c → ∃ y, DataW.trod enc P w base spare held n f.type [c] = some y := by
  obtain ⟨cs, rfl, hsz⟩ := okWide_struct hs hv
  obtain ⟨fuel, hf⟩ := h
  obtain ⟨xs, n, _, hx, hl, hlen, hff⟩ := DataW.trod_struct hs hf
  refine ⟨cs, n, rfl, hsz.trans hC, fun i f c hi hc => ?_⟩
  obtain ⟨o, k⟩ := Go.Deep.hone_of hone i f hi
  have h1 := hff i f hi
  have hil : i < fs.size := (Array.getElem?_eq_some_iff.1 hi).1
  have hcl : i < cs.toList.length := by simp; rw [hsz, hC]; exact hil
  rw [o, k] at h1
  have : ((Value.agg cs).cells.toList.drop i).take 1 = [c] := by
    show (cs.toList.drop i).take 1 = [c]
    rw [List.drop_eq_getElem_cons hcl]
    simp only [List.take_succ_cons, List.take_zero]
    have : cs[i]? = some c := hc
    rw [Array.getElem?_eq_some_iff] at this
    obtain ⟨_, e⟩ := this
    simp [e]
  rw [this] at h1
  exact ⟨xs[i]'(by omega), by rw [h1]; simp⟩
theorem array9 {cs : Array Value} (h : cs.size = 9) : ∃ c0 c1 c2 c3 c4 c5 c6 c7 c8, cs = #[c0, c1, c2, c3, c4, c5, c6, c7, c8] := by
  obtain ⟨l⟩ := cs
  match l, h with
  | [c0, c1, c2, c3, c4, c5, c6, c7, c8], _ => exact ⟨c0, c1, c2, c3, c4, c5, c6, c7, c8, rfl⟩
set_option maxRecDepth 100000 in
theorem open_op {r : Reach} {b0 : Nat} {v : Value} {d : DataW H} {p : List MemPlace} (hv : Value.okWide Try.prog w r b0 26 v) (h : DataW.Trod enc Try.prog w base (fun _ => true) held 26 v d p) : ∃ o, OpR w v o := by
  obtain ⟨cs, n, rfl, hsz, hf⟩ := open_aggs Try.underlying26 (by kernel_rfl) (by kernel_rfl) hv h
  obtain ⟨c0, c1, c2, c3, c4, c5, c6, c7, c8, rfl⟩ := array9 hsz
  obtain ⟨y0, h0⟩ := hf 0 _ c0 rfl rfl
  obtain ⟨y1, h1⟩ := hf 1 _ c1 rfl rfl
  obtain ⟨y2, h2⟩ := hf 2 _ c2 rfl rfl
  obtain ⟨y3, h3⟩ := hf 3 _ c3 rfl rfl
  obtain ⟨y4, h4⟩ := hf 4 _ c4 rfl rfl
  obtain ⟨y5, h5⟩ := hf 5 _ c5 rfl rfl
  obtain ⟨y6, h6⟩ := hf 6 _ c6 rfl rfl
  obtain ⟨y7, h7⟩ := hf 7 _ c7 rfl rfl
  obtain ⟨y8, h8⟩ := hf 8 _ c8 rfl rfl
  obtain ⟨id, e0, _, w0⟩ := DataW.trod_int Try.underlying22 h0
  obtain ⟨kind, e1, _, w1⟩ := DataW.trod_int Try.underlying3 h1
  obtain ⟨b, e2, _, w2⟩ := DataW.trod_string Try.underlying9 h2
  obtain ⟨k, e3, _, w3⟩ := DataW.trod_string Try.underlying9 h3
  obtain ⟨af, e4, _, w4⟩ := DataW.trod_string Try.underlying9 h4
  obtain ⟨nn, e5, _, w5⟩ := DataW.trod_int Try.underlying3 h5
  obtain ⟨up, e6, _, w6⟩ := DataW.trod_int Try.underlying22 h6
  obtain ⟨zs, r7, w7⟩ := open_nums h7
  obtain ⟨xs, r8⟩ := open_byt h8
  simp only [List.cons.injEq, and_true] at e0 e1 e2 e3 e4 e5 e6
  subst e0 e1 e2 e3 e4 e5 e6
  exact ⟨⟨id, kind, b, k, af, nn, up, zs, xs⟩, c7, c8, rfl, r7, r8, w0, w1, w5, w6, w7, w2, w3, w4⟩
end
end Go.Proofs.Ytkbmecjpjphngaa
