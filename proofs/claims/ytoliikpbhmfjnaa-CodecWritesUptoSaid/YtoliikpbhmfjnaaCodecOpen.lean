/-
  From a row's reading of its arguments to the words of the walks: bytes, parts.
-/
import Derived.Test.YtoliikpbhmfjnaaRows
import Derived.Test.YtoliikpbhmfjnaaGKit
import Derived.Test.YtoliikpbhmfjnaaGKit2
import Derived.Test.YtoliikpbhmfjnaaCodecPlain
import Derived.ProofKit
import Derived.OpenShut
import Derived.Deep.Matrix
set_option linter.unusedVariables false
set_option linter.unusedSimpArgs false
namespace Go.Proofs.Ytoliikpbhmfjnaa
open Go.ChangeShapes Go.WideShapes Go.ChangeAt Go.RowKit Codec

theorem own : ownKnob Try.prog.godebug = none := by kernel_rfl
theorem laidOut : laidOutB Try.prog = true := by kernel_rfl

/-- Numbers of kind u8 as bytes. -/
def toBytes (zs : List Int) : List UInt8 := zs.map fun z => UInt8.ofNat z.toNat
theorem toBytes_get {zs : List Int} (hw : ∀ n ∈ zs, (Lit.int .u8 n).wf = true) {j : Nat} (h : j < zs.length) : Value.int .u8 (zs.getD j 0) = bv (UInt8.ofNat (zs.getD j 0).toNat) := by
  have hm : zs.getD j 0 ∈ zs := by
    rw [List.getD_eq_getElem?_getD, List.getElem?_eq_getElem h]
    exact List.getElem_mem h
  have := hw _ hm
  clear hm
  generalize zs.getD j 0 = z at *
  simp only [Lit.wf, IntKind.min, IntKind.max, IntKind.signed, IntKind.bits, Bool.and_eq_true, decide_eq_true_eq] at this
  refine u8v ?_
  rw [UInt8.toNat_ofNat']
  simp at this
  omega
/-- A row of whole numbers of kind u8 reads as bytes. -/
theorem rdb_of_row {w : World} {A : Option Addr} {len cap : Nat} {zs : List Int} (hl : len ≤ cap) (hm : cap ≤ maxLen) (hz : zs.length = cap) (hA : A = none → cap = 0) (hc : ∀ a, A = some a → ∀ i, i < cap → w.cell? (a.add i) = some (.int .u8 (zs.getD i 0))) (hw : ∀ n ∈ zs, (Lit.int .u8 n).wf = true) :
    RdB w (.slice A len cap) ((toBytes zs).take len) := by
  have hlen : ((toBytes zs).take len).length = len := by simp [toBytes]; omega
  refine ⟨A, cap, by rw [hlen], by simp [bvs], by rw [hlen]; exact hl, hm, hA, fun j u hu => ?_⟩
  have hj : j < len := by
    rcases Nat.lt_or_ge j len with h | h
    · exact h
    · rw [List.getElem?_eq_none (by rw [bvs_length, hlen]; exact h)] at hu; cases hu
  cases A with
  | none => have := hA rfl; omega
  | some a =>
    have h0 := hc a rfl j (by omega)
    have hspot : a.spot = none := by
      have := hc a rfl 0 (by omega)
      have := World.cell?_spot this
      simpa [Addr.add] using this
    obtain ⟨g, off, spot⟩ := a
    simp only at hspot
    subst hspot
    refine ⟨g, off, rfl, ?_⟩
    rw [Addr.add_lit] at h0
    rw [h0, toBytes_get hw (by omega)]
    rw [bvs_take, List.getElem?_take, if_pos hj] at hu
    rw [← hu]
    have hjz : j < zs.length := by omega
    simp [bvs, toBytes, hjz, List.getD_eq_getElem?_getD]
section
variable {H : Type} {enc : TypeId × Value → H} {w : World} {base : Nat} {held : Bool}
theorem open_bytes {a : Option Addr} {len cap fuel : Nat} {x : DataW H × List MemPlace} (h : DataW.trod enc Try.prog w base (fun _ => true) held fuel 28 [.slice a len cap] = some x) :
    ∃ xs : List UInt8, xs.length = len ∧ RdB w (.slice a len cap) xs := by
  rcases open_ints Try.underlying28 Try.underlying5 (by kernel_rfl) h with ⟨hcs, _⟩ | ⟨x, l, c, zs, hcs, _, hl, hm, hz, _, hcell, hwz⟩
  · simp at hcs
    obtain ⟨rfl, rfl, rfl⟩ := hcs
    exact ⟨[], rfl, rdb_nil w⟩
  · simp at hcs
    obtain ⟨rfl, rfl, rfl⟩ := hcs
    have hz' : zs.length = cap := by simpa using hz
    exact ⟨_, by simp [toBytes]; omega, rdb_of_row hl hm hz' (fun h => by cases h) (fun a' e i hi => by cases e; exact hcell i (by omega)) hwz⟩
theorem bulk_row (k : IntKind) (A : Option Addr) (L : Nat) (zs : List Int) (hL : L ≤ zs.length) (hA : A = none → L = 0) : L + 1 ≤ Rows.uptoBulk (Go.Deep.intRow (H := H) k A L zs) := by
  have hb : ∀ l : List Int, Rows.uptoBulkAll (lits (H := H) k l) = l.length := by
    intro l
    induction l with
    | nil => rfl
    | cons n l ih =>
      show Rows.uptoBulk (DataW.lit (H := H) (.int k n)) + Rows.uptoBulkAll (lits (H := H) k l) = _
      rw [ih]
      simp [Rows.uptoBulk]; omega
  cases A with
  | none => have := hA rfl; subst this; simp [Go.Deep.intRow, Rows.uptoBulk]
  | some a =>
    simp only [Go.Deep.intRow, Rows.uptoBulk, hb]
    simp
    omega
theorem bulk_range (D : Nat → DataW H) (F : Nat → Nat) (n : Nat) (h : ∀ r, r < n → F r + 1 ≤ Rows.uptoBulk (D r)) (l : List (List UInt8)) (hl : l.length = n) (hF : ∀ r (hr : r < l.length), l[r].length = F r) : tot l + n ≤ Rows.uptoBulkAll ((List.range n).map D) := by
  induction n generalizing l with
  | zero =>
    have : l = [] := List.eq_nil_of_length_eq_zero hl
    subst this
    simp [tot]
  | succ n ih =>
    have happ : ∀ a b : List (DataW H), Rows.uptoBulkAll (a ++ b) = Rows.uptoBulkAll a + Rows.uptoBulkAll b := by
      intro a b
      induction a with
      | nil => simp [Rows.uptoBulkAll]
      | cons x a ih => simp only [List.cons_append, Rows.uptoBulkAll, ih]; omega
    have h1 := ih (fun r hr => h r (by omega)) (l.take n) (by rw [List.length_take]; omega) (fun r hr => by
      rw [List.getElem_take]
      exact hF r (by rw [List.length_take] at hr; omega))
    have h2 := tot_succ l n (by omega)
    have h3 := hF n (by omega)
    have h4 := h n (by omega)
    rw [show n + 1 = l.length by omega, List.take_length] at h2
    rw [List.range_succ, List.map_append, happ]
    simp only [List.map_cons, List.map_nil, Rows.uptoBulkAll]
    omega
theorem open_ll {a : Option Addr} {len cap fuel : Nat} {x : DataW H × List MemPlace} (h : DataW.trod enc Try.prog w base (fun _ => true) held fuel 22 [.slice a len cap] = some x) :
    ∃ l : List (List UInt8), l.length = len ∧ RdLL w (.slice a len cap) l ∧ tot l + l.length ≤ Rows.uptoBulk x.1 := by
  rcases Go.Deep.open_int_rows Try.underlying22 Try.underlying28 Try.underlying5 (by kernel_rfl) (by kernel_rfl) h with ⟨hcs, rfl⟩ | ⟨ad, l, c, A, L, C, Z, hcs, _, hl, hm, rfl, hr⟩
  · simp at hcs
    obtain ⟨rfl, rfl, rfl⟩ := hcs
    exact ⟨[], rfl, ⟨[], Rd.nil' (by simp [maxLen]) (fun _ => rfl), fun j hj => by simp at hj⟩, by simp [tot]⟩
  · simp at hcs
    obtain ⟨rfl, rfl, rfl⟩ := hcs
    have hlen : ((List.range len).map fun r => (toBytes (Z r)).take (L r)).length = len := by simp
    refine ⟨(List.range len).map fun r => (toBytes (Z r)).take (L r), hlen, ⟨(List.range len).map fun r => .slice (A r) (L r) (C r), ⟨some ad, cap, by rw [hlen], by simp, by rw [hlen]; exact hl, hm, (fun h => by cases h), fun j u hu => ?_⟩, fun j hj => ?_⟩, ?_⟩
    · have hj : j < len := by
        rcases Nat.lt_or_ge j len with h | h
        · exact h
        · rw [List.getElem?_eq_none (by simpa using h)] at hu; cases hu
      have h0 := (hr j (by omega)).1
      have hspot : ad.spot = none := by
        have := World.cell?_spot (hr 0 (by omega)).1
        simpa [Addr.add] using this
      obtain ⟨g, off, spot⟩ := ad
      simp only at hspot
      subst hspot
      refine ⟨g, off, rfl, ?_⟩
      rw [Addr.add_lit] at h0
      rw [h0, ← hu]
      simp [hj]
    · have hj' : j < len := by simpa using hj
      obtain ⟨h0, h1, h2, h3, h4, h5, h6⟩ := hr j (by omega)
      refine ⟨.slice (A j) (L j) (C j), by simp [hj'], ?_⟩
      have := rdb_of_row h1 h2 h3 h5 (fun a' e i hi => (h6 a' e).2 i hi) h4
      simpa using this
    · have := bulk_range (fun r => Go.Deep.intRow (H := H) .u8 (A r) (L r) (Z r)) L len (fun r hr' => by
        obtain ⟨h0, h1, h2, h3, h4, h5, h6⟩ := hr r (by omega)
        exact bulk_row .u8 (A r) (L r) (Z r) (by omega) (fun e => by have := h5 e; omega)) _ hlen (fun r hr' => by
        have hr2 : r < len := by simpa using hr'
        obtain ⟨h0, h1, h2, h3, h4, h5, h6⟩ := hr r (by omega)
        simp [toBytes]; omega)
      rw [hlen]
      simp only [Rows.uptoBulk]
      omega
end
end Go.Proofs.Ytoliikpbhmfjnaa
