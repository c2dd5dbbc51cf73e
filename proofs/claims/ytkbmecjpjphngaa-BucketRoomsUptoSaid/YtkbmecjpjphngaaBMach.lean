/-
  The machine of buckets as plain data, its ops, and how it lies in memory.
-/
import Derived.Test.YtkbmecjpjphngaaProg
import Derived.Test.YtkbmecjpjphngaaBOwn
set_option linter.unusedVariables false
set_option linter.unusedSimpArgs false
namespace Go.Proofs.Ytkbmecjpjphngaa
open Go.RowKit Go.Maps

/-- Keys. -/
abbrev sk (s : ByteArray) : Lit := .string s.data.toList
abbrev uk (n : Int) : Lit := .int .u64 n
abbrev ik (n : Int) : Lit := .int .i64 n
/-- A bucket: objects' bytes by key. Parts: by number. -/
abbrev Bk := Lit → Option (List UInt8)
structure UplC where
  bucket : ByteArray
  key : ByteArray
  parts : Lit → Option (List UInt8)
structure ResC where
  st : Int
  up : Int
  keys : List ByteArray
  more : Bool
  data : List UInt8
structure StC where
  bs : Lit → Option Bk
  us : Lit → Option UplC
  ds : Lit → Option ResC
structure OpC where
  id : Int
  kind : Int
  bucket : ByteArray
  key : ByteArray
  after : ByteArray
  n : Int
  up : Int
  parts : List Int
  data : List UInt8
def StC.empty : StC := ⟨fun _ => none, fun _ => none, fun _ => none⟩
def stat (n : Int) : ResC := ⟨n, 0, [], false, []⟩

/-- In memory. -/
def BktR (N : Nat) (w : World) (v : Value) (c : Bk) (F : Foot) : Prop := ∃ b, v = .map (some b) ∧ MapR Try.prog BytesR 9 w b N c F
def UplR (N : Nat) (w : World) (v : Value) (u : UplC) (F : Foot) : Prop :=
  ∃ g mb, ∃ Fp : Foot, v = .pointer (some ⟨g, 0, none⟩) ∧ w.heap[g]? = some (.cells #[.string u.bucket, .string u.key, .map (some mb)] 122) ∧ MapR Try.prog BytesR 3 w mb N u.parts Fp ∧
    F g ∧ ¬ Fp g ∧ (∀ i, Fp i → F i) ∧ (∀ i, F i → i < w.heap.size) ∧ u.bucket.size ≤ maxLen ∧ u.key.size ≤ maxLen
def ResR (w : World) (v : Value) (r : ResC) (F : Foot) : Prop :=
  ∃ kv dv, v = .agg #[.int .i64 r.st, .int .u64 r.up, kv, .bool r.more, dv] ∧ RdS w kv r.keys ∧ InF kv F ∧ RdB w dv r.data ∧ InF dv F ∧ ∀ i, F i → i < w.heap.size
/-- What the bytes it holds may measure. -/
structure Small (S : StC) : Prop where
  obj : ∀ j c k x, S.bs j = some c → c k = some x → x.length ≤ 167772160000
  part : ∀ j u k x, S.us j = some u → u.parts k = some x → x.length ≤ 16777216
  kept : ∀ j r, S.ds j = some r → r.keys = [] ∧ r.data = []
/-- The machine at p holds S, in blocks of F; none of its maps has more than N entries. -/
structure Mach (N : Nat) (w : World) (p : Value) (S : StC) (F : Foot) : Prop where
  small : Small S
  lower : ∀ i, F i → i < w.heap.size
  lies : ∃ g B U D, ∃ FB FU FD : Foot, p = .pointer (some ⟨g, 0, none⟩) ∧ w.heap[g]? = some (.cells #[.map (some B), .map (some U), .map (some D)] 74) ∧
    MapR Try.prog (BktR N) 9 w B N S.bs FB ∧ MapR Try.prog (UplR N) 22 w U N S.us FU ∧ MapR Try.prog ResR 22 w D N S.ds FD ∧
    F g ∧ (∀ i, FB i → F i ∧ i ≠ g) ∧ (∀ i, FU i → F i ∧ i ≠ g ∧ ¬ FB i) ∧ (∀ i, FD i → F i ∧ i ≠ g ∧ ¬ FB i ∧ ¬ FU i)
/-- An op as it is handed in. -/
def OpR (w : World) (v : Value) (o : OpC) : Prop :=
  ∃ pv dv, v = .agg #[.int .u64 o.id, .int .i64 o.kind, .string o.bucket, .string o.key, .string o.after, .int .i64 o.n, .int .u64 o.up, pv, dv] ∧ Rd w pv o.parts.length 1 (o.parts.map (Value.int .i64)) ∧ RdB w dv o.data ∧
    (Lit.int .u64 o.id).wf = true ∧ (Lit.int .i64 o.kind).wf = true ∧ (Lit.int .i64 o.n).wf = true ∧ (Lit.int .u64 o.up).wf = true ∧ (∀ x ∈ o.parts, (Lit.int .i64 x).wf = true) ∧ o.bucket.size ≤ maxLen ∧ o.key.size ≤ maxLen ∧ o.after.size ≤ maxLen

theorem block_lt {w : World} {g : Nat} {o : Obj} (h : w.heap[g]? = some o) : g < w.heap.size := (Array.getElem?_eq_some_iff.1 h).1
theorem bktR (N : Nat) : Reads (BktR N) :=
  ⟨fun ⟨b, e, h⟩ hw => ⟨b, e, h.framed bytesR hw⟩, fun ⟨b, e, h⟩ => h.lower⟩
theorem uplR (N : Nat) : Reads (UplR N) :=
  ⟨fun ⟨g, mb, Fp, e, hg, hm, h1, h2, h3, h4, h5⟩ hw => ⟨g, mb, Fp, e, (hw g h1).trans hg, hm.framed bytesR (fun i hi => hw i (h3 i hi)), h1, h2, h3, lower_of hw h4, h5⟩, fun ⟨g, mb, Fp, e, hg, hm, h1, h2, h3, h4, _⟩ => h4⟩
theorem resR : Reads ResR :=
  ⟨fun ⟨kv, dv, e, h1, h2, h3, h4, h5⟩ hw => ⟨kv, dv, e, Rd.framed h1 h2 hw, h2, Rd.framed h3 h4 hw, h4, lower_of hw h5⟩, fun ⟨_, _, _, _, _, _, _, h⟩ => h⟩
theorem MapR.of {C : Type} {P : Program} {VR VR' : World → Value → C → Foot → Prop} {k : TypeId} {w : World} {b n : Nat} {f : Lit → Option C} {F : Foot} (h : MapR P VR k w b n f F) (hV : ∀ v x F, VR w v x F → VR' w v x F) : MapR P VR' k w b n f F := by
  obtain ⟨g, Fs, a1, a2, a3, a4, r⟩ := h
  exact ⟨g, Fs, a1, a2, a3, fun j x hj => let ⟨v, hv, hr⟩ := a4 j x hj; ⟨v, hv, hV _ _ _ hr⟩, r⟩
theorem BktR.mono {N N' : Nat} (hN : N ≤ N') {w : World} {v : Value} {c : Bk} {F : Foot} (h : BktR N w v c F) : BktR N' w v c F := by
  obtain ⟨b, e, h⟩ := h
  exact ⟨b, e, h.mono hN⟩
theorem UplR.mono {N N' : Nat} (hN : N ≤ N') {w : World} {v : Value} {c : UplC} {F : Foot} (h : UplR N w v c F) : UplR N' w v c F := by
  obtain ⟨g, mb, Fp, e, hg, hm, r⟩ := h
  exact ⟨g, mb, Fp, e, hg, hm.mono hN, r⟩
theorem Mach.mono {N N' : Nat} (hN : N ≤ N') {w : World} {p : Value} {S : StC} {F : Foot} (h : Mach N w p S F) : Mach N' w p S F := by
  obtain ⟨h1, h2, g, B, U, D, FB, FU, FD, e, hg, a, b, c, r⟩ := h
  exact ⟨h1, h2, g, B, U, D, FB, FU, FD, e, hg, (a.of fun _ _ _ h => h.mono hN).mono hN, (b.of fun _ _ _ h => h.mono hN).mono hN, c.mono hN, r⟩
/-- It stands while its blocks do. -/
theorem Mach.framed {N : Nat} {w w' : World} {p : Value} {S : StC} {F : Foot} (h : Mach N w p S F) (hw : ∀ i, F i → w'.heap[i]? = w.heap[i]?) : Mach N w' p S F := by
  obtain ⟨h1, h2, g, B, U, D, FB, FU, FD, e, hg, a, b, c, d1, d2, d3, d4⟩ := h
  exact ⟨h1, lower_of hw h2, g, B, U, D, FB, FU, FD, e, (hw g d1).trans hg, a.framed (bktR N) (fun i hi => hw i (d2 i hi).1), b.framed (uplR N) (fun i hi => hw i (d3 i hi).1), c.framed resR (fun i hi => hw i (d4 i hi).1), d1, d2, d3, d4⟩
theorem Mach.frm {N : Nat} {w w' : World} {p : Value} {S : StC} {F G : Foot} (h : Mach N w p S F) (hw : Frm G w w') (hd : ∀ i, F i → ¬ G i) : Mach N w' p S F :=
  h.framed fun i hi => hw.block i (h.lower i hi) (hd i hi)
theorem OpR.cells {w w' : World} {v : Value} {o : OpC} (h : OpR w v o) (hk : ∀ a u, w.cell? a = some u → w'.cell? a = some u) : OpR w' v o := by
  obtain ⟨pv, dv, e, h1, h2, r⟩ := h
  exact ⟨pv, dv, e, h1.kept hk, Rd.kept h2 hk, r⟩

/-- The keys' kinds. -/
theorem Ks : Keyed Try.prog 9 := string_keyed Try.underlying9
theorem Ku : Keyed Try.prog 22 := int_keyed Try.underlying22
theorem Ki : Keyed Try.prog 3 := int_keyed Try.underlying3
theorem ks_of {s : ByteArray} (h : s.size ≤ maxLen) : keyOf Try.prog 9 (.string s) = some (sk s) := WideMaps.keyOf_string_mk Try.underlying9 h
theorem ku_of {n : Int} (h : (Lit.int .u64 n).wf = true) : keyOf Try.prog 22 (.int .u64 n) = some (uk n) := keyOf_int_mk Try.underlying22 h
theorem ki_of {n : Int} (h : (Lit.int .i64 n).wf = true) : keyOf Try.prog 3 (.int .i64 n) = some (ik n) := keyOf_int_mk Try.underlying3 h
end Go.Proofs.Ytkbmecjpjphngaa
