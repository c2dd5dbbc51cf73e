/-
  A row's reading of a []api.Op in the walks' words, with the bulk.
-/
import Derived.Test.YtkbmecjpjphngaaBOpen
import Derived.Test.YtkbmecjpjphngaaBFew
import Derived.Deep.Slices
set_option linter.unusedVariables false
set_option linter.unusedSimpArgs false
namespace Go.Proofs.Ytkbmecjpjphngaa
open Go.ChangeShapes Go.WideShapes Go.ChangeAt Go.RowKit Go.Maps

section
variable {H : Type} {enc : TypeId × Value → H} {w : World} {base : Nat} {held : Bool}
theorem bulk_lits (k : IntKind) (l : List Int) : Rows.uptoBulkAll (lits (H := H) k l) = l.length := by
  induction l with
  | nil => rfl
  | cons n l ih =>
    show Rows.uptoBulk (DataW.lit (H := H) (.int k n)) + Rows.uptoBulkAll (lits (H := H) k l) = _
    rw [ih]
    simp [Rows.uptoBulk]; omega
theorem bulk_app (a b : List (DataW H)) : Rows.uptoBulkAll (a ++ b) = Rows.uptoBulkAll a + Rows.uptoBulkAll b := by
  induction a with
  | nil => simp [Rows.uptoBulkAll]
  | cons x a ih => simp only [List.cons_append, Rows.uptoBulkAll, ih]; omega
theorem open_byt2 {c : Value} {fuel : Nat} {x : DataW H × List MemPlace} (h : DataW.trod enc Try.prog w base (fun _ => true) held fuel 24 [c] = some x) :
    ∃ xs : List UInt8, RdB w c xs ∧ xs.length + 1 ≤ Rows.uptoBulk x.1 := by
  rcases open_ints Try.underlying24 Try.underlying5 (by kernel_rfl) h with ⟨hcs, rfl⟩ | ⟨a, l, cap, zs, hcs, _, hl, hm, hz, rfl, hcell, hwz⟩
  · simp at hcs
    subst hcs
    exact ⟨[], rdb_nil w, by simp [Rows.uptoBulk]⟩
  · simp at hcs
    subst hcs
    have hz' : zs.length = cap := by simpa using hz
    have h1 := rd_of_ints (k := .u8) (w := w) hl hm hz' (A := some a) (fun h => by cases h) (fun a' e i hi => by cases e; exact hcell i (by omega))
    rw [toBytes_map hwz] at h1
    have h2 : ((toBytes zs).take l).length = l := by simp [toBytes]; omega
    refine ⟨(toBytes zs).take l, ?_, ?_⟩
    · show Rd w _ ((toBytes zs).take l).length 1 _
      rw [h2]
      exact h1
    · rw [h2]
      simp only [Rows.uptoBulk, bulk_lits, List.length_take, List.length_drop]
      omega
theorem open_nums2 {c : Value} {fuel : Nat} {x : DataW H × List MemPlace} (h : DataW.trod enc Try.prog w base (fun _ => true) held fuel 23 [c] = some x) :
    ∃ zs : List Int, Rd w c zs.length 1 (zs.map (Value.int .i64)) ∧ (∀ n ∈ zs, (Lit.int .i64 n).wf = true) ∧ zs.length + 1 ≤ Rows.uptoBulk x.1 := by
  rcases open_ints Try.underlying23 Try.underlying3 (by kernel_rfl) h with ⟨hcs, rfl⟩ | ⟨a, l, cap, zs, hcs, _, hl, hm, hz, rfl, hcell, hwz⟩
  · simp at hcs
    subst hcs
    exact ⟨[], Rd.nil' (by simp [maxLen]) (fun _ => rfl), by simp, by simp [Rows.uptoBulk]⟩
  · simp at hcs
    subst hcs
    have hz' : zs.length = cap := by simpa using hz
    have h1 := rd_of_ints (k := .i64) (w := w) hl hm hz' (A := some a) (fun h => by cases h) (fun a' e i hi => by cases e; exact hcell i (by omega))
    have h2 : (zs.take l).length = l := by simp; omega
    refine ⟨zs.take l, ?_, fun n hn => hwz n (List.mem_of_mem_take hn), ?_⟩
    · rw [h2]
      exact h1
    · rw [h2]
      simp only [Rows.uptoBulk, bulk_lits, List.length_take, List.length_drop]
      omega
theorem list9 {T : Type} {cs : List T} (h : cs.length = 9) : ∃ c0 c1 c2 c3 c4 c5 c6 c7 c8, cs = [c0, c1, c2, c3, c4, c5, c6, c7, c8] := by
  match cs, h with
  | [c0, c1, c2, c3, c4, c5, c6, c7, c8], _ => exact ⟨c0, c1, c2, c3, c4, c5, c6, c7, c8, rfl⟩
set_option maxRecDepth 100000 in
theorem open_op9 {cs : List Value} {fuel : Nat} {x : DataW H × List MemPlace} (h : DataW.trod enc Try.prog w base (fun _ => true) held fuel 26 cs = some x) :
    ∃ c0 c1 c2 c3 c4 c5 c6 c7 c8, cs = [c0, c1, c2, c3, c4, c5, c6, c7, c8] ∧ ∃ o, OpR w (.agg #[c0, c1, c2, c3, c4, c5, c6, c7, c8]) o ∧ opSz o + 1 ≤ Rows.uptoBulk x.1 := by
  obtain ⟨xs, n, _, rfl, hl, hlen, hff⟩ := DataW.trod_struct Try.underlying26 h
  have hc9 : Try.prog.cellsOf 26 = 9 := by kernel_rfl
  obtain ⟨c0, c1, c2, c3, c4, c5, c6, c7, c8, rfl⟩ := list9 (hl.trans hc9)
  obtain ⟨y0, y1, y2, y3, y4, y5, y6, y7, y8, rfl⟩ := list9 (hlen.trans (by rfl))
  have hone : Go.Deep.oneCellFields Try.prog _ = true := (by kernel_rfl : Go.Deep.oneCellFields Try.prog (match Try.prog.underlying 26 with | some (.struct fs) => fs | _ => #[]) = true)
  rw [Try.underlying26] at hone
  have key : ∀ (i : Nat) (f : Field), _ → DataW.trod enc Try.prog w base (fun _ => true) held n f.type (([c0, c1, c2, c3, c4, c5, c6, c7, c8].drop i).take 1) = [y0, y1, y2, y3, y4, y5, y6, y7, y8][i]? := fun i f hi => by
    have h1 := hff i f hi
    obtain ⟨o, k⟩ := Go.Deep.hone_of hone i f hi
    rw [o, k] at h1
    exact h1
  have h0 := key 0 _ rfl
  have h1 := key 1 _ rfl
  have h2 := key 2 _ rfl
  have h3 := key 3 _ rfl
  have h4 := key 4 _ rfl
  have h5 := key 5 _ rfl
  have h6 := key 6 _ rfl
  have h7 := key 7 _ rfl
  have h8 := key 8 _ rfl
  obtain ⟨id, e0, _, w0⟩ := DataW.trod_int Try.underlying22 h0
  obtain ⟨kind, e1, _, w1⟩ := DataW.trod_int Try.underlying3 h1
  obtain ⟨b, e2, z2, w2⟩ := DataW.trod_string Try.underlying9 h2
  obtain ⟨k, e3, z3, w3⟩ := DataW.trod_string Try.underlying9 h3
  obtain ⟨af, e4, z4, w4⟩ := DataW.trod_string Try.underlying9 h4
  obtain ⟨nn, e5, _, w5⟩ := DataW.trod_int Try.underlying3 h5
  obtain ⟨up, e6, _, w6⟩ := DataW.trod_int Try.underlying22 h6
  obtain ⟨zs, r7, w7, z7⟩ := open_nums2 h7
  obtain ⟨xs, r8, z8⟩ := open_byt2 h8
  simp only [List.drop, List.take, List.cons.injEq, and_true] at e0 e1 e2 e3 e4 e5 e6
  subst e0 e1 e2 e3 e4 e5 e6
  refine ⟨_, _, _, _, _, _, _, _, _, rfl, ⟨id, kind, b, k, af, nn, up, zs, xs⟩, ⟨c7, c8, rfl, r7, r8, w0, w1, w5, w6, w7, w2, w3, w4⟩, ?_⟩
  subst z2 z3 z4
  simp only [List.map_cons, List.map_nil, Rows.uptoBulk, Rows.uptoBulkAll, opSz]
  have q : ∀ s : ByteArray, s.data.toList.length = s.size := fun s => by simp
  rw [q b, q k, q af]
  omega
theorem bulk_ops (D : Nat → DataW H) (n : Nat) (os : List OpC) (hl : os.length = n) (h : ∀ r (hr : r < os.length), opSz os[r] + 1 ≤ Rows.uptoBulk (D r)) : opsSz os + n ≤ Rows.uptoBulkAll ((List.range n).map D) := by
  induction n generalizing os with
  | zero =>
    have : os = [] := List.eq_nil_of_length_eq_zero hl
    subst this
    simp [opsSz]
  | succ n ih =>
    have h1 := ih (os.take n) (by rw [List.length_take]; omega) (fun r hr => by
      rw [List.getElem_take]
      exact h r (by rw [List.length_take] at hr; omega))
    have h2 : opsSz os = opsSz (os.take n) + opSz (os[n]'(by omega)) := by
      have := opsSz_snoc (os.take n) (os[n]'(by omega))
      rw [← take_snoc os n (by omega), show n + 1 = os.length by omega, List.take_length] at this
      exact this
    have h4 := h n (by omega)
    rw [List.range_succ, List.map_append, bulk_app]
    simp only [List.map_cons, List.map_nil, Rows.uptoBulkAll]
    omega
instance : Inhabited OpC := ⟨⟨0, 0, ByteArray.empty, ByteArray.empty, ByteArray.empty, 0, 0, [], []⟩⟩
theorem open_ops {a : Option Addr} {len cap fuel : Nat} {x : DataW H × List MemPlace} (h : DataW.trod enc Try.prog w base (fun _ => true) held fuel 45 [.slice a len cap] = some x) :
    ∃ os : List OpC, OpsR w (.slice a len cap) os ∧ opsSz os + os.length + 1 ≤ Rows.uptoBulk x.1 := by
  rcases Go.Deep.open_slice Try.underlying45 h with ⟨hcs, rfl⟩ | ⟨ad, l, c, m, n, D, Pl, hcs, _, hl, hm, hmm, rfl, hx⟩
  · simp at hcs
    obtain ⟨rfl, rfl, rfl⟩ := hcs
    exact ⟨[], ⟨none, 0, rfl, by simp, by simp [maxLen], fun j hj => by simp at hj⟩, by simp [opsSz, Rows.uptoBulk]⟩
  · simp at hcs
    obtain ⟨rfl, rfl, rfl⟩ := hcs
    have hc9 : Try.prog.cellsOf 26 = 9 := by kernel_rfl
    rw [hc9] at hx
    have hmc : m = cap := by simpa using hmm
    obtain ⟨f, hf⟩ := Go.Deep.choose_lt (α := OpC) (n := len) (p := fun i o => ∃ c0 c1 c2 c3 c4 c5 c6 c7 c8, w.cells? base (ad.add (i * 9)) 9 = some [c0, c1, c2, c3, c4, c5, c6, c7, c8] ∧ OpR w (.agg #[c0, c1, c2, c3, c4, c5, c6, c7, c8]) o ∧ opSz o + 1 ≤ Rows.uptoBulk (D i)) (fun i hi => by
      obtain ⟨cs', h1, h2⟩ := hx i (by omega)
      obtain ⟨c0, c1, c2, c3, c4, c5, c6, c7, c8, rfl, o, h3, h4⟩ := open_op9 h2
      exact ⟨o, c0, c1, c2, c3, c4, c5, c6, c7, c8, h1, h3, h4⟩)
    have hlen : ((List.range len).map f).length = len := by simp
    refine ⟨(List.range len).map f, ⟨some ad, cap, by rw [hlen], by rw [hlen]; exact hl, hm, fun j hj => ?_⟩, ?_⟩
    · have hj' : j < len := by simpa using hj
      obtain ⟨c0, c1, c2, c3, c4, c5, c6, c7, c8, h1, h2, _⟩ := hf j hj'
      obtain ⟨_, _, hc⟩ := World.cells?_some h1
      have hspot : ad.spot = none := by
        obtain ⟨_, _, _, _, _, _, _, _, _, h1', _, _⟩ := hf 0 (by omega)
        obtain ⟨_, _, hc'⟩ := World.cells?_some h1'
        have := World.cell?_spot (hc' 0 (by omega))
        simpa [Addr.add] using this
      obtain ⟨g, off, spot⟩ := ad
      simp only at hspot
      subst hspot
      have e : ∀ i, i < 9 → w.cell? ⟨g, off + j * 9 + i, none⟩ = [c0, c1, c2, c3, c4, c5, c6, c7, c8][i]? := fun i hi => by
        have := hc i hi
        rwa [Addr.add_lit, Addr.add_lit] at this
      exact ⟨g, off, c0, c1, c2, c3, c4, c5, c6, c7, c8, rfl, by simpa using h2, e 0 (by omega), e 1 (by omega), e 2 (by omega), e 3 (by omega), e 4 (by omega), e 5 (by omega), e 6 (by omega), e 7 (by omega), e 8 (by omega)⟩
    · have := bulk_ops D len ((List.range len).map f) hlen (fun r hr => by
        have hr' : r < len := by simpa using hr
        obtain ⟨c0, c1, c2, c3, c4, c5, c6, c7, c8, _, _, h4⟩ := hf r hr'
        simpa using h4)
      rw [hlen]
      simp only [Rows.uptoBulk]
      omega
end
end Go.Proofs.Ytkbmecjpjphngaa
