/-
  The walks of the small functions of the machine of buckets: status, New, known, Clone, apart.
-/
import Derived.Test.YtkbmecjpjphngaaBMach
import Derived.StillTailTactics
import Derived.Deep.RegionHeld3
import Derived.Deep.DrawnRows
import Derived.Lib.SliceRun
set_option linter.unusedVariables false
set_option linter.unusedSimpArgs false
namespace Go.Proofs.Ytkbmecjpjphngaa
open Go.RowKit Go.Maps

/-- The value of a result of a status alone. -/
abbrev statV (n : Int) : Value := .agg #[.int .i64 n, .int .u64 0, .slice none 0 0, .bool false, .slice none 0 0]
set_option maxRecDepth 100000 in
theorem status_any (n : Int) (w : World) : Calls Try.prog 28 #[.int .i64 n] w fun e w' => e = .returned (statV n) ∧ Below w.heap.size w w' := by
  go_enter Try.func28, Try.ntmps28
  go_wp2
  exact bodyPost_ret (v := statV n) (by simp [results, Try.results28, go_sem]) rfl ⟨rfl, (Below.refl _ _).alloc (Nat.le_refl _) _⟩

theorem alloc_same {w : World} {o : Obj} {i : Nat} (h : i < w.heap.size) : (w.alloc o).heap[i]? = w.heap[i]? := Below.heap_alloc _ _ _ h
theorem alloc_size (w : World) (o : Obj) : (w.alloc o).heap.size = w.heap.size + 1 := by simp
theorem small_empty : Small StC.empty := ⟨(fun j c k x h => by cases h), (fun j c k x h => by cases h), (fun j r h => by cases h)⟩
theorem mach_new (w : World) : Mach 0 ((((w.alloc (.map #[] 0)).alloc (.map #[] 0)).alloc (.map #[] 0)).alloc (.cells #[.map (some w.heap.size), .map (some (w.heap.size + 1)), .map (some (w.heap.size + 1 + 1))] 74))
    (.pointer (some ⟨w.heap.size + 1 + 1 + 1, 0, none⟩)) StC.empty (fun i => w.heap.size ≤ i ∧ i < w.heap.size + 4) := by
  have a := MapR.made Try.prog (BktR 0) 9 w rfl
  have b := MapR.made Try.prog (UplR 0) 22 (w.alloc (.map #[] 0)) rfl
  have c := MapR.made Try.prog ResR 22 ((w.alloc (.map #[] 0)).alloc (.map #[] 0)) rfl
  refine ⟨small_empty, (fun i hi => by simp; omega), w.heap.size + 1 + 1 + 1, w.heap.size, w.heap.size + 1, w.heap.size + 1 + 1, (fun i => i = w.heap.size), (fun i => i = w.heap.size + 1), (fun i => i = w.heap.size + 1 + 1), rfl, ?_, ?_, ?_, ?_, ?_, ?_, ?_, ?_⟩
  · have h3 : (((w.alloc (.map #[] 0)).alloc (.map #[] 0)).alloc (.map #[] 0)).heap.size = w.heap.size + 1 + 1 + 1 := by simp
    rw [← h3]; exact heap_alloc_new _ _
  · refine MapR.framed (bktR 0) a (fun i hi => ?_)
    have : i = w.heap.size := hi
    rw [alloc_same (by simp; omega), alloc_same (by simp; omega), alloc_same (by simp; omega)]
  · rw [alloc_size] at b
    refine MapR.framed (uplR 0) b (fun i hi => ?_)
    have : i = w.heap.size + 1 := hi
    rw [alloc_same (by simp; omega), alloc_same (by simp; omega)]
  · rw [alloc_size, alloc_size] at c
    refine MapR.framed resR c (fun i hi => ?_)
    have : i = w.heap.size + 1 + 1 := hi
    rw [alloc_same (by simp; omega)]
  · exact ⟨by omega, by omega⟩
  · intro i hi; have : i = w.heap.size := hi; exact ⟨⟨by omega, by omega⟩, by omega⟩
  · intro i hi
    have : i = w.heap.size + 1 := by simpa using hi
    exact ⟨⟨by omega, by omega⟩, by omega, fun e => by have : i = w.heap.size := e; omega⟩
  · intro i hi
    have : i = w.heap.size + 1 + 1 := by simpa using hi
    exact ⟨⟨by omega, by omega⟩, by omega, (fun e => by have : i = w.heap.size := e; omega), (fun e => by have : i = w.heap.size + 1 := e; omega)⟩
theorem bucketNew_any (w : World) : Calls Try.prog 12 #[] w fun e w' => ∃ p F, e = .returned p ∧ Mach 0 w' p StC.empty F ∧ (∀ i, F i → w.heap.size ≤ i) ∧ Below w.heap.size w w' := by
  have hmm := @run_makeMap Try.prog
  go_enter Try.func12, Try.ntmps12
  go_wp2
  go_ret
  exact ⟨_, _, rfl, mach_new w, fun i hi => hi.1, ((((Below.refl _ _).alloc (Nat.le_refl _) _).alloc (by simp) _).alloc (by simp; omega) _).alloc (by simp; omega) _⟩

/-- A machine's block, cell by cell. -/
theorem mach_cells {w : World} {g B U D : Nat} (h : w.heap[g]? = some (.cells #[.map (some B), .map (some U), .map (some D)] 74)) :
    w.cell? ⟨g, 0, none⟩ = some (.map (some B)) ∧ w.cell? ⟨g, 1, none⟩ = some (.map (some U)) ∧ w.cell? ⟨g, 2, none⟩ = some (.map (some D)) := by
  refine ⟨?_, ?_, ?_⟩ <;> simp [World.cell?, h]
set_option maxRecDepth 100000 in
theorem known_walk {w : World} {g B : Nat} {c0 c1 c3 c4 c5 c6 c7 c8 : Value} {s : ByteArray} {v : Value} {r : Bool} (hg : w.cell? ⟨g, 0, none⟩ = some (.map (some B)))
    (hl : ∀ W : World, W.heap[B]? = w.heap[B]? → (Instr.lookup 70 (.map (some B)) (.string s) false).run Try.prog W = .ok v W)
    (hB : B < w.heap.size) (hv : v = .map none ∧ r = false ∨ ∃ b, v = .map (some b) ∧ r = true) :
    Calls Try.prog 63 #[.pointer (some ⟨g, 0, none⟩), .agg #[c0, c1, .string s, c3, c4, c5, c6, c7, c8]] w fun e w' => e = .returned (.bool r) ∧ Below w.heap.size w w' := by
  have hL : ∀ n o, (Instr.lookup 70 (.map (some B)) (.string s) false).run Try.prog ((w.alloc o).drewN n) = .ok v ((w.alloc o).drewN n) := fun n o => hl _ (alloc_same hB)
  clear hl
  have hne := fun W r => run_neq_map_nil (P := Try.prog) W 86 _ _ r Try.underlying86
  have hgl := World.block_lt_of_cell? _ _ hg
  rcases hv with ⟨rfl, rfl⟩ | ⟨b, rfl, rfl⟩
  · go_enter Try.func63, Try.ntmps63
    go_wp2
    go_quiet (fail)
    go_wp2
    go_ret
    exact ⟨rfl, ((Below.refl _ _).alloc (Nat.le_refl _) _).trans ((drewN_below _ _).mono (by simp))⟩
  · go_enter Try.func63, Try.ntmps63
    go_wp2
    go_quiet (fail)
    go_wp2
    go_ret
    exact ⟨rfl, ((Below.refl _ _).alloc (Nat.le_refl _) _).trans ((drewN_below _ _).mono (by simp))⟩

theorem tB : SliceT Try.prog 24 5 1 1 := SliceT.of (z := .int .u8 0) Try.underlying24 (by kernel_rfl) rfl (by decide)
theorem tS : SliceT Try.prog 39 9 1 16 := SliceT.of (z := .string ByteArray.empty) Try.underlying39 (by kernel_rfl) rfl (by decide)
theorem fresh (w : World) (B : Nat) (hB : B ≤ w.heap.size) (E : TypeId) : (w.alloc (.cells #[] E)).ownsRow B E 1 (.slice (some ⟨w.heap.size, 0, none⟩) 0 0) 0 [] :=
  World.ownsRow_made w #[] 0 hB (by simp [maxLen]) rfl
theorem strs_one (ks : List ByteArray) : ∀ u ∈ ks.map Value.string, u.oneCell' = true := by
  intro u hu
  obtain ⟨b, _, rfl⟩ := List.mem_map.1 hu
  rfl
/-- A row of one's own lies in its own block. -/
theorem own_in {w : World} {base e size : Nat} {v : Value} {n : Nat} {cs : List Value} (h : w.ownsRow base e size v n cs) : ∃ F : Foot, InF v F ∧ (∀ i, F i → base ≤ i ∧ i < w.heap.size) := by
  rcases h.2 with ⟨rfl, rfl⟩ | ⟨g, cap, cur, rfl, hb, hh, r⟩
  · exact ⟨fun _ => False, (fun g off n cap e hn => by cases e), (fun i h => h.elim)⟩
  · exact ⟨fun i => i = g, (fun g' off n' cap' e hn => by cases e; rfl), (fun i h => by subst h; exact ⟨hb, block_lt hh⟩)⟩
/-- What a clone hands back. -/
structure NewR (w : World) (n : Nat) (cs : List Value) (e : Ending) (w' : World) : Prop where
  out : ∃ v, ∃ F : Foot, e = .returned v ∧ Rd w' v n 1 cs ∧ InF v F ∧ (∀ i, F i → w.heap.size ≤ i ∧ i < w'.heap.size) ∧ Below w.heap.size w w'
set_option maxRecDepth 100000 in
set_option maxHeartbeats 1000000 in
theorem cloneB_any (v : Value) (xs : List UInt8) (w : World) (h : RdB w v xs) (hx : xs.length ≤ 140737488355328) : Calls Try.prog 45 #[v] w (NewR w xs.length (bvs xs)) := by
  have h' := h
  obtain ⟨A, cap, rfl, hcap, hcm, hA⟩ := Rd.form h
  have HH := Lib.hid h'; clear h h'
  rcases A with _ | a
  · have h0 : cap = 0 := hA rfl
    have hl : xs.length = 0 := by omega
    have hxs : xs = [] := List.eq_nil_of_length_eq_zero hl
    subst hxs
    subst h0
    clear hA HH
    have kn := Lib.run_eql_slice_nil (P := Try.prog) w 24 5 none 0 0 0 0 Try.underlying24
    go_enter Try.func45, Try.ntmps45
    go_wp2
    go_ret
    exact ⟨_, fun _ => False, rfl, Rd.nil' (by simp [maxLen]) (fun _ => rfl), (fun g off n cap e hn => by cases e), (fun i h => h.elim), Below.refl _ _⟩
  · clear hA
    have kn := Lib.run_eql_slice_nil (P := Try.prog) w 24 5 (some a) xs.length cap 0 0 Try.underlying24
    go_enter Try.func45, Try.ntmps45
    go_wp2_with (at_builtin; refine wpList_app w.heap.size tB (fresh w _ (Nat.le_refl _) _) (rd_src Try.underlying24 (Rd.below HH.out ((Below.refl _ _).alloc (Nat.le_refl _) _)) (by omega) (bvs_one _)) (by simp) (by unfold maxLen; omega) (by omega) rfl rfl rfl rfl ?_)
    intro v2 w2 ho2 hg2
    have hb2 : Below w.heap.size w w2 := below_grown ((Below.refl _ w).alloc (Nat.le_refl _) _) (fresh w _ (Nat.le_refl _) 5) hg2 (by simp)
    obtain ⟨F, hF1, hF2⟩ := own_in ho2
    have hr := own_rd ho2
    clear ho2 hg2 HH
    have HR := Lib.hid hr; clear hr
    go_wp2
    go_ret
    exact ⟨_, F, rfl, HR.out, hF1, hF2, hb2⟩
set_option maxRecDepth 100000 in
set_option maxHeartbeats 1000000 in
theorem cloneS_any (v : Value) (ks : List ByteArray) (w : World) (h : RdS w v ks) (hx : ks.length ≤ 8796093022208) : Calls Try.prog 44 #[v] w (NewR w ks.length (ks.map Value.string)) := by
  have h' := h
  obtain ⟨A, cap, rfl, hcap, hcm, hA⟩ := Rd.form h
  have HH := Lib.hid h'; clear h h'
  rcases A with _ | a
  · have h0 : cap = 0 := hA rfl
    have hl : ks.length = 0 := by omega
    have hxs : ks = [] := List.eq_nil_of_length_eq_zero hl
    subst hxs
    subst h0
    clear hA HH
    have kn := Lib.run_eql_slice_nil (P := Try.prog) w 39 9 none 0 0 0 0 Try.underlying39
    go_enter Try.func44, Try.ntmps44
    go_wp2
    go_ret
    exact ⟨_, fun _ => False, rfl, Rd.nil' (by simp [maxLen]) (fun _ => rfl), (fun g off n cap e hn => by cases e), (fun i h => h.elim), Below.refl _ _⟩
  · clear hA
    have kn := Lib.run_eql_slice_nil (P := Try.prog) w 39 9 (some a) ks.length cap 0 0 Try.underlying39
    go_enter Try.func44, Try.ntmps44
    go_wp2_with (at_builtin; refine wpList_app w.heap.size tS (fresh w _ (Nat.le_refl _) _) (rd_src Try.underlying39 (Rd.below HH.out ((Below.refl _ _).alloc (Nat.le_refl _) _)) (by omega) (strs_one _)) (by simp) (by unfold maxLen; omega) (by omega) rfl rfl rfl rfl ?_)
    intro v2 w2 ho2 hg2
    have hb2 : Below w.heap.size w w2 := below_grown ((Below.refl _ w).alloc (Nat.le_refl _) _) (fresh w _ (Nat.le_refl _) 9) hg2 (by simp)
    obtain ⟨F, hF1, hF2⟩ := own_in ho2
    have hr := own_rd ho2
    clear ho2 hg2 HH
    have HR := Lib.hid hr; clear hr
    go_wp2
    go_ret
    exact ⟨_, F, rfl, HR.out, hF1, hF2, hb2⟩

/-- A result that a call hands back: in blocks of its own. -/
structure ResN (w : World) (r : ResC) (e : Ending) (w' : World) : Prop where
  out : ∃ v, ∃ F : Foot, e = .returned v ∧ ResR w' v r F ∧ (∀ i, F i → w.heap.size ≤ i) ∧ Below w.heap.size w w'
theorem bcell {W w1 : World} (hb : Below W.heap.size W w1) : (∀ b o, b < W.heap.size → w1.cell? ⟨b, o, none⟩ = W.cell? ⟨b, o, none⟩) ∧ (∀ b o, b < W.heap.size → w1.frozen? ⟨b, o, none⟩ = W.frozen? ⟨b, o, none⟩) :=
  ⟨fun b o h => hb.cell (p := ⟨b, o, none⟩) h, fun b o h => hb.frozen (p := ⟨b, o, none⟩) h⟩
theorem cells5 {w : World} {g : Nat} {c0 c1 c2 c3 c4 : Value} {T : TypeId} (h : w.heap[g]? = some (.cells #[c0, c1, c2, c3, c4] T)) :
    w.cell? ⟨g, 0, none⟩ = some c0 ∧ w.cell? ⟨g, 1, none⟩ = some c1 ∧ w.cell? ⟨g, 2, none⟩ = some c2 ∧ w.cell? ⟨g, 3, none⟩ = some c3 ∧ w.cell? ⟨g, 4, none⟩ = some c4 ∧ ∀ o, w.frozen? ⟨g, o, none⟩ = false := by
  refine ⟨?_, ?_, ?_, ?_, ?_, fun o => ?_⟩ <;> simp [World.cell?, World.frozen?, h]
theorem cells9 {w : World} {g : Nat} {c0 c1 c2 c3 c4 c5 c6 c7 c8 : Value} {T : TypeId} (h : w.heap[g]? = some (.cells #[c0, c1, c2, c3, c4, c5, c6, c7, c8] T)) :
    w.cell? ⟨g, 0, none⟩ = some c0 ∧ w.cell? ⟨g, 1, none⟩ = some c1 ∧ w.cell? ⟨g, 2, none⟩ = some c2 ∧ w.cell? ⟨g, 3, none⟩ = some c3 ∧ w.cell? ⟨g, 4, none⟩ = some c4 ∧ w.cell? ⟨g, 5, none⟩ = some c5 ∧ w.cell? ⟨g, 6, none⟩ = some c6 ∧ w.cell? ⟨g, 7, none⟩ = some c7 ∧ w.cell? ⟨g, 8, none⟩ = some c8 ∧ ∀ o, w.frozen? ⟨g, o, none⟩ = false := by
  refine ⟨?_, ?_, ?_, ?_, ?_, ?_, ?_, ?_, ?_, fun o => ?_⟩ <;> simp [World.cell?, World.frozen?, h]
abbrev zres : Obj := .cells #[.int .i64 0, .int .u64 0, .slice none 0 0, .bool false, .slice none 0 0] 41
theorem two_new (w : World) (x y : Obj) : ((w.alloc x).alloc y).heap[w.heap.size]? = some x ∧ ((w.alloc x).alloc y).heap[w.heap.size + 1]? = some y := by
  constructor
  · rw [alloc_same (by simp)]; exact heap_alloc_new _ _
  · have := heap_alloc_new (w.alloc x) y
    simpa using this
theorem stored24 {w2 : World} {g : Nat} {c0 c1 c2 c3 c4 v1 v2 : Value} {T : TypeId} (h : w2.heap[g]? = some (.cells #[c0, c1, c2, c3, c4] T)) :
    Frm (fun i => i = g) w2 ((w2.setCell ⟨g, 2, none⟩ v1).setCell ⟨g, 4, none⟩ v2) ∧ ((w2.setCell ⟨g, 2, none⟩ v1).setCell ⟨g, 4, none⟩ v2).heap[g]? = some (.cells #[c0, c1, v1, c3, v2] T) := by
  refine ⟨Frm.setCell (Frm.setCell (Frm.refl (fun i => i = g) w2) (p := ⟨g, 2, none⟩) (.inl rfl) v1) (p := ⟨g, 4, none⟩) (.inl rfl) v2, ?_⟩
  simp [World.setCell, Array.getElem?_modify, h]
/-- A result laid into its cells, the last thing that a function does. -/
theorem post_set5 {P : Program} {fn : Func} {Q : Ending → World → Prop} {e : Exit} {a : Act} {w : World} {g : Nat} {c0 c1 c2 c3 c4 d0 d1 d2 d3 d4 : Value} {T : TypeId} (hb : w.heap[g]? = some (.cells #[d0, d1, d2, d3, d4] T))
    (h : ∀ w4, Frm (fun i => i = g) w w4 → w4.heap[g]? = some (.cells #[c0, c1, c2, c3, c4] T) → bodyPost P fn Q e a w4) :
    bodyPost P fn Q e a (((((w.setCell ⟨g, 0, none⟩ c0).setCell ⟨g, 1, none⟩ c1).setCell ⟨g, 2, none⟩ c2).setCell ⟨g, 3, none⟩ c3).setCell ⟨g, 4, none⟩ c4) := by
  refine h _ ?_ ?_
  · exact Frm.setCell (Frm.setCell (Frm.setCell (Frm.setCell (Frm.setCell (Frm.refl (fun i => i = g) w) (p := ⟨g, 0, none⟩) (.inl rfl) _) (p := ⟨g, 1, none⟩) (.inl rfl) _) (p := ⟨g, 2, none⟩) (.inl rfl) _) (p := ⟨g, 3, none⟩) (.inl rfl) _) (p := ⟨g, 4, none⟩) (.inl rfl) _
  · simp [World.setCell, Array.getElem?_modify, hb]
/-- The end of apart's walk. -/
theorem apart_end {w W0 w1 w2 w3 : World} {s u : Int} {m : Bool} {ks : List ByteArray} {xs : List UInt8} {v1 v2 : Value} {F1 F2 : Foot} (hb1 : Below W0.heap.size W0 w1) (hr1 : Rd w1 v1 ks.length 1 (ks.map Value.string)) (hi1 : InF v1 F1)
    (hl1 : ∀ i, F1 i → W0.heap.size ≤ i ∧ i < w1.heap.size) (hb2 : Below w1.heap.size w1 w2) (hr2 : Rd w2 v2 xs.length 1 (bvs xs)) (hi2 : InF v2 F2) (hl2 : ∀ i, F2 i → w1.heap.size ≤ i ∧ i < w2.heap.size)
    (hf : Frm (fun i => i = w.heap.size ∨ i = w.heap.size + 1) w2 w3) (hz : W0.heap.size = w.heap.size + 2 := by simp) (h0 : Below w.heap.size w W0 := by exact ((((Below.refl _ _).alloc (Nat.le_refl _) _).alloc (by simp) _).drew)) :
    ResN w ⟨s, u, ks, m, xs⟩ (.returned (.agg #[.int .i64 s, .int .u64 u, v1, .bool m, v2])) w3 := by
  have z1 := hb1.size
  have z2 := hb2.size
  have z3 := hf.size
  have keep : ∀ i, w.heap.size + 2 ≤ i → i < w2.heap.size → w3.heap[i]? = w2.heap[i]? := fun i hi hi2 => hf.block i hi2 (fun e => by omega)
  refine ⟨_, fun i => F1 i ∨ F2 i, rfl, ⟨v1, v2, rfl, ?_, hi1.mono (fun i h => .inl h), ?_, hi2.mono (fun i h => .inr h), fun i hi => ?_⟩, fun i hi => ?_, ?_⟩
  · exact Rd.framed hr1 hi1 (fun i hi => by
      have := hl1 i hi
      rw [keep i (by omega) (by omega), hb2.block i (by omega)])
  · exact Rd.framed hr2 hi2 (fun i hi => by
      have := hl2 i hi
      rw [keep i (by omega) (by omega)])
  · rcases hi with hi | hi
    · have := hl1 i hi; omega
    · have := hl2 i hi; omega
  · rcases hi with hi | hi
    · have := hl1 i hi; omega
    · have := hl2 i hi; omega
  · exact (h0.trans ((hb1.mono (by omega)).trans (hb2.mono (by omega)))).trans (hf.below (by omega) (fun i e => by omega))
set_option maxRecDepth 100000 in
set_option maxHeartbeats 2000000 in
theorem apart_walk {w : World} {s u : Int} {kv dv : Value} {m : Bool} {ks : List ByteArray} {xs : List UInt8} (hk : RdS w kv ks) (hd : RdB w dv xs) (h1 : ks.length ≤ 8796093022208) (h2 : xs.length ≤ 140737488355328) :
    Calls Try.prog 29 #[.agg #[.int .i64 s, .int .u64 u, kv, .bool m, dv]] w (ResN w ⟨s, u, ks, m, xs⟩) := by
  have HK := Lib.hid hk; clear hk
  have HD := Lib.hid hd; clear hd
  go_enter Try.func29, Try.ntmps29
  go_wp2
  go_region_with (first
      | (go_at_call 44; refine (cloneS_any _ ks _ (Rd.below HK.out ((((Below.refl _ _).alloc (Nat.le_refl _) _).alloc (by simp) _).drew)) h1).mono ?_; rintro e w1 ⟨⟨v1, F1, rfl, hr1, hi1, hl1, hb1⟩⟩; obtain ⟨A1, cap1, rfl, _, _, _⟩ := Rd.form hr1; have HE1 := Lib.hid ((hb1.block w.heap.size (by simp; omega)).trans (two_new _ _ _).1); have HE2 := Lib.hid ((hb1.block (w.heap.size + 1) (by simp)).trans (two_new _ _ _).2); have HB1 := Lib.hid hb1; have HR1 := Lib.hid hr1; clear hb1 hr1; obtain ⟨k0, k1, k2, k3, k4, kf⟩ := cells5 HE1.out; have hz1 : w.heap.size + 2 ≤ w1.heap.size := by have := HB1.out.size; simp at this; omega)
      | (go_at_call 45; refine (cloneB_any _ xs _ (Rd.below HD.out (((((Below.refl _ _).alloc (Nat.le_refl _) _).alloc (by simp) _).drew).trans (HB1.out.mono (by simp; omega)))) h2).mono ?_; rintro e w2 ⟨⟨v2, F2, rfl, hr2, hi2, hl2, hb2⟩⟩; obtain ⟨A2, cap2, rfl, _, _, _⟩ := Rd.form hr2; have HE3 := Lib.hid ((hb2.block w.heap.size (by omega)).trans HE1.out); have HE4 := Lib.hid ((hb2.block (w.heap.size + 1) (by omega)).trans HE2.out); have HB2 := Lib.hid hb2; have HR2 := Lib.hid hr2; clear hb2 hr2; obtain ⟨m0, m1, m2, m3, m4, mf⟩ := cells5 HE3.out; obtain ⟨n0, n1, n2, n3, n4, nf⟩ := cells5 HE4.out; have hz2 := HB2.out.size))
  all_goals
    clear k0 k1 k2 k3 k4 kf m0 m1 m2 m3 m4 mf n0 n1 n2 n3 n4 nf
    have HF0 := Lib.hid (stored24 (v1 := .slice A1 ks.length cap1) (v2 := .slice A2 xs.length cap2) HE3.out)
    generalize (w2.setCell ⟨w.heap.size, 2, none⟩ (.slice A1 ks.length cap1)).setCell ⟨w.heap.size, 4, none⟩ (.slice A2 xs.length cap2) = w3 at *
    obtain ⟨m0, m1, m2, m3, m4, mf⟩ := cells5 HF0.out.2
    have HE5 := Lib.hid ((HF0.out.1.block (w.heap.size + 1) (by omega) (by omega)).trans HE4.out)
    obtain ⟨n0, n1, n2, n3, n4, nf⟩ := cells5 HE5.out
    go_wp2
    clear m0 m1 m2 m3 m4 mf n0 n1 n2 n3 n4 nf
    refine post_set5 HE5.out ?_
    intro w4 hf4 he6
    obtain ⟨p0, p1, p2, p3, p4, pf⟩ := cells5 he6
    exact bodyPost_ret (v := .agg #[.int .i64 s, .int .u64 u, .slice A1 ks.length cap1, .bool m, .slice A2 xs.length cap2]) (by simp [results, Try.results29, go_sem, p0, p1, p2, p3, p4]) rfl
      (apart_end HB1.out HR1.out hi1 hl1 HB2.out HR2.out hi2 hl2 ((HF0.out.1.mono (fun i _ h => .inl h)).trans hf4 (fun i h => .inl (.inr h))))
end Go.Proofs.Ytkbmecjpjphngaa
