/-
  The walks of the machine's methods: put.
-/
import Derived.Test.YtkbmecjpjphngaaBW2
import Derived.Deep.RegionLaw
set_option linter.unusedVariables false
set_option linter.unusedSimpArgs false
namespace Go.Proofs.Ytkbmecjpjphngaa
open Go.RowKit Go.Maps
attribute [local go_sem ↓] Go.wp_at_zero Go.wp_at_succ

/-- A method that ends with a result of its own making. -/
theorem done_gen {N : Nat} {w w3 w4 w5 : World} {p v : Value} {F F' Fr : Foot} {S' : StC} {r : ResC} (hM : Mach (N + 1) w3 p S' F') (hF : Frm F w w3) (hF' : ∀ i, F' i → F i ∨ w.heap.size + 2 ≤ i) (hl : ∀ i, F i → i < w.heap.size)
    (hb4 : Below w3.heap.size w3 w4) (hr : ResR w4 v r Fr) (hFr : ∀ i, Fr i → w3.heap.size ≤ i) (hf5 : Frm (fun i => i = w.heap.size + 1) w4 w5) (hz : w.heap.size + 2 ≤ w3.heap.size := by omega) : DoneR N w p F r S' (.returned v) w5 := by
  have z4 := hb4.size
  have z3 := hF.size
  refine ⟨_, Fr, F', rfl, resR.framed hr (fun i hi => ?_), fun i hi => ⟨?_, fun e => ?_⟩, ?_, fun i hi => ?_, ?_⟩
  · have := hFr i hi
    exact hf5.block i (resR.lower hr i hi) (fun e => by omega)
  · have := hFr i hi; omega
  · have := hFr i hi; have := hM.lower i e; omega
  · refine (hM.framed (w' := w4) (fun i hi => hb4.block i (hM.lower i hi))).framed (fun i hi => hf5.block i (by have := hM.lower i hi; omega) (fun e => ?_))
    rcases hF' i hi with h | h
    · have := hl i h; omega
    · omega
  · rcases hF' i hi with h | h
    · exact .inl h
    · exact .inr (by omega)
  · exact (hF.trans (Frm.of_below hb4 F) (fun i h => .inl h)).trans hf5 (fun i h => .inr (by omega))
theorem drewN_heap (w : World) (n : Nat) : (w.drewN n).heap = w.heap := by
  induction n generalizing w with
  | zero => rfl
  | succ n ih => rw [← World.drew_drewN]; exact ih w
theorem two_old {w : World} {x y : Obj} {n i : Nat} (h : i < w.heap.size) : (((w.alloc x).alloc y).drewN n).heap[i]? = w.heap[i]? := by
  rw [drewN_heap, alloc_same (by simp; omega), alloc_same h]
theorem machat_drew {N : Nat} {w : World} {g B U D : Nat} {S : StC} {FB FU FD F : Foot} (h : MachAt N w g B U D S FB FU FD F) : MachAt N w.drew g B U D S FB FU FD F := h.framed fun i hi => rfl
/-- Behind the clone, ahead of the store. -/
theorem put_mid {w1 w2 : World} {F F2 : Foot} {v2 : Value} {data : List UInt8} {Rn : Value → World → Prop} {MM : List UInt8 → World → Foot → Prop} {M : Nat} {b : Nat}
    (hp : Frm (fun _ => False) w1 w2 → ∀ v xs Fv, BytesR w2 v xs Fv → (∀ i, Fv i → w1.heap.size ≤ i) → xs.length ≤ M → ∃ w3, Rn v w3 ∧ ∃ F', MM xs w3 F' ∧ (∀ i, F' i → F i ∨ Fv i) ∧ Frm F w1 w3 ∧ w2.mapTurned w3 b)
    (hr2 : Rd w2 v2 data.length 1 (bvs data)) (hi2 : InF v2 F2) (hlo2 : ∀ i, F2 i → w1.drew.heap.size ≤ i ∧ i < w2.heap.size) (hb2 : Below w1.drew.heap.size w1.drew w2) (hx : data.length ≤ M) :
    (∀ g j u, w1.cell? ⟨g, j, none⟩ = some u → w2.cell? ⟨g, j, none⟩ = some u) ∧ (∀ i, i < w1.heap.size → w2.heap[i]? = w1.heap[i]?) ∧ ∃ w3, Rn v2 w3 ∧ ∃ F3, Hid (MM data w3 F3) ∧ Hid ((∀ i, F3 i → F i ∨ w1.heap.size ≤ i) ∧ Frm F w1 w3) ∧ ∀ a, w3.cell? a = w2.cell? a := by
  have hf : Frm (fun _ => False) w1 w2 := ⟨hb2.os, hb2.tape, hb2.output, hb2.size, fun i hi _ => hb2.block i hi⟩
  obtain ⟨w3, h1, F', h2, h3, h4, h5⟩ := hp hf v2 data F2 ⟨hr2, hi2, fun i hi => (hlo2 i hi).2⟩ (fun i hi => (hlo2 i hi).1) hx
  exact ⟨fun g j u hu => cell_below (w := w1) ⟨hb2.os, hb2.tape, hb2.output, hb2.size, hb2.block⟩ _ _ hu, fun i hi => hb2.block i hi, w3, h1, F', h2, ⟨fun i hi => by rcases h3 i hi with e | e; exact .inl e; exact .inr (hlo2 i e).1, h4⟩, turned_cell h5⟩
set_option maxRecDepth 100000 in
set_option maxHeartbeats 4000000 in
theorem put_some {N : Nat} {w : World} {p v : Value} {S : StC} {F : Foot} {o : OpC} (h : Mach N w p S F) (ho : OpR w v o) {c : Bk} (hc : S.bs (sk o.bucket) = some c) (hN : N < maxLen) (hx : o.data.length ≤ 16777216) :
    Calls Try.prog 48 #[p, v] w (DoneR N w p F (stat 200) { S with bs := upd S.bs (sk o.bucket) (some (upd c (sk o.key) (some o.data))) }) := by
  have hk := known_any (mach_two h (.cells v.cells 26) zres) (ho.cells (cell_two (.cells v.cells 26) zres))
  rw [hc] at hk
  have HK := Lib.hid hk; clear hk
  have HC := Lib.hid hc; clear hc
  obtain ⟨g, B, U, D, FB, FU, FD, rfl, hm⟩ := h.at_
  have HM := Lib.hid hm; clear hm h
  obtain ⟨pv, dv, rfl, _, hdv, _, _, _, _, _, hs, hks, _⟩ := ho
  have HD := Lib.hid hdv; clear hdv
  have hgl := block_lt HM.out.cells
  go_enter Try.func48, Try.ntmps48
  go_wp2_with fail
  refine HK.out.mono ?_
  rintro e w1 ⟨rfl, hb1⟩
  have HB1 := Lib.hid hb1; clear hb1
  have HM1 := Lib.hid (HM.out.two HB1.out)
  have HO1 := Lib.hid ((HB1.out.block w.heap.size (by simp; omega)).trans (two_new _ _ _).1)
  obtain ⟨o0, o1, o2, o3, o4, o5, o6, o7, o8, of⟩ := cells9 HO1.out
  clear o0 o1 o4 o5 o6 o7 of
  obtain ⟨g1, g2, g3⟩ := mach_cells HM1.out.cells
  clear g2 g3
  have hz1 : w.heap.size + 2 ≤ w1.heap.size := by have := HB1.out.size; simp at this; omega
  have hz2 : w.heap.size < w1.heap.size := by omega
  have hz3 : g < w1.heap.size := by omega
  obtain ⟨b, Fj, hl, hput⟩ := HM1.out.put hs hks hN HC.out
  have HL := Lib.hid hl; clear hl
  have HP := Lib.hid hput; clear hput
  have hl1 := HL.out w1.drew rfl
  have hxx : o.data.length ≤ 167772160000 := by omega
  have hB1 : B < w1.heap.size := HM1.out.mb.lower B HM1.out.mb.own
  have HD1 := Lib.hid (Rd.below HD.out (((((Below.refl _ _).alloc (Nat.le_refl _) (.cells (Value.agg #[.int .u64 o.id, .int .i64 o.kind, .string o.bucket, .string o.key, .string o.after, .int .i64 o.n, .int .u64 o.up, pv, dv]).cells 26)).alloc (by simp) zres)).trans (HB1.out.mono (by simp; omega))))
  go_wp2
  go_region_held3 (fun w' => w'.cell? ⟨g, 0, none⟩ = some (.map (some B)) ∧ w'.cell? ⟨w.heap.size, 2, none⟩ = some (.string o.bucket) ∧ w'.cell? ⟨w.heap.size, 3, none⟩ = some (.string o.key) ∧ w'.cell? ⟨w.heap.size, 8, none⟩ = some dv) (first | go_keep | exact ⟨e0, e2, e3, e8⟩ | (rw [hct, hct, hct, hct]; exact ⟨e0, e2, e3, e8⟩))
    (first
      | (go_at_call 45; refine (cloneB_any _ o.data _ (Rd.below HD1.out (Below.refl _ _).drew) (by omega)).mono ?_; rintro e w2 ⟨⟨v2, F2, rfl, hr2, hi2, hlo2, hb2⟩⟩; obtain ⟨hcc, hhe, w3, hru, F3, HM3, HF3, hct⟩ := put_mid (HP.out w2) hr2 hi2 hlo2 hb2 hxx; have e0 := hcc _ _ _ g1; have e2 := hcc _ _ _ o2; have e3 := hcc _ _ _ o3; have e8 := hcc _ _ _ o8; have hl2 := HL.out w2 (hhe B hB1); clear hcc hhe hr2 hi2 hlo2 hb2)
      | fail)
  all_goals
    clear hl1 hl2 hru hct e0 e2 e3 e8 o2 o3 o8 g1
    go_wp2_with fail
    refine (status_any _ _).mono ?_
    rintro e w4 ⟨rfl, hb4⟩
    have HB4 := Lib.hid hb4; clear hb4
    have HE := Lib.hid (zres_keep HM.out.lower HB1.out HF3.out.2 HB4.out)
    obtain ⟨n0, n1, n2, n3, n4, nf⟩ := cells5 HE.out
    go_wp2
    clear n0 n1 n2 n3 n4 nf
    refine post_set5 HE.out ?_
    intro w5 hf5 he6
    obtain ⟨p0, p1, p2, p3, p4, pf⟩ := cells5 he6
    exact bodyPost_ret (v := statV 200) (by simp [results, Try.results48, go_sem, p0, p1, p2, p3, p4]) rfl (done_two HM.out.lower HB1.out HM3.out HF3.out.1 HF3.out.2 HB4.out hf5)
end Go.Proofs.Ytkbmecjpjphngaa
