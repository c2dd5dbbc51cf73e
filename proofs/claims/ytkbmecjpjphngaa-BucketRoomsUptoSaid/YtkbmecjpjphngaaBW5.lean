/-
  unmake: the loop over the uploads.
-/
import Derived.Test.YtkbmecjpjphngaaBW4
set_option linter.unusedVariables false
set_option linter.unusedSimpArgs false
namespace Go.Proofs.Ytkbmecjpjphngaa
open Go.RowKit Go.Maps
attribute [local go_sem ↓] Go.wp_at_zero Go.wp_at_succ

/-- Is a bucket in use? -/
def Used (S : StC) (s : ByteArray) (c : Bk) : Prop := (∃ k, c k ≠ none) ∨ ∃ id u, S.us id = some u ∧ u.bucket = s
/-- .. as far as the uploads have been gone over. -/
def UsedSo (S : StC) (s : ByteArray) (n : Nat) (left : Lit → Bool) : Prop := 0 < n ∨ ∃ id u, S.us id = some u ∧ left id = false ∧ u.bucket = s

theorem toList_data (s : ByteArray) : s.toList = s.data.toList := by
  conv => lhs; rw [← str_of s]
  exact str_list _
theorem toList_beq (s t : ByteArray) : (s.toList == t.toList) = true ↔ s = t := by
  rw [beq_iff_eq, toList_data, toList_data]
  refine ⟨fun h => ?_, fun h => by rw [h]⟩
  rw [← str_of s, ← str_of t, h]
theorem ranges_drewN {P : Program} {k : TypeId} {w : World} {b r n m : Nat} {D : DataW Value} {left : Lit → Bool} {cnt : Nat} (h : w.ranges P k hold b r n D left cnt) : (w.drewN m).ranges P k hold b r n D left cnt := by
  unfold World.ranges at h ⊢
  rw [drewN_heap]
  exact h
theorem left_drewN (w : World) (b r m : Nat) : (w.drewN m).rangeLeft b r = w.rangeLeft b r := by
  unfold World.rangeLeft
  rw [drewN_heap]
theorem usedSo_start {S : StC} {s : ByteArray} {n : Nat} {left : Lit → Bool} (h : ∀ k, left k = (S.us k).isSome) : UsedSo S s n left ↔ 0 < n := by
  refine ⟨fun hu => ?_, .inl⟩
  rcases hu with hu | ⟨id, u, h1, h2, _⟩
  · exact hu
  · rw [h, h1] at h2; cases h2
theorem usedSo_step {S : StC} {s : ByteArray} {n : Nat} {left : Lit → Bool} {kl : Lit} {u : UplC} (hu : S.us kl = some u) (hk : kl.sameKey kl = true) :
    UsedSo S s n (fun z => left z && !z.sameKey kl) ↔ UsedSo S s n left ∨ u.bucket = s := by
  constructor
  · rintro (h | ⟨id, u', h1, h2, h3⟩)
    · exact .inl (.inl h)
    · cases hl : left id with
      | false => exact .inl (.inr ⟨id, u', h1, hl, h3⟩)
      | true =>
        have e : id = kl := WideAt.sameKey_eq (by simpa [hl] using h2)
        subst e
        rw [hu] at h1
        cases h1
        exact .inr h3
  · rintro ((h | ⟨id, u', h1, h2, h3⟩) | h)
    · exact .inl h
    · exact .inr ⟨id, u', h1, by simp [h2], h3⟩
    · exact .inr ⟨kl, u, hu, by simp [hk], h⟩
theorem usedSo_end {S : StC} {s : ByteArray} {n : Nat} {left : Lit → Bool} {c : Bk} (hn : n = 0 ↔ ∀ k, c k = none) (h : ∀ k, left k = false) : UsedSo S s n left ↔ Used S s c := by
  unfold UsedSo Used
  have h1 : 0 < n ↔ ∃ k, c k ≠ none := by
    rw [Nat.pos_iff_ne_zero, ne_eq, hn]
    exact Classical.not_forall
  rw [h1]
  constructor
  · rintro (h | ⟨id, u, a, _, b⟩)
    · exact .inl h
    · exact .inr ⟨id, u, a, b⟩
  · rintro (h' | ⟨id, u, a, b⟩)
    · exact .inl h'
    · exact .inr ⟨id, u, a, h id, b⟩
set_option maxRecDepth 100000 in
set_option maxHeartbeats 4000000 in
theorem unmake_some {N : Nat} {w : World} {p v : Value} {S : StC} {F : Foot} {o : OpC} (h : Mach N w p S F) (ho : OpR w v o) {c : Bk} (hc : S.bs (sk o.bucket) = some c) :
    Calls Try.prog 47 #[p, v] w fun e w' => (Used S o.bucket c → DoneR N w p F (stat 409) S e w') ∧ (¬ Used S o.bucket c → DoneR N w p F (stat 200) { S with bs := upd S.bs (sk o.bucket) none } e w') := by
  have hk := known_any (mach_two h (.cells v.cells 26) zres) (ho.cells (cell_two (.cells v.cells 26) zres))
  rw [hc] at hk
  have HK := Lib.hid hk; clear hk
  have HC := Lib.hid hc; clear hc
  obtain ⟨g, B, U, D, FB, FU, FD, rfl, hm⟩ := h.at_
  have HM := Lib.hid hm; clear hm h
  obtain ⟨pv, dv, rfl, hpv, hdv, hwi, hwk, hwn, hwu, hwp, hs, hks, has⟩ := ho
  have HD := Lib.hid hdv; clear hdv
  have HPV := Lib.hid hpv; clear hpv hwp
  have hgl := block_lt HM.out.cells
  go_enter Try.func47, Try.ntmps47
  go_wp2_with fail
  refine HK.out.mono ?_
  rintro e w1 ⟨rfl, hb1⟩
  have HB1 := Lib.hid hb1; clear hb1
  have HM1 := Lib.hid (HM.out.two HB1.out)
  have HO1 := Lib.hid ((HB1.out.block w.heap.size (by simp; omega)).trans (two_new _ _ _).1)
  have hz1 : w.heap.size + 2 ≤ w1.heap.size := by have := HB1.out.size; simp at this; omega
  have hz2 : w.heap.size < w1.heap.size := by omega
  have hz3 : g < w1.heap.size := by omega
  obtain ⟨o0, o1, o2, o3, o4, o5, o6, o7, o8, of⟩ := cells9 HO1.out
  clear o0 o1 o3 o4 o5 o6 o7 o8 of
  obtain ⟨g1, g2, g3⟩ := mach_cells HM1.out.cells
  clear g3
  obtain ⟨b, n, hbl, hl, hlen, hn⟩ := HM1.out.count hs HC.out 3
  have HN := Lib.hid hn; clear hn
  have hl1 : ∀ n, (Instr.lookup 70 (.map (some B)) (.string o.bucket) false).run Try.prog (w1.drewN n) = .ok (.map (some b)) (w1.drewN n) := fun n => hl _ (by rw [drewN_heap])
  have hl2 : ∀ m, (Builtin.len_ #[86] 3 #[.map (some b)]).run Try.prog (w1.drewN m) = .ok (.int .i64 n) (w1.drewN m) := fun n => hlen _ (by rw [drewN_heap])
  clear hl hlen
  go_wp2
  go_quiet (fail)
  have HB2 := Lib.hid (drewN_below w1 nq)
  generalize w1.drewN nq = w2 at *
  have hw12 : ∀ i, i < w1.heap.size → w2.heap[i]? = w1.heap[i]? := HB2.out.block
  have HW := Lib.hid hw12; clear hw12
  have hz5 := HB2.out.size
  have HM2 := Lib.hid (HM1.out.framed (w' := w2) (fun i hi => HW.out i (HM1.out.lower i hi)))
  have HO2 := Lib.hid ((HW.out _ hz2).trans HO1.out)
  clear hl1 hl2 o2 g1 g2
  obtain ⟨o0, o1, o2, o3, o4, o5, o6, o7, o8, of⟩ := cells9 HO2.out
  clear o0 o1 o3 o4 o5 o6 o7 o8 of
  obtain ⟨g1, g2, g3⟩ := mach_cells HM2.out.cells
  clear g1 g3
  have hz6 : g < w2.heap.size := by omega
  generalize hu0 : decide (0 < n) = u0
  have HU0 := Lib.hid hu0; clear hu0
  obtain ⟨D0, hown, hhas, hent⟩ := HM2.out.range_u
  have HH := Lib.hid hhas; clear hhas
  have HEN := Lib.hid hent; clear hent
  go_wp2_with (first
    | (at_range; refine wpList_range_own _ rfl _ 71 rfl 22 120 Ku Try.underlying71 _ U N _ rfl hown ?_; intro w0 hrg0 hg0 hs0)
    | fail)
  go_frame
  have HR0 := Lib.hid hrg0; clear hrg0 hown hs0
  have HB0 : Hid (Below w2.heap.size w2 w0) := ⟨hg0.os, hg0.tape, hg0.output, hg0.size, fun i hi => hg0.block i hi (by simp)⟩
  clear hg0
  go_loopw [5] (fun u wr => ∃ (used : Bool) (left : Lit → Bool) (cnt : Nat), u = .bool used ∧ (used = true ↔ UsedSo S o.bucket n left) ∧ wr.ranges Try.prog 22 hold U w2.heap.size N D0 left cnt ∧ Below w2.heap.size w2 wr)
    (fun _ wr => wr.rangeLeft U w2.heap.size)
  case atStart => exact ⟨u0, _, _, rfl, (by rw [usedSo_start HH.out, ← HU0.out]; simp), HR0.out, HB0.out⟩
  case round =>
    obtain ⟨used, left, cnt, rfl, hus, hrg, hbr⟩ := hrel
    have HUS := Lib.hid hus; clear hus
    have HBR := Lib.hid hbr; clear hbr
    have HRG := Lib.hid hrg
    clear HR0 HB0 HU0 g2 o2
    go_wp2_with (first
      | (at_next; refine wpList_next_ranges _ rfl _ rfl 22 Ku hold (Value.int .u64) id (fun key kl hk => by obtain ⟨x, hx, _⟩ := Maps.keyOf_int_inv Try.underlying22 hk; exact ⟨x, hx⟩) (fun v _ _ => ⟨v, rfl⟩) U w2.heap.size N _ _ _ rfl hrg ?_ ?_)
      | fail)
    · intro hc0 hl0
      have HU := Lib.hid (HUS.out.trans (usedSo_end HN.out hl0)); clear HUS hrg hc0 hl0 HRG
      have hzr := HBR.out.size
      have hz8 : w.heap.size < wr.heap.size := by omega
      have hz9 : g < wr.heap.size := by omega
      have HMr := Lib.hid (HM2.out.framed (w' := wr) (fun i hi => HBR.out.block i (HM2.out.lower i hi)))
      have HEr := Lib.hid ((HBR.out.block (w.heap.size + 1) (by omega)).trans ((HW.out (w.heap.size + 1) (by omega)).trans ((HB1.out.block (w.heap.size + 1) (by simp)).trans (two_new _ _ _).2)))
      have HFr := Lib.hid ((frm_b HB1.out F).trans (F1 := fun _ => False) ((Frm.of_below HB2.out _).trans (Frm.of_below HBR.out (fun _ => False)) (fun i e => e.elim)) (fun i e => e.elim))
      cases used with
      | true =>
        go_wp2_with fail
        refine (status_any _ _).mono ?_
        rintro e w4 ⟨rfl, hb4⟩
        have HB4 := Lib.hid hb4; clear hb4
        have HE := Lib.hid ((HB4.out.block _ (by omega)).trans HEr.out)
        obtain ⟨n0, n1, n2, n3, n4, nf⟩ := cells5 HE.out
        go_wp2
        clear n0 n1 n2 n3 n4 nf
        refine post_set5 HE.out ?_
        intro w5 hf5 he6
        obtain ⟨p0, p1, p2, p3, p4, pf⟩ := cells5 he6
        refine bodyPost_ret (v := statV 409) (by simp [results, Try.results47, go_sem, p0, p1, p2, p3, p4]) rfl ?_
        exact ⟨fun _ => done_stat (HMr.out.mach.mono (Nat.le_succ N)) HFr.out (fun i hi => .inl hi) HM.out.lower HB4.out hf5, fun hn => absurd (HU.out.1 (by simp)) hn⟩
      | false =>
        have HOr := Lib.hid ((HBR.out.block _ (by omega)).trans HO2.out)
        obtain ⟨o0, o1, o2, o3, o4, o5, o6, o7, o8, of⟩ := cells9 HOr.out
        clear o0 o1 o3 o4 o5 o6 o7 o8 of
        obtain ⟨g1, g2, g3⟩ := mach_cells HMr.out.cells
        clear g2 g3
        obtain ⟨w3, hru, F3, hM3, hF3, hf3, hct⟩ := (machat_drew HMr.out).unmake hs 0
        have HM3 := Lib.hid hM3; clear hM3
        have HF3 : Hid (Frm F wr w3) := ⟨hf3.os, hf3.tape, hf3.output, hf3.size, hf3.block⟩
        clear hf3
        have hct' : ∀ a, w3.cell? a = wr.cell? a := hct
        have HX : Hid (∀ i, F3 i → F i ∨ w.heap.size + 2 ≤ i) := fun i hi => by
          rcases hF3 i hi with e | e
          · exact .inl e
          · exact .inr (by have : wr.heap.size ≤ i := e; omega)
        clear hF3
        go_wp2
        go_region_held3 (fun w' => w'.cell? ⟨g, 0, none⟩ = some (.map (some B)) ∧ w'.cell? ⟨w.heap.size, 2, none⟩ = some (.string o.bucket)) (first | go_keep | (rw [hct', hct']; exact ⟨g1, o2⟩)) ((refine step_delete (by rfl) _ _ _ _ (by rfl) (by rfl) (by rfl) hru ?_))
        clear hru o2 g1 hct hct'
        have hz10 := HF3.out.size
        go_wp2_with fail
        refine (status_any _ _).mono ?_
        rintro e w4 ⟨rfl, hb4⟩
        have HB4 := Lib.hid hb4; clear hb4
        have HE := Lib.hid ((HB4.out.block _ (by omega)).trans ((HF3.out.block _ (by omega) (fun e => by have := HM.out.lower _ e; omega)).trans HEr.out))
        obtain ⟨n0, n1, n2, n3, n4, nf⟩ := cells5 HE.out
        go_wp2
        clear n0 n1 n2 n3 n4 nf
        refine post_set5 HE.out ?_
        intro w5 hf5 he6
        obtain ⟨p0, p1, p2, p3, p4, pf⟩ := cells5 he6
        refine bodyPost_ret (v := statV 200) (by simp [results, Try.results47, go_sem, p0, p1, p2, p3, p4]) rfl ?_
        exact ⟨fun hu => absurd (HU.out.2 hu) (by simp), fun _ => done_stat HM3.out (HFr.out.trans HF3.out (fun i e => .inl e)) HX.out HM.out.lower HB4.out hf5⟩
    · intro x c kl yd yp w3 cnt3 hkey hlk hv hat hrg3 hlt hg3 hs3 hen
      obtain ⟨ug, u, mb, rfl, hu, hug⟩ := HEN.out kl c (yd, yp) hv hat
      have HB3 : Hid (Below w2.heap.size w2 w3) := HBR.out.grown hg3 (by have := HBR.out.size; omega) (fun k hk => by cases hk; exact Nat.le_refl _)
      have HST := Lib.hid (usedSo_step (s := o.bucket) (n := n) (left := left) hu (WideAt.sameKey_self (Ku.key hkey)))
      have HMS : Hid (w3.rangeLeft U w2.heap.size < wr.rangeLeft U w2.heap.size) := by
        show _ < _
        rw [hrg3.left_eq, hrg.left_eq]; exact hlt
      have HRG3 := Lib.hid hrg3
      have HUG := Lib.hid ((HB3.out.block ug (block_lt hug)).trans hug)
      have HO3 := Lib.hid ((HB3.out.block w.heap.size (by omega)).trans HO2.out)
      have hz11 := HB3.out.size
      have hz12 := block_lt hug
      clear hrg3 hrg hlk hv hat hlt hg3 hs3 hu hug hkey HRG
      obtain ⟨o0, o1, o2, o3, o4, o5, o6, o7, o8, of⟩ := cells9 HO3.out
      clear o0 o1 o3 o4 o5 o6 o7 o8 of
      obtain ⟨u0, u1, u2⟩ := cells3 HUG.out
      clear u1 u2
      have hz13 : w.heap.size < w3.heap.size := by omega
      have hz14 : ug < w3.heap.size := by omega
      cases used with
      | true =>
        go_wp2
        go_quiet (fail)
        go_wp2
        go_roundw
        case rel => exact ⟨true, _, cnt3, rfl, (by rw [HST.out]; exact ⟨fun _ => .inl (HUS.out.1 (by simp)), fun _ => rfl⟩), ranges_drewN HRG3.out, HB3.out.trans ((drewN_below _ _).mono (by omega))⟩
        case measure => rw [left_drewN]; exact HMS.out
      | false =>
        go_wp2
        go_quiet (fail)
        go_wp2
        go_roundw
        case rel => exact ⟨_, _, cnt3, rfl, (by rw [HST.out, toList_beq]; exact ⟨.inr, fun h => h.resolve_left (fun e => by have := HUS.out.2 e; simp at this)⟩), ranges_drewN HRG3.out, HB3.out.trans ((drewN_below _ _).mono (by omega))⟩
        case measure => rw [left_drewN]; exact HMS.out
end Go.Proofs.Ytkbmecjpjphngaa
