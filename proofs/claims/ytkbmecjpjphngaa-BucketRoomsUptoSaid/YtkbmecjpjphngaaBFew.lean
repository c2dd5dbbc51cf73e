/-
  Few: are ops such that a play is worth its while?
-/
import Derived.Test.YtkbmecjpjphngaaBRun
import Derived.IntWalk
set_option linter.unusedVariables false
set_option linter.unusedSimpArgs false
namespace Go.Proofs.Ytkbmecjpjphngaa
open Go.RowKit Go.Maps

def opSz (o : OpC) : Nat := o.bucket.size + o.key.size + o.after.size + o.parts.length + o.data.length
def opsSz (l : List OpC) : Nat := (l.map opSz).sum
theorem opsSz_nil : opsSz [] = 0 := rfl
theorem opsSz_snoc (l : List OpC) (o : OpC) : opsSz (l ++ [o]) = opsSz l + opSz o := by simp [opsSz]
theorem opsSz_le (l : List OpC) (k : Nat) : opsSz (l.take k) ≤ opsSz l := by
  have h : ∀ a b : List OpC, opsSz (a ++ b) = opsSz a + opsSz b := fun a b => by simp [opsSz]
  have := h (l.take k) (l.drop k)
  rw [List.take_append_drop] at this
  omega
def fewB (l : List OpC) : Bool := decide (l.length ≤ 400) && decide (opsSz l ≤ 131072)
theorem fewB_no1 {l : List OpC} (h : 400 < l.length) : fewB l = false := by simp [fewB]; omega
theorem fewB_no2 {l : List OpC} (h : 131072 < opsSz l) : fewB l = false := by simp [fewB]; omega
theorem fewB_yes {l : List OpC} (h1 : l.length ≤ 400) (h2 : opsSz l ≤ 131072) : fewB l = true := by simp [fewB, h1, h2]
theorem i64w {a : Int} (h0 : 0 ≤ a) (h : a ≤ 4611686018427387904) : IntKind.i64.wrap a = a := IntWalk.i64_in _ (by omega)
theorem ret_bool {a b : Bool} (h : b = a) : Ending.returned (.bool a) = .returned (.bool b) := by rw [h]
structure FewI (w : World) (os : List OpC) (k : Nat) (n : Value) (wr : World) : Prop where
  out : ∃ a : Nat, n = .int .i64 a ∧ a = opsSz (os.take k) ∧ Below w.heap.size w wr
set_option maxRecDepth 100000 in
set_option maxHeartbeats 4000000 in
theorem few_any {w : World} {v : Value} {os : List OpC} (h : OpsR w v os) (hb : opsSz os ≤ 1000000000) :
    Calls Try.prog 15 #[v] w fun e w' => e = .returned (.bool (fewB os)) ∧ Below w.heap.size w w' := by
  obtain ⟨A, cap, rfl, hcap, hcm, hat⟩ := h
  have HAT := Lib.hid hat; clear hat
  have HB := Lib.hid hb
  unfold maxLen at hcm
  go_enter Try.func15, Try.ntmps15
  go_wp2
  go_loopw [3, 4] (fun n i wr => ∃ k : Nat, k ≤ os.length ∧ i = .int .i64 k ∧ FewI w os k n wr) (fun _ i _ => os.length - (intOf i).toNat)
  case atStart => exact ⟨0, Nat.zero_le _, rfl, ⟨0, rfl, by simp [opsSz], Below.refl _ _⟩⟩
  case round =>
    obtain ⟨k, hk, rfl, hri⟩ := hrel
    obtain ⟨a, rfl, ha, hbl⟩ := hri.out
    have HA := Lib.hid ha
    have HBL := Lib.hid hbl
    clear hri ha hbl
    by_cases hlt : k < os.length
    · obtain ⟨g, off, c0, c1, c2, c3, c4, c5, c6, c7, c8, rfl, ⟨pv, dv, e, hpv, hdv, _⟩, x0, x1, x2, x3, x4, x5, x6, x7, x8⟩ := HAT.out k hlt
      cases e
      obtain ⟨A1, r1, rfl, q1, q2, _⟩ := Rd.form hpv
      obtain ⟨A2, r2, rfl, q3, q4, _⟩ := Rd.form hdv
      have ho : opsSz (os.take (k + 1)) = a + (os[k].bucket.size + os[k].key.size + os[k].after.size + os[k].parts.length + os[k].data.length) := by
        rw [take_snoc os k hlt, opsSz_snoc, HA.out]; rfl
      have hle := opsSz_le os (k + 1)
      have HO := Lib.hid ho
      have hgl : g < w.heap.size := World.block_lt_of_cell? _ _ x0
      have y2 := (HBL.out.cell (p := ⟨g, off + k * 9 + 2, none⟩) hgl).trans x2
      have y3 := (HBL.out.cell (p := ⟨g, off + k * 9 + 3, none⟩) hgl).trans x3
      have y4 := (HBL.out.cell (p := ⟨g, off + k * 9 + 4, none⟩) hgl).trans x4
      have y7 := (HBL.out.cell (p := ⟨g, off + k * 9 + 7, none⟩) hgl).trans x7
      have y8 := (HBL.out.cell (p := ⟨g, off + k * 9 + 8, none⟩) hgl).trans x8
      clear hpv hdv x0 x1 x2 x3 x4 x5 x6 x7 x8
      generalize os[k].bucket = b2 at *
      generalize os[k].key = b3 at *
      generalize os[k].after = b4 at *
      generalize os[k].parts.length = n7 at *
      generalize os[k].data.length = n8 at *
      have s2 : IntKind.i64.wrap ((a : Int) + (b2.size : Int)) = (a : Int) + (b2.size : Int) := i64w (by omega) (by omega)
      have s3 : IntKind.i64.wrap ((a : Int) + (b2.size : Int) + (b3.size : Int)) = (a : Int) + (b2.size : Int) + (b3.size : Int) := i64w (by omega) (by omega)
      have s4 : IntKind.i64.wrap ((a : Int) + (b2.size : Int) + (b3.size : Int) + (b4.size : Int)) = (a : Int) + (b2.size : Int) + (b3.size : Int) + (b4.size : Int) := i64w (by omega) (by omega)
      have s7 : IntKind.i64.wrap ((a : Int) + (b2.size : Int) + (b3.size : Int) + (b4.size : Int) + (n7 : Int)) = (a : Int) + (b2.size : Int) + (b3.size : Int) + (b4.size : Int) + (n7 : Int) := i64w (by omega) (by omega)
      have s8 : IntKind.i64.wrap ((a : Int) + (b2.size : Int) + (b3.size : Int) + (b4.size : Int) + (n7 : Int) + (n8 : Int)) = (a : Int) + (b2.size : Int) + (b3.size : Int) + (b4.size : Int) + (n7 : Int) + (n8 : Int) := i64w (by omega) (by omega)
      clear ho hle hb
      go_wp2
      go_quiet (fail)
      clear s2 s3 s4 s7 s8
      go_wp2
      go_roundw
      case rel => exact ⟨k + 1, by omega, by go_num, ⟨_, i64v (by rw [← Int.natCast_add, ← Int.natCast_add, ← Int.natCast_add, ← Int.natCast_add, ← Int.natCast_add]), by rw [HO.out]; omega, HBL.out.trans ((drewN_below _ _).mono HBL.out.size)⟩⟩
      case measure => simp [intOf]; omega
    · obtain rfl : k = os.length := by omega
      have ha := HA.out
      rw [List.take_length] at ha
      by_cases h1 : os.length ≤ 400
      · have h1' : (os.length : Int) ≤ 400 := by omega
        by_cases h2 : a ≤ 131072
        · have h2' : (a : Int) ≤ 131072 := by omega
          have HF := Lib.hid (fewB_yes h1 (by omega))
          clear ha h1 h2
          go_wp2
          go_ret
          exact ⟨ret_bool HF.out, HBL.out⟩
        · have h2' : ¬ (a : Int) ≤ 131072 := by omega
          have HF := Lib.hid (fewB_no2 (l := os) (by omega))
          clear ha h1 h2
          go_wp2
          go_ret
          exact ⟨ret_bool HF.out, HBL.out⟩
      · have h1' : ¬ (os.length : Int) ≤ 400 := by omega
        have HF := Lib.hid (fewB_no1 (l := os) (by omega))
        clear ha h1
        go_wp2
        go_ret
        exact ⟨ret_bool HF.out, HBL.out⟩
end Go.Proofs.Ytkbmecjpjphngaa
