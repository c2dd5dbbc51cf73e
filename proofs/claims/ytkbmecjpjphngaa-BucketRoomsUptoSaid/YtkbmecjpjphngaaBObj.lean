/-
  Objects: the keys of a bucket, in order.
-/
import Derived.Test.YtkbmecjpjphngaaBStep
import Derived.Test.YtkbmecjpjphngaaBIter
import Derived.Lib.SmallJoins
set_option linter.unusedVariables false
set_option linter.unusedSimpArgs false
namespace Go.Proofs.Ytkbmecjpjphngaa
open Go.RowKit Go.Maps

theorem mapv_str {P : Program} {k : TypeId} {w : World} {b n : Nat} {f : Lit → Option Value} (h : MapV P k w b n f) (K : Keyed P k) (hk : P.underlying k = some .string) :
    ∃ D : DataW Value, w.ownsMap P k hold b n D ∧ (Go.strKeys D).Nodup ∧ ∀ x, x ∈ Go.strKeys D ↔ (f (.string x)).isSome = true := by
  obtain ⟨D, h, hf, hh⟩ := h
  obtain ⟨es, hD, hpw, _⟩ := h.entries K
  obtain ⟨es', hD', hko⟩ := h.keysOf
  obtain rfl : es = es' := by rw [hD] at hD'; simpa using hD'
  have hks : ∀ p ∈ es, ∃ x, p.1 = .string x := fun p hp => by
    obtain ⟨v, hv⟩ := hko p hp
    obtain ⟨x, _, hx, _⟩ := Maps.keyOf_str hk hv
    exact ⟨x, hx⟩
  refine ⟨D, h, ?_, fun x => ?_⟩
  · rw [hD]
    show (es.map fun p => Go.strOf p.1).Nodup
    refine List.pairwise_map.2 (hpw.imp_of_mem fun {p q} hp' hq' hne e => hne ?_)
    obtain ⟨a, ha⟩ := hks p hp'
    obtain ⟨b, hb⟩ := hks q hq'
    rw [ha, hb] at e ⊢
    exact congrArg _ e
  · have h1 : x ∈ Go.strKeys D ↔ Maps.has D (.string x) = true := by
      rw [hD, has_eq, List.any_eq_true]
      show x ∈ es.map (fun p => Go.strOf p.1) ↔ _
      rw [List.mem_map]
      constructor
      · rintro ⟨p, hp', rfl⟩
        obtain ⟨a, ha⟩ := hks p hp'
        exact ⟨p, hp', by rw [ha]; simp [Lit.sameKey, Go.strOf]⟩
      · rintro ⟨p, hp', hs⟩
        obtain ⟨a, ha⟩ := hks p hp'
        rw [ha] at hs
        exact ⟨p, hp', by rw [ha]; simpa [Lit.sameKey, Go.strOf] using hs⟩
    rw [h1, ← hf]
    cases hs : Maps.has D (.string x) with
    | false => rw [gt_none hs]; simp
    | true => obtain ⟨v, hv⟩ := hh _ hs; rw [gt_some hv]; simp
theorem isKeys_uniq {c : Bk} {l l' : List (List UInt8)} (h : IsKeys c l) (h' : IsKeys c l') : l = l' := by
  have nd : ∀ {l : List (List UInt8)}, l.Pairwise (fun x y => x < y) → l.Nodup := fun h => h.imp (fun {a b} hab e => by subst e; exact List.lt_irrefl _ hab)
  have hp : l.Perm l' := (List.perm_ext_iff_of_nodup (nd h.1) (nd h'.1)).2 fun x => (h.2 x).trans (h'.2 x).symm
  exact List.Perm.eq_of_pairwise (le := fun a b => a < b) (fun a b _ _ h1 h2 => absurd (List.lt_trans h1 h2) (List.lt_irrefl _)) h.1 h'.1 hp
theorem keysC_of {c : Bk} {l : List (List UInt8)} (h : IsKeys c l) : keysC c = l := by
  have he : ∃ l, IsKeys c l := ⟨l, h⟩
  unfold keysC
  rw [dif_pos he]
  exact isKeys_uniq (Classical.choose_spec he) h
theorem isKeys_sort {c : Bk} {ss : List (List UInt8)} (hn : ss.Nodup) (hm : ∀ x, x ∈ ss ↔ (c (.string x)).isSome = true) : IsKeys c (ss.mergeSort Go.leB) := by
  have tr : ∀ a b c : List UInt8, Go.leB a b = true → Go.leB b c = true → Go.leB a c = true := fun a b c h1 h2 => by simp only [Go.leB, decide_eq_true_eq] at *; exact List.le_trans h1 h2
  have tto : ∀ a b : List UInt8, (Go.leB a b || Go.leB b a) = true := fun a b => by simp only [Go.leB, Bool.or_eq_true, decide_eq_true_eq]; exact List.le_total a b
  refine ⟨?_, fun x => by rw [(List.mergeSort_perm ss Go.leB).mem_iff]; exact hm x⟩
  have h1 := List.pairwise_mergeSort tr tto ss
  have h2 : (ss.mergeSort Go.leB).Nodup := (List.mergeSort_perm ss Go.leB).nodup_iff.2 hn
  refine (h1.and h2).imp fun {a b} ⟨hab, hne⟩ => ?_
  simp only [Go.leB, decide_eq_true_eq] at hab
  exact Decidable.byContradiction fun h => hne (List.le_antisymm hab (List.not_lt.1 h))
theorem keysC_none : keysC (fun _ => none) = [] := keysC_of ⟨List.Pairwise.nil, fun k => by simp⟩
theorem keys_any (mb : Option Nat) (W : World) : Calls Try.prog 34 #[.map mb] W fun e w' => e = .returned (.func (.func 58) #[] #[.pointer (some ⟨W.heap.size, 0, none⟩)]) ∧ w' = W.alloc (.cells #[.map mb] 86) :=
  (callsIn_wide (n := 5)).1 (Try.maps_Keys_34 mb W)
/-- The keys of what stands at a name. -/
theorem sorted_any {N b : Nat} {w : World} {c : Bk} {F : Foot} (h : MapR Try.prog BytesR 9 w b N c F) (hN : N * 16 ≤ 140737488355328) :
    Calls Try.prog 33 #[.func (.func 58) #[] #[.pointer (some ⟨w.heap.size, 0, none⟩)]] (w.alloc (.cells #[.map (some b)] 86)) fun e w' => ∃ v, e = .returned v ∧ w'.ownsRow w.heap.size 9 1 v (keysC c).length ((keysC c).map encStr) ∧ Below w.heap.size w w' := by
  obtain ⟨gm, hv, hn, hs⟩ := h.vals
  obtain ⟨D, hown, hnd, hmem⟩ := mapv_str hv Ks Try.underlying9
  have hsz := hown.size_le
  refine ((callsIn_wide (n := 5)).1 (Try.slices_Sorted_keys_33_34 b N D hold w hown (by unfold maxLen; omega) (by omega))).mono ?_
  rintro e w' ⟨v, ss, rfl, hp, hrow, hnil, hb⟩
  have hk : keysC c = ss.mergeSort Go.leB := keysC_of (isKeys_sort (hp.nodup_iff.2 hnd) fun x => by
    rw [hp.mem_iff, hmem]
    cases hc : c (.string x) with
    | none => rw [hn _ hc]; exact Iff.rfl
    | some y => obtain ⟨u, hu, _⟩ := hs _ y hc; rw [hu]; rfl)
  refine ⟨v, rfl, ?_, ((Below.refl _ w).alloc (Nat.le_refl _) _).trans (hb.mono (by simp))⟩
  rw [hk]
  have hl : (ss.mergeSort Go.leB).length = ss.length := (List.mergeSort_perm ss Go.leB).length_eq
  rw [hl]
  exact Go.Joins.ownsRow_le hrow (by simp)
theorem sorted_nil (w : World) :
    Calls Try.prog 33 #[.func (.func 58) #[] #[.pointer (some ⟨w.heap.size, 0, none⟩)]] (w.alloc (.cells #[.map none] 86)) fun e w' => ∃ v, e = .returned v ∧ w'.ownsRow w.heap.size 9 1 v (keysC (fun _ => none)).length ((keysC (fun _ => none)).map encStr) ∧ Below w.heap.size w w' := by
  refine ((callsIn_wide (n := 5)).1 (Try.slices_Sorted_keys_nil_33_34 w)).mono ?_
  rintro e w' ⟨v, ss, rfl, rfl, hrow, hnil, hb⟩
  refine ⟨v, rfl, ?_, ((Below.refl _ w).alloc (Nat.le_refl _) _).trans (hb.mono (by simp))⟩
  rw [keysC_none]
  have h1 : w'.ownsRow (w.alloc (.cells #[.map none] 86)).heap.size 9 1 v 0 [] := by rw [List.mergeSort_nil] at hrow; exact hrow
  exact Go.Joins.ownsRow_le h1 (by simp)
set_option maxRecDepth 100000 in
set_option maxHeartbeats 2000000 in
theorem objects_any {N : Nat} {w : World} {p : Value} {S : StC} {F : Foot} {s : ByteArray} (h : Mach N w p S F) (hs : s.size ≤ maxLen) (hN : N * 16 ≤ 140737488355328) :
    Calls Try.prog 17 #[p, .string s] w fun e w' => ∃ v, e = .returned v ∧ w'.ownsRow w.heap.size 9 1 v (keysC ((S.bs (sk s)).getD (fun _ => none))).length ((keysC ((S.bs (sk s)).getD (fun _ => none))).map encStr) ∧ Below w.heap.size w w' := by
  obtain ⟨g, B, U, D, FB, FU, FD, rfl, hm⟩ := h.at_
  obtain ⟨gm, hv, hn, hsome⟩ := hm.mb.vals
  have hlk := hv.look Ks Try.underlying70 (z := .map none) (by rfl) (ks_of hs)
  obtain ⟨g1, g2, g3⟩ := mach_cells hm.cells
  have hgl := block_lt hm.cells
  clear g2 g3
  cases hc : S.bs (sk s) with
  | none =>
    rw [hn _ hc] at hlk
    have HS := Lib.hid (sorted_nil w)
    clear hv hn hsome hm h hc
    go_enter Try.func17, Try.ntmps17
    go_wp2_with (first
      | (go_at_call 34; refine (keys_any _ _).mono ?_; rintro e w' ⟨rfl, rfl⟩)
      | (go_at_call 33; refine HS.out.mono ?_; rintro e w' ⟨v, rfl, hrow, hb⟩)
      | fail)
    go_ret
    exact ⟨v, rfl, hrow, hb⟩
  | some c =>
    obtain ⟨u, hu, Fj, ⟨b, rfl, hbk⟩, _⟩ := hsome _ c hc
    rw [hu] at hlk
    have HS := Lib.hid (sorted_any hbk hN)
    clear hv hn hsome hm h hc hbk hu
    go_enter Try.func17, Try.ntmps17
    go_wp2_with (first
      | (go_at_call 34; refine (keys_any _ _).mono ?_; rintro e w' ⟨rfl, rfl⟩)
      | (go_at_call 33; refine HS.out.mono ?_; rintro e w' ⟨v, rfl, hrow, hb⟩)
      | fail)
    go_ret
    exact ⟨v, rfl, hrow, hb⟩
end Go.Proofs.Ytkbmecjpjphngaa
