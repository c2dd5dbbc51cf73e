/-
  Maps whose elements are values of any kind: what a map's block holds, as a function of the key; maps of maps, of slices, of structs, with the blocks that such a reading goes through.
-/
import Derived.WalkKit
import Derived.Maps.OwnSet
import Derived.Maps.RangeWalk
import Derived.Lib.Hide
set_option linter.unusedVariables false
set_option linter.unusedSimpArgs false
namespace Go.Proofs.Ytkbmecjpjphngaa
open Go.RowKit Go.Maps

/-- An element is held as it stands. -/
def hold (v : Value) : Option (DataW Value × List MemPlace) := some (.held v, [])
def unhold : DataW Value → Option Value
  | .held v => some v
  | _ => none
/-- What stands at a key. -/
def gt (D : DataW Value) (k : Lit) : Option Value := unhold (D.atKey k .nil)
theorem gt_has {D : DataW Value} {k : Lit} (h : ∃ v, ∀ z, D.atKey k z = .held v) : Maps.has D k = true := by
  obtain ⟨v, h⟩ := h
  exact Maps.has_true_of_atKey h
/-- A function with one place turned. -/
noncomputable def upd {C : Type} (f : Lit → Option C) (k : Lit) (x : Option C) : Lit → Option C := fun j => @ite _ (j = k) (Classical.propDecidable _) x (f j)
theorem upd_same {C : Type} (f : Lit → Option C) (k : Lit) (x : Option C) : upd f k x k = x := by simp [upd]
theorem upd_other {C : Type} (f : Lit → Option C) {k j : Lit} (x : Option C) (h : j ≠ k) : upd f k x j = f j := by simp [upd, h]

/-- Block b is a map of at most n entries that holds f. -/
def MapV (P : Program) (k : TypeId) (w : World) (b n : Nat) (f : Lit → Option Value) : Prop :=
  ∃ D : DataW Value, w.ownsMap P k hold b n D ∧ (∀ j, gt D j = f j) ∧ ∀ j, Maps.has D j = true → ∃ v, ∀ z, D.atKey j z = .held v

section
variable {P : Program} {k : TypeId} {w : World} {b n : Nat} {f : Lit → Option Value}

theorem at_held {D : DataW Value} (h : w.ownsMap P k hold b n D) (j : Lit) (hj : Maps.has D j = true) : ∃ v, ∀ z, D.atKey j z = .held v := by
  obtain ⟨es, clock, hb, F, _, rfl⟩ := h
  obtain ⟨p, hp, hpk⟩ := List.any_eq_true.1 hj
  obtain ⟨x, hx, rfl⟩ := List.mem_map.1 (mem_sorted.1 hp)
  have hs : (((es.toList.map (WideElems.rg P k hold)).foldr DataW.insert []).find? (fun p => p.1.sameKey j)).isSome = true := List.find?_isSome.2 ⟨_, hp, hpk⟩
  obtain ⟨y, hy⟩ := Option.isSome_iff_exists.1 hs
  have hym := List.mem_of_find?_eq_some hy
  obtain ⟨x', hx', rfl⟩ := List.mem_map.1 (mem_sorted.1 hym)
  obtain ⟨z, hz⟩ := F.reads x' hx'
  obtain ⟨d, hd, hd2⟩ := WideElems.rd_val hz
  refine ⟨x'.val, fun z0 => ?_⟩
  simp only [DataW.atKey, hy]
  rw [WideElems.rg_of hz, hd2]
  simp only [hold, Option.some.injEq] at hd
  rw [← hd]

theorem MapV.of {D : DataW Value} (h : w.ownsMap P k hold b n D) : MapV P k w b n (gt D) := ⟨D, h, fun _ => rfl, fun j hj => at_held h j hj⟩

theorem gt_none {D : DataW Value} {j : Lit} (h : Maps.has D j = false) : gt D j = none := by
  unfold gt; rw [Maps.atKey_of_not_has h]; rfl
theorem gt_some {D : DataW Value} {j : Lit} {v : Value} (h : ∀ z, D.atKey j z = .held v) : gt D j = some v := by
  unfold gt; rw [h]; rfl

theorem MapV.lt (h : MapV P k w b n f) : b < w.heap.size := by
  obtain ⟨D, h, _⟩ := h
  exact h.lt
theorem MapV.mono (h : MapV P k w b n f) {n' : Nat} (hn : n ≤ n') : MapV P k w b n' f := by
  obtain ⟨D, h, r⟩ := h
  exact ⟨D, h.mono hn, r⟩
theorem MapV.made (P : Program) (k : TypeId) (w : World) {b : Nat} (hb : b = w.heap.size) : MapV P k (w.alloc (.map #[] 0)) b 0 (fun _ => none) :=
  hb ▸ ⟨.map [], World.ownsMap_made w P k hold, fun j => rfl, fun j hj => by simp [Maps.has] at hj⟩
/-- It stays while its own block does. -/
theorem MapV.same {w' : World} (h : MapV P k w b n f) (hg : w'.heap[b]? = w.heap[b]?) : MapV P k w' b n f := by
  obtain ⟨D, ⟨es, clock, hb, r⟩, r'⟩ := h
  exact ⟨D, ⟨es, clock, hg.trans hb, r⟩, r'⟩

/-- 'm[x]'. -/
theorem MapV.look {t e : TypeId} (h : MapV P k w b n f) (K : Keyed P k) (ht : P.underlying t = some (.map k e)) {z : Value} (hz : (zeroValue e).run P w = .ok z w) {key : Value} {kl : Lit} (hkey : keyOf P k key = some kl) :
    (Instr.lookup t (.map (some b)) key false).run P w = .ok ((f kl).getD z) w := by
  obtain ⟨D, h, hf, hh⟩ := h
  obtain ⟨v, ps, hr, hv⟩ := h.lookup K ht hz (zd := .held z) (zp := []) rfl hkey
  rw [hr]
  simp only [hold, Option.some.injEq, Prod.mk.injEq] at hv
  rw [← hf]
  cases hs : Maps.has D kl
  · rw [gt_none hs]
    have := hv.1
    rw [Maps.atKey_of_not_has hs] at this
    cases this
    rfl
  · obtain ⟨u, hu⟩ := hh kl hs
    rw [gt_some hu]
    have := hv.1
    rw [hu] at this
    cases this
    rfl
/-- 'v, ok := m[x]'. -/
theorem MapV.look_ok {t e : TypeId} (h : MapV P k w b n f) (K : Keyed P k) (ht : P.underlying t = some (.map k e)) {z : Value} (hz : (zeroValue e).run P w = .ok z w) {key : Value} {kl : Lit} (hkey : keyOf P k key = some kl) :
    (Instr.lookup t (.map (some b)) key true).run P w = .ok (.tuple #[(f kl).getD z, .bool (f kl).isSome]) w := by
  obtain ⟨D, h, hf, hh⟩ := h
  obtain ⟨v, ps, hr, hv⟩ := h.look_ok K ht hz (zd := .held z) (zp := []) rfl hkey
  rw [hr]
  simp only [hold, Option.some.injEq, Prod.mk.injEq] at hv
  rw [← hf]
  cases hs : Maps.has D kl
  · rw [gt_none hs]
    have := hv.1
    rw [Maps.atKey_of_not_has hs] at this
    cases this
    rfl
  · obtain ⟨u, hu⟩ := hh kl hs
    rw [gt_some hu]
    have := hv.1
    rw [hu] at this
    cases this
    rfl

theorem gt_put {D : DataW Value} (hD : Maps.IsMap D) {kl : Lit} (hk : WideAt.IsKeyLit kl) (v : Value) (j : Lit) : gt (D.put kl (.held v)) j = upd (gt D) kl (some v) j := by
  unfold gt upd
  by_cases h : j = kl
  · subst h
    rw [if_pos rfl, Maps.atKey_put_same hD hk]
    rfl
  · rw [if_neg h, Maps.atKey_put_other h]
theorem gt_del {D : DataW Value} {kl : Lit} (j : Lit) : gt (D.del kl) j = upd (gt D) kl none j := by
  unfold gt upd
  by_cases h : j = kl
  · subst h
    rw [if_pos rfl, Maps.atKey_del_same]
    rfl
  · rw [if_neg h, Maps.atKey_del_other h]

/-- 'm[x] = v'. -/
theorem MapV.store {t e : TypeId} (h : MapV P k w b n f) (K : Keyed P k) (ht : P.underlying t = some (.map k e)) (hn : n < maxLen) {key : Value} {kl : Lit} (hkey : keyOf P k key = some kl) (v : Value) :
    ∃ w', (Instr.mapUpdate t (.map (some b)) key v).run P w = .ok () w' ∧ MapV P k w' b (n + 1) (upd f kl (some v)) ∧ w.mapTurned w' b := by
  obtain ⟨D, h, hf, hh⟩ := h
  obtain ⟨w', hr, h1, h2⟩ := h.store K ht hn hkey (val := v) rfl
  refine ⟨w', hr, ⟨_, h1, fun j => ?_, fun j hj => at_held h1 j hj⟩, h2⟩
  rw [gt_put h.isMap (K.key hkey)]
  unfold upd
  split
  · rfl
  · exact hf j
/-- 'delete(m, x)'. -/
theorem MapV.drop {t e : TypeId} (h : MapV P k w b n f) (K : Keyed P k) (ht : P.underlying t = some (.map k e)) {key : Value} {kl : Lit} (hkey : keyOf P k key = some kl) (ty : TypeId) :
    ∃ w', (Builtin.delete_ #[t, k] ty #[.map (some b), key]).run P w = .ok (.tuple #[]) w' ∧ MapV P k w' b n (upd f kl none) ∧ w.mapTurned w' b := by
  obtain ⟨D, h, hf, hh⟩ := h
  obtain ⟨w', hr, h1, h2⟩ := h.drop K ht hkey ty
  refine ⟨w', hr, ⟨_, h1, fun j => ?_, fun j hj => at_held h1 j hj⟩, h2⟩
  rw [gt_del]
  unfold upd
  split
  · rfl
  · exact hf j
/-- 'len(m)'. -/
theorem MapV.len {t e : TypeId} (h : MapV P k w b n f) (K : Keyed P k) (ht : P.underlying t = some (.map k e)) (ty : TypeId) :
    ∃ s : Nat, (∀ W : World, W.heap[b]? = w.heap[b]? → (Builtin.len_ #[t] ty #[.map (some b)]).run P W = .ok (.int .i64 s) W) ∧ s ≤ n ∧ (s = 0 ↔ ∀ j, f j = none) := by
  obtain ⟨D, h, hf, hh⟩ := h
  have hl : ∀ W : World, W.heap[b]? = w.heap[b]? → W.ownsMap P k hold b n D := fun W hW => by
    obtain ⟨es, clock, hb, r⟩ := h
    exact ⟨es, clock, hW.trans hb, r⟩
  refine ⟨Maps.size D, fun W hW => (hl W hW).len ht ty, h.size_le, ?_⟩
  obtain ⟨es, rfl⟩ := h.isMap
  constructor
  · intro h0 j
    have : es = [] := List.eq_nil_of_length_eq_zero h0
    subst this
    rw [← hf]; rfl
  · intro h0
    cases es with
    | nil => rfl
    | cons p r =>
      exfalso
      have hp : Maps.has (DataW.map (p :: r)) p.1 = true := by
        obtain ⟨es', clock, _, F, _, he⟩ := h
        simp only [DataW.map.injEq] at he
        have hpm : p ∈ (es'.toList.map (WideElems.rg P k hold)).foldr DataW.insert [] := by rw [← he]; simp
        obtain ⟨x, hx, rfl⟩ := List.mem_map.1 (mem_sorted.1 hpm)
        obtain ⟨y, hy⟩ := F.reads x hx
        have hkx : (WideElems.rg P k hold x).1.sameKey (WideElems.rg P k hold x).1 = true := by
          rw [WideElems.rg_of hy]
          exact WideAt.sameKey_self (K.key (WideElems.rd_key hy))
        simp [Maps.has, hkx]
      obtain ⟨v, hv⟩ := hh _ hp
      have := h0 p.1
      rw [← hf, gt_some hv] at this
      cases this
end
end Go.Proofs.Ytkbmecjpjphngaa
