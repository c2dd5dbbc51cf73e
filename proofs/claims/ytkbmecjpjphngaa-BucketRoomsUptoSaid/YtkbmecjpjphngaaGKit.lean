/-
  The words that the texts of this seat share: bytes, slices that read as a list of cells, rows that a call owns, append onto them.
-/
import Derived.WalkKit
import Derived.WalkSpells
import Derived.Lib.Hide
import Derived.Outline
import Derived.Handy
import Derived.Deep.AppendSrc
import Derived.Deep.LoopGhost
import Derived.Deep.QuietTactic
import Derived.BigQuiet
import Derived.Laws.BytesArg
import Derived.Lib.SlBytesConst
set_option linter.unusedVariables false
set_option linter.unusedSimpArgs false
namespace Go.Proofs.Ytkbmecjpjphngaa
open Go.RowKit

/-- A byte as a value; bytes as cells. -/
abbrev bv (b : UInt8) : Value := .int .u8 (b.toNat : Int)
def bvs (xs : List UInt8) : List Value := xs.map bv
theorem bvs_length (xs : List UInt8) : (bvs xs).length = xs.length := by simp [bvs]
theorem bvs_append (xs ys : List UInt8) : bvs (xs ++ ys) = bvs xs ++ bvs ys := by simp [bvs]
theorem bvs_snoc (xs : List UInt8) (b : UInt8) : bvs (xs ++ [b]) = bvs xs ++ [bv b] := by simp [bvs]
theorem bvs_take (xs : List UInt8) (k : Nat) : bvs (xs.take k) = (bvs xs).take k := by simp [bvs]
theorem bvs_drop (xs : List UInt8) (k : Nat) : bvs (xs.drop k) = (bvs xs).drop k := by simp [bvs]
theorem bvs_one (xs : List UInt8) : ∀ u ∈ bvs xs, u.oneCell' = true := by
  intro u hu
  obtain ⟨b, _, rfl⟩ := List.mem_map.1 hu
  rfl
theorem bvs_get (xs : List UInt8) (j : Nat) (h : j < xs.length) : (bvs xs)[j]? = some (bv xs[j]) := by simp [bvs, h]
theorem u8v {a b : Int} (h : a = b) : Value.int .u8 a = Value.int .u8 b := by rw [h]
theorem u32v {a b : Int} (h : a = b) : Value.int .u32 a = Value.int .u32 b := by rw [h]
theorem u64v {a b : Int} (h : a = b) : Value.int .u64 a = Value.int .u64 b := by rw [h]
theorem i64v {a b : Int} (h : a = b) : Value.int .i64 a = Value.int .i64 b := by rw [h]

/-- 'v' is a slice of n elements, 'size' cells each, that read as 'cs' in w. -/
def Rd (w : World) (v : Value) (n size : Nat) (cs : List Value) : Prop :=
  ∃ A cap, v = .slice A n cap ∧ cs.length = n * size ∧ n ≤ cap ∧ cap ≤ maxLen ∧ (A = none → cap = 0) ∧ ∀ j u, cs[j]? = some u → ∃ g off, A = some ⟨g, off, none⟩ ∧ w.cell? ⟨g, off + j, none⟩ = some u
/-- From an address on the cells read as cs. (A structure: the walk's simp doesn't look into it.) -/
structure Cells (w : World) (g off : Nat) (cs : List Value) : Prop where
  at_ : ∀ j u, cs[j]? = some u → w.cell? ⟨g, off + j, none⟩ = some u
theorem Cells.byte {w : World} {g off : Nat} {xs : List UInt8} (h : Cells w g off (bvs xs)) (k : Nat) (hk : k < xs.length) : w.cell? ⟨g, off + k, none⟩ = some (bv xs[k]) := h.at_ k _ (bvs_get xs k hk)
/-- Where it reads: a slice that holds elements has an address. -/
theorem Rd.full {w : World} {v : Value} {n size : Nat} {cs : List Value} (h : Rd w v n size cs) (hn : 0 < n) (hs : 0 < size) :
    ∃ g off cap, v = .slice (some ⟨g, off, none⟩) n cap ∧ n ≤ cap ∧ cap ≤ maxLen ∧ g < w.heap.size ∧ Cells w g off cs := by
  obtain ⟨A, cap, rfl, hl, h1, h2, _, hc⟩ := h
  have hpos : 0 < cs.length := by rw [hl]; exact Nat.mul_pos hn hs
  obtain ⟨g, off, rfl, h0⟩ := hc 0 _ (List.getElem?_eq_getElem hpos)
  refine ⟨g, off, cap, rfl, h1, h2, World.block_lt_of_cell? _ _ h0, ⟨fun j u hu => ?_⟩⟩
  obtain ⟨g', off', e, hcc⟩ := hc j u hu
  cases e
  exact hcc
theorem Rd.mk' {w : World} {g off n cap size : Nat} {cs : List Value} (hl : cs.length = n * size) (h1 : n ≤ cap) (h2 : cap ≤ maxLen) (hc : ∀ j u, cs[j]? = some u → w.cell? ⟨g, off + j, none⟩ = some u) : Rd w (.slice (some ⟨g, off, none⟩) n cap) n size cs :=
  ⟨_, cap, rfl, hl, h1, h2, (fun h => by cases h), fun j u hu => ⟨g, off, rfl, hc j u hu⟩⟩
theorem Rd.nil' {w : World} {A : Option Addr} {cap size : Nat} (h2 : cap ≤ maxLen) (hA : A = none → cap = 0) : Rd w (.slice A 0 cap) 0 size [] :=
  ⟨A, cap, rfl, by simp, Nat.zero_le _, h2, hA, fun j u hu => by simp at hu⟩
theorem Rd.form {w : World} {v : Value} {n size : Nat} {cs : List Value} (h : Rd w v n size cs) : ∃ A cap, v = .slice A n cap ∧ n ≤ cap ∧ cap ≤ maxLen ∧ (A = none → cap = 0) := by
  obtain ⟨A, cap, rfl, _, h1, h2, h3, _⟩ := h
  exact ⟨A, cap, rfl, h1, h2, h3⟩
theorem Rd.len {w : World} {v : Value} {n size : Nat} {cs : List Value} (h : Rd w v n size cs) : cs.length = n * size := by
  obtain ⟨A, cap, rfl, hl, _⟩ := h
  exact hl
theorem Rd.le {w : World} {v : Value} {n size : Nat} {cs : List Value} (h : Rd w v n size cs) : n ≤ maxLen := by
  obtain ⟨A, cap, rfl, _, h1, h2, _⟩ := h
  exact Nat.le_trans h1 h2
/-- What keeps the old cells keeps the reading. -/
theorem Rd.kept {w w' : World} {v : Value} {n size : Nat} {cs : List Value} (h : Rd w v n size cs) (hk : ∀ a u, w.cell? a = some u → w'.cell? a = some u) : Rd w' v n size cs := by
  obtain ⟨A, cap, rfl, hl, h1, h2, h3, hc⟩ := h
  refine ⟨A, cap, rfl, hl, h1, h2, h3, fun j u hu => ?_⟩
  obtain ⟨g, off, e, hcc⟩ := hc j u hu
  exact ⟨g, off, e, hk _ _ hcc⟩
theorem cell_below {w w' : World} (hb : Below w.heap.size w w') : ∀ a u, w.cell? a = some u → w'.cell? a = some u := fun _ _ h => (hb.cell (World.block_lt_of_cell? _ _ h)).trans h
theorem Rd.below {w w' : World} {v : Value} {n size : Nat} {cs : List Value} (h : Rd w v n size cs) (hb : Below w.heap.size w w') : Rd w' v n size cs := h.kept (cell_below hb)
/-- Another row was written. -/
theorem Rd.other {w w' : World} {v : Value} {n size : Nat} {cs : List Value} (h : Rd w v n size cs) {row : Option Nat} (hg : w.grownBy w' row) (hne : ∀ g off cap, v = .slice (some ⟨g, off, none⟩) n cap → some g ≠ row) : Rd w' v n size cs := by
  obtain ⟨A, cap, rfl, hl, h1, h2, h3, hc⟩ := h
  refine ⟨A, cap, rfl, hl, h1, h2, h3, fun j u hu => ?_⟩
  obtain ⟨g, off, rfl, hcc⟩ := hc j u hu
  exact ⟨g, off, rfl, hg.cell hcc (hne g off cap rfl)⟩
/-- What a call owns reads so. -/
theorem own_rd {w : World} {base e size : Nat} {v : Value} {n : Nat} {cs : List Value} (h : w.ownsRow base e size v n cs) : Rd w v n size cs := by
  rcases h.2 with ⟨rfl, rfl⟩ | ⟨g, cap, cur, rfl, _, hh, h1, h2, hsz, ht⟩
  · have : cs = [] := List.eq_nil_of_length_eq_zero (by simpa using h.1)
    subst this
    exact Rd.nil' (by simp [maxLen]) (fun _ => rfl)
  · refine Rd.mk' h.1 h1 h2 fun j u hu => ?_
    have := h.cells (g := g) rfl j u hu
    rwa [Addr.add_lit] at this
theorem own_below {w w1 : World} {base e size : Nat} {v : Value} {n : Nat} {cs : List Value} (h : w.ownsRow base e size v n cs) (hb : Below w.heap.size w w1) : w1.ownsRow base e size v n cs :=
  h.kept (row := none) ⟨hb.os, hb.tape, hb.output, hb.size, fun i hi _ => hb.block i hi⟩ (by cases v.ownBlock <;> simp)
theorem own_base {w : World} {base base' e size : Nat} {v : Value} {n : Nat} {cs : List Value} (h : w.ownsRow base e size v n cs) (hb : base' ≤ base) : w.ownsRow base' e size v n cs := by
  obtain ⟨h1, h2⟩ := h
  refine ⟨h1, ?_⟩
  rcases h2 with h2 | ⟨g, cap, cur, hv, hg, r⟩
  · exact .inl h2
  · exact .inr ⟨g, cap, cur, hv, by omega, r⟩
theorem below_then {B : Nat} {w w1 w2 : World} (h : Below B w w1) (hB : B ≤ w1.heap.size) (k : Below w1.heap.size w1 w2) : Below B w w2 := h.trans (k.mono hB)
/-- A world that grew by new blocks and writes to the one row that the call owns from B on. -/
theorem below_grown {B : Nat} {a w w' : World} {v : Value} {e size n : Nat} {cs : List Value} (h : Below B a w) (ho : w.ownsRow B e size v n cs) (hg : w.grownBy w' v.ownBlock) (hB : B ≤ w.heap.size) : Below B a w' :=
  h.grown hg hB fun k hk => (ho.lt k hk).1

/-- The facts on a slice's type that an append asks for. -/
structure SliceT (P : Program) (t e size bytes : Nat) : Prop where
  under : P.underlying t = some (.slice e)
  info : ∃ (i : TypeInfo) (z : Value), P.info? e = some i ∧ i.zero = some z ∧ i.size = size ∧ i.bytes = bytes ∧ z.cells.size = size
  pos : 0 < size
theorem SliceT.of {P : Program} {t e size bytes : Nat} {z : Value} (hu : P.underlying t = some (.slice e)) (h : (P.info? e).map (fun i => (i.zero, i.size, i.bytes)) = some (some z, size, bytes)) (hz : z.cells.size = size) (hp : 0 < size) : SliceT P t e size bytes := by
  obtain ⟨i, h1, h2, h3, h4⟩ := info_parts h
  exact ⟨hu, ⟨i, z, h1, h2, h3, h4, hz⟩, hp⟩

/-- What an append may be laid onto: a row of the call's own, or whatever reads as cs and has no spare place. -/
def Dst (w : World) (base e size : Nat) (v : Value) (n : Nat) (cs : List Value) : Prop :=
  w.ownsRow base e size v n cs ∨ ((∃ A, v = .slice A n n ∧ A ≠ none) ∧ Rd w v n size cs)
theorem Dst.rd {w : World} {base e size : Nat} {v : Value} {n : Nat} {cs : List Value} (h : Dst w base e size v n cs) : Rd w v n size cs := by
  rcases h with h | h
  · exact own_rd h
  · exact h.2
/-- The row that an append may write. -/
def Dst.row (v : Value) : Option Nat := match v with
  | .slice (some a) n cap => if n = cap then none else some a.block
  | _ => none
theorem rd_src {P : Program} {w : World} {t e size : Nat} {x : Value} {m : Nat} {news : List Value} (ht : P.underlying t = some (.slice e)) (h : Rd w x m size news) (hsz : 0 < size) (h1 : ∀ u ∈ news, u.oneCell' = true) : Src P size t x m news w := by
  rcases Nat.eq_zero_or_pos m with rfl | hm
  · obtain ⟨A, cap, rfl, hl, _⟩ := h
    have : news = [] := List.eq_nil_of_length_eq_zero (by simpa using hl)
    subst this
    cases A with
    | none => exact Src.ofNil w ht cap
    | some a => exact Src.ofSlice w ht a 0 cap [] (by simp) (fun j u hu => by simp at hu) h1
  · obtain ⟨g, off, cap, rfl, _, _, _, hc⟩ := h.full hm hsz
    exact Src.ofSlice w ht _ m cap news h.len (fun j u hu => by rw [Addr.add_lit]; exact hc.at_ j u hu) h1
theorem cells_firstCells {P : Program} {w : World} {A : Option Addr} {n cap size : Nat} {cs : List Value} (h : Rd w (.slice A n cap) n size cs) (hsz : 0 < size) : (Builtin.firstCells size n (.slice A n cap)).run P w = .ok cs.toArray w := by
  rcases Nat.eq_zero_or_pos n with rfl | hm
  · obtain ⟨A', cap', e, hl, _⟩ := h
    cases e
    have : cs = [] := List.eq_nil_of_length_eq_zero (by simpa using hl)
    subst this
    cases A with
    | none => exact run_firstCells_none w size 0 0 cap
    | some a => exact run_firstCells_some w size 0 a 0 cap [] (by simp) (fun j u hu => by simp at hu)
  · obtain ⟨g, off, cap', e, _, _, _, hc⟩ := h.full hm hsz
    have hl := h.len
    cases e
    exact run_firstCells_some w size n _ n cap cs hl (fun j u hu => by rw [Addr.add_lit]; exact hc.at_ j u hu)
/-- append: the row it was laid onto, or a new one. -/
theorem run_append_dst {P : Program} (w : World) (base : Nat) {t tx ty e size bytes : Nat} (hT : SliceT P t e size bytes)
    (v : Value) (n : Nat) (xs : List Value) (hd : Dst w base e size v n xs) (x : Value) (m : Nat) (news : List Value) (hs : Src P size tx x m news w)
    (h63 : n + m ≤ maxLen) (hbytes : (n + m) * bytes ≤ 140737488355328) (hbase : base ≤ w.heap.size) :
    ∃ v' w', (Builtin.append_ #[t, tx] ty #[v, x]).run P w = .ok v' w' ∧ Dst w' base e size v' (n + m) (xs ++ news) ∧ (0 < m → w'.ownsRow base e size v' (n + m) (xs ++ news)) ∧ w.grownBy w' (Dst.row v) ∧ (w.ownsRow base e size v n xs → w'.ownsRow base e size v' (n + m) (xs ++ news)) ∧ (v'.ownBlock = v.ownBlock ∨ ∀ g, v'.ownBlock = some g → w.heap.size ≤ g) := by
  obtain ⟨hu, ⟨i, z, hi, hz, rfl, rfl, hzs⟩, hsz⟩ := hT
  have hsmall : n + m ≤ 9223372036854775807 := by simp only [maxLen] at h63; omega
  have hrd := hd.rd
  have hxl := hrd.len
  obtain ⟨A, cap, rfl, hnc, hcm, hA⟩ := hrd.form
  have hlen : (xs ++ news).length = (n + m) * i.size := by rw [List.length_append, hxl, hs.newsLen, Nat.add_mul]
  by_cases hroom : n + m ≤ cap
  · -- within the capacity
    by_cases hm : m = 0
    · subst hm
      have hn0 : news = [] := List.eq_nil_of_length_eq_zero (by simpa using hs.newsLen)
      subst hn0
      have hrun : (Builtin.append_ #[t, tx] ty #[.slice A n cap, x]).run P w = .ok (.slice A n cap) w := by
        rcases hs.kind with ⟨e', hk⟩ | hk <;> cases A <;> simp [Builtin.append_, run_underlying hu, run_underlying hk, sizeOf, typeInfo, hi, hs.len, hs.cells, hnc, storeCells]
      refine ⟨_, _, hrun, by simpa using hd, fun h => absurd h (by omega), World.grownBy.refl _ _, fun h => by simpa using h, .inl rfl⟩
    · rcases hd with ho | ⟨⟨A', hv, hA'⟩, _⟩
      · rcases ho.2 with ⟨hv, rfl⟩ | ⟨g, cap', cur, hv, hbg, hg, h1, h2, hcs, htake⟩
        · cases hv; omega
        · cases hv
          have hfit : n * i.size + news.length ≤ cur.size := by rw [hs.newsLen, hcs, ← Nat.add_mul]; exact Nat.mul_le_mul_right _ hroom
          have hst := run_storeCells_at P g (n * i.size) e news 0 cur w hg (by simpa using hfit) hs.one
          simp only [Nat.add_zero] at hst
          have hrun : (Builtin.append_ #[t, tx] ty #[.slice (some ⟨g, 0, none⟩) n cap, x]).run P w = .ok (.slice (some ⟨g, 0, none⟩) (n + m) cap) (w.setRow g (cur.toList.take (n * i.size) ++ news ++ cur.toList.drop (n * i.size + news.length)).toArray) := by
            rcases hs.kind with ⟨e', hk⟩ | hk <;> simp [Builtin.append_, run_underlying hu, run_underlying hk, sizeOf, typeInfo, hi, hs.len, hroom, hs.cells, Addr.add_lit, hst]
          have hown : (w.setRow g (cur.toList.take (n * i.size) ++ news ++ cur.toList.drop (n * i.size + news.length)).toArray).ownsRow base e i.size (.slice (some ⟨g, 0, none⟩) (n + m) cap) (n + m) (xs ++ news) := by
            refine ⟨hlen, .inr ⟨g, cap, _, rfl, hbg, setRow_heap w g cur _ e _ hg, hroom, hcm, ?_, ?_⟩⟩
            · simp only [List.size_toArray, List.length_append, List.length_take, List.length_drop, Array.length_toList]
              omega
            · rw [htake, ← hlen]
              exact List.take_left
          refine ⟨_, _, hrun, .inl hown, fun _ => hown, ⟨rfl, rfl, rfl, by simp, fun k _ hk => setRow_other w g k _ (fun e => hk ?_)⟩, fun _ => hown, .inl rfl⟩
          subst e
          simp [Dst.row, show ¬ n = cap by omega]
      · cases hv; omega
  · -- a new row
    have hr := run_append_grow_src (P := P) w t tx ty e i z hu hi hz A n cap xs (cells_firstCells (P := P) (hrd.kept (w' := w.drew) (fun _ _ h => h)) hsz) x m news hs (by omega) (by omega) (growslice_fits (by omega) hbytes)
    have hge := grownCap_ge w (n + m) cap e
    have hcm' : grownCap w (n + m) cap e ≤ maxLen := grownCap_le_maxLen w (n + m) cap e h63
    have hown : (w.drew.alloc (.cells ((xs ++ news).toArray ++ Builtin.zeroCells z.cells (grownCap w (n + m) cap e - (n + m))) e)).ownsRow base e i.size (.slice (some ⟨w.heap.size, 0, none⟩) (n + m) (grownCap w (n + m) cap e)) (n + m) (xs ++ news) := by
      refine ⟨hlen, .inr ⟨w.heap.size, _, _, rfl, hbase, heap_alloc_new w.drew _, hge, hcm', ?_, ?_⟩⟩
      · simp only [Array.size_append, List.size_toArray, size_zeroCells, hzs]
        rw [hlen, ← Nat.add_mul]
        congr 1
        omega
      · simp only [Array.toList_append]
        rw [← hlen]
        exact List.take_left
    exact ⟨_, _, hr, .inl hown, fun _ => hown, ⟨rfl, rfl, rfl, by simp, fun k hk _ => Below.heap_alloc w.drew _ k hk⟩, fun _ => hown, .inr fun g hg => by simp [Value.ownBlock] at hg; omega⟩
/-- append, for the walk: onto a row of the call's own. -/
theorem wpList_app {P : Program} {w : World} {ops : Array Oper} {rest : List Oper} {o : Oper} {a : Act} {Q : Exit → Act → World → Prop} (base : Nat) {t tx e size bytes : Nat} (hT : SliceT P t e size bytes)
    {s x : Operand} {v : Value} {n : Nat} {xs : List Value} (hd : w.ownsRow base e size v n xs) {y : Value} {m : Nat} {news : List Value} (hsrc : Src P size tx y m news w) (hbase : base ≤ w.heap.size) (h63 : n + m ≤ maxLen) (hbytes : (n + m) * bytes ≤ 140737488355328)
    (hgd : o.guard = none) (ho : o.op = .call { callee := .builtin .append, args := #[s, x], argTypes := #[t, tx] }) (hs : a.eval s = v) (hx : a.eval x = y)
    (h : ∀ v' w', w'.ownsRow base e size v' (n + m) (xs ++ news) → w.grownBy w' v.ownBlock → wpList P ops Q rest (a.put o.dst v') w') : wpList P ops Q (o :: rest) a w := by
  refine wpList_plain hgd fun _ hK => ?_
  obtain ⟨v', w', hr, _, _, h3, h4, _⟩ := run_append_dst (P := P) w base (ty := o.type) hT v n xs (.inl hd) y m news hsrc h63 hbytes hbase
  unfold Oper.wp execOp
  simp only [ho, resolve, invoke, builtin, Sem.run_bind, Sem.run_pure, Result.andThen_ok, List.map_toArray, List.map_cons, List.map_nil, hs, hx, hr]
  refine hK _ _ (h v' w' (h4 hd) ⟨h3.os, h3.tape, h3.output, h3.size, fun k hk hne => h3.block k hk ?_⟩)
  intro hrow
  apply hne
  unfold Dst.row at hrow
  split at hrow
  · split at hrow
    · cases hrow
    · exact hrow
  · cases hrow
/-- The same; of the row it tells besides whether it is the old one or a new one. -/
structure AppO (base e size : Nat) (w w' : World) (v v' : Value) (n : Nat) (cs : List Value) : Prop where
  own : w'.ownsRow base e size v' n cs
  grown : w.grownBy w' v.ownBlock
  row : v'.ownBlock = v.ownBlock ∨ ∀ g, v'.ownBlock = some g → w.heap.size ≤ g
theorem wpList_app2 {P : Program} {w : World} {ops : Array Oper} {rest : List Oper} {o : Oper} {a : Act} {Q : Exit → Act → World → Prop} (base : Nat) {t tx e size bytes : Nat} (hT : SliceT P t e size bytes)
    {s x : Operand} {v : Value} {n : Nat} {xs : List Value} (hd : w.ownsRow base e size v n xs) {y : Value} {m : Nat} {news : List Value} (hsrc : Src P size tx y m news w) (hbase : base ≤ w.heap.size) (h63 : n + m ≤ maxLen) (hbytes : (n + m) * bytes ≤ 140737488355328)
    (hgd : o.guard = none) (ho : o.op = .call { callee := .builtin .append, args := #[s, x], argTypes := #[t, tx] }) (hs : a.eval s = v) (hx : a.eval x = y)
    (h : ∀ v' w', AppO base e size w w' v v' (n + m) (xs ++ news) → wpList P ops Q rest (a.put o.dst v') w') : wpList P ops Q (o :: rest) a w := by
  refine wpList_plain hgd fun _ hK => ?_
  obtain ⟨v', w', hr, _, _, h3, h4, h5⟩ := run_append_dst (P := P) w base (ty := o.type) hT v n xs (.inl hd) y m news hsrc h63 hbytes hbase
  unfold Oper.wp execOp
  simp only [ho, resolve, invoke, builtin, Sem.run_bind, Sem.run_pure, Result.andThen_ok, List.map_toArray, List.map_cons, List.map_nil, hs, hx, hr]
  refine hK _ _ (h v' w' ⟨h4 hd, ⟨h3.os, h3.tape, h3.output, h3.size, fun k hk hne => h3.block k hk ?_⟩, h5⟩)
  intro hrow
  apply hne
  unfold Dst.row at hrow
  split at hrow
  · split at hrow
    · cases hrow
    · exact hrow
  · cases hrow
/-- What an append leaves. -/
structure AppD (base e size : Nat) (w w' : World) (v' : Value) (m n : Nat) (cs : List Value) : Prop where
  dst : Dst w' base e size v' n cs
  own : 0 < m → w'.ownsRow base e size v' n cs
  below : Below base w w'
/-- append, for the walk: onto whatever has no spare place (or a row of the call's own). -/
theorem wpList_app_dst {P : Program} {w : World} {ops : Array Oper} {rest : List Oper} {o : Oper} {a : Act} {Q : Exit → Act → World → Prop} (base : Nat) {t tx e size bytes : Nat} (hT : SliceT P t e size bytes)
    {s x : Operand} {v : Value} {n : Nat} {xs : List Value} (hd : Dst w base e size v n xs) {y : Value} {m : Nat} {news : List Value} (hsrc : Src P size tx y m news w) (hbase : base ≤ w.heap.size) (h63 : n + m ≤ maxLen) (hbytes : (n + m) * bytes ≤ 140737488355328)
    (hgd : o.guard = none) (ho : o.op = .call { callee := .builtin .append, args := #[s, x], argTypes := #[t, tx] }) (hs : a.eval s = v) (hx : a.eval x = y)
    (h : ∀ v' w', AppD base e size w w' v' m (n + m) (xs ++ news) → wpList P ops Q rest (a.put o.dst v') w') : wpList P ops Q (o :: rest) a w := by
  refine wpList_plain hgd fun _ hK => ?_
  obtain ⟨v', w', hr, h1, h2, h3, h4, _⟩ := run_append_dst (P := P) w base (ty := o.type) hT v n xs hd y m news hsrc h63 hbytes hbase
  unfold Oper.wp execOp
  simp only [ho, resolve, invoke, builtin, Sem.run_bind, Sem.run_pure, Result.andThen_ok, List.map_toArray, List.map_cons, List.map_nil, hs, hx, hr]
  refine hK _ _ (h v' w' ⟨h1, h2, ⟨h3.os, h3.tape, h3.output, h3.size, fun k hk => h3.block k (by omega) ?_⟩⟩)
  intro hrow
  rcases hd with hd | ⟨⟨A, rfl, _⟩, _⟩
  · rcases hd.2 with ⟨rfl, rfl⟩ | ⟨g, cap, cur, rfl, hbg, _⟩
    · simp [Dst.row] at hrow
    · by_cases hnc : n = cap
      · simp [Dst.row, hnc] at hrow
      · simp [Dst.row, hnc] at hrow; omega
  · cases A <;> simp [Dst.row] at hrow

/-- 'v' is a []byte that reads as xs. -/
def RdB (w : World) (v : Value) (xs : List UInt8) : Prop := Rd w v xs.length 1 (bvs xs)
theorem RdB.below {w w' : World} {v : Value} {xs : List UInt8} (h : RdB w v xs) (hb : Below w.heap.size w w') : RdB w' v xs := Rd.below h hb
/-- 'v' is a [][]byte that reads as l. -/
def RdLL (w : World) (v : Value) (l : List (List UInt8)) : Prop :=
  ∃ vs : List Value, Rd w v l.length 1 vs ∧ ∀ j (h : j < l.length), ∃ u, vs[j]? = some u ∧ RdB w u l[j]
theorem RdLL.below {w w' : World} {v : Value} {l : List (List UInt8)} (h : RdLL w v l) (hb : Below w.heap.size w w') : RdLL w' v l := by
  obtain ⟨vs, h1, h2⟩ := h
  exact ⟨vs, h1.below hb, fun j hj => let ⟨u, hu, hr⟩ := h2 j hj; ⟨u, hu, hr.below hb⟩⟩
theorem RdLL.le {w : World} {v : Value} {l : List (List UInt8)} (h : RdLL w v l) : l.length ≤ maxLen := by
  obtain ⟨vs, h1, _⟩ := h
  exact h1.le
theorem RdLL.form {w : World} {v : Value} {l : List (List UInt8)} (h : RdLL w v l) : ∃ A cap, v = .slice A l.length cap ∧ l.length ≤ cap ∧ cap ≤ maxLen ∧ (A = none → cap = 0) := by
  obtain ⟨vs, h1, _⟩ := h
  exact h1.form
/-- Cells that hold slices of bytes. -/
structure CellsLL (w : World) (g off : Nat) (l : List (List UInt8)) : Prop where
  at_ : ∀ j (h : j < l.length), ∃ u, w.cell? ⟨g, off + j, none⟩ = some u ∧ RdB w u l[j]
theorem RdLL.full {w : World} {v : Value} {l : List (List UInt8)} (h : RdLL w v l) (hn : 0 < l.length) :
    ∃ g off cap, v = .slice (some ⟨g, off, none⟩) l.length cap ∧ l.length ≤ cap ∧ cap ≤ maxLen ∧ g < w.heap.size ∧ CellsLL w g off l := by
  obtain ⟨vs, h1, h2⟩ := h
  obtain ⟨g, off, cap, rfl, a1, a2, a3, hc⟩ := h1.full hn (by omega)
  exact ⟨g, off, cap, rfl, a1, a2, a3, ⟨fun j hj => let ⟨u, hu, hr⟩ := h2 j hj; ⟨u, hc.at_ j u hu, hr⟩⟩⟩
theorem CellsLL.below {w w' : World} {g off : Nat} {l : List (List UInt8)} (h : CellsLL w g off l) (hb : Below w.heap.size w w') : CellsLL w' g off l :=
  ⟨fun j hj => let ⟨u, hu, hr⟩ := h.at_ j hj; ⟨u, cell_below hb _ _ hu, hr.below hb⟩⟩
theorem Cells.below {w w' : World} {g off : Nat} {cs : List Value} (h : Cells w g off cs) (hb : Below w.heap.size w w') : Cells w' g off cs :=
  ⟨fun j u hu => cell_below hb _ _ (h.at_ j u hu)⟩

/-- The source of an append that a call has just laid: cells of a new block. -/
theorem src_new {P : Program} {w : World} {t e : TypeId} (ht : P.underlying t = some (.slice e)) (cs : List Value) (e' : TypeId) (h1 : ∀ u ∈ cs, u.oneCell' = true) (n : Nat) (hn : n = cs.length) {g : Nat} (hg : g = w.heap.size := by simp) :
    Src P 1 t (.slice (some ⟨g, 0, none⟩) n n) n cs (w.alloc (.cells cs.toArray e')) := by
  subst hg
  subst hn
  refine Src.ofSlice _ ht _ _ _ cs (by simp) (fun j u hu => ?_) h1
  rw [Addr.add_lit, Nat.zero_add, cell_of_row _ _ j cs.toArray e' (0, 0) (heap_alloc_new w _)]
  simpa using hu
theorem dst_alloc {w : World} {base e size : Nat} {v : Value} {n : Nat} {cs : List Value} (h : Dst w base e size v n cs) (o : Obj) : Dst (w.alloc o) base e size v n cs := by
  rcases h with h | ⟨h1, h2⟩
  · exact .inl (h.alloc o)
  · exact .inr ⟨h1, h2.below ((Below.refl _ _).alloc (Nat.le_refl _) o)⟩
theorem dst_below {w w' : World} {base e size : Nat} {v : Value} {n : Nat} {cs : List Value} (h : Dst w base e size v n cs) (hb : Below w.heap.size w w') : Dst w' base e size v n cs := by
  rcases h with h | ⟨h1, h2⟩
  · exact .inl (own_below h hb)
  · exact .inr ⟨h1, h2.below hb⟩
/-- A []byte of the call's own (E: byte's number): from block 'base' on, it reads as xs. -/
def OwnB (E : TypeId) (w : World) (base : Nat) (v : Value) (xs : List UInt8) : Prop := w.ownsRow base E 1 v xs.length (bvs xs)
theorem OwnB.rd {E : TypeId} {w : World} {base : Nat} {v : Value} {xs : List UInt8} (h : OwnB E w base v xs) : RdB w v xs := own_rd h
theorem OwnB.below {E : TypeId} {w w' : World} {base : Nat} {v : Value} {xs : List UInt8} (h : OwnB E w base v xs) (hb : Below w.heap.size w w') : OwnB E w' base v xs := own_below h hb
theorem OwnB.base {E : TypeId} {w : World} {base base' : Nat} {v : Value} {xs : List UInt8} (h : OwnB E w base v xs) (hb : base' ≤ base) : OwnB E w base' v xs := own_base h hb
theorem OwnB.of {E : TypeId} {w : World} {base : Nat} {v : Value} {n : Nat} {cs : List Value} {xs : List UInt8} (h : w.ownsRow base E 1 v n cs) (hc : cs = bvs xs) : OwnB E w base v xs := by
  subst hc
  have hn : n = xs.length := by have := h.1; simp [bvs] at this; omega
  subst hn
  exact h
theorem dst_of {E : TypeId} {w : World} {base : Nat} {v : Value} {n : Nat} {cs : List Value} (xs : List UInt8) (h : Dst w base E 1 v n cs) (hc : cs = bvs xs) : Dst w base E 1 v xs.length (bvs xs) := by
  subst hc
  have hn : n = xs.length := by have := h.rd.len; simp [bvs] at this; omega
  subst hn
  exact h
theorem OwnB.nil {E : TypeId} (w : World) (base : Nat) : OwnB E w base (.slice none 0 0) [] := World.ownsRow_nil w base E 1
/-- A call hands back new bytes; what was there is as it was. -/
structure NewB (E : TypeId) (w : World) (ys : List UInt8) (e : Ending) (w' : World) : Prop where
  out : ∃ v, e = .returned v ∧ OwnB E w' w.heap.size v ys ∧ Below w.heap.size w w'
/-- A call lays bytes behind a row of the caller's own. -/
structure OnB (E : TypeId) (base : Nat) (w : World) (ys : List UInt8) (e : Ending) (w' : World) : Prop where
  out : ∃ v, e = .returned v ∧ OwnB E w' base v ys ∧ Below base w w'

/-- A slice lies below a block. -/
def Rd.belowB (v : Value) (B : Nat) : Prop := ∀ g off n cap, v = .slice (some ⟨g, off, none⟩) n cap → 0 < n → g < B
theorem Rd.below_at {w w' : World} {v : Value} {n size : Nat} {cs : List Value} {B : Nat} (h : Rd w v n size cs) (hb : Below B w w') (hv : Rd.belowB v B) : Rd w' v n size cs := by
  obtain ⟨A, cap, rfl, hl, h1, h2, h3, hc⟩ := h
  refine ⟨A, cap, rfl, hl, h1, h2, h3, fun j u hu => ?_⟩
  obtain ⟨g, off, rfl, hcc⟩ := hc j u hu
  have hn : 0 < n := by
    rcases Nat.eq_zero_or_pos n with rfl | hn
    · rw [Nat.zero_mul] at hl
      have := List.eq_nil_of_length_eq_zero hl
      subst this
      simp at hu
    · exact hn
  exact ⟨g, off, rfl, (hb.cell (hv g off n cap rfl hn)).trans hcc⟩
theorem Rd.belowB_of {w : World} {v : Value} {n size : Nat} {cs : List Value} (h : Rd w v n size cs) (hs : 0 < size) : Rd.belowB v w.heap.size := by
  intro g off n' cap e hn
  obtain ⟨A, cap', rfl, hl, _, _, _, hc⟩ := h
  cases e
  have hpos : 0 < cs.length := by rw [hl]; exact Nat.mul_pos hn hs
  obtain ⟨g', off', e, h0⟩ := hc 0 _ (List.getElem?_eq_getElem hpos)
  cases e
  exact World.block_lt_of_cell? _ _ h0
theorem Rd.belowB_mono {v : Value} {B B' : Nat} (h : Rd.belowB v B) (hB : B ≤ B') : Rd.belowB v B' := fun g off n cap e hn => Nat.lt_of_lt_of_le (h g off n cap e hn) hB

/-- Bytes as a string. -/
def str (xs : List UInt8) : ByteArray := ⟨xs.toArray⟩
theorem str_list (xs : List UInt8) : (str xs).toList = xs := ByteArray.toList_mk xs
theorem str_eq (xs ys : List UInt8) : ((str xs).toList == (str ys).toList) = decide (xs = ys) := by
  rw [str_list, str_list]
  exact Bool.eq_iff_iff.2 (by simp)
theorem str_size (xs : List UInt8) : (str xs).size = xs.length := by simp [str, ByteArray.size]
theorem str_of (s : ByteArray) : str s.data.toList = s := by simp [str]
theorem conv_str {P : Program} {w : World} {v : Value} {xs : List UInt8} (h : RdB w v xs) {src e dst : TypeId} (hs : P.underlying src = some (.slice e)) (he : P.underlying e = some (.int .u8)) (hd : P.underlying dst = some .string) :
    (convert src dst v).run P w = .ok (.string (str xs)) w := by
  rcases Nat.eq_zero_or_pos xs.length with h0 | h0
  · obtain ⟨A, cap, rfl, _, hcm, _⟩ := Rd.form h
    obtain rfl : xs = [] := List.eq_nil_of_length_eq_zero h0
    cases A with
    | none => exact run_convert_bytes_nil w src e hs he 0 cap dst hd
    | some a =>
      have hl : (loadCells a 0).run P w = .ok #[] w := run_loadCells_list (P := P) w a [] (fun j v hj => by simp at hj)
      have := run_bytesToString w a 0 cap [] (by simpa using hl)
      show (convert src dst (.slice (some a) 0 cap)).run P w = _
      rw [run_convert_bytes_string w src dst e _ 0 cap hs he hd]
      exact this
  · obtain ⟨g, off, cap, rfl, _, _, _, hc⟩ := Rd.full h h0 (by omega)
    have := run_convert_bytes_arg (P := P) w src e hs he g off xs.length cap (xs.map fun b => (b.toNat : Int)) (by simp) (fun i hi => by
      rw [hc.byte i hi]
      simp [List.getD_eq_getElem?_getD, hi]) dst hd
    rw [this]
    congr 2
    unfold strOfNums str
    rw [List.map_map]
    congr 2
    exact (List.map_congr_left (fun b _ => by simp)).trans (List.map_id xs)
theorem drewN_below (w : World) (n : Nat) : Below w.heap.size w (w.drewN n) := by
  induction n with
  | zero => exact Below.refl _ _
  | succ n ih => rw [← World.drew_drewN]; exact ih.drew
theorem rdll_one {w : World} {v : Value} {xs : List UInt8} (h : RdB w v xs) (e : TypeId) {g : Nat} (hg : g = w.heap.size := by simp) : RdLL (w.alloc (.cells #[v] e)) (.slice (some ⟨g, 0, none⟩) 1 1) [xs] := by
  subst hg
  refine ⟨[v], Rd.mk' (by simp) (by simp) (by simp [maxLen]) (fun j u hu => ?_), fun j hj => ?_⟩
  · rw [Nat.zero_add, cell_of_row _ _ j _ e (0, 0) (heap_alloc_new w _)]
    simpa using hu
  · have hj0 : j = 0 := by simp at hj; omega
    subst hj0
    exact ⟨v, rfl, h.below ((Below.refl _ _).alloc (Nat.le_refl _) _)⟩
theorem rdb_nil (w : World) : RdB w (.slice none 0 0) [] := Rd.nil' (by simp [maxLen]) (fun _ => rfl)
/-- Bytes that were just laid. -/
theorem rdb_new (w : World) (xs : List UInt8) (e : TypeId) (h : xs.length ≤ maxLen) {g : Nat} (hg : g = w.heap.size := by simp) : RdB (w.alloc (.cells (bvs xs).toArray e)) (.slice (some ⟨g, 0, none⟩) xs.length xs.length) xs := by
  subst hg
  refine Rd.mk' (by simp [bvs]) (Nat.le_refl _) h (fun j u hu => ?_)
  rw [Nat.zero_add, cell_of_row _ _ j _ e (0, 0) (heap_alloc_new w _)]
  simpa using hu
/-- Bytes that were just laid, with the mark of a constant. -/
theorem rdb_mark (w : World) (xs : List UInt8) (e : TypeId) (fr : Nat × Nat) (h : xs.length ≤ maxLen) {g : Nat} (hg : g = w.heap.size := by simp) : RdB (w.alloc (.cells (bvs xs).toArray e fr)) (.slice (some ⟨g, 0, none⟩) xs.length xs.length) xs := by
  subst hg
  refine Rd.mk' (by simp [bvs]) (Nat.le_refl _) h (fun j u hu => ?_)
  rw [Nat.zero_add, World.cell?_alloc_mark]
  simpa using hu
end Go.Proofs.Ytkbmecjpjphngaa
