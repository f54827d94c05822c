/-
  The abstract layer, part 6: cuts of strings and slices, conversions, new slices.
-/
import Derived.Test.YtikgnakhciklaaaGreatDoorRe
import Derived.Lib.ConvBytes
namespace Go.R
set_option linter.unusedSectionVars false
variable [Syms]
set_option linter.unusedSimpArgs false

/-! ### What a slice holds -/

def mkCells (elems : List (List DV)) : List AV := elems.flatten.map .d

/-- The cells of a slice, one behind the other, and how many elements they are. -/
def acontent (H : List AObj) (size : Nat) : AV → Prop × List AV × Nat
  | .d .snil => (True, [], 0)
  | .d (.sl size' elems _) => (size' = size, mkCells elems, elems.length)
  | .row i size' off n =>
    match hcells H i with
    | some vs => (size' = size ∧ off + n * size ≤ vs.length, (vs.drop off).take (n * size), n)
    | none => (False, [], 0)
  | _ => (False, [], 0)

theorem flatten_length {α : Type} {size : Nat} : ∀ (l : List (List α)), (∀ i (h : i < l.length), (l[i]'h).length = size) → l.flatten.length = l.length * size
  | [], _ => by simp
  | x :: l, h => by
    have h0 := h 0 (by simp)
    have ih := flatten_length l (fun i hi => by have := h (i + 1) (by simpa using hi); rwa [List.getElem_cons_succ] at this)
    simp at h0
    simp only [List.flatten_cons, List.length_append, ih, h0, List.length_cons, Nat.add_mul]
    omega

theorem flatten_get {α : Type} {size : Nat} : ∀ (l : List (List α)), (∀ i (h : i < l.length), (l[i]'h).length = size) → ∀ i j, i < l.length → j < size →
    l.flatten[i * size + j]? = (l[i]?).bind (·[j]?)
  | [], _, i, j, hi, _ => by simp at hi
  | x :: l, h, i, j, hi, hj => by
    have h0 := h 0 (by simp)
    simp at h0
    cases i with
    | zero =>
      simp only [Nat.zero_mul, Nat.zero_add, List.flatten_cons, List.getElem?_cons_zero, Option.bind_some]
      rw [List.getElem?_append_left (by omega)]
    | succ i =>
      have ih := flatten_get l (fun i hi => by have := h (i + 1) (by simpa using hi); rwa [List.getElem_cons_succ] at this) i j (by simpa using hi) hj
      simp only [List.flatten_cons, List.getElem?_cons_succ]
      rw [List.getElem?_append_right (by rw [h0, Nat.add_mul]; omega), h0, ← ih]
      congr 1
      rw [Nat.add_mul]; omega

/-- What the cells of a slice are in memory. -/
theorem content_rel {M : Mem} {H : List AObj} (hs : St M H) {size : Nat} {x : AV} {c : Value} (hx : RelA M x c) (hok : (acontent H size x).1) :
    ∃ (base : Option Addr) (cap : Nat) (cs : List Value), c = .slice base (acontent H size x).2.2 cap ∧ RelL M (acontent H size x).2.1 cs ∧ cs.length = (acontent H size x).2.2 * size ∧
      (∀ A, base = some A → ∀ j v, cs[j]? = some v → M.w.cell? (A.add j) = some v) ∧ (base = none → (acontent H size x).2.2 = 0) ∧ (∀ v ∈ cs, v.oneCell' = true) := by
  unfold acontent at *
  split at hok
  · obtain rfl := hx.snil_inv
    exact ⟨none, 0, [], rfl, RelL.nil M, by simp, by simp, by simp, by simp⟩
  · rename_i size' elems ex
    simp only at hok ⊢
    subst hok
    obtain ⟨A, cap, rfl, hn, hex, hI, hsz, hel⟩ := hx.sl_inv
    have hl := flatten_length elems hsz
    -- the values, cell by cell
    have hget : ∀ q, q < elems.length * size' → ∃ v, M.w.cell? (A.add q) = some v ∧ RelA M ((mkCells elems).getD q .junk) v ∧ v.oneCell' = true := by
      intro q hq
      have hpos : 0 < size' := by
        rcases Nat.eq_zero_or_pos size' with h | h
        · subst h; simp at hq
        · exact h
      have hi : q / size' < elems.length := by rw [Nat.div_lt_iff_lt_mul hpos]; exact hq
      have hj : q % size' < size' := Nat.mod_lt _ hpos
      have hq' : q / size' * size' + q % size' = q := by rw [Nat.mul_comm]; exact Nat.div_add_mod q size'
      obtain ⟨B, hB, hIB, cvs, hlen, hc, hr⟩ := (hel _ hi).imm_inv
      cases hB
      rw [hsz _ hi] at hlen
      have hr1 := hr.1
      obtain ⟨v, hv1, hv2⟩ := hr.getD (j := q % size') (by simp [hsz _ hi]; exact hj)
      have hcell := hc _ _ hv1
      obtain ⟨i1, i2⟩ := hI (Nat.mul_pos (Nat.lt_of_le_of_lt (Nat.zero_le _) hi) hpos)
      refine ⟨v, ?_, ?_, ?_⟩
      · rw [addr_add' i2]
        rw [addr_add' i2] at hcell
        simp only at hcell
        rw [Nat.add_assoc, hq'] at hcell
        exact hcell
      · have e : (mkCells elems).getD q .junk = (elems[q / size'].map AV.d).getD (q % size') .junk := by
          have := flatten_get elems hsz _ _ hi hj
          rw [hq', List.getElem?_eq_getElem hi, Option.bind_some] at this
          simp only [List.getD, mkCells, List.getElem?_map, this]
        rw [e]; exact hv2
      · have hlt : q % size' < (elems[q / size'].map AV.d).length := by simp [hsz _ hi]; exact hj
        have : isCell ((elems[q / size'].map AV.d).getD (q % size') .junk) = true := by
          simp only [List.getD, List.getElem?_eq_getElem hlt, Option.getD_some, List.getElem_map]
          rfl
        exact (hv2.oneCell this).1
    refine ⟨some A, cap, (List.range (elems.length * size')).map fun q => (M.w.cell? (A.add q)).getD undef, rfl, ⟨?_, fun j h1 h2 => ?_⟩, by simp, fun B hB j v hj => ?_, by simp, fun v hv => ?_⟩
    · rw [mkCells, List.length_map, hl]; simp
    · have hq : j < elems.length * size' := by simpa using h2
      obtain ⟨v, g1, g2, _⟩ := hget j hq
      simp only [List.getElem_map, List.getElem_range, g1, Option.getD_some]
      have e : (mkCells elems)[j] = (mkCells elems).getD j .junk := by simp [List.getD, List.getElem?_eq_getElem h1]
      rw [e]; exact g2
    · cases hB
      have hq : j < elems.length * size' := by have := get_lt hj; simpa using this
      obtain ⟨v', g1, _⟩ := hget j hq
      simp [hq, g1] at hj
      rw [g1, hj]
    · simp only [List.mem_map, List.mem_range] at hv
      obtain ⟨q, hq, rfl⟩ := hv
      obtain ⟨v', g1, _, g3⟩ := hget q hq
      rw [g1]; exact g3
  · rename_i i size' off n
    cases hh : hcells H i with
    | none => simp [hh] at hok
    | some vs =>
      simp only [hh] at hok ⊢
      obtain ⟨rfl, hle⟩ := hok
      obtain ⟨fr, hi⟩ := of_hcells hh
      obtain ⟨cvs, hr, hc, h1⟩ := hs.cells hi
      have hr1 := hr.1
      obtain ⟨hk, h⟩ := hx.row_inv
      rcases h with ⟨cap, rfl, hn, _⟩ | ⟨rfl, A, rfl⟩
      · refine ⟨_, cap, (cvs.drop off).take (n * size'), rfl, (hr.drop off).take _, by simp; omega, fun B hB j v hj => ?_, by simp, fun v hv => h1 v (List.mem_of_mem_drop (List.mem_of_mem_take hv))⟩
        cases hB
        rw [addr_add, Nat.add_assoc]
        refine hc _ _ ?_
        have hlt := get_lt hj
        simp at hlt
        rw [List.getElem?_take_of_lt (by omega), List.getElem?_drop] at hj
        exact hj
      · exact ⟨some A, 0, [], rfl, by simpa using RelL.nil M, by simp, by simp, by simp, by simp⟩
  · simp at hok

/-! ### New slices -/

def arep (n : Nat) (z : List AV) : List AV := (List.replicate n z).flatten

theorem arep_zero (z : List AV) : arep 0 z = [] := rfl
theorem arep_succ (n : Nat) (z : List AV) : arep (n + 1) z = z ++ arep n z := by simp [arep, List.replicate_succ]
theorem arep_length (n : Nat) (z : List AV) : (arep n z).length = n * z.length := by simp [arep]
theorem arep_one (n : Nat) (z : AV) : arep n [z] = List.replicate n z := by
  induction n with
  | zero => rfl
  | succ n ih => rw [arep_succ, ih, List.replicate_succ]; rfl

theorem arep_get (z : List AV) : ∀ (n j : Nat), j < n * z.length → (arep n z)[j]? = z[j % z.length]?
  | 0, j, h => by simp at h
  | n + 1, j, h => by
    rw [arep_succ]
    by_cases hj : j < z.length
    · rw [List.getElem?_append_left hj, Nat.mod_eq_of_lt hj]
    · rw [List.getElem?_append_right (by omega), arep_get z n (j - z.length) (by rw [Nat.add_mul] at h; omega), Nat.mod_eq_sub_mod (a := j) (by omega)]

theorem rep_rel {M : Mem} {zv : Value} (n : Nat) (hpos : 0 < zv.cells.size) : RelL M (arep n (zv.cells.toList.map cv1)) (madeCells zv.cells (n * zv.cells.size)).toList := by
  have hl : (zv.cells.toList.map cv1).length = zv.cells.size := by simp
  refine ⟨by rw [arep_length, hl]; simp [madeCells], fun j h1 h2 => ?_⟩
  rw [arep_length, hl] at h1
  have hm : j % zv.cells.size < zv.cells.size := Nat.mod_lt _ hpos
  have e := arep_get (zv.cells.toList.map cv1) n j (by rw [hl]; exact h1)
  rw [hl, List.getElem?_map (f := cv1), Array.getElem?_toList (xs := zv.cells), Array.getElem?_eq_getElem hm, Option.map_some] at e
  have e' : (arep n (zv.cells.toList.map cv1))[j]'(by rw [arep_length, hl]; exact h1) = cv1 (zv.cells[j % zv.cells.size]) := by
    have := List.getElem?_eq_getElem (l := arep n (zv.cells.toList.map cv1)) (i := j) (by rw [arep_length, hl]; exact h1)
    rw [this] at e
    exact Option.some.inj e
  rw [e']
  have e2 : (madeCells zv.cells (n * zv.cells.size)).toList[j] = zv.cells[j % zv.cells.size] := by
    simp [madeCells, hm]
  rw [e2]
  exact cv1_rel M _

/-- A new row: its reference. -/
theorem rel_row_new {M : Mem} {H : List AObj} (hs : St M H) {cs : Array Value} {t : TypeId} (size n c : Nat) (hn : n ≤ c) (hc : c * size ≤ cs.size) :
    RelA (M.push (.cells cs t)) (.row H.length size 0 n) (.slice (some ⟨M.w.heap.size, 0, none⟩) n c) := by
  have e1 : (M.push (.cells cs t)).r H.length = M.w.heap.size := by simp [Mem.push, hs.k]
  have e2 : (M.push (.cells cs t)).o H.length = 0 := by simp [Mem.push, hs.k]
  have h := RelA.row (M := M.push (.cells cs t)) H.length size 0 n c (by simp [Mem.push, hs.k]) hn cs t (0, 0) (by rw [e1]; exact heap_alloc_at _ _) (by rw [e2]; omega)
  rwa [e1, e2] at h

def amakeSlice (P : Program) (H : List AObj) (t : TypeId) (l c : AV) : ARes :=
  match l, c, tSlice P t with
  | .d (.int _ n), .d (.int _ m), some e =>
    match tZero P e, tSize P e, tBytes P e with
    | some z, some size, some bytes => ⟨0 ≤ n ∧ n ≤ m ∧ (bytes : Int) * m ≤ 281474976710656 ∧ m ≤ 9223372036854775807 ∧ z.length = size ∧ 0 < size ∧ z.all isCell = true, .row H.length size 0 n.toNat, H ++ [.cells false (arep n.toNat z)]⟩
    | _, _, _ => fail H
  | _, _, _ => fail H

theorem of_tSize {P : Program} {t : TypeId} {n : Nat} (h : tSize P t = some n) : ∃ i, P.info? t = some i ∧ i.size = n := by
  unfold tSize at h
  cases hu : P.info? t with
  | none => simp [hu] at h
  | some i => simp [hu] at h; exact ⟨i, rfl, h⟩

theorem of_tBytes {P : Program} {t : TypeId} {n : Nat} (h : tBytes P t = some n) : ∃ i, P.info? t = some i ∧ i.bytes = n := by
  unfold tBytes at h
  cases hu : P.info? t with
  | none => simp [hu] at h
  | some i => simp [hu] at h; exact ⟨i, rfl, h⟩

theorem arep_all {z : List AV} (n : Nat) (h : z.all isCell = true) : (arep n z).all isCell = true := by
  induction n with
  | zero => rfl
  | succ n ih => rw [arep_succ, List.all_append, h, ih]; rfl

theorem made_take {zv : Value} (n m : Nat) (h : n ≤ m) : ∃ rest, (madeCells zv.cells (m * zv.cells.size)).toList = (madeCells zv.cells (n * zv.cells.size)).toList ++ rest := by
  refine ⟨(madeCells zv.cells (m * zv.cells.size)).toList.drop (n * zv.cells.size), ?_⟩
  conv => lhs; rw [← List.take_append_drop (n * zv.cells.size) (madeCells zv.cells (m * zv.cells.size)).toList]
  congr 1
  have : n * zv.cells.size ≤ m * zv.cells.size := Nat.mul_le_mul_right _ h
  apply List.ext_getElem?
  intro j
  by_cases hj : j < n * zv.cells.size
  · rw [List.getElem?_take_of_lt hj]
    simp [madeCells, hj, Nat.lt_of_lt_of_le hj this]
  · rw [List.getElem?_eq_none (by simp; omega), List.getElem?_eq_none (by simp [madeCells]; omega)]

theorem sound_makeSlice {P : Program} {M : Mem} {H : List AObj} (hs : St M H) (t : TypeId) {l c : AV} {cl cc : Value} (hl : RelA M l cl) (hc : RelA M c cc) :
    SoundV P (Instr.makeSlice t cl cc) M (amakeSlice P H t l c) := by
  unfold amakeSlice
  split
  · rename_i k n k' m e he
    obtain rfl := hl.int_inv
    obtain rfl := hc.int_inv
    have hu := of_tSlice he
    split
    · rename_i z size bytes hz hsz hby
      intro hok
      simp only at hok ⊢
      obtain ⟨h0, h1, h2, h3, h4, h5, h6⟩ := hok
      obtain ⟨i, zv, i1, i2, rfl⟩ := of_tZero hz
      obtain ⟨i', i3, rfl⟩ := of_tSize hsz
      obtain ⟨i'', i4, rfl⟩ := of_tBytes hby
      rw [i1] at i3 i4
      cases i3; cases i4
      have hzs : zv.cells.size = i.size := by simpa using h4
      have hr := run_make (P := P) M.w t e i zv hu i1 i2 k k' n m h0 h1 h2 h3
      refine ⟨_, M.push (.cells (madeCells zv.cells (m.toNat * i.size)) e), hr, hs.ext_push _, ?_, rel_row_new hs _ _ _ (by omega) (by rw [size_madeCells]; exact Nat.le_refl _)⟩
      obtain ⟨rest, hrest⟩ := made_take (zv := zv) n.toNat m.toNat (by omega)
      rw [hzs] at hrest
      have hrel := rep_rel (M := M) (zv := zv) n.toNat (by omega)
      rw [hzs] at hrel
      exact hs.push_cells _ e false _ rest _ hrest hrel (hrel.oneCell (arep_all _ h6))
    · exact .fail
  · exact .fail

def abuildSlice (P : Program) (H : List AObj) (t : TypeId) (len : Nat) (parts : List (Nat × AV)) : ARes :=
  match tSlice P t with
  | some e =>
    match tZero P e, tSize P e with
    | some z, some size =>
      let r := afill (fun i => some (i * size, size)) (arep len z) parts
      ⟨z.length = size ∧ 0 < size ∧ len * size ≤ 16777216 ∧ r.1 ∧ r.2.all isCell = true, .row H.length size 0 len, H ++ [.cells false r.2]⟩
    | _, _ => fail H
  | none => fail H

theorem RelL.size {M : Mem} {vs : List AV} {arr : Array Value} (h : RelL M vs arr.toList) : arr.size = vs.length := by rw [← Array.length_toList]; exact h.1.symm

theorem afill_length (place : Nat → Option (Nat × Nat)) : ∀ (ps : List (Nat × AV)) (cells : List AV), (afill place cells ps).1 → (afill place cells ps).2.length = cells.length
  | [], cells, _ => rfl
  | (i, v) :: ps, cells, h => by
    simp only [afill] at h ⊢
    split at h
    · rename_i off size us hp hu
      obtain ⟨h1, h2, h3⟩ := h
      simp only
      rw [afill_length place ps _ h3]
      simp [splice]; omega
    · exact h.elim

theorem sound_buildSlice {P : Program} {M : Mem} {H : List AObj} (hs : St M H) (t : TypeId) (len : Nat) {ps : List (Nat × AV)} {cs : Array (Nat × Value)} (hl : ps.length = cs.size)
    (hr : ∀ (j : Nat) (p : Nat × AV) (c : Nat × Value), ps[j]? = some p → cs.toList[j]? = some c → p.1 = c.1 ∧ RelA M p.2 c.2) : SoundV P (Instr.buildSlice t len cs) M (abuildSlice P H t len ps) := by
  unfold abuildSlice
  split
  · rename_i e he
    have hu := of_tSlice he
    split
    · rename_i z size hz hsz
      intro hok
      simp only at hok ⊢
      obtain ⟨h1, h2, h3, h4, h5⟩ := hok
      obtain ⟨i, zv, i1, i2, rfl⟩ := of_tZero hz
      have hzs : zv.cells.size = size := by simpa using h1
      have hrel := rep_rel (M := M) (zv := zv) len (by omega)
      rw [hzs] at hrel
      obtain ⟨arr', f1, f2⟩ := fill_rel (fun i => some (i * size, size)) ps cs.toList _ _ hrel (by simpa using hl) hr h4
      have hsize : arr'.size = len * size := by rw [f2.size, afill_length _ _ _ h4, arep_length]; simp [hzs]
      refine ⟨.slice (some ⟨M.w.heap.size, 0, none⟩) len len, M.push (.cells arr' e), ?_, hs.ext_push _, hs.push_cells arr' e false _ [] arr'.toList (by simp) f2 (f2.oneCell h5), rel_row_new hs _ _ _ (Nat.le_refl _) (by omega)⟩
      have h3' : ¬ (len * size > 2 ^ 24) := by omega
      by_cases hz0 : len * size = 0
      · have : madeCells zv.cells (len * size) = #[] := by rw [hz0]; simp [madeCells]
        rw [this] at f1
        simp [Instr.buildSlice, run_underlying hu, run_sizeOf hsz, h3', hz0, Array.range_zero', f1, newRow, Mem.push]
      · have f1' : Instr.fill (fun i => some (i * size, size)) ((Array.range (len * size)).map (zv.cells[· % zv.cells.size]!)) cs.toList = some arr' := f1
        simp only [Instr.buildSlice, Sem.run_bind, run_underlying hu, Result.andThen_ok, run_sizeOf hsz]
        rw [if_neg h3', if_neg hz0]
        simp [zeroValue, typeInfo, i1, i2, f1', newRow, Mem.push]
    · exact .fail
  · exact .fail

end Go.R
