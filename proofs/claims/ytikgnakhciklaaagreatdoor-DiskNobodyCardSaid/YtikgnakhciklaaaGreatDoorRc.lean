/-
  The abstract layer, part 3: making memory, places in memory, parts of values.
-/
import Derived.Test.YtikgnakhciklaaaGreatDoorRb
namespace Go.R
set_option linter.unusedSectionVars false
variable [Syms]
set_option linter.unusedSimpArgs false

/-! ### New memory -/

theorem rel_ptr_new {M : Mem} {H : List AObj} (hs : St M H) (ob : Obj) : RelA (M.push ob) (.ptr H.length 0) (.pointer (some ⟨M.w.heap.size, 0, none⟩)) := by
  have h := RelA.ptr (M := M.push ob) H.length 0 (by simp [Mem.push, hs.k])
  have e1 : (M.push ob).r H.length = M.w.heap.size := by simp [Mem.push, hs.k]
  have e2 : (M.push ob).o H.length = 0 := by simp [Mem.push, hs.k]
  rwa [e1, e2] at h

theorem of_tZero {P : Program} {t : TypeId} {z : List AV} (h : tZero P t = some z) : ∃ i v, P.info? t = some i ∧ i.zero = some v ∧ z = v.cells.toList.map cv1 := by
  unfold tZero at h
  cases hi : P.info? t with
  | none => simp [hi] at h
  | some i =>
    cases hz : i.zero with
    | none => simp [hi, hz] at h
    | some v =>
      simp [hi, hz] at h
      exact ⟨i, v, rfl, hz, h.symm⟩

def aalloc (P : Program) (H : List AObj) (t : TypeId) : ARes :=
  match tZero P t with
  | some z => ⟨z.all isCell = true, .ptr H.length 0, H ++ [.cells false z]⟩
  | none => fail H

theorem sound_alloc {P : Program} {M : Mem} {H : List AObj} (hs : St M H) (t : TypeId) : SoundV P (Instr.alloc t true (.tuple #[])) M (aalloc P H t) := by
  unfold aalloc
  split
  · rename_i z hz
    intro hok
    obtain ⟨i, v, h1, h2, rfl⟩ := of_tZero hz
    refine ⟨.pointer (some ⟨M.w.heap.size, 0, none⟩), M.push (.cells v.cells t), ?_, hs.ext_push _, ?_, rel_ptr_new hs _⟩
    · simp [Instr.alloc, zeroValue, typeInfo, h1, h2, newVar, newRow, Mem.push]
    · exact hs.push_cells v.cells t false _ [] v.cells.toList (by simp) (map_rel M _) ((map_rel M _).oneCell hok)
  · exact .fail

def abox (H : List AObj) (v : AV) : ARes :=
  match cellsOf v with
  | some us => ⟨us.all isCell = true, .ptr H.length 0, H ++ [.cells false us]⟩
  | none => fail H

theorem sound_box {P : Program} {M : Mem} {H : List AObj} (hs : St M H) (t : TypeId) {v : AV} {c : Value} (hv : RelA M v c) : SoundV P (Instr.box t c) M (abox H v) := by
  unfold abox
  split
  · rename_i us hu
    intro hok
    refine ⟨.pointer (some ⟨M.w.heap.size, 0, none⟩), M.push (.cells c.cells t), ?_, hs.ext_push _, ?_, rel_ptr_new hs _⟩
    · simp [Instr.box, newVar, newRow, Mem.push]
    · exact hs.push_cells c.cells t false _ [] c.cells.toList (by simp) (hv.cellsOf hu) ((hv.cellsOf hu).oneCell hok)
  · exact .fail

/-! ### Building -/

theorem fold_set (off : Nat) : ∀ (vs : List Value) (k : Nat) (cs : Array Value), off + k + vs.length ≤ cs.size →
    ((vs.zipIdx k).foldl (fun (cs : Array Value) (x : Value × Nat) => cs.setIfInBounds (off + x.2) x.1) cs).toList = cs.toList.take (off + k) ++ vs ++ cs.toList.drop (off + k + vs.length)
  | [], k, cs, _ => by simp
  | v :: rest, k, cs, h => by
    simp only [List.zipIdx_cons, List.foldl_cons]
    rw [fold_set off rest (k + 1) (cs.setIfInBounds (off + k) v) (by simp at h ⊢; omega)]
    have e := list_seg_step cs.toList (off + k) v rest (by simp at h ⊢; omega)
    simpa [Array.toList_setIfInBounds, Nat.add_assoc] using e

/-- Parts laid over cells: what it asks, and what comes of it. -/
def afill (place : Nat → Option (Nat × Nat)) (cells : List AV) : List (Nat × AV) → Prop × List AV
  | [] => (True, cells)
  | (i, v) :: rest =>
    match place i, cellsOf v with
    | some (off, size), some us =>
      let r := afill place (splice cells off us) rest
      (us.length = size ∧ off + size ≤ cells.length ∧ r.1, r.2)
    | _, _ => (False, cells)

theorem fill_rel {M : Mem} (place : Nat → Option (Nat × Nat)) : ∀ (ps : List (Nat × AV)) (cs : List (Nat × Value)) (cells : List AV) (arr : Array Value),
    RelL M cells arr.toList → ps.length = cs.length → (∀ (j : Nat) (p : Nat × AV) (c : Nat × Value), ps[j]? = some p → cs[j]? = some c → p.1 = c.1 ∧ RelA M p.2 c.2) → (afill place cells ps).1 →
    ∃ arr', Instr.fill place arr cs = some arr' ∧ RelL M (afill place cells ps).2 arr'.toList
  | [], cs, cells, arr, h, hl, _, _ => by
    have : cs = [] := List.eq_nil_of_length_eq_zero (by simpa using hl.symm)
    subst this
    exact ⟨arr, rfl, h⟩
  | (i, v) :: ps, [], cells, arr, h, hl, _, _ => by simp at hl
  | (i, v) :: ps, (i', c) :: cs, cells, arr, h, hl, hr, hok => by
    obtain ⟨rfl, hv⟩ := hr 0 (i, v) (i', c) rfl rfl
    simp only at hv
    simp only [afill] at hok ⊢
    split at hok
    · rename_i off size us hp hu
      simp only [hp, hu] at hok ⊢
      obtain ⟨h1, h2, h3⟩ := hok
      have hc := hv.cellsOf hu
      have e1 := hc.1
      have e2 := h.1
      have s1 : c.cells.size = us.length := by rw [← Array.length_toList]; omega
      have s2 : arr.size = cells.length := by rw [← Array.length_toList]; omega
      have hfold : (c.cells.zipIdx.foldl (fun cs (x : Value × Nat) => cs.setIfInBounds (off + x.2) x.1) arr).toList = arr.toList.take off ++ c.cells.toList ++ arr.toList.drop (off + c.cells.toList.length) := by
        rw [← Array.foldl_toList, Array.toList_zipIdx]
        have := fold_set off c.cells.toList 0 arr (by rw [Array.length_toList]; omega)
        simpa using this
      have hrel : RelL M (splice cells off us) (c.cells.zipIdx.foldl (fun cs (x : Value × Nat) => cs.setIfInBounds (off + x.2) x.1) arr).toList := by
        rw [hfold]
        unfold splice
        rw [e1]
        exact ((h.take off).append hc).append (h.drop _)
      obtain ⟨arr', f1, f2⟩ := fill_rel place ps cs (splice cells off us) _ hrel (by simpa using hl) (fun j p d hp hd => hr (j + 1) p d (by simpa using hp) (by simpa using hd)) h3
      refine ⟨arr', ?_, f2⟩
      simp only [Instr.fill, hp]
      rw [if_neg (by simp; omega)]
      exact f1
    · exact hok.elim

def tPlace (P : Program) (t : TypeId) (i : Nat) : Option (Nat × Nat) :=
  match P.underlying t with
  | some (.struct fs) => (fs[i]?).bind fun f => (tSize P f.type).map fun n => (f.offset, n)
  | some (.array _ e) => (tSize P e).map fun n => (i * n, n)
  | _ => none

def tParts (P : Program) (t : TypeId) : Bool :=
  match P.underlying t with
  | some (.struct fs) => fs.all fun f => (tSize P f.type).isSome
  | some (.array _ e) => (tSize P e).isSome
  | _ => false

def abuild (P : Program) (H : List AObj) (t : TypeId) (parts : List (Nat × AV)) : ARes :=
  match tZero P t, tParts P t with
  | some z, true => ⟨(afill (tPlace P t) z parts).1, .agg (afill (tPlace P t) z parts).2, H⟩
  | _, _ => fail H

theorem run_mapM_fields {P : Program} {w : World} : ∀ (l : List Field), (∀ f ∈ l, (tSize P f.type).isSome = true) →
    (l.mapM fun f => (do pure (f.offset, ← sizeOf f.type) : Sem (Nat × Nat))).run P w = .ok (l.map fun f => (f.offset, (tSize P f.type).getD 0)) w
  | [], _ => by simp
  | f :: l, h => by
    have h1 := h f (by simp)
    cases hs : tSize P f.type with
    | none => simp [hs] at h1
    | some n =>
      have ih := run_mapM_fields (w := w) l (fun g hg => h g (by simp [hg]))
      simp only [List.mapM_cons, Sem.run_bind, run_sizeOf hs, Result.andThen_ok, Sem.run_pure, ih, List.map_cons, hs, Option.getD_some]

theorem sound_build {P : Program} {M : Mem} {H : List AObj} (hs : St M H) (t : TypeId) {ps : List (Nat × AV)} {cs : Array (Nat × Value)} (hl : ps.length = cs.size)
    (hr : ∀ (j : Nat) (p : Nat × AV) (c : Nat × Value), ps[j]? = some p → cs.toList[j]? = some c → p.1 = c.1 ∧ RelA M p.2 c.2) : SoundV P (Instr.build t cs) M (abuild P H t ps) := by
  unfold abuild
  split
  · rename_i z hz hp
    refine .pure hs rfl fun hok => ?_
    simp only at hok ⊢
    obtain ⟨i, v, h1, h2, rfl⟩ := of_tZero hz
    obtain ⟨arr', f1, f2⟩ := fill_rel (tPlace P t) ps cs.toList _ v.cells (map_rel M _) (by simpa using hl) hr hok
    refine ⟨.agg arr', ?_, f2.to_agg⟩
    unfold tParts at hp
    split at hp
    · rename_i fs hu
      have hm := run_mapM_fields (P := P) (w := M.w) fs.toList (by
        intro f hf
        rw [Array.all_eq_true_iff_forall_mem] at hp
        exact hp f (by simpa using hf))
      have hm' : (fs.mapM fun f => (do pure (f.offset, ← sizeOf f.type) : Sem (Nat × Nat))).run P M.w = .ok (fs.toList.map fun f => (f.offset, (tSize P f.type).getD 0)).toArray M.w := by
        rw [Array.mapM_eq_mapM_toList]
        simp only [Sem.run_map, hm, Result.andThen_ok]
      have hplace : (fun i => (fs.toList.map fun f => (f.offset, (tSize P f.type).getD 0)).toArray[i]?) = tPlace P t := by
        funext i
        simp only [tPlace, hu, List.getElem?_toArray, List.getElem?_map, Array.getElem?_toList]
        cases hf : fs[i]? with
        | none => rfl
        | some f =>
          rw [Array.all_eq_true_iff_forall_mem] at hp
          have := hp f (Array.mem_of_getElem? hf)
          cases hn : tSize P f.type with
          | none => simp [hn] at this
          | some n => simp [hn]
      simp only [Instr.build, zeroValue, typeInfo, Sem.run_bind, run_program, h1, h2, run_underlying hu, Result.andThen_ok, Sem.run_pure, hm', hplace, f1]
    · rename_i n e hu
      cases hn : tSize P e with
      | none => simp [hn] at hp
      | some n =>
        have hplace : (fun i => some (i * n, n)) = tPlace P t := by
          funext i
          simp [tPlace, hu, hn]
        simp only [Instr.build, zeroValue, typeInfo, Sem.run_bind, run_program, h1, h2, run_underlying hu, Result.andThen_ok, Sem.run_pure, run_sizeOf hn, hplace, f1]
    · simp at hp
  · exact .fail

end Go.R
