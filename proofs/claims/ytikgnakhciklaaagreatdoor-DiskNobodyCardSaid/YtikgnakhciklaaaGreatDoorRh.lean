/-
  The abstract layer, part 8: append is what the abstract one says; copy.
-/
import Derived.Test.YtikgnakhciklaaaGreatDoorRg
namespace Go.R
set_option linter.unusedSectionVars false
variable [Syms]
set_option linter.unusedSimpArgs false

theorem drop_take_prefix {α : Type} {pre cvs rest : List α} {off k : Nat} (h : off + k ≤ cvs.length) :
    ((pre ++ cvs ++ rest).drop (pre.length + off)).take k = (cvs.drop off).take k := by
  rw [List.append_assoc, List.drop_length_add_append, List.drop_append_of_le_length (by omega), List.take_append_of_le_length (by simp; omega)]

theorem sound_append_row {P : Program} {M : Mem} {H : List AObj} (hs : St M H) {t u ty e : TypeId} {d : TypeDesc} {ti : TypeInfo} {zv : Value} (hu : P.underlying t = some (.slice e)) (hd : P.underlying u = some d) (hnd : notInt d)
    (i1 : P.info? e = some ti) (i2 : ti.zero = some zv) (hz : zv.cells.size = ti.size) {i off n : Nat} {fr : Bool} {vs : List AV} (hi : H[i]? = some (.cells fr vs)) (hle : off + n * ti.size ≤ vs.length)
    {c x : Value} (hc : RelA M (.row i ti.size off n) c) {us : List AV} {new : List Value} {m : Nat} (hr : RelL M us new) (hl : new.length = m * ti.size) (h1 : ∀ v ∈ new, v.oneCell' = true)
    (hx1 : ∀ w : World, (Builtin.lenOf x).run P w = .ok m w) (hx2 : (Builtin.firstCells ti.size m x).run P M.w = .ok new.toArray M.w) (hx3 : (Builtin.firstCells ti.size m x).run P M.w.drew = .ok new.toArray M.w.drew)
    (h63 : n + m ≤ 9223372036854775807) (h47 : (n + m) * ti.bytes ≤ 140737488355328) :
    ∃ v M', (Builtin.append_ #[t, u] ty #[c, x]).run P M.w = .ok v M'.w ∧ Ext M M' ∧ St M' (H.set i .dead ++ [.cells fr ((vs.drop off).take (n * ti.size) ++ us)]) ∧ RelA M' (.row H.length ti.size 0 (n + m)) v := by
  obtain ⟨hk, hrow⟩ := hc.row_inv
  obtain ⟨cs, ct, fz, pre, cvs, rest, g1, g2, g3, g4, g5, g6⟩ := hs.obj i _ hi
  have hlen : cs.size = pre.length + cvs.length + rest.length := by rw [← Array.length_toList, g3]; simp; omega
  have e5 := g5.1
  have hnotI := hs.fresh i _ hi trivial
  have hnlt := get_lt hi
  have hlenH : (H.set i .dead).length = H.length := by simp
  have hne : ∀ (j : Nat) (y : AObj), (H.set i .dead)[j]? = some y → y.live → M.r j ≠ M.r i := fun j y hj hy heq => by
    by_cases e : i = j
    · subst e
      rw [List.getElem?_set_self hnlt] at hj
      cases hj; exact hy
    · rw [List.getElem?_set_ne e] at hj
      exact e (hs.inj i j _ _ hi hj trivial hy heq.symm)
  -- the place of the result where there is room
  have room : ∀ (w' : World) (cs' : Array Value), Ext M (M.withW w') → (∀ b, b ≠ M.r i → w'.heap[b]? = M.w.heap[b]?) → w'.heap[M.r i]? = some (.cells cs' ct fz) → cs'.size = cs.size →
      cs'.toList = cs.toList.take (M.o i + off) ++ ((cvs.drop off).take (n * ti.size) ++ new) ++ cs'.toList.drop (M.o i + off + (n + m) * ti.size) → M.o i + off ≤ cs.size →
      Ext M ((M.withW w').also (M.r i) (M.o i + off)) ∧ St ((M.withW w').also (M.r i) (M.o i + off)) (H.set i .dead ++ [.cells fr ((vs.drop off).take (n * ti.size) ++ us)]) := by
    intro w' cs' he hoth hb hsz hlist hoff
    have s1 : St (M.withW w') (H.set i .dead) := hs.upd he rfl rfl rfl rfl hi trivial hoth trivial
    have e2 := also_ext (M.withW w') (M.r i) (M.o i + off)
    refine ⟨he.trans e2, s1.also hnotI hne ?_⟩
    have r1 : ((M.withW w').also (M.r i) (M.o i + off)).r (H.set i .dead).length = M.r i := by rw [hlenH]; simp [Mem.also, Mem.withW, hs.k]
    have r2 : ((M.withW w').also (M.r i) (M.o i + off)).o (H.set i .dead).length = M.o i + off := by rw [hlenH]; simp [Mem.also, Mem.withW, hs.k]
    refine ⟨cs', ct, fz, cs.toList.take (M.o i + off), (cvs.drop off).take (n * ti.size) ++ new, _, by rw [r1]; exact hb, by rw [hsz]; exact g2, hlist, by rw [r2]; simp; omega, ?_, ?_⟩
    · exact (((g5.drop off).take _).append hr).ext (he.trans e2)
    · intro c hc
      simp only [List.mem_append] at hc
      rcases hc with hc | hc
      · exact g6 c (List.mem_of_mem_drop (List.mem_of_mem_take hc))
      · exact h1 c hc
  -- the result in a new block
  have grow : ∀ (b : Option Addr) (cap : Nat), cap < n + m → (Builtin.firstCells ti.size n (.slice b n cap)).run P M.w.drew = .ok ((cvs.drop off).take (n * ti.size)).toArray M.w.drew →
      ∃ v M', (Builtin.append_ #[t, u] ty #[.slice b n cap, x]).run P M.w = .ok v M'.w ∧ Ext M M' ∧ St M' (H.set i .dead ++ [.cells fr ((vs.drop off).take (n * ti.size) ++ us)]) ∧ RelA M' (.row H.length ti.size 0 (n + m)) v := by
    intro b cap hcap ho
    have hrun := run_append_grow' (ty := ty) hu hd hnd i1 i2 (hx1 M.w) hx3 ho hcap h63 h47
    have s1 := hs.drew.kill i
    have hge : n + m ≤ grownCap M.w (n + m) cap e := grownCap_ge _ _ _ _
    refine ⟨_, (M.withW M.w.drew).push (.cells (((cvs.drop off).take (n * ti.size)).toArray ++ new.toArray ++ Builtin.zeroCells zv.cells (grownCap M.w (n + m) cap e - (n + m))) e), hrun, drew_ext.trans (s1.ext_push _), ?_, ?_⟩
    · refine s1.push_cells _ e fr _ (Builtin.zeroCells zv.cells (grownCap M.w (n + m) cap e - (n + m))).toList ((cvs.drop off).take (n * ti.size) ++ new) (by simp) ?_ ?_
      · exact (((g5.drop off).take _).append hr).ext drew_ext
      · intro c hc
        simp only [List.mem_append] at hc
        rcases hc with hc | hc
        · exact g6 c (List.mem_of_mem_drop (List.mem_of_mem_take hc))
        · exact h1 c hc
    · have := rel_row_new s1 (cs := ((cvs.drop off).take (n * ti.size)).toArray ++ new.toArray ++ Builtin.zeroCells zv.cells (grownCap M.w (n + m) cap e - (n + m))) (t := e) ti.size (n + m) (grownCap M.w (n + m) cap e) hge ?_
      · rw [hlenH] at this
        exact this
      · have hl1 : ((cvs.drop off).take (n * ti.size)).length = n * ti.size := by simp; omega
        simp only [Array.size_append, List.size_toArray, size_zeroCells, hl1, hl, hz, ← Nat.add_mul]
        exact Nat.mul_le_mul_right _ (by omega)
  rcases hrow with ⟨cap, rfl, hn, cs1, t1, fz1, k1, k2⟩ | ⟨rfl, A, rfl⟩
  · rw [g1] at k1
    cases k1
    by_cases hroom : n + m ≤ cap
    · have hfit : M.o i + off + (n + m) * ti.size ≤ cs.size := by
        have := Nat.mul_le_mul_right ti.size hroom
        omega
      have hsum : (n + m) * ti.size = n * ti.size + new.length := by rw [hl, Nat.add_mul]
      have hst := run_storeCells_free P (M.r i) (M.o i + off + n * ti.size) ct fz new 0 cs M.w g1 (by omega) (by omega) h1
      have hrun := run_append_room' (ty := ty) hu hd hnd i1 (hx1 M.w) hx2 hroom (by rw [addr_add]; exact hst)
      have hsz : (cs.toList.take (M.o i + off + n * ti.size + 0) ++ new ++ cs.toList.drop (M.o i + off + n * ti.size + 0 + new.length)).toArray.size = cs.size := by
        simp only [List.size_toArray, List.length_append, List.length_take, List.length_drop, Array.length_toList]
        omega
      have hE := ext_setRow g1 hnotI hsz
      have hlist : (cs.toList.take (M.o i + off + n * ti.size + 0) ++ new ++ cs.toList.drop (M.o i + off + n * ti.size + 0 + new.length)).toArray.toList =
          cs.toList.take (M.o i + off) ++ ((cvs.drop off).take (n * ti.size) ++ new) ++
            (cs.toList.take (M.o i + off + n * ti.size + 0) ++ new ++ cs.toList.drop (M.o i + off + n * ti.size + 0 + new.length)).toArray.toList.drop (M.o i + off + (n + m) * ti.size) := by
        have a1 : cs.toList.take (M.o i + off + n * ti.size + 0) = cs.toList.take (M.o i + off) ++ (cvs.drop off).take (n * ti.size) := by
          rw [Nat.add_zero, List.take_add, g3, ← g4, drop_take_prefix (by omega)]
        have a2 : (cs.toList.take (M.o i + off) ++ (cvs.drop off).take (n * ti.size) ++ new).length = M.o i + off + (n + m) * ti.size := by
          simp; omega
        have a3 : ∀ z : List Value, (cs.toList.take (M.o i + off) ++ (cvs.drop off).take (n * ti.size) ++ new ++ z).drop (M.o i + off + (n + m) * ti.size) = z := fun z => by
          rw [← a2, List.drop_left']
          rfl
        simp only [List.toList_toArray, a1, a3]
        simp
      obtain ⟨q1, q2⟩ := room _ _ hE (fun b hb => setRow_other _ _ _ _ hb) (setRow_heap _ _ _ _ _ _ g1) hsz hlist (by omega)
      refine ⟨_, _, hrun, q1, q2, ?_⟩
      have r1 : ((M.withW (M.w.setRow (M.r i) (cs.toList.take (M.o i + off + n * ti.size + 0) ++ new ++ cs.toList.drop (M.o i + off + n * ti.size + 0 + new.length)).toArray)).also (M.r i) (M.o i + off)).r H.length = M.r i := by simp [Mem.also, Mem.withW, hs.k]
      have r2 : ((M.withW (M.w.setRow (M.r i) (cs.toList.take (M.o i + off + n * ti.size + 0) ++ new ++ cs.toList.drop (M.o i + off + n * ti.size + 0 + new.length)).toArray)).also (M.r i) (M.o i + off)).o H.length = M.o i + off := by simp [Mem.also, Mem.withW, hs.k]
      have := RelA.row (M := (M.withW (M.w.setRow (M.r i) (cs.toList.take (M.o i + off + n * ti.size + 0) ++ new ++ cs.toList.drop (M.o i + off + n * ti.size + 0 + new.length)).toArray)).also (M.r i) (M.o i + off)) H.length ti.size 0 (n + m) cap
        (by simp [Mem.also, Mem.withW, hs.k]) hroom _ ct fz (by rw [r1]; exact setRow_heap _ _ _ _ _ _ g1) (by rw [r2, hsz]; omega)
      rw [r1, r2] at this
      exact this
    · refine grow _ cap (by omega) ?_
      refine run_firstCells_some M.w.drew ti.size n _ n cap _ (by simp; omega) (fun j v hj => ?_)
      rw [addr_add]
      have hlt := get_lt hj
      simp at hlt
      rw [List.getElem?_take_of_lt (by omega), List.getElem?_drop] at hj
      have e : cs[M.o i + off + j]? = some v := by
        rw [← Array.getElem?_toList, g3, List.append_assoc, List.getElem?_append_right (by omega), g4, List.getElem?_append_left (by omega)]
        have : M.o i + off + j - M.o i = off + j := by omega
        rw [this]; exact hj
      show M.w.cell? _ = _
      simp [World.cell?, g1, e]
  · by_cases hm : m = 0
    · subst hm
      have hnew : new = [] := List.eq_nil_of_length_eq_zero (by simpa using hl)
      subst hnew
      have hrun := run_append_room' (ty := ty) (w' := M.w) (a := A) (sLen := 0) (sCap := 0) hu hd hnd i1 (hx1 M.w) hx2 (Nat.le_refl _) (by rfl)
      obtain ⟨q1, q2⟩ := room M.w cs (Ext.refl M) (fun _ _ => rfl) g1 rfl (by simp) (by omega)
      exact ⟨_, (M.withW M.w).also (M.r i) (M.o i + off), hrun, q1, q2, .row0 _ _ _ (by simp [Mem.also, Mem.withW, hs.k]) _⟩
    · exact grow _ 0 (by omega) (by simp [Builtin.firstCells, loadCells, loadCellsFrom])

theorem sound_append {P : Program} {M : Mem} {H : List AObj} (hs : St M H) (t u ty : TypeId) {s x : AV} {c d : Value} (hc : RelA M s c) (hx : RelA M x d) :
    SoundV P (Builtin.append_ #[t, u] ty #[c, d]) M (aappend P H t u s x) := by
  unfold aappend
  split
  · rename_i e he
    have hu := of_tSlice he
    split
    · rename_i z size bytes hz hsz hby
      obtain ⟨ti, zv, i1, i2, rfl⟩ := of_tZero hz
      obtain ⟨ti', i3, rfl⟩ := of_tSize hsz
      obtain ⟨ti'', i4, rfl⟩ := of_tBytes hby
      rw [i1] at i3 i4
      cases i3; cases i4
      simp only
      -- a new block
      have grow : ∀ (b : Option Addr) (n : Nat) (us old : List AV) (olds : List Value), us = (aapp P H ti.size u x).2.1 → (aapp P H ti.size u x).1 → RelL M old olds → olds.length = n * ti.size → (∀ v ∈ olds, v.oneCell' = true) →
          (Builtin.firstCells ti.size n (.slice b n n)).run P M.w.drew = .ok olds.toArray M.w.drew → zv.cells.size = ti.size → (aapp P H ti.size u x).2.2 ≠ 0 → n + (aapp P H ti.size u x).2.2 ≤ 9223372036854775807 → (n + (aapp P H ti.size u x).2.2) * ti.bytes ≤ 140737488355328 →
          ∃ v M', (Builtin.append_ #[t, u] ty #[.slice b n n, d]).run P M.w = .ok v M'.w ∧ Ext M M' ∧ St M' (H ++ [.cells false (old ++ us)]) ∧ RelA M' (.row H.length ti.size 0 (n + (aapp P H ti.size u x).2.2)) v := by
        intro b n us old olds hus hok ho hol ho1 hf hzs hm h63 h47
        subst hus
        obtain ⟨new, dd, a1, a2, a3, a4, a5, a6, a7, a8⟩ := app_rel hs hx hok
        have hrun := run_append_grow' (ty := ty) (b := b) (sLen := n) (sCap := n) hu a1 a2 i1 i2 (a6 M.w) a8 hf (by omega) h63 h47
        have s1 := hs.drew
        have hge : n + (aapp P H ti.size u x).2.2 ≤ grownCap M.w (n + (aapp P H ti.size u x).2.2) n e := grownCap_ge _ _ _ _
        refine ⟨_, (M.withW M.w.drew).push (.cells (olds.toArray ++ new.toArray ++ Builtin.zeroCells zv.cells (grownCap M.w (n + (aapp P H ti.size u x).2.2) n e - (n + (aapp P H ti.size u x).2.2))) e), hrun, drew_ext.trans (s1.ext_push _), ?_, ?_⟩
        · refine s1.push_cells _ e false _ (Builtin.zeroCells zv.cells (grownCap M.w (n + (aapp P H ti.size u x).2.2) n e - (n + (aapp P H ti.size u x).2.2))).toList (olds ++ new) (by simp) ((ho.append a3).ext drew_ext) ?_
          intro c hc
          simp only [List.mem_append] at hc
          rcases hc with hc | hc
          · exact ho1 c hc
          · exact a5 c hc
        · refine rel_row_new s1 (t := e) ti.size _ _ hge ?_
          simp only [Array.size_append, List.size_toArray, size_zeroCells, hol, a4, hzs, ← Nat.add_mul]
          exact Nat.mul_le_mul_right _ (by omega)
      split
      · rename_i i size' off n
        split
        · rename_i fr vs hi
          intro hok
          simp only at hok ⊢
          obtain ⟨rfl, h1, h2, h3, h4, h5⟩ := hok
          obtain ⟨new, dd, a1, a2, a3, a4, a5, a6, a7, a8⟩ := app_rel hs hx h3
          exact sound_append_row hs hu a1 a2 i1 i2 (by simpa using h1) hi h2 hc a3 a4 a5 a6 a7 a8 h4 h5
        · exact .fail
      · obtain rfl := hc.snil_inv
        split
        · rename_i hm
          refine .pure hs rfl fun hok => ?_
          obtain ⟨new, dd, a1, a2, a3, a4, a5, a6, a7, a8⟩ := app_rel hs hx hok
          rw [hm] at a6 a7
          exact ⟨_, run_append_none' hu a1 a2 i1 (a6 M.w) a7, .d _ _ .snil⟩
        · rename_i hm
          intro hok
          simp only at hok ⊢
          obtain ⟨h1, h2, h3, h4⟩ := hok
          have := grow none 0 _ [] [] rfl h2 (RelL.nil M) (by simp) (by simp) (by rfl) (by simpa using h1) hm (by omega) (by rw [Nat.zero_add]; exact h4)
          simpa using this
      · rename_i size' elems
        split
        · rename_i hm
          refine .pure hs rfl fun hok => ?_
          obtain ⟨new, dd, a1, a2, a3, a4, a5, a6, a7, a8⟩ := app_rel hs hx hok
          obtain ⟨A, cap, rfl, hn, hex, hI, hsz', hel⟩ := hc.sl_inv
          rw [hm] at a4 a6 a7
          have hnew : new = [] := List.eq_nil_of_length_eq_zero (by simpa using a4)
          subst hnew
          exact ⟨_, run_append_room' (w' := M.w) hu a1 a2 i1 (a6 M.w) a7 hn (by rfl), hc⟩
        · rename_i hm
          intro hok
          simp only at hok ⊢
          obtain ⟨rfl, h1, h2, h3, h4⟩ := hok
          obtain ⟨base, cap, olds, hbc, b1, b2, b3, b4, b5⟩ := content_rel (size := ti.size) hs hc (by simp [acontent])
          obtain ⟨A, cap', rfl, hn, hex, hI, hsz', hel⟩ := hc.sl_inv
          cases hbc
          have hcap := hex rfl
          subst hcap
          refine grow (some A) elems.length _ (mkCells elems) olds rfl h2 b1 b2 b5 ?_ (by simpa using h1) hm h3 h4
          exact run_firstCells_some M.w.drew ti.size _ A _ _ olds b2 (fun j v hj => b3 A rfl j v hj)
      · exact .fail
    · exact .fail
  · exact .fail

/-! ### copy -/

def acopy (P : Program) (H : List AObj) (t : TypeId) (d s : AV) : ARes :=
  match (tSlice P t).bind (tSize P), d with
  | some size, .row i size' off n =>
    match H[i]? with
    | some (.cells fr vs) =>
      let r := acontent H size s
      let k := Nat.min r.2.2 n
      ⟨size' = size ∧ r.1 ∧ off + n * size ≤ vs.length, .d (.int .i64 k), H.set i (.cells fr (splice vs off (r.2.1.take (k * size))))⟩
    | _ => fail H
  | _, _ => fail H

theorem sound_copy {P : Program} {M : Mem} {H : List AObj} (hs : St M H) (t u ty : TypeId) {s d : AV} {c x : Value} (hd : RelA M d c) (hx : RelA M s x) :
    SoundV P (Builtin.copy_ #[t, u] ty #[c, x]) M (acopy P H t d s) := by
  unfold acopy
  split
  · rename_i size i size' off n he
    obtain ⟨e, hu, hse⟩ := of_bindSize he
    split
    · rename_i fr vs hi
      intro hok
      simp only at hok ⊢
      obtain ⟨rfl, h1, h2⟩ := hok
      obtain ⟨base, cap, cs, rfl, g1, g2, g3, g4, g5⟩ := content_rel hs hx h1
      have e1 := g1.1
      have hmin : Nat.min (acontent H size' s).2.2 n ≤ (acontent H size' s).2.2 := Nat.min_le_left _ _
      have hmin2 : Nat.min (acontent H size' s).2.2 n ≤ n := Nat.min_le_right _ _
      have m1 := Nat.mul_le_mul_right size' hmin
      have m2 := Nat.mul_le_mul_right size' hmin2
      have hl : (cs.take (Nat.min (acontent H size' s).2.2 n * size')).length = Nat.min (acontent H size' s).2.2 n * size' := by
        rw [List.length_take, g2]; omega
      have hfirst : (Builtin.firstCells size' (Nat.min (acontent H size' s).2.2 n) (.slice base (acontent H size' s).2.2 cap)).run P M.w = .ok (cs.take (Nat.min (acontent H size' s).2.2 n * size')).toArray M.w := by
        cases base with
        | none =>
          have := g4 rfl
          have hcs : cs = [] := List.eq_nil_of_length_eq_zero (by rw [g2, this]; simp)
          subst hcs
          simp [Builtin.firstCells]
        | some A =>
          refine run_firstCells_some M.w size' _ A _ cap _ hl (fun j v hj => g3 A rfl j v ?_)
          have hlt := get_lt hj
          rw [hl] at hlt
          rwa [List.getElem?_take_of_lt hlt] at hj
      obtain ⟨hk, hrow⟩ := hd.row_inv
      have hr := g1.take (Nat.min (acontent H size' s).2.2 n * size')
      have hul : ((acontent H size' s).2.1.take (Nat.min (acontent H size' s).2.2 n * size')).length = Nat.min (acontent H size' s).2.2 n * size' := by rw [hr.1, hl]
      rcases hrow with ⟨cap', rfl, hn, _⟩ | ⟨rfl, A, rfl⟩
      · obtain ⟨M', r1, r2, r3⟩ := hs.store (P := P) hi (off := off) hr (fun v hv => g5 v (List.mem_of_mem_take hv)) (by omega)
        refine ⟨_, M', ?_, r2, r3, .d _ _ (.int _ _)⟩
        simp [Builtin.copy_, run_underlying hu, run_sizeOf hse, run_lenOf_slice, hfirst, r1, goInt]
      · have hz : Nat.min (acontent H size' s).2.2 0 = 0 := Nat.min_zero _
        rw [hz] at hfirst ⊢
        refine ⟨.int .i64 0, M, ?_, .refl M, ?_, .d _ _ (.int _ _)⟩
        · simp at hfirst
          simp [Builtin.copy_, run_underlying hu, run_sizeOf hse, run_lenOf_slice, hfirst, storeCells, goInt]
        · have : H.set i (.cells fr (splice vs off (((acontent H size' s).2.1).take (0 * size')))) = H := by
            have e2 : splice vs off (((acontent H size' s).2.1).take (0 * size')) = vs := by simp [splice]
            rw [e2]
            obtain ⟨hlt, hget⟩ := List.getElem?_eq_some_iff.1 hi
            rw [← hget, List.set_getElem_self]
          rw [this]; exact hs
    · exact .fail
  · exact .fail

end Go.R
