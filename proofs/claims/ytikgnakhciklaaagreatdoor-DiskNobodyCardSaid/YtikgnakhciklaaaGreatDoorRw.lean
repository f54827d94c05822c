/-
  The abstract layer, part 21: what can be read as data is data: the arguments of a law.
-/
import Derived.Test.YtikgnakhciklaaaGreatDoorRv
import Derived.ProofKit
import Derived.OpenShut
import Derived.Deep.Slices
import Derived.SizedLaws
import Derived.DataReads
namespace Go.R
set_option linter.unusedSectionVars false
variable [Syms]
open Go.RowKit
set_option linter.unusedSimpArgs false
set_option linter.unusedVariables false

inductive Sh where
  | bool
  | int (k : IntKind)
  | str
  | sl (bytes : Nat) (e : List Sh)
  deriving Inhabited

/-- A struct's fields, one behind the other: where each begins. -/
def contig (P : Program) : List Field → Nat → Option Nat
  | [], n => some n
  | f :: fs, n => if f.offset = n then contig P fs (n + P.cellsOf f.type) else none

/-- What each cell of a type holds. -/
def shapes (P : Program) : Nat → TypeId → Option (List Sh)
  | 0, _ => none
  | n + 1, t =>
    match P.underlying t with
    | some .bool => some [.bool]
    | some (.int k) => some [.int k]
    | some .string => some [.str]
    | some (.slice e) => (shapes P n e).bind fun s => if s.length = P.cellsOf e then some [.sl (P.bytesOf e) s] else none
    | some (.struct fs) => (fs.toList.mapM fun f => (shapes P n f.type).bind fun s => if s.length = P.cellsOf f.type then some s else none).bind fun l => if contig P fs.toList 0 = some (P.cellsOf t) then some l.flatten else none
    | some (.array m e) => (shapes P n e).bind fun s => if s.length = P.cellsOf e ∧ P.cellsOf t = m * P.cellsOf e then some (List.replicate m s).flatten else none
    | _ => none

mutual
def Fits : Sh → DV → Prop
  | .bool, .bool _ => True
  | .int k, .int k' n => k' = k ∧ k.min ≤ n ∧ n ≤ k.max
  | .str, .str s => s.length ≤ reachBytes
  | .sl _ _, .snil => True
  | .sl b e, .sl size elems ex => size = e.length ∧ ex = false ∧ elems.length * b ≤ reachBytes ∧ ∀ x ∈ elems, FitsL e x
  | _, _ => False
def FitsL : List Sh → List DV → Prop
  | [], [] => True
  | s :: ss, d :: ds => Fits s d ∧ FitsL ss ds
  | _, _ => False
end

theorem FitsL.length : ∀ {ss : List Sh} {ds : List DV}, FitsL ss ds → ds.length = ss.length
  | [], [], _ => rfl
  | s :: ss, d :: ds, h => by simp only [FitsL] at h; simp [FitsL.length h.2]
  | [], _ :: _, h => by simp [FitsL] at h
  | _ :: _, [], h => by simp [FitsL] at h

theorem FitsL.append : ∀ {s1 s2 : List Sh} {d1 d2 : List DV}, FitsL s1 d1 → FitsL s2 d2 → FitsL (s1 ++ s2) (d1 ++ d2)
  | [], s2, [], d2, _, h => h
  | s :: ss, s2, d :: ds, d2, h, g => by
    simp only [FitsL] at h
    simp only [List.cons_append, FitsL]
    exact ⟨h.1, FitsL.append h.2 g⟩
  | [], _, _ :: _, _, h, _ => by simp [FitsL] at h
  | _ :: _, _, [], _, h, _ => by simp [FitsL] at h

/-- Cells, one by one. -/
def RelDs (w : World) (I : Nat → Prop) (ds : List DV) (cs : List Value) : Prop :=
  ds.length = cs.length ∧ ∀ j (h1 : j < ds.length) (h2 : j < cs.length), RelD w I (ds[j]'h1) (cs[j]'h2)

theorem RelDs.one {w : World} {I : Nat → Prop} {d : DV} {c : Value} (h : RelD w I d c) : RelDs w I [d] [c] :=
  ⟨rfl, fun j h1 _ => by
    have : j = 0 := by simpa using h1
    subst this; exact h⟩

theorem RelDs.append {w : World} {I : Nat → Prop} {d1 d2 : List DV} {c1 c2 : List Value} (h : RelDs w I d1 c1) (g : RelDs w I d2 c2) : RelDs w I (d1 ++ d2) (c1 ++ c2) := by
  refine ⟨by simp [h.1, g.1], fun j h1 h2 => ?_⟩
  by_cases hj : j < d1.length
  · rw [List.getElem_append_left hj, List.getElem_append_left (by have := h.1; omega)]
    exact h.2 j hj _
  · have e := h.1
    rw [List.getElem_append_right (by omega), List.getElem_append_right (by omega)]
    simp only [← e]
    exact g.2 _ _ _

theorem RelDs.rel {M : Mem} {ds : List DV} {cs : List Value} (h : RelDs M.w M.I ds cs) : RelL M (ds.map .d) cs :=
  ⟨by simp [h.1], fun j h1 h2 => by simp only [List.getElem_map]; exact .d _ _ (h.2 j (by simpa using h1) h2)⟩

/-- All memory there is, by nobody written. -/
def Mem.all (w : World) : Mem := { w := w, I := fun b => b < w.heap.size, r := fun _ => 0, o := fun _ => 0, k := 0 }

theorem St.all (w : World) : St (Mem.all w) [] :=
  ⟨rfl, fun i j o o' h => by simp at h, fun i o h => by simp at h, fun b h => h, fun i o h => by simp at h⟩

theorem cell_block {w : World} {a : Addr} {v : Value} (h : w.cell? a = some v) : a.block < w.heap.size ∧ a.spot = none := by
  unfold World.cell? at h
  split at h
  · rename_i c _ _ hb
    refine ⟨some_lt hb, ?_⟩
    split at h
    · simp at h
    · rename_i hs; simpa using hs
  · simp at h

section
variable {H : Type} {enc : TypeId × Value → H} {P : Program} {w : World} {base : Nat} {spare : Nat → Bool} {held : Bool}

theorem reads_fields {n : Nat} (ih : ∀ (t : TypeId) (shs : List Sh) (fuel : Nat) (cs : List Value) (x : DataW H × List MemPlace), shapes P n t = some shs → DataW.trod enc P w base spare held fuel t cs = some x → (∀ m ∈ x.1.weights P t, m ≤ reachBytes) →
      ∃ ds, FitsL shs ds ∧ RelDs w (fun b => b < w.heap.size) ds cs) (fuel : Nat) (cs : List Value) :
    ∀ (fs : List Field) (l : List (List Sh)) (xs : List (DataW H × List MemPlace)) (off : Nat), (fs.mapM fun f => (shapes P n f.type).bind fun s => if s.length = P.cellsOf f.type then some s else none) = some l →
      xs.length = fs.length → (∀ (i : Nat) (f : Field), fs[i]? = some f → DataW.trod enc P w base spare held fuel f.type ((cs.drop f.offset).take (P.cellsOf f.type)) = xs[i]?) →
      (∀ m ∈ DataW.weightsEach P (fs.map (·.type)) (xs.map (·.1)), m ≤ reachBytes) → contig P fs off = some cs.length → ∃ ds, FitsL l.flatten ds ∧ RelDs w (fun b => b < w.heap.size) ds (cs.drop off)
  | [], l, xs, off, hl, hx, ht, hw, hc => by
    simp at hl
    simp only [contig, Option.some.injEq] at hc
    subst hl; subst hc
    exact ⟨[], by simp [FitsL], by simp [RelDs]⟩
  | f :: fs, l, xs, off, hl, hx, ht, hw, hc => by
    match xs, hx with
    | x :: xs, hx =>
      simp only [List.mapM_cons, Option.bind_eq_bind, Option.pure_def] at hl
      obtain ⟨s, hs, hl⟩ := Option.bind_eq_some_iff.1 hl
      obtain ⟨l', hl', hl⟩ := Option.bind_eq_some_iff.1 hl
      simp at hl; subst hl
      obtain ⟨s', hs', hs2⟩ := Option.bind_eq_some_iff.1 hs
      split at hs2
      · rename_i hlen
        simp at hs2; subst hs2
        simp only [contig] at hc
        split at hc
        · rename_i hoff
          subst hoff
          simp only [List.map_cons, DataW.weightsEach, List.mem_append] at hw
          have h0 := ht 0 f rfl
          simp only [List.getElem?_cons_zero] at h0
          obtain ⟨ds, g1, g2⟩ := ih f.type s' fuel _ x hs' h0 (fun m hm => hw m (.inl hm))
          obtain ⟨ds', g3, g4⟩ := reads_fields ih fuel cs fs l' xs (f.offset + P.cellsOf f.type) hl' (by simpa using hx) (fun i f' hf => by simpa using ht (i + 1) f' (by simpa using hf)) (fun m hm => hw m (.inr hm)) hc
          refine ⟨ds ++ ds', by simpa using g1.append g3, ?_⟩
          have := g2.append g4
          rwa [← List.drop_drop, List.take_append_drop] at this
        · simp at hc
      · simp at hs2

theorem reads_cells {n : Nat} (ih : ∀ (t : TypeId) (shs : List Sh) (fuel : Nat) (cs : List Value) (x : DataW H × List MemPlace), shapes P n t = some shs → DataW.trod enc P w base spare held fuel t cs = some x → (∀ m ∈ x.1.weights P t, m ≤ reachBytes) →
      ∃ ds, FitsL shs ds ∧ RelDs w (fun b => b < w.heap.size) ds cs) (fuel : Nat) {e : TypeId} {s : List Sh} (he : shapes P n e = some s) :
    ∀ (m : Nat) (cs : List Value) (xs : List (DataW H × List MemPlace)), xs.length = m → cs.length = m * P.cellsOf e →
      (∀ i, i < m → DataW.trod enc P w base spare held fuel e ((cs.drop (i * P.cellsOf e)).take (P.cellsOf e)) = xs[i]?) →
      (∀ k ∈ DataW.weightsAll P e (xs.map (·.1)), k ≤ reachBytes) → ∃ ds, FitsL (List.replicate m s).flatten ds ∧ RelDs w (fun b => b < w.heap.size) ds cs
  | 0, cs, xs, hx, hl, ht, hw => by
    have : cs = [] := List.eq_nil_of_length_eq_zero (by simpa using hl)
    subst this
    exact ⟨[], by simp [FitsL], by simp [RelDs]⟩
  | m + 1, cs, xs, hx, hl, ht, hw => by
    match xs, hx with
    | x :: xs, hx =>
      simp only [List.map_cons, DataW.weightsAll, List.mem_append] at hw
      have h0 := ht 0 (by omega)
      simp only [List.getElem?_cons_zero, Nat.zero_mul, List.drop_zero] at h0
      obtain ⟨ds, g1, g2⟩ := ih e s fuel _ x he h0 (fun k hk => hw k (.inl hk))
      obtain ⟨ds', g3, g4⟩ := reads_cells ih fuel he m (cs.drop (P.cellsOf e)) xs (by simpa using hx) (by simp [hl, Nat.add_mul]) (fun i hi => by
        have := ht (i + 1) (by omega)
        rw [List.drop_drop, Nat.add_comm, ← Nat.succ_mul]
        simpa using this) (fun k hk => hw k (.inr hk))
      refine ⟨ds ++ ds', by simpa [List.replicate_succ] using g1.append g3, ?_⟩
      have := g2.append g4
      rwa [List.take_append_drop] at this

/-- What can be read is data of its type's shape. -/
theorem reads : ∀ (n : Nat) (t : TypeId) (shs : List Sh) (fuel : Nat) (cs : List Value) (x : DataW H × List MemPlace), shapes P n t = some shs → DataW.trod enc P w base spare held fuel t cs = some x → (∀ m ∈ x.1.weights P t, m ≤ reachBytes) →
    ∃ ds, FitsL shs ds ∧ RelDs w (fun b => b < w.heap.size) ds cs
  | 0, t, shs, fuel, cs, x, hs, h, hw => by simp [shapes] at hs
  | n + 1, t, shs, 0, cs, x, hs, h, hw => by simp [DataW.trod] at h
  | n + 1, t, shs, fuel + 1, cs, x, hs, h, hw => by
    have ih := reads n
    unfold shapes at hs
    split at hs
    · rename_i hu
      simp at hs; subst hs
      unfold DataW.trod at h
      simp only [hu] at h
      split at h <;> simp_all
      obtain rfl := h
      exact ⟨[.bool _], by simp [FitsL, Fits], .one (.bool _)⟩
    · rename_i k hu
      simp at hs; subst hs
      unfold DataW.trod at h
      simp only [hu] at h
      split at h <;> simp_all
      obtain ⟨⟨rfl, hwf⟩, rfl⟩ := h
      simp [Lit.wf] at hwf
      refine ⟨[.int _ _], ?_, .one (.int _ _)⟩
      simp [FitsL, Fits, hwf]
    · rename_i hu
      simp at hs; subst hs
      unfold DataW.trod at h
      simp only [hu] at h
      split at h <;> simp_all
      obtain ⟨hsz, rfl⟩ := h
      simp [DataW.weights] at hw
      refine ⟨[.str _], ?_, .one (.str _)⟩
      simp [FitsL, Fits]
      exact hw
    · rename_i e hu
      obtain ⟨s, hs1, hs2⟩ := Option.bind_eq_some_iff.1 hs
      split at hs2
      · rename_i hlen
        simp at hs2; subst hs2
        rcases Go.Deep.open_slice hu h with ⟨rfl, rfl⟩ | ⟨a, len, cap, m, k, D, Pl, rfl, hb, hlc, hcm, hm, rfl, hel⟩
        · exact ⟨[.snil], by simp [FitsL, Fits], .one .snil⟩
        · have hlm : len ≤ m := by subst hm; split <;> omega
          have hwl : ∀ i, i < len → ∀ q ∈ (D i).weights P e, q ≤ reachBytes := fun i hi q hq => by
            refine hw q ?_
            simp only [DataW.weights, hu, List.mem_cons, List.mem_append]
            refine .inr (.inl ?_)
            have : ∀ (l : List Nat), i ∈ l → q ∈ DataW.weightsAll P e (l.map D) := by
              intro l hl
              induction l with
              | nil => simp at hl
              | cons y l ihl =>
                simp only [List.map_cons, DataW.weightsAll, List.mem_append]
                rcases List.mem_cons.1 hl with rfl | hl
                · exact .inl hq
                · exact .inr (ihl hl)
            exact this _ (by simpa using hi)
          have hex : ∀ i, i < len → ∃ ds cs', w.cells? base (a.add (i * P.cellsOf e)) (P.cellsOf e) = some cs' ∧ FitsL s ds ∧ RelDs w (fun b => b < w.heap.size) ds cs' := fun i hi => by
            obtain ⟨cs', c1, c2⟩ := hel i (by omega)
            obtain ⟨ds, g1, g2⟩ := ih e s k cs' _ hs1 c2 (hwl i hi)
            exact ⟨ds, cs', c1, g1, g2⟩
          let E : Nat → List DV := fun i => if h : i < len then Classical.choose (hex i h) else []
          have hE : ∀ i, i < len → ∃ cs', w.cells? base (a.add (i * P.cellsOf e)) (P.cellsOf e) = some cs' ∧ FitsL s (E i) ∧ RelDs w (fun b => b < w.heap.size) (E i) cs' := fun i hi => by
            have := Classical.choose_spec (hex i hi)
            simp only [E, dif_pos hi]
            exact this
          have hElen : ∀ i, i < len → (E i).length = P.cellsOf e := fun i hi => by
            obtain ⟨_, _, g, _⟩ := hE i hi
            rw [g.length, hlen]
          refine ⟨[.sl (P.cellsOf e) ((List.range len).map E) false], ?_, .one ?_⟩
          · simp only [FitsL, Fits, and_true, hlen, true_and, List.length_map, List.length_range]
            refine ⟨Nat.le_trans (Nat.mul_le_mul_right _ (Nat.le_add_right len (m - len))) (hw _ (by simp [DataW.weights, hu])), ?_⟩
            intro y hy
            simp only [List.mem_map, List.mem_range] at hy
            obtain ⟨i, hi, rfl⟩ := hy
            obtain ⟨_, _, g, _⟩ := hE i hi
            exact g
          · have hspot : 0 < len * P.cellsOf e → a.block < w.heap.size ∧ a.spot = none := fun hpos => by
              have h1 : 0 < len := Nat.pos_of_mul_pos_right hpos
              have h2 : 0 < P.cellsOf e := Nat.pos_of_mul_pos_left hpos
              obtain ⟨cs', c1, _, _⟩ := hE 0 h1
              obtain ⟨_, c2, c3⟩ := World.cells?_some c1
              have := c3 0 h2
              rw [Nat.zero_mul] at this
              simp only [Addr.add, if_true] at this
              rw [List.getElem?_eq_getElem (by omega)] at this
              exact cell_block this
            have key := RelD.sl_mk (M := Mem.all w) (A := a) (cap := cap) (size := P.cellsOf e) (elems := (List.range len).map E) (ex := false) (by simpa using hlc) (fun h => by simp at h) (fun hpos => hspot (by simpa using hpos)) (fun i hi => by
              simp only [List.getElem_map, List.getElem_range]
              exact hElen i (by simpa using hi)) (fun i hi => by
              simp only [List.getElem_map, List.getElem_range]
              have hi' : i < len := by simpa using hi
              obtain ⟨cs', c1, g1, g2⟩ := hE i hi'
              obtain ⟨_, c2, c3⟩ := World.cells?_some c1
              have hpos : 0 < (E i).length → 0 < len * P.cellsOf e := fun h => Nat.mul_pos (by omega) (by rw [← hElen i hi']; exact h)
              refine .imm _ _ (fun j => (cs'[j]?).getD undef) (fun h => ?_) (fun j hj => ?_) (fun j hj => ?_)
              · obtain ⟨k1, k2⟩ := hspot (hpos h)
                exact ⟨by rw [add_block]; exact k1, add_spot k2 _⟩
              · have hj' : j < P.cellsOf e := by rw [← hElen i hi']; exact hj
                have k2 := (hspot (hpos (by omega))).2
                have := c3 j hj'
                rw [addr_add' (add_spot k2 _)] at this
                rw [List.getElem?_eq_getElem (by omega)] at this
                show w.cell? _ = _
                rw [this, List.getElem?_eq_getElem (by omega)]
                rfl
              · have hj' : j < cs'.length := by have := g2.1; omega
                rw [List.getElem?_eq_getElem hj', Option.getD_some]
                exact g2.2 j hj hj')
            simp only [List.length_map, List.length_range] at key
            exact key
      · simp at hs2
    · rename_i fs hu
      obtain ⟨l, hl, hs2⟩ := Option.bind_eq_some_iff.1 hs
      split at hs2
      · rename_i hc
        simp at hs2; subst hs2
        obtain ⟨xs, k, hk, rfl, hcl, hxl, hf⟩ := DataW.trod_struct hu h
        simp only [DataW.weights, hu] at hw
        have := reads_fields (fun t shs fuel cs x => ih t shs fuel cs x) k cs fs.toList l xs 0 hl (by simpa using hxl) (fun i f hi => hf i f (by simpa using hi)) hw (by rw [hc, hcl])
        simpa using this
      · simp at hs2
    · rename_i m e hu
      obtain ⟨s, hs1, hs2⟩ := Option.bind_eq_some_iff.1 hs
      split at hs2
      · rename_i hlen
        simp at hs2; subst hs2
        obtain ⟨xs, k, hk, rfl, hcl, hxl, hf⟩ := DataW.trod_array hu h
        simp only [DataW.weights, hu] at hw
        exact reads_cells (fun t shs fuel cs x => ih t shs fuel cs x) k hs1 m cs xs hxl (by rw [hcl, hlen.2]) hf hw
      · simp at hs2
    · simp at hs
end

/-! ### The arguments of a law -/

section
open Go.ChangeShapes Go.WideShapes Go.ChangeAt
variable {H : Type} {enc : TypeId × Value → H} {P : Program} {W : World} {base : Nat} {t : TypeId} {v : Value} {d : DataW H} {p : List MemPlace} {n : Nat}

theorem arg_cell {sh : Sh} (hs : shapes P n t = some [sh]) (hv : v.cells.toList = [v]) (h : DataW.Trod enc P W 0 (fun _ => true) true t v d p) (hw : ∀ m ∈ d.weights P t, m ≤ reachBytes) : ∃ x, Fits sh x ∧ RelA (Mem.all W) (.d x) v := by
  obtain ⟨fuel, hf⟩ := h
  obtain ⟨ds, g1, g2⟩ := reads n t _ fuel _ _ hs hf hw
  rw [hv] at g2
  match ds, g2.1 with
  | [x], _ =>
    simp only [FitsL] at g1
    exact ⟨x, g1.1, .d _ _ (g2.2 0 (by simp) (by simp))⟩

theorem arg_slice {e : TypeId} {sh : Sh} (hu : P.underlying t = some (.slice e)) (hok : Value.okWide P W .any base t v) (hs : shapes P n t = some [sh]) (h : DataW.Trod enc P W 0 (fun _ => true) true t v d p)
    (hw : ∀ m ∈ d.weights P t, m ≤ reachBytes) : ∃ x, Fits sh x ∧ RelA (Mem.all W) (.d x) v := by
  obtain ⟨a, len, cap, rfl⟩ := okWide_slice hu hok
  exact arg_cell hs rfl h hw

theorem arg_string {sh : Sh} (hu : P.underlying t = some .string) (hok : Value.okWide P W .any base t v) (hs : shapes P n t = some [sh]) (h : DataW.Trod enc P W 0 (fun _ => true) true t v d p)
    (hw : ∀ m ∈ d.weights P t, m ≤ reachBytes) : ∃ x, Fits sh x ∧ RelA (Mem.all W) (.d x) v := by
  obtain ⟨s, rfl⟩ := okWide_string hu hok
  exact arg_cell hs rfl h hw

theorem arg_int {k : IntKind} {sh : Sh} (hu : P.underlying t = some (.int k)) (hok : Value.okWide P W .any base t v) (hs : shapes P n t = some [sh]) (h : DataW.Trod enc P W 0 (fun _ => true) true t v d p)
    (hw : ∀ m ∈ d.weights P t, m ≤ reachBytes) : ∃ x, Fits sh x ∧ RelA (Mem.all W) (.d x) v := by
  obtain ⟨a, rfl, _⟩ := open_int hu hok h
  exact arg_cell hs rfl h hw

theorem arg_bool {sh : Sh} (hu : P.underlying t = some .bool) (hok : Value.okWide P W .any base t v) (hs : shapes P n t = some [sh]) (h : DataW.Trod enc P W 0 (fun _ => true) true t v d p)
    (hw : ∀ m ∈ d.weights P t, m ≤ reachBytes) : ∃ x, Fits sh x ∧ RelA (Mem.all W) (.d x) v := by
  obtain ⟨a, rfl, _⟩ := open_bool hu hok h
  exact arg_cell hs rfl h hw

theorem arg_agg_of {shs : List Sh} {cs : Array Value} (hs : shapes P n t = some shs) (h : DataW.Trod enc P W 0 (fun _ => true) true t (.agg cs) d p) (hw : ∀ m ∈ d.weights P t, m ≤ reachBytes) : ∃ xs : List DV, FitsL shs xs ∧ RelA (Mem.all W) (.agg (xs.map .d)) (.agg cs) := by
  obtain ⟨fuel, hf⟩ := h
  obtain ⟨ds, g1, g2⟩ := reads n t _ fuel _ _ hs hf hw
  exact ⟨ds, g1, (RelDs.rel (M := Mem.all W) g2).to_agg⟩

theorem arg_struct {fs : Array Field} {shs : List Sh} (hu : P.underlying t = some (.struct fs)) (hok : Value.okWide P W .any base t v) (hs : shapes P n t = some shs) (h : DataW.Trod enc P W 0 (fun _ => true) true t v d p)
    (hw : ∀ m ∈ d.weights P t, m ≤ reachBytes) : ∃ xs : List DV, FitsL shs xs ∧ RelA (Mem.all W) (.agg (xs.map .d)) v := by
  simp only [Value.okWide, hu] at hok
  obtain ⟨cs, rfl, _⟩ := hok
  exact arg_agg_of hs h hw

theorem arg_array {m : Nat} {e : TypeId} {shs : List Sh} (hu : P.underlying t = some (.array m e)) (hok : Value.okWide P W .any base t v) (hs : shapes P n t = some shs) (h : DataW.Trod enc P W 0 (fun _ => true) true t v d p)
    (hw : ∀ m ∈ d.weights P t, m ≤ reachBytes) : ∃ xs : List DV, FitsL shs xs ∧ RelA (Mem.all W) (.agg (xs.map .d)) v := by
  simp only [Value.okWide, hu] at hok
  obtain ⟨cs, rfl, _⟩ := hok
  exact arg_agg_of hs h hw

theorem Below.of_ext {M' : Mem} (h : Ext (Mem.all W) M') : Go.RowKit.Below W.heap.size W M'.w :=
  ⟨h.os, h.tape, h.output, h.size, fun k hk => h.old k hk⟩

/-- Bytes. -/
theorem fits_bytes {d : DV} (h : Fits (.sl 1 [.int .u8]) d) : ∃ b : BV, d = b.dv ∧ b.l.length ≤ reachBytes := by
  cases d with
  | snil => exact ⟨.nil, rfl, by simp [BV.l]⟩
  | sl size elems ex =>
    simp only [Fits, List.length_cons, List.length_nil] at h
    obtain ⟨rfl, rfl, hl, he⟩ := h
    have key : ∀ l : List (List DV), (∀ x ∈ l, FitsL [.int .u8] x) → ∃ bs : List UInt8, l = bs.map eB := by
      intro l
      induction l with
      | nil => exact fun _ => ⟨[], rfl⟩
      | cons x l ih =>
        intro hx
        obtain ⟨bs, hbs⟩ := ih fun y hy => hx y (by simp [hy])
        have h0 := hx x (by simp)
        match x, h0 with
        | [.int k n], h0 =>
          simp only [FitsL, Fits, and_true] at h0
          obtain ⟨rfl, h1, h2⟩ := h0
          have h1' : 0 ≤ n := h1
          have h2' : n ≤ 255 := h2
          refine ⟨UInt8.ofNat n.toNat :: bs, ?_⟩
          have : (UInt8.ofNat n.toNat).toNat = n.toNat := by rw [UInt8.toNat_ofNat']; omega
          simp only [List.map_cons, eB, this, hbs]
          congr 3
          omega
    obtain ⟨bs, rfl⟩ := key elems he
    exact ⟨.mk bs false, rfl, by simpa [BV.l] using hl⟩
  | bool b => simp [Fits] at h
  | int k n => simp [Fits] at h
  | str s => simp [Fits] at h
end
end Go.R
