/-
  The abstract layer, part 9b: maps, iterators.
-/
import Derived.Test.YtikgnakhciklaaaGreatDoorRj
import Derived.RangeFuncRecord
import Derived.MapKept
namespace Go.R
set_option linter.unusedSectionVars false
variable [Syms]
set_option linter.unusedSimpArgs false
set_option linter.unusedVariables false

/-! ### An object that holds no cells is turned -/

def Obj.notCells : Obj → Bool
  | .cells _ _ _ | .deferred _ => false
  | _ => true

theorem ext_putObj {M : Mem} {b : Nat} {old ob : Obj} (hb : M.w.heap[b]? = some old) (hn : Obj.notCells old = true) (hI : ¬ M.I b) : Ext M (M.withW (M.w.putObj b ob)) where
  I _ h := h
  old c hc := World.putObj_heap_other (fun e => hI (e ▸ hc))
  r _ _ := rfl
  o _ _ := rfl
  k := Nat.le_refl _
  shape c ds t fz hc := by
    refine ⟨ds, fz, (World.putObj_heap_other fun e => ?_).trans hc, rfl⟩
    subst e; rw [hb] at hc; cases hc; simp [Obj.notCells] at hn
  size := by show _ ≤ (M.w.putObj b ob).heap.size; simp [World.putObj]
  defs c hc := by
    refine (World.putObj_heap_other fun e => ?_).trans hc
    subst e; rw [hb] at hc; cases hc; simp [Obj.notCells] at hn
  os := rfl
  tape := rfl
  output := rfl

/-- A live object that holds no cells becomes another one. -/
theorem St.putObj {M : Mem} {H : List AObj} (hs : St M H) {i : Nat} {x : AObj} (hi : H[i]? = some x) (hl : x.live) {old : Obj} (hb : M.w.heap[M.r i]? = some old) (hn : Obj.notCells old = true) (ob : Obj) (x' : AObj)
    (hx : Ext M (M.withW (M.w.putObj (M.r i) ob)) → (M.w.putObj (M.r i) ob).heap[M.r i]? = some ob → RelO (M.withW (M.w.putObj (M.r i) ob)) i x') :
    Ext M (M.withW (M.w.putObj (M.r i) ob)) ∧ St (M.withW (M.w.putObj (M.r i) ob)) (H.set i x') := by
  have e := ext_putObj (ob := ob) hb hn (hs.fresh i x hi hl)
  exact ⟨e, hs.upd e rfl rfl rfl rfl hi hl (fun b hb => World.putObj_heap_other hb) (hx e (World.putObj_heap_same (some_lt hb)))⟩

theorem run_getObj_at {P : Program} {w : World} {b : Nat} {o : Obj} (h : w.heap[b]? = some o) (hn : Obj.notCells o = true) : (getObj b).run P w = .ok o w := by
  cases o <;> simp_all [getObj, Sem.run, Obj.notCells]
theorem run_setObj_at' {P : Program} {w : World} {b : Nat} {o : Obj} (h : w.heap[b]? = some o) (hn : Obj.notCells o = true) (o' : Obj) : (setObj b o').run P w = .ok () (w.putObj b o') := by
  cases o <;> simp_all [setObj, Sem.run, World.putObj, Obj.notCells]

/-! ### Keys -/

/-- May keys of a type be compared here, and are two keys the same? -/
def keyT (P : Program) (kt : TypeId) : Bool :=
  match P.underlying kt with
  | some (.int _) | some .string | some (.pointer _) => true
  | _ => false

def akeq (P : Program) (H : List AObj) (kt : TypeId) (x y : AV) : Prop × Bool :=
  match P.underlying kt, x, y with
  | some (.int _), .d (.int j a), .d (.int k b) => (j = k, a == b)
  | some .string, .d (.str a), .d (.str b) => (True, a == b)
  | some (.pointer _), .ptr i a, .ptr j b => ((aeq P H kt (.ptr i a) (.ptr j b)).1, decide (i = j ∧ a = b))
  | _, _, _ => (False, false)

def afind (P : Program) (H : List AObj) (kt : TypeId) (k : AV) : List (Nat × AV × AV) → Nat → Prop × Option (Nat × AV)
  | [], _ => (True, none)
  | (_, k', v) :: es, i =>
    if (akeq P H kt k k').2 = true then ((akeq P H kt k k').1, some (i, v))
    else ((akeq P H kt k k').1 ∧ (afind P H kt k es (i + 1)).1, (afind P H kt k es (i + 1)).2)

/-- Entries, one by one. -/
def RelE (M : Mem) (es : List (Nat × AV × AV)) (ces : List MapEntry) : Prop :=
  ces.length = es.length ∧ ∀ (j b : Nat) (k v : AV) (e : MapEntry), es[j]? = some (b, k, v) → ces[j]? = some e → e.born = b ∧ RelA M k e.key ∧ RelA M v e.val

theorem RelE.head {M : Mem} {b : Nat} {k v : AV} {es : List (Nat × AV × AV)} {ces : List MapEntry} (h : RelE M ((b, k, v) :: es) ces) :
    ∃ e ces', ces = e :: ces' ∧ e.born = b ∧ RelA M k e.key ∧ RelA M v e.val ∧ RelE M es ces' := by
  cases ces with
  | nil => have := h.1; simp at this
  | cons e ces' =>
    obtain ⟨h1, h2, h3⟩ := h.2 0 b k v e rfl rfl
    exact ⟨e, ces', rfl, h1, h2, h3, by simpa using h.1, fun j b k v e' hj hc => h.2 (j + 1) b k v e' (by simpa using hj) (by simpa using hc)⟩

theorem RelE.nil_inv {M : Mem} {ces : List MapEntry} (h : RelE M [] ces) : ces = [] := List.eq_nil_of_length_eq_zero (by simpa using h.1)

/-- The same keys hold the same. -/
theorem akeq_same {P : Program} {M : Mem} {H : List AObj} {kt : TypeId} {x y : AV} {c d : Value} (hx : RelA M x c) (hy : RelA M y d) (hok : (akeq P H kt x y).1) (he : (akeq P H kt x y).2 = true) : c = d := by
  have h := And.intro hok he
  clear hok he
  unfold akeq at h
  split at h
  · obtain rfl := hx.int_inv
    obtain rfl := hy.int_inv
    simp only [beq_iff_eq] at h
    rw [h.1, h.2]
  · obtain ⟨b, rfl, rfl⟩ := hx.str_inv
    obtain ⟨b', rfl, h2⟩ := hy.str_inv
    simp only [beq_iff_eq, true_and] at h
    rw [← h] at h2
    congr 1
    obtain ⟨⟨l⟩⟩ := b
    obtain ⟨⟨l'⟩⟩ := b'
    simp at h2
    subst h2
    rfl
  · obtain ⟨rfl, _⟩ := hx.ptr_inv
    obtain ⟨rfl, _⟩ := hy.ptr_inv
    simp only [decide_eq_true_eq] at h
    rw [h.2.1, h.2.2]
  · exact h.1.elim

theorem bytes_beq' (b c : ByteArray) : (b == c) = (b.data.toList == c.data.toList) := by
  rw [Bool.eq_iff_iff, Go.MapKept.bytes_beq, beq_iff_eq]
  constructor
  · rintro rfl; rfl
  · intro h
    obtain ⟨⟨l⟩⟩ := b
    obtain ⟨⟨l'⟩⟩ := c
    simp at h
    subst h
    rfl

theorem run_findNow_int {P : Program} {M : Mem} {H : List AObj} {kt : TypeId} {kk : IntKind} (hu : P.underlying kt = some (.int kk)) {x : AV} {c : Value} (hx : RelA M x c) :
    ∀ (es : List (Nat × AV × AV)) (ces : List MapEntry) (i : Nat), RelE M es ces → (afind P H kt x es i).1 →
    ∃ r, Instr.findNow (.int kk) c ces i = some r ∧ (match (afind P H kt x es i).2 with | none => r = none | some (j, v) => ∃ cv, r = some (j, cv) ∧ RelA M v cv)
  | [], ces, i, hr, _ => by
    obtain rfl := hr.nil_inv
    exact ⟨none, rfl, rfl⟩
  | (b, k, v) :: es, ces, i, hr, hok => by
    obtain ⟨e, ces', rfl, _, hk, hv, hr'⟩ := hr.head
    have key : (akeq P H kt x k).1 := by
      unfold afind at hok
      split at hok
      · exact hok
      · exact hok.1
    have hsame : Instr.sameNow (.int kk) c e.key = some (akeq P H kt x k).2 := by
      unfold akeq at key ⊢
      simp only [hu] at key ⊢
      split at key
      · obtain rfl := hx.int_inv
        obtain h := hk.int_inv
        rw [h]
        simp only at key
        simp [Instr.sameNow, key]
      · rename_i h; cases h
      · rename_i h; cases h
      · exact key.elim
    unfold afind at hok ⊢
    simp only [Instr.findNow, hsame]
    by_cases he : (akeq P H kt x k).2 = true
    · rw [he]
      simp only [if_true]
      exact ⟨_, rfl, e.val, rfl, hv⟩
    · rw [if_neg he] at hok
      rw [Bool.not_eq_true] at he
      rw [he]
      simp only [Bool.false_eq_true, if_false]
      exact run_findNow_int hu hx es ces' (i + 1) hr' hok.2

theorem run_findNow_str {P : Program} {M : Mem} {H : List AObj} {kt : TypeId} (hu : P.underlying kt = some .string) {x : AV} {c : Value} (hx : RelA M x c) :
    ∀ (es : List (Nat × AV × AV)) (ces : List MapEntry) (i : Nat), RelE M es ces → (afind P H kt x es i).1 →
    ∃ r, Instr.findNow .string c ces i = some r ∧ (match (afind P H kt x es i).2 with | none => r = none | some (j, v) => ∃ cv, r = some (j, cv) ∧ RelA M v cv)
  | [], ces, i, hr, _ => by
    obtain rfl := hr.nil_inv
    exact ⟨none, rfl, rfl⟩
  | (b, k, v) :: es, ces, i, hr, hok => by
    obtain ⟨e, ces', rfl, _, hk, hv, hr'⟩ := hr.head
    have key : (akeq P H kt x k).1 := by
      unfold afind at hok
      split at hok
      · exact hok
      · exact hok.1
    have hsame : Instr.sameNow .string c e.key = some (akeq P H kt x k).2 := by
      unfold akeq at key ⊢
      simp only [hu] at key ⊢
      split at key
      · rename_i h; cases h
      · obtain ⟨b, rfl, rfl⟩ := hx.str_inv
        obtain ⟨b', h, rfl⟩ := hk.str_inv
        rw [h]
        simp [Instr.sameNow, bytes_beq']
      · rename_i h; cases h
      · exact key.elim
    unfold afind at hok ⊢
    simp only [Instr.findNow, hsame]
    by_cases he : (akeq P H kt x k).2 = true
    · rw [he]
      simp only [if_true]
      exact ⟨_, rfl, e.val, rfl, hv⟩
    · rw [if_neg he] at hok
      rw [Bool.not_eq_true] at he
      rw [he]
      simp only [Bool.false_eq_true, if_false]
      exact run_findNow_str hu hx es ces' (i + 1) hr' hok.2

theorem run_findAsking {P : Program} {M : Mem} {H : List AObj} (hs : St M H) {kt pe : TypeId} (hu : P.underlying kt = some (.pointer pe)) {x : AV} {c : Value} (hx : RelA M x c) :
    ∀ (es : List (Nat × AV × AV)) (ces : List MapEntry) (i : Nat), RelE M es ces → (afind P H kt x es i).1 →
    ∃ r, (Instr.findAsking kt c ces i).run P M.w = .ok r M.w ∧ (match (afind P H kt x es i).2 with | none => r = none | some (j, v) => ∃ cv, r = some (j, cv) ∧ RelA M v cv)
  | [], ces, i, hr, _ => by
    obtain rfl := hr.nil_inv
    exact ⟨none, rfl, rfl⟩
  | (b, k, v) :: es, ces, i, hr, hok => by
    obtain ⟨e, ces', rfl, _, hk, hv, hr'⟩ := hr.head
    have key : (akeq P H kt x k).1 := by
      unfold afind at hok
      split at hok
      · exact hok
      · exact hok.1
    have hsame : (Op.equal kt c e.key).run P M.w = .ok (akeq P H kt x k).2 M.w := by
      unfold akeq at key ⊢
      simp only [hu] at key ⊢
      split at key
      · rename_i h; cases h
      · rename_i h; cases h
      · exact (run_aeq hs kt hx hk key).1
      · exact key.elim
    unfold afind at hok ⊢
    simp only [Instr.findAsking, Sem.run_bind, hsame, Result.andThen_ok]
    by_cases he : (akeq P H kt x k).2 = true
    · rw [he]
      simp only [if_true]
      exact ⟨_, rfl, e.val, rfl, hv⟩
    · rw [if_neg he] at hok
      rw [Bool.not_eq_true] at he
      rw [he]
      simp only [Bool.false_eq_true, if_false]
      exact run_findAsking hs hu hx es ces' (i + 1) hr' hok.2

theorem run_findKey {P : Program} {M : Mem} {H : List AObj} (hs : St M H) {kt : TypeId} (hk : keyT P kt = true) {x : AV} {c : Value} (hx : RelA M x c) {es : List (Nat × AV × AV)} {ces : List MapEntry} (hr : RelE M es ces)
    (hok : (afind P H kt x es 0).1) : ∃ r, (Instr.findKey kt c ces).run P M.w = .ok r M.w ∧ (match (afind P H kt x es 0).2 with | none => r = none | some (j, v) => ∃ cv, r = some (j, cv) ∧ RelA M v cv) := by
  unfold keyT at hk
  split at hk
  · rename_i kk hu
    obtain ⟨r, h1, h2⟩ := run_findNow_int hu hx es ces 0 hr hok
    exact ⟨r, by simp [Instr.findKey, run_underlying hu, h1], h2⟩
  · rename_i hu
    obtain ⟨r, h1, h2⟩ := run_findNow_str hu hx es ces 0 hr hok
    exact ⟨r, by simp [Instr.findKey, run_underlying hu, h1], h2⟩
  · rename_i pe hu
    cases es with
    | nil =>
      obtain rfl := hr.nil_inv
      exact ⟨none, by simp [Instr.findKey, run_underlying hu, Instr.findNow], rfl⟩
    | cons e0 es0 =>
      obtain ⟨b, k, v⟩ := e0
      obtain ⟨e, ces', rfl, _, hk', hv, hr'⟩ := hr.head
      have hn : Instr.findNow (.pointer pe) c (e :: ces') 0 = none := by
        have : Instr.sameNow (.pointer pe) c e.key = none := by
          unfold Instr.sameNow
          split <;> simp_all
        simp [Instr.findNow, this]
      obtain ⟨r, h1, h2⟩ := run_findAsking hs hu hx ((b, k, v) :: es0) (e :: ces') 0 hr hok
      exact ⟨r, by simp [Instr.findKey, run_underlying hu, hn, h1], h2⟩
  · simp at hk

theorem run_checkKey {P : Program} {w : World} {kt : TypeId} (hk : keyT P kt = true) (b : Bool) (c : Value) : (Instr.checkKey b 10000 kt c).run P w = .ok () w := by
  unfold keyT at hk
  have e : ∀ n, (Instr.checkKey b (n + 1) kt c).run P w = .ok () w := by
    intro n
    split at hk
    · rename_i hu; simp [Instr.checkKey, run_underlying hu]
    · rename_i hu; simp [Instr.checkKey, run_underlying hu]
    · rename_i hu; simp [Instr.checkKey, run_underlying hu]
    · simp at hk
  exact e 9999

/-! ### Making, looking up -/

def tMap (P : Program) (t : TypeId) : Option (TypeId × TypeId) := (P.underlying t).bind fun | .map k e => some (k, e) | _ => none
theorem of_tMap {P : Program} {t k e : TypeId} (h : tMap P t = some (k, e)) : P.underlying t = some (.map k e) := by
  unfold tMap at h
  cases hu : P.underlying t with
  | none => simp [hu] at h
  | some d => cases d <;> simp_all

def azero (P : Program) (t : TypeId) : Option AV := ((P.info? t).bind (·.zero)).map cv

def amakeMap (P : Program) (H : List AObj) (t : TypeId) (r : Option AV) : ARes :=
  match r with
  | none => ⟨True, .map H.length, H ++ [.map [] 0]⟩
  | some (.d (.int _ _)) => ⟨(tMap P t).isSome = true, .map H.length, H ++ [.map [] 0]⟩
  | _ => fail H

theorem rel_map_new {M : Mem} {H : List AObj} (hs : St M H) (ob : Obj) : RelA (M.push ob) (.map H.length) (.map (some M.w.heap.size)) := by
  have h := RelA.map (M := M.push ob) H.length (by simp [Mem.push, hs.k])
  have e1 : (M.push ob).r H.length = M.w.heap.size := by simp [Mem.push, hs.k]
  rwa [e1] at h

theorem push_at {M : Mem} {H : List AObj} (hs : St M H) (ob : Obj) : (M.push ob).w.heap[(M.push ob).r H.length]? = some ob := by
  have : (M.push ob).r H.length = M.w.heap.size := by simp [Mem.push, hs.k]
  rw [this]; exact heap_alloc_at _ _
theorem push_o {M : Mem} {H : List AObj} (hs : St M H) (ob : Obj) : (M.push ob).o H.length = 0 := by simp [Mem.push, hs.k]

theorem sound_makeMap {P : Program} {M : Mem} {H : List AObj} (hs : St M H) (t : TypeId) {r : Option AV} {cr : Option Value} (hr : RelOpt M r cr) : SoundV P (Instr.makeMap t cr) M (amakeMap P H t r) := by
  have new : Ext M (M.push (.map #[] 0)) ∧ St (M.push (.map #[] 0)) (H ++ [.map [] 0]) ∧ RelA (M.push (.map #[] 0)) (.map H.length) (.map (some M.w.heap.size)) :=
    ⟨hs.ext_push _, hs.push _ _ ⟨#[], push_at hs _, rfl, fun j b k v e h => by simp at h⟩, rel_map_new hs _⟩
  unfold amakeMap
  cases hr with
  | none =>
    intro _
    exact ⟨_, M.push (.map #[] 0), by simp [Instr.makeMap, Mem.push], new.1, new.2.1, new.2.2⟩
  | some h =>
    split
    · rename_i hh; cases hh
    · rename_i k n hh
      cases hh
      obtain rfl := h.int_inv
      intro hok
      simp only [Option.isSome_iff_exists] at hok
      obtain ⟨⟨k', e'⟩, hm⟩ := hok
      exact ⟨_, M.push (.map #[] 0), by simp [Instr.makeMap, run_underlying (of_tMap hm), Mem.push, asInt, asIntOf], new.1, new.2.1, new.2.2⟩
    · exact .fail

def hmap (H : List AObj) : AV → Option (List (Nat × AV × AV))
  | .mnil => some []
  | .map i => match H[i]? with | some (.map es _) => some es | _ => none
  | _ => none

def alookup (P : Program) (H : List AObj) (t : TypeId) (m k : AV) (commaOk : Bool) : ARes :=
  match tMap P t, hmap H m with
  | some (kt, et), some es =>
    match (afind P H kt k es 0).2, azero P et with
    | some (_, v), _ => ⟨keyT P kt = true ∧ (afind P H kt k es 0).1, if commaOk = true then .tup [v, .d (.bool true)] else v, H⟩
    | none, some z => ⟨keyT P kt = true ∧ (afind P H kt k es 0).1, if commaOk = true then .tup [z, .d (.bool false)] else z, H⟩
    | none, none => fail H
  | _, _ => fail H

theorem hmap_inv {M : Mem} {H : List AObj} (hs : St M H) {m : AV} {c : Value} (hm : RelA M m c) {es : List (Nat × AV × AV)} (h : hmap H m = some es) :
    (c = .map none ∧ es = []) ∨ ∃ (b : Nat) (ces : Array MapEntry) (clock : Nat), c = .map (some b) ∧ M.w.heap[b]? = some (.map ces clock) ∧ RelE M es ces.toList := by
  unfold hmap at h
  split at h
  · obtain rfl := hm.mnil_inv
    exact .inl ⟨rfl, by simpa using h.symm⟩
  · rename_i i
    obtain ⟨rfl, hi⟩ := hm.map_inv
    split at h
    · rename_i es' clock he
      simp at h; subst h
      obtain ⟨ces, h1, h2, h3⟩ := hs.obj i _ he
      exact .inr ⟨M.r i, ces, clock, rfl, h1, by simpa using h2, fun j b k v e hj hc => h3 j b k v e hj (by simpa using hc)⟩
    · simp at h
  · simp at h

theorem RelA.tup2 {M : Mem} {x y : AV} {c d : Value} (h : RelA M x c) (g : RelA M y d) : RelA M (.tup [x, y]) (.tuple #[c, d]) :=
  RelL.to_tup (RelL.cons h (RelL.cons g (RelL.nil M)))

theorem sound_lookup {P : Program} {M : Mem} {H : List AObj} (hs : St M H) (t : TypeId) (commaOk : Bool) {m k : AV} {c d : Value} (hm : RelA M m c) (hk : RelA M k d) : SoundV P (Instr.lookup t c d commaOk) M (alookup P H t m k commaOk) := by
  unfold alookup
  split
  · rename_i kt et es ht he
    have hu := of_tMap ht
    have core : ∀ ces : Array MapEntry, RelE M es ces.toList → keyT P kt = true → (afind P H kt k es 0).1 → ∃ r, (Instr.findKey kt d ces.toList).run P M.w = .ok r M.w ∧
        (match (afind P H kt k es 0).2 with | none => r = none | some (j, v) => ∃ cv, r = some (j, cv) ∧ RelA M v cv) := fun ces hr hkt hok => run_findKey hs hkt hk hr hok
    have fin : ∀ (v : AV) (cv : Value) (b : Bool), RelA M v cv → RelA M (if commaOk = true then .tup [v, .d (.bool b)] else v) (if commaOk then .tuple #[cv, .bool b] else cv) := by
      intro v cv b h
      cases commaOk
      · exact h
      · exact h.tup2 (.d _ _ (.bool b))
    split
    · rename_i j v hf
      refine .pure hs rfl fun hok => ?_
      obtain ⟨hkt, hok⟩ := hok
      rcases hmap_inv hs hm he with ⟨rfl, rfl⟩ | ⟨b, ces, clock, rfl, hb, hr⟩
      · simp [afind] at hf
      · obtain ⟨r, h1, h2⟩ := core ces hr hkt hok
        rw [hf] at h2
        obtain ⟨cv, rfl, hv⟩ := h2
        exact ⟨_, by simp [Instr.lookup, run_underlying hu, run_getObj_at hb rfl, run_checkKey hkt, h1], fin v cv true hv⟩
    · rename_i z hf hz
      refine .pure hs rfl fun hok => ?_
      obtain ⟨hkt, hok⟩ := hok
      unfold azero at hz
      cases hi : P.info? et with
      | none => simp [hi] at hz
      | some inf =>
        cases hzv : inf.zero with
        | none => simp [hi, hzv] at hz
        | some zv =>
          simp [hi, hzv] at hz
          have hzr : (zeroValue et).run P M.w = .ok zv M.w := by simp [zeroValue, typeInfo, hi, hzv]
          have hzrel : RelA M z zv := hz ▸ cv_rel M zv
          rcases hmap_inv hs hm he with ⟨rfl, rfl⟩ | ⟨b, ces, clock, rfl, hb, hr⟩
          · obtain ⟨r, h1, h2⟩ := core #[] ⟨rfl, fun j b k v e h => by simp at h⟩ hkt hok
            rw [hf] at h2
            subst h2
            simp only [Array.toList_empty] at h1
            exact ⟨_, by simp [Instr.lookup, run_underlying hu, run_checkKey hkt, h1, hzr], fin z zv false hzrel⟩
          · obtain ⟨r, h1, h2⟩ := core ces hr hkt hok
            rw [hf] at h2
            subst h2
            exact ⟨_, by simp [Instr.lookup, run_underlying hu, run_getObj_at hb rfl, run_checkKey hkt, h1, hzr], fin z zv false hzrel⟩
    · exact .fail
  · exact .fail

/-! ### Writing, deleting -/

def amapUpdate (P : Program) (H : List AObj) (t : TypeId) (m k v : AV) : ARes :=
  match tMap P t, m with
  | some (kt, _), .map i =>
    match H[i]? with
    | some (.map es clock) =>
      match (afind P H kt k es 0).2 with
      | some (j, _) => ⟨keyT P kt = true ∧ (afind P H kt k es 0).1, .tup [], H.set i (.map (es.modify j fun e => (e.1, k, v)) clock)⟩
      | none => ⟨keyT P kt = true ∧ (afind P H kt k es 0).1, .tup [], H.set i (.map (es ++ [(clock, k, v)]) (clock + 1))⟩
    | _ => fail H
  | _, _ => fail H

/-- Where a key is found, it stands. -/
theorem afind_at {P : Program} {M : Mem} {H : List AObj} {kt : TypeId} {x : AV} {c : Value} (hx : RelA M x c) : ∀ (es : List (Nat × AV × AV)) (ces : List MapEntry) (i j : Nat) (v : AV), RelE M es ces → (afind P H kt x es i).1 → (afind P H kt x es i).2 = some (j, v) →
    i ≤ j ∧ ∃ e, ces[j - i]? = some e ∧ e.key = c
  | [], _, i, j, v, _, _, h => by simp [afind] at h
  | (b, k, u) :: es, ces, i, j, v, hr, hok, h => by
    obtain ⟨e, ces', rfl, _, hk, _, hr'⟩ := hr.head
    unfold afind at hok h
    by_cases he : (akeq P H kt x k).2 = true
    · rw [if_pos he] at hok h
      simp only [Option.some.injEq, Prod.mk.injEq] at h
      obtain ⟨rfl, rfl⟩ := h
      exact ⟨Nat.le_refl _, e, by simp, (akeq_same hx hk hok he).symm⟩
    · rw [if_neg he] at hok h
      obtain ⟨h1, e', h2, h3⟩ := afind_at hx es ces' (i + 1) j v hr' hok.2 h
      refine ⟨by omega, e', ?_, h3⟩
      have : j - i = (j - (i + 1)) + 1 := by omega
      rw [this]
      simpa using h2

theorem sameBits_refl {M : Mem} {H : List AObj} {P : Program} {kt : TypeId} {x y : AV} {c : Value} (hx : RelA M x c) (hok : (akeq P H kt x y).1) : Instr.sameBits 10000 c c = true := by
  unfold akeq at hok
  split at hok
  · obtain rfl := hx.int_inv
    simp [Instr.sameBits]
  · obtain ⟨b, rfl, _⟩ := hx.str_inv
    simp [Instr.sameBits, bytes_beq']
  · obtain ⟨rfl, _⟩ := hx.ptr_inv
    simp [Instr.sameBits]
  · exact hok.elim

theorem afind_bits {P : Program} {M : Mem} {H : List AObj} {kt : TypeId} {x : AV} {c : Value} (hx : RelA M x c) : ∀ (es : List (Nat × AV × AV)) (i j : Nat) (v : AV), (afind P H kt x es i).1 → (afind P H kt x es i).2 = some (j, v) → Instr.sameBits 10000 c c = true
  | [], i, j, v, _, h => by simp [afind] at h
  | (b, k, u) :: es, i, j, v, hok, h => by
    unfold afind at hok
    split at hok
    · exact sameBits_refl hx hok
    · exact sameBits_refl hx hok.1

theorem RelE.ext {M M' : Mem} (e : Ext M M') {es : List (Nat × AV × AV)} {ces : List MapEntry} (h : RelE M es ces) : RelE M' es ces :=
  ⟨h.1, fun j b k v en hj hc => by obtain ⟨h1, h2, h3⟩ := h.2 j b k v en hj hc; exact ⟨h1, h2.ext e, h3.ext e⟩⟩

theorem RelO.map_mk {M : Mem} {i clock : Nat} {es : List (Nat × AV × AV)} {ces : Array MapEntry} (hb : M.w.heap[M.r i]? = some (.map ces clock)) (h : RelE M es ces.toList) : RelO M i (.map es clock) :=
  ⟨ces, hb, by simpa using h.1, fun j b k v e hj hc => h.2 j b k v e hj (by simpa using hc)⟩

theorem sound_mapUpdate {P : Program} {M : Mem} {H : List AObj} (hs : St M H) (t : TypeId) {m k v : AV} {c d x : Value} (hm : RelA M m c) (hk : RelA M k d) (hv : RelA M v x) :
    Sound P (do Instr.mapUpdate t c d x; pure .skip) M (amapUpdate P H t m k v) := by
  unfold amapUpdate
  split
  · rename_i kt et i ht
    have hu := of_tMap ht
    obtain ⟨rfl, hi⟩ := hm.map_inv
    split
    · rename_i es clock he
      obtain ⟨ces, h1, h2, h3⟩ := hs.obj i _ he
      have hr : RelE M es ces.toList := ⟨by simpa using h2, fun j b k v e hj hc => h3 j b k v e hj (by simpa using hc)⟩
      have undefR : ∀ M' : Mem, RelA M' (.tup []) undef := fun M' => .tup [] #[] rfl (fun j h => absurd h (by simp))
      split
      · rename_i j u hf
        intro hok
        obtain ⟨hkt, hok⟩ := hok
        obtain ⟨r, g1, g2⟩ := run_findKey hs hkt hk hr hok
        rw [hf] at g2
        obtain ⟨cv, rfl, _⟩ := g2
        obtain ⟨_, e, a1, a2⟩ := afind_at hk es ces.toList 0 j u hr hok hf
        have hbits := afind_bits hk es 0 j u hok hf
        have hkey : (((ces[j]?).map (·.key)).getD d) = d := by
          rw [Nat.sub_zero, Array.getElem?_toList] at a1
          rw [a1]; simpa using a2
        have hst : (Instr.keyThatStays d d).run P M.w = .ok d M.w := by simp [Instr.keyThatStays, hbits]
        obtain ⟨e1, s1⟩ := hs.putObj he trivial h1 rfl (.map (ces.modify j fun e => { e with key := d, val := x }) clock) (.map (es.modify j fun e => (e.1, k, v)) clock) (fun e1 hb => by
          refine RelO.map_mk hb ⟨by simp [h2], fun q b k' v' en hj hc => ?_⟩
          simp only [Array.toList_modify] at hc
          rw [List.getElem?_modify] at hj hc
          cases ho : es[q]? with
          | none => simp [ho] at hj
          | some p =>
            obtain ⟨b0, k0, v0⟩ := p
            cases hq : ces.toList[q]? with
            | none => simp [hq] at hc
            | some en0 =>
              obtain ⟨r1, r2, r3⟩ := hr.2 q b0 k0 v0 en0 ho hq
              simp only [ho, hq, Option.map_eq_map, Option.map_some, Option.some.injEq] at hj hc
              by_cases hjq : j = q
              · simp only [hjq, if_true, Prod.mk.injEq] at hj hc
                obtain ⟨rfl, rfl, rfl⟩ := hj
                subst hc
                exact ⟨r1, hk.ext e1, hv.ext e1⟩
              · simp only [hjq, if_false, Prod.mk.injEq, id] at hj hc
                obtain ⟨rfl, rfl, rfl⟩ := hj
                subst hc
                exact ⟨r1, r2.ext e1, r3.ext e1⟩)
        refine ⟨.skip, undef, _, ?_, rfl, e1, s1, undefR _⟩
        simp [Instr.mapUpdate, run_underlying hu, run_getObj_at h1 rfl, run_checkKey hkt, g1, hkey, hst, run_setObj_at' h1 rfl]
        rfl
      · rename_i hf
        intro hok
        obtain ⟨hkt, hok⟩ := hok
        obtain ⟨r, g1, g2⟩ := run_findKey hs hkt hk hr hok
        rw [hf] at g2
        subst g2
        obtain ⟨e1, s1⟩ := hs.putObj he trivial h1 rfl (.map (ces.push { key := d, val := x, born := clock }) (clock + 1)) (.map (es ++ [(clock, k, v)]) (clock + 1)) (fun e1 hb => by
          refine RelO.map_mk hb ⟨by simp [h2], fun q b k' v' en hj hc => ?_⟩
          simp only [Array.toList_push] at hc
          by_cases hq : q < es.length
          · rw [List.getElem?_append_left hq] at hj
            rw [List.getElem?_append_left (by rw [Array.length_toList]; omega)] at hc
            obtain ⟨r1, r2, r3⟩ := hr.2 q b k' v' en hj hc
            exact ⟨r1, r2.ext e1, r3.ext e1⟩
          · have hl := get_lt hj
            simp only [List.length_append, List.length_cons, List.length_nil] at hl
            obtain rfl : q = es.length := by omega
            rw [List.getElem?_append_right (Nat.le_refl _)] at hj
            rw [List.getElem?_append_right (by rw [Array.length_toList]; omega)] at hc
            simp [h2] at hj hc
            obtain ⟨rfl, rfl, rfl⟩ := hj
            subst hc
            exact ⟨rfl, hk.ext e1, hv.ext e1⟩)
        refine ⟨.skip, undef, _, ?_, rfl, e1, s1, undefR _⟩
        simp [Instr.mapUpdate, run_underlying hu, run_getObj_at h1 rfl, run_checkKey hkt, g1, run_setObj_at' h1 rfl]
        rfl
    · exact .fail
  · exact .fail

def adelete (P : Program) (H : List AObj) (t : TypeId) (m k : AV) : ARes :=
  match tMap P t, m with
  | some (kt, _), .mnil => ⟨keyT P kt = true, .tup [], H⟩
  | some (kt, _), .map i =>
    match H[i]? with
    | some (.map es clock) =>
      match (afind P H kt k es 0).2 with
      | some (j, _) => ⟨keyT P kt = true ∧ (afind P H kt k es 0).1, .tup [], H.set i (.map (es.eraseIdx j) clock)⟩
      | none => ⟨keyT P kt = true ∧ (afind P H kt k es 0).1, .tup [], H.set i (.map es clock)⟩
    | _ => fail H
  | _, _ => fail H

theorem sound_delete {P : Program} {M : Mem} {H : List AObj} (hs : St M H) (t u ty : TypeId) {m k : AV} {c d : Value} (hm : RelA M m c) (hk : RelA M k d) :
    SoundV P (Builtin.delete_ #[t, u] ty #[c, d]) M (adelete P H t m k) := by
  have undefR : ∀ M' : Mem, RelA M' (.tup []) (.tuple #[]) := fun M' => .tup [] #[] rfl (fun j h => absurd h (by simp))
  unfold adelete
  split
  · rename_i kt et ht
    have hu := of_tMap ht
    obtain rfl := hm.mnil_inv
    refine .pure hs rfl fun hkt => ⟨.tuple #[], ?_, undefR _⟩
    simp [Builtin.delete_, run_underlying hu, run_checkKey hkt]
  · rename_i kt et i ht
    have hu := of_tMap ht
    obtain ⟨rfl, hi⟩ := hm.map_inv
    split
    · rename_i es clock he
      obtain ⟨ces, h1, h2, h3⟩ := hs.obj i _ he
      have hr : RelE M es ces.toList := ⟨by simpa using h2, fun j b k v e hj hc => h3 j b k v e hj (by simpa using hc)⟩
      split
      · rename_i j v hf
        intro hok
        obtain ⟨hkt, hok⟩ := hok
        obtain ⟨r, g1, g2⟩ := run_findKey hs hkt hk hr hok
        rw [hf] at g2
        obtain ⟨cv, rfl, _⟩ := g2
        obtain ⟨e1, s1⟩ := hs.putObj he trivial h1 rfl (.map (ces.eraseIdxIfInBounds j) clock) (.map (es.eraseIdx j) clock) (fun e1 hb => by
          have hl : (ces.eraseIdxIfInBounds j).toList = ces.toList.eraseIdx j := by simp
          refine RelO.map_mk hb ?_
          rw [hl]
          refine ⟨by simp [List.length_eraseIdx, h2], fun q b k' v' en hj hc => ?_⟩
          rw [List.getElem?_eraseIdx] at hj hc
          split at hj
          · rename_i hq
            rw [if_pos hq] at hc
            obtain ⟨r1, r2, r3⟩ := hr.2 q b k' v' en hj hc
            exact ⟨r1, r2.ext e1, r3.ext e1⟩
          · rename_i hq
            rw [if_neg hq] at hc
            obtain ⟨r1, r2, r3⟩ := hr.2 (q + 1) b k' v' en hj hc
            exact ⟨r1, r2.ext e1, r3.ext e1⟩)
        refine ⟨.tuple #[], _, ?_, e1, s1, undefR _⟩
        simp [Builtin.delete_, run_underlying hu, run_getObj_at h1 rfl, run_checkKey hkt, g1, run_setObj_at' h1 rfl]
        rfl
      · rename_i hf
        intro hok
        obtain ⟨hkt, hok⟩ := hok
        obtain ⟨r, g1, g2⟩ := run_findKey hs hkt hk hr hok
        rw [hf] at g2
        subst g2
        obtain ⟨e1, s1⟩ := hs.putObj he trivial h1 rfl (.map ces clock) (.map es clock) (fun e1 hb => RelO.map_mk hb (hr.ext e1))
        refine ⟨.tuple #[], _, ?_, e1, s1, undefR _⟩
        simp [Builtin.delete_, run_underlying hu, run_getObj_at h1 rfl, run_checkKey hkt, g1, run_setObj_at' h1 rfl]
        rfl
    · exact .fail
  · exact .fail

/-! ### Iterators -/

def arange (P : Program) (H : List AObj) (t : TypeId) (x : AV) : ARes :=
  match P.underlying t, x with
  | some .string, .d (.str s) => ⟨True, .ptr H.length 0, H ++ [.siter s 0]⟩
  | some (.map _ _), .mnil => ⟨True, .ptr H.length 0, H ++ [.iter none 0 [] 0]⟩
  | some (.map _ _), .map i =>
    match H[i]? with
    | some (.map _ clock) => ⟨True, .ptr H.length 0, H ++ [.iter (some i) clock [] clock]⟩
    | _ => fail H
  | _, _ => fail H

theorem sound_range {P : Program} {M : Mem} {H : List AObj} (hs : St M H) (t : TypeId) {x : AV} {c : Value} (hx : RelA M x c) : SoundV P (Instr.range t c) M (arange P H t x) := by
  unfold arange
  split
  · rename_i s hu
    obtain ⟨b, rfl, rfl⟩ := hx.str_inv
    intro _
    refine ⟨_, M.push (.stringIter b 0), ?_, hs.ext_push _, hs.push _ _ ⟨b, push_at hs _, rfl, push_o hs _⟩, rel_ptr_new hs _⟩
    simp [Instr.range, run_underlying hu, Mem.push]
  · rename_i k e hu
    obtain rfl := hx.mnil_inv
    intro _
    refine ⟨_, M.push (.mapIter none 0 #[] 0), ?_, hs.ext_push _, hs.push _ _ ⟨push_at hs _, fun j h => by simp at h, push_o hs _⟩, rel_ptr_new hs _⟩
    simp [Instr.range, run_underlying hu, Mem.push]
  · rename_i k e i hu
    obtain ⟨rfl, hi⟩ := hx.map_inv
    split
    · rename_i es clock he
      obtain ⟨ces, h1, h2, h3⟩ := hs.obj i _ he
      intro _
      refine ⟨_, M.push (.mapIter (some (M.r i)) clock #[] clock), ?_, hs.ext_push _, hs.push _ _ ⟨?_, fun j h => ?_, push_o hs _⟩, rel_ptr_new hs _⟩
      · simp [Instr.range, run_underlying hu, run_getObj_at h1 rfl, Mem.push]
      · rw [push_at hs]
        have : (M.push (.mapIter (some (M.r i)) clock #[] clock)).r i = M.r i := (hs.ext_push _).r i hi
        simp [this]
      · simp at h; subst h; show i < M.k + 1; omega
    · exact .fail
  · exact .fail

/-- What the next of a string is. -/
def anextS (H : List AObj) (it : AV) : ARes :=
  match it with
  | .ptr i 0 =>
    match H[i]? with
    | some (.siter s pos) =>
      if pos < s.length then ⟨True, .tup [.d (.bool true), .d (.int .i64 pos), .d (.int .i32 (Utf8.decode ⟨s.toArray⟩ pos).1)], H.set i (.siter s (pos + (Utf8.decode ⟨s.toArray⟩ pos).2))⟩
      else ⟨True, .tup [.d (.bool false)], H⟩
    | _ => fail H
  | _ => fail H

theorem sound_nextS {P : Program} {M : Mem} {H : List AObj} (hs : St M H) (ty : TypeId) {x : AV} {c : Value} (hx : RelA M x c) : SoundV P (Instr.next c true ty) M (anextS H x) := by
  unfold anextS
  split
  · rename_i i
    obtain ⟨rfl, hi⟩ := hx.ptr_inv
    split
    · rename_i s pos he
      obtain ⟨b, h1, rfl, h3⟩ := hs.obj i _ he
      have hbb : (⟨b.data.toList.toArray⟩ : ByteArray) = b := by simp
      rw [hbb]
      have hlen : b.data.toList.length = b.size := by rw [Array.length_toList]; rfl
      rw [hlen, h3]
      split
      · rename_i hlt
        intro _
        obtain ⟨e1, s1⟩ := hs.putObj he trivial h1 rfl (.stringIter b (pos + (Utf8.decode b pos).2)) (.siter b.data.toList (pos + (Utf8.decode b pos).2)) (fun e1 hb => ⟨b, hb, rfl, h3⟩)
        refine ⟨.tuple #[.bool true, goInt pos, .int .i32 (Utf8.decode b pos).1], _, ?_, e1, s1, ?_⟩
        · simp [Instr.next, run_getObj_at h1 rfl, hlt, run_setObj_at' h1 rfl]
          rfl
        · exact RelL.to_tup (RelL.cons (.d _ _ (.bool _)) (RelL.cons (.d _ _ (.int _ _)) (RelL.cons (.d _ _ (.int _ _)) (RelL.nil _))))
      · rename_i hlt
        refine .pure hs rfl fun _ => ⟨.tuple #[.bool false], ?_, RelL.to_tup (RelL.cons (.d _ _ (.bool _)) (RelL.nil _))⟩
        simp [Instr.next, run_getObj_at h1 rfl, hlt]
    · exact .fail
  · exact .fail

/-- What may come next of a map: none: it is over; and whether the model speaks of it. -/
def mapCands (es : List (Nat × AV × AV)) (since : Nat) (seen : List Nat) : List (Option (Nat × AV × AV)) :=
  (if ((es.filter fun e => !seen.contains e.1).filter fun e => decide (e.1 < since)).isEmpty then [none] else []) ++
    (((es.filter fun e => !seen.contains e.1).filter fun e => decide (e.1 < since)) ++ ((es.filter fun e => !seen.contains e.1).filter fun e => decide (e.1 ≥ since))).map some

def anextM (H : List AObj) (it : AV) (K : AV → List AObj → Prop) : Prop :=
  match it with
  | .ptr i 0 =>
    match H[i]? with
    | some (.iter none _ _ _) => K (.tup [.d (.bool false)]) H
    | some (.iter (some m) since seen last) =>
      match H[m]? with
      | some (.map es clock) => ¬ (seen ≠ [] ∧ es ≠ [] ∧ ∀ e ∈ es, last ≤ e.1) ∧
          ∀ c ∈ mapCands es since seen, match c with
            | none => K (.tup [.d (.bool false)]) H
            | some (b, k, v) => K (.tup [.d (.bool true), k, v]) (H.set i (.iter (some m) since (seen ++ [b]) clock))
      | _ => False
    | _ => False
  | _ => False

theorem rel_filter {M : Mem} (p : Nat → Bool) : ∀ (es : List (Nat × AV × AV)) (ces : List MapEntry), RelE M es ces → RelE M (es.filter fun e => p e.1) (ces.filter fun e => p e.born)
  | [], ces, h => by
    obtain rfl := h.nil_inv
    exact ⟨rfl, fun j b k v e h => by simp at h⟩
  | (b, k, v) :: es, ces, h => by
    obtain ⟨e, ces', rfl, h1, h2, h3, h4⟩ := h.head
    have ih := rel_filter p es ces' h4
    simp only [List.filter_cons, h1]
    by_cases hp : p b = true
    · simp only [hp, if_true]
      refine ⟨by simp [ih.1], fun j b' k' v' e' hj hc => ?_⟩
      cases j with
      | zero =>
        simp at hj hc
        obtain ⟨rfl, rfl, rfl⟩ := hj
        subst hc
        exact ⟨h1, h2, h3⟩
      | succ j => exact ih.2 j b' k' v' e' (by simpa using hj) (by simpa using hc)
    · simp only [hp, if_false]
      exact ih

theorem RelE.append {M : Mem} {e1 e2 : List (Nat × AV × AV)} {c1 c2 : List MapEntry} (h : RelE M e1 c1) (g : RelE M e2 c2) : RelE M (e1 ++ e2) (c1 ++ c2) := by
  refine ⟨by simp [h.1, g.1], fun j b k v e hj hc => ?_⟩
  have e0 := h.1
  by_cases hl : j < e1.length
  · rw [List.getElem?_append_left hl] at hj
    rw [List.getElem?_append_left (by omega)] at hc
    exact h.2 j b k v e hj hc
  · rw [List.getElem?_append_right (by omega)] at hj
    rw [List.getElem?_append_right (by omega), e0] at hc
    exact g.2 _ b k v e hj hc

theorem mark_ok {P : Program} {M : Mem} {H : List AObj} (hs : St M H) (q : Question) : ∃ M' n, (choose q).run P M.w = .ok n M'.w ∧ Ext M M' ∧ St M' H ∧ M'.r = M.r ∧ M'.o = M.o ∧ M'.w.heap = M.w.heap ∧ (q.forced = true → n = 0) ∧ (q.forced = false → ∃ t, n = q.cut t) := by
  by_cases hf : q.forced = true
  · exact ⟨M, 0, by simp [hf], .refl M, hs, rfl, rfl, rfl, fun _ => rfl, fun h => by rw [hf] at h; cases h⟩
  · rw [Bool.not_eq_true] at hf
    exact ⟨M.withW M.w.drew, q.cut (M.w.tape M.w.drawn q), by simp [hf, Mem.withW], drew_ext, hs.drew, rfl, rfl, rfl, fun h => (by rw [hf] at h; cases h), fun _ => ⟨_, rfl⟩⟩

theorem sound_nextM {P : Program} {M : Mem} {H : List AObj} (hs : St M H) (ty : TypeId) {x : AV} {c : Value} (hx : RelA M x c) {K : AV → List AObj → Prop} (hok : anextM H x K) :
    ∃ cv M' v H', (Instr.next c false ty).run P M.w = .ok cv M'.w ∧ Ext M M' ∧ St M' H' ∧ RelA M' v cv ∧ K v H' := by
  unfold anextM at hok
  split at hok
  · rename_i i
    obtain ⟨rfl, hi⟩ := hx.ptr_inv
    split at hok
    · rename_i since seen last he
      obtain ⟨h1, h2, h3⟩ := hs.obj i _ he
      rw [h3]
      refine ⟨.tuple #[.bool false], M, _, H, ?_, .refl M, hs, RelL.to_tup (RelL.cons (.d _ _ (.bool _)) (RelL.nil _)), hok⟩
      simp [Instr.next, run_getObj_at h1 rfl]
    · rename_i m since seen last he
      obtain ⟨h1, h2, h3⟩ := hs.obj i _ he
      split at hok
      · rename_i es clock hm
        obtain ⟨hst, hall⟩ := hok
        obtain ⟨ces, g1, g2, g3⟩ := hs.obj m _ hm
        have hr : RelE M es ces.toList := ⟨by simpa using g2, fun j b k v e hj hc => g3 j b k v e hj (by simpa using hc)⟩
        rw [h3]
        have hmne : m ≠ i := fun e => by rw [e] at hm; rw [hm] at he; cases he
        simp only [Option.map_some] at h1
        -- the model's candidates
        obtain ⟨left, hleft⟩ : ∃ l, l = ces.filter fun e => !seen.toArray.contains e.born := ⟨_, rfl⟩
        obtain ⟨cold, hold⟩ : ∃ l, l = left.filter (·.born < since) := ⟨_, rfl⟩
        obtain ⟨cnew, hnew⟩ : ∃ l, l = left.filter (·.born ≥ since) := ⟨_, rfl⟩
        have rl : RelE M (es.filter fun e => !seen.contains e.1) left.toList := by
          have := rel_filter (M := M) (fun b => !seen.contains b) es ces.toList hr
          rw [hleft, Array.toList_filter]
          simpa using this
        have ro : RelE M ((es.filter fun e => !seen.contains e.1).filter fun e => decide (e.1 < since)) cold.toList := by
          have := rel_filter (M := M) (fun b => decide (b < since)) _ _ rl
          rw [hold, Array.toList_filter]
          exact this
        have rn : RelE M ((es.filter fun e => !seen.contains e.1).filter fun e => decide (e.1 ≥ since)) cnew.toList := by
          have := rel_filter (M := M) (fun b => decide (b ≥ since)) _ _ rl
          rw [hnew, Array.toList_filter]
          exact this
        have rc := ro.append rn
        obtain ⟨acand, hacand⟩ : ∃ l, l = mapCands es since seen := ⟨_, rfl⟩
        obtain ⟨ccand, hccand⟩ : ∃ l, l = (if cold.isEmpty then #[none] else #[]) ++ (cold ++ cnew).map some := ⟨_, rfl⟩
        have hemp : cold.isEmpty = ((es.filter fun e => !seen.contains e.1).filter fun e => decide (e.1 < since)).isEmpty := by
          have := ro.1
          rw [Array.length_toList] at this
          rw [Bool.eq_iff_iff, Array.isEmpty_iff_size_eq_zero, List.isEmpty_iff_length_eq_zero, this]
        have hlen : ccand.size = acand.length := by
          rw [hccand, hacand]
          unfold mapCands
          have := rc.1
          simp only [List.length_append, Array.length_toList] at this
          simp only [Array.size_append, Array.size_map, List.length_append, List.length_map]
          rw [hemp, this]
          congr 1
          split <;> rfl
        have hget : ∀ (n : Nat) (x : Option (Nat × AV × AV)), acand[n]? = some x → (x = none ∧ ccand[n]? = some none) ∨ ∃ b k v e, x = some (b, k, v) ∧ ccand[n]? = some (some e) ∧ e.born = b ∧ RelA M k e.key ∧ RelA M v e.val := by
          intro n x hx
          rw [hacand] at hx
          unfold mapCands at hx
          have main : ∀ (n : Nat) (x : Option (Nat × AV × AV)), ((((es.filter fun e => !seen.contains e.1).filter fun e => decide (e.1 < since)) ++ ((es.filter fun e => !seen.contains e.1).filter fun e => decide (e.1 ≥ since))).map some)[n]? = some x →
              ∃ b k v e, x = some (b, k, v) ∧ ((cold ++ cnew).map some)[n]? = some (some e) ∧ e.born = b ∧ RelA M k e.key ∧ RelA M v e.val := by
            intro n x hx
            rw [List.getElem?_map] at hx
            cases hq : (((es.filter fun e => !seen.contains e.1).filter fun e => decide (e.1 < since)) ++ ((es.filter fun e => !seen.contains e.1).filter fun e => decide (e.1 ≥ since)))[n]? with
            | none => rw [hq] at hx; simp at hx
            | some p =>
              obtain ⟨b, k, v⟩ := p
              rw [hq] at hx
              simp at hx; subst hx
              have hl := get_lt hq
              have hl2 : n < (cold ++ cnew).size := by
                have := rc.1
                rw [← Array.length_toList, Array.toList_append, this]; exact hl
              have := rc.2 n b k v (cold ++ cnew)[n] hq (by rw [← Array.toList_append, Array.getElem?_toList]; simp [hl2])
              exact ⟨b, k, v, (cold ++ cnew)[n], rfl, by rw [Array.getElem?_map]; simp [hl2], this⟩
          rw [hccand]
          by_cases hc : cold.isEmpty = true
          · rw [if_pos (by rw [← hemp]; exact hc)] at hx
            rw [if_pos hc]
            cases n with
            | zero =>
              simp at hx; subst hx
              exact .inl ⟨rfl, by rw [Array.getElem?_append_left (by simp)]; rfl⟩
            | succ n =>
              simp only [List.singleton_append, List.getElem?_cons_succ] at hx
              obtain ⟨b, k, v, e, r1, r2, r3⟩ := main n x hx
              refine .inr ⟨b, k, v, e, r1, ?_, r3⟩
              rw [Array.getElem?_append_right (by simp)]
              simpa using r2
          · rw [if_neg (by rw [← hemp]; exact hc)] at hx
            rw [if_neg hc]
            simp only [List.nil_append] at hx
            obtain ⟨b, k, v, e, r1, r2, r3⟩ := main n x hx
            exact .inr ⟨b, k, v, e, r1, by simpa using r2, r3⟩
        -- one of them is drawn
        obtain ⟨M', n, c1, c2, c3, c4, c5, c6, c7, c8⟩ := mark_ok (P := P) hs (.mapNext ccand.size)
        have hpos : 0 < acand.length := by
          rw [hacand]
          unfold mapCands
          simp only [List.length_append, List.length_map]
          split
          · simp; omega
          · rename_i hne
            cases hq : (es.filter fun e => !seen.contains e.1).filter fun e => decide (e.1 < since) with
            | nil => rw [hq] at hne; simp at hne
            | cons x l => simp; omega
        have hn : n < acand.length := by
          by_cases hf : (Question.mapNext ccand.size).forced = true
          · rw [c7 hf]; exact hpos
          · rw [Bool.not_eq_true] at hf
            obtain ⟨t, ht⟩ := c8 hf
            rw [ht, ← hlen]
            exact Nat.mod_lt _ (by omega)
        have hx := List.getElem?_eq_getElem hn
        have hmem := List.mem_of_getElem? hx
        have hall' := hall acand[n] (by rw [← hacand]; exact hmem)
        have g1' : M'.w.heap[M.r m]? = some (.map ces clock) := by rw [c6]; exact g1
        have h1' : M'.w.heap[M.r i]? = some (.mapIter (some (M.r m)) since seen.toArray last) := by rw [c6]; exact h1
        have hstop : ¬ ((!seen.toArray.isEmpty && !ces.isEmpty && ces.all (·.born ≥ last)) = true) := by
          intro h
          simp only [Bool.and_eq_true, Bool.not_eq_true', Array.isEmpty_eq_false_iff, ne_eq, Array.all_eq_true_iff_forall_mem, decide_eq_true_eq] at h
          refine hst ⟨fun e => h.1.1 (by rw [e]), fun e => h.1.2 (by rw [e] at g2; exact Array.eq_empty_of_size_eq_zero g2), fun e he => ?_⟩
          obtain ⟨j, hj, rfl⟩ := List.getElem_of_mem he
          have hj2 : j < ces.size := by omega
          have := (hr.2 j (es[j]).1 (es[j]).2.1 (es[j]).2.2 ces[j] (by simp [List.getElem?_eq_getElem hj]) (by simp [hj2])).1
          rw [← this]
          exact h.2 _ (Array.getElem_mem hj2)
        have hnext : (Instr.next (.pointer (some ⟨M.r i, 0 + 0, none⟩)) false ty).run P M.w = (do
            match ccand[← choose (.mapNext ccand.size)]? with
            | some (some e) =>
              setObj (M.r i) (.mapIter (some (M.r m)) since (seen.toArray.push e.born) clock)
              pure (.tuple #[.bool true, e.key, e.val])
            | some none => pure (.tuple #[.bool false])
            | none => stuck "Next: no such candidate" : Sem Value).run P M.w := by
          rw [hccand, hold, hnew, hleft]
          simp only [Instr.next, Sem.run_bind, run_getObj_at h1 rfl, run_getObj_at g1 rfl, Result.andThen_ok]
          rw [if_neg hstop]
          simp only [Sem.run_bind]
          rfl
        rw [hnext]
        rcases hget n _ hx with ⟨e0, e1⟩ | ⟨b, k, v, e, e0, e1, e2, e3, e4⟩
        · rw [e0] at hall'
          refine ⟨.tuple #[.bool false], M', _, H, ?_, c2, c3, RelL.to_tup (RelL.cons (.d _ _ (.bool _)) (RelL.nil _)), hall'⟩
          rw [Sem.run_bind, c1, Result.andThen_ok, e1]
          rfl
        · rw [e0] at hall'
          have hb' : M'.w.heap[M'.r i]? = some (.mapIter (some (M.r m)) since seen.toArray last) := by rw [c4]; exact h1'
          obtain ⟨x1, s1⟩ := c3.putObj he trivial hb' rfl (.mapIter (some (M.r m)) since (seen.toArray.push e.born) clock) (.iter (some m) since (seen ++ [b]) clock) (fun x1 hb => by
            refine ⟨?_, fun j hj => ?_, ?_⟩
            · rw [show (M'.withW (M'.w.putObj (M'.r i) (.mapIter (some (M.r m)) since (seen.toArray.push e.born) clock))).r = M'.r from rfl]
              refine hb.trans ?_
              simp [c4, e2]
            · cases hj
              have : M.k ≤ M'.k := c2.k
              have := h2 m rfl
              show m < M'.k
              omega
            · show M'.o i = 0
              rw [c5]; exact h3)
          refine ⟨.tuple #[.bool true, e.key, e.val], _, _, _, ?_, c2.trans x1, s1, RelL.to_tup (RelL.cons (.d _ _ (.bool _)) (RelL.cons ((e3.ext c2).ext x1) (RelL.cons ((e4.ext c2).ext x1) (RelL.nil _)))), hall'⟩
          rw [Sem.run_bind, c1, Result.andThen_ok, e1]
          simp only [Sem.run_bind, run_setObj_at' h1' rfl, Result.andThen_ok, Sem.run_pure, c4]
          rfl
      · exact hok.elim
    · exact hok.elim
  · exact hok.elim

/-- The entry at which a range over a map stands. -/
def aentry (H : List AObj) (it : AV) : ARes :=
  match it with
  | .ptr i 0 =>
    match H[i]? with
    | some (.iter (some m) _ seen last) =>
      match H[m]?, seen.getLast? with
      | some (.map es clock), some stamp =>
        match es.find? fun e => e.1 == stamp with
        | some (_, k, v) => ⟨clock = last, .tup [k, v], H⟩
        | none => fail H
      | _, _ => fail H
    | _ => fail H
  | _ => fail H

theorem rel_find {M : Mem} (stamp : Nat) : ∀ (es : List (Nat × AV × AV)) (ces : List MapEntry), RelE M es ces → ∀ b k v, es.find? (fun e => e.1 == stamp) = some (b, k, v) → ∃ e, ces.find? (fun e => e.born == stamp) = some e ∧ RelA M k e.key ∧ RelA M v e.val
  | [], ces, h, b, k, v, hf => by simp at hf
  | (b0, k0, v0) :: es, ces, h, b, k, v, hf => by
    obtain ⟨e, ces', rfl, h1, h2, h3, h4⟩ := h.head
    simp only [List.find?_cons, h1] at hf ⊢
    by_cases hb : (b0 == stamp) = true
    · simp only [hb] at hf ⊢
      simp at hf
      obtain ⟨rfl, rfl, rfl⟩ := hf
      exact ⟨e, rfl, h2, h3⟩
    · rw [Bool.not_eq_true] at hb
      simp only [hb] at hf ⊢
      exact rel_find stamp es ces' h4 b k v hf

theorem sound_entry {P : Program} {M : Mem} {H : List AObj} (hs : St M H) {x : AV} {c : Value} (hx : RelA M x c) : SoundV P (Instr.entry c) M (aentry H x) := by
  unfold aentry
  split
  · rename_i i
    obtain ⟨rfl, hi⟩ := hx.ptr_inv
    split
    · rename_i m since seen last he
      obtain ⟨h1, h2, h3⟩ := hs.obj i _ he
      split
      · rename_i es clock stamp hm hl
        obtain ⟨ces, g1, g2, g3⟩ := hs.obj m _ hm
        have hr : RelE M es ces.toList := ⟨by simpa using g2, fun j b k v e hj hc => g3 j b k v e hj (by simpa using hc)⟩
        split
        · rename_i b k v hf
          refine .pure hs rfl fun hok => ?_
          simp only at hok
          obtain ⟨e, q1, q2, q3⟩ := rel_find stamp es ces.toList hr b k v hf
          rw [h3]
          simp only [Option.map_some] at h1
          refine ⟨.tuple #[e.key, e.val], ?_, q2.tup2 q3⟩
          have hb : seen.toArray.back? = some stamp := by simpa using hl
          have hfa : ces.find? (fun e => e.born == stamp) = some e := by rw [← Array.find?_toList]; exact q1
          subst hok
          simp only [Instr.entry, Sem.run_bind, Nat.add_zero, run_getObj_at h1 rfl, run_getObj_at g1 rfl, Result.andThen_ok, hb, hfa]
          simp
        · exact .fail
      · exact .fail
    · exact .fail
  · exact .fail

end Go.R
