/-
  The abstract layer, part 12: a function out of its body; giving up what is not needed; making a row data.
-/
import Derived.Test.YtikgnakhciklaaaGreatDoorRl
import Derived.RangeFuncLeaves
namespace Go.R
set_option linter.unusedSectionVars false
variable [Syms]
set_option linter.unusedSimpArgs false
set_option linter.unusedVariables false

theorem run_results_list {P : Program} {M : Mem} {H : List AObj} {B n : Nat} {a : AAct} {ca : Act} (hs : St M H) (h : RelAct B M n a ca) : ∀ (rs : List ResultVar), (∀ r ∈ rs, (aresult P a H r).ok) →
    ∃ cs : List Value, (rs.mapM (resOne ca.tmps)).run P M.w = .ok cs M.w ∧ RelL M (rs.map fun r => (aresult P a H r).v) cs
  | [], _ => ⟨[], by simp, RelL.nil M⟩
  | r :: rs, hok => by
    obtain ⟨c, h1, h2⟩ := run_aresult (P := P) hs h r (hok r (by simp))
    obtain ⟨cs, h3, h4⟩ := run_results_list hs h rs (fun r hr => hok r (by simp [hr]))
    refine ⟨c :: cs, ?_, .cons h2 h4⟩
    simp only [List.mapM_cons, Sem.run_bind]
    rw [h1, Result.andThen_ok, h3]
    rfl

theorem run_results {P : Program} {M : Mem} {H : List AObj} {B n : Nat} {a : AAct} {ca : Act} (hs : St M H) (h : RelAct B M n a ca) (fn : Func) (hok : (aresults P a H fn.results.toList).1) :
    ∃ c, (results fn ca.tmps).run P M.w = .ok c M.w ∧ RelA M (aresults P a H fn.results.toList).2 c := by
  obtain ⟨cs, h1, h2⟩ := run_results_list (P := P) hs h fn.results.toList hok
  have h3 : (results fn ca.tmps).run P M.w = .ok (if h : cs.toArray.size = 1 then cs.toArray[0] else .tuple cs.toArray) M.w := by
    simp only [results_eq, Sem.run_bind, Array.mapM_eq_mapM_toList, Sem.run_map, h1, Result.andThen_ok, Sem.run_pure]
  refine ⟨_, h3, ?_⟩
  unfold aresults
  have hl := h2.1
  cases hrs : fn.results.toList with
  | nil =>
    rw [hrs] at h2
    have := h2.nil_inv
    subst this
    exact (RelL.nil M).to_tup
  | cons r rs =>
    cases rs with
    | nil =>
      rw [hrs] at h2
      obtain ⟨c, cs', rfl, g1, g2⟩ := h2.head
      have := g2.nil_inv
      subst this
      exact g1
    | cons r2 rs =>
      rw [hrs] at h2 hl
      have : ¬ cs.toArray.size = 1 := by simp at hl; simp; omega
      rw [dif_neg this]
      exact RelL.to_tup (by simpa using h2)

/-! ### References below a number -/

mutual
def AV.lt (k : Nat) : AV → Bool
  | .ptr i _ => decide (i < k)
  | .row i _ _ _ => decide (i < k)
  | .map i => decide (i < k)
  | .yld i => decide (i < k)
  | .fn _ caps => AV.ltL k caps
  | .bfn _ bs => AV.ltL k bs
  | .agg cs => AV.ltL k cs
  | .tup vs => AV.ltL k vs
  | _ => true
def AV.ltL (k : Nat) : List AV → Bool
  | [] => true
  | v :: vs => AV.lt k v && AV.ltL k vs
end

theorem ltL_iff {k : Nat} : ∀ {l : List AV}, AV.ltL k l = true ↔ ∀ j (h : j < l.length), (l[j]'h).lt k = true
  | [] => by simp [AV.ltL]
  | v :: vs => by
    simp only [AV.ltL, Bool.and_eq_true, ltL_iff (l := vs)]
    constructor
    · rintro ⟨h1, h2⟩ j hj
      cases j with
      | zero => exact h1
      | succ j => exact h2 j (by simpa using hj)
    · intro h
      exact ⟨h 0 (by simp), fun j hj => h (j + 1) (by simpa using hj)⟩

theorem aget_key (a : AAct) (t : Nat) : aget a t = .junk ∨ ∃ p ∈ a, p.1 = t := by
  induction a with
  | nil => exact .inl rfl
  | cons p a ih =>
    simp only [aget]
    by_cases h : t = p.1
    · exact .inr ⟨p, by simp, h.symm⟩
    · rw [if_neg h]
      rcases ih with ih | ⟨q, hq, e⟩
      · exact .inl ih
      · exact .inr ⟨q, by simp [hq], e⟩

def AAct.ltK (k : Nat) (a : AAct) : Bool := a.all fun p => (aget a p.1).lt k
theorem AAct.ltK_get {k : Nat} {a : AAct} (h : AAct.ltK k a = true) (t : Nat) : (aget a t).lt k = true := by
  rcases aget_key a t with e | ⟨p, hp, rfl⟩
  · rw [e]; rfl
  · unfold AAct.ltK at h
    rw [List.all_eq_true] at h
    exact h p hp
theorem AAct.ltK_of {k : Nat} {a : AAct} (h : ∀ t, (aget a t).lt k = true) : AAct.ltK k a = true := by
  unfold AAct.ltK
  rw [List.all_eq_true]
  exact fun p _ => h p.1

def AObj.lt (k : Nat) : AObj → Bool
  | .dead => true
  | .cells _ vs => AV.ltL k vs
  | .map es _ => AV.ltL k (es.map (·.2.1)) && AV.ltL k (es.map (·.2.2))
  | .loop r => AAct.ltK k r.a
  | .iter m _ _ _ => match m with | some j => decide (j < k) | none => true
  | .siter _ _ => true

def ltH (k : Nat) (H : List AObj) : Bool := H.all (AObj.lt k)

theorem RelA.lt {M : Mem} {v : AV} {c : Value} (h : RelA M v c) : v.lt M.k = true := by
  induction h with
  | junk v => rfl
  | d x v h => rfl
  | ptr i off h => simp [AV.lt, h]
  | pnil => rfl
  | imm A cells vs hI hc hr => rfl
  | row i size off n c h hn cs t fz hb hs => simp [AV.lt, h]
  | row0 i size off h A => simp [AV.lt, h]
  | map i h => simp [AV.lt, h]
  | yld i h => simp [AV.lt, h]
  | sym n v h => rfl
  | mnil => rfl
  | fn f caps vs hl h ih => simp only [AV.lt]; exact ltL_iff.2 fun j hj => ih j hj (by omega)
  | bfn g bs vs hl h ih => simp only [AV.lt]; exact ltL_iff.2 fun j hj => ih j hj (by omega)
  | fnil => rfl
  | agg cells vs hl h ih => simp only [AV.lt]; exact ltL_iff.2 fun j hj => ih j hj (by omega)
  | tup cells vs hl h ih => simp only [AV.lt]; exact ltL_iff.2 fun j hj => ih j hj (by omega)

theorem RelL.ltL {M : Mem} {vs : List AV} {cs : List Value} (h : RelL M vs cs) : AV.ltL M.k vs = true :=
  ltL_iff.2 fun j hj => (h.2 j hj (by have := h.1; omega)).lt

theorem St.ltH {M : Mem} {H : List AObj} (h : St M H) : ltH M.k H = true := by
  unfold Go.R.ltH
  rw [List.all_eq_true]
  intro o ho
  obtain ⟨i, hi, rfl⟩ := List.getElem_of_mem ho
  have := h.obj i _ (List.getElem?_eq_getElem hi)
  cases hx : H[i] with
  | dead => rfl
  | cells fr vs =>
    rw [hx] at this
    obtain ⟨cs, t, fz, pre, cvs, rest, g1, g2, g3, g4, g5, g6⟩ := this
    exact g5.ltL
  | map es clock =>
    rw [hx] at this
    obtain ⟨ces, g1, g2, g3⟩ := this
    simp only [AObj.lt, Bool.and_eq_true]
    constructor <;> refine ltL_iff.2 fun j hj => ?_ <;> simp at hj <;> simp only [List.getElem_map]
    · have := g3 j (es[j]).1 (es[j]).2.1 (es[j]).2.2 (ces[j]'(by omega)) (by simp [List.getElem?_eq_getElem hj]) (by simp)
      exact this.2.1.lt
    · have := g3 j (es[j]).1 (es[j]).2.1 (es[j]).2.2 (ces[j]'(by omega)) (by simp [List.getElem?_eq_getElem hj]) (by simp)
      exact this.2.2.lt
  | loop r =>
    rw [hx] at this
    obtain ⟨tm, D, fn, g1, g2, g3⟩ := this
    simp only [AObj.lt]
    exact AAct.ltK_of fun t => (g3 t).lt
  | iter m since seen last =>
    rw [hx] at this
    cases m with
    | none => rfl
    | some j => simpa [AObj.lt] using this.2.1 j rfl
  | siter s pos => rfl

mutual
theorem AV.lt_mono {k k' : Nat} (hk : k ≤ k') : ∀ v : AV, v.lt k = true → v.lt k' = true
  | .junk, _ => rfl
  | .d _, _ => rfl
  | .ptr i _, h => by simp [AV.lt] at *; omega
  | .pnil, _ => rfl
  | .imm _, _ => rfl
  | .row i _ _ _, h => by simp [AV.lt] at *; omega
  | .map i, h => by simp [AV.lt] at *; omega
  | .yld i, h => by simp [AV.lt] at *; omega
  | .sym _, _ => rfl
  | .mnil, _ => rfl
  | .fn _ caps, h => by simp only [AV.lt] at *; exact AV.ltL_mono hk caps h
  | .bfn _ bs, h => by simp only [AV.lt] at *; exact AV.ltL_mono hk bs h
  | .fnil, _ => rfl
  | .agg cs, h => by simp only [AV.lt] at *; exact AV.ltL_mono hk cs h
  | .tup cs, h => by simp only [AV.lt] at *; exact AV.ltL_mono hk cs h
theorem AV.ltL_mono {k k' : Nat} (hk : k ≤ k') : ∀ vs : List AV, AV.ltL k vs = true → AV.ltL k' vs = true
  | [], _ => rfl
  | v :: vs, h => by
    simp only [AV.ltL, Bool.and_eq_true] at *
    exact ⟨AV.lt_mono hk v h.1, AV.ltL_mono hk vs h.2⟩
end

theorem AObj.lt_mono {k k' : Nat} (hk : k ≤ k') (o : AObj) (h : o.lt k = true) : o.lt k' = true := by
  cases o with
  | dead => rfl
  | cells fr vs => exact AV.ltL_mono hk _ h
  | map es clock =>
    simp only [AObj.lt, Bool.and_eq_true] at *
    exact ⟨AV.ltL_mono hk _ h.1, AV.ltL_mono hk _ h.2⟩
  | loop r => exact AAct.ltK_of fun t => AV.lt_mono hk _ (AAct.ltK_get h t)
  | iter m since seen last =>
    cases m with
    | none => rfl
    | some j => simp [AObj.lt] at *; omega
  | siter s pos => rfl

theorem ltH_mono {k k' : Nat} (hk : k ≤ k') {H : List AObj} (h : ltH k H = true) : ltH k' H = true := by
  unfold ltH at *
  rw [List.all_eq_true] at *
  exact fun o ho => AObj.lt_mono hk o (h o ho)

/-- Another numbering of the objects, at which all that v refers to lies where it lay. -/
theorem RelA.renum {M M' : Mem} (hw : M'.w = M.w) (hI : ∀ b, M.I b → M'.I b) {k : Nat} (hk : k ≤ M'.k) (hr : ∀ i, i < k → M'.r i = M.r i) (ho : ∀ i, i < k → M'.o i = M.o i) {v : AV} {c : Value} (h : RelA M v c)
    (hl : v.lt k = true) : RelA M' v c := by
  induction h with
  | junk v => exact .junk v
  | d x v h => exact .d x v (h.mono hI (fun b _ => by rw [hw]))
  | ptr i off h =>
    simp [AV.lt] at hl
    have := RelA.ptr (M := M') i off (by omega)
    rwa [hr i hl, ho i hl] at this
  | pnil => exact .pnil
  | imm A cells vs hI' hc hr' =>
    exact .imm A cells vs (fun h => ⟨hI _ (hI' h).1, (hI' h).2⟩) (fun j hj => by rw [hw]; exact hc j hj) (fun j hj => (hr' j hj).mono hI (fun b _ => by rw [hw]))
  | row i size off n c h hn cs t fz hb hs =>
    simp [AV.lt] at hl
    have := RelA.row (M := M') i size off n c (by omega) hn cs t fz (by rw [hw, hr i hl]; exact hb) (by rw [ho i hl]; exact hs)
    rwa [hr i hl, ho i hl] at this
  | row0 i size off h A => simp [AV.lt] at hl; exact .row0 i size off (by omega) A
  | map i h =>
    simp [AV.lt] at hl
    have := RelA.map (M := M') i (by omega)
    rwa [hr i hl] at this
  | yld i h =>
    simp [AV.lt] at hl
    have := RelA.yld (M := M') i (by omega)
    rwa [hr i hl] at this
  | sym n v h => exact .sym n v (h.mono hI (fun b _ => by rw [hw]))
  | mnil => exact .mnil
  | fn f caps vs hl' h ih => simp only [AV.lt] at hl; exact .fn f caps vs hl' fun j h1 h2 => ih j h1 h2 (ltL_iff.1 hl j h1)
  | bfn g bs vs hl' h ih => simp only [AV.lt] at hl; exact .bfn g bs vs hl' fun j h1 h2 => ih j h1 h2 (ltL_iff.1 hl j h1)
  | fnil => exact .fnil
  | agg cells vs hl' h ih => simp only [AV.lt] at hl; exact .agg cells vs hl' fun j h1 h2 => ih j h1 h2 (ltL_iff.1 hl j h1)
  | tup cells vs hl' h ih => simp only [AV.lt] at hl; exact .tup cells vs hl' fun j h1 h2 => ih j h1 h2 (ltL_iff.1 hl j h1)

theorem RelL.renum {M M' : Mem} (hw : M'.w = M.w) (hI : ∀ b, M.I b → M'.I b) {k : Nat} (hk : k ≤ M'.k) (hr : ∀ i, i < k → M'.r i = M.r i) (ho : ∀ i, i < k → M'.o i = M.o i) {vs : List AV} {cs : List Value} (h : RelL M vs cs)
    (hl : AV.ltL k vs = true) : RelL M' vs cs := ⟨h.1, fun j h1 h2 => (h.2 j h1 h2).renum hw hI hk hr ho (ltL_iff.1 hl j h1)⟩

theorem RelO.renum {M M' : Mem} (hw : M'.w = M.w) (hI : ∀ b, M.I b → M'.I b) {k : Nat} (hk : k ≤ M'.k) (hr : ∀ i, i < k → M'.r i = M.r i) (ho : ∀ i, i < k → M'.o i = M.o i) {i j : Nat} {x : AObj} (h : RelO M i x)
    (hij : M'.r j = M.r i) (hij2 : M'.o j = M.o i) (hl : x.lt k = true) : RelO M' j x := by
  cases x with
  | dead => trivial
  | cells fr vs =>
    obtain ⟨cs, t, fz, pre, cvs, rest, g1, g2, g3, g4, g5, g6⟩ := h
    exact ⟨cs, t, fz, pre, cvs, rest, by rw [hw, hij]; exact g1, g2, g3, by rw [hij2]; exact g4, g5.renum hw hI hk hr ho hl, g6⟩
  | map es clock =>
    obtain ⟨ces, g1, g2, g3⟩ := h
    simp only [AObj.lt, Bool.and_eq_true] at hl
    refine ⟨ces, by rw [hw, hij]; exact g1, g2, fun j b0 k v e hj hc => ?_⟩
    obtain ⟨a, b, c⟩ := g3 j b0 k v e hj hc
    have hjl := get_lt hj
    have e1 := ltL_iff.1 hl.1 j (by simpa using hjl)
    have e2 := ltL_iff.1 hl.2 j (by simpa using hjl)
    have e3 : es[j] = (b0, k, v) := by rw [List.getElem?_eq_getElem hjl] at hj; exact Option.some.inj hj
    simp [e3] at e1 e2
    exact ⟨a, b.renum hw hI hk hr ho e1, c.renum hw hI hk hr ho e2⟩
  | loop r =>
    obtain ⟨tm, D, fn, g1, g2, g3⟩ := h
    exact ⟨tm, D, fn, by rw [hw, hij]; exact g1, g2, fun t => (g3 t).renum hw hI hk hr ho (AAct.ltK_get hl t)⟩
  | iter m since seen last =>
    obtain ⟨g1, g2, g3⟩ := h
    cases m with
    | none => exact ⟨by rw [hw, hij]; exact g1, fun j hj => (by cases hj), hij2.trans g3⟩
    | some q =>
      simp [AObj.lt] at hl
      refine ⟨by rw [hw, hij, g1]; simp [hr q hl], fun j hj => ?_, hij2.trans g3⟩
      cases hj; omega
  | siter s pos =>
    obtain ⟨b, g1, g2, g3⟩ := h
    exact ⟨b, by rw [hw, hij]; exact g1, g2, hij2.trans g3⟩

/-! ### Giving up -/

def ltA (k : Nat) (a : AAct) : Bool := a.all fun p => p.2.lt k

theorem aget_lt {k : Nat} : ∀ {a : AAct}, ltA k a = true → ∀ t, (aget a t).lt k = true
  | [], _, t => rfl
  | (u, v) :: a, h, t => by
    simp only [ltA, List.all_cons, Bool.and_eq_true] at h
    simp only [aget]
    split
    · exact h.1
    · exact aget_lt (a := a) h.2 t

section
variable {P : Program} {n : Nat} {M0 : Mem} {a : AAct}

/-- The objects behind are given up. -/
theorem Weak.drop {H J : List AObj} (hk : M0.k ≤ H.length) (ha : ltA H.length a = true) (hH : ltH H.length H = true) : Weak n M0 a (H ++ J) a H := by
  intro M ca he hs hr
  have hlt : ∀ (i : Nat) (x : AObj), H[i]? = some x → (H ++ J)[i]? = some x := fun i x hi => by rw [List.getElem?_append_left (get_lt hi)]; exact hi
  refine ⟨{ M with k := H.length }, rfl, ⟨he.I, he.old, he.r, he.o, hk, he.shape, he.size, he.defs, he.os, he.tape, he.output⟩, ?_, ?_⟩
  · refine ⟨rfl, fun i j x y hi hj => hs.inj i j x y (hlt i x hi) (hlt j y hj), fun i x hi => hs.fresh i x (hlt i x hi), hs.bound, fun i x hi => ?_⟩
    refine RelO.renum (M := M) (M' := { M with k := H.length }) (k := H.length) rfl (fun _ h => h) (Nat.le_refl _) (fun _ _ => rfl) (fun _ _ => rfl) (hs.obj i x (hlt i x hi)) rfl rfl ?_
    unfold ltH at hH
    rw [List.all_eq_true] at hH
    exact hH x (List.mem_of_getElem? hi)
  · exact ⟨hr.defers, hr.size, fun t => RelA.renum (M := M) (M' := { M with k := H.length }) (k := H.length) rfl (fun _ h => h) (Nat.le_refl _) (fun _ _ => rfl) (fun _ _ => rfl) (hr.get t) (aget_lt ha t)⟩

/-- One object q of those behind is kept, and lies at the end of H. -/
theorem Weak.keep1 {H G : List AObj} {q : Nat} {x : AObj} {a' : AAct} (hk : M0.k ≤ H.length) (hpre : ∀ i, i < H.length → G[i]? = H[i]?) (hq : G[q]? = some x) (hql : H.length ≤ q) (hx : x.lt H.length = true) (hH : ltH H.length H = true)
    (ha : ∀ t, (aget a' t = aget a t ∧ (aget a t).lt H.length = true) ∨ aget a' t = .junk ∨ ∃ size off m, aget a t = .row q size off m ∧ aget a' t = .row H.length size off m) : Weak n M0 a G a' (H ++ [x]) := by
  intro M ca he hs hr
  have hkM : q < M.k := by rw [hs.k]; exact get_lt hq
  let M' : Mem := { M with r := fun j => if j = H.length then M.r q else M.r j, o := fun j => if j = H.length then M.o q else M.o j, k := H.length + 1 }
  have r1 : ∀ i, i < H.length → M'.r i = M.r i := fun i hi => by show (if _ then _ else _) = _; rw [if_neg (by omega)]
  have o1 : ∀ i, i < H.length → M'.o i = M.o i := fun i hi => by show (if _ then _ else _) = _; rw [if_neg (by omega)]
  have r2 : M'.r H.length = M.r q := if_pos rfl
  have o2 : M'.o H.length = M.o q := if_pos rfl
  have hlt : ∀ (i : Nat) (y : AObj), H[i]? = some y → G[i]? = some y := fun i y hi => (hpre i (get_lt hi)).trans hi
  have new : ∀ (j : Nat) (y : AObj), (H ++ [x])[j]? = some y → (H[j]? = some y ∧ j < H.length) ∨ (j = H.length ∧ y = x) := fun j y hj => by
    by_cases hlt : j < H.length
    · rw [List.getElem?_append_left hlt] at hj; exact .inl ⟨hj, hlt⟩
    · rw [List.getElem?_append_right (by omega)] at hj
      have : j - H.length = 0 := by
        have := get_lt hj; simp at this; omega
      rw [this] at hj
      exact .inr ⟨by omega, by simpa using hj.symm⟩
  refine ⟨M', rfl, ⟨he.I, he.old, fun i hi => (r1 i (by omega)).trans (he.r i hi), fun i hi => (o1 i (by omega)).trans (he.o i hi), by show _ ≤ H.length + 1; omega, he.shape, he.size, he.defs, he.os, he.tape, he.output⟩, ?_, ?_⟩
  · refine ⟨by simp [M'], fun i j y z hi hj hy hz h => ?_, fun i y hi hy => ?_, hs.bound, fun i y hi => ?_⟩
    · rcases new i y hi with ⟨hi', hli⟩ | ⟨rfl, rfl⟩ <;> rcases new j z hj with ⟨hj', hlj⟩ | ⟨rfl, rfl⟩
      · rw [r1 i hli, r1 j hlj] at h; exact hs.inj i j y z (hlt i y hi') (hlt j z hj') hy hz h
      · rw [r1 i hli, r2] at h; have := hs.inj i q _ _ (hlt i y hi') hq hy hz h; omega
      · rw [r1 j hlj, r2] at h; have := hs.inj q j _ _ hq (hlt j z hj') hy hz h; omega
      · rfl
    · rcases new i y hi with ⟨hi', hli⟩ | ⟨rfl, rfl⟩
      · rw [r1 i hli]; exact hs.fresh i y (hlt i y hi') hy
      · rw [r2]; exact hs.fresh q _ hq hy
    · rcases new i y hi with ⟨hi', hli⟩ | ⟨rfl, rfl⟩
      · refine RelO.renum (M := M) (M' := M') (k := H.length) rfl (fun _ h => h) (Nat.le_succ _) r1 o1 (hs.obj i y (hlt i y hi')) (r1 i hli) (o1 i hli) ?_
        unfold ltH at hH
        rw [List.all_eq_true] at hH
        exact hH y (List.mem_of_getElem? hi')
      · exact RelO.renum (M := M) (M' := M') (k := H.length) rfl (fun _ h => h) (Nat.le_succ _) r1 o1 (hs.obj q _ hq) r2 o2 hx
  · refine ⟨hr.defers, hr.size, fun t => ?_⟩
    rcases ha t with ⟨h1, h2⟩ | h | ⟨size, off, m, h1, h2⟩
    · rw [h1]; exact RelA.renum (M := M) (M' := M') (k := H.length) rfl (fun _ h => h) (Nat.le_succ _) r1 o1 (hr.get t) h2
    · rw [h]; exact .junk _
    · have hv := hr.get t
      rw [h1] at hv
      rw [h2]
      rcases hv.row_inv.2 with ⟨cap, e, hn, cs, ty, fz, g1, g2⟩ | ⟨rfl, A, e⟩
      · rw [e]
        have := RelA.row (M := M') H.length size off m cap (Nat.lt_succ_self _) hn cs ty fz (by rw [r2]; exact g1) (by rw [o2]; exact g2)
        rwa [r2, o2] at this
      · rw [e]; exact .row0 _ _ _ (Nat.lt_succ_self _) A

/-- A row becomes data: nobody writes it from now on. -/
theorem Weak.freeze' {H : List AObj} {q size off m : Nat} {fr : Bool} {vs : List AV} {elems : List (List DV)} {t : Nat} (ts : List Nat) (hq : H[q]? = some (.cells fr vs)) (hc : (vs.drop off).take (m * size) = mkCells elems)
    (hle : off + m * size ≤ vs.length) (hlen : elems.length = m) (hsz : ∀ e ∈ elems, e.length = size) (ht : aget a t = .row q size off m) : Weak n M0 a H ((t, .d (.sl size elems false)) :: akeep ts a) (H.set q .dead) := by
  intro M ca he hs hr
  let M' : Mem := { M with I := fun b => M.I b ∨ b = M.r q }
  have hb := hs.rbound hq trivial
  have e1 : Ext M M' := ⟨fun b h => .inl h, fun _ _ => rfl, fun _ _ => rfl, fun _ _ => rfl, Nat.le_refl _, fun _ cs _ fz h => ⟨cs, fz, h, rfl⟩, Nat.le_refl _, fun _ h => h, rfl, rfl, rfl⟩
  have old : ∀ (j : Nat) (x : AObj), (H.set q .dead)[j]? = some x → x.live → H[j]? = some x ∧ j ≠ q := fun j x hj hx => by
    by_cases e : q = j
    · subst e
      rw [List.getElem?_set_self (by simpa using get_lt hj)] at hj
      cases hj; exact hx.elim
    · rw [List.getElem?_set_ne e] at hj; exact ⟨hj, fun h => e h.symm⟩
  refine ⟨M', rfl, he.trans e1, ?_, ⟨hr.defers, hr.size, fun u => ?_⟩⟩
  · refine ⟨by rw [List.length_set]; exact hs.k, fun i j x y hi hj hx hy h => hs.inj i j x y (old i x hi hx).1 (old j y hj hy).1 hx hy h, fun i x hi hx => ?_, fun b h => ?_, fun i x hi => ?_⟩
    · obtain ⟨h1, h2⟩ := old i x hi hx
      rintro (h | h)
      · exact hs.fresh i x h1 hx h
      · exact h2 (hs.inj i q _ _ h1 hq hx trivial h)
    · rcases h with h | h
      · exact hs.bound b h
      · rw [h]; exact hb
    · cases x with
      | dead => trivial
      | cells fr' vs' => exact (hs.obj i _ (old i _ hi trivial).1).ext e1 (by rw [hs.k]; exact get_lt (old i _ hi trivial).1) (fun _ => rfl)
      | map es clock => exact (hs.obj i _ (old i _ hi trivial).1).ext e1 (by rw [hs.k]; exact get_lt (old i _ hi trivial).1) (fun _ => rfl)
      | loop r => exact (hs.obj i _ (old i _ hi trivial).1).ext e1 (by rw [hs.k]; exact get_lt (old i _ hi trivial).1) (fun _ => rfl)
      | iter m since seen last => exact (hs.obj i _ (old i _ hi trivial).1).ext e1 (by rw [hs.k]; exact get_lt (old i _ hi trivial).1) (fun _ => rfl)
      | siter s pos => exact (hs.obj i _ (old i _ hi trivial).1).ext e1 (by rw [hs.k]; exact get_lt (old i _ hi trivial).1) (fun _ => rfl)
  · simp only [aget]
    split
    · rename_i e; subst e
      have hv := hr.get u
      rw [ht] at hv
      have hzs : ∀ i (h : i < elems.length), (elems[i]'h).length = size := fun i h => hsz _ (List.getElem_mem h)
      rcases hv.row_inv.2 with ⟨cap, e, hn, _⟩ | ⟨h0, A, e⟩
      · rw [e]
        obtain ⟨cvs, g1, g2, g3⟩ := hs.cells hq
        have g1' := g1.1
        refine .d _ _ ?_
        have hcap : elems.length ≤ cap := by omega
        have key : RelD M'.w M'.I (.sl size elems false) (.slice (some ⟨M.r q, M.o q + off, none⟩) elems.length cap) := by
          refine RelD.sl_mk hcap (fun h => by simp at h) (fun _ => ⟨.inr rfl, rfl⟩) hzs (fun i hi => ?_)
          rw [addr_add]
          have cellAt : ∀ j, j < size → ∃ c, cvs[off + (i * size + j)]? = some c ∧ ∃ dv, (elems[i]'hi)[j]? = some dv ∧ RelA M (.d dv) c := by
            intro j hj
            have hil : i * size + j < m * size := by
              have : (i + 1) * size ≤ m * size := Nat.mul_le_mul_right _ (by omega)
              rw [Nat.add_mul] at this; omega
            have hfl := flatten_get elems hzs i j hi hj
            have hlt2 : i * size + j < elems.flatten.length := by rw [flatten_length elems hzs, hlen]; exact hil
            rw [List.getElem?_eq_getElem hi, Option.bind_some, List.getElem?_eq_getElem hlt2] at hfl
            have hvs : vs[off + (i * size + j)]? = some (.d (elems.flatten[i * size + j]'hlt2)) := by
              have : ((vs.drop off).take (m * size))[i * size + j]? = (mkCells elems)[i * size + j]? := by rw [hc]
              rw [List.getElem?_take_of_lt hil, List.getElem?_drop] at this
              rw [this, mkCells, List.getElem?_map, List.getElem?_eq_getElem hlt2]
              rfl
            obtain ⟨c, hc1, hc2⟩ := g1.get hvs
            exact ⟨c, hc1, _, hfl.symm, hc2⟩
          refine .imm _ _ (fun j => (cvs[off + (i * size + j)]?).getD undef) (fun _ => ⟨.inr rfl, rfl⟩) (fun j hj => ?_) (fun j hj => ?_)
          · rw [hzs i hi] at hj
            obtain ⟨c, hc1, _⟩ := cellAt j hj
            simp only [hc1, Option.getD_some]
            have := g2 _ _ hc1
            simpa [Nat.add_assoc] using this
          · have hj' := hj
            rw [hzs i hi] at hj'
            obtain ⟨c, hc1, dv, hd, hrel⟩ := cellAt j hj'
            simp only [hc1, Option.getD_some]
            rw [List.getElem?_eq_getElem hj] at hd
            cases hd
            cases hrel with
            | d _ _ h => exact h.ext e1
        rwa [hlen] at key
      · rw [e]
        rw [h0] at hlen
        have : elems = [] := List.eq_nil_of_length_eq_zero hlen
        subst this
        refine .d _ _ ?_
        exact RelD.sl_mk (M := M') (elems := []) (Nat.le_refl _) (fun _ => rfl) (fun h => absurd h (by simp)) (fun i h => absurd h (by simp)) (fun i h => absurd h (by simp))
    · rcases aget_akeep ts a u with h | h
      · rw [h]; exact .junk _
      · rw [h]; exact (hr.get u).ext e1

theorem Weak.freeze {H : List AObj} {q size off m : Nat} {fr : Bool} {vs : List AV} {elems : List (List DV)} {t : Nat} (ts : List Nat) (hk : M0.k ≤ q) (hq : H[q]? = some (.cells fr vs)) (hc : (vs.drop off).take (m * size) = mkCells elems)
    (hle : off + m * size ≤ vs.length) (hlen : elems.length = m) (hsz : ∀ e ∈ elems, e.length = size) (ht : aget a t = .row q size off m) : Weak n M0 a H ((t, .d (.sl size elems false)) :: akeep ts a) (H.set q .dead) :=
  Weak.freeze' ts hq hc hle hlen hsz ht

end

/-- A mark's block is shut when the function returns. -/
theorem take_mark {P : Program} {M0 M : Mem} {H : List AObj} (h0 : ∀ b, M0.I b → b < M0.w.heap.size) (he : Ext M0 M) (hs : St M H) {D : Nat} (hD : M0.w.heap.size ≤ D) (hd : M.w.heap[D]? = some (.deferred (some []))) :
    (Instr.takeDeferred D).run P M.w = .ok [] (M.w.putObj D (.deferred none)) ∧ Ext M0 (M.withW (M.w.putObj D (.deferred none))) ∧ St (M.withW (M.w.putObj D (.deferred none))) H ∧
      (∀ v c, RelA M v c → RelA (M.withW (M.w.putObj D (.deferred none))) v c) ∧ (∀ D', D' ≠ D → (M.w.putObj D (.deferred none)).heap[D']? = M.w.heap[D']?) := by
  have hoth : ∀ b, b ≠ D → (M.w.putObj D (.deferred none)).heap[b]? = M.w.heap[b]? := fun b hb => World.putObj_heap_other hb
  have hcell : ∀ (a : Addr) (v : Value), M.w.cell? a = some v → (M.w.putObj D (.deferred none)).cell? a = some v := fun a v h => by
    rw [cell_of_heap (w := M.w)]
    · exact h
    · refine hoth _ fun e => ?_
      unfold World.cell? at h
      rw [e, hd] at h
      simp at h
  have relD : ∀ {x : DV} {v : Value}, RelD M.w M.I x v → RelD (M.w.putObj D (.deferred none)) M.I x v := by
    intro x v h
    induction h with
    | bool b => exact .bool b
    | int k n => exact .int k n
    | str b => exact .str b
    | snil => exact .snil
    | sl A c size elems ex vs hn hex hsz hI1 hc hr ih => exact .sl A c size elems ex vs hn hex hsz hI1 (fun i j hi hj => hcell _ _ (hc i j hi hj)) ih
  have relA : ∀ v c, RelA M v c → RelA (M.withW (M.w.putObj D (.deferred none))) v c := by
    intro v c h
    induction h with
    | junk v => exact .junk v
    | d x v h => exact .d x v (relD h)
    | ptr i off h => exact .ptr i off h
    | pnil => exact .pnil
    | imm A cells vs hI hc hr => exact .imm A cells vs hI (fun j hj => hcell _ _ (hc j hj)) (fun j hj => relD (hr j hj))
    | row i size off n c h hn cs t fz hb hs =>
      refine .row i size off n c h hn cs t fz ?_ hs
      refine (hoth _ fun e => ?_).trans hb
      have e' : M.r i = D := e
      rw [e', hd] at hb; cases hb
    | row0 i size off h A => exact RelA.row0 (M := M.withW (M.w.putObj D (.deferred none))) i size off h A
    | map i h => exact .map i h
    | sym n v h => exact .sym n v (relD h)
    | yld i h => exact .yld i h
    | mnil => exact .mnil
    | fn f caps vs hl h ih => exact .fn f caps vs hl ih
    | bfn g bs vs hl h ih => exact .bfn g bs vs hl ih
    | fnil => exact .fnil
    | agg cells vs hl h ih => exact .agg cells vs hl ih
    | tup cells vs hl h ih => exact .tup cells vs hl ih
  have relL : ∀ {vs cs}, RelL M vs cs → RelL (M.withW (M.w.putObj D (.deferred none))) vs cs := fun h => ⟨h.1, fun j h1 h2 => relA _ _ (h.2 j h1 h2)⟩
  refine ⟨run_takeDeferred hd, ?_, ?_, relA, hoth⟩
  · exact ⟨he.I, fun b hb => by
        have := h0 b hb
        exact (hoth b (by omega)).trans (he.old b hb), he.r, he.o, he.k, fun b cs t fz hb => by
        have := some_lt hb
        obtain ⟨cs', fz', g1, g2⟩ := he.shape b cs t fz hb
        exact ⟨cs', fz', (hoth b (by omega)).trans g1, g2⟩, by show _ ≤ (M.w.putObj D _).heap.size; simp [World.putObj]; exact he.size, fun b hb => by
        have := some_lt hb
        exact (hoth b (by omega)).trans (he.defs b hb), he.os, he.tape, he.output⟩
  · have hne : ∀ {i : Nat} {o : AObj}, H[i]? = some o → o.live → M.r i ≠ D := by
      intro i o hi hl e
      have := hs.obj i o hi
      cases o with
      | dead => exact hl
      | cells fr vs => obtain ⟨_, _, _, _, _, _, h1, _⟩ := this; rw [e, hd] at h1; cases h1
      | map es clock => obtain ⟨_, h1, _⟩ := this; rw [e, hd] at h1; cases h1
      | loop r => obtain ⟨_, _, _, h1, _⟩ := this; rw [e, hd] at h1; cases h1
      | iter m since seen last => obtain ⟨h1, _⟩ := this; rw [e, hd] at h1; cases h1
      | siter s pos => obtain ⟨_, h1, _⟩ := this; rw [e, hd] at h1; cases h1
    refine ⟨hs.k, hs.inj, hs.fresh, fun b hb => by show _ < (M.w.putObj D _).heap.size; simp [World.putObj]; exact hs.bound b hb, fun i o hi => ?_⟩
    have := hs.obj i o hi
    cases o with
    | dead => trivial
    | cells fr vs =>
      obtain ⟨cs, t, fz, pre, cv, rest, h1, h2, h3, h4, h5, h6⟩ := this
      exact ⟨cs, t, fz, pre, cv, rest, (hoth _ (hne hi trivial)).trans h1, h2, h3, h4, relL h5, h6⟩
    | map es clock =>
      obtain ⟨ces, h1, h2, h3⟩ := this
      refine ⟨ces, (hoth _ (hne hi trivial)).trans h1, h2, fun j b k v e hj hc => ?_⟩
      obtain ⟨a, b', c⟩ := h3 j b k v e hj hc
      exact ⟨a, relA _ _ b', relA _ _ c⟩
    | loop r =>
      obtain ⟨tm, D', fn, h1, h2, h3⟩ := this
      exact ⟨tm, D', fn, (hoth _ (hne hi trivial)).trans h1, h2, fun t => relA _ _ (h3 t)⟩
    | iter m since seen last =>
      obtain ⟨h1, h2, h3⟩ := this
      exact ⟨(hoth _ (hne hi trivial)).trans h1, h2, h3⟩
    | siter s pos =>
      obtain ⟨b, h1, h2, h3⟩ := this
      exact ⟨b, (hoth _ (hne hi trivial)).trans h1, h2, h3⟩

theorem leaves {P : Program} {fn : Func} {M0 : Mem} (h0 : ∀ b, M0.I b → b < M0.w.heap.size) {tmps : Array Value} {R : Ending → World → Prop} : ∀ (Ds : List Nat) (M : Mem) (a : AAct) (H : List AObj) (n : Nat), Ext M0 M → St M H → Ds.Nodup →
    (∀ D ∈ Ds, M0.w.heap.size ≤ D ∧ M.w.heap[D]? = some (.deferred (some []))) → (∀ t, RelA M (aget a t) (tmps.getD t undef)) → tmps.size = n →
    (∀ (M' : Mem), Ext M0 M' → St M' H → (∀ t, RelA M' (aget a t) (tmps.getD t undef)) → ∃ v, (results fn tmps).run P M'.w = .ok v M'.w ∧ R (.returned v) M'.w) →
    LeavesInM Fence.wide 0 P fn tmps R (Ds.map mark) .returning M.w
  | [], M, a, H, n, he, hs, hn, hD, hr, hz, hfin => by
    obtain ⟨v, h1, h2⟩ := hfin M he hs hr
    exact ⟨v, h1, h2⟩
  | D :: Ds, M, a, H, n, he, hs, hn, hD, hr, hz, hfin => by
    obtain ⟨t1, t2, t3, t4, t5⟩ := take_mark (P := P) h0 he hs (hD D (by simp)).1 (hD D (by simp)).2
    simp only [List.nodup_cons] at hn
    refine ⟨by simp, .inl ⟨D, _, rfl, t1, ?_⟩⟩
    exact leaves h0 Ds (M.withW (M.w.putObj D (.deferred none))) a H n t2 t3 hn.2 (fun D' hD' => ⟨(hD D' (by simp [hD'])).1, (t5 D' (fun e => hn.1 (e ▸ hD'))).trans (hD D' (by simp [hD'])).2⟩)
      (fun t => t4 _ _ (hr t)) hz hfin

/-- A function out of its body. -/
theorem acalls_of {P : Program} {f : FuncId} {fn : Func} {c : Code} {args : List AV} {H : List AObj} {R : AV → List AObj → Prop} (hf : P.funcs[f]? = some fn) (hb : fn.body = some c) (hn : args.length ≤ fn.ntmps)
    (h : ∀ (M0 : Mem) (Q : Exit → AAct → List AObj → Prop), M0.k = H.length → ltH H.length H = true →
      (∀ a H1 a' H', Weak fn.ntmps M0 a H1 a' H' → (aresults P a' H' fn.results.toList).1 → R (aresults P a' H' fn.results.toList).2 H' → Q .ret a H1 ∧ Q .normal a H1) →
      awp P fn.ntmps M0 none c Q (initAct 0 args) H) : ACalls P f args H R := by
  intro M cargs hs ha
  have hl : args.length = cargs.size := by have := ha.1; simpa using this
  refine callsIn_wide (n := 0).1 (callsIn_of_wp_marks (F := Fence.wide) hf hb trivial ?_)
  have hw := h M (fun e a1 H1 => match e with
    | .ret | .normal => ∃ a' H', Weak fn.ntmps M a1 H1 a' H' ∧ (aresults P a' H' fn.results.toList).1 ∧ R (aresults P a' H' fn.results.toList).2 H'
    | _ => False) hs.k (by rw [← hs.k]; exact hs.ltH) (fun a H1 a' H' h1 h2 h3 => ⟨⟨a', H', h1, h2, h3⟩, ⟨a', H', h1, h2, h3⟩⟩)
  have hact : RelAct M.w.heap.size M fn.ntmps (initAct 0 args) { tmps := cargs ++ Array.replicate (fn.ntmps - cargs.size) undef, defers := [] } := by
    refine ⟨Marks.nil _ _, by simp; omega, fun t => ?_⟩
    rw [aget_init, if_pos (Nat.zero_le _), Nat.sub_zero, Array.getD_eq_getD_getElem?]
    by_cases ht : t < args.length
    · rw [Array.getElem?_append_left (by omega), Array.getElem?_eq_getElem (by omega)]
      have e : args.getD t .junk = args[t] := by simp [List.getD, List.getElem?_eq_getElem ht]
      rw [e]
      have := ha.2 t ht (by rw [Array.length_toList]; omega)
      rwa [Array.getElem_toList] at this
    · have : args.getD t .junk = .junk := by simp [List.getD, List.getElem?_eq_none (Nat.le_of_not_lt ht)]
      rw [this]; exact .junk _
  refine wpIn_mono (hw M _ (Ext.refl M) hs hact) ?_
  rintro e ca' w' ⟨M1, a1, H1, rfl, h1, h2, h3, h4⟩
  have fin : (∃ a' H', Weak fn.ntmps M a1 H1 a' H' ∧ (aresults P a' H' fn.results.toList).1 ∧ R (aresults P a' H' fn.results.toList).2 H') →
      LeavesInM Fence.wide 0 P fn ca'.tmps (fun e w' => ∃ (cv : Value) (M' : Mem) (v : AV) (H' : List AObj), e = .returned cv ∧ M'.w = w' ∧ Ext M M' ∧ St M' H' ∧ RelA M' v cv ∧ R v H') ca'.defers .returning M1.w := by
    rintro ⟨a', H', hw, k1, k2⟩
    obtain ⟨M2, e2, g1, g2, g3⟩ := hw M1 ca' h1 h2 h3
    obtain ⟨Ds, d1, d2, d3⟩ := g3.defers
    rw [d1, ← e2]
    refine leaves hs.bound Ds M2 a' H' fn.ntmps g1 g2 d2 d3 g3.get g3.size fun M3 x1 x2 x3 => ?_
    have hact3 : RelAct M3.w.heap.size M3 fn.ntmps a' { tmps := ca'.tmps, defers := [] } := ⟨Marks.nil _ _, g3.size, x3⟩
    obtain ⟨c, r1, r2⟩ := run_results (P := P) x2 hact3 fn k1
    exact ⟨c, r1, c, M3, _, H', rfl, rfl, x1, x2, r2, k2⟩
  cases e <;> first | exact h4.elim | exact fin h4

/-- What comes back as a row may come back as data. -/
theorem ACalls.frozen {P : Program} {f : FuncId} {args : List AV} {H : List AObj} {size m : Nat} {fr : Bool} {elems : List (List DV)} (hlen : elems.length = m) (hsz : ∀ e ∈ elems, e.length = size)
    (h : ACalls P f args H fun v H' => v = .row H.length size 0 m ∧ H' = H ++ [.cells fr (mkCells elems)]) : ACalls P f args H fun v H' => v = .d (.sl size elems false) ∧ H' = H := by
  intro M cargs hs ha
  refine (h M cargs hs ha).mono ?_
  rintro e w' ⟨cv, M', v, H', rfl, rfl, h1, h2, h3, rfl, rfl⟩
  have hzs : ∀ i (h : i < elems.length), (elems[i]'h).length = size := fun i h => hsz _ (List.getElem_mem h)
  have hfl := flatten_length elems hzs
  have hml : (mkCells elems).length = m * size := by rw [mkCells, List.length_map, hfl, hlen]
  have hH : ltH H.length H = true := by rw [← hs.k]; exact hs.ltH
  let ca : Act := { tmps := #[cv], defers := [] }
  have hact : RelAct M.w.heap.size M' 1 [(0, .row H.length size 0 m)] ca := by
    refine ⟨Marks.nil _ _, rfl, fun t => ?_⟩
    simp only [aget]
    split
    · rename_i e; subst e; exact h3
    · exact .junk _
  have w1 := Weak.freeze (n := 1) (M0 := M) (a := [(0, .row H.length size 0 m)]) (H := H ++ [.cells fr (mkCells elems)]) (q := H.length) (size := size) (off := 0) (m := m) (t := 0) [] (by rw [hs.k]; exact Nat.le_refl _) (fr := fr) (vs := mkCells elems) (elems := elems) (by simp)
    (by rw [List.drop_zero, List.take_of_length_le (by omega)]) (by omega) hlen hsz rfl
  have e1 : (H ++ [AObj.cells fr (mkCells elems)]).set H.length .dead = H ++ [.dead] := by rw [List.set_append_right _ _ (Nat.le_refl _)]; simp
  rw [e1] at w1
  have w2 := w1.trans (Weak.drop (n := 1) (M0 := M) (H := H) (J := [.dead]) (by rw [hs.k]; exact Nat.le_refl _) (by rfl) hH)
  obtain ⟨M2, e2, g1, g2, g3⟩ := w2 M' ca h1 h2 hact
  exact ⟨cv, M2, _, H, rfl, e2, g1, g2, g3.get 0, rfl, rfl⟩

end Go.R
