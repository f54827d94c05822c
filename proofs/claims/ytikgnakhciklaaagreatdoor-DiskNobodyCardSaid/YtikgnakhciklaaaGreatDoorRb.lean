/-
  The abstract layer, part 2: operands, temporaries, types; the operations that compute, read, write and make memory.
-/
import Derived.Test.YtikgnakhciklaaaGreatDoorRa
import Derived.Laws.CopyRow
import Derived.Laws.MakeOwn
import Derived.Lib.Strings
import Derived.Lib.Slices
import Derived.WideLaws
namespace Go.R
set_option linter.unusedSectionVars false
variable [Syms]

/-! ### Temporaries and operands -/

def cv1 : Value → AV
  | .bool b => .d (.bool b)
  | .int k n => .d (.int k n)
  | .string s => .d (.str s.data.toList)
  | .slice none 0 0 => .d .snil
  | .pointer none => .pnil
  | .map none => .mnil
  | .nilFunc => .fnil
  | _ => .junk

def cv : Value → AV
  | .agg cs => .agg (cs.toList.map cv1)
  | .tuple ⟨[]⟩ => .tup []
  | v => cv1 v

theorem cv1_rel (M : Mem) (v : Value) : RelA M (cv1 v) v := by
  unfold cv1
  split
  · exact .d _ _ (.bool _)
  · exact .d _ _ (.int _ _)
  · exact .d _ _ (.str _)
  · exact .d _ _ .snil
  · exact .pnil
  · exact .mnil
  · exact .fnil
  · exact .junk _

theorem map_rel (M : Mem) (l : List Value) : RelL M (l.map cv1) l :=
  ⟨by simp, fun j h1 h2 => by simpa using cv1_rel M _⟩

theorem cv_rel (M : Mem) (v : Value) : RelA M (cv v) v := by
  unfold cv
  split
  · exact (map_rel M _).to_agg
  · exact .tup [] _ rfl (fun j h => absurd h (by simp))
  · exact cv1_rel M v

def ev (a : AAct) : Operand → AV
  | .tmp t => aget a t
  | .const v => cv v
  | .global _ => .junk
  | .func f => .fn (.func f) []

/-- The mark of a range over a function among a function's deferred calls. -/
def mark (D : Nat) : Deferred := { target := .collected D, args := #[] }

/-- All deferred calls are marks, of blocks that were made since, and that hold no call. -/
def Marks (B : Nat) (w : World) (ds : List Deferred) : Prop :=
  ∃ Ds : List Nat, ds = Ds.map mark ∧ Ds.Nodup ∧ ∀ D ∈ Ds, B ≤ D ∧ w.heap[D]? = some (Obj.deferred (some []))

theorem Marks.nil (B : Nat) (w : World) : Marks B w [] := ⟨[], rfl, .nil, fun D h => absurd h (by simp)⟩

theorem Marks.ext {B : Nat} {M M' : Mem} (e : Ext M M') {ds : List Deferred} (h : Marks B M.w ds) : Marks B M'.w ds := by
  obtain ⟨Ds, h1, h2, h3⟩ := h
  exact ⟨Ds, h1, h2, fun D hD => ⟨(h3 D hD).1, e.defs D (h3 D hD).2⟩⟩

structure RelAct (B : Nat) (M : Mem) (n : Nat) (a : AAct) (ca : Act) : Prop where
  defers : Marks B M.w ca.defers
  size : ca.tmps.size = n
  get : ∀ t, RelA M (aget a t) (ca.tmps.getD t undef)

theorem RelAct.ext {M M' : Mem} (e : Ext M M') {B n : Nat} {a : AAct} {ca : Act} (h : RelAct B M n a ca) : RelAct B M' n a ca :=
  ⟨h.defers.ext e, h.size, fun t => (h.get t).ext e⟩

theorem RelAct.ev {M : Mem} {B n : Nat} {a : AAct} {ca : Act} (h : RelAct B M n a ca) (x : Operand) : RelA M (ev a x) (ca.eval x) := by
  cases x with
  | tmp t => exact h.get t
  | const v => exact cv_rel M v
  | global g => exact .junk _
  | func f => exact .fn _ [] #[] rfl (fun j h => absurd h (by simp))

def aput (dst : Option Tmp) (v : AV) (a : AAct) : AAct :=
  match dst with
  | some d => (d, v) :: a
  | none => a

theorem RelAct.put {M : Mem} {B n : Nat} {a : AAct} {ca : Act} (h : RelAct B M n a ca) {dst : Option Tmp} {v : AV} {c : Value} (hd : ∀ d, dst = some d → d < n) (hv : RelA M v c) :
    RelAct B M n (aput dst v a) (ca.put dst c) := by
  cases dst with
  | none => exact h
  | some d =>
    have hd := hd d rfl
    refine ⟨h.defers, by simp [Act.put, h.size], fun t => ?_⟩
    simp only [aput, aget, Act.put, Array.getD_eq_getD_getElem?]
    by_cases e : t = d
    · subst e
      rw [if_pos rfl, Array.getElem?_setIfInBounds_self_of_lt (by rw [h.size]; exact hd)]
      exact hv
    · rw [if_neg e, Array.getElem?_setIfInBounds_ne (fun x => e x.symm)]
      have := h.get t
      rwa [Array.getD_eq_getD_getElem?] at this

/-- a' says no more than a. -/
def Weaker (a a' : AAct) : Prop := ∀ t, aget a' t = .junk ∨ aget a' t = aget a t

theorem RelAct.weaken {M : Mem} {B n : Nat} {a a' : AAct} {ca : Act} (h : RelAct B M n a ca) (hw : Weaker a a') : RelAct B M n a' ca :=
  ⟨h.defers, h.size, fun t => by
    rcases hw t with e | e
    · rw [e]; exact .junk _
    · rw [e]; exact h.get t⟩

/-- The temporaries of a list alone. -/
def akeep (ts : List Nat) (a : AAct) : AAct := ts.map fun t => (t, aget a t)

theorem aget_akeep (ts : List Nat) (a : AAct) (t : Nat) : aget (akeep ts a) t = .junk ∨ aget (akeep ts a) t = aget a t := by
  induction ts with
  | nil => exact .inl rfl
  | cons u ts ih =>
    simp only [akeep, List.map_cons, aget]
    split
    · rename_i e; subst e; exact .inr rfl
    · exact ih

theorem Weaker.keep (ts : List Nat) (a : AAct) : Weaker a (akeep ts a) := aget_akeep ts a

/-! ### Cells -/

def isCell : AV → Bool
  | .junk | .agg _ | .tup _ => false
  | _ => true

def cellsOf : AV → Option (List AV)
  | .junk => none
  | .tup _ => none
  | .agg cs => some cs
  | v => some [v]

theorem RelA.oneCell {M : Mem} {v : AV} {c : Value} (h : RelA M v c) (hv : isCell v = true) : c.oneCell' = true ∧ c.cells = #[c] := by
  cases h <;> first | (simp [isCell] at hv; done) | exact ⟨rfl, rfl⟩ | skip
  case d x h => cases h <;> exact ⟨rfl, rfl⟩
  case sym n h => generalize Syms.ρ n = x at h; cases h <;> exact ⟨rfl, rfl⟩

theorem RelA.cellsOf {M : Mem} {v : AV} {c : Value} {cs : List AV} (h : RelA M v c) (hv : cellsOf v = some cs) : RelL M cs c.cells.toList := by
  by_cases hc : isCell v = true
  · have e := (h.oneCell hc).2
    have : cs = [v] := by
      cases v <;> simp_all [Go.R.cellsOf, isCell]
    subst this
    rw [e]
    exact .cons h (.nil M)
  · cases h <;> simp [isCell] at hc
    · simp [Go.R.cellsOf] at hv
    · rename_i vs hl h
      simp [Go.R.cellsOf] at hv
      subst hv
      obtain ⟨ws, e, hr⟩ := RelL.of_agg (RelA.agg _ vs hl h)
      cases e
      exact hr
    · simp [Go.R.cellsOf] at hv

theorem RelL.oneCell {M : Mem} {vs : List AV} {cs : List Value} (h : RelL M vs cs) (hv : vs.all isCell = true) : ∀ c ∈ cs, c.oneCell' = true := by
  intro c hc
  obtain ⟨j, hj, rfl⟩ := List.getElem_of_mem hc
  have hj' : j < vs.length := by have := h.1; omega
  exact ((h.2 j hj' hj).oneCell (List.all_eq_true.1 hv _ (List.getElem_mem hj'))).1

/-! ### Types -/

def tAgg (P : Program) (t : TypeId) : Option Bool := (P.underlying t).map fun | .struct _ => true | .array _ _ => true | _ => false
def tSize (P : Program) (t : TypeId) : Option Nat := (P.info? t).map (·.size)
def tBytes (P : Program) (t : TypeId) : Option Nat := (P.info? t).map (·.bytes)
def tZero (P : Program) (t : TypeId) : Option (List AV) := ((P.info? t).bind (·.zero)).map fun z => z.cells.toList.map cv1
def tSlice (P : Program) (t : TypeId) : Option TypeId := (P.underlying t).bind fun | .slice e => some e | _ => none
def tArr (P : Program) (t : TypeId) : Option (Nat × TypeId) := (P.underlying t).bind fun | .array n e => some (n, e) | _ => none
def tField (P : Program) (t : TypeId) (f : Nat) : Option (Nat × TypeId) := (P.underlying t).bind fun | .struct fs => (fs[f]?).map (fun x => (x.offset, x.type)) | _ => none

theorem run_isAgg {P : Program} {t : TypeId} {b : Bool} (h : tAgg P t = some b) (w : World) : (isAgg t).run P w = .ok b w := by
  unfold tAgg at h
  cases hu : P.underlying t with
  | none => simp [hu] at h
  | some d =>
    simp only [isAgg, Sem.run_bind, run_underlying hu, Result.andThen_ok]
    simp only [hu, Option.map_some, Option.some.injEq] at h
    cases d <;> simp_all

theorem run_sizeOf {P : Program} {t : TypeId} {n : Nat} (h : tSize P t = some n) (w : World) : (sizeOf t).run P w = .ok n w := by
  unfold tSize at h
  cases hu : P.info? t with
  | none => simp [hu] at h
  | some i =>
    simp [hu] at h
    simp [sizeOf, typeInfo, hu, h]

theorem of_tSlice {P : Program} {t e : TypeId} (h : tSlice P t = some e) : P.underlying t = some (.slice e) := by
  unfold tSlice at h
  cases hu : P.underlying t with
  | none => simp [hu] at h
  | some d => cases d <;> simp_all

theorem of_tArr {P : Program} {t e : TypeId} {n : Nat} (h : tArr P t = some (n, e)) : P.underlying t = some (.array n e) := by
  unfold tArr at h
  cases hu : P.underlying t with
  | none => simp [hu] at h
  | some d => cases d <;> simp_all

theorem of_tField {P : Program} {t e : TypeId} {f off : Nat} (h : tField P t f = some (off, e)) : ∃ fs x, P.underlying t = some (.struct fs) ∧ fs[f]? = some x ∧ x.offset = off ∧ x.type = e := by
  unfold tField at h
  cases hu : P.underlying t with
  | none => simp [hu] at h
  | some d =>
    cases d <;> simp [hu] at h
    rename_i fs
    obtain ⟨x, hx, h1, h2⟩ := h
    exact ⟨fs, x, rfl, hx, h1, h2⟩

/-! ### Results of operations -/

structure ARes where
  ok : Prop
  v : AV
  h : List AObj

def Next.val : Next → Option Value
  | .value v => some v
  | .skip => some undef
  | _ => none

/-- What an operation comes to is what the abstract one says. -/
def Sound (P : Program) (s : Sem Next) (M : Mem) (r : ARes) : Prop :=
  r.ok → ∃ nx cvv M', s.run P M.w = .ok nx M'.w ∧ Next.val nx = some cvv ∧ Ext M M' ∧ St M' r.h ∧ RelA M' r.v cvv

def fail (H : List AObj) : ARes := ⟨False, .junk, H⟩

theorem Sound.fail {P : Program} {s : Sem Next} {M : Mem} {H : List AObj} : Sound P s M (fail H) := fun h => h.elim

/-- The same of an operation that gives a value. -/
def SoundV (P : Program) (s : Sem Value) (M : Mem) (r : ARes) : Prop :=
  r.ok → ∃ c M', s.run P M.w = .ok c M'.w ∧ Ext M M' ∧ St M' r.h ∧ RelA M' r.v c

theorem SoundV.fail {P : Program} {s : Sem Value} {M : Mem} {H : List AObj} : SoundV P s M (fail H) := fun h => h.elim

theorem SoundV.sound {P : Program} {s : Sem Value} {M : Mem} {r : ARes} (h : SoundV P s M r) : Sound P (do Pure.pure (.value (← s))) M r := fun hok => by
  obtain ⟨c, M', h1, h2, h3, h4⟩ := h hok
  exact ⟨.value c, c, M', by simp [h1], rfl, h2, h3, h4⟩

theorem SoundV.pure {P : Program} {s : Sem Value} {M : Mem} {H : List AObj} (hs : St M H) {r : ARes} (hr : r.h = H)
    (h : r.ok → ∃ c, s.run P M.w = .ok c M.w ∧ RelA M r.v c) : SoundV P s M r := fun hok => by
  obtain ⟨c, h1, h3⟩ := h hok
  exact ⟨c, M, h1, .refl M, hr ▸ hs, h3⟩

/-- It computes: memory stays. -/
theorem Sound.pure {P : Program} {s : Sem Next} {M : Mem} {H : List AObj} (hs : St M H) {r : ARes} (hr : r.h = H)
    (h : r.ok → ∃ nx c, s.run P M.w = .ok nx M.w ∧ Next.val nx = some c ∧ RelA M r.v c) : Sound P s M r := fun hok => by
  obtain ⟨nx, c, h1, h2, h3⟩ := h hok
  exact ⟨nx, c, M, h1, h2, .refl M, hr ▸ hs, h3⟩

/-! ### Reading -/

def hcells (H : List AObj) (i : Nat) : Option (List AV) :=
  match H[i]? with
  | some (.cells _ vs) => some vs
  | _ => none

theorem of_hcells {H : List AObj} {i : Nat} {vs : List AV} (h : hcells H i = some vs) : ∃ fr, H[i]? = some (.cells fr vs) := by
  unfold hcells at h
  split at h
  · rename_i fr vs' he
    simp at h; subst h
    exact ⟨fr, he⟩
  · simp at h

theorem St.cells {M : Mem} {H : List AObj} (h : St M H) {i : Nat} {fr : Bool} {vs : List AV} (hi : H[i]? = some (.cells fr vs)) :
    ∃ cvs : List Value, RelL M vs cvs ∧ (∀ j c, cvs[j]? = some c → M.w.cell? ⟨M.r i, M.o i + j, none⟩ = some c) ∧ (∀ c ∈ cvs, c.oneCell' = true) := by
  obtain ⟨cs, t, fz, pre, cvs, rest, h1, _, h3, h4, h5⟩ := h.obj i _ hi
  refine ⟨cvs, h5.1, fun j c hj => ?_, h5.2⟩
  have e : cs[M.o i + j]? = some c := by
    rw [← Array.getElem?_toList, h3, List.append_assoc, List.getElem?_append_right (by omega), h4, Nat.add_sub_cancel_left, List.getElem?_append_left (get_lt hj)]
    exact hj
  simp [World.cell?, h1, e]

theorem run_loadVar_agg {P : Program} {w : World} {t : TypeId} {a : Addr} {n : Nat} (ha : tAgg P t = some true) (hn : tSize P t = some n) {cs : List Value} (hl : cs.length = n)
    (h : ∀ j v, cs[j]? = some v → w.cell? (a.add j) = some v) : (loadVar t a).run P w = .ok (.agg cs.toArray) w := by
  have := run_loadCells_list (P := P) w a cs h
  rw [hl] at this
  simp [loadVar, run_isAgg ha, run_sizeOf hn, this]

theorem run_loadVar_one {P : Program} {w : World} {t : TypeId} {a : Addr} (ha : tAgg P t = some false) {c : Value} (h : w.cell? a = some c) : (loadVar t a).run P w = .ok c w := by
  simp [loadVar, run_isAgg ha, h]

theorem RelL.getD {M : Mem} {vs : List AV} {cs : List Value} (h : RelL M vs cs) {j : Nat} (hj : j < vs.length) : ∃ c, cs[j]? = some c ∧ RelA M (vs.getD j .junk) c := by
  have e : vs[j]? = some (vs.getD j .junk) := by simp [List.getD, List.getElem?_eq_getElem hj]
  exact h.get e

def aload (P : Program) (H : List AObj) (t : TypeId) (p : AV) : ARes :=
  match p, tAgg P t, tSize P t with
  | .ptr i off, some true, some n =>
    match hcells H i with
    | some vs => ⟨off + n ≤ vs.length, .agg ((vs.drop off).take n), H⟩
    | none => fail H
  | .ptr i off, some false, _ =>
    match hcells H i with
    | some vs => ⟨off < vs.length, vs.getD off .junk, H⟩
    | none => fail H
  | .imm cells, some true, some n => ⟨n ≤ cells.length, .agg ((cells.take n).map .d), H⟩
  | .imm cells, some false, _ => ⟨0 < cells.length, .d (cells.getD 0 default), H⟩
  | _, _, _ => fail H

theorem RelA.ptr_inv {M : Mem} {i off : Nat} {c : Value} (h : RelA M (.ptr i off) c) : c = .pointer (some ⟨M.r i, M.o i + off, none⟩) ∧ i < M.k := by
  cases h with
  | ptr _ _ h => exact ⟨rfl, h⟩

theorem RelA.imm_inv {M : Mem} {cells : List DV} {c : Value} (h : RelA M (.imm cells) c) : ∃ A : Addr, c = .pointer (some A) ∧ (0 < cells.length → M.I A.block ∧ A.spot = none) ∧
    ∃ cvs : List Value, cvs.length = cells.length ∧ (∀ j v, cvs[j]? = some v → M.w.cell? ⟨A.block, A.off + j, none⟩ = some v) ∧ RelL M (cells.map .d) cvs := by
  cases h with
  | imm A _ vs hI hc hr =>
    refine ⟨A, rfl, hI, (List.range cells.length).map vs, by simp, fun j v hj => ?_, by simp, fun j h1 h2 => ?_⟩
    · have hlt := get_lt hj
      simp at hlt
      simp [hlt] at hj
      rw [hc j hlt, hj]
    · simp at h1
      simp only [List.getElem_map, List.getElem_range]
      exact .d _ _ (hr j h1)

theorem addr_add (b o j : Nat) : (⟨b, o, none⟩ : Addr).add j = ⟨b, o + j, none⟩ := Addr.add_lit b o j
theorem addr_add' {A : Addr} (h : A.spot = none) (j : Nat) : A.add j = ⟨A.block, A.off + j, none⟩ := by
  obtain ⟨b, o, s⟩ := A
  simp at h; subst h
  exact Addr.add_lit b o j

theorem run_loadAt (P : Program) (w : World) (t : TypeId) (a : Addr) : (Instr.loadAt t (.pointer (some a))).run P w = (loadVar t a).run P w := by simp [Instr.loadAt, Instr.sureAddr]

theorem pure_load {P : Program} {M : Mem} {H : List AObj} (hs : St M H) (t : TypeId) {p : AV} {c : Value} (hp : RelA M p c) :
    (aload P H t p).ok → ∃ v, (Instr.loadAt t c).run P M.w = .ok v M.w ∧ RelA M (aload P H t p).v v := by
  unfold aload
  split
  · rename_i i off n ha hn
    obtain ⟨rfl, hi⟩ := hp.ptr_inv
    cases hh : hcells H i with
    | none => exact fun h => h.elim
    | some vs =>
      refine fun hok => ?_
      simp only at hok ⊢
      obtain ⟨fr, hi'⟩ := of_hcells hh
      obtain ⟨cvs, hr, hc, _⟩ := hs.cells hi'
      have hl : ((cvs.drop off).take n).length = n := by have := hr.1; simp; omega
      have := run_loadVar_agg (P := P) (w := M.w) (a := ⟨M.r i, M.o i + off, none⟩) ha hn hl (fun j v hj => by
        rw [addr_add, Nat.add_assoc]
        refine hc _ _ ?_
        have hlt := get_lt hj
        rw [hl] at hlt
        rw [List.getElem?_take_of_lt hlt, List.getElem?_drop] at hj
        exact hj)
      have this' := (run_loadAt P M.w t _).trans this
      exact ⟨_, this', RelL.to_agg (by simpa using (hr.drop off).take n)⟩
  · rename_i i off ha
    obtain ⟨rfl, hi⟩ := hp.ptr_inv
    cases hh : hcells H i with
    | none => exact fun h => h.elim
    | some vs =>
      refine fun hok => ?_
      simp only at hok ⊢
      obtain ⟨fr, hi'⟩ := of_hcells hh
      obtain ⟨cvs, hr, hc, _⟩ := hs.cells hi'
      obtain ⟨c, hcj, hrel⟩ := hr.getD hok
      have := run_loadVar_one (P := P) (a := ⟨M.r i, M.o i + off, none⟩) ha (hc _ _ hcj)
      have this' := (run_loadAt P M.w t _).trans this
      exact ⟨_, this', hrel⟩
  · rename_i cells n ha hn
    obtain ⟨A, rfl, hI, cvs, hl, hc, hr⟩ := hp.imm_inv
    refine fun hok => ?_
    simp only at hok ⊢
    by_cases h0 : cells.length = 0
    · have hn0 : n = 0 := by omega
      subst hn0
      have := run_loadVar_agg (P := P) (w := M.w) (a := A) ha hn (cs := []) rfl (fun j v hj => by simp at hj)
      have this' := (run_loadAt P M.w t _).trans this
      exact ⟨_, this', by simpa using RelL.to_agg (vs := #[]) (RelL.nil M)⟩
    · have hsp := (hI (by omega)).2
      have hl' : (cvs.take n).length = n := by simp; omega
      have := run_loadVar_agg (P := P) (w := M.w) (a := A) ha hn hl' (fun j v hj => by
        rw [addr_add' hsp]
        have hlt := get_lt hj
        rw [hl'] at hlt
        rw [List.getElem?_take_of_lt hlt] at hj
        exact hc _ _ hj)
      have this' := (run_loadAt P M.w t _).trans this
      refine ⟨_, this', ?_⟩
      have := hr.take n
      rw [← List.map_take] at this
      exact RelL.to_agg (by simpa using this)
  · rename_i cells ha
    obtain ⟨A, rfl, hI, cvs, hl, hc, hr⟩ := hp.imm_inv
    refine fun hok => ?_
    simp only at hok ⊢
    obtain ⟨c, hcj, hrel⟩ := hr.getD (j := 0) (by simpa using hok)
    have hsp := (hI hok).2
    have hA : A = ⟨A.block, A.off + 0, none⟩ := by obtain ⟨b, o, s⟩ := A; simp at hsp; simp [hsp]
    have := run_loadVar_one (P := P) (a := A) ha (by rw [hA]; exact hc _ _ hcj)
    have this' := (run_loadAt P M.w t _).trans this
    refine ⟨_, this', ?_⟩
    have e : (cells.map AV.d).getD 0 .junk = .d (cells.getD 0 default) := by
      cases cells with
      | nil => simp at hok
      | cons x xs => rfl
    rw [e] at hrel
    exact hrel
  · exact fun h => h.elim

theorem aload_h (P : Program) (H : List AObj) (t : TypeId) (p : AV) : (aload P H t p).h = H := by
  unfold aload
  split <;> first | rfl | (split <;> rfl)

theorem sound_load {P : Program} {M : Mem} {H : List AObj} (hs : St M H) (t : TypeId) {p : AV} {c : Value} (hp : RelA M p c) : SoundV P (Instr.loadAt t c) M (aload P H t p) :=
  .pure hs (aload_h P H t p) (pure_load hs t hp)

/-! ### Writing -/

theorem run_storeCells_free (P : Program) (g o : Nat) (t : TypeId) (fz : Nat × Nat) : ∀ (vs : List Value) (i : Nat) (cur : Array Value) (w : World), w.heap[g]? = some (.cells cur t fz) →
    (fz.2 ≤ fz.1 ∨ cur.size ≤ fz.1) → o + i + vs.length ≤ cur.size → (∀ v ∈ vs, v.oneCell' = true) →
    (storeCells ⟨g, o, none⟩ vs i).run P w = .ok () (w.setRow g (cur.toList.take (o + i) ++ vs ++ cur.toList.drop (o + i + vs.length)).toArray)
  | [], i, cur, w, hg, _, _, _ => by
    simp only [storeCells, List.append_nil, List.length_nil, Nat.add_zero, List.take_append_drop, Array.toArray_toList]
    rw [setRow_self w g cur t fz hg]
    rfl
  | v :: rest, i, cur, w, hg, hfz, hl, h1 => by
    have hi : o + i < cur.size := by simp at hl; omega
    have hadd : (⟨g, o, none⟩ : Addr).add i = ⟨g, o + i, none⟩ := addr_add g o i
    have hcell : w.cell? ⟨g, o + i, none⟩ = some cur[o + i] := by simp [World.cell?, hg, hi]
    have hfro : w.frozen? ⟨g, o + i, none⟩ = false := by
      obtain ⟨lo, hi'⟩ := fz
      simp only [World.frozen?, hg, Bool.and_eq_false_iff, decide_eq_false_iff_not]
      simp only at hfz
      omega
    have hst : (store ((⟨g, o, none⟩ : Addr).add i) v).run P w = .ok () (w.setRow g (cur.setIfInBounds (o + i) v)) := by
      rw [hadd, run_store P w _ v _ (h1 v (by simp)), hcell]
      simp [hfro, setCell_eq_setRow w g (o + i) cur t fz v hg]
    have ih := run_storeCells_free P g o t fz rest (i + 1) (cur.setIfInBounds (o + i) v) (w.setRow g (cur.setIfInBounds (o + i) v)) (setRow_heap w g cur _ t _ hg)
      (by simpa using hfz) (by simp at hl ⊢; omega) (fun x hx => h1 x (by simp [hx]))
    simp only [storeCells, Sem.run_bind, hst, Result.andThen_ok, ih, setRow_setRow]
    congr 3
    have e := list_seg_step cur.toList (o + i) v rest (by simp at hl ⊢; omega)
    simpa [Array.toList_setIfInBounds, Nat.add_assoc] using e

def splice (vs : List AV) (off : Nat) (us : List AV) : List AV := vs.take off ++ us ++ vs.drop (off + us.length)

/-- The same memory, another world of the same blocks but for one. -/
def Mem.withW (M : Mem) (w : World) : Mem := { M with w := w }

theorem ext_setRow {M : Mem} {b : Nat} {cs cs' : Array Value} {t : TypeId} {fz : Nat × Nat} (hb : M.w.heap[b]? = some (.cells cs t fz)) (hI : ¬ M.I b) (hz : cs'.size = cs.size) :
    Ext M (M.withW (M.w.setRow b cs')) where
  I _ h := h
  old c hc := setRow_other _ _ _ _ (fun e => hI (e ▸ hc))
  r _ _ := rfl
  o _ _ := rfl
  k := Nat.le_refl _
  shape c ds t' fz' hc := by
    by_cases e : c = b
    · subst e
      rw [hb] at hc; cases hc
      exact ⟨cs', fz, setRow_heap _ _ _ _ _ _ hb, hz⟩
    · exact ⟨ds, fz', (setRow_other _ _ _ _ e).trans hc, rfl⟩
  size := by show _ ≤ (M.w.setRow b cs').heap.size; simp [World.setRow]
  defs c hc := by
    refine (setRow_other _ _ _ _ ?_).trans hc
    intro e; subst e; rw [hb] at hc; cases hc
  os := rfl
  tape := rfl
  output := rfl

theorem St.store {P : Program} {M : Mem} {H : List AObj} (hs : St M H) {i : Nat} {fr : Bool} {vs : List AV} (hi : H[i]? = some (.cells fr vs)) {off : Nat} {us : List AV} {news : List Value}
    (hr : RelL M us news) (h1 : ∀ v ∈ news, v.oneCell' = true) (hle : off + us.length ≤ vs.length) :
    ∃ M', (storeCells ⟨M.r i, M.o i + off, none⟩ news).run P M.w = .ok () M'.w ∧ Ext M M' ∧ St M' (H.set i (.cells fr (splice vs off us))) := by
  obtain ⟨cs, t, fz, pre, cvs, rest, g1, g2, g3, g4, g5, g6⟩ := hs.obj i _ hi
  have hlen : cs.size = pre.length + cvs.length + rest.length := by rw [← Array.length_toList, g3]; simp; omega
  have e1 := hr.1
  have e2 := g5.1
  have hrun := run_storeCells_free P (M.r i) (M.o i + off) t fz news 0 cs M.w g1 (by omega) (by omega) h1
  have hlist : (cs.toList.take (M.o i + off + 0) ++ news ++ cs.toList.drop (M.o i + off + 0 + news.length)) = pre ++ (cvs.take off ++ news ++ cvs.drop (off + news.length)) ++ rest := by
    rw [g3, Nat.add_zero, ← g4]
    have a1 : (pre ++ cvs ++ rest).take (pre.length + off) = pre ++ cvs.take off := by
      rw [List.append_assoc, List.take_length_add_append, List.take_append_of_le_length (by omega)]
    have a2 : (pre ++ cvs ++ rest).drop (pre.length + off + news.length) = cvs.drop (off + news.length) ++ rest := by
      rw [List.append_assoc, Nat.add_assoc, List.drop_length_add_append, List.drop_append_of_le_length (by omega)]
    rw [a1, a2]
    simp
  have hz : (cs.toList.take (M.o i + off + 0) ++ news ++ cs.toList.drop (M.o i + off + 0 + news.length)).toArray.size = cs.size := by
    simp only [List.size_toArray, List.length_append, List.length_take, List.length_drop, Array.length_toList]
    omega
  have e := ext_setRow (cs' := (cs.toList.take (M.o i + off + 0) ++ news ++ cs.toList.drop (M.o i + off + 0 + news.length)).toArray) g1 (hs.fresh i _ hi trivial) hz
  refine ⟨_, hrun, e, hs.upd e rfl rfl rfl rfl hi trivial (fun b hb => setRow_other _ _ _ _ hb) ⟨_, t, fz, pre, (cvs.take off ++ news ++ cvs.drop (off + news.length)), rest, setRow_heap _ _ _ _ _ _ g1, ?_, ?_, g4, ?_, ?_⟩⟩
  · rw [hz]; exact g2
  · simpa using hlist
  · have := ((g5.take off).append hr).append (g5.drop (off + us.length))
    rw [e1] at this
    have := this.ext e
    unfold splice
    rw [e1]
    exact this
  · intro c hc
    simp only [List.mem_append] at hc
    rcases hc with (hc | hc) | hc
    · exact g6 c (List.mem_of_mem_take hc)
    · exact h1 c hc
    · exact g6 c (List.mem_of_mem_drop hc)

/-- What a store does. -/
def astore (P : Program) (H : List AObj) (t : TypeId) (p v : AV) : ARes :=
  match p, cellsOf v, tSize P t with
  | .ptr i off, some us, some n =>
    match H[i]? with
    | some (.cells fr vs) => ⟨us.length = n ∧ off + n ≤ vs.length ∧ us.all isCell = true, .tup [], H.set i (.cells fr (splice vs off us))⟩
    | _ => fail H
  | _, _, _ => fail H

theorem sound_store {P : Program} {M : Mem} {H : List AObj} (hs : St M H) (t : TypeId) {p v : AV} {c d : Value} (hp : RelA M p c) (hv : RelA M v d) :
    Sound P (do Instr.storeAt t c d; pure .skip) M (astore P H t p v) := by
  unfold astore
  split
  · rename_i i off us n hc hn
    obtain ⟨rfl, hi⟩ := hp.ptr_inv
    split
    · rename_i fr vs hi'
      intro hok
      simp only at hok ⊢
      obtain ⟨k1, k2, k3⟩ := hok
      have hr := hv.cellsOf hc
      have hl := hr.1
      obtain ⟨M', r1, r2, r3⟩ := hs.store (P := P) hi' (off := off) hr (hr.oneCell k3) (by omega)
      refine ⟨.skip, undef, M', ?_, rfl, r2, r3, .tup [] _ rfl (fun j h => absurd h (by simp))⟩
      have hz : d.cells.size = n := by rw [← Array.length_toList]; omega
      simp [Instr.storeAt, Instr.sureAddr, storeVar, run_sizeOf hn, hz, r1]
    · exact .fail
  · exact .fail

end Go.R
