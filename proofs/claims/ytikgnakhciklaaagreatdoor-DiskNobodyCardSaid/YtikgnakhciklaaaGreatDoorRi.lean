/-
  The abstract layer, part 9: conversions, min and max, function values, maps.
-/
import Derived.Test.YtikgnakhciklaaaGreatDoorRh
import Derived.Laws.BytesString
import Derived.Laws.BytesArg
namespace Go.R
set_option linter.unusedSectionVars false
variable [Syms]
set_option linter.unusedSimpArgs false

/-! ### Conversions -/

def isByteC : AV → Bool
  | .d (.int .u8 _) => true
  | _ => false
def byteOf : AV → UInt8
  | .d (.int .u8 n) => UInt8.ofNat n.toNat
  | _ => 0

def aconv (P : Program) (H : List AObj) (src dst : TypeId) (x : AV) : ARes :=
  match P.underlying src, P.underlying dst, x with
  | some _, some (.int k), .d (.int _ n) => ⟨(afit k n).1, .d (afit k n).2, H⟩
  | some _, some .string, .d (.str s) => ⟨True, .d (.str s), H⟩
  | some _, some (.slice e), .d (.str s) =>
    match P.underlying e with
    | some (.int .u8) => ⟨True, .row H.length 1 0 s.length, H ++ [.cells true (s.map fun b => .d (.int .u8 b.toNat))]⟩
    | _ => fail H
  | some (.slice _), some (.slice e), .row i size off n =>
    match P.underlying e, H[i]? with
    | some (.int .u8), some (.cells _ vs) => ⟨src = dst ∧ n ≠ 0, .row i size off n, H.set i (.cells true vs)⟩
    | _, _ => fail H
  | some (.slice e), some .string, x =>
    match P.underlying e with
    | some (.int .u8) => ⟨(acontent H 1 x).1 ∧ (acontent H 1 x).2.1.all isByteC = true, .d (.str ((acontent H 1 x).2.1.map byteOf)), H⟩
    | _ => fail H
  | _, _, _ => fail H

theorem ext_frz {M : Mem} {b : Nat} {cs : Array Value} {t : TypeId} {fz fz' : Nat × Nat} {w' : World} (hb : M.w.heap[b]? = some (.cells cs t fz)) (hI : ¬ M.I b) (hb' : w'.heap[b]? = some (.cells cs t fz'))
    (hoth : ∀ c, c ≠ b → w'.heap[c]? = M.w.heap[c]?) (hsz : w'.heap.size = M.w.heap.size) (ho : w'.os = M.w.os) (ht : w'.tape = M.w.tape) (hou : w'.output = M.w.output) : Ext M (M.withW w') where
  I _ h := h
  old c hc := hoth c (fun e => hI (e ▸ hc))
  r _ _ := rfl
  o _ _ := rfl
  k := Nat.le_refl _
  shape c ds t' fzc hc := by
    by_cases e : c = b
    · subst e
      rw [hb] at hc; cases hc
      exact ⟨cs, fz', hb', rfl⟩
    · exact ⟨ds, fzc, (hoth c e).trans hc, rfl⟩
  size := by show _ ≤ w'.heap.size; rw [hsz]; exact Nat.le_refl _
  defs c hc := by
    refine (hoth c ?_).trans hc
    intro e; subst e; rw [hb] at hc; cases hc
  os := ho
  tape := ht
  output := hou

theorem freeze_at {w : World} {b n : Nat} {cs : Array Value} {t : TypeId} {lo hi : Nat} (hb : w.heap[b]? = some (.cells cs t (lo, hi))) :
    (w.freeze ⟨b, n, none⟩ 1).heap[b]? = some (.cells cs t (if lo == hi then (n, n + 1) else (min lo n, max hi (n + 1)))) := by
  simp only [World.freeze, Nat.one_ne_zero, if_false]
  have hlt := some_lt hb
  have hv : w.heap[b] = .cells cs t (lo, hi) := (Array.getElem?_eq_some_iff.1 hb).2
  rw [Array.getElem?_eq_getElem (by simpa using hlt), Array.getElem_modify]
  simp [hv]

theorem freeze_other {w : World} {b n c : Nat} (h : c ≠ b) : (w.freeze ⟨b, n, none⟩ 1).heap[c]? = w.heap[c]? := by
  simp [World.freeze, Array.getElem?_modify, Ne.symm h]

theorem bytes_inv {M : Mem} : ∀ {vs : List AV} {cs : List Value}, RelL M vs cs → vs.all isByteC = true → ∃ ns : List Int, cs = ns.map (Value.int .u8) ∧ vs.map byteOf = ns.map fun n => UInt8.ofNat n.toNat
  | [], cs, h, _ => ⟨[], by rw [h.nil_inv]; rfl, rfl⟩
  | v :: vs, cs, h, ha => by
    obtain ⟨c, cs', rfl, h1, h2⟩ := h.head
    simp only [List.all_cons, Bool.and_eq_true] at ha
    obtain ⟨ns, rfl, e2⟩ := bytes_inv h2 ha.2
    have hv := ha.1
    unfold isByteC at hv
    split at hv
    · rename_i n
      exact ⟨n :: ns, by rw [h1.int_inv]; rfl, by simp [byteOf, e2]⟩
    · simp at hv

theorem foldl_push (ns : List Int) : ∀ s : ByteArray, (ns.foldl (fun r n => r.push (UInt8.ofNat n.toNat)) s).data.toList = s.data.toList ++ ns.map fun n => UInt8.ofNat n.toNat := by
  induction ns with
  | nil => intro s; simp
  | cons n ns ih =>
    intro s
    simp only [List.foldl_cons, ih, List.map_cons]
    simp [ByteArray.push]

theorem sound_conv {P : Program} {M : Mem} {H : List AObj} (hs : St M H) (src dst : TypeId) {x : AV} {c : Value} (hx : RelA M x c) : SoundV P (convert src dst c) M (aconv P H src dst x) := by
  unfold aconv
  split
  · rename_i d k _ n hsrc hdst
    obtain rfl := hx.int_inv
    refine .pure hs rfl fun hok => ⟨_, ?_, afit_run hok⟩
    simp [convert, run_underlying hsrc, run_underlying hdst, Conv.intToInt]
  · rename_i d s hsrc hdst
    obtain ⟨b, rfl, rfl⟩ := hx.str_inv
    refine .pure hs rfl fun _ => ⟨.string b, ?_, hx⟩
    cases d <;> simp [convert, run_underlying hsrc, run_underlying hdst]
  · rename_i d e s hsrc hdst
    obtain ⟨b, rfl, rfl⟩ := hx.str_inv
    split
    · rename_i he
      intro _
      have hrun := Lib.run_convert_string_bytes (P := P) M.w src dst e b hsrc hdst he
      have hlen : b.data.toList.length = b.size := by rw [Array.length_toList]; rfl
      have hge : b.size ≤ grownCap M.w b.size 0 e := grownCap_ge _ _ _ _
      -- the row, then its mark
      have s1 := hs.drew
      have hcells : (Lib.bytesCells M.w e b).toList = (b.data.toList.map fun y => Value.int .u8 y.toNat) ++ List.replicate (grownCap M.w b.size 0 e - b.size) (.int .u8 0) := by simp [Lib.bytesCells]
      have hsize : (Lib.bytesCells M.w e b).size = grownCap M.w b.size 0 e := by
        rw [← Array.length_toList, hcells]; simp [hlen]; omega
      have hrel : RelL M (b.data.toList.map fun y => AV.d (.int .u8 y.toNat)) (b.data.toList.map fun y => Value.int .u8 y.toNat) :=
        ⟨by simp, fun j h1 h2 => by simp; exact .d _ _ (.int _ _)⟩
      have hone : ∀ c ∈ (b.data.toList.map fun y => Value.int .u8 (y.toNat : Int)), c.oneCell' = true := by
        intro c hc
        simp only [List.mem_map] at hc
        obtain ⟨y, _, rfl⟩ := hc
        rfl
      have s2 := s1.push_cells (Lib.bytesCells M.w e b) e true _ _ _ hcells (hrel.ext drew_ext) hone
      have e2 := s1.ext_push (.cells (Lib.bytesCells M.w e b) e)
      have hnew := heap_alloc_at M.w.drew (.cells (Lib.bytesCells M.w e b) e)
      have hi : (H ++ [AObj.cells true (b.data.toList.map fun y => AV.d (.int .u8 y.toNat))])[H.length]? = some (.cells true (b.data.toList.map fun y => AV.d (.int .u8 y.toNat))) := by simp
      have hr1 : ((M.withW M.w.drew).push (.cells (Lib.bytesCells M.w e b) e)).r H.length = M.w.heap.size := by simp [Mem.push, Mem.withW, hs.k]
      have hfr := freeze_at (n := (Lib.bytesCells M.w e b).size) hnew
      have hw : (M.w.drew.alloc (.cells (Lib.bytesCells M.w e b) e)).freeze ⟨M.w.heap.size, (Lib.bytesCells M.w e b).size, none⟩ 1 = Lib.bytesWorld M.w e b := rfl
      have e3 : Ext ((M.withW M.w.drew).push (.cells (Lib.bytesCells M.w e b) e)) (((M.withW M.w.drew).push (.cells (Lib.bytesCells M.w e b) e)).withW (Lib.bytesWorld M.w e b)) := by
        refine ext_frz (b := M.w.heap.size) hnew (by rw [← hr1]; exact s2.fresh _ _ hi trivial) (hw ▸ hfr) (fun c hc => ?_) ?_ rfl rfl rfl
        · rw [← hw]; exact freeze_other hc
        · rw [← hw]; simp [World.freeze, Mem.push, Mem.withW]
      refine ⟨_, _, hrun, (drew_ext.trans e2).trans e3, ?_, ?_⟩
      · have := s2.upd e3 rfl rfl rfl rfl hi trivial (fun b' hb' => by rw [← hw]; exact freeze_other (by rwa [hr1] at hb'))
          (o' := .cells true (b.data.toList.map fun y => AV.d (.int .u8 y.toNat))) ?_
        · rwa [List.set_append_right _ _ (Nat.le_refl _), Nat.sub_self, List.set_cons_zero] at this
        · refine ⟨Lib.bytesCells M.w e b, e, ((Lib.bytesCells M.w e b).size, (Lib.bytesCells M.w e b).size + 1), [], _, _, ?_, .inr ⟨rfl, Nat.le_refl _⟩, by simpa using hcells, ?_, (hrel.ext drew_ext).ext (e2.trans e3), hone⟩
          · show (Lib.bytesWorld M.w e b).heap[_]? = _
            rw [show (((M.withW M.w.drew).push (.cells (Lib.bytesCells M.w e b) e)).withW (Lib.bytesWorld M.w e b)).r H.length = M.w.heap.size from hr1, Lib.bytesWorld_at_new]
          · simp [Mem.push, Mem.withW, hs.k]
      · have h := rel_row_new s1 (cs := Lib.bytesCells M.w e b) (t := e) 1 b.size (grownCap M.w b.size 0 e) hge (by rw [hsize]; omega)
        rw [hlen]
        exact h.ext e3
    · exact .fail
  · rename_i e' e i size off n hsrc hdst
    split
    · rename_i fr vs he hi
      intro hok
      simp only at hok ⊢
      obtain ⟨rfl, hn⟩ := hok
      obtain ⟨cs, ct, fz, pre, cvs, rest, g1, g2, g3, g4, g5, g6⟩ := hs.obj i _ hi
      obtain ⟨lo, hi'⟩ := fz
      have hnI := hs.fresh i _ hi trivial
      rcases hx.row_inv.2 with ⟨cap, rfl, hcap, _⟩ | ⟨h0, _⟩
      · have hfr := freeze_at (n := cs.size) g1
        have hsh : M.w.shape? (M.r i) = some (ct, cs.size) := by simp [World.shape?, g1]
        have e1 : Ext M (M.withW (M.w.freeze ⟨M.r i, cs.size, none⟩ 1)) := ext_frz g1 hnI hfr (fun c hc => freeze_other hc) (by simp [World.freeze]) rfl rfl rfl
        refine ⟨_, M.withW (M.w.freeze ⟨M.r i, cs.size, none⟩ 1), ?_, e1, ?_, hx.ext e1⟩
        · rw [hsrc] at hdst; cases hdst
          simp [convert, run_underlying hsrc, run_underlying he, markStringish, hsh, Mem.withW]
        · refine hs.upd e1 rfl rfl rfl rfl hi trivial (fun b hb => freeze_other hb) ⟨cs, ct, _, pre, cvs, rest, hfr, ?_, g3, g4, g5.ext e1, g6⟩
          simp only at g2
          split
          · exact .inr ⟨rfl, Nat.le_refl _⟩
          · rename_i hne
            simp at hne
            rcases g2 with g2 | ⟨_, g2⟩
            · exact absurd g2 hne
            · exact .inr ⟨rfl, by simp only; omega⟩
      · exact absurd h0 hn
    · exact .fail
  · rename_i e hsrc hdst _
    split
    · rename_i he
      refine .pure hs rfl fun hok => ?_
      simp only at hok ⊢
      obtain ⟨h1, h2⟩ := hok
      obtain ⟨base, cap, cs, rfl, g1, g2, g3, g4, g5⟩ := content_rel hs hx h1
      obtain ⟨ns, rfl, e2⟩ := bytes_inv g1 h2
      have hconv := fun l => run_convert_bytes_string (P := P) M.w src dst e base l cap hsrc he hdst
      cases base with
      | none =>
        have hz := g4 rfl
        rw [hz] at g2
        have : ns = [] := List.eq_nil_of_length_eq_zero (by simpa using g2)
        subst this
        refine ⟨.string ByteArray.empty, (hconv _).trans rfl, ?_⟩
        rw [e2]
        exact RelA.str_mk M ByteArray.empty
      | some A =>
        have hl := g2
        rw [Nat.mul_one] at hl
        have hload := run_loadCells_list (P := P) M.w A (ns.map (Value.int .u8)) (fun j v hj => g3 A rfl j v hj)
        rw [hl] at hload
        have hrun := run_bytesToString (P := P) M.w A _ cap ns hload
        refine ⟨_, (hconv _).trans hrun, ?_⟩
        rw [e2]
        have := RelA.str_mk M (ns.foldl (fun r n => r.push (UInt8.ofNat n.toNat)) ByteArray.empty)
        rw [foldl_push] at this
        simpa using this
    · exact .fail
  · exact .fail

/-! ### min, max, function values, nil checks -/

def amin (H : List AObj) : List AV → ARes
  | [.d (.int k a), .d (.int k' b)] => ⟨k = k', .d (.int k (min a b)), H⟩
  | [.d (.int k a), .d (.int k' b), .d (.int k'' c)] => ⟨k = k' ∧ k = k'', .d (.int k (min (min a b) c)), H⟩
  | _ => fail H
def amax (H : List AObj) : List AV → ARes
  | [.d (.int k a), .d (.int k' b)] => ⟨k = k', .d (.int k (max a b)), H⟩
  | [.d (.int k a), .d (.int k' b), .d (.int k'' c)] => ⟨k = k' ∧ k = k'', .d (.int k (max (max a b) c)), H⟩
  | _ => fail H

theorem min_ite (a b : Int) : (if b < a then b else a) = min a b := by
  simp only [Int.min_def]; split <;> split <;> omega
theorem max_ite (a b : Int) : (if b > a then b else a) = max a b := by
  simp only [Int.max_def]; split <;> split <;> omega

theorem sound_min {P : Program} {M : Mem} {H : List AObj} (hs : St M H) (tys : Array TypeId) (ty : TypeId) {l : List AV} {cs : Array Value} (h : RelL M l cs.toList) : SoundV P (Builtin.min_ tys ty cs) M (amin H l) := by
  unfold amin
  split
  · rename_i k a k' b
    obtain ⟨c, _, e, h1, h⟩ := h.head
    obtain ⟨d, _, e2, h2, h⟩ := h.head
    have := h.nil_inv; subst this; subst e2
    obtain rfl := h1.int_inv
    obtain rfl := h2.int_inv
    refine .pure hs rfl fun hok => ⟨.int k (min a b), ?_, .d _ _ (.int _ _)⟩
    simp [Builtin.min_, e, Builtin.min2, min_ite]
  · rename_i k a k' b k'' c
    obtain ⟨c1, _, e, h1, h⟩ := h.head
    obtain ⟨d, _, e2, h2, h⟩ := h.head
    obtain ⟨d3, _, e3, h3, h⟩ := h.head
    have := h.nil_inv; subst this; subst e3; subst e2
    obtain rfl := h1.int_inv
    obtain rfl := h2.int_inv
    obtain rfl := h3.int_inv
    refine .pure hs rfl fun hok => ⟨.int k (min (min a b) c), ?_, .d _ _ (.int _ _)⟩
    simp [Builtin.min_, e, Builtin.min2, min_ite]
  · exact .fail

theorem sound_max {P : Program} {M : Mem} {H : List AObj} (hs : St M H) (tys : Array TypeId) (ty : TypeId) {l : List AV} {cs : Array Value} (h : RelL M l cs.toList) : SoundV P (Builtin.max_ tys ty cs) M (amax H l) := by
  unfold amax
  split
  · rename_i k a k' b
    obtain ⟨c, _, e, h1, h⟩ := h.head
    obtain ⟨d, _, e2, h2, h⟩ := h.head
    have := h.nil_inv; subst this; subst e2
    obtain rfl := h1.int_inv
    obtain rfl := h2.int_inv
    refine .pure hs rfl fun hok => ⟨.int k (max a b), ?_, .d _ _ (.int _ _)⟩
    have := max_ite a b
    simp [Builtin.max_, e, Builtin.max2] at *
    exact this
  · rename_i k a k' b k'' c
    obtain ⟨c1, _, e, h1, h⟩ := h.head
    obtain ⟨d, _, e2, h2, h⟩ := h.head
    obtain ⟨d3, _, e3, h3, h⟩ := h.head
    have := h.nil_inv; subst this; subst e3; subst e2
    obtain rfl := h1.int_inv
    obtain rfl := h2.int_inv
    obtain rfl := h3.int_inv
    refine .pure hs rfl fun hok => ⟨.int k (max (max a b) c), ?_, .d _ _ (.int _ _)⟩
    have q1 := max_ite a b
    have q2 := max_ite (max a b) c
    simp [Builtin.max_, e, Builtin.max2] at *
    rw [q1, q2]
  · exact .fail

def amakeFunc (H : List AObj) (f : Fn) (bs caps : List AV) : ARes :=
  match bs with
  | [] => ⟨True, .fn f caps, H⟩
  | b :: bs => match f, caps with
    | .func g, [] => ⟨True, .bfn g (b :: bs), H⟩
    | _, _ => fail H

theorem sound_makeFunc {P : Program} {M : Mem} {H : List AObj} (hs : St M H) (f : Fn) {bs caps : List AV} {fs cs : Array Value} (hb : RelL M bs fs.toList) (h : RelL M caps cs.toList) :
    SoundV P (Instr.makeFunc f fs cs) M (amakeFunc H f bs caps) := by
  unfold amakeFunc
  split
  · have e := hb.nil_inv
    have : fs = #[] := Array.toList_eq_nil_iff.1 e
    subst this
    refine .pure hs rfl fun hok => ?_
    refine ⟨.func f #[] cs, rfl, .fn f caps cs (by simpa using h.1) fun j h1 h2 => ?_⟩
    have := h.2 j h1 (by simpa using h2)
    rwa [Array.getElem_toList] at this
  · split
    · rename_i b bs _ _ g
      have e := h.nil_inv
      have : cs = #[] := Array.toList_eq_nil_iff.1 e
      subst this
      refine .pure hs rfl fun hok => ?_
      refine ⟨.func (.func g) fs #[], rfl, .bfn g (b :: bs) fs (by simpa using hb.1) fun j h1 h2 => ?_⟩
      have := hb.2 j h1 (by simpa using h2)
      rwa [Array.getElem_toList] at this
    · exact .fail

def anilCheck (H : List AObj) (x : AV) : ARes :=
  match x with
  | .ptr i o => ⟨True, .ptr i o, H⟩
  | .imm c => ⟨True, .imm c, H⟩
  | .fn (.func f) caps => ⟨True, .fn (.func f) caps, H⟩
  | _ => fail H

end Go.R
