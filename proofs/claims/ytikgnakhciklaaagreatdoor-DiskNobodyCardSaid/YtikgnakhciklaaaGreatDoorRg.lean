/-
  The abstract layer, part 7: cuts, append, copy.
-/
import Derived.Test.YtikgnakhciklaaaGreatDoorRf
namespace Go.R
set_option linter.unusedSectionVars false
variable [Syms]
set_option linter.unusedSimpArgs false

/-! ### Cuts -/

def cut {α : Type} (s : List α) : Option Int → Option Int → List α
  | none, none => s
  | some l, none => s.drop l.toNat
  | none, some h => s.take h.toNat
  | some l, some h => (s.take h.toNat).drop l.toNat

def cutOk (n : Nat) : Option Int → Option Int → Prop
  | none, none => True
  | some l, none => 0 ≤ l ∧ l ≤ n
  | none, some h => 0 ≤ h ∧ h ≤ n
  | some l, some h => 0 ≤ l ∧ l ≤ h ∧ h ≤ n

def cutLo (lo : Option Int) : Nat := match lo with | none => 0 | some l => l.toNat
def cutHi (n : Nat) (hi : Option Int) : Nat := match hi with | none => n | some h => h.toNat

theorem cut_eq {α : Type} (s : List α) (lo hi : Option Int) : cut s lo hi = (s.take (cutHi s.length hi)).drop (cutLo lo) := by
  cases lo <;> cases hi <;> simp [cut, cutLo, cutHi]

theorem cut_bounds {n : Nat} {lo hi : Option Int} (h : cutOk n lo hi) : cutLo lo ≤ cutHi n hi ∧ cutHi n hi ≤ n := by
  cases lo <;> cases hi <;> simp only [cutOk, cutLo, cutHi] at * <;> omega

theorem cut_length {α : Type} {s : List α} {lo hi : Option Int} (h : cutOk s.length lo hi) : (cut s lo hi).length = cutHi s.length hi - cutLo lo := by
  have := cut_bounds h
  rw [cut_eq]; simp; omega

/-- A bound: none, or a number. -/
def abnd : Option AV → Option (Option Int)
  | none => some none
  | some (.d (.int _ a)) => some (some a)
  | _ => none

inductive RelOpt (M : Mem) : Option AV → Option Value → Prop
  | none : RelOpt M none none
  | some {v : AV} {c : Value} (h : RelA M v c) : RelOpt M (some v) (some c)

theorem bnd_inv {M : Mem} {v : Option AV} {c : Option Value} (h : RelOpt M v c) {b : Option Int} (hb : abnd v = some b) : (b = none ∧ c = none) ∨ ∃ k n, b = some n ∧ c = some (.int k n) := by
  cases h with
  | none => simp [abnd] at hb; exact .inl ⟨hb.symm, rfl⟩
  | some h =>
    right
    rename_i v' c'
    unfold abnd at hb
    split at hb
    · rename_i e; simp at e
    · rename_i k a e
      simp at hb e
      subst hb; subst e
      exact ⟨k, a, rfl, by rw [h.int_inv]⟩
    · simp at hb

theorem run_bounds {P : Program} {w : World} (isS : Bool) (len cap : Nat) (hc : len ≤ cap) {lo hi : Option Int} {cl ch : Option Value}
    (hl : (lo = none ∧ cl = none) ∨ ∃ k n, lo = some n ∧ cl = some (.int k n)) (hh : (hi = none ∧ ch = none) ∨ ∃ k n, hi = some n ∧ ch = some (.int k n)) (h : cutOk len lo hi) :
    (Instr.sliceBounds isS len cap cl ch none).run P w = .ok (cutLo lo, cutHi len hi, cap) w := by
  rcases hl with ⟨rfl, rfl⟩ | ⟨k, n, rfl, rfl⟩ <;> rcases hh with ⟨rfl, rfl⟩ | ⟨k', m, rfl, rfl⟩ <;> simp only [cutOk] at h
  · simp [Instr.sliceBounds, cutLo, cutHi]
  · have : m ≤ cap := by omega
    simp [Instr.sliceBounds, Instr.sliceBound, asIntOf, cutLo, cutHi, h.1, this]
  · simp [Instr.sliceBounds, Instr.sliceBound, asIntOf, cutLo, cutHi, h.1, h.2]
  · obtain ⟨h0, h1, h2⟩ := h
    have h3 : m ≤ cap := by omega
    have h4 : 0 ≤ m := by omega
    have h5 : n ≤ max m 0 := by omega
    simp [Instr.sliceBounds, Instr.sliceBound, asIntOf, cutLo, cutHi, h0, h1, h3, h4, h5]

theorem run_bounds3 {P : Program} {w : World} (len cap : Nat) (hc : len ≤ cap) {lo : Option Int} {cl : Option Value} {k k' : IntKind} {m : Int}
    (hl : (lo = none ∧ cl = none) ∨ ∃ k n, lo = some n ∧ cl = some (.int k n)) (h : cutOk len lo (some m)) :
    (Instr.sliceBounds true len cap cl (some (.int k m)) (some (.int k' m))).run P w = .ok (cutLo lo, cutHi len (some m), m.toNat) w := by
  rcases hl with ⟨rfl, rfl⟩ | ⟨j, n, rfl, rfl⟩ <;> simp only [cutOk] at h
  · have : m ≤ cap := by omega
    simp [Instr.sliceBounds, Instr.sliceBound, asIntOf, cutLo, cutHi, h.1, this]
    intro hx
    omega
  · obtain ⟨h0, h1, h2⟩ := h
    have h3 : m ≤ cap := by omega
    have h4 : 0 ≤ m := by omega
    have h5 : n ≤ max m 0 := by omega
    have h6 : m ≤ max m 0 := by omega
    simp [Instr.sliceBounds, Instr.sliceBound, asIntOf, cutLo, cutHi, h0, h1, h3, h4, h5, h6]

def aslice (P : Program) (H : List AObj) (t : TypeId) (x : AV) (lo hi mx : Option AV) : ARes :=
  match abnd lo, abnd hi, abnd mx with
  | some lo, some hi, some none =>
    match x with
    | .d (.str s) =>
      match P.underlying t with
      | some .string => ⟨cutOk s.length lo hi, .d (.str (cut s lo hi)), H⟩
      | _ => fail H
    | .d .snil => ⟨((tSlice P t).bind (tSize P)).isSome = true ∧ cutOk 0 lo hi, .d .snil, H⟩
    | .d (.sl size elems ex) =>
      match (tSlice P t).bind (tSize P) with
      | some size' => ⟨size' = size ∧ cutOk elems.length lo hi, .d (.sl size (cut elems lo hi) (ex && hi.isNone)), H⟩
      | none => fail H
    | .row i size off n =>
      match (tSlice P t).bind (tSize P) with
      | some size' => ⟨size' = size ∧ cutOk n lo hi, .row i size (off + cutLo lo * size) (cutHi n hi - cutLo lo), H⟩
      | none => fail H
    | .ptr i off =>
      match tArr P t with
      | some (n, e) =>
        match tSize P e, hcells H i with
        | some size, some vs => ⟨off + n * size ≤ vs.length ∧ cutOk n lo hi, .row i size (off + cutLo lo * size) (cutHi n hi - cutLo lo), H⟩
        | _, _ => fail H
      | none => fail H
    | _ => fail H
  | some lo, some (some h), some (some m) =>
    match x with
    | .d .snil => ⟨((tSlice P t).bind (tSize P)).isSome = true ∧ cutOk 0 lo (some h) ∧ m = h, .d .snil, H⟩
    | .d (.sl size elems _) =>
      match (tSlice P t).bind (tSize P) with
      | some size' => ⟨size' = size ∧ cutOk elems.length lo (some h) ∧ m = h, .d (.sl size (cut elems lo (some h)) true), H⟩
      | none => fail H
    | .row i size off n =>
      match (tSlice P t).bind (tSize P) with
      | some size' => ⟨size' = size ∧ cutOk n lo (some h) ∧ m = h, .row i size (off + cutLo lo * size) (cutHi n (some h) - cutLo lo), H⟩
      | none => fail H
    | _ => fail H
  | _, _, _ => fail H

/-- A slice of data out of its elements' places. -/
theorem RelD.sl_mk {M : Mem} {A : Addr} {cap size : Nat} {elems : List (List DV)} {ex : Bool} (hn : elems.length ≤ cap) (hex : ex = true → cap = elems.length)
    (hI : 0 < elems.length * size → M.I A.block ∧ A.spot = none) (hsz : ∀ i (h : i < elems.length), (elems[i]'h).length = size)
    (hel : ∀ i (h : i < elems.length), RelA M (.imm (elems[i]'h)) (.pointer (some (A.add (i * size))))) : RelD M.w M.I (.sl size elems ex) (.slice (some A) elems.length cap) := by
  have key : ∀ i j (h : i < elems.length) (h' : j < (elems[i]'h).length), ∃ v, M.w.cell? ⟨A.block, A.off + (i * size + j), none⟩ = some v ∧ RelD M.w M.I ((elems[i]'h)[j]'h') v := by
    intro i j h h'
    have hj : j < size := by rw [← hsz i h]; exact h'
    obtain ⟨i1, i2⟩ := hI (Nat.mul_pos (by omega) (by omega))
    have := hel i h
    rw [addr_add' i2] at this
    cases this with
    | imm _ _ vs _ hc hr => exact ⟨vs j, by have := hc j h'; simpa [Nat.add_assoc] using this, hr j h'⟩
  refine .sl A cap size elems ex (fun q => (M.w.cell? ⟨A.block, A.off + q, none⟩).getD undef) hn hex hsz hI (fun i j hi hj => ?_) (fun i j h h' => ?_)
  · obtain ⟨v, h1, _⟩ := key i j hi (by rw [hsz i hi]; exact hj)
    simp only [h1, Option.getD_some]
  · obtain ⟨v, h1, h2⟩ := key i j h h'
    simp only [h1, Option.getD_some]
    exact h2

theorem addr_add_add (A : Addr) (a b : Nat) : (A.add a).add b = A.add (a + b) := by
  obtain ⟨o, p, s⟩ := A
  unfold Addr.add
  by_cases ha : a = 0
  · subst ha; simp
  · by_cases hb : b = 0
    · subst hb; simp [ha]
    · simp [ha, hb, Nat.add_assoc]

theorem add_block (A : Addr) (n : Nat) : (A.add n).block = A.block := by unfold Addr.add; split <;> rfl
theorem add_spot {A : Addr} (h : A.spot = none) (n : Nat) : (A.add n).spot = none := by unfold Addr.add; split <;> simp [h]

theorem cut_get {α : Type} {s : List α} {lo hi : Option Int} (h : cutOk s.length lo hi) (i : Nat) (hi' : i < (cut s lo hi).length) : ∃ h2 : cutLo lo + i < s.length, (cut s lo hi)[i]'hi' = s[cutLo lo + i]'h2 := by
  have hb := cut_bounds h
  have hl := cut_length h
  refine ⟨by omega, ?_⟩
  have e : (cut s lo hi)[i]? = s[cutLo lo + i]? := by
    rw [cut_eq, List.getElem?_drop, List.getElem?_take_of_lt (by omega)]
  rw [List.getElem?_eq_getElem hi', List.getElem?_eq_getElem (by omega)] at e
  exact Option.some.inj e

theorem rel_sl_cut {M : Mem} {A : Addr} {cap c' size : Nat} {elems : List (List DV)} {ex ex' : Bool} (hx : RelA M (.d (.sl size elems ex)) (.slice (some A) elems.length cap)) {lo hi : Option Int}
    (h : cutOk elems.length lo hi) (hn : (cut elems lo hi).length ≤ c') (hex : ex' = true → c' = (cut elems lo hi).length) {B : Addr} (hB : 0 < (cut elems lo hi).length → B = A.add (cutLo lo * size)) :
    RelA M (.d (.sl size (cut elems lo hi) ex')) (.slice (some B) (cut elems lo hi).length c') := by
  obtain ⟨A', cap', he, _, _, hI, hsz, hel⟩ := hx.sl_inv
  cases he
  refine .d _ _ (RelD.sl_mk hn hex (fun h0 => ?_) (fun i hi' => ?_) (fun i hi' => ?_))
  · have hpos : 0 < (cut elems lo hi).length := Nat.pos_of_mul_pos_right h0
    have hpos2 : 0 < size := Nat.pos_of_mul_pos_left h0
    have := cut_bounds h
    have hl := cut_length h
    obtain ⟨i1, i2⟩ := hI (Nat.mul_pos (by omega) hpos2)
    rw [hB hpos]
    exact ⟨by rw [add_block]; exact i1, add_spot i2 _⟩
  · obtain ⟨h2, e⟩ := cut_get h i hi'
    rw [e]; exact hsz _ _
  · obtain ⟨h2, e⟩ := cut_get h i hi'
    rw [e, hB (by omega), addr_add_add, ← Nat.add_mul]
    exact hel _ h2

theorem rel_row_cut {M : Mem} {i size off n cap : Nat} (hk : i < M.k) (_hn : n ≤ cap) {cs : Array Value} {t : TypeId} {fz : Nat × Nat} (hb : M.w.heap[M.r i]? = some (.cells cs t fz)) (hs : M.o i + off + cap * size ≤ cs.size)
    {l h m : Nat} (hl : l ≤ h) (_hh : h ≤ n) (hm : h ≤ m) (hmc : m ≤ cap) :
    RelA M (.row i size (off + l * size) (h - l)) (.slice (some (if m = l then ⟨M.r i, M.o i + off, none⟩ else (⟨M.r i, M.o i + off, none⟩ : Addr).add (l * size))) (h - l) (m - l)) := by
  by_cases e : m = l
  · have e1 : h - l = 0 := by omega
    have e2 : m - l = 0 := by omega
    rw [e1, e2]
    exact .row0 _ _ _ hk _
  · rw [if_neg e, addr_add]
    have := RelA.row (M := M) i size (off + l * size) (h - l) (m - l) hk (by omega) cs t fz hb (by
      have h1 : (m - l) * size + l * size = m * size := by rw [← Nat.add_mul]; congr 1; omega
      have h2 : m * size ≤ cap * size := Nat.mul_le_mul_right _ hmc
      omega)
    rwa [← Nat.add_assoc] at this

theorem of_bindSize {P : Program} {t : TypeId} {n : Nat} (h : (tSlice P t).bind (tSize P) = some n) : ∃ e, P.underlying t = some (.slice e) ∧ tSize P e = some n := by
  cases he : tSlice P t with
  | none => simp [he] at h
  | some e => simp [he] at h; exact ⟨e, of_tSlice he, h⟩

theorem sound_slice {P : Program} {M : Mem} {H : List AObj} (hs : St M H) (t : TypeId) {x : AV} {c : Value} {lo hi mx : Option AV} {cl ch cm : Option Value} (hx : RelA M x c)
    (hlo : RelOpt M lo cl) (hhi : RelOpt M hi ch) (hmx : RelOpt M mx cm) : SoundV P (Instr.sliceAt t c cl ch cm) M (aslice P H t x lo hi mx) := by
  unfold aslice
  split
  · rename_i lo' hi' e1 e2 e3
    have hl := bnd_inv hlo e1
    have hh := bnd_inv hhi e2
    have hm := bnd_inv hmx e3
    have hcm : cm = none := by
      rcases hm with ⟨_, h⟩ | ⟨k, n, h, _⟩
      · exact h
      · simp at h
    subst hcm
    split
    · rename_i s
      obtain ⟨b, rfl, rfl⟩ := hx.str_inv
      split
      · rename_i hu
        refine .pure hs rfl fun hok => ?_
        simp only at hok ⊢
        have hlen : b.data.toList.length = b.size := by rw [Array.length_toList]; rfl
        rw [hlen] at hok
        have hr := run_bounds (P := P) (w := M.w) false b.size b.size (Nat.le_refl _) hl hh hok
        refine ⟨.string (b.extract (cutLo lo') (cutHi b.size hi')), ?_, ?_⟩
        · simp only [Instr.sliceAt, Sem.run_bind, run_underlying hu, Result.andThen_ok, Instr.slice, Option.isSome_none, Bool.false_eq_true, if_false, hr, Sem.run_pure]
        · have := RelA.str_mk M (b.extract (cutLo lo') (cutHi b.size hi'))
          rw [Lib.extract_data] at this
          rw [cut_eq, hlen, List.drop_take]
          exact this
      · exact .fail
    · obtain rfl := hx.snil_inv
      refine .pure hs rfl fun hok => ?_
      obtain ⟨h1, h2⟩ := hok
      obtain ⟨size, h1⟩ := Option.isSome_iff_exists.1 h1
      obtain ⟨e, hu, hse⟩ := of_bindSize h1
      have hr := run_bounds (P := P) (w := M.w) true 0 0 (Nat.le_refl _) hl hh h2
      have hb := cut_bounds h2
      have q1 : cutLo lo' = 0 := by omega
      have q2 : cutHi 0 hi' = 0 := by omega
      rw [q1, q2] at hr
      refine ⟨.slice none 0 0, ?_, .d _ _ .snil⟩
      simp [Instr.sliceAt, run_underlying hu, Instr.slice, hr, run_sizeOf hse]
    · rename_i size elems ex
      obtain ⟨A, cap, rfl, hn, hex, hI, hsz, hel⟩ := hx.sl_inv
      split
      · rename_i size' he
        obtain ⟨e, hu, hse⟩ := of_bindSize he
        refine .pure hs rfl fun hok => ?_
        simp only at hok ⊢
        obtain ⟨rfl, hc⟩ := hok
        have hr := run_bounds (P := P) (w := M.w) true elems.length cap hn hl hh hc
        have hb := cut_bounds hc
        have hcl := cut_length hc
        refine ⟨.slice (some (if cap = cutLo lo' then A else A.add (cutLo lo' * size'))) (cut elems lo' hi').length (cap - cutLo lo'), ?_, ?_⟩
        · simp only [Instr.sliceAt, Sem.run_bind, run_underlying hu, Result.andThen_ok, Instr.slice, hr, run_sizeOf hse, Sem.run_pure, hcl]
          congr 2
          split <;> simp_all
        · refine rel_sl_cut hx hc (by omega) (fun h => ?_) (fun h => by rw [if_neg (by omega)])
          simp only [Bool.and_eq_true] at h
          have := hex h.1
          have h2 : hi' = none := by simpa using h.2
          subst h2
          simp [cutHi] at *
          omega
      · exact .fail
    · rename_i i size off n
      split
      · rename_i size' he
        obtain ⟨e, hu, hse⟩ := of_bindSize he
        obtain ⟨hk, hrow⟩ := hx.row_inv
        refine .pure hs rfl fun hok => ?_
        simp only at hok ⊢
        obtain ⟨rfl, hc⟩ := hok
        have hb := cut_bounds hc
        rcases hrow with ⟨cap, rfl, hn, cs, t', fz, g1, g2⟩ | ⟨rfl, A, rfl⟩
        · have hr := run_bounds (P := P) (w := M.w) true n cap hn hl hh hc
          refine ⟨_, ?_, rel_row_cut hk hn g1 g2 (m := cap) hb.1 hb.2 (by omega) (Nat.le_refl _)⟩
          simp only [Instr.sliceAt, Sem.run_bind, run_underlying hu, Result.andThen_ok, Instr.slice, hr, run_sizeOf hse, Sem.run_pure]
          congr 2
          split <;> simp_all
        · have hr := run_bounds (P := P) (w := M.w) true 0 0 (Nat.le_refl _) hl hh hc
          have q1 : cutLo lo' = 0 := by omega
          have q2 : cutHi 0 hi' = 0 := by omega
          rw [q1, q2] at hr ⊢
          refine ⟨.slice (some A) 0 0, ?_, .row0 _ _ _ hk _⟩
          simp only [Instr.sliceAt, Sem.run_bind, run_underlying hu, Result.andThen_ok, Instr.slice, hr, run_sizeOf hse, Sem.run_pure]
          simp
      · exact .fail
    · rename_i i off
      split
      · rename_i n e he
        split
        · rename_i size vs hse hh'
          have hu := of_tArr he
          obtain ⟨rfl, hk⟩ := hx.ptr_inv
          refine .pure hs rfl fun hok => ?_
          simp only at hok ⊢
          obtain ⟨hle, hc⟩ := hok
          have hb := cut_bounds hc
          have hr := run_bounds (P := P) (w := M.w) false n n (Nat.le_refl _) hl hh hc
          obtain ⟨fr, hi2⟩ := of_hcells hh'
          obtain ⟨cs, t', fz, pre, cvs, rest, g1, g2, g3, g4, g5, _⟩ := hs.obj i _ hi2
          have hlen : cs.size = pre.length + cvs.length + rest.length := by rw [← Array.length_toList, g3]; simp; omega
          have := g5.1
          refine ⟨_, ?_, rel_row_cut hk (Nat.le_refl _) g1 (size := size) (by omega) (m := n) hb.1 hb.2 (by omega) (Nat.le_refl _)⟩
          simp only [Instr.sliceAt, Instr.sureAddr, Sem.run_bind, run_underlying hu, Result.andThen_ok, hr, run_sizeOf hse, Sem.run_pure]
        · exact .fail
      · exact .fail
    · exact .fail
  · rename_i lo' h m e1 e2 e3
    have hl := bnd_inv hlo e1
    rcases bnd_inv hhi e2 with ⟨h', _⟩ | ⟨kh, h', hh1, rfl⟩
    · simp at h'
    simp at hh1; subst hh1
    rcases bnd_inv hmx e3 with ⟨h', _⟩ | ⟨km, m', hh1, rfl⟩
    · simp at h'
    simp at hh1; subst hh1
    split
    · obtain rfl := hx.snil_inv
      refine .pure hs rfl fun hok => ?_
      obtain ⟨h1, h2, rfl⟩ := hok
      obtain ⟨size, h1⟩ := Option.isSome_iff_exists.1 h1
      obtain ⟨e, hu, hse⟩ := of_bindSize h1
      have hr := run_bounds3 (P := P) (w := M.w) 0 0 (Nat.le_refl _) (k := kh) (k' := km) hl h2
      have hb := cut_bounds h2
      have q1 : cutLo lo' = 0 := by omega
      have q2 : cutHi 0 (some m) = 0 := by omega
      have q3 : m.toNat = 0 := q2
      rw [q1, q2, q3] at hr
      refine ⟨.slice none 0 0, ?_, .d _ _ .snil⟩
      simp [Instr.sliceAt, run_underlying hu, Instr.slice, hr, run_sizeOf hse]
    · rename_i size elems ex
      obtain ⟨A, cap, rfl, hn, hex, hI, hsz, hel⟩ := hx.sl_inv
      split
      · rename_i size' he
        obtain ⟨e, hu, hse⟩ := of_bindSize he
        refine .pure hs rfl fun hok => ?_
        simp only at hok ⊢
        obtain ⟨rfl, hc, rfl⟩ := hok
        have hr := run_bounds3 (P := P) (w := M.w) elems.length cap hn (k := kh) (k' := km) hl hc
        have hb := cut_bounds hc
        have hcl := cut_length hc
        refine ⟨.slice (some (if m.toNat = cutLo lo' then A else A.add (cutLo lo' * size'))) (cut elems lo' (some m)).length (m.toNat - cutLo lo'), ?_, ?_⟩
        · simp only [Instr.sliceAt, Sem.run_bind, run_underlying hu, Result.andThen_ok, Instr.slice, hr, run_sizeOf hse, Sem.run_pure, hcl]
          congr 2
          split <;> simp_all
        · simp only [cutHi] at hcl hb
          exact rel_sl_cut hx hc (by omega) (fun _ => by omega) (fun h => by rw [if_neg (by omega)])
      · exact .fail
    · rename_i i size off n
      split
      · rename_i size' he
        obtain ⟨e, hu, hse⟩ := of_bindSize he
        obtain ⟨hk, hrow⟩ := hx.row_inv
        refine .pure hs rfl fun hok => ?_
        simp only at hok ⊢
        obtain ⟨rfl, hc, rfl⟩ := hok
        have hb := cut_bounds hc
        rcases hrow with ⟨cap, rfl, hn, cs, t', fz, g1, g2⟩ | ⟨rfl, A, rfl⟩
        · have hr := run_bounds3 (P := P) (w := M.w) n cap hn (k := kh) (k' := km) hl hc
          simp only [cutHi] at hb
          refine ⟨_, ?_, rel_row_cut hk hn g1 g2 (m := m.toNat) hb.1 hb.2 (Nat.le_refl _) (by omega)⟩
          simp only [Instr.sliceAt, Sem.run_bind, run_underlying hu, Result.andThen_ok, Instr.slice, hr, run_sizeOf hse, Sem.run_pure]
          congr 2
          split <;> simp_all
        · have hr := run_bounds3 (P := P) (w := M.w) 0 0 (Nat.le_refl _) (k := kh) (k' := km) hl hc
          have q1 : cutLo lo' = 0 := by omega
          have q2 : cutHi 0 (some m) = 0 := by omega
          have q3 : m.toNat = 0 := q2
          rw [q1, q2, q3] at hr
          rw [q1, q2]
          refine ⟨.slice (some A) 0 0, ?_, .row0 _ _ _ hk _⟩
          simp only [Instr.sliceAt, Sem.run_bind, run_underlying hu, Result.andThen_ok, Instr.slice, hr, run_sizeOf hse, Sem.run_pure]
          simp
      · exact .fail
    · exact .fail
  · exact .fail

/-! ### append -/

theorem run_lenOf_slice {P : Program} {w : World} (b : Option Addr) (n c : Nat) : (Builtin.lenOf (.slice b n c)).run P w = .ok n w := rfl

def notInt (d : TypeDesc) : Prop := d = .string ∨ ∃ e, d = .slice e

theorem run_append_room' {P : Program} {w w' : World} {t u ty e : TypeId} {d : TypeDesc} {i : TypeInfo} (ht : P.underlying t = some (.slice e)) (hu : P.underlying u = some d) (hd : notInt d) (hi : P.info? e = some i)
    {a : Addr} {sLen sCap n : Nat} {x : Value} {new : Array Value} (hx1 : (Builtin.lenOf x).run P w = .ok n w) (hx2 : (Builtin.firstCells i.size n x).run P w = .ok new w) (hroom : sLen + n ≤ sCap)
    (hst : (storeCells (a.add (sLen * i.size)) new.toList).run P w = .ok () w') :
    (Builtin.append_ #[t, u] ty #[.slice (some a) sLen sCap, x]).run P w = .ok (.slice (some a) (sLen + n) sCap) w' := by
  rcases hd with rfl | ⟨e', rfl⟩ <;> simp [Builtin.append_, run_underlying ht, run_underlying hu, sizeOf, typeInfo, hi, hx1, hroom, hx2, hst]

theorem run_append_none' {P : Program} {w : World} {t u ty e : TypeId} {d : TypeDesc} {i : TypeInfo} (ht : P.underlying t = some (.slice e)) (hu : P.underlying u = some d) (hd : notInt d) (hi : P.info? e = some i)
    {x : Value} {new : Array Value} (hx1 : (Builtin.lenOf x).run P w = .ok 0 w) (hx2 : (Builtin.firstCells i.size 0 x).run P w = .ok new w) :
    (Builtin.append_ #[t, u] ty #[.slice none 0 0, x]).run P w = .ok (.slice none 0 0) w := by
  rcases hd with rfl | ⟨e', rfl⟩ <;> simp [Builtin.append_, run_underlying ht, run_underlying hu, sizeOf, typeInfo, hi, hx1, hx2]

theorem run_append_grow' {P : Program} {w : World} {t u ty e : TypeId} {d : TypeDesc} {i : TypeInfo} {z : Value} (ht : P.underlying t = some (.slice e)) (hu : P.underlying u = some d) (hd : notInt d) (hi : P.info? e = some i) (hz : i.zero = some z)
    {b : Option Addr} {sLen sCap n : Nat} {x : Value} {old new : Array Value} (hx1 : (Builtin.lenOf x).run P w = .ok n w) (hx2 : (Builtin.firstCells i.size n x).run P w.drew = .ok new w.drew)
    (ho : (Builtin.firstCells i.size sLen (.slice b sLen sCap)).run P w.drew = .ok old w.drew)
    (hg : sCap < sLen + n) (h63 : sLen + n ≤ 9223372036854775807) (h47 : (sLen + n) * i.bytes ≤ 140737488355328) :
    (Builtin.append_ #[t, u] ty #[.slice b sLen sCap, x]).run P w =
      .ok (.slice (some ⟨w.heap.size, 0, none⟩) (sLen + n) (grownCap w (sLen + n) sCap e))
        (w.drew.alloc (.cells (old ++ new ++ Builtin.zeroCells z.cells (grownCap w (sLen + n) sCap e - (sLen + n))) e)) := by
  have hn : ¬ (sLen + n ≤ sCap) := by omega
  have h63' : ¬ (9223372036854775807 < ((sLen : Int) + (n : Int))) := by omega
  have hfit := growslice_fits hg h47
  have h48' : ¬ (281474976710656 < Builtin.nextslicecap (sLen + n) sCap * i.bytes) := by omega
  rcases hd with rfl | ⟨e', rfl⟩ <;>
    simp [Builtin.append_, run_underlying ht, run_underlying hu, sizeOf, typeInfo, zeroValue, hi, hz, hx1, hn, h63', h48', Question.forced, hx2, ho, newRow, grownCap]

/-- What is appended: the cells, and how many elements. -/
def aapp (P : Program) (H : List AObj) (size : Nat) (u : TypeId) (x : AV) : Prop × List AV × Nat :=
  match x with
  | .d (.str s) => (size = 1 ∧ P.underlying u = some .string, s.map fun b => .d (.int .u8 b.toNat), s.length)
  | x => ((acontent H size x).1 ∧ (tSlice P u).isSome = true, (acontent H size x).2)

theorem drew_ext {M : Mem} : Ext M (M.withW M.w.drew) :=
  ⟨fun _ h => h, fun _ _ => rfl, fun _ _ => rfl, fun _ _ => rfl, Nat.le_refl _, fun _ cs _ fz h => ⟨cs, fz, h, rfl⟩, Nat.le_refl _, fun _ h => h, rfl, rfl, rfl⟩

theorem RelO.drew {M : Mem} {i : Nat} {o : AObj} (hi : i < M.k) (h : RelO M i o) : RelO (M.withW M.w.drew) i o := h.ext drew_ext hi fun _ => rfl

theorem St.drew {M : Mem} {H : List AObj} (hs : St M H) : St (M.withW M.w.drew) H :=
  ⟨hs.k, hs.inj, hs.fresh, hs.bound, fun i o hi => (hs.obj i o hi).drew (by rw [hs.k]; exact get_lt hi)⟩

theorem app_rel {P : Program} {M : Mem} {H : List AObj} (hs : St M H) {size : Nat} {u : TypeId} {x : AV} {c : Value} (hx : RelA M x c) (hok : (aapp P H size u x).1) :
    ∃ (new : List Value) (d : TypeDesc), P.underlying u = some d ∧ notInt d ∧ RelL M (aapp P H size u x).2.1 new ∧ new.length = (aapp P H size u x).2.2 * size ∧ (∀ v ∈ new, v.oneCell' = true) ∧
      (∀ w : World, (Builtin.lenOf c).run P w = .ok (aapp P H size u x).2.2 w) ∧ (Builtin.firstCells size (aapp P H size u x).2.2 c).run P M.w = .ok new.toArray M.w ∧
      (Builtin.firstCells size (aapp P H size u x).2.2 c).run P M.w.drew = .ok new.toArray M.w.drew := by
  unfold aapp at *
  split at hok
  · rename_i s
    obtain ⟨b, rfl, rfl⟩ := hx.str_inv
    obtain ⟨rfl, hu⟩ := hok
    have hlen : b.data.toList.length = b.size := by rw [Array.length_toList]; rfl
    refine ⟨b.data.toList.map fun y => .int .u8 y.toNat, .string, hu, .inl rfl, ⟨by simp, fun j h1 h2 => by simp; exact .d _ _ (.int _ _)⟩, by simp, ?_, fun w => ?_, ?_, ?_⟩
    · intro v hv
      simp only [List.mem_map] at hv
      obtain ⟨y, _, rfl⟩ := hv
      rfl
    · simp [Builtin.lenOf]
    all_goals
      have e : (b.extract 0 b.size).data.toList = b.data.toList := by
        rw [Lib.extract_data]
        simp
        exact List.take_of_length_le (by rw [hlen]; exact Nat.le_refl _)
      simp only [Builtin.firstCells, Sem.run_pure, hlen]
      congr 1
      apply Array.ext'
      simp only [Array.toList_map, e]
  · obtain ⟨h1, h2⟩ := hok
    obtain ⟨e, he⟩ := Option.isSome_iff_exists.1 h2
    obtain ⟨base, cap, cs, rfl, g1, g2, g3, g4, g5⟩ := content_rel hs hx h1
    have key : ∀ w : World, (∀ a, w.cell? a = M.w.cell? a) → (Builtin.firstCells size (acontent H size x).2.2 (.slice base (acontent H size x).2.2 cap)).run P w = .ok cs.toArray w := by
      intro w hw
      cases base with
      | none =>
        have := g4 rfl
        rw [this] at g2
        have : cs = [] := List.eq_nil_of_length_eq_zero (by omega)
        subst this
        rfl
      | some A => exact run_firstCells_some w size _ A _ cap cs g2 (fun j v hj => by rw [hw]; exact g3 A rfl j v hj)
    exact ⟨cs, .slice e, of_tSlice he, .inr ⟨e, rfl⟩, g1, g2, g5, fun w => rfl, key _ (fun _ => rfl), key _ (fun _ => rfl)⟩

def aappend (P : Program) (H : List AObj) (t u : TypeId) (s x : AV) : ARes :=
  match tSlice P t with
  | some e =>
    match tZero P e, tSize P e, tBytes P e with
    | some z, some size, some bytes =>
      let r := aapp P H size u x
      match s with
      | .row i size' off n =>
        match H[i]? with
        | some (.cells fr vs) => ⟨size' = size ∧ z.length = size ∧ off + n * size ≤ vs.length ∧ r.1 ∧ n + r.2.2 ≤ 9223372036854775807 ∧ (n + r.2.2) * bytes ≤ 140737488355328,
            .row H.length size 0 (n + r.2.2), H.set i .dead ++ [.cells fr ((vs.drop off).take (n * size) ++ r.2.1)]⟩
        | _ => fail H
      | .d .snil =>
        if r.2.2 = 0 then ⟨r.1, .d .snil, H⟩
        else ⟨z.length = size ∧ r.1 ∧ r.2.2 ≤ 9223372036854775807 ∧ r.2.2 * bytes ≤ 140737488355328, .row H.length size 0 r.2.2, H ++ [.cells false r.2.1]⟩
      | .d (.sl size' elems true) =>
        if r.2.2 = 0 then ⟨r.1, .d (.sl size' elems true), H⟩
        else ⟨size' = size ∧ z.length = size ∧ r.1 ∧ elems.length + r.2.2 ≤ 9223372036854775807 ∧ (elems.length + r.2.2) * bytes ≤ 140737488355328,
          .row H.length size 0 (elems.length + r.2.2), H ++ [.cells false (mkCells elems ++ r.2.1)]⟩
      | _ => fail H
    | _, _, _ => fail H
  | none => fail H

/-- A live object is given up. -/
theorem St.kill {M : Mem} {H : List AObj} (hs : St M H) (i : Nat) : St M (H.set i .dead) := by
  have old : ∀ (j : Nat) (x : AObj), (H.set i .dead)[j]? = some x → x.live → H[j]? = some x := fun j x hj hx => by
    by_cases e : i = j
    · subst e
      rw [List.getElem?_set_self (by simpa using get_lt hj)] at hj
      cases hj; exact hx.elim
    · rwa [List.getElem?_set_ne e] at hj
  refine ⟨by rw [hs.k]; simp, fun a b x y ha hb hx hy h => hs.inj a b x y (old a x ha hx) (old b y hb hy) hx hy h, fun a x ha hx => hs.fresh a x (old a x ha hx) hx, hs.bound, fun a x ha => ?_⟩
  cases x with
  | dead => trivial
  | cells fr vs => exact hs.obj a _ (old a _ ha trivial)
  | map es clock => exact hs.obj a _ (old a _ ha trivial)
  | loop r => exact hs.obj a _ (old a _ ha trivial)
  | iter m since seen last => exact hs.obj a _ (old a _ ha trivial)
  | siter s pos => exact hs.obj a _ (old a _ ha trivial)

/-- An object more, at a block that no live one has. -/
def Mem.also (M : Mem) (b o : Nat) : Mem := { M with r := fun j => if j = M.k then b else M.r j, o := fun j => if j = M.k then o else M.o j, k := M.k + 1 }

theorem also_ext (M : Mem) (b o : Nat) : Ext M (M.also b o) where
  I _ h := h
  old _ _ := rfl
  r i hi := by simp only [Mem.also]; rw [if_neg (by omega)]
  o i hi := by simp only [Mem.also]; rw [if_neg (by omega)]
  k := Nat.le_succ _
  shape _ cs _ fz h := ⟨cs, fz, h, rfl⟩
  size := Nat.le_refl _
  defs _ h := h
  os := rfl
  tape := rfl
  output := rfl

theorem St.also {M : Mem} {H : List AObj} (hs : St M H) {b o : Nat} {ob : AObj} (hI : ¬ M.I b) (hne : ∀ (i : Nat) (x : AObj), H[i]? = some x → x.live → M.r i ≠ b) (ho : RelO (M.also b o) H.length ob) :
    St (M.also b o) (H ++ [ob]) := by
  have e := also_ext M b o
  have new : ∀ (j : Nat) (x : AObj), (H ++ [ob])[j]? = some x → (H[j]? = some x ∧ j < H.length) ∨ (j = H.length ∧ x = ob) := fun j x hj => by
    by_cases hlt : j < H.length
    · rw [List.getElem?_append_left hlt] at hj; exact .inl ⟨hj, hlt⟩
    · rw [List.getElem?_append_right (by omega)] at hj
      have : j - H.length = 0 := by
        have := get_lt hj; simp at this; omega
      rw [this] at hj
      exact .inr ⟨by omega, by simpa using hj.symm⟩
  have rold : ∀ j, j < H.length → (M.also b o).r j = M.r j := fun j hj => e.r j (by rw [hs.k]; exact hj)
  have rnew : (M.also b o).r H.length = b := by simp [Mem.also, hs.k]
  refine ⟨by simp [Mem.also, hs.k], fun a c x y ha hb hx hy hab => ?_, fun a x ha hx => ?_, hs.bound, fun a x ha => ?_⟩
  · rcases new a x ha with ⟨ha', hla⟩ | ⟨rfl, rfl⟩ <;> rcases new c y hb with ⟨hb', hlb⟩ | ⟨rfl, rfl⟩
    · rw [rold a hla, rold c hlb] at hab; exact hs.inj a c x y ha' hb' hx hy hab
    · rw [rold a hla, rnew] at hab; exact (hne a x ha' hx hab).elim
    · rw [rold c hlb, rnew] at hab; exact (hne c y hb' hy hab.symm).elim
    · rfl
  · rcases new a x ha with ⟨ha', hla⟩ | ⟨rfl, rfl⟩
    · rw [rold a hla]; exact hs.fresh a x ha' hx
    · rw [rnew]; exact hI
  · rcases new a x ha with ⟨ha', hla⟩ | ⟨rfl, rfl⟩
    · exact (hs.obj a x ha').ext e (by rw [hs.k]; exact hla) (fun _ => rfl)
    · exact ho

end Go.R
