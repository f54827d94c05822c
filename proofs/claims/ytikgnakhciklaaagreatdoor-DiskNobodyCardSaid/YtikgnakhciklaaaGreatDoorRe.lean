/-
  The abstract layer, part 5: operators, comparisons, conversions.
-/
import Derived.Test.YtikgnakhciklaaaGreatDoorRd
import Derived.IntWalk
namespace Go.R
set_option linter.unusedSectionVars false
variable [Syms]
set_option linter.unusedSimpArgs false

/-! ### Integers -/

def inI64 (x : Int) : Prop := -9223372036854775808 ≤ x ∧ x ≤ 9223372036854775807

/-- A sum, a difference or a product as the kind has it; of int64 only where it fits. -/
def afit (k : IntKind) (x : Int) : Prop × DV :=
  match k with
  | .i64 => (inI64 x, .int .i64 x)
  | k => (True, .int k (k.wrap x))

def aint (op : BinOp) (k : IntKind) (a b : Int) : Prop × DV :=
  match op with
  | .add => afit k (a + b)
  | .sub => afit k (a - b)
  | .mul => afit k (a * b)
  | .quo => (0 ≤ a ∧ 0 < b ∧ k.wrap (a / b) = a / b, .int k (a / b))
  | .rem => (0 ≤ a ∧ 0 < b, .int k (a % b))
  | .and => (True, .int k (bits .and k a b))
  | .or => (True, .int k (bits .or k a b))
  | .xor => (True, .int k (bits .xor k a b))
  | .andNot => (True, .int k (bits .andNot k a b))
  | .shl => (0 ≤ b ∧ b ≤ k.bits, .int k (k.wrap (a * 2 ^ b.toNat)))
  | .shr => (0 ≤ b ∧ b ≤ k.bits, .int k (a / 2 ^ b.toNat))
  | .eql => (True, .bool (decide (a = b)))
  | .neq => (True, .bool (!decide (a = b)))
  | .lss => (True, .bool (decide (a < b)))
  | .leq => (True, .bool (decide (a ≤ b)))
  | .gtr => (True, .bool (decide (b < a)))
  | .geq => (True, .bool (decide (b ≤ a)))

def isShift : BinOp → Bool
  | .shl | .shr => true
  | _ => false

theorem afit_run {M : Mem} {k : IntKind} {x : Int} (h : (afit k x).1) : RelA M (.d (afit k x).2) (.int k (k.wrap x)) := by
  unfold afit at *
  split at h
  · simp only at h ⊢
    rw [IntWalk.i64_in x h]
    exact .d _ _ (.int _ _)
  · exact .d _ _ (.int _ _)

theorem run_aint {P : Program} {M : Mem} {op : BinOp} {k yk : IntKind} {a b : Int} (t : TypeId) (hk : isShift op = true ∨ k = yk) (h : (aint op k a b).1) :
    ∃ c, (binOp op t (.int k a) (.int yk b)).run P M.w = .ok c M.w ∧ RelA M (.d (aint op k a b).2) c := by
  cases op <;> simp only [aint, isShift, Bool.false_eq_true, false_or, true_or] at h hk ⊢
  case shl =>
    obtain ⟨h0, h1⟩ := h
    exact ⟨_, by rw [binOp_shl, shift_shl k yk a b h0 h1]; rfl, .d _ _ (.int _ _)⟩
  case shr =>
    obtain ⟨h0, h1⟩ := h
    exact ⟨_, by rw [binOp_shr, shift_shr k yk a b h0 h1]; rfl, .d _ _ (.int _ _)⟩
  all_goals subst hk
  case add => exact ⟨_, by rw [binOp_add]; simp only [Op.intArith]; rfl, afit_run h⟩
  case sub => exact ⟨_, by rw [binOp_sub]; simp only [Op.intArith]; rfl, afit_run h⟩
  case mul => exact ⟨_, by rw [binOp_mul]; simp only [Op.intArith]; rfl, afit_run h⟩
  case quo =>
    obtain ⟨h0, h1, h2⟩ := h
    refine ⟨.int k (a / b), ?_, .d _ _ (.int _ _)⟩
    rw [binOp_quo]
    simp only [Op.intDiv]
    rw [if_neg (by omega), Int.tdiv_eq_ediv_of_nonneg h0, h2]
    rfl
  case rem =>
    obtain ⟨h0, h1⟩ := h
    refine ⟨.int k (a % b), ?_, .d _ _ (.int _ _)⟩
    rw [binOp_rem]
    simp only [Op.intDiv]
    rw [if_neg (by omega), Int.tmod_eq_emod_of_nonneg h0]
    rfl
  case and => exact ⟨_, by rw [binOp_and, intBits_and]; rfl, .d _ _ (.int _ _)⟩
  case or => exact ⟨_, by rw [binOp_or, intBits_or]; rfl, .d _ _ (.int _ _)⟩
  case xor => exact ⟨_, by rw [binOp_xor, intBits_xor]; rfl, .d _ _ (.int _ _)⟩
  case andNot => exact ⟨_, by rw [binOp_andNot, intBits_andNot]; rfl, .d _ _ (.int _ _)⟩
  case eql => exact ⟨.bool (decide (a = b)), by rw [binOp_eql]; rfl, .d _ _ (.bool _)⟩
  case neq => exact ⟨.bool (!decide (a = b)), by rw [binOp_neq]; rfl, .d _ _ (.bool _)⟩
  case lss => exact ⟨_, by rw [binOp_lss]; rfl, .d _ _ (.bool _)⟩
  case leq => exact ⟨_, by rw [binOp_leq]; rfl, .d _ _ (.bool _)⟩
  case gtr => exact ⟨_, by rw [binOp_gtr]; rfl, .d _ _ (.bool _)⟩
  case geq => exact ⟨_, by rw [binOp_geq]; rfl, .d _ _ (.bool _)⟩

/-! ### Strings -/

def astr (op : BinOp) (s t : List UInt8) : Prop × DV :=
  match op with
  | .add => (s.length + t.length ≤ 9223372036854775807, .str (s ++ t))
  | .eql => (True, .bool (decide (s = t)))
  | .neq => (True, .bool (!decide (s = t)))
  | .lss => (True, .bool (Op.bytesLess s t))
  | .leq => (True, .bool (Op.bytesLess s t || decide (s = t)))
  | .gtr => (True, .bool (!(Op.bytesLess s t || decide (s = t))))
  | .geq => (True, .bool (!Op.bytesLess s t))
  | _ => (False, .snil)

theorem list_beq (x y : List UInt8) : (x == y) = decide (x = y) := by by_cases h : x = y <;> simp [h]

theorem run_astr {P : Program} {M : Mem} {op : BinOp} {b c : ByteArray} (t : TypeId) (h : (astr op b.data.toList c.data.toList).1) :
    ∃ v, (binOp op t (.string b) (.string c)).run P M.w = .ok v M.w ∧ RelA M (.d (astr op b.data.toList c.data.toList).2) v := by
  cases op <;> simp only [astr] at h ⊢ <;> try exact h.elim
  case add =>
    refine ⟨.string (b ++ c), ?_, ?_⟩
    · have h1 : ¬ (((b.size + c.size : Nat) : Int) > IntKind.i64.max) := by
        have e1 : b.data.toList.length = b.size := by rw [Array.length_toList]; rfl
        have e2 : c.data.toList.length = c.size := by rw [Array.length_toList]; rfl
        rw [e1, e2] at h
        rw [IntKind.max_i64]; omega
      simp only [binOp, Op.stringOp]
      rw [if_neg h1]
      rfl
    · have := RelA.str_mk M (b ++ c)
      rwa [ByteArray.data_append, Array.toList_append] at this
  all_goals
    refine ⟨_, ?_, .d _ _ (.bool _)⟩
    simp only [binOp, Op.stringOp, ByteArray.toList_eq, list_beq]
    rfl

/-! ### Other comparisons -/

def DV.eqs : DV → DV → Option Bool
  | .int _ a, .int _ b => some (decide (a = b))
  | .str a, .str b => some (decide (a = b))
  | .bool a, .bool b => some (decide (a = b))
  | _, _ => none

def eqL : List AV → List AV → Bool
  | .d x :: xs, .d y :: ys => (DV.eqs x y).getD false && eqL xs ys
  | [], [] => true
  | _, _ => false

/-- A struct's or an array's equality is that of its cells. -/
def EqAgg (P : Program) (t : TypeId) (xs ys : List AV) : Prop :=
  ∀ (M : Mem) (cx cy : Array Value) (a b : Operand), RelL M xs cx.toList → RelL M ys cy.toList →
    (do eqGuard .eql t a b (.agg cx) (.agg cy); binOp .eql t (.agg cx) (.agg cy) : Sem Value).run P M.w = .ok (.bool (eqL xs ys)) M.w ∧
    (do eqGuard .neq t a b (.agg cx) (.agg cy); binOp .neq t (.agg cx) (.agg cy) : Sem Value).run P M.w = .ok (.bool (!eqL xs ys)) M.w

def isPtr (P : Program) (t : TypeId) : Bool := match P.underlying t with | some (.pointer _) => true | _ => false
def isSl (P : Program) (t : TypeId) : Bool := match P.underlying t with | some (.slice _) => true | _ => false
def isMap (P : Program) (t : TypeId) : Bool := match P.underlying t with | some (.map _ _) => true | _ => false
def isFn (P : Program) (t : TypeId) : Bool := match P.underlying t with | some (.func _ _ _) => true | _ => false
def isBool (P : Program) (t : TypeId) : Bool := match P.underlying t with | some .bool => true | _ => false
def tPtr (P : Program) (t : TypeId) : Option TypeId := (P.underlying t).bind fun | .pointer e => some e | _ => none

/-- x == y (b: whether it is so). -/
def aeq (P : Program) (H : List AObj) (t : TypeId) (x y : AV) : Prop × Bool :=
  match x, y with
  | .d (.bool a), .d (.bool b) => (isBool P t = true, decide (a = b))
  | .pnil, .pnil => (isPtr P t = true, true)
  | .pnil, .ptr _ _ => (isPtr P t = true, false)
  | .ptr _ _, .pnil => (isPtr P t = true, false)
  | .pnil, .imm _ => (isPtr P t = true, false)
  | .imm _, .pnil => (isPtr P t = true, false)
  | .ptr i a, .ptr j b => ((∃ e n vs us, tPtr P t = some e ∧ tSize P e = some (n + 1) ∧ H[i]? = some (.cells false vs) ∧ H[j]? = some (.cells false us)), decide (i = j ∧ a = b))
  | .d .snil, .d .snil => (isSl P t = true, true)
  | .d .snil, .d (.sl _ _ _) => (isSl P t = true, false)
  | .d (.sl _ _ _), .d .snil => (isSl P t = true, false)
  | .d .snil, .row _ _ _ _ => (isSl P t = true, false)
  | .row _ _ _ _, .d .snil => (isSl P t = true, false)
  | .mnil, .mnil => (isMap P t = true, true)
  | .mnil, .map _ => (isMap P t = true, false)
  | .map _, .mnil => (isMap P t = true, false)
  | .fnil, .fnil => (isFn P t = true, true)
  | .fnil, .fn _ _ => (isFn P t = true, false)
  | .fn _ _, .fnil => (isFn P t = true, false)
  | _, _ => (False, false)

theorem of_isPtr {P : Program} {t : TypeId} (h : isPtr P t = true) : ∃ e, P.underlying t = some (.pointer e) := by
  unfold isPtr at h; split at h
  · exact ⟨_, ‹_›⟩
  · simp at h
theorem of_isSl {P : Program} {t : TypeId} (h : isSl P t = true) : ∃ e, P.underlying t = some (.slice e) := by
  unfold isSl at h; split at h
  · exact ⟨_, ‹_›⟩
  · simp at h
theorem of_isMap {P : Program} {t : TypeId} (h : isMap P t = true) : ∃ e f, P.underlying t = some (.map e f) := by
  unfold isMap at h; split at h
  · exact ⟨_, _, ‹_›⟩
  · simp at h
theorem of_isFn {P : Program} {t : TypeId} (h : isFn P t = true) : ∃ e f g, P.underlying t = some (.func e f g) := by
  unfold isFn at h; split at h
  · exact ⟨_, _, _, ‹_›⟩
  · simp at h
theorem of_isBool {P : Program} {t : TypeId} (h : isBool P t = true) : P.underlying t = some .bool := by
  unfold isBool at h; split at h
  · assumption
  · simp at h
theorem of_tPtr {P : Program} {t e : TypeId} (h : tPtr P t = some e) : P.underlying t = some (.pointer e) := by
  unfold tPtr at h
  cases hu : P.underlying t with
  | none => simp [hu] at h
  | some d => cases d <;> simp_all

theorem RelA.pnil_inv {M : Mem} {c : Value} (h : RelA M .pnil c) : c = .pointer none := by cases h; rfl
theorem RelA.fnil_inv {M : Mem} {c : Value} (h : RelA M .fnil c) : c = .nilFunc := by cases h; rfl
theorem RelA.bfn_inv {M : Mem} {g : FuncId} {bs : List AV} {c : Value} (h : RelA M (.bfn g bs) c) : ∃ vs : Array Value, c = .func (.func g) vs #[] ∧ RelL M bs vs.toList := by
  cases h with
  | bfn _ _ vs hl h => exact ⟨vs, rfl, by simpa using hl, fun j h1 h2 => by have := h j h1 (by simpa using h2); rwa [Array.getElem_toList]⟩

theorem RelA.fn_inv {M : Mem} {f : Fn} {caps : List AV} {c : Value} (h : RelA M (.fn f caps) c) : ∃ vs : Array Value, c = .func f #[] vs ∧ RelL M caps vs.toList := by
  cases h with
  | fn _ _ vs hl h => exact ⟨vs, rfl, by simpa using hl, fun j h1 h2 => by have := h j h1 (by simpa using h2); rwa [Array.getElem_toList]⟩

theorem frozen_none {M : Mem} {i : Nat} {vs : List AV} (h : RelO M i (.cells false vs)) (o : Nat) : M.w.frozen? ⟨M.r i, o, none⟩ = false := by
  obtain ⟨cs, t, fz, pre, cvs, rest, g1, g2, _⟩ := h
  obtain ⟨lo, hi⟩ := fz
  simp only [World.frozen?, g1, Bool.and_eq_false_iff, decide_eq_false_iff_not]
  simp at g2
  omega

theorem run_sameAddr_cells {P : Program} {M : Mem} {H : List AObj} (hs : St M H) {i j : Nat} {vs us : List AV} (hi : H[i]? = some (.cells false vs)) (hj : H[j]? = some (.cells false us)) (a b : Nat) :
    (sameAddr ⟨M.r i, M.o i + a, none⟩ ⟨M.r j, M.o j + b, none⟩).run P M.w = .ok (decide (i = j ∧ a = b)) M.w := by
  have ri := hs.obj i _ hi
  have rj := hs.obj j _ hj
  by_cases e : i = j
  · subst e
    simp [sameAddr]
    by_cases e2 : a = b
    · simp [e2]
    · simp [e2]
  · have hne : ¬ (M.r i = M.r j) := fun h => e (hs.inj i j _ _ hi hj trivial trivial h)
    have f1 := frozen_none ri
    have f2 := frozen_none rj
    obtain ⟨cs, t, fz, pre, cvs, rest, g1, _⟩ := ri
    obtain ⟨cs', t', fz', pre', cvs', rest', g1', _⟩ := rj
    have s1 : M.w.shape? (M.r i) = some (t, cs.size) := by simp [World.shape?, g1]
    have s2 : M.w.shape? (M.r j) = some (t', cs'.size) := by simp [World.shape?, g1']
    simp [sameAddr, hne, f1, f2, noView, viewAt, s1, s2, mayBeOne, stringish, e]

theorem run_aeq {P : Program} {M : Mem} {H : List AObj} (hs : St M H) (t : TypeId) {x y : AV} {c d : Value} (hx : RelA M x c) (hy : RelA M y d) (h : (aeq P H t x y).1) :
    (Op.equal t c d).run P M.w = .ok (aeq P H t x y).2 M.w ∧ (∀ op a b, (eqGuard op t a b c d).run P M.w = .ok () M.w) ∧
    (binOp .eql t c d = do pure (.bool (← Op.equal t c d))) ∧ (binOp .neq t c d = do pure (.bool (!(← Op.equal t c d)))) := by
  have up : ∀ {c d : Value} {b : Bool}, (∀ n, (Op.equalIn (n + 1) t c d).run P M.w = .ok b M.w) → (Op.equal t c d).run P M.w = .ok b M.w := fun h => h 9999
  unfold aeq at *
  split at h
  · obtain rfl := hx.bool_inv
    obtain rfl := hy.bool_inv
    have hu := of_isBool h
    exact ⟨up fun n => by simp [Op.equalIn, run_underlying hu]; rfl, fun op a b => by rw [eqGuard_at_bool]; rfl, rfl, rfl⟩
  · obtain rfl := hx.pnil_inv
    obtain rfl := hy.pnil_inv
    obtain ⟨e, hu⟩ := of_isPtr h
    exact ⟨up fun n => by simp [Op.equalIn, run_underlying hu], fun op a b => by rw [eqGuard_at_pointer]; rfl, rfl, rfl⟩
  · obtain rfl := hx.pnil_inv
    obtain ⟨rfl, _⟩ := hy.ptr_inv
    obtain ⟨e, hu⟩ := of_isPtr h
    exact ⟨up fun n => by simp [Op.equalIn, run_underlying hu], fun op a b => by rw [eqGuard_at_pointer]; rfl, rfl, rfl⟩
  · obtain rfl := hy.pnil_inv
    obtain ⟨rfl, _⟩ := hx.ptr_inv
    obtain ⟨e, hu⟩ := of_isPtr h
    exact ⟨up fun n => by simp [Op.equalIn, run_underlying hu], fun op a b => by rw [eqGuard_at_pointer]; rfl, rfl, rfl⟩
  · obtain rfl := hx.pnil_inv
    obtain ⟨A, rfl, _⟩ := hy.imm_inv
    obtain ⟨e, hu⟩ := of_isPtr h
    exact ⟨up fun n => by simp [Op.equalIn, run_underlying hu], fun op a b => by rw [eqGuard_at_pointer]; rfl, rfl, rfl⟩
  · obtain rfl := hy.pnil_inv
    obtain ⟨A, rfl, _⟩ := hx.imm_inv
    obtain ⟨e, hu⟩ := of_isPtr h
    exact ⟨up fun n => by simp [Op.equalIn, run_underlying hu], fun op a b => by rw [eqGuard_at_pointer]; rfl, rfl, rfl⟩
  · obtain ⟨rfl, hi⟩ := hx.ptr_inv
    obtain ⟨rfl, hj⟩ := hy.ptr_inv
    obtain ⟨e, n, vs, us, h1, h2, h3, h4⟩ := h
    have hu := of_tPtr h1
    have := run_sameAddr_cells (P := P) hs h3 h4
    exact ⟨up fun n => by simp only [Op.equalIn, Sem.run_bind, run_underlying hu, Result.andThen_ok, run_sizeOf h2]; rw [if_pos (by omega)]; exact this _ _, fun op a b => by rw [eqGuard_at_pointer]; rfl, rfl, rfl⟩
  · obtain rfl := hx.snil_inv
    obtain rfl := hy.snil_inv
    obtain ⟨e, hu⟩ := of_isSl h
    exact ⟨up fun n => by simp [Op.equalIn, run_underlying hu], fun op a b => by rw [eqGuard_at_slice]; rfl, rfl, rfl⟩
  · obtain rfl := hx.snil_inv
    obtain ⟨A, cap, rfl, _⟩ := hy.sl_inv
    obtain ⟨e, hu⟩ := of_isSl h
    exact ⟨up fun n => by simp [Op.equalIn, run_underlying hu], fun op a b => by rw [eqGuard_at_slice]; rfl, rfl, rfl⟩
  · obtain rfl := hy.snil_inv
    obtain ⟨A, cap, rfl, _⟩ := hx.sl_inv
    obtain ⟨e, hu⟩ := of_isSl h
    exact ⟨up fun n => by simp [Op.equalIn, run_underlying hu], fun op a b => by rw [eqGuard_at_slice]; rfl, rfl, rfl⟩
  · obtain rfl := hx.snil_inv
    obtain ⟨e, hu⟩ := of_isSl h
    rcases hy.row_inv.2 with ⟨cap, rfl, _⟩ | ⟨_, A, rfl⟩
    all_goals exact ⟨up fun n => by simp [Op.equalIn, run_underlying hu], fun op a b => by rw [eqGuard_at_slice]; rfl, rfl, rfl⟩
  · obtain rfl := hy.snil_inv
    obtain ⟨e, hu⟩ := of_isSl h
    rcases hx.row_inv.2 with ⟨cap, rfl, _⟩ | ⟨_, A, rfl⟩
    all_goals exact ⟨up fun n => by simp [Op.equalIn, run_underlying hu], fun op a b => by rw [eqGuard_at_slice]; rfl, rfl, rfl⟩
  · obtain rfl := hx.mnil_inv
    obtain rfl := hy.mnil_inv
    obtain ⟨e, f, hu⟩ := of_isMap h
    exact ⟨up fun n => by simp [Op.equalIn, run_underlying hu], fun op a b => by rw [eqGuard_at_map]; rfl, rfl, rfl⟩
  · obtain rfl := hx.mnil_inv
    obtain ⟨rfl, _⟩ := hy.map_inv
    obtain ⟨e, f, hu⟩ := of_isMap h
    exact ⟨up fun n => by simp [Op.equalIn, run_underlying hu], fun op a b => by rw [eqGuard_at_map]; rfl, rfl, rfl⟩
  · obtain rfl := hy.mnil_inv
    obtain ⟨rfl, _⟩ := hx.map_inv
    obtain ⟨e, f, hu⟩ := of_isMap h
    exact ⟨up fun n => by simp [Op.equalIn, run_underlying hu], fun op a b => by rw [eqGuard_at_map]; rfl, rfl, rfl⟩
  · obtain rfl := hx.fnil_inv
    obtain rfl := hy.fnil_inv
    obtain ⟨e, f, g, hu⟩ := of_isFn h
    exact ⟨up fun n => by simp [Op.equalIn, run_underlying hu], fun op a b => by rw [eqGuard_at_nilFunc]; rfl, rfl, rfl⟩
  · obtain rfl := hx.fnil_inv
    obtain ⟨vs, rfl, _⟩ := hy.fn_inv
    obtain ⟨e, f, g, hu⟩ := of_isFn h
    exact ⟨up fun n => by simp [Op.equalIn, run_underlying hu], fun op a b => by rw [eqGuard_at_nilFunc]; rfl, rfl, rfl⟩
  · obtain rfl := hy.fnil_inv
    obtain ⟨vs, rfl, _⟩ := hx.fn_inv
    obtain ⟨e, f, g, hu⟩ := of_isFn h
    exact ⟨up fun n => by simp [Op.equalIn, run_underlying hu], fun op a b => by rw [eqGuard_at_func]; rfl, rfl, rfl⟩
  · exact h.elim

/-! ### The operator -/

def abin (P : Program) (H : List AObj) (op : BinOp) (t : TypeId) (x y : AV) : ARes :=
  match x, y with
  | .d (.int k a), .d (.int k' b) => ⟨(isShift op = true ∨ k = k') ∧ (aint op k a b).1, .d (aint op k a b).2, H⟩
  | .d (.str a), .d (.str b) => ⟨(astr op a b).1, .d (astr op a b).2, H⟩
  | .agg xs, .agg ys =>
    match op with
    | .eql => ⟨EqAgg P t xs ys, .d (.bool (eqL xs ys)), H⟩
    | .neq => ⟨EqAgg P t xs ys, .d (.bool (!eqL xs ys)), H⟩
    | _ => fail H
  | x, y =>
    match op with
    | .eql => ⟨(aeq P H t x y).1, .d (.bool (aeq P H t x y).2), H⟩
    | .neq => ⟨(aeq P H t x y).1, .d (.bool (!(aeq P H t x y).2)), H⟩
    | _ => fail H

theorem sound_bin {P : Program} {M : Mem} {H : List AObj} (hs : St M H) (op : BinOp) (t : TypeId) (a b : Operand) {x y : AV} {c d : Value} (hx : RelA M x c) (hy : RelA M y d) :
    SoundV P (do eqGuard op t a b c d; binOp op t c d) M (abin P H op t x y) := by
  unfold abin
  split
  · rename_i k n k' m
    obtain rfl := hx.int_inv
    obtain rfl := hy.int_inv
    refine .pure hs rfl fun hok => ?_
    obtain ⟨hk, hok⟩ := hok
    obtain ⟨v, h1, h2⟩ := run_aint (P := P) (M := M) t hk hok
    exact ⟨v, by rw [eqGuard_at_int]; simp [h1], h2⟩
  · rename_i s u
    obtain ⟨e, rfl, rfl⟩ := hx.str_inv
    obtain ⟨f, rfl, rfl⟩ := hy.str_inv
    refine .pure hs rfl fun hok => ?_
    obtain ⟨v, h1, h2⟩ := run_astr (P := P) (M := M) t hok
    exact ⟨v, by rw [eqGuard_at_string]; simp [h1], h2⟩
  · rename_i xs ys
    obtain ⟨cx, rfl, rx⟩ := RelL.of_agg hx
    obtain ⟨cy, rfl, ry⟩ := RelL.of_agg hy
    split
    · exact .pure hs rfl fun hok => ⟨_, (hok M cx cy a b rx ry).1, .d _ _ (.bool _)⟩
    · exact .pure hs rfl fun hok => ⟨_, (hok M cx cy a b rx ry).2, .d _ _ (.bool _)⟩
    · exact .fail
  · split
    · refine .pure hs rfl fun hok => ?_
      obtain ⟨h1, h2, h3, _⟩ := run_aeq hs t hx hy hok
      exact ⟨.bool (aeq P H t x y).2, by simp [h2, h3, h1], .d _ _ (.bool _)⟩
    · refine .pure hs rfl fun hok => ?_
      obtain ⟨h1, h2, _, h4⟩ := run_aeq hs t hx hy hok
      exact ⟨.bool (!(aeq P H t x y).2), by simp [h2, h4, h1], .d _ _ (.bool _)⟩
    · exact .fail

def aun (H : List AObj) (op : UnOp) (x : AV) : ARes :=
  match op, x with
  | .not, .d (.bool b) => ⟨True, .d (.bool (!b)), H⟩
  | .neg, .d (.int k n) => ⟨(afit k (0 - n)).1, .d (afit k (0 - n)).2, H⟩
  | .xor, .d (.int k n) => ⟨True, .d (.int k (bits .xor k (if k.signed then -1 else k.max) n)), H⟩
  | _, _ => fail H

theorem sound_un {P : Program} {M : Mem} {H : List AObj} (hs : St M H) (op : UnOp) {x : AV} {c : Value} (hx : RelA M x c) : SoundV P (Op.unary op c) M (aun H op x) := by
  unfold aun
  split
  · obtain rfl := hx.bool_inv
    exact .pure hs rfl fun _ => ⟨_, rfl, .d _ _ (.bool _)⟩
  · obtain rfl := hx.int_inv
    exact .pure hs rfl fun hok => ⟨_, rfl, afit_run hok⟩
  · obtain rfl := hx.int_inv
    exact .pure hs rfl fun _ => ⟨_, rfl, .d _ _ (.int _ _)⟩
  · exact .fail

end Go.R
