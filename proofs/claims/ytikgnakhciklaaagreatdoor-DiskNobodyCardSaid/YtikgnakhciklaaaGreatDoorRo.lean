/-
  The abstract layer, part 14: bytes.
-/
import Derived.Test.YtikgnakhciklaaaGreatDoorRn
namespace Go.R
set_option linter.unusedSectionVars false
variable [Syms]
set_option linter.unusedSimpArgs false
set_option linter.unusedVariables false

/-- A []byte as data: nil, or bytes. -/
inductive BV where
  | nil
  | mk (bs : List UInt8) (ex : Bool)
  deriving Inhabited

def eB (b : UInt8) : List DV := [.int .u8 b.toNat]
def mkB (bs : List UInt8) : List AV := bs.map fun b => .d (.int .u8 b.toNat)

def BV.l : BV → List UInt8
  | .nil => []
  | .mk bs _ => bs

def BV.dv : BV → DV
  | .nil => .snil
  | .mk bs ex => .sl 1 (bs.map eB) ex

theorem mkCells_eB (bs : List UInt8) : mkCells (bs.map eB) = mkB bs := by
  induction bs with
  | nil => rfl
  | cons b bs ih =>
    simp only [mkCells, mkB, List.map_cons, List.flatten_cons, eB, List.map_append, List.map_nil] at *
    rw [ih]; rfl

theorem mkB_length (bs : List UInt8) : (mkB bs).length = bs.length := by simp [mkB]
theorem mkB_append (as bs : List UInt8) : mkB (as ++ bs) = mkB as ++ mkB bs := by simp [mkB]
theorem mkB_nil : mkB [] = [] := rfl
theorem mkB_cons (b : UInt8) (bs : List UInt8) : mkB (b :: bs) = .d (.int .u8 b.toNat) :: mkB bs := rfl
theorem mkB_take (bs : List UInt8) (n : Nat) : (mkB bs).take n = mkB (bs.take n) := by simp [mkB]
theorem mkB_drop (bs : List UInt8) (n : Nat) : (mkB bs).drop n = mkB (bs.drop n) := by simp [mkB]
theorem mkB_take_all (bs : List UInt8) : (mkB bs).take bs.length = mkB bs := List.take_of_length_le (by simp [mkB])
theorem mkB_take_le {bs : List UInt8} {n : Nat} (h : bs.length ≤ n) : (mkB bs).take n = mkB bs := List.take_of_length_le (by simpa [mkB] using h)
theorem mkB_snoc (bs : List UInt8) (b : UInt8) (rest : List AV) : mkB bs ++ (.d (.int .u8 b.toNat) :: rest) = mkB (bs ++ [b]) ++ rest := by simp [mkB]
theorem mkB_app (bs cs : List UInt8) : mkB bs ++ mkB cs = mkB (bs ++ cs) := by simp [mkB]
theorem mkB_all (bs : List UInt8) : (mkB bs).all isByteC = true := by simp [mkB, isByteC]
theorem mkB_cell (bs : List UInt8) : (mkB bs).all isCell = true := by simp [mkB, isCell]
theorem mkB_bytes (bs : List UInt8) : (mkB bs).map byteOf = bs := by
  simp only [mkB, List.map_map]
  conv => rhs; rw [← List.map_id bs]
  apply List.map_congr_left
  intro b _
  simp [byteOf]
theorem mkB_lt (k : Nat) (bs : List UInt8) : AV.ltL k (mkB bs) = true := by
  induction bs with
  | nil => rfl
  | cons b bs ih => simp [mkB, AV.ltL, AV.lt] at *; exact ih

theorem acontent_bv (H : List AObj) (b : BV) : acontent H 1 (.d b.dv) = (True, mkB b.l, b.l.length) := by
  cases b with
  | nil => rfl
  | mk bs ex => simp [acontent, BV.dv, BV.l, mkCells_eB]

theorem alen_bv {P : Program} {H : List AObj} {t : TypeId} {b : BV} (h : isSl P t = true) : alen P H t (.d b.dv) = ⟨True, .d (.int .i64 b.l.length), H⟩ := by
  cases b with
  | nil => exact alen_snil h
  | mk bs ex => simp [BV.dv, BV.l, alen_sl h]

theorem aset_bv {P : Program} {l : List Oper} {q : AAct → List AObj → Prop} {rest : List Oper} {a : AAct} {H : List AObj} {d : Tmp} {b : BV} : aset P l q rest (some d) a (.d b.dv) H = awpOps P l q rest ((d, .d b.dv) :: a) H := rfl

section
variable {P : Program} {H : List AObj} {size : Nat} {u : TypeId}
theorem acontent_snil : acontent H size (.d .snil) = (True, [], 0) := rfl
theorem acontent_sl {z : Nat} {es : List (List DV)} {ex : Bool} : acontent H size (.d (.sl z es ex)) = (z = size, mkCells es, es.length) := rfl
theorem acontent_row {i z off n : Nat} : acontent H size (.row i z off n) = (match hcells H i with
    | some vs => (z = size ∧ off + n * size ≤ vs.length, (vs.drop off).take (n * size), n)
    | none => (False, [], 0)) := rfl
theorem aapp_str {s : List UInt8} : aapp P H size u (.d (.str s)) = (size = 1 ∧ P.underlying u = some .string, mkB s, s.length) := rfl
theorem aapp_snil : aapp P H size u (.d .snil) = ((acontent H size (.d .snil)).1 ∧ (tSlice P u).isSome = true, (acontent H size (.d .snil)).2) := rfl
theorem aapp_sl {z : Nat} {es : List (List DV)} {ex : Bool} : aapp P H size u (.d (.sl z es ex)) = ((acontent H size (.d (.sl z es ex))).1 ∧ (tSlice P u).isSome = true, (acontent H size (.d (.sl z es ex))).2) := rfl
theorem aapp_row {i z off n : Nat} : aapp P H size u (.row i z off n) = ((acontent H size (.row i z off n)).1 ∧ (tSlice P u).isSome = true, (acontent H size (.row i z off n)).2) := rfl
theorem aapp_bv {b : BV} : aapp P H 1 u (.d b.dv) = (True ∧ (tSlice P u).isSome = true, mkB b.l, b.l.length) := by
  cases b with
  | nil => rfl
  | mk bs ex => simp [aapp, acontent, BV.dv, BV.l, mkCells_eB]
end

theorem eB_len (bs : List UInt8) : ∀ e ∈ bs.map eB, e.length = 1 := by
  intro e he
  simp only [List.mem_map] at he
  obtain ⟨b, _, rfl⟩ := he
  rfl

theorem inI64_u8 (x : UInt8) : inI64 (x.toNat : Int) = True := by
  have := x.toNat_lt; simp only [inI64, eq_iff_iff, iff_true]; omega
theorem inI64_u16 (x : UInt16) : inI64 (x.toNat : Int) = True := by
  have := x.toNat_lt; simp only [inI64, eq_iff_iff, iff_true]; omega
theorem inI64_u32 (x : UInt32) : inI64 (x.toNat : Int) = True := by
  have := x.toNat_lt; simp only [inI64, eq_iff_iff, iff_true]; omega

/-- The byte of a number. -/
def byteI (n : Int) : UInt8 := UInt8.ofNat (n % 256).toNat

theorem wrap_byteI (n : Int) : IntKind.u8.wrap n = (byteI n).toNat := by
  rw [IntKind.wrap_u8, byteI, UInt8.toNat_ofNat']
  have h1 : 0 ≤ n % 256 := Int.emod_nonneg _ (by decide)
  have h2 : n % 256 < 256 := Int.emod_lt_of_pos _ (by decide)
  omega

/-- A slice of bytes, whatever it lies in: what it holds. -/
def IsB (H : List AObj) (x : AV) (bs : List UInt8) : Prop :=
  (x = .d .snil ∧ bs = []) ∨ (∃ ex, x = .d (.sl 1 (bs.map eB) ex)) ∨ (∃ i off vs, x = .row i 1 off bs.length ∧ hcells H i = some vs ∧ off + bs.length ≤ vs.length ∧ (vs.drop off).take bs.length = mkB bs)

theorem IsB.bv (H : List AObj) (b : BV) : IsB H (.d b.dv) b.l := by
  cases b with
  | nil => exact .inl ⟨rfl, rfl⟩
  | mk bs ex => exact .inr (.inl ⟨ex, rfl⟩)

theorem IsB.content {H : List AObj} {x : AV} {bs : List UInt8} (h : IsB H x bs) : acontent H 1 x = (True, mkB bs, bs.length) := by
  rcases h with ⟨rfl, rfl⟩ | ⟨ex, rfl⟩ | ⟨i, off, vs, rfl, h1, h2, h3⟩
  · rfl
  · simp [acontent, mkCells_eB]
  · simp [acontent, h1, h3, h2]

theorem IsB.row {H : List AObj} {i : Nat} {bs : List UInt8} (h : hcells H i = some (mkB bs)) : IsB H (.row i 1 0 bs.length) bs :=
  .inr (.inr ⟨i, 0, mkB bs, rfl, h, by simp [mkB], by rw [List.drop_zero, List.take_of_length_le (by simp [mkB])]⟩)

theorem ltH_set {k i : Nat} {H : List AObj} (h : ltH k H = true) : ltH k (H.set i .dead) = true := by
  unfold ltH at *
  rw [List.all_eq_true] at *
  intro o ho
  rcases List.mem_or_eq_of_mem_set ho with h1 | h1
  · exact h o h1
  · subst h1; rfl

end Go.R
