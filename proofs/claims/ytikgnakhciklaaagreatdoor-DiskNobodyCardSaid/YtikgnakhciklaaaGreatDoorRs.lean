/-
  The abstract layer, part 18: the equality of structs and arrays.
-/
import Derived.Test.YtikgnakhciklaaaGreatDoorRr
import Derived.Laws.StructEq
namespace Go.R
set_option linter.unusedSectionVars false
variable [Syms]
set_option linter.unusedSimpArgs false
set_option linter.unusedVariables false

/-- A part of cells. -/
def pv (P : Program) (t : TypeId) (cs : List AV) (off : Nat) : Option AV :=
  match tAgg P t, tSize P t with
  | some true, some n => some (.agg ((cs.drop off).take n))
  | some false, _ => cs[off]?
  | _, _ => none

def eqFs (P : Program) (E : TypeId → AV → AV → Option Bool) (xs ys : List AV) : List Field → Option Bool
  | [] => some true
  | f :: fs =>
    if f.name = "_" then eqFs P E xs ys fs
    else match pv P f.type xs f.offset, pv P f.type ys f.offset with
      | some a, some b => (E f.type a b).bind fun r => (eqFs P E xs ys fs).map fun r' => r && r'
      | _, _ => none

def eqEs (P : Program) (E : TypeId → AV → AV → Option Bool) (e k : Nat) (xs ys : List AV) : List Nat → Option Bool
  | [] => some true
  | i :: is =>
    match pv P e xs (i * k), pv P e ys (i * k) with
    | some a, some b => (E e a b).bind fun r => (eqEs P E e k xs ys is).map fun r' => r && r'
    | _, _ => none

def eqA (P : Program) : Nat → TypeId → AV → AV → Option Bool
  | 0, _, _, _ => none
  | d + 1, t, x, y =>
    match P.underlying t, x, y with
    | some .bool, .d (.bool a), .d (.bool b) => some (decide (a = b))
    | some (.int _), .d (.int k a), .d (.int k' b) => if k = k' then some (decide (a = b)) else none
    | some .string, .d (.str a), .d (.str b) => some (decide (a = b))
    | some (.struct fs), .agg xs, .agg ys => if P.stoodInHeld t = true then none else eqFs P (eqA P d) xs ys fs.toList
    | some (.array n e), .agg xs, .agg ys => (tSize P e).bind fun k => eqEs P (eqA P d) e k xs ys (List.range' 0 n)
    | _, _, _ => none

theorem pv_sound {P : Program} {M : Mem} {t : TypeId} {cs : List AV} {off : Nat} {a : AV} {arr : Array Value} (h : pv P t cs off = some a) (hr : RelL M cs arr.toList) (w : World) : ∃ c, (part t arr off).run P w = .ok c w ∧ RelA M a c := by
  unfold pv at h
  split at h
  · rename_i n ha hn
    cases h
    refine ⟨.agg (arr.extract off (off + n)), by simp [part, run_isAgg ha, run_sizeOf hn], RelL.to_agg ?_⟩
    rw [Array.toList_extract]
    simpa [List.extract, Nat.add_sub_cancel_left] using (hr.drop off).take n
  · rename_i ha
    have hlt := get_lt h
    have hlt' : off < arr.size := by have := hr.1; simp at this; omega
    have hc := hr.2 off hlt (by simpa using hlt')
    rw [List.getElem?_eq_getElem hlt] at h
    cases h
    refine ⟨arr[off], by simp [part, run_isAgg ha, Array.getElem?_eq_getElem hlt'], by simpa using hc⟩
  · simp at h

theorem eqA_sound {P : Program} {M : Mem} (w : World) : ∀ (d : Nat) (t : TypeId) (x y : AV) (r : Bool) (cx cy : Value), eqA P d t x y = some r → RelA M x cx → RelA M y cy → ∀ D, d ≤ D → (Op.equalIn D t cx cy).run P w = .ok r w
  | 0, t, x, y, r, cx, cy, h, _, _, _, _ => by simp [eqA] at h
  | d + 1, t, x, y, r, cx, cy, h, hx, hy, D, hD => by
    obtain ⟨D, rfl⟩ : ∃ D', D = D' + 1 := ⟨D - 1, by omega⟩
    have hD' : d ≤ D := by omega
    have ih := fun t x y r cx cy => eqA_sound (P := P) (M := M) w d t x y r cx cy
    unfold eqA at h
    split at h
    · rename_i a b hu
      obtain rfl := hx.bool_inv
      obtain rfl := hy.bool_inv
      cases h
      rw [run_equalIn_bool' w D t a b hu]
      cases a <;> cases b <;> rfl
    · rename_i k0 k a k' b hu
      obtain rfl := hx.int_inv
      obtain rfl := hy.int_inv
      split at h
      · rename_i e
        subst e
        cases h
        rw [run_equalIn_int w D t k k0 a b hu]
        congr 1
      · simp at h
    · rename_i a b hu
      obtain ⟨s, rfl, rfl⟩ := hx.str_inv
      obtain ⟨s', rfl, rfl⟩ := hy.str_inv
      cases h
      rw [run_equalIn_string w D t s s' hu]
      congr 1
      simp only [ByteArray.toList_eq, list_beq]
    · rename_i fs xs ys hu
      obtain ⟨vx, rfl, hx2⟩ := RelL.of_agg hx
      obtain ⟨vy, rfl, hy2⟩ := RelL.of_agg hy
      split at h
      · simp at h
      · rename_i hs
        have hf : P.fieldsOf t = fs := by simp [Program.fieldsOf, hu]
        rw [run_equalIn_struct w D t vx vy (by rw [hf]; exact hu) (by simpa using hs), hf]
        generalize fs.toList = l at h
        clear hf hu
        induction l generalizing r with
        | nil => simp [eqFs] at h; subst h; simp [Op.eqFields]
        | cons f l ihl =>
          simp only [eqFs] at h
          simp only [Op.eqFields]
          by_cases hn : f.name = "_"
          · rw [if_pos hn] at h
            rw [if_neg (by simpa using hn)]
            exact ihl r h
          · rw [if_neg hn] at h
            rw [if_pos hn]
            split at h
            · rename_i a b ha hb
              obtain ⟨ca, ea, ra⟩ := pv_sound ha hx2 w
              obtain ⟨cb, eb, rb⟩ := pv_sound hb hy2 w
              cases he : eqA P d f.type a b with
              | none => simp [he] at h
              | some q =>
                simp only [he, Option.bind_some, Option.map_eq_some_iff] at h
                obtain ⟨q', hq, rfl⟩ := h
                have e1 := ih f.type a b q ca cb he ra rb D hD'
                simp only [Sem.run_bind, ea, eb, e1, Result.andThen_ok]
                cases q
                · simp
                · simpa using ihl q' hq
            · simp at h
    · rename_i n e xs ys hu
      obtain ⟨vx, rfl, hx2⟩ := RelL.of_agg hx
      obtain ⟨vy, rfl, hy2⟩ := RelL.of_agg hy
      cases hk : tSize P e with
      | none => simp [hk] at h
      | some k =>
        simp only [hk, Option.bind_some] at h
        simp only [Op.equalIn, Sem.run_bind, run_underlying hu, Result.andThen_ok, run_sizeOf hk, Std.Legacy.Range.forIn_eq_forIn_range', Std.Legacy.Range.size]
        have e0 : (n - 0 + 1 - 1) / 1 = n := by simp
        rw [e0]
        generalize List.range' 0 n = l at h
        induction l generalizing r with
        | nil => simp [eqEs] at h; subst h; simp
        | cons i l ihl =>
          simp only [eqEs] at h
          split at h
          · rename_i a b ha hb
            obtain ⟨ca, ea, ra⟩ := pv_sound ha hx2 w
            obtain ⟨cb, eb, rb⟩ := pv_sound hb hy2 w
            cases he : eqA P d e a b with
            | none => simp [he] at h
            | some q =>
              simp only [he, Option.bind_some, Option.map_eq_some_iff] at h
              obtain ⟨q', hq, rfl⟩ := h
              have e1 := ih e a b q ca cb he ra rb D hD'
              simp only [List.forIn_cons, Sem.run_bind, ea, eb, e1, Result.andThen_ok]
              cases q
              · simp
              · simpa using ihl q' hq
          · simp at h
    · simp at h

theorem EqAgg_of {P : Program} {t : TypeId} {xs ys : List AV} (d : Nat) (hd : d ≤ 10000) (hg : P.eqGuardType P.depth t = false) (h : eqA P d t (.agg xs) (.agg ys) = some (eqL xs ys)) : EqAgg P t xs ys := by
  intro M cx cy a b hx hy
  have e := eqA_sound M.w d t _ _ _ (.agg cx) (.agg cy) h (RelL.to_agg hx) (RelL.to_agg hy) 10000 hd
  refine ⟨?_, ?_⟩
  · simp only [Sem.run_bind, run_eqGuard_agg M.w .eql t a b cx cy hg, Result.andThen_ok, run_eql_struct, e]
  · simp only [Sem.run_bind, run_eqGuard_agg M.w .neq t a b cx cy hg, Result.andThen_ok, run_neq_struct, e]

/-! ### A slice as data: nil, or elements -/

inductive SV where
  | nil
  | mk (es : List (List DV)) (ex : Bool)

def SV.l : SV → List (List DV)
  | .nil => []
  | .mk es _ => es

def SV.dv (z : Nat) : SV → DV
  | .nil => .snil
  | .mk es ex => .sl z es ex

theorem acontent_sv (H : List AObj) (z : Nat) (s : SV) : acontent H z (.d (s.dv z)) = (True, mkCells s.l, s.l.length) := by
  cases s with
  | nil => rfl
  | mk es ex => simp [acontent, SV.dv, SV.l]

section
variable {P : Program} {l : List Oper} {q : AAct → List AObj → Prop} {rest : List Oper} {a : AAct} {H : List AObj} {d : Option Tmp}
theorem alen_sv {t : TypeId} {z : Nat} {s : SV} (h : isSl P t = true) : alen P H t (.d (s.dv z)) = ⟨True, .d (.int .i64 s.l.length), H⟩ := by
  cases s with
  | nil => exact alen_snil h
  | mk es ex => simp [SV.dv, SV.l, alen_sl h]
theorem aset_sv {d : Tmp} {z : Nat} {s : SV} : aset P l q rest (some d) a (.d (s.dv z)) H = awpOps P l q rest ((d, .d (s.dv z)) :: a) H := rfl
theorem astep_ixsv {t : TypeId} {z : Nat} {s : SV} {k : IntKind} {n : Int} (ht : (tSlice P t).bind (tSize P) = some z) :
    astep P l q rest d a (aindexAddr P H t (.d (s.dv z)) (.d (.int k n))) = ((0 ≤ n ∧ n < s.l.length) ∧ aset P l q rest d a (.imm (s.l.getD n.toNat [])) H) := by
  cases hs : tSlice P t with
  | none => simp [hs] at ht
  | some e =>
    simp only [hs, Option.bind_some] at ht
    cases s with
    | nil =>
      simp only [astep, aindexAddr, SV.dv, SV.l, hs, ht, fail, List.length_nil]
      apply propext
      constructor
      · intro h; exact h.1.elim
      · rintro ⟨⟨h1, h2⟩, _⟩; exact absurd h2 (by omega)
    | mk es ex => simp only [astep, aindexAddr, SV.dv, SV.l, hs, ht, true_and]
end

end Go.R
