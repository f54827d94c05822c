import Derived.Test.YtmnmcbhaabnnfaaT10
namespace Go.Proofs.Ytmnmcbhaabnnfaa.R
open Go Go.R Go.Proofs
set_option linter.unusedSimpArgs false
set_option linter.unusedVariables false

/-! The plain law: what is laid is parsed as the same; what is parsed is laid as the same. -/

theorem byteI_toNat (n : Int) : ((byteI n).toNat : Int) = n % 256 := by
  unfold byteI
  rw [UInt8.toNat_ofNat']
  have : (n % 256).toNat < 256 := by omega
  rw [Nat.mod_eq_of_lt (by simpa using this)]
  omega

theorem byteI_of (b : UInt8) (n : Int) (h : n % 256 = b.toNat) : byteI n = b := by
  apply UInt8.toNat_inj.1
  have := byteI_toNat n
  omega

theorem sgn_val (n : Int) (h : 0 ≤ n ∧ n < 65536) : sgn n = if n < 32768 then n else n - 65536 := by
  have hw : -32768 ≤ sgn n ∧ sgn n ≤ 32767 := wrap_within .i16 _
  have hm : sgn n % 65536 = n % 65536 := by
    have e : sgn n = if 32768 ≤ n % 65536 then n % 65536 - 65536 else n % 65536 := by
      show (if (true && decide (n % 65536 ≥ 32768)) = true then n % 65536 - 65536 else n % 65536) = _
      simp
    rw [e]
    split <;> omega
  split <;> omega

theorem numB_byteI (n : Int) : numB (byteI (n / 256)) (byteI n) = n % 65536 := by
  unfold numB
  rw [byteI_toNat, byteI_toNat]
  omega

/-- The event as it is parsed. -/
def norm (x : Ev) : Ev := { x with data := .mk x.data.l false }

theorem firstB_encB (x : Ev) (r : List UInt8) (h : mayF x = 0) : firstB (encB x ++ r) = (norm x, .mk r false, 0) := by
  unfold mayF at h
  split at h
  · simp at h
  · rename_i h1
    split at h
    · simp at h
    · rename_i h2
      have hk : ((byteI x.kind).toNat : Int) = x.kind := by rw [byteI_toNat]; omega
      have hf : ((byteI x.fk).toNat : Int) = x.fk := by rw [byteI_toNat]; omega
      have hl : numB (byteI ((x.data.l.length : Int) / 256)) (byteI x.data.l.length) = x.data.l.length := by rw [numB_byteI]; omega
      have hkeep : sgn (numB (byteI (x.keep / 256)) (byteI x.keep)) = x.keep := by rw [numB_byteI, sgn_val _ (by omega)]; split <;> omega
      have htorn : sgn (numB (byteI (x.torn / 256)) (byteI x.torn)) = x.torn := by rw [numB_byteI, sgn_val _ (by omega)]; split <;> omega
      have hat : UInt16.ofNat (numB (byteI ((x.fat.toNat : Int) / 256)) (byteI x.fat.toNat)).toNat = x.fat := by
        rw [numB_byteI]
        have := x.fat.toNat_lt
        have e : ((x.fat.toNat : Int) % 65536).toNat = x.fat.toNat := by omega
        rw [e]; simp
      simp only [encB, List.cons_append, List.nil_append, firstB, hk, hf, hl, hkeep, htorn, hat]
      rw [if_neg (by omega), if_neg (by omega), if_neg (by simp; omega)]
      simp [norm]

theorem evsB_encB : ∀ (es : List Ev) (n : Nat), es.length ≤ n → (∀ x ∈ es, mayF x = 0) → evsB n (es.flatMap encB) = .ok (es.map norm)
  | [], n, _, _ => by cases n <;> rfl
  | x :: es, n, hn, h => by
    obtain ⟨m, rfl⟩ : ∃ m, n = m + 1 := ⟨n - 1, by simp at hn; omega⟩
    have hx := h x (by simp)
    have hf := firstB_encB x (es.flatMap encB) hx
    have e : (x :: es).flatMap encB = byteI x.kind :: ((encB x ++ es.flatMap encB).tail) := by simp [encB]
    have e2 : byteI x.kind :: ((encB x ++ es.flatMap encB).tail) = encB x ++ es.flatMap encB := by simp [encB]
    rw [e, evsB, e2, hf]
    simp only [if_true, BV.l, evsB_encB es m (by simpa using hn) fun y hy => h y (by simp [hy])]
    rfl

theorem mayAll_all : ∀ {es : List Ev}, mayAll es = 0 → ∀ x ∈ es, mayF x = 0
  | [], _, x, hx => by simp at hx
  | e :: es, h, x, hx => by
    unfold mayAll at h
    split at h
    · exact absurd h (by assumption)
    · rename_i he
      rcases List.mem_cons.1 hx with rfl | hx
      · simpa using he
      · exact mayAll_all h x hx

theorem layE_ok {es : List Ev} (h : (layE es).2 = 0) : es.length ≤ 3000 ∧ (∀ x ∈ es, mayF x = 0) ∧ (layE es).1 = .mk (bodyB es ++ layB (sumI (bodyB es))) false := by
  unfold layE at h ⊢
  split at h
  · simp at h
  · split at h
    · rename_i h2; exact absurd h h2
    · rename_i h1 h2
      rw [if_neg h1, if_neg h2]
      exact ⟨by omega, mayAll_all (by simpa using h2), rfl⟩

theorem openB_seal (bs : List UInt8) : openB (.mk (bs ++ layB (sumI bs)) false) = (.mk bs false, 0) := by
  have h4 : (bs ++ layB (sumI bs)).length - 4 = bs.length := by simp [layB]
  unfold openB
  simp only [BV.l, h4]
  rw [if_neg (by simp [layB]), if_pos (by simp)]
  simp

/-- What is laid is parsed. -/
theorem parse_lay {es : List Ev} (h : (layE es).2 = 0) : parseB (layE es).1 = (lvOf (es.map norm), 0) := by
  obtain ⟨h1, h2, h3⟩ := layE_ok h
  have ho := openB_seal (bodyB es)
  have hb : (bodyB es).take 2 = [87, 83] := by simp [bodyB]
  have hd : (bodyB es).drop 2 = es.flatMap encB := by simp [bodyB]
  have hl : (BV.mk (bodyB es) false).l = bodyB es := rfl
  unfold parseB
  simp only [h3, ho, hl, hb, hd, evsB_encB es 3000 h1 h2, ne_eq, not_true_eq_false, if_false]

theorem sameB_norm (x : Ev) : sameB (norm x) x = true := by simp [sameB, norm, BV.l]
theorem lvOf_l (es : List Ev) : (lvOf es).l = es := by cases es <;> rfl
theorem sameL_norm (es : List Ev) : sameL (es.map norm) es = true := by
  unfold sameL
  simp only [List.length_map, beq_self_eq_true, Bool.true_and]
  induction es with
  | nil => rfl
  | cons x es ih => simp [sameB_norm, ih]

theorem firstB_inv {bs : List UInt8} {x : Ev} {r : BV} (hne : bs ≠ []) (h : firstB bs = (x, r, 0)) : bs = encB x ++ r.l ∧ mayF x = 0 := by
  unfold firstB at h
  split at h
  · simp at hne
  · rename_i x0 t
    split at h
    · simp at h
    · rename_i hk
      split at h
      · rename_i x1 x2 x3 x4 x5 x6 x7 x8 x9 x10 x11 x12 x13 x14 r0
        split at h
        · simp at h
        · rename_i h4
          split at h
          · simp at h
          · rename_i h5
            simp only [Prod.mk.injEq, and_true] at h
            obtain ⟨rfl, rfl⟩ := h
            have b0 := x0.toNat_lt; have b1 := x1.toNat_lt; have b2 := x2.toNat_lt; have b3 := x3.toNat_lt; have b4 := x4.toNat_lt
            have b6 := x6.toNat_lt; have b7 := x7.toNat_lt; have b8 := x8.toNat_lt; have b13 := x13.toNat_lt; have b14 := x14.toNat_lt
            have hs1 := sgn_val (numB x1 x2) (by unfold numB; omega)
            have hs2 := sgn_val (numB x3 x4) (by unfold numB; omega)
            have h7 : (UInt16.ofNat (numB x7 x8).toNat).toNat = (numB x7 x8).toNat := by
              rw [UInt16.toNat_ofNat']
              unfold numB
              omega
            have hlen : (r0.take (numB x13 x14).toNat).length = (numB x13 x14).toNat := by
              rw [List.length_take]; omega
            have hn : 0 ≤ numB x13 x14 := by unfold numB; omega
            constructor
            · simp only [encB, BV.l, hlen, h7]
              simp only [List.cons_append, List.nil_append, List.cons.injEq]
              refine ⟨?_, ?_, ?_, ?_, ?_, trivial, ?_, ?_, ?_, trivial, trivial, trivial, trivial, ?_, ?_, ?_⟩
              · exact (byteI_of _ _ (by omega)).symm
              · refine (byteI_of _ _ ?_).symm; rw [hs1]; unfold numB; split <;> omega
              · refine (byteI_of _ _ ?_).symm; rw [hs1]; unfold numB; split <;> omega
              · refine (byteI_of _ _ ?_).symm; rw [hs2]; unfold numB; split <;> omega
              · refine (byteI_of _ _ ?_).symm; rw [hs2]; unfold numB; split <;> omega
              · exact (byteI_of _ _ (by omega)).symm
              · refine (byteI_of _ _ ?_).symm; unfold numB; omega
              · refine (byteI_of _ _ ?_).symm; unfold numB; omega
              · refine (byteI_of _ _ ?_).symm; unfold numB; omega
              · refine (byteI_of _ _ ?_).symm; unfold numB; omega
              · rw [List.take_append_drop]
            · unfold mayF
              simp only [BV.l, hlen]
              have w1 : -32768 ≤ sgn (numB x1 x2) ∧ sgn (numB x1 x2) ≤ 32767 := wrap_within .i16 _
              have w2 : -32768 ≤ sgn (numB x3 x4) ∧ sgn (numB x3 x4) ≤ 32767 := wrap_within .i16 _
              have w3 : (0 : Int) ≤ (x6.toNat : Int) ∧ (x6.toNat : Int) ≤ 255 := by omega
              have w4 : ¬ (400 : Int) < (((numB x13 x14).toNat : Nat) : Int) := by omega
              have w5 : 1 ≤ (x0.toNat : Int) ∧ (x0.toNat : Int) ≤ 8 := by omega
              rw [if_neg (fun h => h w5), if_neg]
              rintro (hc | hc | hc | hc)
              · exact hc w1
              · exact hc w2
              · exact hc w3
              · exact w4 hc
      · simp at h

theorem evsB_inv : ∀ (n : Nat) (bs : List UInt8) (es : List Ev), evsB n bs = .ok es → bs = es.flatMap encB ∧ (∀ x ∈ es, mayF x = 0) ∧ es.length ≤ n
  | n, [], es, h => by
    have : es = [] := by cases n <;> (simp [evsB] at h; first | exact h | exact h.symm)
    subst this
    simp
  | 0, b :: bs, es, h => by simp [evsB] at h
  | n + 1, b :: bs, es, h => by
    rw [evsB] at h
    obtain ⟨⟨x, r, e⟩, hf⟩ : ∃ q, firstB (b :: bs) = q := ⟨_, rfl⟩
    rw [hf] at h
    simp only at h
    split at h
    · rename_i he
      subst he
      obtain ⟨h1, h2⟩ := firstB_inv (by simp) hf
      cases hq : evsB n r.l with
      | error e => rw [hq] at h; simp [Except.map] at h
      | ok es' =>
        rw [hq] at h
        simp [Except.map] at h
        subst h
        obtain ⟨g1, g2, g3⟩ := evsB_inv n r.l es' hq
        refine ⟨by rw [h1, g1]; simp, fun y hy => ?_, by simpa using g3⟩
        rcases List.mem_cons.1 hy with rfl | hy
        · exact h2
        · exact g2 y hy
    · simp at h

/-- What is parsed is laid as the same. -/
theorem lay_parse {b : BV} (h : (parseB b).2 = 0) : (layE (parseB b).1.l).2 = 0 ∧ (layE (parseB b).1.l).1.l = b.l := by
  unfold parseB at h ⊢
  split at h
  · rename_i h1; exact absurd h h1
  · rename_i h1
    rw [if_neg h1]
    split at h
    · simp at h
    · rename_i h2
      rw [if_neg h2]
      split at h
      · rename_i e he
        obtain rfl : e = 0 := h
        exfalso
        have key : ∀ (n : Nat) (bs : List UInt8), evsB n bs ≠ .error 0 := by
          intro n
          induction n with
          | zero => intro bs; cases bs <;> simp [evsB]
          | succ n ih =>
            intro bs
            cases bs with
            | nil => simp [evsB]
            | cons b bs =>
              rw [evsB]
              intro h
              simp only at h
              split at h
              · cases hq : evsB n (firstB (b :: bs)).2.1.l with
                | error e => rw [hq] at h; simp [Except.map] at h; subst h; exact ih _ hq
                | ok es => rw [hq] at h; simp [Except.map] at h
              · rename_i hh; simp at h; exact hh h
        exact key _ _ he
      · rename_i es he
        simp only [lvOf_l]
        obtain ⟨g1, g2, g3⟩ := evsB_inv _ _ _ he
        have ho : b.l = (openB b).1.l ++ layB (sumI (openB b).1.l) := by
          unfold openB at h1 ⊢
          split at h1
          · simp at h1
          · split at h1
            · rename_i k1 k2
              rw [if_neg k1, if_pos k2]
              show b.l = b.l.take (b.l.length - 4) ++ layB (sumI (b.l.take (b.l.length - 4)))
              rw [k2, List.take_append_drop]
            · simp at h1
        have hb : bodyB es = (openB b).1.l := by
          unfold bodyB
          rw [← g1]
          simp only [ne_eq, Classical.not_not] at h2
          rw [← h2, List.take_append_drop]
        unfold layE
        rw [if_neg (by omega), if_neg (by simp [mayAll_zero g2])]
        exact ⟨rfl, by simp only [BV.l, hb]; exact ho.symm⟩

theorem parse_err {b : BV} (h : (parseB b).2 ≠ 0) : (parseB b).1 = .nil := by
  unfold parseB at h ⊢
  split
  · rfl
  · rename_i h1
    rw [if_neg h1] at h
    split
    · rfl
    · rename_i h2
      rw [if_neg h2] at h
      split at h
      · rfl
      · simp at h
end Go.Proofs.Ytmnmcbhaabnnfaa.R
