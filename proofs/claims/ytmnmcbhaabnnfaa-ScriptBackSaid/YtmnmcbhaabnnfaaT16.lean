import Derived.Test.YtmnmcbhaabnnfaaT15
import Derived.Test.YtmnmcbhaabnnfaaRw
namespace Go.Proofs.Ytmnmcbhaabnnfaa.R
open Go Go.R Go.Proofs
set_option linter.unusedSimpArgs false
set_option linter.unusedVariables false

def shEv : List Sh := [.int .i64, .int .i64, .int .i64, .int .u8, .int .i64, .int .u16, .int .u8, .int .u8, .int .u8, .int .u8, .sl 1 [.int .u8]]

theorem u8_of {n : Int} (h : IntKind.u8.min ≤ n ∧ n ≤ IntKind.u8.max) : ((UInt8.ofNat n.toNat).toNat : Int) = n := by
  have h1 : 0 ≤ n := h.1
  have h2 : n ≤ 255 := h.2
  rw [UInt8.toNat_ofNat']
  omega
theorem u16_of {n : Int} (h : IntKind.u16.min ≤ n ∧ n ≤ IntKind.u16.max) : ((UInt16.ofNat n.toNat).toNat : Int) = n := by
  have h1 : 0 ≤ n := h.1
  have h2 : n ≤ 65535 := h.2
  rw [UInt16.toNat_ofNat']
  omega

theorem fits_ev {l : List DV} (h : FitsL shEv l) : ∃ x : Ev, l = x.enc := by
  have hl := h.length
  match l, hl with
  | [d0, d1, d2, d3, d4, d5, d6, d7, d8, d9, d10], _ =>
    simp only [shEv, FitsL, and_true] at h
    obtain ⟨h0, h1, h2, h3, h4, h5, h6, h7, h8, h9, h10⟩ := h
    have int : ∀ {k : IntKind} {d : DV}, Fits (.int k) d → ∃ n, d = .int k n ∧ k.min ≤ n ∧ n ≤ k.max := by
      intro k d hd
      cases d with
      | int k' n => simp only [Fits] at hd; obtain ⟨rfl, h⟩ := hd; exact ⟨n, rfl, h⟩
      | bool b => simp [Fits] at hd
      | str s => simp [Fits] at hd
      | snil => simp [Fits] at hd
      | sl a b c => simp [Fits] at hd
    obtain ⟨n0, rfl, _⟩ := int h0
    obtain ⟨n1, rfl, _⟩ := int h1
    obtain ⟨n2, rfl, _⟩ := int h2
    obtain ⟨n3, rfl, r3⟩ := int h3
    obtain ⟨n4, rfl, _⟩ := int h4
    obtain ⟨n5, rfl, r5⟩ := int h5
    obtain ⟨n6, rfl, r6⟩ := int h6
    obtain ⟨n7, rfl, r7⟩ := int h7
    obtain ⟨n8, rfl, r8⟩ := int h8
    obtain ⟨n9, rfl, r9⟩ := int h9
    obtain ⟨b, rfl, _⟩ := fits_bytes h10
    exact ⟨⟨n0, n1, n2, .ofNat n3.toNat, n4, .ofNat n5.toNat, .ofNat n6.toNat, .ofNat n7.toNat, .ofNat n8.toNat, .ofNat n9.toNat, b⟩, by simp only [Ev.enc, u8_of r3, u16_of r5, u8_of r6, u8_of r7, u8_of r8, u8_of r9]⟩

theorem fits_lv {d : DV} (h : Fits (.sl 72 shEv) d) : ∃ x : LV, d = x.dv ∧ x.l.length ≤ reachBytes := by
  cases d with
  | snil => exact ⟨.nil, rfl, by simp [LV.l]⟩
  | sl size elems ex =>
    simp only [Fits] at h
    obtain ⟨rfl, rfl, hl, he⟩ := h
    have key : ∀ l : List (List DV), (∀ x ∈ l, FitsL shEv x) → ∃ es : List Ev, l = es.map Ev.enc := by
      intro l
      induction l with
      | nil => exact fun _ => ⟨[], rfl⟩
      | cons x l ih =>
        intro hx
        obtain ⟨es, rfl⟩ := ih fun y hy => hx y (by simp [hy])
        obtain ⟨e, rfl⟩ := fits_ev (hx x (by simp))
        exact ⟨e :: es, rfl⟩
    obtain ⟨es, rfl⟩ := key elems he
    refine ⟨.mk es false, rfl, ?_⟩
    simp only [LV.l, List.length_map] at hl ⊢
    omega
  | bool b => simp [Fits] at h
  | int k n => simp [Fits] at h
  | str s => simp [Fits] at h

theorem shape22 : shapes Try.prog 10 22 = some [.sl 72 shEv] := by kernel_rfl
theorem shape23 : shapes Try.prog 10 23 = some [.sl 1 [.int .u8]] := by kernel_rfl

theorem ScriptBack_data {d0 d1 : DV} (h0 : Fits (.sl 72 shEv) d0) (h1 : Fits (.sl 1 [.int .u8]) d1) (H : List AObj) : ACalls Try.prog 3 [.d d0, .d d1] H fun v H' => v = .d (.bool true) ∧ H' = H := by
  obtain ⟨x, rfl, hx⟩ := fits_lv h0
  obtain ⟨b, rfl, hb⟩ := fits_bytes h1
  have : reachBytes < 140737488355328 := reachBytes_lt
  exact ScriptBack_calls x b H (by omega) (by omega)
end Go.Proofs.Ytmnmcbhaabnnfaa.R
