import Derived.Test.YtikgnakhciklaaaDoorN5
namespace Go.Proofs.YtikgnakhciklaaaDoor.R
open Go Go.R Go.Proofs
set_option linter.unusedVariables false
theorem shape32 : shapes Tryd.prog 10 32 = some [.int .u8, .str, .str, .int .i64, .int .i64, .int .i64, .int .i64, .sl 1 [.int .u8]] := by kernel_rfl
theorem fits_int {k : IntKind} {x : DV} (h : Fits (.int k) x) : ∃ n, x = .int k n ∧ k.min ≤ n ∧ n ≤ k.max := by
  cases x <;> simp [Fits] at h
  obtain ⟨rfl, h1, h2⟩ := h
  exact ⟨_, rfl, h1, h2⟩
theorem fits_str {x : DV} (h : Fits .str x) : ∃ s, x = .str s ∧ s.length ≤ reachBytes := by
  cases x <;> simp [Fits] at h
  exact ⟨_, rfl, h⟩
theorem fitsL_cons {s : Sh} {ss : List Sh} {xs : List DV} (h : FitsL (s :: ss) xs) : ∃ x ys, xs = x :: ys ∧ Fits s x ∧ FitsL ss ys := by
  cases xs with
  | nil => simp [FitsL] at h
  | cons x ys => simp only [FitsL] at h; exact ⟨x, ys, rfl, h.1, h.2⟩
theorem fitsL_nil {xs : List DV} (h : FitsL [] xs) : xs = [] := by
  cases xs with
  | nil => rfl
  | cons x ys => simp [FitsL] at h
theorem NodeNobody_data {xs : List DV} (h : FitsL [.int .u8, .str, .str, .int .i64, .int .i64, .int .i64, .int .i64, .sl 1 [.int .u8]] xs) (H : List AObj) :
    ACalls Tryd.prog 4 [.agg (xs.map .d)] H fun v H' => v = .d (.bool true) ∧ H' = H := by
  obtain ⟨_, _, rfl, h0, h⟩ := fitsL_cons h
  obtain ⟨_, _, rfl, h1, h⟩ := fitsL_cons h
  obtain ⟨_, _, rfl, h2, h⟩ := fitsL_cons h
  obtain ⟨_, _, rfl, h3, h⟩ := fitsL_cons h
  obtain ⟨_, _, rfl, h4, h⟩ := fitsL_cons h
  obtain ⟨_, _, rfl, h5, h⟩ := fitsL_cons h
  obtain ⟨_, _, rfl, h6, h⟩ := fitsL_cons h
  obtain ⟨_, _, rfl, h7, h⟩ := fitsL_cons h
  obtain rfl := fitsL_nil h
  obtain ⟨k, rfl, g0, _⟩ := fits_int h0
  obtain ⟨p, rfl, _⟩ := fits_str h1
  obtain ⟨q, rfl, _⟩ := fits_str h2
  obtain ⟨a, rfl, _⟩ := fits_int h3
  obtain ⟨b, rfl, _⟩ := fits_int h4
  obtain ⟨c, rfl, _⟩ := fits_int h5
  obtain ⟨d, rfl, _⟩ := fits_int h6
  obtain ⟨x, rfl, g7⟩ := fits_bytes h7
  exact nobody_calls H k p q a b c d x (by unfold reachBytes at g7; omega) (by simpa [IntKind.min, IntKind.signed] using g0)
end Go.Proofs.YtikgnakhciklaaaDoor.R
