/- The statement DiskNobody holds of every input: the function called returns true, and each argument reads as it read. -/
import Derived.Test.YtikgnakhciklaaaGreatDoorTie
import Derived.Test.YtikgnakhciklaaaGreatDoorCards
import Derived.SevenTiedAt
import Derived.Test.YtikgnakhciklaaaGreatDoorD2
import Derived.Test.YtikgnakhciklaaaGreatDoorRw
import Derived.WalkKit
import Derived.ProofKit
import Derived.OpenShut
import Derived.ShutString
import Derived.ChangeOld
import Derived.Below
import Derived.SizedLaws
import Derived.LaidMore
import Derived.Lay
import Derived.Stop.Joined
import Derived.Handed
namespace Go.Proofs.YtikgnakhciklaaaGreatDoor.diskNobody
open Go.ChangeShapes Go.WideShapes Go.ChangeAt Go.RowKit
open Go.ChangeMaps (open_string shut_string)
set_option linter.unusedVariables false
instance tokens : Go.R.Syms := ⟨fun _ => .bool false⟩
theorem own : ownKnob Tryz.prog.godebug = none := by kernel_rfl
theorem laidOut : laidOutB Tryz.prog = true := by kernel_rfl
set_option maxRecDepth 100000 in
theorem lifted (os : Os) (started : os.Started) (H : Type) (enc : TypeId × Value → H) :
    ReturnsInHanded {} Tryz.checked os 5 .any (fun w args => (Rows.diskNobodySpec.pre enc Tryz.prog Tryz.f5 Rows.diskNobodyRow.domain false w args ∧ laidMetH Tryz.prog Rows.diskNobodyRow.laid w) ∧ sizedMet enc Tryz.prog Tryz.f5 (OpenSpec.ofChange Rows.diskNobodySpec) false w args) (Rows.diskNobodySpec.post enc Tryz.prog Tryz.f5 false true false false) := by
  refine returnsInHanded_of_change_and (C := Tryz.checked) (X := fun w _ => laidMetH Tryz.prog Rows.diskNobodyRow.laid w) (fun _ _ _ hh h => h.of_heap hh) own started (by kernel_rfl) Tryz.func5
    (ChangeSpec.witness_shaped (enc := enc) (C := Tryz.checked) (os := os) (X := fun w _ => laidMetH Tryz.prog Rows.diskNobodyRow.laid w) false (World.laidAll Tryz.prog os Rows.diskNobodyRow.laid) #[.agg #[.int .i64 0, .string ByteArray.empty, .string ByteArray.empty, .int .i64 0, .int .i64 0, .int .i64 0, .int .i64 0, .slice none 0 0], .int .i64 0] 8 (World.laidAll_os _ _ _)
      (World.shaped_of_ZipB (by kernel_rfl) (by kernel_rfl)) (by kernel_rfl) (by kernel_rfl) (by kernel_rfl)
      (by rw [MakeChecks.laidMetH_plain _ _ _ (by kernel_rfl)]; exact laidMet_laidAll _ (by kernel_rfl) (by kernel_rfl))) ?_
  intro W base args ds gs before hval0 hW hcnd hsz0 hL _
  have hsz : (DataW.weightsEach Tryz.prog (Tryz.f5.params.toList ++ Rows.diskNobodySpec.plain.varTypes Tryz.prog) (ds ++ gs)).all (· ≤ reachBytes) = true := hsz0
  have hval : ∀ (j : Nat) t v, Tryz.f5.params[j]? = some t → args[j]? = some v → Value.okWide Tryz.prog W .any base t v := hval0
  have hW' := hW
  obtain ⟨p, q, hA0, hV, rfl, hfz, hnd⟩ := hW
  have hA : DataW.TrodAll enc Tryz.prog W 0 (fun _ => true) true Tryz.f5.params.toList args.toList ds p := hA0
  rw [Tryz.params5] at hA hval hsz
  obtain ⟨v0, vs0, d0, ds0, p0, q0, hargs, rfl, rfl, h0, r0⟩ := trodAll_cons hA
  obtain ⟨v1, vs1, d1, ds1, p1, q1, rfl, rfl, rfl, h1, r1⟩ := trodAll_cons r0
  obtain ⟨rfl, rfl, rfl⟩ := trodAll_nil r1
  obtain rfl : args = #[v0, v1] := by cases args; simp_all
  obtain ⟨rfl, rfl⟩ := trodVars_none hV
  have lt0 : ∀ x ∈ p0, x.block < W.heap.size := by obtain ⟨m, hm⟩ := h0; exact DataW.trod_lt m _ _ _ hm
  have k0 := h0
  have w0 : ∀ m ∈ d0.weights Tryz.prog 46, m ≤ reachBytes := fun m hm => by simpa using List.all_eq_true.1 hsz m (DataW.weights_mem_each (j := 0) (t := 46) (d := d0) rfl rfl m hm)
  obtain ⟨x0, f0, a0⟩ := Go.R.arg_struct (n := 10) (enc := enc) Tryz.underlying46 (hval 0 46 v0 rfl rfl) R.shapeD h0 w0
  have lt1 : ∀ x ∈ p1, x.block < W.heap.size := by obtain ⟨m, hm⟩ := h1; exact DataW.trod_lt m _ _ _ hm
  have k1 := h1
  have w1 : ∀ m ∈ d1.weights Tryz.prog 3, m ≤ reachBytes := fun m hm => by simpa using List.all_eq_true.1 hsz m (DataW.weights_mem_each (j := 1) (t := 3) (d := d1) rfl rfl m hm)
  obtain ⟨x1, f1, a1⟩ := Go.R.arg_int (n := 10) (enc := enc) Tryz.underlying3 (hval 1 3 v1 rfl rfl) R.shapeN h1 w1
  clear hA0 hval0
  refine ((R.DiskNobody_data f0) (Go.R.Mem.all W) #[v0, v1] (Go.R.St.all W) (.cons a0 (.cons a1 (Go.R.RelL.nil _)))).mono ?_
  rintro e W' ⟨cv, M', v, H', rfl, rfl, hext, hst, hrel, rfl, rfl⟩
  obtain rfl := hrel.bool_inv
  have bel := Go.R.Below.of_ext hext
  exact ⟨_, rfl, _, _, _, [], _, [], hW', trodAll_mk1 (shut_bool Tryz.underlying4 _), (trodAll_cons_mk (Below.trod laidOut (by kernel_rfl) (of_decide_eq_true (by kernel_rfl)) k0 bel lt0) (trodAll_cons_mk (Below.trod laidOut (by kernel_rfl) (of_decide_eq_true (by kernel_rfl)) k1 bel lt1) trodAll_mk0)), rfl, bel.frame _, fun h => by cases h⟩
theorem over : Rows.diskNobodyRow.holds Tryz.pinned (OpenSpec.ofChange Rows.diskNobodySpec) :=
  OpenClaim.holds_of_wide 5 Tryz.f5 rfl rfl rfl rfl rfl rfl rfl ⟨rfl, rfl, rfl, rfl, rfl⟩ rfl rfl rfl rfl rfl (by kernel_rfl) Tryz.func5 (by kernel_rfl)
    (of_decide_eq_true (by kernel_rfl)) (by unfold Func.isWrapper; first | (rw [if_pos (by decide +kernel)]; kernel_rfl) | (rw [if_neg (by decide +kernel)]; exact ⟨rfl, rfl⟩))
    (fun os started H enc _ => lifted os started H enc)
theorem proved : Rows.DiskNobodySaid := over
theorem card : Rows.DiskNobodyCardSaid :=
  Claim7.holds_tied_plain_at .later [] [.data, .pinned] true (true, "9e630af36854488fa1f6c2b13f0553b33ffd952e3610d313f574dc614ba3b432") false over (fun _ h => by cases h) (by kernel_rfl) (fun _ h => by cases h) diskNobody_row_tie rfl ⟨rfl, rfl⟩ (by kernel_rfl) rfl
    (fun f fn hf hfn => by
      obtain rfl : f = 5 := Option.some.inj ((show Tryz.prog.funcNamed "thwart/thwartlaw14.DiskNobody" = some 5 by kernel_rfl).symm.trans hf) |>.symm
      obtain rfl : fn = Tryz.f5 := (Option.some.inj (Tryz.func5.symm.trans hfn)).symm
      exact ⟨by kernel_rfl, fun j t ht => by
        rw [Tryz.params5] at ht
        have hm : t ∈ [46, 3] := by simpa using Array.mem_of_getElem? ht
        have hall : ([46, 3].all fun u => !Tryz.prog.wantsStandIn u) = true := by kernel_rfl
        exact (show Tryz.prog.wantsStandIn t = false by simpa using List.all_eq_true.1 hall t hm)⟩)
    (by kernel_rfl)
end Go.Proofs.YtikgnakhciklaaaGreatDoor.diskNobody
namespace Go.Proofs.YtikgnakhciklaaaGreatDoor
/-- The card, under a short name, for the claim. -/
theorem diskNobody_holds : Rows.DiskNobodyCardSaid := diskNobody.card
#print axioms diskNobody_holds
end Go.Proofs.YtikgnakhciklaaaGreatDoor

