/-
  The statement TrainFull holds of the given program: with no room for a commit more the head is Full, unless its merge is there already; one that is ahead of the tip is Already, whatever room there is. Conditions: Go's two tables for UTF-8 read as the program's text lays them (tied to the text by the given ties).
-/
import Derived.Test.YtgjbfkaepalkiaaGreatDoorLift
import Derived.Test.YtgjbfkaepalkiaaGreatDoorFull21
import Derived.Test.YtgjbfkaepalkiaaGreatDoorCards
namespace Go.Proofs.YtgjbfkaepalkiaaGreatDoor
open Go.ChangeShapes Go.WideShapes Go.RowKit
open Go.ChangeMaps (open_string shut_string)
set_option linter.unusedVariables false
set_option linter.unusedSimpArgs false
set_option linter.constructorNameAsVariable false

namespace RowTrainFull
theorem readable : ∀ t ∈ #[3, 9].toList, Tryz.prog.readableRec t = true ∧ t < Tryz.prog.types.size := by
  have hall : (#[3, 9].toList.all fun t => Tryz.prog.readableRec t && decide (t < Tryz.prog.types.size)) = true := by kernel_rfl
  intro t ht
  have := List.all_eq_true.1 hall t ht
  rw [Bool.and_eq_true] at this
  exact ⟨this.1, of_decide_eq_true this.2⟩

set_option maxRecDepth 100000 in
theorem lifted (os : Os) (started : os.Started) (H : Type) (enc : TypeId × Value → H) :
    ReturnsInHanded {} Tryz.checked os 14 .any (fun w args => (Rows.trainFullSpec.pre enc Tryz.prog Tryz.f14 Rows.trainFullRow.domain false w args ∧ laidMet Tryz.prog Rows.trainFullRow.laid w) ∧ sizedMet enc Tryz.prog Tryz.f14 (OpenSpec.ofChange Rows.trainFullSpec) false w args)
      (Rows.trainFullSpec.post enc Tryz.prog Tryz.f14 false true false false) := by
  refine returnsInHanded_of_change_and (C := Tryz.checked) (X := fun w _ => laidMet Tryz.prog Rows.trainFullRow.laid w) (fun _ _ _ hh h => h.of_heap hh) own started (by kernel_rfl) Tryz.func14
    (ChangeSpec.witness_at (enc := enc) (C := Tryz.checked) (os := os) (X := fun w _ => laidMet Tryz.prog Rows.trainFullRow.laid w) false (laidWorld os) #[.int .i64 0, .string ⟨#[]⟩] 8 rfl (by kernel_rfl) (by kernel_rfl) (by kernel_rfl) (by kernel_rfl) (by kernel_rfl) (laidWorld_met os _)) ?_
  intro W base args ds gs before hval0 hW _ _ _ _
  have hval : ∀ (j : Nat) t v, Tryz.f14.params[j]? = some t → args[j]? = some v → Value.okWide Tryz.prog W .any base t v := hval0
  have hW' := hW
  have hlt : ∀ x ∈ before, x.block < W.heap.size := fun x hx => hW'.lt x hx
  obtain ⟨p, q, hA0, hV, rfl, hfz, hnd⟩ := hW
  have hA : DataW.TrodAll enc Tryz.prog W 0 (fun _ => true) true Tryz.f14.params.toList args.toList ds p := hA0
  have hAll := hA
  rw [Tryz.params14] at hA hval
  obtain ⟨v0, v1, d0, d1, p0, p1, rfl, rfl, rfl, h0, h1⟩ := trodAll_two hA
  obtain ⟨rfl, rfl⟩ := trodVars_none hV
  obtain ⟨n0, rfl, rfl, rfl, _⟩ := open_int Tryz.underlying3 (hval 0 _ v0 rfl rfl) h0
  obtain ⟨s1, rfl, rfl, rfl, hz1⟩ := open_string Tryz.underlying9 (hval 1 _ v1 rfl rfl) h1
  clear hA0 hval0
  refine ((show Calls _ _ _ _ (fun e w' => e = .returned (.bool true) ∧ Ext W w') from trainFull_calls n0 s1 (by simpa [maxLen] using hz1) W)).mono fun e W' ⟨he, hx⟩ => ?_
  subst he
  exact ⟨_, rfl, post_of_below (pa := [] ++ []) (pv := []) hW' (fun _ _ _ => trodAll_mk1 (shut_bool Tryz.underlying4 true)) (fun sp hsp => kept_all (Ext.below hx) sp (by rw [Tryz.params14]; exact readable) (fun x hx' => hlt x (List.mem_append_left _ hx')) (fun x hx' => hsp x (List.mem_append_left _ hx')) hAll) (fun _ _ => rfl) rfl (Ext.below hx) (ok_one (t := 4) (by kernel_rfl) rfl (okWide_bool_mk Tryz.underlying4 true))⟩

/-! What the row's cells say of the program, one by one: each goes through the program's calls. -/
theorem places : (Rows.trainFullRow.inPlace == Tryz.pinned.checked.prog.inPlace 14) = true := by kernel_rfl
theorem follows : (Rows.trainFullRow.unfollowed == Tryz.pinned.checked.prog.unfollowed 14) = true := by kernel_rfl
theorem recurs : (Rows.trainFullRow.recurses == Tryz.pinned.checked.prog.recurses 14) = true := by kernel_rfl
theorem names : (Rows.trainFullRow.named == Tryz.pinned.checked.prog.varsNamed 14) = true := by kernel_rfl
theorem enters : Tryz.pinned.checked.prog.mayEnter = true := by kernel_rfl
theorem lifts : (Rows.trainFullRow.lifted == Tryz.pinned.checked.prog.liftsFinal) = true := by kernel_rfl
theorem makes : (Tryz.pinned.checked.prog.make == some Rows.trainFullRow.make) = true := by kernel_rfl
theorem lays : laidOutB Tryz.pinned.checked.prog = true := by kernel_rfl
theorem facts : joinedFacts Tryz.pinned.checked.prog 14 Tryz.f14 Rows.trainFullSpec Rows.trainFullRow = true := by
  unfold joinedFacts
  rw [places, follows, recurs, names, enters, lifts, makes, lays]
  kernel_rfl

theorem holds : Rows.TrainFullSaid :=
  OpenClaim.holds_of_wide 14 Tryz.f14 rfl rfl rfl rfl rfl rfl rfl ⟨rfl, rfl, rfl, rfl, rfl⟩ rfl rfl rfl rfl rfl (by kernel_rfl) Tryz.func14 facts
    (of_decide_eq_true (by kernel_rfl)) (by unfold Func.isWrapper; rw [if_neg (of_decide_eq_false (by kernel_rfl))]; exact ⟨rfl, rfl⟩)
    (fun os started H enc _ => lifted os started H enc)
end RowTrainFull

theorem trainFull_card : Rows.TrainFullCardSaid :=
  Claim7.holds_tied_plain_at .later [] [.data, .pinned] true (true, "4708159603df6989e34a2b8ca53428086b737c458554e1411fe5176e8fe7b8cc") false
    RowTrainFull.holds (fun _ h => by cases h) (by kernel_rfl) (fun _ h => by cases h) trainFull_row_tie rfl ⟨rfl, rfl⟩ (by kernel_rfl) rfl
    (fun f fn hf hfn => by
      obtain rfl : f = 14 := Option.some.inj ((show Tryz.prog.funcNamed "cortege/cortegelaw21.TrainFull" = some 14 by kernel_rfl).symm.trans hf) |>.symm
      obtain rfl : fn = Tryz.f14 := (Option.some.inj (Tryz.func14.symm.trans hfn)).symm
      refine ⟨by kernel_rfl, fun j t ht => ?_⟩
      rw [Tryz.params14] at ht
      have hm : t ∈ #[3, 9] := Array.mem_of_getElem? ht
      have hall : #[3, 9].all (fun t => !Tryz.prog.wantsStandIn t) = true := by kernel_rfl
      have := Array.all_eq_true'.1 hall t hm
      exact (by simpa using this : Tryz.prog.wantsStandIn t = false))
    (by kernel_rfl)

end Go.Proofs.YtgjbfkaepalkiaaGreatDoor
