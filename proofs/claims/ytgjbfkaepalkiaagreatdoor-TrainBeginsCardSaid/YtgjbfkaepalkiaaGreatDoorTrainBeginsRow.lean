/-
  The statement TrainBegins holds of the given program: a train of fewer cars begins a longer one; each car is a clean merge of what the one ahead came to; the first that is none ends it. Conditions: Go's two tables for UTF-8 read as the program's text lays them (tied to the text by the given ties).
-/
import Derived.Test.YtgjbfkaepalkiaaGreatDoorBegins21
import Derived.Test.YtgjbfkaepalkiaaGreatDoorCards
namespace Go.Proofs.YtgjbfkaepalkiaaGreatDoor
open Go.ChangeShapes Go.WideShapes Go.RowKit
set_option linter.unusedVariables false
set_option linter.constructorNameAsVariable false
namespace RowTrainBegins
theorem readable : ∀ t ∈ #[22, 3, 69, 3, 3].toList, Tryz.prog.readableRec t = true ∧ t < Tryz.prog.types.size := by
  have hall : (#[22, 3, 69, 3, 3].toList.all fun t => Tryz.prog.readableRec t && decide (t < Tryz.prog.types.size)) = true := by kernel_rfl
  intro t ht
  have := List.all_eq_true.1 hall t ht
  rw [Bool.and_eq_true] at this
  exact ⟨this.1, of_decide_eq_true this.2⟩
set_option maxRecDepth 100000 in
theorem lifted (os : Os) (started : os.Started) (H : Type) (enc : TypeId × Value → H) :
    ReturnsInHanded {} Tryz.checked os 10 .any (fun w args => (Rows.trainBeginsSpec.pre enc Tryz.prog Tryz.f10 Rows.trainBeginsRow.domain false w args ∧ laidMet Tryz.prog Rows.trainBeginsRow.laid w) ∧ sizedMet enc Tryz.prog Tryz.f10 (OpenSpec.ofChange Rows.trainBeginsSpec) false w args)
   (Rows.trainBeginsSpec.post enc Tryz.prog Tryz.f10 false true false false) := by
  refine returnsInHanded_of_change_and (C := Tryz.checked) (X := fun w _ => laidMet Tryz.prog Rows.trainBeginsRow.laid w) (fun _ _ _ hh h => h.of_heap hh) own started (by kernel_rfl) Tryz.func10
    (ChangeSpec.witness_at (enc := enc) (C := Tryz.checked) (os := os) (X := fun w _ => laidMet Tryz.prog Rows.trainBeginsRow.laid w) false (laidWorld os) #[.slice none 0 0, .int .i64 0, .slice none 0 0, .int .i64 0, .int .i64 0] 8 rfl (by kernel_rfl) (by kernel_rfl) (by kernel_rfl) (by kernel_rfl) (by kernel_rfl) (laidWorld_met os _)) ?_
  intro W base args ds gs before hval0 hW _ _ _ _
  have hval : ∀ (j : Nat) t v, Tryz.f10.params[j]? = some t → args[j]? = some v → Value.okWide Tryz.prog W .any base t v := hval0
  have hW' := hW
  have hlt : ∀ x ∈ before, x.block < W.heap.size := fun x hx => hW'.lt x hx
  obtain ⟨p, q, hA0, hV, rfl, hfz, hnd⟩ := hW
  have hA : DataW.TrodAll enc Tryz.prog W 0 (fun _ => true) true Tryz.f10.params.toList args.toList ds p := hA0
  have hAll := hA
  rw [Tryz.params10] at hA hval
  obtain ⟨v0, v1, v2, v3, v4, d0, d1, d2, d3, d4, p0, p1, p2, p3, p4, rfl, rfl, rfl, h0, h1, h2, h3, h4⟩ := trodAll_five hA
  obtain ⟨rfl, rfl⟩ := trodVars_none hV
  obtain ⟨ss0, cs0, hR0, hK0⟩ := opened_commits (hval 0 _ v0 rfl rfl) h0
  obtain ⟨n1, rfl, rfl, rfl, _⟩ := open_int Tryz.underlying3 (hval 1 _ v1 rfl rfl) h1
  obtain ⟨xs2, hR2⟩ := opened_entries (hval 2 _ v2 rfl rfl) h2
  obtain ⟨n3, rfl, rfl, rfl, _⟩ := open_int Tryz.underlying3 (hval 3 _ v3 rfl rfl) h3
  obtain ⟨n4, rfl, rfl, rfl, _⟩ := open_int Tryz.underlying3 (hval 4 _ v4 rfl rfl) h4
  clear hA0 hval0
  refine ((show Calls _ _ _ _ (fun e w' => e = .returned (.bool true) ∧ Ext W w') from trainBegins_calls v0 ss0 cs0 n1 v2 xs2 n3 n4 _ W hR0 hK0 (fun k hk => hk) hR2)).mono fun e W' ⟨he, hx⟩ => ?_
  subst he
  exact ⟨_, rfl, post_of_below (pa := p0 ++ [] ++ p2 ++ [] ++ []) (pv := []) hW' (fun _ _ _ => trodAll_mk1 (shut_bool Tryz.underlying4 true)) (fun sp hsp => kept_all (Ext.below hx) sp (by rw [Tryz.params10]; exact readable) (fun x hx' => hlt x (List.mem_append_left _ hx')) (fun x hx' => hsp x (List.mem_append_left _ hx')) hAll) (fun _ _ => rfl) rfl (Ext.below hx) (ok_one (t := 4) (by kernel_rfl) rfl (okWide_bool_mk Tryz.underlying4 true))⟩
theorem places : (Rows.trainBeginsRow.inPlace == Tryz.pinned.checked.prog.inPlace 10) = true := by kernel_rfl
theorem follows : (Rows.trainBeginsRow.unfollowed == Tryz.pinned.checked.prog.unfollowed 10) = true := by kernel_rfl
theorem recurs : (Rows.trainBeginsRow.recurses == Tryz.pinned.checked.prog.recurses 10) = true := by kernel_rfl
theorem names : (Rows.trainBeginsRow.named == Tryz.pinned.checked.prog.varsNamed 10) = true := by kernel_rfl
theorem enters : Tryz.pinned.checked.prog.mayEnter = true := by kernel_rfl
theorem lifts : (Rows.trainBeginsRow.lifted == Tryz.pinned.checked.prog.liftsFinal) = true := by kernel_rfl
theorem makes : (Tryz.pinned.checked.prog.make == some Rows.trainBeginsRow.make) = true := by kernel_rfl
theorem lays : laidOutB Tryz.pinned.checked.prog = true := by kernel_rfl
theorem facts : joinedFacts Tryz.pinned.checked.prog 10 Tryz.f10 Rows.trainBeginsSpec Rows.trainBeginsRow = true := by
  unfold joinedFacts
  rw [places, follows, recurs, names, enters, lifts, makes, lays]
  kernel_rfl
theorem holds : Rows.TrainBeginsSaid :=
  OpenClaim.holds_of_wide 10 Tryz.f10 rfl rfl rfl rfl rfl rfl rfl ⟨rfl, rfl, rfl, rfl, rfl⟩ rfl rfl rfl rfl rfl (by kernel_rfl) Tryz.func10 facts
    (of_decide_eq_true (by kernel_rfl)) (by unfold Func.isWrapper; rw [if_neg (of_decide_eq_false (by kernel_rfl))]; exact ⟨rfl, rfl⟩)
    (fun os started H enc _ => lifted os started H enc)
end RowTrainBegins
theorem trainBegins_card : Rows.TrainBeginsCardSaid :=
  Claim7.holds_tied_plain_at .later [] [.data, .pinned] true (true, "4708159603df6989e34a2b8ca53428086b737c458554e1411fe5176e8fe7b8cc") false
    RowTrainBegins.holds (fun _ h => by cases h) (by kernel_rfl) (fun _ h => by cases h) trainBegins_row_tie rfl ⟨rfl, rfl⟩ (by kernel_rfl) rfl
    (fun f fn hf hfn => by
   obtain rfl : f = 10 := Option.some.inj ((show Tryz.prog.funcNamed "cortege/cortegelaw21.TrainBegins" = some 10 by kernel_rfl).symm.trans hf) |>.symm
   obtain rfl : fn = Tryz.f10 := (Option.some.inj (Tryz.func10.symm.trans hfn)).symm
   refine ⟨by kernel_rfl, fun j t ht => ?_⟩
   rw [Tryz.params10] at ht
   have hm : t ∈ #[22, 3, 69, 3, 3] := Array.mem_of_getElem? ht
   have hall : #[22, 3, 69, 3, 3].all (fun t => !Tryz.prog.wantsStandIn t) = true := by kernel_rfl
   have := Array.all_eq_true'.1 hall t hm
   exact (by simpa using this : Tryz.prog.wantsStandIn t = false))
    (by kernel_rfl)
end Go.Proofs.YtgjbfkaepalkiaaGreatDoor
