/-
  The statement TreeGathers holds of the given program: whatever two trees and number it is called with, it returns true, and its arguments read behind the call as they read before. Conditions: Go's two tables for UTF-8 read as the program's text lays them (tied to the text by the given ties).
-/
import Derived.Test.YtinafpbdlblcaaaDoorLift
import Derived.Test.YtinafpbdlblcaaaDoorGathers7
import Derived.Test.YtinafpbdlblcaaaDoorCards
namespace Go.Proofs.YtinafpbdlblcaaaDoor
open Go.ChangeShapes Go.WideShapes Go.RowKit
open Go.ChangeMaps (open_string shut_string)
set_option linter.unusedVariables false
set_option linter.unusedSimpArgs false
set_option linter.constructorNameAsVariable false

namespace RowTreeGathers
theorem readable : ∀ t ∈ #[22, 22, 3].toList, Tryd.prog.readableRec t = true ∧ t < Tryd.prog.types.size := by
  have hall : (#[22, 22, 3].toList.all fun t => Tryd.prog.readableRec t && decide (t < Tryd.prog.types.size)) = true := by kernel_rfl
  intro t ht
  have := List.all_eq_true.1 hall t ht
  rw [Bool.and_eq_true] at this
  exact ⟨this.1, of_decide_eq_true this.2⟩

set_option maxRecDepth 100000 in
theorem lifted (os : Os) (started : os.Started) (H : Type) (enc : TypeId × Value → H) :
    ReturnsInHanded {} Tryd.checked os 6 .any (fun w args => (Rows.treeGathersSpec.pre enc Tryd.prog Tryd.f6 Rows.treeGathersRow.domain false w args ∧ laidMet Tryd.prog Rows.treeGathersRow.laid w) ∧ sizedMet enc Tryd.prog Tryd.f6 (OpenSpec.ofChange Rows.treeGathersSpec) false w args)
      (Rows.treeGathersSpec.post enc Tryd.prog Tryd.f6 false true false false) := by
  refine returnsInHanded_of_change_and (C := Tryd.checked) (X := fun w _ => laidMet Tryd.prog Rows.treeGathersRow.laid w) (fun _ _ _ hh h => h.of_heap hh) own started (by kernel_rfl) Tryd.func6
    (ChangeSpec.witness_at (enc := enc) (C := Tryd.checked) (os := os) (X := fun w _ => laidMet Tryd.prog Rows.treeGathersRow.laid w) false (laidWorld os) #[.slice none 0 0, .slice none 0 0, .int .i64 0] 8 rfl (by kernel_rfl) (by kernel_rfl) (by kernel_rfl) (by kernel_rfl) (by kernel_rfl) (laidWorld_met os _)) ?_
  intro W base args ds gs before hval0 hW _ _ _ _
  have hval : ∀ (j : Nat) t v, Tryd.f6.params[j]? = some t → args[j]? = some v → Value.okWide Tryd.prog W .any base t v := hval0
  have hW' := hW
  have hlt : ∀ x ∈ before, x.block < W.heap.size := fun x hx => hW'.lt x hx
  obtain ⟨p, q, hA0, hV, rfl, hfz, hnd⟩ := hW
  have hA : DataW.TrodAll enc Tryd.prog W 0 (fun _ => true) true Tryd.f6.params.toList args.toList ds p := hA0
  have hAll := hA
  rw [Tryd.params6] at hA hval
  obtain ⟨v0, v1, v2, d0, d1, d2, p0, p1, p2, rfl, rfl, rfl, h0, h1, h2⟩ := trodAll_three hA
  obtain ⟨rfl, rfl⟩ := trodVars_none hV
  obtain ⟨xs0, hR0⟩ := opened_files (hval 0 _ v0 rfl rfl) h0
  obtain ⟨xs1, hR1⟩ := opened_files (hval 1 _ v1 rfl rfl) h1
  obtain ⟨n2, rfl, rfl, rfl, _⟩ := open_int Tryd.underlying3 (hval 2 _ v2 rfl rfl) h2
  clear hA0 hval0
  refine (gathers7_calls v0 v1 n2 xs0 xs1 All W hR0 hR1).mono fun e W' ⟨he, hx⟩ => ?_
  subst he
  exact ⟨_, rfl, post_of_below (pa := p0 ++ p1 ++ []) (pv := []) hW' (fun _ _ _ => trodAll_mk1 (shut_bool Tryd.underlying4 true)) (fun sp hsp => kept_all (Ext.below hx) sp (by rw [Tryd.params6]; exact readable) (fun x hx' => hlt x (List.mem_append_left _ hx')) (fun x hx' => hsp x (List.mem_append_left _ hx')) hAll) (fun _ _ => rfl) rfl (Ext.below hx) (ok_one (t := 4) (by kernel_rfl) rfl (okWide_bool_mk Tryd.underlying4 true))⟩

theorem holds : Rows.TreeGathersSaid :=
  OpenClaim.holds_of_wide 6 Tryd.f6 rfl rfl rfl rfl rfl rfl rfl ⟨rfl, rfl, rfl, rfl, rfl⟩ rfl rfl rfl rfl rfl (by kernel_rfl) Tryd.func6 (by kernel_rfl)
    (of_decide_eq_true (by kernel_rfl)) (by unfold Func.isWrapper; rw [if_neg (of_decide_eq_false (by kernel_rfl))]; exact ⟨rfl, rfl⟩)
    (fun os started H enc _ => lifted os started H enc)
end RowTreeGathers

theorem treeGathers_card : Rows.TreeGathersCardSaid :=
  Claim7.holds_tied_plain_at .later [] [.data, .pinned] true (true, "18e4a1e5e6947340fdc31b75cdbea7c4f47b32cb12bdb96e9405f818d08d84b0") false
    RowTreeGathers.holds (fun _ h => by cases h) (by kernel_rfl) (fun _ h => by cases h) treeGathers_row_tie rfl ⟨rfl, rfl⟩ (by kernel_rfl) rfl
    (fun f fn hf hfn => by
      obtain rfl : f = 6 := Option.some.inj ((show Tryd.prog.funcNamed "cortege/cortegelaw7.TreeGathers" = some 6 by kernel_rfl).symm.trans hf) |>.symm
      obtain rfl : fn = Tryd.f6 := (Option.some.inj (Tryd.func6.symm.trans hfn)).symm
      refine ⟨by kernel_rfl, fun j t ht => ?_⟩
      rw [Tryd.params6] at ht
      have hm : t ∈ #[22, 22, 3] := Array.mem_of_getElem? ht
      have hall : #[22, 22, 3].all (fun t => !Tryd.prog.wantsStandIn t) = true := by kernel_rfl
      have := Array.all_eq_true'.1 hall t hm
      exact (by simpa using this : Tryd.prog.wantsStandIn t = false))
    (by kernel_rfl)

end Go.Proofs.YtinafpbdlblcaaaDoor
