/-
  The statement PatchTells (chapter 8) holds of the given program: whatever two lists of files and whatever changes it is called with, it returns true, and its arguments read behind the call as they read before. Conditions: none.
-/
import Derived.Test.YtinafpbdlblcaaaOpen
import Derived.Test.YtinafpbdlblcaaaRows
import Derived.Test.YtinafpbdlblcaaaTells8w
namespace Go.Proofs.Ytinafpbdlblcaaa
open Go.ChangeShapes Go.WideShapes Go.RowKit
set_option linter.unusedVariables false
set_option linter.unusedSimpArgs false
set_option linter.constructorNameAsVariable false

section
variable {H : Type} {enc : TypeId × Value → H}
set_option maxRecDepth 100000 in
theorem opened_acts {w : World} {base : Nat} {v : Value} {d : DataW H} {ps : List MemPlace} (hv : Value.okWide Try.prog w .any base 23 v) (h : DataW.Trod enc Try.prog w 0 (fun _ => true) true 23 v d ps) : ∃ xs : List Ch, Rd EC All w v xs := by
  haveI : Inhabited Ch := ⟨⟨⟨#[]⟩, false, false, ⟨#[]⟩, ⟨#[]⟩⟩⟩
  refine opened_slice Try.underlying23 (by kernel_rfl) (by decide) (fun cs n x hx => ?_) hv h
  obtain ⟨ys, n', _, _, hlen, hyl, hf⟩ := DataW.trod_struct Try.underlying29 hx
  have hl : cs.length = 5 := hlen
  match cs, hl with
  | [c0, c1, c2, c3, c4], _ =>
    match ys, hyl with
    | [y0, y1, y2, y3, y4], _ =>
      have t0 := hf 0 _ rfl
      have t1 := hf 1 _ rfl
      have t2 := hf 2 _ rfl
      have t3 := hf 3 _ rfl
      have t4 := hf 4 _ rfl
      obtain ⟨s0, e0, _, _⟩ := DataW.trod_string Try.underlying9 t0
      obtain ⟨b1, e1, _⟩ := DataW.trod_bool Try.underlying4 t1
      obtain ⟨b2, e2, _⟩ := DataW.trod_bool Try.underlying4 t2
      obtain ⟨s3, e3, _, _⟩ := DataW.trod_string Try.underlying9 t3
      obtain ⟨s4, e4, _, _⟩ := DataW.trod_string Try.underlying9 t4
      have e0' : [c0] = [Value.string s0] := e0
      have e1' : [c1] = [Value.bool b1] := e1
      have e2' : [c2] = [Value.bool b2] := e2
      have e3' : [c3] = [Value.string s3] := e3
      have e4' : [c4] = [Value.string s4] := e4
      injection e0' with e0'
      injection e1' with e1'
      injection e2' with e2'
      injection e3' with e3'
      injection e4' with e4'
      exact ⟨⟨s0, b1, b2, s3, s4⟩, by rw [e0', e1', e2', e3', e4']; rfl⟩
end

theorem tells8_readable : ∀ t ∈ #[22, 22, 23].toList, Try.prog.readableRec t = true ∧ t < Try.prog.types.size := by
  have hall : (#[22, 22, 23].toList.all fun t => Try.prog.readableRec t && decide (t < Try.prog.types.size)) = true := by kernel_rfl
  intro t ht
  have := List.all_eq_true.1 hall t ht
  rw [Bool.and_eq_true] at this
  exact ⟨this.1, of_decide_eq_true this.2⟩

set_option maxRecDepth 100000 in
theorem tells8_lifted (os : Os) (started : os.Started) (H : Type) (enc : TypeId × Value → H) :
    ReturnsInHanded {} Try.checked os 3 .any (Rows.patchTellsSpec.pre6 enc Try.prog Try.f3 Rows.patchTellsRow.domain false) (Rows.patchTellsSpec.post enc Try.prog Try.f3 false true false false) := by
  refine returnsInHanded_of_change (C := Try.checked) own started (by kernel_rfl) Try.func3
    (ChangeSpec.witness6 (enc := enc) (C := Try.checked) false ⟨#[], #[.slice none 0 0, .slice none 0 0, .slice none 0 0], []⟩ 8 (by kernel_rfl) (by kernel_rfl) (by kernel_rfl) (by kernel_rfl)) ?_
  intro W base args ds gs before hval0 hW _ _
  have hval : ∀ (j : Nat) t v, Try.f3.params[j]? = some t → args[j]? = some v → Value.okWide Try.prog W .any base t v := hval0
  have hW' := hW
  have hlt : ∀ x ∈ before, x.block < W.heap.size := fun x hx => hW'.lt x hx
  obtain ⟨p, q, hA0, hV, rfl, hfz, hnd⟩ := hW
  have hA : DataW.TrodAll enc Try.prog W 0 (fun _ => true) true Try.f3.params.toList args.toList ds p := hA0
  have hAll := hA
  rw [Try.params3] at hA hval
  obtain ⟨v0, v1, v2, d0, d1, d2, p0, p1, p2, rfl, rfl, rfl, h0, h1, h2⟩ := trodAll_three hA
  obtain ⟨rfl, rfl⟩ := trodVars_none hV
  obtain ⟨xs, hR0⟩ := opened_files (hval 0 _ v0 rfl rfl) h0
  obtain ⟨ys, hR1⟩ := opened_files (hval 1 _ v1 rfl rfl) h1
  obtain ⟨cs, hR2⟩ := opened_acts (hval 2 _ v2 rfl rfl) h2
  clear hA0 hval0
  refine (tells8_calls v0 v1 v2 xs ys cs All W hR0 hR1 hR2).mono fun e W' ⟨he, hx⟩ => ?_
  subst he
  exact ⟨_, rfl, post_of_below (pa := p0 ++ p1 ++ p2) (pv := []) hW' (fun _ _ _ => trodAll_mk1 (shut_bool Try.underlying4 true)) (fun sp hsp => kept_all (Ext.below hx) sp (by rw [Try.params3]; exact tells8_readable) (fun x hx' => hlt x (List.mem_append_left _ hx')) (fun x hx' => hsp x (List.mem_append_left _ hx')) hAll) (fun _ _ => rfl) rfl (Ext.below hx) (ok_one (t := 4) (by kernel_rfl) rfl (okWide_bool_mk Try.underlying4 true))⟩

theorem patchTells_holds : Rows.PatchTellsSaid :=
  OpenClaim.holds_of_wide 3 Try.f3 rfl rfl rfl rfl rfl rfl rfl ⟨rfl, rfl, rfl, rfl, rfl⟩ rfl rfl rfl rfl rfl (by kernel_rfl) Try.func3 (by kernel_rfl)
    (of_decide_eq_true (by kernel_rfl)) (by unfold Func.isWrapper; rw [if_neg (of_decide_eq_false (by kernel_rfl))]; exact ⟨rfl, rfl⟩)
    (fun os started H enc _ => tells8_lifted os started H enc)

end Go.Proofs.Ytinafpbdlblcaaa
