/-
  Package tree: Get.
-/
import Derived.Test.YtddooggkcdloeaaGreatDoorTree
namespace Go.Proofs.YtddooggkcdloeaaGreatDoor
open Go.RowKit
set_option linter.unusedVariables false
set_option linter.unusedSimpArgs false
attribute [local go_sem] Oper.semAt_some

def getF (xs : List File) (p : ByteArray) : Option File := xs.find? fun f => f.path.toList == p.toList
def getD (xs : List File) (p : ByteArray) : ByteArray := ((getF xs p).map File.data).getD ⟨#[]⟩

set_option maxHeartbeats 400000 in
theorem get_calls (v : Value) (p : ByteArray) (xs : List File) (S : Fp) (w : World) (hR : Rd EF S w v xs) (hb : xs.length ≤ 1000000) :
    Calls Tryz.prog 24 #[v, .string p] w fun e w' => e = .returned (.tuple #[.string (getD xs p), .bool (getF xs p).isSome]) ∧ Ext w w' := by
  refine calls_of_body Tryz.func24 rfl ?_
  simp only [Tryz.ntmps24, List.size_toArray, List.length_cons, List.length_nil, Nat.reduceAdd, Nat.reduceSub, Array.replicate_succ, Array.replicate_zero, List.push_toArray, List.append_toArray, List.nil_append, List.cons_append]
  gi_wp2_with fail
  refine wide_call ((all_calls v xs S _ (hR.kp ((((Kp.refl _ w).alloc _).alloc _).alloc _)) hb).mono ?_)
  rintro e w1 ⟨s, rfl, hs, hx1⟩
  have hz1 := hx1.size
  simp only [World.size_alloc] at hz1
  have hbp : Blk w1 w.heap.size 9 #[.string p] := (((Blk.new w 9 #[.string p]).ext ((Kp.refl _ _).alloc _)).ext ((Kp.refl _ _).alloc _)).ext hx1
  have hb0 : Blk w1 (w.heap.size + 1) 9 #[.string ⟨#[]⟩] := by
    have := ((Blk.new (w.alloc (.cells #[.string p] 9)) 9 #[.string ⟨#[]⟩]).ext ((Kp.refl _ _).alloc (.cells #[.bool false] 4))).ext hx1
    simpa using this
  have hb1 : Blk w1 (w.heap.size + 1 + 1) 4 #[.bool false] := by
    have := (Blk.new ((w.alloc (.cells #[.string p] 9)).alloc (.cells #[.string ⟨#[]⟩] 9)) 4 #[.bool false]).ext hx1
    simpa using this
  have hxw : Ext w w1 := ((((Kp.refl _ w).alloc _).alloc _).alloc _).trans hx1
  simp only [World.size_alloc] at hs
  clear hx1 hR
  gi_wp2_with fail
  obtain ⟨n, hn⟩ : ∃ n, w.heap.size = n := ⟨_, rfl⟩
  rw [hn] at hz1 hbp hb0 hb1 hs ⊢
  refine range_wp (fv := s) rfl hs (fun k hk => hk.2) (fun _ => rfl)
    (fun pre D W => (Blk W (n + 1) 9 #[.string ⟨#[]⟩] ∧ Blk W (n + 1 + 1) 4 #[.bool false] ∧ getF pre p = none) ∧ D (n + 1) ∧ D (n + 1 + 1))
    (fun c pre D W => ∃ f, (Blk W (n + 1) 9 #[.string f.data] ∧ Blk W (n + 1 + 1) 4 #[.bool true] ∧ c = .ret ∧ getF pre p = some f) ∧ D (n + 1) ∧ D (n + 1 + 1))
    (fun pre D W W' ⟨⟨h1, h2, h3⟩, h4, h5⟩ _ hk => ⟨⟨h1.kp hk h4, h2.kp hk h5, h3⟩, h4, h5⟩) (fun c pre D W W' ⟨f, ⟨h1, h2, h3⟩, h4, h5⟩ _ hk => ⟨f, ⟨h1.kp hk h4, h2.kp hk h5, h3⟩, h4, h5⟩)
    (fun k => k = n + 1 ∨ k = n + 1 + 1) ⟨⟨hb0, hb1, rfl⟩, .inl rfl, .inr rfl⟩ (fun k hk => by omega) ?round ?done ?stop
  case round =>
    rintro l pre x D W ⟨⟨hI0, hI1, hI2⟩, hI3, hI4⟩ hD hpre hsub hkp hl hlt hnl K hK
    gi_wp2_with fail
    refine hK _ _ (Kp.refl _ W) ?_
    intro W₂ hk2 hsz hrec
    have e1 : l ≠ n + 1 := by rintro rfl; exact hnl hI3
    have e2 : l ≠ n + 1 + 1 := by rintro rfl; exact hnl hI4
    have hp2 := ((hbp.kp hkp (by omega)).kp hk2 (by omega)).cell0
    have h20 := hI0.kp hk2 (Ne.symm e1)
    have h21 := hI1.kp hk2 (Ne.symm e2)
    have hsn : getF (pre ++ [x]) p = if x.path.toList == p.toList then some x else none := by
      unfold getF at hI2 ⊢
      rw [List.find?_append, hI2]
      by_cases h : x.path.toList = p.toList <;> simp [h]
    have c0 := h20.cell0
    have c1 := h21.cell0
    have f0 := h20.frozen 0
    have f1 := h21.frozen 0
    have hlt2 : ∀ k, D k → k < W₂.heap.size := fun k hk => hk2.lt (hD k hk)
    clear hbp hb0 hb1 hs hI0 hI1 hk2 hkp hsub hK hrec hl
    cases hb : (x.path.toList == p.toList) with
    | true =>
      rw [hb] at hsn
      gi_wp2_with fail
      refine ⟨D, fun k hk => .inl (.inl hk), ?_, ?_, ⟨x, ?_, ?_, rfl, hsn⟩, hI3, hI4⟩
      · exact ((Kp.refl _ W₂).setCell (.inr fun h => h (.inl hI3)) _).setCell (.inr fun h => h (.inl hI4)) _
      · simpa using hlt2
      · exact (h20.set_ 0 _).far (by simp) _
      · exact (h21.far (by simp) _).set_ 0 _
    | false =>
      rw [hb] at hsn
      gi_wp2_with fail
      exact ⟨D, fun k hk => .inl (.inl hk), Kp.refl _ W₂, hlt2, ⟨h20, h21, hsn⟩, hI3, hI4⟩
  case done =>
    rintro q D' W' ⟨⟨hI0, hI1, hI2⟩, hI3, hI4⟩ hsub hkp hlt hq hnq hblk
    have c0 := hI0.cell0
    have c1 := hI1.cell0
    have f0 := hI0.frozen 0
    have f1 := hI1.frozen 0
    clear hbp hb0 hb1 hs
    gi_wp2_with fail
    have hq1 : q ≠ n + 1 := by omega
    have hq2 : q ≠ n + 1 + 1 := by omega
    have hb0' := (hI0.set_ 0 (.string ⟨#[]⟩)).far (p := ⟨n + 1 + 1, 0, none⟩) (by simp) (.bool false)
    have hb1' := (hI1.far (p := ⟨n + 1, 0, none⟩) (by simp) (.string ⟨#[]⟩)).set_ 0 (.bool false)
    refine leaves1 ((Below.heap_setCell _ _ _ _ hq2).trans ((Below.heap_setCell _ _ _ _ hq1).trans hblk)) fun W3 hk3 hz3 => ⟨_, results_cells2 (ty := 9) (ty' := 4) rfl Tryz.isAgg9 Tryz.isAgg4 rfl rfl (hb0'.kp hk3 (Ne.symm hq1)).cell0 (hb1'.kp hk3 (Ne.symm hq2)).cell0, ?_, ?_⟩
    · unfold getD; rw [hI2]; rfl
    · refine ((((hxw.mono fun _ _ _ => trivial).trans' hkp fun k hk _ => by omega).setCell (.inl (by simp; omega)) _).setCell (.inl (by simp; omega)) _).trans' hk3 fun k hk _ => by omega
  case stop =>
    rintro q c pre D' W' hpre ⟨f, ⟨hI0, hI1, rfl, hI2⟩, hI3, hI4⟩ hsub hkp hlt hq hnq hblk
    clear hbp hb0 hb1 hs
    gi_wp2_with fail
    have hq1 : q ≠ n + 1 := by omega
    have hq2 : q ≠ n + 1 + 1 := by omega
    have hf : getF xs p = some f := by
      obtain ⟨r, rfl⟩ := hpre
      unfold getF at hI2 ⊢
      rw [List.find?_append, hI2]; rfl
    refine leaves1 hblk fun W3 hk3 hz3 => ⟨_, results_cells2 (ty := 9) (ty' := 4) rfl Tryz.isAgg9 Tryz.isAgg4 rfl rfl (hI0.kp hk3 (Ne.symm hq1)).cell0 (hI1.kp hk3 (Ne.symm hq2)).cell0, ?_, ?_⟩
    · unfold getD; rw [hf]; rfl
    · exact ((hxw.mono fun _ _ _ => trivial).trans' hkp fun k hk _ => by omega).trans' hk3 fun k hk _ => by omega

end Go.Proofs.YtddooggkcdloeaaGreatDoor
