/-
  cortegelaw9.awake.
-/
import Derived.Test.YtddooggkcdloeaaGreatDoorJoin4
import Derived.Test.YtddooggkcdloeaaGreatDoorSameX
import Derived.Test.YtddooggkcdloeaaGreatDoorLend
namespace Go.Proofs.YtddooggkcdloeaaGreatDoor
open Go.RowKit
set_option linter.unusedVariables false
set_option linter.unusedSimpArgs false
attribute [local go_sem] Oper.semAt_some

theorem reach_none_b (o a : Fl) : reachB o a noFl = false := by unfold reachB noFl; simp
theorem reach_none_a (o b : Fl) : reachB o noFl b = false := by unfold reachB noFl; simp
theorem reach_same_b (o a : Fl) : reachB o a o = false := by unfold reachB; rw [(flB_iff o o).2 rfl]; simp
theorem reach_same_a (o b : Fl) : reachB o o b = false := by unfold reachB; rw [(flB_iff o o).2 rfl]; simp
/-- Files that came of three trees stand where one of these has one. -/
theorem gathF_path (m : Mrg) (oth : Fl → Fl) (o a b : List File) : ∀ y ∈ (gathF m oth o a b).1, y.path ∈ flatP [o, a, b] := by
  have key : ∀ ps : List ByteArray, ∀ y ∈ (gathL m oth o a b ps).1, y.path ∈ ps := by
    intro ps
    refine snocInd (p := fun ps => ∀ y ∈ (gathL m oth o a b ps).1, y.path ∈ ps) (fun y hy => by cases hy) (fun l x ih => ?_) ps
    intro y hy
    rw [gathL_snoc] at hy
    unfold stepG at hy
    simp only [List.mem_append] at hy
    rcases hy with hy | hy
    · exact List.mem_append_left _ (ih y hy)
    · refine List.mem_append_right _ ?_
      have aux : ∀ f : Fl, y ∈ (if f.is = true then ([⟨x, f.data⟩] : List File) else []) → y.path ∈ [x] := by
        intro f h
        split at h
        · rw [List.mem_singleton.1 h]; exact List.mem_singleton.2 rfl
        · cases h
      exact aux _ hy
  intro y hy
  exact (riseT_mem _ _).1 (key _ y hy)
theorem gathF_size (m : Mrg) (oth : Fl → Fl) {o a b : List File} {n : Nat} (p1 : ∀ y ∈ o, y.path.size ≤ n) (p2 : ∀ y ∈ a, y.path.size ≤ n) (p3 : ∀ y ∈ b, y.path.size ≤ n) : ∀ y ∈ (gathF m oth o a b).1, y.path.size ≤ n := by
  intro y hy
  have h := gathF_path m oth o a b y hy
  unfold flatP at h
  simp only [List.flatten_cons, List.flatten_nil, List.append_nil, List.map_append, List.mem_append, List.mem_map] at h
  rcases h with ⟨z, hz, e⟩ | ⟨z, hz, e⟩ | ⟨z, hz, e⟩
  · rw [← e]; exact p1 z hz
  · rw [← e]; exact p2 z hz
  · rw [← e]; exact p3 z hz

def noM : Mrg := fun _ _ _ => none
def ax : ByteArray := ⟨#[120]⟩
def a_1 : ByteArray := ⟨#[49]⟩
def a_2 : ByteArray := ⟨#[50]⟩
def x1F : List File := [⟨ax, a_1⟩]
def x2F : List File := [⟨ax, a_2⟩]
theorem aw9_bad : joinOf noM x1F x2F [] = ([], [ax]) := by kernel_rfl
theorem aw9_good : joinOf noM x1F x2F x1F = (x2F, []) := by kernel_rfl
theorem aw9_virt : virtOf noM x1F x2F [] = x1F := by kernel_rfl

abbrev RdF (w : World) (v : Value) (xs : List File) : Prop := Rd EF (fun _ => True) w v xs
theorem RdF.ext {w w' : World} {v : Value} {xs : List File} (h : RdF w v xs) (hx : Ext w w') : RdF w' v xs := h.kp hx
theorem New.rdF {w : World} {n : Nat} {v : Value} {xs : List File} (h : New EF 40 n w v xs) : RdF w v xs := h.rd.wide fun _ _ => trivial

theorem awx_calls (d : ByteArray) (w : World) : Calls Tryz.prog 29 #[.string d] w fun e w' => e = .returned (.slice (some ⟨w.heap.size, 0, none⟩) 1 1) ∧ RdF w' (.slice (some ⟨w.heap.size, 0, none⟩) 1 1) [⟨ax, d⟩] ∧ Ext w w' := by
  go_enter Tryz.func29, Tryz.ntmps29
  go_wp2_with fail
  go_ret
  exact ⟨rfl, (New.made (E := EF) w 40 [⟨ax, d⟩] (by simp [maxLen])).rdF, (Kp.refl _ w).alloc _⟩

theorem one_size {d : ByteArray} : ∀ y ∈ ([⟨ax, d⟩] : List File), y.path.size ≤ 1000000 := fun y hy => by rw [List.mem_singleton.1 hy]; show ax.size ≤ _; decide
theorem nil_size : ∀ y ∈ ([] : List File), y.path.size ≤ 1000000 := fun y hy => by cases hy
theorem awo_calls (v1 v2 v3 : Value) (d e : ByteArray) (zs : List File) (w : World) (hA : RdF w v1 [⟨ax, d⟩]) (hB : RdF w v2 [⟨ax, e⟩]) (hC : RdF w v3 zs) (hz : zs = [] ∨ zs = [⟨ax, d⟩]) :
    Calls Tryz.prog 12 #[v1, v2, v3] w (JoinPost w (joinOf noM [⟨ax, d⟩] [⟨ax, e⟩] zs).1 (joinOf noM [⟨ax, d⟩] [⟨ax, e⟩] zs).2) ∧ Calls Tryz.prog 14 #[v1, v2, v3] w (VirtPost w (virtOf noM [⟨ax, d⟩] [⟨ax, e⟩] zs)) := by
  have hl : zs.length ≤ 1000 := by rcases hz with rfl | rfl <;> simp
  have hs : ∀ y ∈ zs, y.path.size ≤ 1000000 := by rcases hz with rfl | rfl <;> first | exact nil_size | exact one_size
  have hr : ∀ p, reachB (atF [⟨ax, d⟩] p) (atF [⟨ax, e⟩] p) (atF zs p) = true → MrgAt noM (atF [⟨ax, d⟩] p).data (atF [⟨ax, e⟩] p).data (atF zs p).data := by
    intro p hp
    rcases hz with rfl | rfl
    · rw [at_nil, reach_none_b] at hp; cases hp
    · rw [reach_same_b] at hp; cases hp
  exact ⟨joinOf_calls noM v1 v2 v3 _ _ zs _ w hA hB hC (by simp) (by simp) hl one_size one_size hs (fun _ => gathF_size _ _ one_size one_size hs) fun _ => hr,
    virtOf_calls noM v1 v2 v3 _ _ zs _ w hA hB hC (by simp) (by simp) hl one_size one_size hs (fun _ => gathF_size _ _ one_size one_size hs) fun _ => hr⟩

set_option maxHeartbeats 1000000 in
set_option maxRecDepth 100000 in
theorem awake9_calls (w : World) : Calls Tryz.prog 10 #[] w fun e w' => e = .returned (.bool true) ∧ Ext w w' := by
  go_enter Tryz.func10, Tryz.ntmps10
  go_wp2_with fail
  refine (awx_calls _ _).mono ?_
  rintro e w1 ⟨rfl, hR1, hx1⟩
  have R1 := Lib.hid fun W (hW : Ext w1 W) => hR1.ext hW
  clear hR1
  go_wp2_with fail
  refine (awx_calls _ _).mono ?_
  rintro e w2 ⟨rfl, hR2, hx2⟩
  have HJ := awo_calls _ _ (.slice none 0 0) _ _ [] w2 (R1.out w2 hx2) hR2 (Rd.nil _ _) (.inl rfl)
  rw [show joinOf noM [⟨ax, ⟨#[49]⟩⟩] [⟨ax, ⟨#[50]⟩⟩] [] = ([], [ax]) from aw9_bad] at HJ
  have HJ := Lib.hid HJ.1
  have hx := hx1.trans hx2
  clear R1 hR2 hx1 hx2
  go_wp2_with fail
  refine HJ.out.mono ?_
  clear HJ
  rintro e w3 ⟨r3, s3, rfl, hN3, hM3, hx3⟩
  have hx' := hx.trans hx3
  have HM3 := Lib.hid fun W (hW : Ext w3 W) => (hM3.ext hW).rd
  clear hx hx3 hN3 hM3
  go_wp2_with fail
  refine (awx_calls _ _).mono ?_
  rintro e w4 ⟨rfl, hR4, hx4⟩
  have R4 := Lib.hid fun W (hW : Ext w4 W) => hR4.ext hW
  clear hR4
  go_wp2_with fail
  refine (awx_calls _ _).mono ?_
  rintro e w5 ⟨rfl, hR5, hx5⟩
  have R5 := Lib.hid fun W (hW : Ext w5 W) => hR5.ext hW
  clear hR5
  go_wp2_with fail
  refine (awx_calls _ _).mono ?_
  rintro e w6 ⟨rfl, hR6, hx6⟩
  have HJ := awo_calls _ _ _ _ _ [⟨ax, ⟨#[49]⟩⟩] w6 (R4.out w6 (hx5.trans hx6)) (R5.out w6 hx6) hR6 (.inr rfl)
  rw [show joinOf noM [⟨ax, ⟨#[49]⟩⟩] [⟨ax, ⟨#[50]⟩⟩] [⟨ax, ⟨#[49]⟩⟩] = ([⟨ax, ⟨#[50]⟩⟩], []) from aw9_good] at HJ
  have HJ := Lib.hid HJ.1
  have hx := hx'.trans (hx4.trans (hx5.trans hx6))
  have HM6 := Lib.hid fun W (hW : Ext w6 W) => HM3.out W ((hx4.trans (hx5.trans hx6)).trans hW)
  clear R4 R5 hR6 hx4 hx5 hx6 HM3 hx'
  go_wp2_with fail
  refine HJ.out.mono ?_
  clear HJ
  rintro e w7 ⟨r7, s7, rfl, hN7, hM7, hx7⟩
  have HN7 := Lib.hid fun W (hW : Ext w7 W) => (hN7.ext hW).rdF
  have HM7 := Lib.hid fun W (hW : Ext w7 W) => HM6.out W (hx7.trans hW)
  obtain ⟨A7, c7, h7⟩ := hM7.sl
  subst h7
  have hy := hx.trans hx7
  clear hx hx7 hN7 hM7 HM6
  go_wp2_with fail
  refine (sameTexts_calls _ _ [ax] _ _ _ (HM7.out _ ((Kp.refl _ w7).alloc _)) ((New.made (E := ES) w7 9 [ax] (by simp [maxLen])).rd)).mono ?_
  rintro e w8 ⟨rfl, hx8⟩
  have hz8 := ((Kp.refl All w7).alloc (.cells #[.string ⟨#[120]⟩] 9)).trans hx8
  clear HM7 hx8
  go_wp2_with fail
  refine (awx_calls _ _).mono ?_
  rintro e w9 ⟨rfl, hR9, hx9⟩
  have HS := Lib.hid (sameFiles_calls _ _ _ _ _ _ w9 (HN7.out w9 (hz8.trans hx9)) hR9)
  have hy9 := hy.trans (hz8.trans hx9)
  clear HN7 hz8 hx9 hR9 hy
  go_wp2_with fail
  refine HS.out.mono ?_
  clear HS
  rintro e w10 ⟨rfl, hx10⟩
  rw [show sameB [⟨ax, ⟨#[50]⟩⟩] [⟨ax, ⟨#[50]⟩⟩] = true from sameB_refl _]
  have hy10 := hy9.trans hx10
  clear hy9 hx10
  go_wp2_with fail
  refine (awx_calls _ _).mono ?_
  rintro e w11 ⟨rfl, hR1, hx1⟩
  have R1 := Lib.hid fun W (hW : Ext w11 W) => hR1.ext hW
  clear hR1
  go_wp2_with fail
  refine (awx_calls _ _).mono ?_
  rintro e w12 ⟨rfl, hR2, hx2⟩
  have HJ := awo_calls _ _ (.slice none 0 0) _ _ [] w12 (R1.out w12 hx2) hR2 (Rd.nil _ _) (.inl rfl)
  rw [show virtOf noM [⟨ax, ⟨#[49]⟩⟩] [⟨ax, ⟨#[50]⟩⟩] [] = [⟨ax, ⟨#[49]⟩⟩] from aw9_virt] at HJ
  have HJ := Lib.hid HJ.2
  have hx := hy10.trans (hx1.trans hx2)
  clear R1 hR2 hx1 hx2 hy10
  go_wp2_with fail
  refine HJ.out.mono ?_
  clear HJ
  rintro e w13 ⟨r13, rfl, hN13, hx13⟩
  have HN := Lib.hid fun W (hW : Ext w13 W) => (hN13.ext hW).rdF
  have hy13 := hx.trans hx13
  clear hx hx13 hN13
  go_wp2_with fail
  refine (awx_calls _ _).mono ?_
  rintro e w14 ⟨rfl, hR14, hx14⟩
  have HS := Lib.hid (sameFiles_calls _ _ _ _ _ _ w14 (HN.out w14 hx14) hR14)
  have hy14 := hy13.trans hx14
  clear HN hx14 hR14 hy13
  go_wp2_with fail
  refine HS.out.mono ?_
  clear HS
  rintro e w15 ⟨rfl, hx15⟩
  rw [show sameB [⟨ax, ⟨#[49]⟩⟩] [⟨ax, ⟨#[49]⟩⟩] = true from sameB_refl _]
  have hy15 := hy14.trans hx15
  clear hy14 hx15
  go_wp2_with fail
  go_ret
  exact ⟨rfl, hy15⟩

end Go.Proofs.YtddooggkcdloeaaGreatDoor
