/-
  slices.SortStableFunc at at most twenty files; tree.Put.
-/
import Derived.Test.YtddooggkcdloeaaGreatDoorSort
import Derived.Test.YtddooggkcdloeaaGreatDoorTree2
namespace Go.Proofs.YtddooggkcdloeaaGreatDoor
open Go.RowKit
set_option linter.unusedVariables false
set_option linter.unusedSimpArgs false

theorem insertionSort_calls' (g c : Nat) (xs : List File) (n : Nat) (a b : Nat) (ai bi : Int) (hai : ai = a) (hbi : bi = b) (hn : xs.length = n) (hab : a ≤ b) (hb : b ≤ xs.length) (hlen : xs.length ≤ 1000000) (w : World) (h : Own EF 40 w (.slice (some ⟨g, 0, none⟩) n c) xs) :
    Calls Tryz.prog 100 #[.slice (some ⟨g, 0, none⟩) n c, .int .i64 ai, .int .i64 bi, .func (.func 55) #[] #[]] w fun e w' => (∃ v, e = .returned v) ∧
      Own EF 40 w' (.slice (some ⟨g, 0, none⟩) n c) (xs.take a ++ (sortK File.path ((xs.take b).drop a) ++ xs.drop b)) ∧ Kp (fun k => k ≠ g) w w' := by
  subst hai hbi hn
  exact insertionSort_calls g c xs a b hab hb hlen w h

set_option maxHeartbeats 400000 in
set_option maxRecDepth 100000 in
theorem stable_calls (g c : Nat) (xs : List File) (hlen : xs.length ≤ 20) (w : World) (h : Own EF 40 w (.slice (some ⟨g, 0, none⟩) xs.length c) xs) :
    Calls Tryz.prog 77 #[.slice (some ⟨g, 0, none⟩) xs.length c, .int .i64 xs.length, .func (.func 55) #[] #[]] w fun e w' => (∃ v, e = .returned v) ∧
      Own EF 40 w' (.slice (some ⟨g, 0, none⟩) xs.length c) (sortK File.path xs) ∧ Kp (fun k => k ≠ g) w w' := by
  by_cases hn : xs.length = 20
  · have H20 := Lib.hid hn
    have d1 : decide ((20 : Int) ≤ (xs.length : Int)) = true := by simp; omega
    have d2 : decide ((40 : Int) ≤ (xs.length : Int)) = false := by simp; omega
    have d3 : decide ((20 : Int) < (xs.length : Int)) = false := by simp; omega
    clear hn
    go_enter Tryz.func77, Tryz.ntmps77
    go_wp2_with fail
    refine wp_loop_rounds 2 ?_
    rw [rounds_succ]
    go_wp2_with (go_at_call 100; refine stop ?_)
    refine (insertionSort_calls' g c xs _ 0 20 0 20 rfl rfl rfl (by omega) (by rw [H20.out]; exact Nat.le_refl _) (by omega) w h).mono ?_
    rintro e w1 ⟨⟨v, rfl⟩, hO, hK⟩
    have e1 : xs.take 0 ++ (sortK File.path ((xs.take 20).drop 0) ++ xs.drop 20) = sortK File.path xs := by
      rw [show xs.take 20 = xs from List.take_of_length_le (by rw [H20.out]; exact Nat.le_refl _), show xs.drop 20 = [] from List.drop_of_length_le (by rw [H20.out]; exact Nat.le_refl _)]
      simp
    rw [e1] at hO
    clear e1
    go_wp2_with fail
    rw [rounds_succ]
    go_wp2_with (go_at_call 100; refine stop ?_)
    refine (insertionSort_calls' g c (sortK File.path xs) _ 20 20 20 xs.length rfl (by rw [H20.out]) (sortK_length _ _) (by omega) (by rw [sortK_length, H20.out]; exact Nat.le_refl _) (by rw [sortK_length]; omega) w1 hO).mono ?_
    rintro e w2 ⟨⟨v2, rfl⟩, hO2, hK2⟩
    have e2 : (sortK File.path xs).take 20 ++ (sortK File.path (((sortK File.path xs).take 20).drop 20) ++ (sortK File.path xs).drop 20) = sortK File.path xs := by
      have hl : (sortK File.path xs).length = 20 := by rw [sortK_length, H20.out]
      rw [show (sortK File.path xs).take 20 = sortK File.path xs from List.take_of_length_le (by rw [hl]; exact Nat.le_refl _), show (sortK File.path xs).drop 20 = [] from List.drop_of_length_le (by rw [hl]; exact Nat.le_refl _)]
      simp [sortK]
    rw [e2] at hO2
    clear e2
    go_wp2_with fail
    refine wp_loop_once ?_
    go_wp2_with fail
    exact bodyPost_end (results_none rfl _ _ _) rfl ⟨⟨_, rfl⟩, hO2, hK.trans hK2⟩
  · have d1 : decide ((20 : Int) ≤ (xs.length : Int)) = false := by simp; omega
    have d3 : decide ((20 : Int) < (xs.length : Int)) = false := by simp; omega
    go_enter Tryz.func77, Tryz.ntmps77
    go_wp2_with fail
    refine wp_loop_once ?_
    go_wp2_with (go_at_call 100; refine stop ?_)
    refine (insertionSort_calls' g c xs _ 0 xs.length 0 xs.length rfl rfl rfl (by omega) (Nat.le_refl _) (by omega) w h).mono ?_
    rintro e w1 ⟨⟨v, rfl⟩, hO, hK⟩
    have e1 : xs.take 0 ++ (sortK File.path ((xs.take xs.length).drop 0) ++ xs.drop xs.length) = sortK File.path xs := by simp
    rw [e1] at hO
    clear e1
    go_wp2_with fail
    refine wp_loop_once ?_
    go_wp2_with fail
    exact bodyPost_end (results_none rfl _ _ _) rfl ⟨⟨_, rfl⟩, hO, hK⟩

theorem sortStable_calls (g c n : Nat) (xs : List File) (hn : xs.length = n) (hlen : xs.length ≤ 20) (w : World) (h : Own EF 40 w (.slice (some ⟨g, 0, none⟩) n c) xs) :
    Calls Tryz.prog 54 #[.slice (some ⟨g, 0, none⟩) n c, .func (.func 55) #[] #[]] w fun e w' => (∃ v, e = .returned v) ∧
      Own EF 40 w' (.slice (some ⟨g, 0, none⟩) n c) (sortK File.path xs) ∧ Kp (fun k => k ≠ g) w w' := by
  subst hn
  go_enter Tryz.func54, Tryz.ntmps54
  go_wp2_with (go_at_call 77; refine stop ?_)
  refine (stable_calls g c xs hlen w h).mono ?_
  rintro e w1 ⟨⟨v, rfl⟩, hO, hK⟩
  go_wp2_with fail
  exact bodyPost_end (results_none rfl _ _ _) rfl ⟨⟨_, rfl⟩, hO, hK⟩

def putF (xs : List File) (p d : ByteArray) : List File := sortK File.path ((xs.filter fun f => !(f.path.toList == p.toList)) ++ [⟨p, d⟩])

/-- tree.Put, at at most nineteen files. -/
theorem put_calls (v : Value) (p d : ByteArray) (xs : List File) (S : Fp) (w : World) (hR : Rd EF S w v xs) (hb : xs.length ≤ 19) :
    Calls Tryz.prog 27 #[v, .string p, .string d] w fun e w' => ∃ u, e = .returned u ∧ New EF 40 w.heap.size w' u (putF xs p d) ∧ Ext w w' := by
  go_enter Tryz.func27, Tryz.ntmps27
  go_wp2_with (go_at_call 42; refine stop ?_)
  refine (drop_calls v p xs S w hR (by omega)).mono ?_
  rintro e w1 ⟨u, rfl, hN, hx1⟩
  have hz1 := hx1.size
  have hfl : (xs.filter fun f => !(f.path.toList == p.toList)).length ≤ xs.length := List.length_filter_le _ _
  obtain ⟨ys, hys⟩ : ∃ ys, (xs.filter fun f => !(f.path.toList == p.toList)) = ys := ⟨_, rfl⟩
  have HP : Hid (putF xs p d = sortK File.path (ys ++ [⟨p, d⟩])) := Lib.hid (by rw [← hys]; rfl)
  rw [hys] at hN hfl
  clear hys
  go_wp2_with (at_builtin; refine stop ?_)
  refine list_append (v := u) (u := .slice (some ⟨w1.heap.size, 0, none⟩) 1 1) (xs := ys) (ys := [⟨p, d⟩]) tiF rfl rfl rfl rfl (hN.1.kp ((Kp.refl _ _).alloc _) (fun _ _ => trivial)) (Own.made w1 40 ([⟨p, d⟩] : List File) (by simp [maxLen])).rd (by simp; omega) (by simp [maxLen]; omega) ?_
  intro v2 w2 hO2 hK2 hb2
  have hlt2 : (ys ++ [⟨p, d⟩] : List File).length ≤ 20 := by simp; omega
  obtain ⟨g, n, c, rfl⟩ : ∃ g n c, v2 = .slice (some ⟨g, 0, none⟩) n c := by
    rcases hO2.2 with ⟨_, h⟩ | ⟨g, cap, cur, h, _⟩
    · simp at h
    · exact ⟨g, _, cap, h⟩
  have hng : w.heap.size ≤ g := by
    rcases hb2 with h | h
    · exact hN.2 g (by rw [← h]; rfl)
    · simp [Value.ownBlock] at h; omega
  have hn : (ys ++ [⟨p, d⟩] : List File).length = n := by
    rcases hO2.2 with ⟨h, _⟩ | ⟨g, cap, cur, h, _⟩
    · cases h
    · injection h with _ h _; exact h.symm
  have HN := Lib.hid hn
  have hk2 : Ext w w2 := (hx1.trans ((Kp.refl _ w1).alloc _)).trans' hK2 fun k hk _ he => by have := hN.2 k he; omega
  clear hb2 hn hK2 hx1
  go_wp2_with (go_at_call 54; refine stop ?_)
  refine (sortStable_calls g c n _ HN.out hlt2 w2 hO2).mono ?_
  rintro e w3 ⟨⟨v3, rfl⟩, hO3, hK3⟩
  go_wp2_with fail
  go_ret
  refine ⟨_, rfl, ?_, hk2.trans' hK3 fun k hk _ => by omega⟩
  rw [HP.out]
  exact ⟨hO3, fun g' h => by simp [Value.ownBlock] at h; omega⟩

end Go.Proofs.YtddooggkcdloeaaGreatDoor
