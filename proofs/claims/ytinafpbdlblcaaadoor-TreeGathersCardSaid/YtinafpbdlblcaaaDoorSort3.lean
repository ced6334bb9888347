/-
  slices.SortStableFunc at at most 39 files; tree.Put at at most 38.
-/
import Derived.Test.YtinafpbdlblcaaaDoorSort2
import Derived.Test.YtinafpbdlblcaaaDoorSym3
namespace Go.Proofs.YtinafpbdlblcaaaDoor
open Go.RowKit
set_option linter.unusedVariables false
set_option linter.unusedSimpArgs false

section
variable {α : Type} (key : α → ByteArray)
theorem insK_comm {x y : α} (h : ltB (key x) (key y) = true) : ∀ T : List α, insK key y (insK key x T) = insK key x (insK key y T)
  | [] => by
    show (if ltB (key y) (key x) = true then _ else _) = (if ltB (key x) (key y) = true then _ else _)
    rw [if_neg (by rw [ltB_asymm h]; exact Bool.false_ne_true), if_pos h]
    rfl
  | z :: T => by
    by_cases hz : ltB (key x) (key z) = true
    · rw [insK, if_pos hz, insK, if_neg (by rw [ltB_asymm h]; exact Bool.false_ne_true)]
      by_cases hy : ltB (key y) (key z) = true
      · rw [insK, if_pos hy, insK, if_pos h]
      · rw [insK, if_neg hy, insK, if_pos hz]
    · have hy : ¬ ltB (key y) (key z) = true := fun e => hz (ltB_trans h e)
      rw [insK, if_neg hz, insK, if_neg hy, insK_comm h T, insK, if_neg hy, insK, if_neg hz]
theorem fromK_insK_gt (x : α) : ∀ (M T : List α), (∀ y ∈ M, ltB (key x) (key y) = true) → fromK key (insK key x T) M = insK key x (fromK key T M)
  | [], T, _ => rfl
  | y :: M, T, h => by
    show fromK key (insK key y (insK key x T)) M = insK key x (fromK key (insK key y T) M)
    rw [insK_comm key (h y (by simp)) T, fromK_insK_gt x M _ fun y hy => h y (by simp [hy])]
theorem fromK_insK (x : α) : ∀ (M S : List α), RiseK key M → fromK key S (insK key x M) = insK key x (fromK key S M)
  | [], S, _ => rfl
  | z :: M, S, h => by
    by_cases hz : ltB (key x) (key z) = true
    · rw [insK, if_pos hz]
      exact fromK_insK_gt key x (z :: M) S fun y hy => by
        rcases List.mem_cons.1 hy with rfl | hy
        · exact hz
        · exact lt_of_lt_le hz ((List.pairwise_cons.1 h).1 y hy)
    · rw [insK, if_neg hz]
      exact fromK_insK x M (insK key z S) (List.pairwise_cons.1 h).2
theorem fromK_sort (S : List α) : ∀ m : List α, fromK key S (sortK key m) = fromK key S m := by
  refine snocInd rfl ?_
  intro m x ih
  rw [sortK_snoc, fromK_insK key x _ S (sortK_rise key m), ih]
  unfold fromK
  rw [List.foldl_append]
  rfl
theorem sortK_two (l m : List α) : sortK key (sortK key l ++ sortK key m) = sortK key (l ++ m) := by
  rw [sortK_append, sortK_rise_self key _ (sortK_rise key l), fromK_sort, ← sortK_append]
end

set_option maxHeartbeats 1000000 in
set_option maxRecDepth 100000 in
theorem stableBig_calls (g c : Nat) (xs : List File) (h20 : 20 < xs.length) (h40 : xs.length < 40) (w : World) (h : Own EF 30 w (.slice (some ⟨g, 0, none⟩) xs.length c) xs) :
    Calls Tryd.prog 64 #[.slice (some ⟨g, 0, none⟩) xs.length c, .int .i64 xs.length, .func (.func 42) #[] #[]] w fun e w' => (∃ v, e = .returned v) ∧
      Own EF 30 w' (.slice (some ⟨g, 0, none⟩) xs.length c) (sortK File.path xs) ∧ Kp (fun k => k ≠ g) w w' := by
  obtain ⟨n, hn⟩ : ∃ n, xs.length = n := ⟨_, rfl⟩
  rw [hn] at h h20 h40 ⊢
  have H20 := Lib.hid hn
  have d1 : decide ((20 : Int) ≤ (n : Int)) = true := by simp; omega
  have d2 : decide ((40 : Int) ≤ (n : Int)) = false := by simp; omega
  have d3 : decide ((20 : Int) < (n : Int)) = true := by simp; omega
  have d4 : decide ((40 : Int) < (n : Int)) = false := by simp; omega
  obtain ⟨X, hX⟩ : ∃ X, xs.take 20 = X := ⟨_, rfl⟩
  obtain ⟨Y, hY⟩ : ∃ Y, xs.drop 20 = Y := ⟨_, rfl⟩
  have hXl : X.length = 20 := by rw [← hX, List.length_take]; omega
  have hYl : Y.length = n - 20 := by rw [← hY, List.length_drop]; omega
  have hxs : xs = X ++ Y := by rw [← hX, ← hY, List.take_append_drop]
  have hI1 := insertionSort_calls' g c xs n 0 20 0 20 rfl rfl hn (by omega) (by omega) (by omega) w h
  have e1 : xs.take 0 ++ (sortK File.path ((xs.take 20).drop 0) ++ xs.drop 20) = sortK File.path X ++ Y := by rw [hX, hY]; simp
  rw [e1] at hI1
  have hsl : (sortK File.path X ++ Y).length = n := by rw [List.length_append, sortK_length]; omega
  have e2 : (sortK File.path X ++ Y).take 20 ++ (sortK File.path (((sortK File.path X ++ Y).take n).drop 20) ++ (sortK File.path X ++ Y).drop n) = sortK File.path X ++ sortK File.path Y := by
    have hl : (sortK File.path X).length = 20 := by rw [sortK_length, hXl]
    rw [List.take_of_length_le (i := n) (by omega), List.drop_of_length_le (i := n) (by omega), List.take_left' hl, List.drop_left' hl, List.append_nil]
  have hI2 := fun w1 hO => insertionSort_calls' g c (sortK File.path X ++ Y) n 20 n 20 n rfl rfl hsl (by omega) (by omega) (by omega) w1 hO
  simp only [e2] at hI2
  have hI3 := fun w1 hO => symMerge_calls g c [] (sortK File.path X) (sortK File.path Y) [] 0 20 n n (by simp only [List.length_nil, sortK_length]; omega) rfl (by rw [sortK_length]; omega) (by rw [sortK_length]; omega) (by rw [sortK_length]; omega) (by rw [sortK_length]; omega) (sortK_rise _ _) (sortK_rise _ _) (by omega) w1 hO
  have e3 : sortK File.path (sortK File.path X ++ sortK File.path Y) = sortK File.path xs := by rw [hxs, sortK_two]
  simp only [e3, List.nil_append, List.append_nil] at hI3
  have HI1 := Lib.hid hI1
  have HI2 := Lib.hid hI2
  have HI3 := Lib.hid hI3
  clear hI1 hI2 hI3 e1 e2 e3 hsl hxs hXl hYl hX hY hn
  go_enter Tryd.func64, Tryd.ntmps64
  go_wp2_with fail
  refine wp_loop_rounds 2 ?_
  rw [rounds_succ]
  go_wp2_with (go_at_call 76; refine stop ?_)
  refine HI1.out.mono ?_
  rintro e w1 ⟨⟨v, rfl⟩, hO, hK⟩
  go_wp2_with fail
  rw [rounds_succ]
  go_wp2_with (go_at_call 76; refine stop ?_)
  refine (HI2.out w1 hO).mono ?_
  rintro e w2 ⟨⟨v2, rfl⟩, hO2, hK2⟩
  go_wp2_with fail
  refine wp_loop_rounds 2 ?_
  rw [rounds_succ]
  go_wp2_with fail
  refine wp_loop_once ?_
  go_wp2_with (go_at_call 77; refine stop ?_)
  refine (HI3.out w2 hO2).mono ?_
  rintro e w3 ⟨⟨v3, rfl⟩, hO3, hK3⟩
  go_wp2_with fail
  rw [rounds_succ]
  go_wp2_with fail
  exact bodyPost_end (results_none rfl _ _ _) rfl ⟨⟨_, rfl⟩, hO3, (hK.trans hK2).trans hK3⟩

theorem stable39_calls (g c : Nat) (xs : List File) (hlen : xs.length ≤ 39) (w : World) (h : Own EF 30 w (.slice (some ⟨g, 0, none⟩) xs.length c) xs) :
    Calls Tryd.prog 64 #[.slice (some ⟨g, 0, none⟩) xs.length c, .int .i64 xs.length, .func (.func 42) #[] #[]] w fun e w' => (∃ v, e = .returned v) ∧
      Own EF 30 w' (.slice (some ⟨g, 0, none⟩) xs.length c) (sortK File.path xs) ∧ Kp (fun k => k ≠ g) w w' := by
  by_cases h20 : xs.length ≤ 20
  · exact stable_calls g c xs h20 w h
  · exact stableBig_calls g c xs (by omega) (by omega) w h

theorem sortStable39_calls (g c n : Nat) (xs : List File) (hn : xs.length = n) (hlen : xs.length ≤ 39) (w : World) (h : Own EF 30 w (.slice (some ⟨g, 0, none⟩) n c) xs) :
    Calls Tryd.prog 41 #[.slice (some ⟨g, 0, none⟩) n c, .func (.func 42) #[] #[]] w fun e w' => (∃ v, e = .returned v) ∧
      Own EF 30 w' (.slice (some ⟨g, 0, none⟩) n c) (sortK File.path xs) ∧ Kp (fun k => k ≠ g) w w' := by
  subst hn
  go_enter Tryd.func41, Tryd.ntmps41
  go_wp2_with (go_at_call 64; refine stop ?_)
  refine (stable39_calls g c xs hlen w h).mono ?_
  rintro e w1 ⟨⟨v, rfl⟩, hO, hK⟩
  go_wp2_with fail
  exact bodyPost_end (results_none rfl _ _ _) rfl ⟨⟨_, rfl⟩, hO, hK⟩

/-- tree.Put, at at most 38 files. -/
theorem put38_calls (v : Value) (p d : ByteArray) (xs : List File) (S : Fp) (w : World) (hR : Rd EF S w v xs) (hb : xs.length ≤ 38) :
    Calls Tryd.prog 13 #[v, .string p, .string d] w fun e w' => ∃ u, e = .returned u ∧ New EF 30 w.heap.size w' u (putF xs p d) ∧ Ext w w' := by
  go_enter Tryd.func13, Tryd.ntmps13
  go_wp2_with (go_at_call 15; refine stop ?_)
  refine (drop_calls v p xs S w hR (by omega)).mono ?_
  rintro e w1 ⟨u, rfl, hN, hx1⟩
  have hz1 := hx1.size
  have hfl : (xs.filter fun f => !(f.path.toList == p.toList)).length ≤ xs.length := List.length_filter_le _ _
  obtain ⟨ys, hys⟩ : ∃ ys, (xs.filter fun f => !(f.path.toList == p.toList)) = ys := ⟨_, rfl⟩
  have HP : Hid (putF xs p d = sortK File.path (ys ++ [⟨p, d⟩])) := Lib.hid (by rw [← hys]; rfl)
  rw [hys] at hN hfl
  clear hys
  go_wp2_with (at_builtin; refine stop ?_)
  refine list_append (v := u) (u := .slice (some ⟨w1.heap.size, 0, none⟩) 1 1) (xs := ys) (ys := [⟨p, d⟩]) tiF rfl rfl rfl rfl (hN.1.kp ((Kp.refl _ _).alloc _) (fun _ _ => trivial)) (Own.made w1 30 ([⟨p, d⟩] : List File) (by simp [maxLen])).rd (by simp; omega) (by simp [maxLen]; omega) ?_
  intro v2 w2 hO2 hK2 hb2
  have hlt2 : (ys ++ [⟨p, d⟩] : List File).length ≤ 39 := by simp; omega
  obtain ⟨g, n, c, rfl⟩ : ∃ g n c, v2 = .slice (some ⟨g, 0, none⟩) n c := by
    rcases hO2.2 with ⟨_, h⟩ | ⟨g, cap, cur, h, _⟩
    · simp at h
    · exact ⟨g, _, cap, h⟩
  have hng : w.heap.size ≤ g := by
    rcases hb2 with h | h
    · exact hN.2 g (by rw [← h]; rfl)
    · simp [Value.ownBlock] at h; omega
  have hn : (ys ++ [⟨p, d⟩] : List File).length = n := by
    rcases hO2.2 with ⟨h, _⟩ | ⟨g, cap, cur, h, _⟩
    · cases h
    · injection h with _ h _; exact h.symm
  have HN := Lib.hid hn
  have hk2 : Ext w w2 := (hx1.trans ((Kp.refl _ w1).alloc _)).trans' hK2 fun k hk _ he => by have := hN.2 k he; omega
  clear hb2 hn hK2 hx1
  go_wp2_with (go_at_call 41; refine stop ?_)
  refine (sortStable39_calls g c n _ HN.out hlt2 w2 hO2).mono ?_
  rintro e w3 ⟨⟨v3, rfl⟩, hO3, hK3⟩
  go_wp2_with fail
  go_ret
  refine ⟨_, rfl, ?_, hk2.trans' hK3 fun k hk _ => by omega⟩
  rw [HP.out]
  exact ⟨hO3, fun g' h => by simp [Value.ownBlock] at h; omega⟩

end Go.Proofs.YtinafpbdlblcaaaDoor
