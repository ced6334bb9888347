/-
  Package tree: May.
-/
import Derived.Test.YtddooggkcdloeaaGreatDoorMay
namespace Go.Proofs.YtddooggkcdloeaaGreatDoor
open Go.RowKit
set_option linter.unusedVariables false
set_option linter.unusedSimpArgs false
attribute [local go_sem] Oper.semAt_some

/-- Behind region 6: what all ways share. -/
theorem mayB_false {xs : List File} {k : Nat} {f : File} (h12 : xs.length ≤ 12) (hok : okFrom [] xs = okFrom (xs.take k) (xs.drop k)) (hs : okFrom (xs.take k) (xs.drop k) = (!badF (xs.take k) f && okFrom (xs.take (k + 1)) (xs.drop (k + 1)))) (hb : badF (xs.take k) f = true) : mayB xs = false := by
  unfold mayB
  rw [hok, hs, hb]
  simp
theorem okFrom_next {xs : List File} {k : Nat} {f : File} (hok : okFrom [] xs = okFrom (xs.take k) (xs.drop k)) (hs : okFrom (xs.take k) (xs.drop k) = (!badF (xs.take k) f && okFrom (xs.take (k + 1)) (xs.drop (k + 1)))) (hb : badF (xs.take k) f = false) : okFrom [] xs = okFrom (xs.take (k + 1)) (xs.drop (k + 1)) := by
  rw [hok, hs, hb]
  simp
theorem orderB_zero (xs : List File) (f : File) : orderB (xs.take 0) f = false := rfl
theorem orderB_succ (xs : List File) (f : File) (m : Nat) (hm : m < xs.length) : orderB (xs.take (m + 1)) f = !ltB xs[m].path f.path := by
  unfold orderB
  rw [take_snoc xs hm, List.getLast?_concat]

set_option maxHeartbeats 1000000 in
theorem may_calls (v : Value) (xs : List File) (S : Fp) (w : World) (hR : Rd EF S w v xs) (hn : xs.length ≤ 1000000) (hp : ∀ y ∈ xs, y.path.size ≤ 1000000) :
    Calls Tryz.prog 21 #[v] w fun e w' => e = .returned (.bool (mayB xs)) ∧ Ext w w' := by
  obtain ⟨A, c, rfl, hO⟩ := hR.open_
  have hlen := hO.len
  by_cases h12 : xs.length ≤ 12
  · have hd : decide ((12 : Int) < (xs.length : Int)) = false := decide_eq_false (by omega)
    go_enter Tryz.func21, Tryz.ntmps21
    go_wp2_with fail
    go_loopw [10] (fun i wr => ∃ k : Nat, k ≤ xs.length ∧ i = .int .i64 k ∧ okFrom [] xs = okFrom (xs.take k) (xs.drop k) ∧ Ext w wr) (fun i _ => xs.length - (intOf i).toNat)
    case atStart => exact ⟨0, Nat.zero_le _, rfl, by simp, Kp.refl _ _⟩
    case round =>
      obtain ⟨k, hk, rfl, hok, hx⟩ := hrel
      rename_i wr
      by_cases hlt : k < xs.length
      · have hd2 : decide ((k : Int) < (xs.length : Int)) = true := decide_eq_true (by omega)
        have hOk := hO.kp (hx.mono fun _ _ _ => trivial)
        obtain ⟨b, off, rfl, _, hb, c0, c1⟩ := hOk.rd.file hlt
        have hlt' : (k : Int) < (xs.length : Int) := by omega
        have h0 : (0 : Int) ≤ (k : Int) := by omega
        have hw : IntKind.i64.wrap ((k : Int) + 1) = (k : Int) + 1 := IntWalk.i64_in _ (by omega)
        have hsn : okFrom (xs.take k) (xs.drop k) = (!badF (xs.take k) xs[k] && okFrom (xs.take (k + 1)) (xs.drop (k + 1))) := by
          rw [List.drop_eq_getElem_cons hlt, take_snoc xs hlt]; rfl
        obtain ⟨f, hf⟩ : ∃ f, xs[k] = f := ⟨_, rfl⟩
        rw [hf] at c0 c1 hsn
        have hpf : f.path.size ≤ 1000000 := by rw [← hf]; exact hp _ (List.getElem_mem hlt)
        have hPath := fun W => path_calls f.path W hpf
        have HF := Lib.hid hf
        have HS := Lib.hid hsn
        have HO := Lib.hid hOk
        clear hf hsn hOk hO
        cases h1 : pathB f.path with
        | false =>
          rw [h1] at hPath
          go_wp2_with fail
          refine wp_region_seq_quiet 5 (by kernel_rfl) (by kernel_rfl) (by decide) fun K HK => ?_
          simp only [List.take_succ_cons, List.take_zero, List.drop_succ_cons, List.drop_zero] at HK ⊢
          change wpList _ _ _ _ _ (World.drew _)
          go_wp2_with fail
          refine (hPath _).mono ?_
          rintro e w1 ⟨rfl, hx1⟩
          have hBx : Blk w1 wr.heap.size 40 #[.string f.path, .string f.data] := ((Blk.new wr _ _).ext ((Kp.refl _ _).drew)).ext hx1
          have b0 : w1.cell? ⟨wr.heap.size, 0, none⟩ = some (.string f.path) := hBx.cell 0
          have b1 : w1.cell? ⟨wr.heap.size, 1, none⟩ = some (.string f.data) := hBx.cell 1
          have hxw : Ext w w1 := ((hx.alloc _).drew).trans hx1
          clear hBx
          go_wp2_with fail
          refine HK.out _ _ ?_
          clear HK
          repeat (go_big_quiet_step (fail))
          refine wpQuiet_nil ?_
          rintro _ ⟨nq, rfl⟩
          go_wp2_with fail
          go_ret
          exact ⟨by rw [mayB_false h12 hok HS.out (by unfold badF; rw [h1]; rfl)]; rfl, hxw.drewN _⟩
        | true =>
          rw [h1] at hPath
          by_cases h2 : 400 < f.data.size
          · have hd400 : decide ((400 : Int) < (f.data.size : Int)) = true := decide_eq_true (by omega)
            go_wp2_with fail
            refine wp_region_seq_quiet 5 (by kernel_rfl) (by kernel_rfl) (by decide) fun K HK => ?_
            simp only [List.take_succ_cons, List.take_zero, List.drop_succ_cons, List.drop_zero] at HK ⊢
            change wpList _ _ _ _ _ (World.drew _)
            go_wp2_with fail
            refine (hPath _).mono ?_
            rintro e w1 ⟨rfl, hx1⟩
            have hBx : Blk w1 wr.heap.size 40 #[.string f.path, .string f.data] := ((Blk.new wr _ _).ext ((Kp.refl _ _).drew)).ext hx1
            have b0 : w1.cell? ⟨wr.heap.size, 0, none⟩ = some (.string f.path) := hBx.cell 0
            have b1 : w1.cell? ⟨wr.heap.size, 1, none⟩ = some (.string f.data) := hBx.cell 1
            have hxw : Ext w w1 := ((hx.alloc _).drew).trans hx1
            clear hBx
            go_wp2_with fail
            refine HK.out _ _ ?_
            clear HK
            repeat (go_big_quiet_step (fail))
            refine wpQuiet_nil ?_
            rintro _ ⟨nq, rfl⟩
            go_wp2_with fail
            go_ret
            exact ⟨by rw [mayB_false h12 hok HS.out (by unfold badF; rw [h1, decide_eq_true h2]; rfl)]; rfl, hxw.drewN _⟩
          · have hd400 : decide ((400 : Int) < (f.data.size : Int)) = false := decide_eq_false (by omega)
            have hkc : k ≤ c := by have := HO.out.le; omega
            by_cases h3 : k = 0
            · have hd3 : decide ((0 : Int) < (k : Int)) = false := decide_eq_false (by omega)
              have hd3' : decide (0 < k) = false := decide_eq_false (by omega)
              have hor : orderB (xs.take k) f = false := by rw [h3]; exact orderB_zero xs f
              clear h3
              go_wp2_with fail
              refine wp_region_seq_quiet 5 (by kernel_rfl) (by kernel_rfl) (by decide) fun K HK => ?_
              simp only [List.take_succ_cons, List.take_zero, List.drop_succ_cons, List.drop_zero] at HK ⊢
              change wpList _ _ _ _ _ (World.drew _)
              go_wp2_with fail
              refine (hPath _).mono ?_
              rintro e w1 ⟨rfl, hx1⟩
              have hBx : Blk w1 wr.heap.size 40 #[.string f.path, .string f.data] := ((Blk.new wr _ _).ext ((Kp.refl _ _).drew)).ext hx1
              have b0 : w1.cell? ⟨wr.heap.size, 0, none⟩ = some (.string f.path) := hBx.cell 0
              have b1 : w1.cell? ⟨wr.heap.size, 1, none⟩ = some (.string f.data) := hBx.cell 1
              have hxw : Ext w w1 := ((hx.alloc _).drew).trans hx1
              clear hBx
              go_wp2_with fail
              refine HK.out _ _ ?_
              clear HK
              repeat (go_big_quiet_step (fail))
              refine wpQuiet_nil ?_
              rintro _ ⟨nq, rfl⟩
              go_wp2_with fail
              have hT := (HO.out.take k (by omega)).kp ((((Kp.refl S wr).alloc _).drew).trans (hx1.mono fun _ _ _ => trivial) |>.drewN nq)
              have hlk : (xs.take k).length = k := by rw [List.length_take]; omega
              have hC := containsUnder_calls f.path wr.heap.size (some ⟨b, off, none⟩) c (xs.take k) S (w1.drewN nq) hT (by omega) (fun y hy => hp y (List.mem_of_mem_take hy)) (by simpa using b0) (by have := hx1.size; simp at this; simp; omega)
              rw [hlk] at hC
              refine hC.mono ?_
              clear hC hT
              rintro e w2 ⟨rfl, hx2⟩
              cases h5 : (xs.take k).any fun y => underB f.path y.path with
              | true =>
                go_wp2_with fail
                go_ret
                exact ⟨by rw [mayB_false h12 hok HS.out (by unfold badF; rw [h5]; simp)]; rfl, (hxw.drewN _).trans hx2⟩
              | false =>
                go_wp2_with fail
                go_roundw
                case rel => exact ⟨k + 1, by omega, by go_num, okFrom_next hok HS.out (by unfold badF; rw [h1, decide_eq_false h2, hor, h5]; rfl), (hxw.drewN _).trans hx2⟩
                case measure => simp [intOf]; omega
            · obtain ⟨m, hm⟩ : ∃ m, k = m + 1 := ⟨k - 1, by omega⟩
              have hd3 : decide ((0 : Int) < (k : Int)) = true := decide_eq_true (by omega)
              have hd3' : decide (0 < k) = true := decide_eq_true (by omega)
              have hw1 : IntKind.i64.wrap ((k : Int) - 1) = (m : Int) := by rw [IntWalk.i64_in _ (by omega)]; omega
              have hm0 : (0 : Int) ≤ (m : Int) := by omega
              have hm1 : (m : Int) < (xs.length : Int) := by omega
              have hmlt : m < xs.length := by omega
              obtain ⟨g, hg⟩ : ∃ g, xs[m] = g := ⟨_, rfl⟩
              have hor := orderB_succ xs f m hmlt
              rw [← hm, hg] at hor
              obtain ⟨b', off', he, _, hb', p0, p1⟩ := HO.out.rd.file hmlt
              cases he
              rw [hg] at p0
              have hbl : Op.bytesLess g.path.toList f.path.toList = ltB g.path f.path := rfl
              clear hm hg h3 p1
              cases h4 : ltB g.path f.path with
              | false =>
                rw [h4] at hbl hor
                go_wp2_with fail
                refine wp_region_seq_quiet 5 (by kernel_rfl) (by kernel_rfl) (by decide) fun K HK => ?_
                simp only [List.take_succ_cons, List.take_zero, List.drop_succ_cons, List.drop_zero] at HK ⊢
                change wpList _ _ _ _ _ (World.drew _)
                go_wp2_with fail
                refine (hPath _).mono ?_
                rintro e w1 ⟨rfl, hx1⟩
                have hBx : Blk w1 wr.heap.size 40 #[.string f.path, .string f.data] := ((Blk.new wr _ _).ext ((Kp.refl _ _).drew)).ext hx1
                have b0 : w1.cell? ⟨wr.heap.size, 0, none⟩ = some (.string f.path) := hBx.cell 0
                have b1 : w1.cell? ⟨wr.heap.size, 1, none⟩ = some (.string f.data) := hBx.cell 1
                have hxw : Ext w w1 := ((hx.alloc _).drew).trans hx1
                clear hBx
                have p0' := ((((Kp.refl All wr).alloc _).drew.trans hx1).cell (p := ⟨b, off + m * 2, none⟩) hb' trivial).trans p0
                go_wp2_with fail
                refine HK.out _ _ ?_
                clear HK
                repeat (go_big_quiet_step (fail))
                refine wpQuiet_nil ?_
                rintro _ ⟨nq, rfl⟩
                go_wp2_with fail
                go_ret
                exact ⟨by rw [mayB_false h12 hok HS.out (by unfold badF; rw [hor]; simp)]; rfl, hxw.drewN _⟩
              | true =>
                rw [h4] at hbl hor
                go_wp2_with fail
                refine wp_region_seq_quiet 5 (by kernel_rfl) (by kernel_rfl) (by decide) fun K HK => ?_
                simp only [List.take_succ_cons, List.take_zero, List.drop_succ_cons, List.drop_zero] at HK ⊢
                change wpList _ _ _ _ _ (World.drew _)
                go_wp2_with fail
                refine (hPath _).mono ?_
                rintro e w1 ⟨rfl, hx1⟩
                have hBx : Blk w1 wr.heap.size 40 #[.string f.path, .string f.data] := ((Blk.new wr _ _).ext ((Kp.refl _ _).drew)).ext hx1
                have b0 : w1.cell? ⟨wr.heap.size, 0, none⟩ = some (.string f.path) := hBx.cell 0
                have b1 : w1.cell? ⟨wr.heap.size, 1, none⟩ = some (.string f.data) := hBx.cell 1
                have hxw : Ext w w1 := ((hx.alloc _).drew).trans hx1
                clear hBx
                have p0' := ((((Kp.refl All wr).alloc _).drew.trans hx1).cell (p := ⟨b, off + m * 2, none⟩) hb' trivial).trans p0
                go_wp2_with fail
                refine HK.out _ _ ?_
                clear HK
                repeat (go_big_quiet_step (fail))
                refine wpQuiet_nil ?_
                rintro _ ⟨nq, rfl⟩
                go_wp2_with fail
                have hT := (HO.out.take k (by omega)).kp ((((Kp.refl S wr).alloc _).drew).trans (hx1.mono fun _ _ _ => trivial) |>.drewN nq)
                have hlk : (xs.take k).length = k := by rw [List.length_take]; omega
                have hC := containsUnder_calls f.path wr.heap.size (some ⟨b, off, none⟩) c (xs.take k) S (w1.drewN nq) hT (by omega) (fun y hy => hp y (List.mem_of_mem_take hy)) (by simpa using b0) (by have := hx1.size; simp at this; simp; omega)
                rw [hlk] at hC
                refine hC.mono ?_
                clear hC hT
                rintro e w2 ⟨rfl, hx2⟩
                cases h5 : (xs.take k).any fun y => underB f.path y.path with
                | true =>
                  go_wp2_with fail
                  go_ret
                  exact ⟨by rw [mayB_false h12 hok HS.out (by unfold badF; rw [h5]; simp)]; rfl, (hxw.drewN _).trans hx2⟩
                | false =>
                  go_wp2_with fail
                  go_roundw
                  case rel => exact ⟨k + 1, by omega, by go_num, okFrom_next hok HS.out (by unfold badF; rw [h1, decide_eq_false h2, hor, h5]; rfl), (hxw.drewN _).trans hx2⟩
                  case measure => simp [intOf]; omega
      · have hd2 : decide ((k : Int) < (xs.length : Int)) = false := decide_eq_false (by omega)
        have hkl : k = xs.length := by omega
        have htrue : mayB xs = true := by
          unfold mayB
          rw [hok, hkl, List.drop_length, decide_eq_true h12]; rfl
        go_wp2_with fail
        go_ret
        exact ⟨by rw [htrue]; rfl, hx⟩
  · have hd : decide ((12 : Int) < (xs.length : Int)) = true := decide_eq_true (by omega)
    go_enter Tryz.func21, Tryz.ntmps21
    go_wp2_with fail
    go_ret
    exact ⟨by unfold mayB; rw [decide_eq_false h12]; rfl, Kp.refl _ _⟩

end Go.Proofs.YtddooggkcdloeaaGreatDoor
