/-
  Package tree: May. Commits: rows of numbers, rows of commits, a repository.
-/
import Derived.Test.YtgjbfkaepalkiaaGreatDoorMay
import Derived.Test.YtgjbfkaepalkiaaGreatDoorConcat
namespace Go.Proofs.YtgjbfkaepalkiaaGreatDoor
open Go.RowKit
set_option linter.unusedVariables false
set_option linter.unusedSimpArgs false
attribute [local go_sem] Oper.semAt_some

/-- Behind region 6: what all ways share. -/
theorem mayB_false {xs : List File} {k : Nat} {f : File} (h12 : xs.length ≤ 12) (hok : okFrom [] xs = okFrom (xs.take k) (xs.drop k)) (hs : okFrom (xs.take k) (xs.drop k) = (!badF (xs.take k) f && okFrom (xs.take (k + 1)) (xs.drop (k + 1)))) (hb : badF (xs.take k) f = true) : mayB xs = false := by
  unfold mayB
  rw [hok, hs, hb]
  simp
theorem okFrom_next {xs : List File} {k : Nat} {f : File} (hok : okFrom [] xs = okFrom (xs.take k) (xs.drop k)) (hs : okFrom (xs.take k) (xs.drop k) = (!badF (xs.take k) f && okFrom (xs.take (k + 1)) (xs.drop (k + 1)))) (hb : badF (xs.take k) f = false) : okFrom [] xs = okFrom (xs.take (k + 1)) (xs.drop (k + 1)) := by
  rw [hok, hs, hb]
  simp
theorem orderB_zero (xs : List File) (f : File) : orderB (xs.take 0) f = false := rfl
theorem orderB_succ (xs : List File) (f : File) (m : Nat) (hm : m < xs.length) : orderB (xs.take (m + 1)) f = !ltB xs[m].path f.path := by
  unfold orderB
  rw [take_snoc xs hm, List.getLast?_concat]

set_option maxHeartbeats 1000000 in
theorem may_calls (v : Value) (xs : List File) (S : Fp) (w : World) (hR : Rd EF S w v xs) (hn : xs.length ≤ 1000000) (hp : ∀ y ∈ xs, y.path.size ≤ 1000000) :
    Calls Tryz.prog 28 #[v] w fun e w' => e = .returned (.bool (mayB xs)) ∧ Ext w w' := by
  obtain ⟨A, c, rfl, hO⟩ := hR.open_
  have hlen := hO.len
  by_cases h12 : xs.length ≤ 12
  · have hd : decide ((12 : Int) < (xs.length : Int)) = false := decide_eq_false (by omega)
    go_enter Tryz.func28, Tryz.ntmps28
    go_wp2_with fail
    go_loopw [10] (fun i wr => ∃ k : Nat, k ≤ xs.length ∧ i = .int .i64 k ∧ okFrom [] xs = okFrom (xs.take k) (xs.drop k) ∧ Ext w wr) (fun i _ => xs.length - (intOf i).toNat)
    case atStart => exact ⟨0, Nat.zero_le _, rfl, by simp, Kp.refl _ _⟩
    case round =>
      obtain ⟨k, hk, rfl, hok, hx⟩ := hrel
      rename_i wr
      by_cases hlt : k < xs.length
      · have hd2 : decide ((k : Int) < (xs.length : Int)) = true := decide_eq_true (by omega)
        have hOk := hO.kp (hx.mono fun _ _ _ => trivial)
        obtain ⟨b, off, rfl, _, hb, c0, c1⟩ := hOk.rd.file hlt
        have hlt' : (k : Int) < (xs.length : Int) := by omega
        have h0 : (0 : Int) ≤ (k : Int) := by omega
        have hw : IntKind.i64.wrap ((k : Int) + 1) = (k : Int) + 1 := IntWalk.i64_in _ (by omega)
        have hsn : okFrom (xs.take k) (xs.drop k) = (!badF (xs.take k) xs[k] && okFrom (xs.take (k + 1)) (xs.drop (k + 1))) := by
          rw [List.drop_eq_getElem_cons hlt, take_snoc xs hlt]; rfl
        obtain ⟨f, hf⟩ : ∃ f, xs[k] = f := ⟨_, rfl⟩
        rw [hf] at c0 c1 hsn
        have hpf : f.path.size ≤ 1000000 := by rw [← hf]; exact hp _ (List.getElem_mem hlt)
        have hPath := fun W => path_calls f.path W hpf
        have HF := Lib.hid hf
        have HS := Lib.hid hsn
        have HO := Lib.hid hOk
        clear hf hsn hOk hO
        cases h1 : pathB f.path with
        | false =>
          rw [h1] at hPath
          go_wp2_with fail
          refine wp_region_seq_quiet 5 (by kernel_rfl) (by kernel_rfl) (by decide) fun K HK => ?_
          simp only [List.take_succ_cons, List.take_zero, List.drop_succ_cons, List.drop_zero] at HK ⊢
          change wpList _ _ _ _ _ (World.drew _)
          go_wp2_with fail
          refine (hPath _).mono ?_
          rintro e w1 ⟨rfl, hx1⟩
          have hBx : Blk w1 wr.heap.size 39 #[.string f.path, .string f.data] := ((Blk.new wr _ _).ext ((Kp.refl _ _).drew)).ext hx1
          have b0 : w1.cell? ⟨wr.heap.size, 0, none⟩ = some (.string f.path) := hBx.cell 0
          have b1 : w1.cell? ⟨wr.heap.size, 1, none⟩ = some (.string f.data) := hBx.cell 1
          have hxw : Ext w w1 := ((hx.alloc _).drew).trans hx1
          clear hBx
          go_wp2_with fail
          refine HK.out _ _ ?_
          clear HK
          repeat (go_big_quiet_step (fail))
          refine wpQuiet_nil ?_
          rintro _ ⟨nq, rfl⟩
          go_wp2_with fail
          go_ret
          exact ⟨by rw [mayB_false h12 hok HS.out (by unfold badF; rw [h1]; rfl)]; rfl, hxw.drewN _⟩
        | true =>
          rw [h1] at hPath
          by_cases h2 : 400 < f.data.size
          · have hd400 : decide ((400 : Int) < (f.data.size : Int)) = true := decide_eq_true (by omega)
            go_wp2_with fail
            refine wp_region_seq_quiet 5 (by kernel_rfl) (by kernel_rfl) (by decide) fun K HK => ?_
            simp only [List.take_succ_cons, List.take_zero, List.drop_succ_cons, List.drop_zero] at HK ⊢
            change wpList _ _ _ _ _ (World.drew _)
            go_wp2_with fail
            refine (hPath _).mono ?_
            rintro e w1 ⟨rfl, hx1⟩
            have hBx : Blk w1 wr.heap.size 39 #[.string f.path, .string f.data] := ((Blk.new wr _ _).ext ((Kp.refl _ _).drew)).ext hx1
            have b0 : w1.cell? ⟨wr.heap.size, 0, none⟩ = some (.string f.path) := hBx.cell 0
            have b1 : w1.cell? ⟨wr.heap.size, 1, none⟩ = some (.string f.data) := hBx.cell 1
            have hxw : Ext w w1 := ((hx.alloc _).drew).trans hx1
            clear hBx
            go_wp2_with fail
            refine HK.out _ _ ?_
            clear HK
            repeat (go_big_quiet_step (fail))
            refine wpQuiet_nil ?_
            rintro _ ⟨nq, rfl⟩
            go_wp2_with fail
            go_ret
            exact ⟨by rw [mayB_false h12 hok HS.out (by unfold badF; rw [h1, decide_eq_true h2]; rfl)]; rfl, hxw.drewN _⟩
          · have hd400 : decide ((400 : Int) < (f.data.size : Int)) = false := decide_eq_false (by omega)
            have hkc : k ≤ c := by have := HO.out.le; omega
            by_cases h3 : k = 0
            · have hd3 : decide ((0 : Int) < (k : Int)) = false := decide_eq_false (by omega)
              have hd3' : decide (0 < k) = false := decide_eq_false (by omega)
              have hor : orderB (xs.take k) f = false := by rw [h3]; exact orderB_zero xs f
              clear h3
              go_wp2_with fail
              refine wp_region_seq_quiet 5 (by kernel_rfl) (by kernel_rfl) (by decide) fun K HK => ?_
              simp only [List.take_succ_cons, List.take_zero, List.drop_succ_cons, List.drop_zero] at HK ⊢
              change wpList _ _ _ _ _ (World.drew _)
              go_wp2_with fail
              refine (hPath _).mono ?_
              rintro e w1 ⟨rfl, hx1⟩
              have hBx : Blk w1 wr.heap.size 39 #[.string f.path, .string f.data] := ((Blk.new wr _ _).ext ((Kp.refl _ _).drew)).ext hx1
              have b0 : w1.cell? ⟨wr.heap.size, 0, none⟩ = some (.string f.path) := hBx.cell 0
              have b1 : w1.cell? ⟨wr.heap.size, 1, none⟩ = some (.string f.data) := hBx.cell 1
              have hxw : Ext w w1 := ((hx.alloc _).drew).trans hx1
              clear hBx
              go_wp2_with fail
              refine HK.out _ _ ?_
              clear HK
              repeat (go_big_quiet_step (fail))
              refine wpQuiet_nil ?_
              rintro _ ⟨nq, rfl⟩
              go_wp2_with fail
              have hT := (HO.out.take k (by omega)).kp ((((Kp.refl S wr).alloc _).drew).trans (hx1.mono fun _ _ _ => trivial) |>.drewN nq)
              have hlk : (xs.take k).length = k := by rw [List.length_take]; omega
              have hC := containsUnder_calls f.path wr.heap.size (some ⟨b, off, none⟩) c (xs.take k) S (w1.drewN nq) hT (by omega) (fun y hy => hp y (List.mem_of_mem_take hy)) (by simpa using b0) (by have := hx1.size; simp at this; simp; omega)
              rw [hlk] at hC
              refine hC.mono ?_
              clear hC hT
              rintro e w2 ⟨rfl, hx2⟩
              cases h5 : (xs.take k).any fun y => underB f.path y.path with
              | true =>
                go_wp2_with fail
                go_ret
                exact ⟨by rw [mayB_false h12 hok HS.out (by unfold badF; rw [h5]; simp)]; rfl, (hxw.drewN _).trans hx2⟩
              | false =>
                go_wp2_with fail
                go_roundw
                case rel => exact ⟨k + 1, by omega, by go_num, okFrom_next hok HS.out (by unfold badF; rw [h1, decide_eq_false h2, hor, h5]; rfl), (hxw.drewN _).trans hx2⟩
                case measure => simp [intOf]; omega
            · obtain ⟨m, hm⟩ : ∃ m, k = m + 1 := ⟨k - 1, by omega⟩
              have hd3 : decide ((0 : Int) < (k : Int)) = true := decide_eq_true (by omega)
              have hd3' : decide (0 < k) = true := decide_eq_true (by omega)
              have hw1 : IntKind.i64.wrap ((k : Int) - 1) = (m : Int) := by rw [IntWalk.i64_in _ (by omega)]; omega
              have hm0 : (0 : Int) ≤ (m : Int) := by omega
              have hm1 : (m : Int) < (xs.length : Int) := by omega
              have hmlt : m < xs.length := by omega
              obtain ⟨g, hg⟩ : ∃ g, xs[m] = g := ⟨_, rfl⟩
              have hor := orderB_succ xs f m hmlt
              rw [← hm, hg] at hor
              obtain ⟨b', off', he, _, hb', p0, p1⟩ := HO.out.rd.file hmlt
              cases he
              rw [hg] at p0
              have hbl : Op.bytesLess g.path.toList f.path.toList = ltB g.path f.path := rfl
              clear hm hg h3 p1
              cases h4 : ltB g.path f.path with
              | false =>
                rw [h4] at hbl hor
                go_wp2_with fail
                refine wp_region_seq_quiet 5 (by kernel_rfl) (by kernel_rfl) (by decide) fun K HK => ?_
                simp only [List.take_succ_cons, List.take_zero, List.drop_succ_cons, List.drop_zero] at HK ⊢
                change wpList _ _ _ _ _ (World.drew _)
                go_wp2_with fail
                refine (hPath _).mono ?_
                rintro e w1 ⟨rfl, hx1⟩
                have hBx : Blk w1 wr.heap.size 39 #[.string f.path, .string f.data] := ((Blk.new wr _ _).ext ((Kp.refl _ _).drew)).ext hx1
                have b0 : w1.cell? ⟨wr.heap.size, 0, none⟩ = some (.string f.path) := hBx.cell 0
                have b1 : w1.cell? ⟨wr.heap.size, 1, none⟩ = some (.string f.data) := hBx.cell 1
                have hxw : Ext w w1 := ((hx.alloc _).drew).trans hx1
                clear hBx
                have p0' := ((((Kp.refl All wr).alloc _).drew.trans hx1).cell (p := ⟨b, off + m * 2, none⟩) hb' trivial).trans p0
                go_wp2_with fail
                refine HK.out _ _ ?_
                clear HK
                repeat (go_big_quiet_step (fail))
                refine wpQuiet_nil ?_
                rintro _ ⟨nq, rfl⟩
                go_wp2_with fail
                go_ret
                exact ⟨by rw [mayB_false h12 hok HS.out (by unfold badF; rw [hor]; simp)]; rfl, hxw.drewN _⟩
              | true =>
                rw [h4] at hbl hor
                go_wp2_with fail
                refine wp_region_seq_quiet 5 (by kernel_rfl) (by kernel_rfl) (by decide) fun K HK => ?_
                simp only [List.take_succ_cons, List.take_zero, List.drop_succ_cons, List.drop_zero] at HK ⊢
                change wpList _ _ _ _ _ (World.drew _)
                go_wp2_with fail
                refine (hPath _).mono ?_
                rintro e w1 ⟨rfl, hx1⟩
                have hBx : Blk w1 wr.heap.size 39 #[.string f.path, .string f.data] := ((Blk.new wr _ _).ext ((Kp.refl _ _).drew)).ext hx1
                have b0 : w1.cell? ⟨wr.heap.size, 0, none⟩ = some (.string f.path) := hBx.cell 0
                have b1 : w1.cell? ⟨wr.heap.size, 1, none⟩ = some (.string f.data) := hBx.cell 1
                have hxw : Ext w w1 := ((hx.alloc _).drew).trans hx1
                clear hBx
                have p0' := ((((Kp.refl All wr).alloc _).drew.trans hx1).cell (p := ⟨b, off + m * 2, none⟩) hb' trivial).trans p0
                go_wp2_with fail
                refine HK.out _ _ ?_
                clear HK
                repeat (go_big_quiet_step (fail))
                refine wpQuiet_nil ?_
                rintro _ ⟨nq, rfl⟩
                go_wp2_with fail
                have hT := (HO.out.take k (by omega)).kp ((((Kp.refl S wr).alloc _).drew).trans (hx1.mono fun _ _ _ => trivial) |>.drewN nq)
                have hlk : (xs.take k).length = k := by rw [List.length_take]; omega
                have hC := containsUnder_calls f.path wr.heap.size (some ⟨b, off, none⟩) c (xs.take k) S (w1.drewN nq) hT (by omega) (fun y hy => hp y (List.mem_of_mem_take hy)) (by simpa using b0) (by have := hx1.size; simp at this; simp; omega)
                rw [hlk] at hC
                refine hC.mono ?_
                clear hC hT
                rintro e w2 ⟨rfl, hx2⟩
                cases h5 : (xs.take k).any fun y => underB f.path y.path with
                | true =>
                  go_wp2_with fail
                  go_ret
                  exact ⟨by rw [mayB_false h12 hok HS.out (by unfold badF; rw [h5]; simp)]; rfl, (hxw.drewN _).trans hx2⟩
                | false =>
                  go_wp2_with fail
                  go_roundw
                  case rel => exact ⟨k + 1, by omega, by go_num, okFrom_next hok HS.out (by unfold badF; rw [h1, decide_eq_false h2, hor, h5]; rfl), (hxw.drewN _).trans hx2⟩
                  case measure => simp [intOf]; omega
      · have hd2 : decide ((k : Int) < (xs.length : Int)) = false := decide_eq_false (by omega)
        have hkl : k = xs.length := by omega
        have htrue : mayB xs = true := by
          unfold mayB
          rw [hok, hkl, List.drop_length, decide_eq_true h12]; rfl
        go_wp2_with fail
        go_ret
        exact ⟨by rw [htrue]; rfl, hx⟩
  · have hd : decide ((12 : Int) < (xs.length : Int)) = true := decide_eq_true (by omega)
    go_enter Tryz.func28, Tryz.ntmps28
    go_wp2_with fail
    go_ret
    exact ⟨by unfold mayB; rw [decide_eq_false h12]; rfl, Kp.refl _ _⟩

end Go.Proofs.YtgjbfkaepalkiaaGreatDoor

namespace Go.Proofs.YtgjbfkaepalkiaaGreatDoor
open Go.RowKit
set_option linter.unusedVariables false
set_option linter.unusedSimpArgs false

/-- Numbers as elements. -/
def EI : El Int := ⟨fun x => [.int .i64 x], 1, fun _ => rfl, fun x u hu => by simp only [List.mem_cons, List.not_mem_nil, or_false] at hu; subst hu; rfl⟩
theorem tiI : TI EI Tryz.prog 40 3 8 :=
  TI.mk' (z := .int .i64 0) Tryz.underlying40 (by kernel_rfl) (by rfl) (by decide)
theorem RdA.num {S : Fp} {w : World} {A : Option Addr} {xs : List Int} (h : RdA EI S w A xs) {i : Nat} (hi : i < xs.length) :
    ∃ b off, A = some ⟨b, off, none⟩ ∧ S b ∧ b < w.heap.size ∧ w.cell? ⟨b, off + i, none⟩ = some (.int .i64 xs[i]) := by
  obtain ⟨b, off, hA, hs, hb, hc⟩ := h.at_ hi
  exact ⟨b, off, hA, hs, hb, by have := hc 0 _ rfl; simpa [EI] using this⟩

/-- A commit's value's parts. -/
structure KS where
  p : SliceV
  t : SliceV
  note : ByteArray
def KS.val (s : KS) : Value := .agg #[s.p.val, s.t.val, .string s.note]
def EK : El KS := ⟨fun s => [s.p.val, s.t.val, .string s.note], 3, fun _ => rfl, fun x u hu => by simp only [List.mem_cons, List.not_mem_nil, or_false] at hu; rcases hu with rfl | rfl | rfl <;> rfl⟩
theorem tiK : TI EK Tryz.prog 22 42 64 :=
  TI.mk' (z := .agg #[.slice none 0 0, .slice none 0 0, .string ⟨#[]⟩]) Tryz.underlying22 (by kernel_rfl) (by rfl) (by decide)
theorem RdA.kom {S : Fp} {w : World} {A : Option Addr} {xs : List KS} (h : RdA EK S w A xs) {i : Nat} (hi : i < xs.length) :
    ∃ b off, A = some ⟨b, off, none⟩ ∧ S b ∧ b < w.heap.size ∧ w.cell? ⟨b, off + i * 3, none⟩ = some xs[i].p.val ∧ w.cell? ⟨b, off + i * 3 + 1, none⟩ = some xs[i].t.val ∧ w.cell? ⟨b, off + i * 3 + 2, none⟩ = some (.string xs[i].note) := by
  obtain ⟨b, off, hA, hs, hb, hc⟩ := h.at_ hi
  exact ⟨b, off, hA, hs, hb, hc 0 _ rfl, hc 1 _ rfl, hc 2 _ rfl⟩

/-- A commit. -/
structure Cm where
  parents : List Int
  tree : List File
  note : ByteArray
/-- What a commit's value reads as. -/
structure RdC (S : Fp) (w : World) (s : KS) (c : Cm) : Prop where
  p : Rd EI S w s.p.val c.parents
  t : Rd EF S w s.t.val c.tree
  note : s.note = c.note
section
variable {S T : Fp} {w w' : World} {s : KS} {c : Cm} {n : Nat}
theorem RdC.kp (h : RdC S w s c) (hk : Kp S w w') : RdC S w' s c := ⟨h.p.kp hk, h.t.kp hk, h.note⟩
theorem RdC.ext (h : RdC S w s c) (hk : Ext w w') : RdC S w' s c := h.kp (hk.mono fun _ _ _ => trivial)
theorem RdC.wide (h : RdC S w s c) (hs : ∀ k, S k → T k) : RdC T w s c := ⟨h.p.wide hs, h.t.wide hs, h.note⟩
/-- A commit whose lists are of one's own, made since the heap had n blocks. -/
structure NewC (n : Nat) (w : World) (s : KS) (c : Cm) : Prop where
  p : New EI 3 n w s.p.val c.parents
  t : New EF 39 n w s.t.val c.tree
  note : s.note = c.note
theorem NewC.rd (h : NewC n w s c) : RdC (fun k => n ≤ k) w s c := ⟨h.p.rd, h.t.rd, h.note⟩
theorem NewC.ext (h : NewC n w s c) (hk : Ext w w') : NewC n w' s c := ⟨h.p.ext hk, h.t.ext hk, h.note⟩
theorem NewC.less {m : Nat} (h : NewC n w s c) (hm : m ≤ n) : NewC m w s c := ⟨h.p.less hm, h.t.less hm, h.note⟩
theorem NewC.kp (h : NewC n w s c) (hk : Kp S w w') (h1 : ∀ g, s.p.val.ownBlock = some g → S g) (h2 : ∀ g, s.t.val.ownBlock = some g → S g) : NewC n w' s c := ⟨h.p.kp hk h1, h.t.kp hk h2, h.note⟩
end

/-! ### Rows of commits -/
def RepK (S : Fp) (w : World) : List KS → List Cm → Prop
  | [], [] => True
  | s :: ss, c :: cs => RdC S w s c ∧ RepK S w ss cs
  | _, _ => False
theorem RepK.kp {S : Fp} {w w' : World} (hk : Kp S w w') : ∀ {ss : List KS} {cs : List Cm}, RepK S w ss cs → RepK S w' ss cs
  | [], [], _ => trivial
  | _ :: _, _ :: _, h => ⟨h.1.kp hk, RepK.kp hk h.2⟩
  | [], _ :: _, h => h.elim
  | _ :: _, [], h => h.elim
theorem RepK.wide {S T : Fp} {w : World} (hs : ∀ k, S k → T k) : ∀ {ss : List KS} {cs : List Cm}, RepK S w ss cs → RepK T w ss cs
  | [], [], _ => trivial
  | _ :: _, _ :: _, h => ⟨h.1.wide hs, RepK.wide hs h.2⟩
  | [], _ :: _, h => h.elim
  | _ :: _, [], h => h.elim
theorem RepK.ext {S : Fp} {w w' : World} (hk : Ext w w') {ss : List KS} {cs : List Cm} (h : RepK S w ss cs) : RepK S w' ss cs := h.kp (hk.mono fun _ _ _ => trivial)
theorem RepK.snoc {S : Fp} {w : World} {s : KS} {c : Cm} (hq : RdC S w s c) : ∀ {ss : List KS} {cs : List Cm}, RepK S w ss cs → RepK S w (ss ++ [s]) (cs ++ [c])
  | [], [], _ => ⟨hq, trivial⟩
  | _ :: _, _ :: _, h => ⟨h.1, RepK.snoc hq h.2⟩
  | [], _ :: _, h => h.elim
  | _ :: _, [], h => h.elim
theorem RepK.len {S : Fp} {w : World} : ∀ {ss : List KS} {cs : List Cm}, RepK S w ss cs → ss.length = cs.length
  | [], [], _ => rfl
  | _ :: _, _ :: _, h => by rw [List.length_cons, List.length_cons, RepK.len h.2]
  | [], _ :: _, h => h.elim
  | _ :: _, [], h => h.elim
theorem RepK.get {S : Fp} {w : World} : ∀ {ss : List KS} {cs : List Cm}, RepK S w ss cs → ∀ (i : Nat) (h1 : i < ss.length) (h2 : i < cs.length), RdC S w ss[i] cs[i]
  | [], [], _, i, h1, _ => by simp at h1
  | s :: ss, c :: cs, h, 0, _, _ => h.1
  | s :: ss, c :: cs, h, i + 1, h1, h2 => RepK.get h.2 i (by simpa using h1) (by simpa using h2)
  | [], _ :: _, h, _, _, _ => h.elim
  | _ :: _, [], h, _, _, _ => h.elim

/-! ### A repository -/
/-- A repository at block rb: its variable (a struct of type T) and its row of commits lie in blocks of D, its commits' lists in blocks of I, which is apart from D. -/
structure RepoX (T : TypeId) (I D : Fp) (w : World) (rb : Nat) (cs : List Cm) (room : Nat) : Prop where
  ex : ∃ lv rows, Blk w rb T #[lv, .int .i64 room] ∧ Own EK 42 w lv rows ∧ RepK I w rows cs ∧ D rb ∧ ∀ g, lv.ownBlock = some g → D g ∧ g ≠ rb
  apart : ∀ k, I k → ¬ D k
  li : ∀ k, I k → k < w.heap.size
  ld : ∀ k, D k → k < w.heap.size
section
variable {T : TypeId} {I D S : Fp} {w w' : World} {rb : Nat} {cs : List Cm} {room : Nat}
theorem RepoX.kp (h : RepoX T I D w rb cs room) (hk : Kp S w w') (h1 : ∀ k, D k → S k) (h2 : ∀ k, I k → S k) : RepoX T I D w' rb cs room := by
  obtain ⟨⟨lv, rows, a, b, c, d, e⟩, h3, h4, h5⟩ := h
  exact ⟨⟨lv, rows, a.kp hk (h1 _ d), b.kp hk fun g hg => h1 _ (e g hg).1, c.kp (hk.mono fun k _ hi => h2 k hi), d, e⟩, h3, fun k hk' => hk.lt (h4 k hk'), fun k hk' => hk.lt (h5 k hk')⟩
theorem RepoX.ext (h : RepoX T I D w rb cs room) (hx : Ext w w') : RepoX T I D w' rb cs room := h.kp hx (fun _ _ => trivial) fun _ _ => trivial
/-- What is read of it. -/
theorem RepoX.rd (h : RepoX T I D w rb cs room) : ∃ A c rows, Blk w rb T #[.slice A cs.length c, .int .i64 room] ∧ Opn EK All w A c rows ∧ RepK I w rows cs ∧ rows.length = cs.length := by
  obtain ⟨⟨lv, rows, a, b, c, d, e⟩, h3, h4, h5⟩ := h
  obtain ⟨A, cc, rfl, hO⟩ := (b.rd.wide (T := All) fun _ _ => trivial).open_
  have hl := c.len
  exact ⟨A, cc, rows, by rw [← hl]; exact a, hO, c, hl⟩
end

/-! ### Plain -/
def mayC (c : Cm) : Bool := mayB c.tree && (decide (c.parents.length ≤ 2) && (!(decide (c.parents.length = 2) && decide (c.parents[0]? = c.parents[1]?)) && decide (c.note.size ≤ 60)))
def sameC (a b : Cm) : Bool := decide (a.parents = b.parents) && (sameB a.tree b.tree && (a.note.toList == b.note.toList))
/-- The number of a commit that is just like one; 0: there is none. -/
def findC (cs : List Cm) (c : Cm) : Nat := match cs.findIdx? fun x => sameC x c with
  | some i => i + 1
  | none => 0
/-- What Add answers: the commits behind it, a number, an error's number. -/
def addC (cs : List Cm) (room : Nat) (c : Cm) : List Cm × Nat × Nat :=
  if mayC c = false then (cs, 0, 6)
  else if (c.parents.any fun p => decide (p < 1) || decide ((cs.length : Int) < p)) = true then (cs, 0, 7)
  else if 0 < findC cs c then (cs, findC cs c, 0)
  else if room ≤ cs.length then (cs, 0, 3)
  else (cs ++ [c], cs.length + 1, 0)

end Go.Proofs.YtgjbfkaepalkiaaGreatDoor
