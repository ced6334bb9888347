/-
  slices.Grow, slices.Concat at files.
-/
import Derived.Test.YtddooggkcdloeaaGreatDoorLend
import Derived.Lib.AppendZerosOnto
namespace Go.Proofs.YtddooggkcdloeaaGreatDoor
open Go.RowKit
set_option linter.unusedVariables false
set_option linter.unusedSimpArgs false
attribute [local go_sem] Oper.semAt_some

/-- A slice's value. -/
structure SliceV where
  a : Option Addr
  n : Nat
  c : Nat
def SliceV.val (s : SliceV) : Value := .slice s.a s.n s.c
def ESL : El SliceV := ⟨fun s => [s.val], 1, fun _ => rfl, fun x u hu => by simp only [List.mem_cons, List.not_mem_nil, or_false] at hu; subst hu; rfl⟩

/-- Each slice reads as its list. -/
inductive RdAll (S : Fp) (w : World) : List SliceV → List (List File) → Prop
  | nil : RdAll S w [] []
  | cons {s : SliceV} {xs : List File} {ss : List SliceV} {xss : List (List File)} (h : Rd EF S w s.val xs) (t : RdAll S w ss xss) : RdAll S w (s :: ss) (xs :: xss)
theorem RdAll.kp {S : Fp} {w w' : World} {ss : List SliceV} {xss : List (List File)} (h : RdAll S w ss xss) (hk : Kp S w w') : RdAll S w' ss xss := by
  induction h with
  | nil => exact .nil
  | cons h _ ih => exact .cons (h.kp hk) ih
theorem RdAll.length {S : Fp} {w : World} {ss : List SliceV} {xss : List (List File)} (h : RdAll S w ss xss) : ss.length = xss.length := by
  induction h with
  | nil => rfl
  | cons _ _ ih => simp [ih]
theorem RdAll.get {S : Fp} {w : World} {ss : List SliceV} {xss : List (List File)} (h : RdAll S w ss xss) : ∀ (k : Nat) (hk : k < ss.length) (hk' : k < xss.length), Rd EF S w ss[k].val xss[k] := by
  induction h with
  | nil => intro k hk; simp at hk
  | cons h _ ih =>
    intro k hk hk'
    cases k with
    | zero => exact h
    | succ k => exact ih k (by simpa using hk) (by simpa using hk')

set_option maxHeartbeats 400000 in
/-- slices.Grow, of nil. -/
theorem grow_calls (n : Nat) (w : World) (hb : n ≤ 100000) :
    Calls Tryz.prog 72 #[.slice none 0 0, .int .i64 n] w fun e w' => ∃ u, e = .returned u ∧ New EF 40 w.heap.size w' u [] ∧ Ext w w' := by
  by_cases h0 : n = 0
  · subst h0
    go_enter Tryz.func72, Tryz.ntmps72
    go_wp2_with fail
    go_ret
    exact ⟨_, rfl, New.nil _ _ _, Kp.refl _ _⟩
  · have hd : decide ((0 : Int) < (n : Int)) = true := decide_eq_true (by omega)
    have hd1 : decide (0 < n) = true := decide_eq_true (by omega)
    have hd2 : decide ((n : Int) < 0) = false := decide_eq_false (by omega)
    obtain ⟨i, z, hi, hz, hs, hby, hzs⟩ := (tiF).info
    have hs2 : i.size = 2 := hs
    have happ := fun ty => Lib.run_append_grow_zeros (P := Tryz.prog) w 22 3 ty 40 i z .i64 .i64 tiF.under Tryz.underlying3 hi hz none 0 0 [] (run_firstCells_none w.drew i.size 0 0 0) n (by omega) (by rw [hs2]; omega) (by omega) (by omega) (by rw [hby]; omega) (growslice_fits (by omega) (by rw [hby]; omega))
    simp only [Nat.zero_add] at happ
    have hgn : n ≤ grownCap w n 0 40 := grownCap_ge w _ _ _
    have hgm : grownCap w n 0 40 ≤ maxLen := grownCap_le_maxLen w _ _ _ (by unfold maxLen; omega)
    obtain ⟨G, hG⟩ : ∃ G, grownCap w n 0 40 = G := ⟨_, rfl⟩
    rw [hG] at happ hgn hgm
    obtain ⟨cs, hcs⟩ : ∃ cs, (([] : List Value).toArray ++ Builtin.zeroCells z.cells n ++ Builtin.zeroCells z.cells (G - n)) = cs := ⟨_, rfl⟩
    rw [hcs] at happ
    have hcz : cs.size = G * EF.sz := by
      rw [← hcs]
      simp only [Array.size_append, Builtin.zeroCells, Array.size_map, Array.size_range, hzs]
      show 0 + n * 2 + (G - n) * 2 = G * 2
      omega
    have h00 : (0 : Int) ≤ (n : Int) := by omega
    have HCZ := Lib.hid hcz
    have HAPP := Lib.hid happ
    clear h0 hi hz hs hby hzs hG hs2 hcs hcz happ
    go_enter Tryz.func72, Tryz.ntmps72
    go_wp2_with (at_builtin; refine Lib.wpList_append_run _ rfl _ _ _ _ rfl _ _ rfl rfl _ _ (HAPP.out _) ?_)
    go_ret
    refine ⟨_, rfl, ⟨⟨rfl, .inr ⟨w.heap.size, G, cs, rfl, Nat.zero_le _, heap_alloc_new w.drew _, Nat.zero_le _, hgm, HCZ.out, by simp [El.flat]⟩⟩, fun g hg => ?_⟩, ((Kp.refl _ w).drew.alloc _)⟩
    simp [Value.ownBlock] at hg; omega

theorem RdA.slice {S : Fp} {w : World} {A : Option Addr} {ss : List SliceV} (h : RdA ESL S w A ss) {i : Nat} (hi : i < ss.length) :
    ∃ b off, A = some ⟨b, off, none⟩ ∧ S b ∧ b < w.heap.size ∧ w.cell? ⟨b, off + i, none⟩ = some ss[i].val := by
  obtain ⟨b, off, hA, hs, hb, hc⟩ := h.at_ hi
  exact ⟨b, off, hA, hs, hb, by have := hc 0 _ rfl; simpa [ESL] using this⟩

def sumL (xss : List (List File)) : Nat := xss.flatten.length
theorem sumL_take (xss : List (List File)) (k : Nat) (hk : k < xss.length) : sumL (xss.take (k + 1)) = sumL (xss.take k) + xss[k].length := by
  unfold sumL
  rw [take_snoc xss hk, List.flatten_append, List.length_append]
  simp
theorem sumL_le (xss : List (List File)) (k : Nat) : sumL (xss.take k) ≤ sumL xss := by
  unfold sumL
  have : xss.flatten = (xss.take k).flatten ++ (xss.drop k).flatten := by rw [← List.flatten_append, List.take_append_drop]
  rw [this, List.length_append]; omega

set_option maxHeartbeats 400000 in
/-- slices.Concat. -/
theorem concat_calls (v : Value) (ss : List SliceV) (xss : List (List File)) (S : Fp) (w : World) (hV : Rd ESL S w v ss) (hA : RdAll S w ss xss) (hb : sumL xss ≤ 100000) :
    Calls Tryz.prog 48 #[v] w fun e w' => ∃ u, e = .returned u ∧ New EF 40 w.heap.size w' u xss.flatten ∧ Ext w w' := by
  obtain ⟨A, c, rfl, hO⟩ := hV.open_
  have hlen := hO.len
  have hl := hA.length
  obtain ⟨n, hn⟩ : ∃ n, ss.length = n := ⟨_, rfl⟩
  rw [hn] at hlen hV hl ⊢
  have HN := Lib.hid hn
  have HL := Lib.hid hl
  clear hn hl
  go_enter Tryz.func48, Tryz.ntmps48
  go_wp2_with fail
  go_loopw [3, 11] (fun q i wr => ∃ k : Nat, k ≤ n ∧ i = .int .i64 k ∧ q = .int .i64 (sumL (xss.take k) : Nat) ∧ w = wr) (fun _ i _ => n - (intOf i).toNat)
  case atStart => exact ⟨0, Nat.zero_le _, rfl, rfl, rfl⟩
  case round =>
    obtain ⟨k, hk, rfl, rfl, rfl⟩ := hrel
    by_cases hlt : k < n
    · have hd3 : decide ((k : Int) < (n : Int)) = true := decide_eq_true (by omega)
      have hkx : k < xss.length := by have := HL.out; omega
      have hks : k < ss.length := by have := HN.out; omega
      obtain ⟨b, off, rfl, _, hbl, c0⟩ := hO.rd.slice hks
      obtain ⟨a1, c1, hv1, hO1⟩ := (hA.get k hks hkx).open_
      have hsl := sumL_take xss k hkx
      have hle := sumL_le xss (k + 1)
      obtain ⟨m, hm⟩ : ∃ m, sumL (xss.take k) = m := ⟨_, rfl⟩
      obtain ⟨l, hl⟩ : ∃ l, xss[k].length = l := ⟨_, rfl⟩
      have hll := hO1.len
      rw [hv1, hl] at c0
      rw [hl] at hll
      rw [hm, hl] at hsl
      rw [hsl] at hle
      rw [hm]
      have hlt' : (k : Int) < (n : Int) := by omega
      have h0 : (0 : Int) ≤ (k : Int) := by omega
      have hw : IntKind.i64.wrap ((k : Int) + 1) = (k : Int) + 1 := IntWalk.i64_in _ (by omega)
      have hneg : decide ((m : Int) + (l : Int) < 0) = false := decide_eq_false (by omega)
      have HS := Lib.hid hsl
      clear hsl hm hl hv1
      go_wp2_with fail
      go_roundw
      case rel => exact ⟨k + 1, by omega, by go_num, by rw [HS.out]; go_num, trivial⟩
      case measure => simp [intOf]; omega
    · have hd3 : decide ((k : Int) < (n : Int)) = false := decide_eq_false (by omega)
      have hall : xss.take k = xss := List.take_of_length_le (by have := HL.out; omega)
      rw [hall]
      clear hall
      go_wp2_with (go_at_call 72; refine stop ?_)
      refine (grow_calls _ w hb).mono ?_
      rintro e w1 ⟨u, rfl, hN1, hx1⟩
      go_wp2_with fail
      go_loopw [6, 27] (fun o i wr => ∃ k : Nat, k ≤ n ∧ i = .int .i64 k ∧ New EF 40 w.heap.size wr o (xss.take k).flatten ∧ Ext w wr) (fun _ i _ => n - (intOf i).toNat)
      case atStart => exact ⟨0, Nat.zero_le _, rfl, hN1, hx1⟩
      case round =>
        obtain ⟨k2, hk2, rfl, hN, hx⟩ := hrel
        rename World => wo
        by_cases hlt2 : k2 < n
        · have hd4 : decide ((k2 : Int) < (n : Int)) = true := decide_eq_true (by omega)
          have hkx : k2 < xss.length := by have := HL.out; omega
          have hks : k2 < ss.length := by have := HN.out; omega
          obtain ⟨b, off, rfl, _, hbl, c0⟩ := (hO.kp (hx.mono fun _ _ _ => trivial)).rd.slice hks
          have hRd := (hA.kp (hx.mono fun _ _ _ => trivial)).get k2 hks hkx
          obtain ⟨a1, c1, hv1, hO1⟩ := hRd.open_
          have hfl : (xss.take (k2 + 1)).flatten = (xss.take k2).flatten ++ xss[k2] := by rw [take_snoc xss hkx, List.flatten_append]; simp
          have hle1 : sumL (xss.take (k2 + 1)) = sumL (xss.take k2) + xss[k2].length := sumL_take xss k2 hkx
          have hle2 := sumL_le xss (k2 + 1)
          have hle : (xss.take k2).flatten.length + xss[k2].length ≤ 100000 := by unfold sumL at hle1 hle2 hb; omega
          obtain ⟨l, hl⟩ : ∃ l, xss[k2] = l := ⟨_, rfl⟩
          rw [hv1] at c0 hRd
          rw [hl] at c0 hRd hle hfl
          have hlt' : (k2 : Int) < (n : Int) := by omega
          have h0 : (0 : Int) ≤ (k2 : Int) := by omega
          have hw : IntKind.i64.wrap ((k2 : Int) + 1) = (k2 : Int) + 1 := IntWalk.i64_in _ (by omega)
          have HF := Lib.hid hfl
          have HLE := Lib.hid hle
          clear hfl hle hle1 hle2 hl hv1 hO1
          go_wp2_with (at_builtin; refine stop ?_)
          refine list_append (v := u6) (u := .slice a1 l.length c1) (ys := l) tiF rfl rfl rfl rfl hN.1 hRd (by have := HLE.out; omega) (by have := HLE.out; unfold maxLen; omega) ?_
          intro v' w' hO' hK' hB'
          obtain ⟨hN', hx'⟩ := hN.grow hx (Kp.refl _ wo) hO' hK' hB'
          obtain ⟨A', n', c', rfl⟩ := hN'.1.slice
          clear c0
          go_wp2_with fail
          go_roundw
          case rel => exact ⟨k2 + 1, by omega, by go_num, by rw [HF.out]; exact hN', hx'⟩
          case measure => simp [intOf]; omega
        · have hd4 : decide ((k2 : Int) < (n : Int)) = false := decide_eq_false (by omega)
          have hall : xss.take k2 = xss := List.take_of_length_le (by have := HL.out; omega)
          rw [hall] at hN
          clear hall
          obtain ⟨A', n', c', rfl⟩ := hN.1.slice
          go_wp2_with fail
          go_ret
          exact ⟨_, rfl, hN, hx⟩

end Go.Proofs.YtddooggkcdloeaaGreatDoor
