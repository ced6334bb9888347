/-
  join.under.
-/
import Derived.Test.YtddooggkcdloeaaGreatDoorJoin0
namespace Go.Proofs.YtddooggkcdloeaaGreatDoor
open Go.RowKit
set_option linter.unusedVariables false
set_option linter.unusedSimpArgs false
attribute [local go_sem] Oper.semAt_some

theorem indexUnderJ_calls (f : File) (fb : Nat) (A : Option Addr) (c : Nat) (ys : List File) (S : Fp) (w : World) (hO : Opn EF S w A c ys) (hn : ys.length ≤ 1000000) (hp : ∀ y ∈ ys, y.path.size ≤ 1000000) (hfb : w.cell? ⟨fb, 0, none⟩ = some (.string f.path)) (hl : fb < w.heap.size) :
    Calls Tryz.prog 70 #[.slice A ys.length c, .func (.func 59) #[] #[.pointer (some ⟨fb, 0, none⟩)]] w fun e w' => (∃ r : Int, e = .returned (.int .i64 r) ∧ decide (r ≥ 0) = ys.any fun y => underB f.path y.path) ∧ Ext w w' := by
  go_enter Tryz.func70, Tryz.ntmps70
  go_wp2_with fail
  go_loopw [8] (fun i wr => ∃ k : Nat, k ≤ ys.length ∧ i = .int .i64 k ∧ ((ys.take k).any fun y => underB f.path y.path) = false ∧ Ext w wr) (fun i _ => ys.length - (intOf i).toNat)
  case atStart => exact ⟨0, Nat.zero_le _, rfl, by simp, Kp.refl _ _⟩
  case round =>
    obtain ⟨k, hk, rfl, hno, hx⟩ := hrel
    rename_i wr
    by_cases hlt : k < ys.length
    · have hd : decide ((k : Int) < (ys.length : Int)) = true := decide_eq_true (by omega)
      obtain ⟨b, off, rfl, _, hb, c0, c1⟩ := (hO.rd.kp (hx.mono fun _ _ _ => trivial)).file hlt
      have hlt' : (k : Int) < (ys.length : Int) := by omega
      have h0 : (0 : Int) ≤ (k : Int) := by omega
      have hw : IntKind.i64.wrap ((k : Int) + 1) = (k : Int) + 1 := IntWalk.i64_in _ (by omega)
      have hsn : ((ys.take (k + 1)).any fun y => underB f.path y.path) = underB f.path ys[k].path := by rw [take_snoc ys hlt, List.any_append, hno]; simp only [List.any_cons, List.any_nil, Bool.or_false, Bool.false_or]
      have hcl := underJ1_calls f ys[k] fb wr (hp _ (List.getElem_mem hlt)) ((hx.cell (p := ⟨fb, 0, none⟩) hl trivial).trans hfb) (hx.lt hl)
      cases ho : underB f.path ys[k].path with
      | true =>
        rw [ho] at hsn hcl
        go_wp2_with (go_at_call 59; refine stop ?_)
        refine hcl.mono ?_
        rintro e w' ⟨rfl, hx'⟩
        clear hcl
        go_wp2_with fail
        go_ret
        refine ⟨⟨(k : Int), rfl, ?_⟩, hx.trans hx'⟩
        rw [decide_eq_true (by omega : (k : Int) ≥ 0)]
        have : ((ys.take (k + 1)).any fun y => underB f.path y.path) = true → (ys.any fun y => underB f.path y.path) = true := by
          intro h
          obtain ⟨y, hy, hy'⟩ := List.any_eq_true.1 h
          exact List.any_eq_true.2 ⟨y, List.mem_of_mem_take hy, hy'⟩
        exact (this hsn).symm
      | false =>
        rw [ho] at hsn hcl
        go_wp2_with (go_at_call 59; refine stop ?_)
        refine hcl.mono ?_
        rintro e w' ⟨rfl, hx'⟩
        clear hcl
        go_wp2_with fail
        go_roundw
        case rel => exact ⟨k + 1, by omega, by go_num, hsn, hx.trans hx'⟩
        case measure => simp [intOf]; omega
    · have hd : decide ((k : Int) < (ys.length : Int)) = false := decide_eq_false (by omega)
      have hkl : k = ys.length := by omega
      subst hkl
      rw [List.take_length] at hno
      go_wp2_with fail
      go_ret
      exact ⟨⟨-1, rfl, by rw [hno]; rfl⟩, hx⟩

theorem containsUnderJ_calls (f : File) (fb : Nat) (A : Option Addr) (c : Nat) (ys : List File) (S : Fp) (w : World) (hO : Opn EF S w A c ys) (hn : ys.length ≤ 1000000) (hp : ∀ y ∈ ys, y.path.size ≤ 1000000) (hfb : w.cell? ⟨fb, 0, none⟩ = some (.string f.path)) (hl : fb < w.heap.size) :
    Calls Tryz.prog 44 #[.slice A ys.length c, .func (.func 59) #[] #[.pointer (some ⟨fb, 0, none⟩)]] w fun e w' => e = .returned (.bool (ys.any fun y => underB f.path y.path)) ∧ Ext w w' := by
  go_enter Tryz.func44, Tryz.ntmps44
  have HI := indexUnderJ_calls f fb A c ys S w hO hn hp hfb hl
  clear hO hp
  go_wp2_with fail
  refine HI.mono ?_
  rintro e w' ⟨⟨r, rfl, hr⟩, hx⟩
  have hr' : decide ((0 : Int) ≤ r) = ys.any fun y => underB f.path y.path := hr
  cases ha : (ys.any fun y => underB f.path y.path) with
  | true =>
    rw [ha] at hr'
    go_wp2_with fail
    go_ret
    exact ⟨by rw [ha]; rfl, hx⟩
  | false =>
    rw [ha] at hr'
    go_wp2_with fail
    go_ret
    exact ⟨by rw [ha]; rfl, hx⟩

/-- Under another one of them, of the first k. -/
def underK (t : List File) (k : Nat) : List ByteArray := ((t.take k).filter fun f => t.any fun g => underB f.path g.path).map File.path
theorem underK_snoc (t : List File) (k : Nat) (hk : k < t.length) : underK t (k + 1) = underK t k ++ if (t.any fun g => underB t[k].path g.path) = true then [t[k].path] else [] := by
  unfold underK
  rw [take_snoc t hk, List.filter_append, List.map_append]
  cases h : (t.any fun g => underB t[k].path g.path) <;> simp [h]

set_option maxHeartbeats 1000000 in
/-- join.under. -/
theorem underL_calls (v : Value) (t : List File) (S : Fp) (w : World) (hR : Rd EF S w v t) (hn : t.length ≤ 3000) (hp : ∀ y ∈ t, y.path.size ≤ 1000000) :
    Calls Tryz.prog 33 #[v] w fun e w' => ∃ u, e = .returned u ∧ New ES 9 w.heap.size w' u (underF t) ∧ Ext w w' := by
  obtain ⟨A, c, rfl, hO⟩ := hR.open_
  obtain ⟨n, hl⟩ : ∃ n, t.length = n := ⟨_, rfl⟩
  rw [hl] at hn ⊢
  have HN := Lib.hid hl
  have HP := Lib.hid hp
  have HO := Lib.hid fun W (hW : Ext w W) => hO.kp (hW.mono fun _ _ _ => trivial)
  clear hR hl hp hO
  go_enter Tryz.func33, Tryz.ntmps33
  go_wp2_with fail
  go_loopw [3, 8] (fun o i wr => ∃ k : Nat, k ≤ n ∧ i = .int .i64 k ∧ New ES 9 w.heap.size wr o (underK t k) ∧ Ext w wr) (fun _ i _ => n - (intOf i).toNat)
  case atStart => exact ⟨0, Nat.zero_le _, rfl, by simpa [underK] using New.nil _ _ _, Kp.refl _ _⟩
  case round =>
    obtain ⟨k, hk, rfl, hN, hx⟩ := hrel
    rename World => wo
    by_cases hlt : k < n
    · have hd : decide ((k : Int) < (n : Int)) = true := decide_eq_true (by omega)
      have hkt : k < t.length := by have := HN.out; omega
      obtain ⟨b, off, rfl, _, hb, c0, c1⟩ := (HO.out wo hx).rd.file hkt
      have hsn := underK_snoc t k hkt
      have hul : (underK t k).length ≤ 3000 := by
        unfold underK
        rw [List.length_map]
        exact Nat.le_trans (List.length_filter_le _ _) (by rw [List.length_take]; omega)
      have HUL := Lib.hid hul
      obtain ⟨f, hf⟩ : ∃ f, t[k] = f := ⟨_, rfl⟩
      rw [hf] at c0 c1 hsn
      have hHC := fun W (hW : Ext w W) (fb : Nat) (h1 : W.cell? ⟨fb, 0, none⟩ = some (.string f.path)) (h2 : fb < W.heap.size) => containsUnderJ_calls f fb _ c t S W (HO.out W hW) (by have := HN.out; omega) HP.out h1 h2
      rw [HN.out] at hHC
      have HS := Lib.hid hsn
      have HC := Lib.hid hHC
      obtain ⟨A', n', c', hv'⟩ := hN.1.slice
      subst hv'
      have hlt' : (k : Int) < (n : Int) := by omega
      have h0 : (0 : Int) ≤ (k : Int) := by omega
      have hw : IntKind.i64.wrap ((k : Int) + 1) = (k : Int) + 1 := IntWalk.i64_in _ (by omega)
      clear hkt hsn hul hHC hf
      obtain ⟨fp, fd⟩ := f
      dsimp only at c0 c1
      go_wp2_with fail
      have hxa : Ext wo (wo.alloc (.cells #[.string fp, .string fd] 40)) := (Kp.refl _ wo).alloc _
      have hB := Blk.new wo 40 #[.string fp, .string fd]
      refine (HC.out _ (hx.trans hxa) wo.heap.size (hB.cell 0) hB.lt).mono ?_
      rintro e w3 ⟨rfl, hx3⟩
      obtain ⟨u, hu⟩ : ∃ u, (t.any fun y => underB fp y.path) = u := ⟨_, rfl⟩
      have HS' : Hid (underK t (k + 1) = underK t k ++ if u = true then [fp] else []) := Lib.hid (by rw [← hu]; exact HS.out)
      rw [show (t.any fun y => underB (⟨fp, fd⟩ : File).path y.path) = u from hu]
      have hB3 := hB.ext hx3
      have d0 : w3.cell? ⟨wo.heap.size, 0, none⟩ = some (.string fp) := hB3.cell 0
      have hxw := (hx.trans hxa).trans hx3
      have hN3 := (hN.ext hxa).ext hx3
      clear hu HS HC hB hB3 hx hx3 hxa hN c0 c1
      cases u with
      | true =>
        go_wp2_with (at_builtin; refine stop ?_)
        refine list_append1 (u := .slice (some ⟨w3.heap.size, 0, none⟩) 1 1) tiS fp rfl rfl rfl hN3 hxw rfl rfl rfl (by have := HUL.out; omega) (by have := HUL.out; unfold maxLen; omega) ?_
        intro v' w' hN' hx'
        obtain ⟨A2, n2, c2, hv2⟩ := hN'.1.slice
        subst hv2
        clear d0 hN3 hxw
        go_wp2_with fail
        go_roundw
        case rel => exact ⟨k + 1, by omega, by go_num, by rw [HS'.out]; exact hN', hx'⟩
        case measure => simp [intOf]; omega
      | false =>
        go_wp2_with fail
        go_roundw
        case rel => exact ⟨k + 1, by omega, by go_num, by rw [HS'.out]; simpa using hN3, hxw⟩
        case measure => simp [intOf]; omega
    · have hd : decide ((k : Int) < (n : Int)) = false := decide_eq_false (by omega)
      have hall : underK t k = underF t := by
        unfold underK underF
        rw [List.take_of_length_le (by have := HN.out; omega)]
      rw [hall] at hN
      clear hall
      go_wp2_with fail
      go_ret
      exact ⟨_, rfl, hN, hx⟩

end Go.Proofs.YtddooggkcdloeaaGreatDoor
