/-
  patch.Of.
-/
import Derived.Test.YtinafpbdlblcaaaDoorChange
namespace Go.Proofs.YtinafpbdlblcaaaDoor
open Go.RowKit
set_option linter.unusedVariables false
set_option linter.unusedSimpArgs false
attribute [local go_sem] Oper.semAt_some

def chg (a b : List File) (p : ByteArray) : Ch := ⟨p, (getF a p).isSome, (getF b p).isSome, getD a p, getD b p⟩
def diffB (c : Ch) : Bool := !(c.was == c.is) || !(c.old.toList == c.new.toList)
def ofL (a b : List File) (ps : List ByteArray) : List Ch := (ps.map (chg a b)).filter diffB
def ofF (a b : List File) : List Ch := ofL a b (riseT (flatP [a, b]))
theorem ofL_snoc (a b : List File) (ps : List ByteArray) (p : ByteArray) : ofL a b (ps ++ [p]) = ofL a b ps ++ if diffB (chg a b p) then [chg a b p] else [] := by
  unfold ofL
  rw [List.map_append, List.filter_append]
  cases h : diffB (chg a b p) <;> simp [h]
theorem tiC : TI EC Tryd.prog 51 57 56 :=
  TI.mk' (z := .agg #[.string ⟨#[]⟩, .bool false, .bool false, .string ⟨#[]⟩, .string ⟨#[]⟩]) Tryd.underlying51 (by kernel_rfl) (by rfl) (by decide)

/-- Two slices that were built just now. -/
theorem built2 (W : World) (t : TypeId) (s1 s2 : SliceV) : Rd ESL (fun k => W.heap.size ≤ k) (W.alloc (.cells #[s1.val, s2.val] t)) (.slice (some ⟨W.heap.size, 0, none⟩) 2 2) [s1, s2] :=
  (New.made (E := ESL) W t [s1, s2] (by simp [maxLen])).rd

set_option maxHeartbeats 800000 in
set_option maxRecDepth 100000 in
/-- patch.Of. -/
theorem of_patch_calls (v u : Value) (xs ys : List File) (S T : Fp) (w : World) (hR : Rd EF S w v xs) (hR' : Rd EF T w u ys) (hb : xs.length ≤ 1000) (hb' : ys.length ≤ 1000) :
    Calls Tryd.prog 35 #[v, u] w fun e w' => ∃ r, e = .returned r ∧ New EC 57 w.heap.size w' r (ofF xs ys) ∧ Ext w w' := by
  obtain ⟨A1, c1, rfl, hO1⟩ := hR.open_
  obtain ⟨A2, c2, rfl, hO2⟩ := hR'.open_
  obtain ⟨n1, hn1⟩ : ∃ n, xs.length = n := ⟨_, rfl⟩
  obtain ⟨n2, hn2⟩ : ∃ n, ys.length = n := ⟨_, rfl⟩
  rw [hn1] at hR hb ⊢
  rw [hn2] at hR' hb' ⊢
  have H1 := Lib.hid hn1
  have H2 := Lib.hid hn2
  clear hn1 hn2 hO1 hO2
  go_enter Tryd.func35, Tryd.ntmps35
  go_wp2_with (go_at_call 21; refine stop ?_)
  have hA : ∀ W, Ext w W → RdAll (fun _ => True) W [⟨A1, n1, c1⟩, ⟨A2, n2, c2⟩] [xs, ys] := fun W hW => .cons ((hR.kp (hW.mono fun _ _ _ => trivial)).wide fun _ _ => trivial) (.cons ((hR'.kp (hW.mono fun _ _ _ => trivial)).wide fun _ _ => trivial) .nil)
  have hsum : sumL [xs, ys] ≤ 100000 := by simp only [sumL, List.flatten_cons, List.flatten_nil, List.append_nil, List.length_append]; rw [H1.out, H2.out]; omega
  refine (paths_calls _ _ _ _ _ ((built2 w 22 ⟨A1, n1, c1⟩ ⟨A2, n2, c2⟩).wide fun _ _ => trivial) (hA _ ((Kp.refl _ w).alloc _)) hsum).mono ?_
  rintro e w1 ⟨r1, rfl, hN1, hx1'⟩
  have hx1 : Ext w w1 := ((Kp.refl _ w).alloc _).trans hx1'
  rw [pathsF_rise] at hN1
  have hpl : (riseT (flatP [xs, ys])).length ≤ 2000 := Nat.le_trans (riseT_length _) (by
    unfold flatP
    simp only [List.length_map, List.flatten_cons, List.flatten_nil, List.append_nil, List.length_append]; rw [H1.out, H2.out]; omega)
  obtain ⟨ps, hps⟩ : ∃ ps, riseT (flatP [xs, ys]) = ps := ⟨_, rfl⟩
  rw [hps] at hN1 hpl
  have HPS : Hid (ofF xs ys = ofL xs ys ps) := Lib.hid (by unfold ofF; rw [hps])
  obtain ⟨A, c, hr1, hO⟩ := hN1.rd.open_
  subst hr1
  obtain ⟨n, hn⟩ : ∃ n, ps.length = n := ⟨_, rfl⟩
  rw [hn] at hpl hN1 ⊢
  have HN := Lib.hid hn
  clear hps hx1' hA hsum hn
  go_wp2_with fail
  go_loopw [5, 14] (fun o i wr => ∃ k : Nat, k ≤ n ∧ i = .int .i64 k ∧ New EC 57 w1.heap.size wr o (ofL xs ys (ps.take k)) ∧ Ext w1 wr) (fun _ i _ => n - (intOf i).toNat)
  case atStart => exact ⟨0, Nat.zero_le _, rfl, New.nil _ _ _, Kp.refl _ _⟩
  case round =>
    obtain ⟨k, hk, rfl, hN, hxp⟩ := hrel
    rename World => wo
    have hx : Ext w wo := hx1.trans hxp
    by_cases hlt : k < n
    · have hd3 : decide ((k : Int) < (n : Int)) = true := decide_eq_true (by omega)
      have hkp : k < ps.length := by have := HN.out; omega
      obtain ⟨b, off, rfl, _, hbl, c0⟩ := (hO.kp (hxp.mono fun _ _ _ => trivial)).rd.text hkp
      obtain ⟨p, hp⟩ : ∃ p, ps[k] = p := ⟨_, rfl⟩
      have hsn : ofL xs ys (ps.take (k + 1)) = ofL xs ys (ps.take k) ++ if diffB (chg xs ys p) then [chg xs ys p] else [] := by rw [take_snoc ps hkp, ofL_snoc, hp]
      have hol : (ofL xs ys (ps.take k)).length ≤ 2000 := by
        unfold ofL
        refine Nat.le_trans (List.length_filter_le _ _) ?_
        rw [List.length_map, List.length_take]; omega
      obtain ⟨ol, holq⟩ : ∃ ol, ofL xs ys (ps.take k) = ol := ⟨_, rfl⟩
      rw [hp] at c0
      rw [holq] at hN hsn hol
      have hlt' : (k : Int) < (n : Int) := by omega
      have h0 : (0 : Int) ≤ (k : Int) := by omega
      have hw : IntKind.i64.wrap ((k : Int) + 1) = (k : Int) + 1 := IntWalk.i64_in _ (by omega)
      have HS := Lib.hid hsn
      have HOL := Lib.hid hol
      have hwo := hx.size
      clear hsn hp holq hol
      go_wp2_with (go_at_call 14; refine stop ?_)
      refine (get_calls (.slice A1 n1 c1) p xs (fun _ => True) _ ((hR.kp ((hx.alloc _).mono fun _ _ _ => trivial)).wide fun _ _ => trivial) (by rw [H1.out]; omega)).mono ?_
      rintro e w3 ⟨rfl, hx3⟩
      obtain ⟨g1, hg1⟩ : ∃ g, (getF xs p).isSome = g := ⟨_, rfl⟩
      obtain ⟨d1, hd1⟩ : ∃ d, getD xs p = d := ⟨_, rfl⟩
      rw [hg1, hd1]
      have HG1 := Lib.hid hg1
      have HD1 := Lib.hid hd1
      have hB3 : Blk w3 wo.heap.size 57 #[.string p, .bool false, .bool false, .string ⟨#[]⟩, .string ⟨#[]⟩] := (Blk.new wo 57 #[.string p, .bool false, .bool false, .string ⟨#[]⟩, .string ⟨#[]⟩]).ext hx3
      have hxx3 : Ext wo w3 := ((Kp.refl _ wo).alloc _).trans hx3
      have e1 : w3.cell? ⟨wo.heap.size, 1, none⟩ = some (.bool false) := hB3.cell 1
      have e3 : w3.cell? ⟨wo.heap.size, 3, none⟩ = some (.string ⟨#[]⟩) := hB3.cell 3
      have f1 := hB3.frozen 1
      have f3 := hB3.frozen 3
      clear hg1 hd1 c0 hx3
      go_wp2_with (go_at_call 14; refine stop ?_)
      have hxx4 : Ext wo ((w3.setCell ⟨wo.heap.size, 3, none⟩ (.string d1)).setCell ⟨wo.heap.size, 1, none⟩ (.bool g1)) := (hxx3.setCell (.inl (Nat.le_refl _)) _).setCell (.inl (Nat.le_refl _)) _
      have hB4 : Blk ((w3.setCell ⟨wo.heap.size, 3, none⟩ (.string d1)).setCell ⟨wo.heap.size, 1, none⟩ (.bool g1)) wo.heap.size 57 #[.string p, .bool g1, .bool false, .string d1, .string ⟨#[]⟩] := (hB3.set_ 3 (.string d1)).set_ 1 (.bool g1)
      generalize ((w3.setCell ⟨wo.heap.size, 3, none⟩ (.string d1)).setCell ⟨wo.heap.size, 1, none⟩ (.bool g1)) = w4 at hxx4 hB4 ⊢
      refine (get_calls (.slice A2 n2 c2) p ys (fun _ => True) _ ((hR'.kp ((hx.trans hxx4).mono fun _ _ _ => trivial)).wide fun _ _ => trivial) (by rw [H2.out]; omega)).mono ?_
      rintro e w5 ⟨rfl, hx5⟩
      obtain ⟨g2, hg2⟩ : ∃ g, (getF ys p).isSome = g := ⟨_, rfl⟩
      obtain ⟨d2, hd2⟩ : ∃ d, getD ys p = d := ⟨_, rfl⟩
      rw [hg2, hd2]
      have HG2 := Lib.hid hg2
      have HD2 := Lib.hid hd2
      have HCH : Hid (chg xs ys p = ⟨p, g1, g2, d1, d2⟩) := Lib.hid (by unfold chg; rw [HG1.out, HD1.out, hg2, hd2])
      have hB5 := hB4.ext hx5
      have hxx5 : Ext wo w5 := hxx4.trans hx5
      have j0 : w5.cell? ⟨wo.heap.size, 0, none⟩ = some (.string p) := hB5.cell 0
      have j1 : w5.cell? ⟨wo.heap.size, 1, none⟩ = some (.bool g1) := hB5.cell 1
      have j3 : w5.cell? ⟨wo.heap.size, 3, none⟩ = some (.string d1) := hB5.cell 3
      have j2 : w5.cell? ⟨wo.heap.size, 2, none⟩ = some (.bool false) := hB5.cell 2
      have j4 : w5.cell? ⟨wo.heap.size, 4, none⟩ = some (.string ⟨#[]⟩) := hB5.cell 4
      have q2 := hB5.frozen 2
      have q4 := hB5.frozen 4
      have hB6 : Blk ((w5.setCell ⟨wo.heap.size, 4, none⟩ (.string d2)).setCell ⟨wo.heap.size, 2, none⟩ (.bool g2)) wo.heap.size 57 #[.string p, .bool g1, .bool g2, .string d1, .string d2] := (hB5.set_ 4 (.string d2)).set_ 2 (.bool g2)
      have hxx6 : Ext wo ((w5.setCell ⟨wo.heap.size, 4, none⟩ (.string d2)).setCell ⟨wo.heap.size, 2, none⟩ (.bool g2)) := (hxx5.setCell (.inl (Nat.le_refl _)) _).setCell (.inl (Nat.le_refl _)) _
      have hN6 := hN.ext hxx6
      have hxw6 : Ext w1 ((w5.setCell ⟨wo.heap.size, 4, none⟩ (.string d2)).setCell ⟨wo.heap.size, 2, none⟩ (.bool g2)) := hxp.trans hxx6
      clear hg2 hd2 e1 e3 f1 f3 hB3 hxx3 hB4 hB5 hx5
      obtain ⟨A0, m0, k0, hv0⟩ := hN.1.slice
      subst hv0
      have HDE : True := trivial
      clear HG1 HG2 HD1 HD2
      cases g1 with
      | true =>
        cases g2 with
        | true =>
          cases hde : (d1.toList == d2.toList) with
          | false =>
            go_wp2_with (at_builtin; refine stop ?_)
            refine list_append1 (u := .slice (some ⟨w5.heap.size, 0, none⟩) 1 1) tiC ⟨p, true, true, d1, d2⟩ rfl rfl rfl hN6 hxw6 (by simp) rfl rfl (by have := HOL.out; omega) (by have := HOL.out; unfold maxLen; omega) ?_
            intro v' w' hN' hx'
            obtain ⟨A', n', c', hv'⟩ := hN'.1.slice
            subst hv'
            clear j0 j1 j2 j3 j4 q2 q4
            go_wp2_with fail
            go_roundw
            case rel => exact ⟨k + 1, by omega, by go_num, by rw [HS.out, HCH.out, show diffB ⟨p, true, true, d1, d2⟩ = true from by unfold diffB; rw [hde]; rfl]; exact hN', hx'⟩
            case measure => simp [intOf]; omega
          | true =>
            go_wp2_with fail
            go_roundw
            case rel => exact ⟨k + 1, by omega, by go_num, by rw [HS.out, HCH.out, show diffB ⟨p, true, true, d1, d2⟩ = false from by unfold diffB; rw [hde]; rfl]; simpa using hN6, hxw6⟩
            case measure => simp [intOf]; omega
        | false =>
          go_wp2_with (at_builtin; refine stop ?_)
          refine list_append1 (u := .slice (some ⟨w5.heap.size, 0, none⟩) 1 1) tiC ⟨p, true, false, d1, d2⟩ rfl rfl rfl hN6 hxw6 (by simp) rfl rfl (by have := HOL.out; omega) (by have := HOL.out; unfold maxLen; omega) ?_
          intro v' w' hN' hx'
          obtain ⟨A', n', c', hv'⟩ := hN'.1.slice
          subst hv'
          clear j0 j1 j2 j3 j4 q2 q4
          go_wp2_with fail
          go_roundw
          case rel => exact ⟨k + 1, by omega, by go_num, by rw [HS.out, HCH.out, show diffB ⟨p, true, false, d1, d2⟩ = true from rfl]; exact hN', hx'⟩
          case measure => simp [intOf]; omega
      | false =>
        cases g2 with
        | true =>
          go_wp2_with (at_builtin; refine stop ?_)
          refine list_append1 (u := .slice (some ⟨w5.heap.size, 0, none⟩) 1 1) tiC ⟨p, false, true, d1, d2⟩ rfl rfl rfl hN6 hxw6 (by simp) rfl rfl (by have := HOL.out; omega) (by have := HOL.out; unfold maxLen; omega) ?_
          intro v' w' hN' hx'
          obtain ⟨A', n', c', hv'⟩ := hN'.1.slice
          subst hv'
          clear j0 j1 j2 j3 j4 q2 q4
          go_wp2_with fail
          go_roundw
          case rel => exact ⟨k + 1, by omega, by go_num, by rw [HS.out, HCH.out, show diffB ⟨p, false, true, d1, d2⟩ = true from rfl]; exact hN', hx'⟩
          case measure => simp [intOf]; omega
        | false =>
          cases hde : (d1.toList == d2.toList) with
          | false =>
            go_wp2_with (at_builtin; refine stop ?_)
            refine list_append1 (u := .slice (some ⟨w5.heap.size, 0, none⟩) 1 1) tiC ⟨p, false, false, d1, d2⟩ rfl rfl rfl hN6 hxw6 (by simp) rfl rfl (by have := HOL.out; omega) (by have := HOL.out; unfold maxLen; omega) ?_
            intro v' w' hN' hx'
            obtain ⟨A', n', c', hv'⟩ := hN'.1.slice
            subst hv'
            clear j0 j1 j2 j3 j4 q2 q4
            go_wp2_with fail
            go_roundw
            case rel => exact ⟨k + 1, by omega, by go_num, by rw [HS.out, HCH.out, show diffB ⟨p, false, false, d1, d2⟩ = true from by unfold diffB; rw [hde]; rfl]; exact hN', hx'⟩
            case measure => simp [intOf]; omega
          | true =>
            go_wp2_with fail
            go_roundw
            case rel => exact ⟨k + 1, by omega, by go_num, by rw [HS.out, HCH.out, show diffB ⟨p, false, false, d1, d2⟩ = false from by unfold diffB; rw [hde]; rfl]; simpa using hN6, hxw6⟩
            case measure => simp [intOf]; omega
    · have hd3 : decide ((k : Int) < (n : Int)) = false := decide_eq_false (by omega)
      have hall : ps.take k = ps := List.take_of_length_le (by have := HN.out; omega)
      rw [hall] at hN
      clear hall
      obtain ⟨A', n', c', hv'⟩ := hN.1.slice
      subst hv'
      go_wp2_with fail
      go_ret
      exact ⟨_, rfl, by rw [HPS.out]; exact hN.less hx1.size, hx⟩

end Go.Proofs.YtinafpbdlblcaaaDoor
