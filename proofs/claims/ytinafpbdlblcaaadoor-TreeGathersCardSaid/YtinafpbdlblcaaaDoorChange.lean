/-
  patch.Change; patch.Apply.
-/
import Derived.Test.YtinafpbdlblcaaaDoorPlainT
namespace Go.Proofs.YtinafpbdlblcaaaDoor
open Go.RowKit
set_option linter.unusedVariables false
set_option linter.unusedSimpArgs false
attribute [local go_sem] Oper.semAt_some

structure Ch where
  path : ByteArray
  was : Bool
  is : Bool
  old : ByteArray
  new : ByteArray
def Ch.enc (c : Ch) : List Value := [.string c.path, .bool c.was, .bool c.is, .string c.old, .string c.new]
def EC : El Ch := ⟨Ch.enc, 5, fun _ => rfl, fun x u hu => by simp only [Ch.enc, List.mem_cons, List.not_mem_nil, or_false] at hu; rcases hu with rfl | rfl | rfl | rfl | rfl <;> rfl⟩
theorem RdA.ch {S : Fp} {w : World} {A : Option Addr} {cs : List Ch} (h : RdA EC S w A cs) {i : Nat} (hi : i < cs.length) :
    ∃ b off, A = some ⟨b, off, none⟩ ∧ S b ∧ b < w.heap.size ∧ w.cell? ⟨b, off + i * 5, none⟩ = some (.string cs[i].path) ∧ w.cell? ⟨b, off + i * 5 + 1, none⟩ = some (.bool cs[i].was) ∧ w.cell? ⟨b, off + i * 5 + 2, none⟩ = some (.bool cs[i].is) ∧ w.cell? ⟨b, off + i * 5 + 3, none⟩ = some (.string cs[i].old) ∧ w.cell? ⟨b, off + i * 5 + 4, none⟩ = some (.string cs[i].new) := by
  obtain ⟨b, off, hA, hs, hb, hc⟩ := h.at_ hi
  exact ⟨b, off, hA, hs, hb, hc 0 _ rfl, hc 1 _ rfl, hc 2 _ rfl, hc 3 _ rfl, hc 4 _ rfl⟩

def stepF (t : List File) (c : Ch) : Option (List File) := if ((getF t c.path).isSome == c.was && (getD t c.path).toList == c.old.toList) = true then some (if c.is then putF t c.path c.new else drF t c.path) else none
def applyF : List File → List Ch → Option (List File)
  | t, [] => some t
  | t, c :: cs => match stepF t c with
    | some u => applyF u cs
    | none => none
theorem applyF_append (t : List File) (cs ds : List Ch) : applyF t (cs ++ ds) = (applyF t cs).bind fun u => applyF u ds := by
  induction cs generalizing t with
  | nil => rfl
  | cons c cs ih =>
    show (match stepF t c with | some u => applyF u (cs ++ ds) | none => none) = (match stepF t c with | some u => applyF u cs | none => none).bind _
    cases stepF t c with
    | none => rfl
    | some u => exact ih u
theorem applyF_snoc (t : List File) (cs : List Ch) (c : Ch) {u : List File} (h : applyF t cs = some u) : applyF t (cs ++ [c]) = stepF u c := by
  rw [applyF_append, h]
  show (match stepF u c with | some v => some v | none => none) = _
  cases stepF u c <;> rfl
theorem applyF_stop (t : List File) (cs : List Ch) (k : Nat) (h : applyF t (cs.take k) = none) : applyF t cs = none := by
  have := applyF_append t (cs.take k) (cs.drop k)
  rw [List.take_append_drop, h] at this
  exact this

set_option maxHeartbeats 800000 in
/-- patch.Apply. -/
theorem apply_calls (v u : Value) (xs : List File) (cs : List Ch) (S T : Fp) (w : World) (hR : Rd EF S w v xs) (hC : Rd EC T w u cs) (hb : xs.length ≤ 1000) (hcl : cs.length ≤ 1000) (hbig : ∀ k t, applyF xs (cs.take k) = some t → t.length ≤ 38) :
    Calls Tryd.prog 36 #[v, u] w fun e w' => ∃ r, e = .returned (.tuple #[r, .bool (applyF xs cs).isSome]) ∧ New EF 30 w.heap.size w' r ((applyF xs cs).getD []) ∧ Ext w w' := by
  obtain ⟨A, c, rfl, hO⟩ := hC.open_
  obtain ⟨n, hn⟩ : ∃ n, cs.length = n := ⟨_, rfl⟩
  have hlen := hO.len
  rw [hn] at hlen hC ⊢
  have HN := Lib.hid hn
  have HBIG := Lib.hid hbig
  clear hn hC hbig
  go_enter Tryd.func36, Tryd.ntmps36
  go_wp2_with (go_at_call 58; refine stop ?_)
  refine (clone_calls v xs S w hR (by omega)).mono ?_
  rintro e w1 ⟨r0, rfl, hN1, hx1⟩
  go_wp2_with fail
  go_loopw [6, 15] (fun o i wr => ∃ (k : Nat) (t : List File), k ≤ n ∧ i = .int .i64 k ∧ applyF xs (cs.take k) = some t ∧ New EF 30 w.heap.size wr o t ∧ Ext w wr) (fun _ i _ => n - (intOf i).toNat)
  case atStart => exact ⟨0, xs, Nat.zero_le _, rfl, rfl, hN1, hx1⟩
  case round =>
    obtain ⟨k, t, hk, rfl, hap, hN, hx⟩ := hrel
    rename World => wo
    have HAP := Lib.hid hap
    have htl : t.length ≤ 38 := HBIG.out k t hap
    by_cases hlt : k < n
    · have hd3 : decide ((k : Int) < (n : Int)) = true := decide_eq_true (by omega)
      have hkc : k < cs.length := by have := HN.out; omega
      obtain ⟨b, off, rfl, _, hbl, c0, c1, c2, c3, c4⟩ := (hO.kp (hx.mono fun _ _ _ => trivial)).rd.ch hkc
      have hts : cs.take (k + 1) = cs.take k ++ [cs[k]] := take_snoc cs hkc
      obtain ⟨ch, hch⟩ : ∃ ch, cs[k] = ch := ⟨_, rfl⟩
      rw [hch] at c0 c1 c2 c3 c4 hts
      obtain ⟨cp, cw, ci, co, cn⟩ := ch
      dsimp only at c0 c1 c2 c3 c4
      have hlt' : (k : Int) < (n : Int) := by omega
      have h0 : (0 : Int) ≤ (k : Int) := by omega
      have hw : IntKind.i64.wrap ((k : Int) + 1) = (k : Int) + 1 := IntWalk.i64_in _ (by omega)
      have HT := Lib.hid hts
      clear hts hch hap hd3
      obtain ⟨A', n', c', hv'⟩ := hN.1.slice
      subst hv'
      have hd3 : decide ((k : Int) < (n : Int)) = true := decide_eq_true (by omega)
      go_wp2_with (go_at_call 14; refine stop ?_)
      refine (get_calls _ cp t _ _ (hN.ext ((Kp.refl _ wo).alloc _)).rd (by omega)).mono ?_
      rintro e w3 ⟨rfl, hx3'⟩
      have hx3 : Ext w w3 := hx.trans (((Kp.refl _ wo).alloc _).trans hx3')
      have hB := (Blk.new wo 57 #[.string cp, .bool cw, .bool ci, .string co, .string cn]).ext hx3'
      have hN3 := hN.ext (((Kp.refl _ wo).alloc (.cells #[.string cp, .bool cw, .bool ci, .string co, .string cn] 57)).trans hx3')
      have b0 : w3.cell? ⟨wo.heap.size, 0, none⟩ = some (.string cp) := hB.cell 0
      have b1 : w3.cell? ⟨wo.heap.size, 1, none⟩ = some (.bool cw) := hB.cell 1
      have b2 : w3.cell? ⟨wo.heap.size, 2, none⟩ = some (.bool ci) := hB.cell 2
      have b3 : w3.cell? ⟨wo.heap.size, 3, none⟩ = some (.string co) := hB.cell 3
      have b4 : w3.cell? ⟨wo.heap.size, 4, none⟩ = some (.string cn) := hB.cell 4
      obtain ⟨g, hg⟩ : ∃ g, (getF t cp).isSome = g := ⟨_, rfl⟩
      obtain ⟨d, hd⟩ : ∃ d, getD t cp = d := ⟨_, rfl⟩
      rw [hg, hd]
      have HG := Lib.hid hg
      have HD := Lib.hid hd
      clear hg hd c0 c1 c2 c3 c4 hx3' hB hd3
      cases cw with
      | true =>
        cases g with
        | true =>
          cases hde : (d.toList == co.toList) with
          | false =>
            go_wp2_with fail
            go_ret2
            have hnone : applyF xs cs = none := applyF_stop xs cs (k + 1) (by rw [HT.out, applyF_snoc _ _ _ HAP.out]; unfold stepF; rw [if_neg (by simp only [HG.out, HD.out]; rw [hde]; simp)])
            exact ⟨_, by rw [hnone]; rfl, by rw [hnone]; exact New.nil _ _ _, hx3⟩
          | true =>
            have hst : stepF t ⟨cp, true, ci, co, cn⟩ = some (if ci then putF t cp cn else drF t cp) := by
              unfold stepF; rw [if_pos (by simp only [HG.out, HD.out, hde]; rfl)]
            have HST := Lib.hid hst
            clear hst
            cases ci with
            | true =>
              go_wp2_with (go_at_call 13; refine stop ?_)
              refine (put38_calls _ cp cn t _ w3 hN3.rd htl).mono ?_
              rintro e w4 ⟨r4, rfl, hN4, hx4⟩
              obtain ⟨A4, n4, c4, hv4⟩ := hN4.1.slice
              subst hv4
              clear b0 b1 b2 b3 b4
              go_wp2_with fail
              go_roundw
              case rel => exact ⟨k + 1, putF t cp cn, by omega, by go_num, by rw [HT.out, applyF_snoc _ _ _ HAP.out, HST.out]; rfl, hN4.less hx3.size, hx3.trans hx4⟩
              case measure => simp [intOf]; omega
            | false =>
              go_wp2_with (go_at_call 15; refine stop ?_)
              refine (drop_calls _ cp t _ w3 hN3.rd (by omega)).mono ?_
              rintro e w4 ⟨r4, rfl, hN4, hx4⟩
              obtain ⟨A4, n4, c4, hv4⟩ := hN4.1.slice
              subst hv4
              clear b0 b1 b2 b3 b4
              go_wp2_with fail
              go_roundw
              case rel => exact ⟨k + 1, drF t cp, by omega, by go_num, by rw [HT.out, applyF_snoc _ _ _ HAP.out, HST.out]; rfl, hN4.less hx3.size, hx3.trans hx4⟩
              case measure => simp [intOf]; omega
        | false =>
          go_wp2_with fail
          go_ret2
          have hnone : applyF xs cs = none := applyF_stop xs cs (k + 1) (by rw [HT.out, applyF_snoc _ _ _ HAP.out]; unfold stepF; rw [if_neg (by simp only [HG.out, HD.out]; simp)])
          exact ⟨_, by rw [hnone]; rfl, by rw [hnone]; exact New.nil _ _ _, hx3⟩
      | false =>
        cases g with
        | true =>
          go_wp2_with fail
          go_ret2
          have hnone : applyF xs cs = none := applyF_stop xs cs (k + 1) (by rw [HT.out, applyF_snoc _ _ _ HAP.out]; unfold stepF; rw [if_neg (by simp only [HG.out, HD.out]; simp)])
          exact ⟨_, by rw [hnone]; rfl, by rw [hnone]; exact New.nil _ _ _, hx3⟩
        | false =>
          cases hde : (d.toList == co.toList) with
          | false =>
            go_wp2_with fail
            go_ret2
            have hnone : applyF xs cs = none := applyF_stop xs cs (k + 1) (by rw [HT.out, applyF_snoc _ _ _ HAP.out]; unfold stepF; rw [if_neg (by simp only [HG.out, HD.out]; rw [hde]; simp)])
            exact ⟨_, by rw [hnone]; rfl, by rw [hnone]; exact New.nil _ _ _, hx3⟩
          | true =>
            have hst : stepF t ⟨cp, false, ci, co, cn⟩ = some (if ci then putF t cp cn else drF t cp) := by
              unfold stepF; rw [if_pos (by simp only [HG.out, HD.out, hde]; rfl)]
            have HST := Lib.hid hst
            clear hst
            cases ci with
            | true =>
              go_wp2_with (go_at_call 13; refine stop ?_)
              refine (put38_calls _ cp cn t _ w3 hN3.rd htl).mono ?_
              rintro e w4 ⟨r4, rfl, hN4, hx4⟩
              obtain ⟨A4, n4, c4, hv4⟩ := hN4.1.slice
              subst hv4
              clear b0 b1 b2 b3 b4
              go_wp2_with fail
              go_roundw
              case rel => exact ⟨k + 1, putF t cp cn, by omega, by go_num, by rw [HT.out, applyF_snoc _ _ _ HAP.out, HST.out]; rfl, hN4.less hx3.size, hx3.trans hx4⟩
              case measure => simp [intOf]; omega
            | false =>
              go_wp2_with (go_at_call 15; refine stop ?_)
              refine (drop_calls _ cp t _ w3 hN3.rd (by omega)).mono ?_
              rintro e w4 ⟨r4, rfl, hN4, hx4⟩
              obtain ⟨A4, n4, c4, hv4⟩ := hN4.1.slice
              subst hv4
              clear b0 b1 b2 b3 b4
              go_wp2_with fail
              go_roundw
              case rel => exact ⟨k + 1, drF t cp, by omega, by go_num, by rw [HT.out, applyF_snoc _ _ _ HAP.out, HST.out]; rfl, hN4.less hx3.size, hx3.trans hx4⟩
              case measure => simp [intOf]; omega
    · have hd3 : decide ((k : Int) < (n : Int)) = false := decide_eq_false (by omega)
      have hall : cs.take k = cs := List.take_of_length_le (by have := HN.out; omega)
      rw [hall] at HAP
      clear hall hap
      obtain ⟨A', n', c', hv'⟩ := hN.1.slice
      subst hv'
      go_wp2_with fail
      go_ret2
      exact ⟨_, by rw [HAP.out]; rfl, by rw [HAP.out]; exact hN, hx⟩

end Go.Proofs.YtinafpbdlblcaaaDoor
