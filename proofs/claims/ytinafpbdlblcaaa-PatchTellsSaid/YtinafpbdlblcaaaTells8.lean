/-
  cortegelaw8: same, at the same changes.
-/
import Derived.Test.YtinafpbdlblcaaaAwake8
import Derived.Test.YtinafpbdlblcaaaRef8b
namespace Go.Proofs.Ytinafpbdlblcaaa
open Go.RowKit
set_option linter.unusedVariables false
set_option linter.unusedSimpArgs false
attribute [local go_sem] Oper.semAt_some

set_option maxHeartbeats 800000 in
set_option maxRecDepth 100000 in
/-- cortegelaw8.same, at the same changes. -/
theorem same8_calls (v u : Value) (cs : List Ch) (S T : Fp) (w : World) (hR : Rd EC S w v cs) (hR' : Rd EC T w u cs) :
    Calls Try.prog 9 #[v, u] w fun e w' => e = .returned (.bool true) ∧ Ext w w' := by
  obtain ⟨A, c, rfl, hO⟩ := hR.open_
  obtain ⟨A', c', rfl, hO'⟩ := hR'.open_
  have hlen := hO.len
  obtain ⟨n, hn⟩ : ∃ n, cs.length = n := ⟨_, rfl⟩
  rw [hn] at hlen ⊢
  have HN := Lib.hid hn
  clear hn hR hR'
  go_enter Try.func9, Try.ntmps9
  go_wp2_with fail
  go_loopw [5] (fun i wr => ∃ k : Nat, k ≤ n ∧ i = .int .i64 k ∧ Ext w wr) (fun i _ => n - (intOf i).toNat)
  case atStart => exact ⟨0, Nat.zero_le _, rfl, Kp.refl _ _⟩
  case round =>
    obtain ⟨k, hk, rfl, hx⟩ := hrel
    rename World => wo
    by_cases hlt : k < n
    · have hd3 : decide ((k : Int) < (n : Int)) = true := decide_eq_true (by omega)
      have hkc : k < cs.length := by have := HN.out; omega
      obtain ⟨b, off, rfl, _, hbl, c0, c1, c2, c3, c4⟩ := (hO.rd.kp (hx.mono fun _ _ _ => trivial)).ch hkc
      obtain ⟨b', off', rfl, _, hbl', d0, d1, d2, d3, d4⟩ := (hO'.rd.kp (hx.mono fun _ _ _ => trivial)).ch hkc
      obtain ⟨ch, hch⟩ : ∃ ch, cs[k] = ch := ⟨_, rfl⟩
      rw [hch] at c0 c1 c2 c3 c4 d0 d1 d2 d3 d4
      obtain ⟨cp, cw, ci, co, cn⟩ := ch
      dsimp only at c0 c1 c2 c3 c4 d0 d1 d2 d3 d4
      have hlt' : (k : Int) < (n : Int) := by omega
      have h0 : (0 : Int) ≤ (k : Int) := by omega
      have hw : IntKind.i64.wrap ((k : Int) + 1) = (k : Int) + 1 := IntWalk.i64_in _ (by omega)
      clear hch
      go_wp2_with fail
      go_quiet (fail)
      go_wp2_with fail
      go_roundw
      case rel => exact ⟨k + 1, by omega, by go_num, hx.drewN _⟩
      case measure => simp [intOf]; omega
    · have hd3 : decide ((k : Int) < (n : Int)) = false := decide_eq_false (by omega)
      go_wp2_with fail
      go_ret
      exact ⟨rfl, hx⟩

end Go.Proofs.Ytinafpbdlblcaaa
