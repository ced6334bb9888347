/-
  cortegeref7: Paths; texts: SameTexts, OverTexts.
-/
import Derived.Test.YtinafpbdlblcaaaDoorRef7c
namespace Go.Proofs.YtinafpbdlblcaaaDoor
open Go.RowKit
set_option linter.unusedVariables false
set_option linter.unusedSimpArgs false
attribute [local go_sem] Oper.semAt_some

def flatP (xss : List (List File)) : List ByteArray := xss.flatten.map File.path
theorem flatP_take (xss : List (List File)) (k : Nat) (hk : k < xss.length) : flatP (xss.take (k + 1)) = flatP (xss.take k) ++ xss[k].map File.path := by
  unfold flatP
  rw [take_snoc xss hk, List.flatten_append, List.map_append]; simp
theorem flatP_len (xss : List (List File)) : (flatP xss).length = sumL xss := by unfold flatP sumL; rw [List.length_map]

set_option maxHeartbeats 800000 in
/-- cortegeref7.Paths. -/
theorem refPaths_calls (v : Value) (ss : List SliceV) (xss : List (List File)) (S : Fp) (w : World) (hV : Rd ESL S w v ss) (hA : RdAll S w ss xss) (hb : sumL xss ≤ 100000) :
    Calls Tryd.prog 25 #[v] w fun e w' => ∃ u, e = .returned u ∧ New ES 9 w.heap.size w' u (riseT (flatP xss)) ∧ Ext w w' := by
  obtain ⟨A, c, rfl, hO⟩ := hV.open_
  have hlen := hO.len
  have hl := hA.length
  obtain ⟨n, hn⟩ : ∃ n, ss.length = n := ⟨_, rfl⟩
  rw [hn] at hlen hV hl ⊢
  have HN := Lib.hid hn
  have HL := Lib.hid hl
  clear hn hl hV
  go_enter Tryd.func25, Tryd.ntmps25
  go_wp2_with fail
  go_loopw [3, 4] (fun o i wr => ∃ k : Nat, k ≤ n ∧ i = .int .i64 k ∧ New ES 9 w.heap.size wr o (flatP (xss.take k)) ∧ Ext w wr) (fun _ i _ => n - (intOf i).toNat)
  case atStart => exact ⟨0, Nat.zero_le _, rfl, New.nil _ _ _, Kp.refl _ _⟩
  case round =>
    obtain ⟨k, hk, rfl, hN, hx⟩ := hrel
    rename World => wo
    by_cases hlt : k < n
    · have hd3 : decide ((k : Int) < (n : Int)) = true := decide_eq_true (by omega)
      have hkx : k < xss.length := by have := HL.out; omega
      have hks : k < ss.length := by have := HN.out; omega
      obtain ⟨b, off, rfl, _, hbl, cw⟩ := hO.rd.slice hks
      have c0 := (hx.cell (p := ⟨b, off + k, none⟩) hbl trivial).trans cw
      have hRd := hA.get k hks hkx
      obtain ⟨a1, c1, hv1, hO1⟩ := hRd.open_
      have hfl := flatP_take xss k hkx
      have hle1 : (flatP (xss.take k)).length + xss[k].length ≤ 100000 := by
        rw [flatP_len]; have := sumL_take xss k hkx; have := sumL_le xss (k + 1); omega
      obtain ⟨l, hl⟩ : ∃ l, xss[k] = l := ⟨_, rfl⟩
      obtain ⟨p0, hp0⟩ : ∃ p0, flatP (xss.take k) = p0 := ⟨_, rfl⟩
      rw [hv1] at c0 cw hRd
      rw [hl] at c0 cw hRd hfl hO1 hle1
      rw [hp0] at hN hfl hle1
      have hll := hO1.len
      obtain ⟨m, hm⟩ : ∃ m, l.length = m := ⟨_, rfl⟩
      rw [hm] at c0 cw hll hle1
      have hlt' : (k : Int) < (n : Int) := by omega
      have h0 : (0 : Int) ≤ (k : Int) := by omega
      have hw : IntKind.i64.wrap ((k : Int) + 1) = (k : Int) + 1 := IntWalk.i64_in _ (by omega)
      have HF := Lib.hid hfl
      have HM := Lib.hid hm
      have HLE := Lib.hid hle1
      clear hfl hle1 hl hp0 hv1 hm hRd
      go_wp2_with fail
      go_loopw [3, 5] (fun o q wr => ∃ j : Nat, j ≤ m ∧ q = .int .i64 j ∧ New ES 9 w.heap.size wr o (p0 ++ (l.take j).map File.path) ∧ Ext w wr) (fun _ q _ => m - (intOf q).toNat)
      case atStart => exact ⟨0, Nat.zero_le _, rfl, by simpa using hN, hx⟩
      case round =>
        obtain ⟨j, hj, rfl, hNj, hxj⟩ := hrel
        rename World => wj
        have cj := (hxj.cell (p := ⟨b, off + k, none⟩) hbl trivial).trans cw
        by_cases hltj : j < m
        · have hd4 : decide ((j : Int) < (m : Int)) = true := decide_eq_true (by omega)
          have hjl : j < l.length := by have := HM.out; omega
          obtain ⟨b3, off3, rfl, _, hb3, e0, e1⟩ := (hO1.kp (hxj.mono fun _ _ _ => trivial)).rd.file hjl
          obtain ⟨f, hf⟩ : ∃ f, l[j] = f := ⟨_, rfl⟩
          have hts : (l.take (j + 1)).map File.path = (l.take j).map File.path ++ [f.path] := by rw [take_snoc l hjl, List.map_append, hf]; rfl
          rw [hf] at e0 e1
          have hltj' : (j : Int) < (m : Int) := by omega
          have hj0 : (0 : Int) ≤ (j : Int) := by omega
          have hwj : IntKind.i64.wrap ((j : Int) + 1) = (j : Int) + 1 := IntWalk.i64_in _ (by omega)
          have hsz : (p0 ++ (l.take j).map File.path).length + 1 ≤ 100000 := by rw [List.length_append, List.length_map, List.length_take]; have := HLE.out; have := HM.out; omega
          have HTS := Lib.hid hts
          have HSZ := Lib.hid hsz
          clear hts hsz hf hw
          go_wp2_with (at_builtin; refine stop ?_)
          refine list_append1 tiS f.path rfl rfl rfl hNj hxj rfl rfl rfl (by have := HSZ.out; omega) (by have := HSZ.out; unfold maxLen; omega) ?_
          intro v' w' hN' hx'
          obtain ⟨A', n', c', rfl⟩ := hN'.1.slice
          clear c0 cw cj e0 e1
          go_wp2_with fail
          go_roundw
          case rel => exact ⟨j + 1, by omega, by go_num, by rw [HTS.out, ← List.append_assoc]; exact hN', hx'⟩
          case measure => simp [intOf]; omega
        · have hd4 : decide ((j : Int) < (m : Int)) = false := decide_eq_false (by omega)
          have hall : l.take j = l := List.take_of_length_le (by have := HM.out; omega)
          rw [hall] at hNj
          clear hall c0 cw
          obtain ⟨A', n', c', hv'⟩ := hNj.1.slice
          subst hv'
          go_wp2_with fail
          go_roundw
          case rel => exact ⟨k + 1, by omega, by go_num, by rw [HF.out]; exact hNj, hxj⟩
          case measure => simp [intOf]; omega
    · have hd3 : decide ((k : Int) < (n : Int)) = false := decide_eq_false (by omega)
      have hall : xss.take k = xss := List.take_of_length_le (by have := HL.out; omega)
      rw [hall] at hN
      clear hall
      obtain ⟨A', n', c', hv'⟩ := hN.1.slice
      subst hv'
      go_wp2_with (go_at_call 55; refine stop ?_)
      refine (refRise_calls _ _ _ wo hN.rd (by rw [flatP_len]; exact hb)).mono ?_
      rintro e w3 ⟨u, rfl, hN3, hx3⟩
      go_wp2_with fail
      go_ret
      exact ⟨_, rfl, hN3.less hx.size, hx.trans hx3⟩

end Go.Proofs.YtinafpbdlblcaaaDoor
