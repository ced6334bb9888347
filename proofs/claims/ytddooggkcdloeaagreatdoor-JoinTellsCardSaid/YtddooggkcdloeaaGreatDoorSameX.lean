/-
  cortegelaw0: SameTexts, OverTexts.
-/
import Derived.Test.YtddooggkcdloeaaGreatDoorPlainT
namespace Go.Proofs.YtddooggkcdloeaaGreatDoor
open Go.RowKit
set_option linter.unusedVariables false
set_option linter.unusedSimpArgs false
attribute [local go_sem] Oper.semAt_some

set_option maxHeartbeats 400000 in
set_option maxHeartbeats 400000 in
/-- cortegelaw0.SameTexts, at the same texts. -/
theorem sameTexts_calls (v u : Value) (xs : List ByteArray) (S T : Fp) (w : World) (hR : Rd ES S w v xs) (hR' : Rd ES T w u xs) :
    Calls Tryz.prog 16 #[v, u] w fun e w' => e = .returned (.bool true) ∧ Ext w w' := by
  obtain ⟨A, c, rfl, hO⟩ := hR.open_
  obtain ⟨A', c', rfl, hO'⟩ := hR'.open_
  have hlen := hO.len
  obtain ⟨n, hn⟩ : ∃ n, xs.length = n := ⟨_, rfl⟩
  rw [hn] at hlen ⊢
  have HN := Lib.hid hn
  clear hn hR hR'
  go_enter Tryz.func16, Tryz.ntmps16
  go_wp2_with fail
  go_loopw [5] (fun i wr => ∃ k : Nat, k ≤ n ∧ i = .int .i64 k ∧ Ext w wr) (fun i _ => n - (intOf i).toNat)
  case atStart => exact ⟨0, Nat.zero_le _, rfl, Kp.refl _ _⟩
  case round =>
    obtain ⟨k, hk, rfl, hx⟩ := hrel
    by_cases hlt : k < n
    · have hd3 : decide ((k : Int) < (n : Int)) = true := decide_eq_true (by omega)
      have hkc : k < xs.length := by have := HN.out; omega
      obtain ⟨b, off, rfl, _, hbl, c0⟩ := (hO.rd.kp (hx.mono fun _ _ _ => trivial)).text hkc
      obtain ⟨b', off', rfl, _, hbl', d0⟩ := (hO'.rd.kp (hx.mono fun _ _ _ => trivial)).text hkc
      obtain ⟨p, hp⟩ : ∃ p, xs[k] = p := ⟨_, rfl⟩
      rw [hp] at c0 d0
      have hlt' : (k : Int) < (n : Int) := by omega
      have h0 : (0 : Int) ≤ (k : Int) := by omega
      have hw : IntKind.i64.wrap ((k : Int) + 1) = (k : Int) + 1 := IntWalk.i64_in _ (by omega)
      clear hp
      go_wp2_with fail
      go_quiet (fail)
      go_wp2_with fail
      go_roundw
      case rel => exact ⟨k + 1, by omega, by go_num, hx.drewN _⟩
      case measure => simp [intOf]; omega
    · have hd3 : decide ((k : Int) < (n : Int)) = false := decide_eq_false (by omega)
      go_wp2_with fail
      go_ret
      exact ⟨rfl, hx⟩

/-- One text is stored over another one. -/
theorem Own.setS {t : TypeId} {w : World} {g n c : Nat} {xs : List ByteArray} (h : Own ES t w (.slice (some ⟨g, 0, none⟩) n c) xs) {i : Nat} (hi : i < xs.length) (y : ByteArray) :
    Own ES t (w.setCell ⟨g, i, none⟩ (.string y)) (.slice (some ⟨g, 0, none⟩) n c) (xs.set i y) := by
  obtain ⟨hl, h2⟩ := h
  rcases h2 with ⟨h1, _⟩ | ⟨g', cap, cur, h1, hb, hg, hn, hm, hs, ht⟩
  · cases h1
  · injection h1 with h1 h1' h1''
    injection h1 with h1
    injection h1 with h1
    subst h1 h1' h1''
    have hfl : ∀ (l : List ByteArray) (i : Nat) (y : ByteArray), ES.flat (l.set i y) = (ES.flat l).set i (.string y) := by
      intro l
      induction l with
      | nil => intro i y; simp [El.flat]
      | cons z l ih =>
        intro i y
        cases i with
        | zero => rfl
        | succ i => rw [List.set_cons_succ, ES.flat_cons, ES.flat_cons, ih]; rfl
    have hh : (w.setCell ⟨g, i, none⟩ (.string y)).heap[g]? = some (.cells (cur.setIfInBounds i (.string y)) t (0, 0)) := Blk.set_ (show Blk w g t cur from hg) i (.string y)
    refine ⟨by rw [hfl]; simpa using hl, .inr ⟨g, c, _, by rw [List.length_set], hb, hh, by rw [List.length_set]; exact hn, hm, by simpa using hs, ?_⟩⟩
    rw [hfl, ← ht, List.length_set]
    show List.take (xs.length * 1) _ = (List.take (xs.length * 1) _).set _ _
    rw [Nat.mul_one, Array.toList_setIfInBounds, List.take_set]
theorem Own.text {t : TypeId} {w : World} {g n c : Nat} {xs : List ByteArray} (h : Own ES t w (.slice (some ⟨g, 0, none⟩) n c) xs) {i : Nat} {x : ByteArray} (hx : xs[i]? = some x) : w.cell? ⟨g, i, none⟩ = some (.string x) := by
  obtain ⟨hi, rfl⟩ := List.getElem?_eq_some_iff.1 hx
  obtain ⟨A, c', hv, hO⟩ := h.rd.open_
  injection hv with hv
  subst hv
  obtain ⟨b, off, hb, _, _, hc⟩ := hO.rd.text hi
  injection hb with hb
  injection hb with hb hb'
  subst hb hb'
  simpa using hc

def overS : ByteArray := ⟨#[111, 118, 101, 114]⟩
set_option maxHeartbeats 400000 in
/-- cortegelaw0.OverTexts. -/
theorem overTexts_calls (v : Value) (xs : List ByteArray) (w : World) (hO : Own ES 9 w v xs) (hb : xs.length ≤ 10000) :
    Calls Tryz.prog 19 #[v] w fun e w' => (∃ r, e = .returned r) ∧ Kp (fun k => v.ownBlock ≠ some k) w w' := by
  have hslice : (v = .slice none 0 0 ∧ xs = []) ∨ ∃ g n c, v = .slice (some ⟨g, 0, none⟩) n c ∧ xs.length = n := by
    rcases hO.2 with ⟨h, h0⟩ | ⟨g, cap, cur, h, _⟩
    · exact .inl ⟨h, List.eq_nil_of_length_eq_zero h0⟩
    · exact .inr ⟨g, _, cap, h, rfl⟩
  rcases hslice with ⟨rfl, rfl⟩ | ⟨g, n, c, rfl, hn⟩
  · go_enter Tryz.func19, Tryz.ntmps19
    go_wp2_with fail
    refine wp_loop_once ?_
    go_wp2_with (at_builtin; refine stop ?_)
    refine list_append (xs := []) (ys := [overS]) tiS rfl rfl rfl rfl (hO.kp ((Kp.refl _ w).alloc _) (fun _ _ => trivial)) (Own.made w 9 [overS] (by simp [maxLen])).rd (by simp) (by simp [maxLen]) ?_
    intro v' w' hO' hK' hB'
    go_wp2_with fail
    exact bodyPost_end (results_none rfl _ _ _) rfl ⟨⟨_, rfl⟩, ((Kp.refl _ w).alloc _).trans' hK' (fun _ _ h => h)⟩
  · rw [hn] at hb
    have HN := Lib.hid hn
    clear hn
    go_enter Tryz.func19, Tryz.ntmps19
    go_wp2_with fail
    go_loopw [2] (fun i wr => ∃ (k : Nat) (zs : List ByteArray), k ≤ n ∧ i = .int .i64 k ∧ zs.length = n ∧ Own ES 9 wr (.slice (some ⟨g, 0, none⟩) n c) zs ∧ Kp (fun k => k ≠ g) w wr) (fun i _ => n - (intOf i).toNat)
    case atStart => exact ⟨0, xs, Nat.zero_le _, rfl, HN.out, hO, Kp.refl _ _⟩
    case round =>
      obtain ⟨k, zs, hk, rfl, hz, hOr, hKr⟩ := hrel
      rename World => wo
      have HZ := Lib.hid hz
      by_cases hlt : k < n
      · have hd3 : decide ((k : Int) < (n : Int)) = true := decide_eq_true (by omega)
        have hlt' : (k : Int) < (n : Int) := by omega
        have h0 : (0 : Int) ≤ (k : Int) := by omega
        have hw : IntKind.i64.wrap ((k : Int) + 1) = (k : Int) + 1 := IntWalk.i64_in _ (by omega)
        obtain ⟨x, hx⟩ : ∃ x, zs[k]? = some x := ⟨_, List.getElem?_eq_getElem (by omega)⟩
        have c0 := hOr.text hx
        have f0 := hOr.free k
        have HX := Lib.hid hx
        clear hz hx
        go_wp2_with fail
        go_roundw
        case rel => exact ⟨k + 1, zs.set k overS, by omega, by go_num, by rw [List.length_set]; exact HZ.out, hOr.setS (List.getElem?_eq_some_iff.1 HX.out).1 overS, hKr.setCell (.inr (by simp)) _⟩
        case measure => simp [intOf]; omega
      · have hd3 : decide ((k : Int) < (n : Int)) = false := decide_eq_false (by omega)
        clear hz
        go_wp2_with (at_builtin; refine stop ?_)
        refine list_append (v := .slice (some ⟨g, 0, none⟩) n c) (xs := zs) (ys := [overS]) tiS rfl rfl rfl rfl (hOr.kp ((Kp.refl _ wo).alloc _) (fun _ _ => trivial)) (Own.made wo 9 [overS] (by simp [maxLen])).rd (by rw [HZ.out]; simp; omega) (by rw [HZ.out]; simp [maxLen]; omega) ?_
        intro v' w' hO' hK' hB'
        go_wp2_with fail
        refine bodyPost_end (results_none rfl _ _ _) rfl ⟨⟨_, rfl⟩, ?_⟩
        refine ((hKr.alloc _).trans' hK' (fun k _ h e => h (by injection e with e; exact e.symm))).mono (fun k _ h e => h (by rw [e]; rfl))

end Go.Proofs.YtddooggkcdloeaaGreatDoor
