/-
  What the statements share: GreatFiles, SameFiles, Low.
-/
import Derived.Test.YtddooggkcdloeaaGreatDoorSort2
namespace Go.Proofs.YtddooggkcdloeaaGreatDoor
open Go.RowKit
set_option linter.unusedVariables false
set_option linter.unusedSimpArgs false
attribute [local go_sem] Oper.semAt_some

/-! ### Plain -/
def greatF (f : File) : Bool := decide (100 < f.path.size) || decide (500 < f.data.size)
def greatB (xs : List File) (m : Nat) : Bool := decide (m < xs.length) || xs.any greatF
theorem greatB_false {xs : List File} {m : Nat} (h : greatB xs m = false) : xs.length ≤ m ∧ ∀ x ∈ xs, x.path.size ≤ 100 ∧ x.data.size ≤ 500 := by
  unfold greatB at h
  rw [Bool.or_eq_false_iff] at h
  refine ⟨by have := of_decide_eq_false h.1; omega, fun x hx => ?_⟩
  have := List.any_eq_false.1 h.2 x hx
  unfold greatF at this
  simp at this
  omega

def fileB (x y : File) : Bool := (x.path.toList == y.path.toList) && (x.data.toList == y.data.toList)
theorem fileB_iff (x y : File) : fileB x y = true ↔ x = y := by
  unfold fileB
  rw [Bool.and_eq_true, beq_iff_eq, beq_iff_eq]
  constructor
  · rintro ⟨h1, h2⟩
    obtain ⟨a, b⟩ := x
    obtain ⟨c, d⟩ := y
    have e1 : a = c := toList_inj h1
    have e2 : b = d := toList_inj h2
    rw [e1, e2]
  · rintro rfl; exact ⟨rfl, rfl⟩
def sameB : List File → List File → Bool
  | [], [] => true
  | x :: xs, y :: ys => fileB x y && sameB xs ys
  | _, _ => false
theorem sameB_iff : ∀ xs ys, sameB xs ys = true ↔ xs = ys
  | [], [] => by simp [sameB]
  | [], y :: ys => by simp [sameB]
  | x :: xs, [] => by simp [sameB]
  | x :: xs, y :: ys => by simp [sameB, sameB_iff xs ys, fileB_iff]
theorem sameB_refl (xs : List File) : sameB xs xs = true := (sameB_iff xs xs).2 rfl

/-! ### The walks -/
set_option maxHeartbeats 400000 in
theorem greatFiles_calls (v : Value) (xs : List File) (m : Nat) (S : Fp) (w : World) (hR : Rd EF S w v xs) (hm : m ≤ 1000000) :
    Calls Tryz.prog 28 #[v, .int .i64 m] w fun e w' => e = .returned (.bool (greatB xs m)) ∧ w = w' := by
  obtain ⟨A, c, rfl, hO⟩ := hR.open_
  have hlen := hO.len
  clear hR
  by_cases hn : xs.length ≤ m
  · have hd1 : decide ((xs.length : Int) ≤ (m : Int)) = true := decide_eq_true (by omega)
    have hd2 : decide ((m : Int) < (xs.length : Int)) = false := decide_eq_false (by omega)
    have hd2' : decide (m < xs.length) = false := decide_eq_false (by omega)
    go_enter Tryz.func28, Tryz.ntmps28
    go_wp2_with fail
    go_loopw [5] (fun i wr => ∃ k : Nat, k ≤ xs.length ∧ i = .int .i64 k ∧ (xs.take k).any greatF = false ∧ w = wr) (fun i _ => xs.length - (intOf i).toNat)
    case atStart => exact ⟨0, Nat.zero_le _, rfl, by simp, rfl⟩
    case round =>
      obtain ⟨k, hk, rfl, hno, rfl⟩ := hrel
      by_cases hlt : k < xs.length
      · have hd3 : decide ((k : Int) < (xs.length : Int)) = true := decide_eq_true (by omega)
        obtain ⟨b, off, rfl, _, hb, c0, c1⟩ := hO.rd.file hlt
        have hlt' : (k : Int) < (xs.length : Int) := by omega
        have h0 : (0 : Int) ≤ (k : Int) := by omega
        have hw : IntKind.i64.wrap ((k : Int) + 1) = (k : Int) + 1 := IntWalk.i64_in _ (by omega)
        obtain ⟨f, hf⟩ : ∃ f, xs[k] = f := ⟨_, rfl⟩
        have hsn : (xs.take (k + 1)).any greatF = greatF f := by rw [take_snoc xs hlt, List.any_append, hno, hf]; simp only [List.any_cons, List.any_nil, Bool.or_false, Bool.false_or]
        have hany : greatF f = true → xs.any greatF = true := fun h => List.any_eq_true.2 ⟨f, by rw [← hf]; exact List.getElem_mem hlt, h⟩
        rw [hf] at c0 c1
        have HS := Lib.hid hsn
        have HA := Lib.hid hany
        clear hsn hany hf
        by_cases h1 : 100 < f.path.size
        · have hp : decide ((100 : Int) < (f.path.size : Int)) = true := decide_eq_true (by omega)
          go_wp2_with fail
          go_ret
          exact ⟨by unfold greatB; rw [HA.out (by unfold greatF; rw [decide_eq_true h1]; rfl)]; simp, rfl⟩
        · have hp : decide ((100 : Int) < (f.path.size : Int)) = false := decide_eq_false (by omega)
          by_cases h2 : 500 < f.data.size
          · have hp2 : decide ((500 : Int) < (f.data.size : Int)) = true := decide_eq_true (by omega)
            go_wp2_with fail
            go_ret
            exact ⟨by unfold greatB; rw [HA.out (by unfold greatF; rw [decide_eq_true h2]; simp)]; simp, rfl⟩
          · have hp2 : decide ((500 : Int) < (f.data.size : Int)) = false := decide_eq_false (by omega)
            go_wp2_with fail
            go_roundw
            case rel => exact ⟨k + 1, by omega, by go_num, by rw [HS.out]; unfold greatF; rw [decide_eq_false h1, decide_eq_false h2]; rfl, trivial⟩
            case measure => simp [intOf]; omega
      · have hd3 : decide ((k : Int) < (xs.length : Int)) = false := decide_eq_false (by omega)
        have hkl : k = xs.length := by omega
        have hres : greatB xs m = false := by unfold greatB; rw [← List.take_length (l := xs), ← hkl, hno, hkl, List.take_length, decide_eq_false (by omega)]; rfl
        go_wp2_with fail
        go_ret
        exact ⟨by rw [hres]; rfl, rfl⟩
  · have hd1 : decide ((xs.length : Int) ≤ (m : Int)) = false := decide_eq_false (by omega)
    have hd2 : decide ((m : Int) < (xs.length : Int)) = true := decide_eq_true (by omega)
    have hd2' : decide (m < xs.length) = true := decide_eq_true (by omega)
    have hres : greatB xs m = true := by unfold greatB; rw [decide_eq_true (by omega)]; rfl
    by_cases h0 : 0 < xs.length
    · have hd3 : decide ((0 : Int) < (xs.length : Int)) = true := decide_eq_true (by omega)
      have hd3' : decide (0 < xs.length) = true := decide_eq_true (by omega)
      go_enter Tryz.func28, Tryz.ntmps28
      go_wp2_with fail
      go_loopw [5] (fun i wr => i = .int .i64 0 ∧ w = wr) (fun i _ => 0)
      case atStart => exact ⟨rfl, rfl⟩
      case round =>
        obtain ⟨rfl, rfl⟩ := hrel
        go_wp2_with fail
        go_ret
        exact ⟨by rw [hres]; rfl, rfl⟩
    · omega

theorem run_neq_file (x y : File) (W : World) : (binOp .neq 40 (.agg #[.string x.path, .string x.data]) (.agg #[.string y.path, .string y.data])).run Tryz.prog W = .ok (.bool (!fileB x y)) W := by
  have h1 := Tryz.sizeOf9
  have h2 := Tryz.isAgg9
  have h3 := Tryz.underlying9
  have h4 := Tryz.zeroValue9
  rw [run_neq_struct, run_equalIn_struct _ _ _ _ _ (by kernel_rfl) (by kernel_rfl), Program.fieldsOf, Tryz.underlying40]
  cases h : x.path.toList == y.path.toList <;> cases h' : x.data.toList == y.data.toList <;>
    simp [Op.eqFields, fileB, go_sem, h1, h2, h3, h4, h, h']

theorem sameB_take {xs ys : List File} (hl : xs.length = ys.length) {k : Nat} (hk : k < xs.length) (hk' : k < ys.length) (h : sameB xs ys = sameB (xs.drop k) (ys.drop k)) : sameB xs ys = (fileB xs[k] ys[k] && sameB (xs.drop (k + 1)) (ys.drop (k + 1))) := by
  rw [h, List.drop_eq_getElem_cons hk, List.drop_eq_getElem_cons hk']; rfl
theorem sameB_len {xs ys : List File} (h : xs.length ≠ ys.length) : sameB xs ys = false := by
  cases hb : sameB xs ys with
  | false => rfl
  | true => rw [(sameB_iff xs ys).1 hb] at h; exact absurd rfl h

set_option maxHeartbeats 400000 in
theorem sameFiles_calls (v u : Value) (xs ys : List File) (S T : Fp) (w : World) (hR : Rd EF S w v xs) (hR' : Rd EF T w u ys) :
    Calls Tryz.prog 15 #[v, u] w fun e w' => e = .returned (.bool (sameB xs ys)) ∧ Ext w w' := by
  obtain ⟨A, c, rfl, hO⟩ := hR.open_
  obtain ⟨A', c', rfl, hO'⟩ := hR'.open_
  have hlen := hO.len
  have hlen' := hO'.len
  clear hR hR'
  by_cases hn : xs.length = ys.length
  · have HO := Lib.hid hO
    have HO' := Lib.hid hO'
    have HN := Lib.hid hn
    obtain ⟨n, hxn⟩ : ∃ n, n = xs.length := ⟨_, rfl⟩
    have hyn : n = ys.length := hxn.trans hn
    have HX := Lib.hid hxn
    have HY := Lib.hid hyn
    rw [← hxn] at hlen ⊢
    rw [← hyn] at hlen' ⊢
    clear hO hO' hn hxn hyn
    go_enter Tryz.func15, Tryz.ntmps15
    go_wp2_with fail
    go_loopw [5] (fun i wr => ∃ k : Nat, k ≤ n ∧ i = .int .i64 k ∧ sameB xs ys = sameB (xs.drop k) (ys.drop k) ∧ Ext w wr) (fun i _ => n - (intOf i).toNat)
    case atStart => exact ⟨0, Nat.zero_le _, rfl, rfl, Kp.refl _ _⟩
    case round =>
      obtain ⟨k, hk, rfl, hs, hx⟩ := hrel
      rename_i wr
      by_cases hlt : k < n
      · have hd3 : decide ((k : Int) < (n : Int)) = true := decide_eq_true (by omega)
        have hkx : k < xs.length := by have := HX.out; omega
        have hky : k < ys.length := by have := HY.out; omega
        have hst := sameB_take HN.out hkx hky hs
        obtain ⟨f, hf⟩ : ∃ f, xs[k] = f := ⟨_, rfl⟩
        obtain ⟨g, hg⟩ : ∃ g, ys[k] = g := ⟨_, rfl⟩
        obtain ⟨b, off, rfl, _, hb, c0, c1⟩ := (HO.out.rd.kp (hx.mono fun _ _ _ => trivial)).file hkx
        obtain ⟨b', off', rfl, _, hb', d0, d1⟩ := (HO'.out.rd.kp (hx.mono fun _ _ _ => trivial)).file hky
        have hlt' : (k : Int) < (n : Int) := by omega
        have h0 : (0 : Int) ≤ (k : Int) := by omega
        have hw : IntKind.i64.wrap ((k : Int) + 1) = (k : Int) + 1 := IntWalk.i64_in _ (by omega)
        rw [hf] at c0 c1 hst
        rw [hg] at d0 d1 hst
        have heq := run_neq_file f g
        have hgd := fun (x y : Operand) (W : World) => run_eqGuard_agg (P := Tryz.prog) W .neq 40 x y #[.string f.path, .string f.data] #[.string g.path, .string g.data] (by kernel_rfl)
        have HS := Lib.hid hst
        have HK := Lib.hid hs
        clear hst hs hf hg hkx hky
        cases hfg : fileB f g with
        | true =>
          rw [hfg] at heq
          go_wp2_with fail
          go_quiet (fail)
          go_wp2_with fail
          go_roundw
          case rel => exact ⟨k + 1, by omega, by go_num, by rw [HS.out, hfg]; rfl, hx.drewN _⟩
          case measure => simp [intOf]; omega
        | false =>
          rw [hfg] at heq
          go_wp2_with fail
          go_quiet (fail)
          go_wp2_with fail
          go_ret
          exact ⟨by rw [HS.out, hfg]; rfl, hx.drewN _⟩
      · have hd3 : decide ((k : Int) < (n : Int)) = false := decide_eq_false (by omega)
        have hres : sameB xs ys = true := by
          rw [hs, List.drop_of_length_le (by have := HX.out; omega), List.drop_of_length_le (by have := HY.out; omega)]; rfl
        go_wp2_with fail
        go_ret
        exact ⟨by rw [hres]; rfl, hx⟩
  · have hd1 : ((xs.length : Int) == (ys.length : Int)) = false := by
      rw [beq_eq_false_iff_ne]; omega
    have hd2 : (xs.length == ys.length) = false := by rw [beq_eq_false_iff_ne]; exact hn
    have hd3 : ((xs.length : Int) != (ys.length : Int)) = true := by rw [bne, hd1]; rfl
    have hd4 : (xs.length != ys.length) = true := by rw [bne, hd2]; rfl
    have hres := sameB_len hn
    go_enter Tryz.func15, Tryz.ntmps15
    go_wp2_with fail
    go_ret
    exact ⟨by rw [hres]; rfl, Kp.refl _ _⟩

end Go.Proofs.YtddooggkcdloeaaGreatDoor
