/-
  Package tree: May, Same.
-/
import Derived.Test.YtddooggkcdloeaaGreatDoorPath
import Derived.Test.YtddooggkcdloeaaGreatDoorOrd
import Derived.Test.YtddooggkcdloeaaGreatDoorDraw
namespace Go.Proofs.YtddooggkcdloeaaGreatDoor
open Go.RowKit
set_option linter.unusedVariables false
set_option linter.unusedSimpArgs false
attribute [local go_sem] Oper.semAt_some

/-! ### Plain -/
def slashB : ByteArray := ⟨#[47]⟩
def underB (p d : ByteArray) : Bool := Lib.hasPrefix p.data.toList (d ++ slashB).data.toList

def orderB (pre : List File) (f : File) : Bool := match pre.getLast? with | some g => !ltB g.path f.path | none => false
def badF (pre : List File) (f : File) : Bool := (!pathB f.path || (decide (400 < f.data.size) || orderB pre f)) || pre.any fun g => underB f.path g.path
def okFrom : List File → List File → Bool
  | _, [] => true
  | pre, f :: r => !badF pre f && okFrom (pre ++ [f]) r
def mayB (xs : List File) : Bool := decide (xs.length ≤ 12) && okFrom [] xs

/-! ### The walks -/
theorem under_calls (p d : ByteArray) (w : World) (hd : d.size ≤ 1000000) : Calls Tryz.prog 46 #[.string p, .string d] w fun e w' => e = .returned (.bool (underB p d)) ∧ w = w' := by
  have h1 : d.size + ByteArray.size ⟨#[47]⟩ ≤ 9223372036854775807 := by
    have : ByteArray.size ⟨#[47]⟩ = 1 := rfl
    omega
  have hadd := fun W => run_string_add_sum (P := Tryz.prog) W d ⟨#[47]⟩ h1
  go_enter Tryz.func46, Tryz.ntmps46
  have hh := Tryz.strings_HasPrefix p (d ++ ⟨#[47]⟩) w
  go_wp2_with (go_at_call 60; refine stop ?_)
  unfold Stop
  refine Calls.mono hh ?_
  rintro e w' ⟨rfl, rfl⟩
  go_wp2_with fail
  go_ret
  exact ⟨rfl, rfl⟩

theorem may1_calls (f : ByteArray) (g : File) (fb : Nat) (w : World) (hg : g.path.size ≤ 1000000) (hfb : w.cell? ⟨fb, 0, none⟩ = some (.string f)) (hl : fb < w.heap.size) :
    Calls Tryz.prog 45 #[.agg #[.string g.path, .string g.data], .pointer (some ⟨fb, 0, none⟩)] w fun e w' => e = .returned (.bool (underB f g.path)) ∧ w.alloc (.cells #[.string g.path, .string g.data] 40) = w' := by
  have hne : fb ≠ w.heap.size := by omega
  go_enter Tryz.func45, Tryz.ntmps45
  go_wp2_with fail
  refine (under_calls f g.path _ hg).mono ?_
  rintro e w' ⟨rfl, rfl⟩
  go_wp2_with fail
  go_ret
  exact ⟨rfl, rfl⟩

theorem indexUnder_calls (f : ByteArray) (fb : Nat) (A : Option Addr) (c : Nat) (ys : List File) (S : Fp) (w : World) (hO : Opn EF S w A c ys) (hn : ys.length ≤ 1000000) (hp : ∀ y ∈ ys, y.path.size ≤ 1000000) (hfb : w.cell? ⟨fb, 0, none⟩ = some (.string f)) (hl : fb < w.heap.size) :
    Calls Tryz.prog 70 #[.slice A ys.length c, .func (.func 45) #[] #[.pointer (some ⟨fb, 0, none⟩)]] w fun e w' => (∃ r : Int, e = .returned (.int .i64 r) ∧ decide (r ≥ 0) = ys.any fun y => underB f y.path) ∧ Ext w w' := by
  go_enter Tryz.func70, Tryz.ntmps70
  go_wp2_with fail
  go_loopw [8] (fun i wr => ∃ k : Nat, k ≤ ys.length ∧ i = .int .i64 k ∧ ((ys.take k).any fun y => underB f y.path) = false ∧ Ext w wr) (fun i _ => ys.length - (intOf i).toNat)
  case atStart => exact ⟨0, Nat.zero_le _, rfl, by simp, Kp.refl _ _⟩
  case round =>
    obtain ⟨k, hk, rfl, hno, hx⟩ := hrel
    rename_i wr
    by_cases hlt : k < ys.length
    · have hd : decide ((k : Int) < (ys.length : Int)) = true := decide_eq_true (by omega)
      obtain ⟨b, off, rfl, _, hb, c0, c1⟩ := (hO.rd.kp (hx.mono fun _ _ _ => trivial)).file hlt
      have hlt' : (k : Int) < (ys.length : Int) := by omega
      have h0 : (0 : Int) ≤ (k : Int) := by omega
      have hw : IntKind.i64.wrap ((k : Int) + 1) = (k : Int) + 1 := IntWalk.i64_in _ (by omega)
      have hsn : ((ys.take (k + 1)).any fun y => underB f y.path) = underB f ys[k].path := by rw [take_snoc ys hlt, List.any_append, hno]; simp only [List.any_cons, List.any_nil, Bool.or_false, Bool.false_or]
      have hcl := may1_calls f ys[k] fb wr (hp _ (List.getElem_mem hlt)) ((hx.cell (p := ⟨fb, 0, none⟩) hl trivial).trans hfb) (hx.lt hl)
      cases ho : underB f ys[k].path with
      | true =>
        rw [ho] at hsn hcl
        go_wp2_with (go_at_call 45; refine hcl.mono ?_; rintro e w' ⟨rfl, rfl⟩)
        go_ret
        refine ⟨⟨(k : Int), rfl, ?_⟩, hx.alloc _⟩
        rw [decide_eq_true (by omega : (k : Int) ≥ 0)]
        have : ((ys.take (k + 1)).any fun y => underB f y.path) = true → (ys.any fun y => underB f y.path) = true := by
          intro h
          obtain ⟨y, hy, hy'⟩ := List.any_eq_true.1 h
          exact List.any_eq_true.2 ⟨y, List.mem_of_mem_take hy, hy'⟩
        exact (this hsn).symm
      | false =>
        rw [ho] at hsn hcl
        go_wp2_with (go_at_call 45; refine hcl.mono ?_; rintro e w' ⟨rfl, rfl⟩)
        go_roundw
        case rel => exact ⟨k + 1, by omega, by go_num, hsn, hx.alloc _⟩
        case measure => simp [intOf]; omega
    · have hd : decide ((k : Int) < (ys.length : Int)) = false := decide_eq_false (by omega)
      have hkl : k = ys.length := by omega
      subst hkl
      rw [List.take_length] at hno
      go_wp2_with fail
      go_ret
      exact ⟨⟨-1, rfl, by rw [hno]; rfl⟩, hx⟩

theorem containsUnder_calls (f : ByteArray) (fb : Nat) (A : Option Addr) (c : Nat) (ys : List File) (S : Fp) (w : World) (hO : Opn EF S w A c ys) (hn : ys.length ≤ 1000000) (hp : ∀ y ∈ ys, y.path.size ≤ 1000000) (hfb : w.cell? ⟨fb, 0, none⟩ = some (.string f)) (hl : fb < w.heap.size) :
    Calls Tryz.prog 44 #[.slice A ys.length c, .func (.func 45) #[] #[.pointer (some ⟨fb, 0, none⟩)]] w fun e w' => e = .returned (.bool (ys.any fun y => underB f y.path)) ∧ Ext w w' := by
  go_enter Tryz.func44, Tryz.ntmps44
  have HI := indexUnder_calls f fb A c ys S w hO hn hp hfb hl
  clear hO hp
  go_wp2_with fail
  refine HI.mono ?_
  rintro e w' ⟨⟨r, rfl, hr⟩, hx⟩
  have hr' : decide ((0 : Int) ≤ r) = ys.any fun y => underB f y.path := hr
  cases ha : (ys.any fun y => underB f y.path) with
  | true =>
    rw [ha] at hr'
    go_wp2_with fail
    go_ret
    exact ⟨by rw [ha]; rfl, hx⟩
  | false =>
    rw [ha] at hr'
    go_wp2_with fail
    go_ret
    exact ⟨by rw [ha]; rfl, hx⟩

theorem Opn.take {S : Fp} {w : World} {b off c : Nat} {ys : List File} (h : Opn EF S w (some ⟨b, off, none⟩) c ys) (k : Nat) (hk : k ≤ ys.length) : Opn EF S w (some ⟨b, off, none⟩) c (ys.take k) := by
  refine ⟨by rw [List.length_take]; exact Nat.le_trans (Nat.min_le_right _ _) h.le, h.max, h.nil, fun hp => ?_⟩
  rw [List.length_take] at hp
  obtain ⟨b', off', he, h1, h2, h3⟩ := h.rd (by omega)
  refine ⟨b', off', he, h1, h2, fun j u hu => h3 j u ?_⟩
  rw [← El.flat_take, List.getElem?_take] at hu
  split at hu
  · exact hu
  · cases hu

end Go.Proofs.YtddooggkcdloeaaGreatDoor
