/-
  Plain: repositories that may be; a commit and all it came of; common ones, best ones; the base. repo: Add. cortegeref10: New, Has, Find.
-/
import Derived.Test.YtgjbfkaepalkiaaGreatDoorRepo2
import Derived.Deep.RegionHeld3
import Derived.Test.YtgjbfkaepalkiaaGreatDoorRef10a
namespace Go.Proofs.YtgjbfkaepalkiaaGreatDoor
set_option linter.unusedVariables false
set_option linter.unusedSimpArgs false

/-- A repository that may be: each commit may be, and its parents stand ahead of it. -/
def GoodR (cs : List Cm) : Prop := ∀ k (h : k < cs.length), SmallC cs[k] ∧ mayC cs[k] = true ∧ ∀ p ∈ cs[k].parents, 1 ≤ p ∧ p ≤ k
theorem GoodR.small {cs : List Cm} (h : GoodR cs) : SmallR cs := fun c hc => by
  obtain ⟨k, hk, rfl⟩ := List.getElem_of_mem hc
  exact (h k hk).1
theorem mayC_two {c : Cm} (h : mayC c = true) : c.parents.length ≤ 2 := by
  unfold mayC at h
  simp only [Bool.and_eq_true, decide_eq_true_eq] at h
  exact h.2.1
theorem mayC_tree {c : Cm} (h : mayC c = true) : mayB c.tree = true := by
  unfold mayC at h
  simp only [Bool.and_eq_true, decide_eq_true_eq] at h
  exact h.1
theorem GoodR.nil : GoodR [] := fun k h => by simp at h
theorem GoodR.snoc {cs : List Cm} (h : GoodR cs) {c : Cm} (hs : SmallC c) (hm : mayC c = true) (hp : ∀ p ∈ c.parents, 1 ≤ p ∧ p ≤ cs.length) : GoodR (cs ++ [c]) := fun k hk => by
  rw [List.length_append, List.length_singleton] at hk
  by_cases hlt : k < cs.length
  · rw [List.getElem_append_left hlt]; exact h k hlt
  · have : k = cs.length := by omega
    subst this
    simp only [List.getElem_concat_length]
    exact ⟨hs, hm, hp⟩
theorem addC_good {cs : List Cm} (h : GoodR cs) {c : Cm} (hs : SmallC c) (room : Nat) : GoodR (addC cs room c).1 := by
  unfold addC
  split
  · exact h
  · rename_i h1
    split
    · exact h
    · rename_i h2
      split
      · exact h
      · split
        · exact h
        · refine h.snoc hs (by simpa using h1) fun p hp => ?_
          simp only [List.any_eq_true, not_exists, not_and] at h2
          have := h2 p hp
          simp only [Bool.or_eq_true, decide_eq_true_eq, not_or] at this
          omega

def parentsC (cs : List Cm) (n : Int) : List Int := ((getC cs n).getD noC).parents
def treeC (cs : List Cm) (n : Int) : List File := ((getC cs n).getD noC).tree
theorem parents_two {cs : List Cm} (h : GoodR cs) (n : Int) : (parentsC cs n).length ≤ 2 := by
  unfold parentsC
  cases hc : getC cs n with
  | none => simp [noC]
  | some c =>
    obtain ⟨h1, h2, h3⟩ := getC_some hc
    obtain ⟨hk, rfl⟩ := List.getElem?_eq_some_iff.1 h3
    exact mayC_two (h _ hk).2.1
theorem parents_lt {cs : List Cm} (h : GoodR cs) {n p : Int} (hp : p ∈ parentsC cs n) : 1 ≤ p ∧ p < n := by
  unfold parentsC at hp
  cases hc : getC cs n with
  | none => rw [hc] at hp; simp [noC] at hp
  | some c =>
    rw [hc] at hp
    obtain ⟨h1, h2, h3⟩ := getC_some hc
    obtain ⟨hk, rfl⟩ := List.getElem?_eq_some_iff.1 h3
    have := (h _ hk).2.2 p hp
    omega

/-- From number k down, all that are marked, each marking its parents. -/
def goA (cs : List Cm) : Nat → (Int → Bool) → List Int
  | 0, _ => []
  | k + 1, mk => if mk ((k : Int) + 1) = true then ((k : Int) + 1) :: goA cs k (fun x => mk x || (parentsC cs ((k : Int) + 1)).contains x) else goA cs k mk
theorem goA_congr {cs : List Cm} : ∀ {k : Nat} {m1 m2 : Int → Bool}, (∀ x : Int, 1 ≤ x → x ≤ k → m1 x = m2 x) → goA cs k m1 = goA cs k m2
  | 0, _, _, _ => rfl
  | k + 1, m1, m2, h => by
    unfold goA
    rw [h ((k : Int) + 1) (by omega) (by omega)]
    split
    · rw [goA_congr fun x h1 h2 => by rw [h x h1 (by omega)]]
    · exact goA_congr fun x h1 h2 => h x h1 (by omega)
theorem goA_none {cs : List Cm} : ∀ {k : Nat} {mk : Int → Bool}, (∀ x : Int, 1 ≤ x → x ≤ k → mk x = false) → goA cs k mk = []
  | 0, _, _ => rfl
  | k + 1, mk, h => by
    unfold goA
    rw [if_neg (by rw [h _ (by omega) (by omega)]; simp)]
    exact goA_none fun x h1 h2 => h x h1 (by omega)
/-- The first one that is marked. -/
theorem goA_first {cs : List Cm} {c : Nat} : ∀ {k : Nat} {mk : Int → Bool}, c + 1 ≤ k → mk ((c : Int) + 1) = true → (∀ x : Int, (c : Int) + 1 < x → x ≤ k → mk x = false) →
    goA cs k mk = ((c : Int) + 1) :: goA cs c (fun x => mk x || (parentsC cs ((c : Int) + 1)).contains x)
  | 0, _, h, _, _ => by omega
  | k + 1, mk, h, h1, h2 => by
    by_cases he : c = k
    · subst he
      show (if mk ((c : Int) + 1) = true then _ else _) = _
      rw [if_pos h1]
    · show (if mk ((k : Int) + 1) = true then _ else _) = _
      rw [if_neg (by rw [h2 _ (by omega) (by omega)]; simp)]
      exact goA_first (by omega) h1 fun x a b => h2 x a (by omega)
/-- What is told lies below; the youngest first. -/
theorem goA_le {cs : List Cm} : ∀ {k : Nat} {mk : Int → Bool}, ∀ x ∈ goA cs k mk, 1 ≤ x ∧ x ≤ k
  | 0, _, x, h => by cases h
  | k + 1, mk, x, h => by
    unfold goA at h
    split at h
    · rcases List.mem_cons.1 h with rfl | h
      · omega
      · have := goA_le x h; omega
    · have := goA_le x h; omega
theorem goA_sorted {cs : List Cm} : ∀ {k : Nat} {mk : Int → Bool}, (goA cs k mk).Pairwise (· > ·)
  | 0, _ => List.Pairwise.nil
  | k + 1, mk => by
    unfold goA
    split
    · refine List.Pairwise.cons (fun x hx => ?_) goA_sorted
      have := goA_le x hx
      show (k : Int) + 1 > x
      omega
    · exact goA_sorted

/-- A commit and all it came of, the youngest first. -/
def aheadF (cs : List Cm) (n : Int) : List Int := if (getC cs n).isSome = true then goA cs n.toNat (fun x => decide (x = n)) else []
theorem getC_isSome (cs : List Cm) (n : Int) : (getC cs n).isSome = true ↔ 1 ≤ n ∧ n ≤ cs.length := by
  constructor
  · intro h
    obtain ⟨c, hc⟩ := Option.isSome_iff_exists.1 h
    exact ⟨(getC_some hc).1, (getC_some hc).2.1⟩
  · intro ⟨h1, h2⟩
    unfold getC
    rw [if_pos ⟨h1, h2⟩, List.getElem?_eq_getElem (by omega)]; rfl
theorem aheadF_le {cs : List Cm} {n : Int} : ∀ x ∈ aheadF cs n, 1 ≤ x ∧ x ≤ n ∧ n ≤ cs.length := fun x hx => by
  unfold aheadF at hx
  split at hx
  · rename_i h
    have := (getC_isSome cs n).1 h
    have := goA_le x hx
    omega
  · cases hx
theorem aheadF_sorted (cs : List Cm) (n : Int) : (aheadF cs n).Pairwise (· > ·) := by
  unfold aheadF
  split
  · exact goA_sorted
  · exact List.Pairwise.nil
theorem desc_len : ∀ {l : List Int} {n : Nat}, l.Pairwise (· > ·) → (∀ x ∈ l, 1 ≤ x ∧ x ≤ n) → l.length ≤ n
  | [], n, _, _ => Nat.zero_le _
  | x :: l, n, hs, hb => by
    have hx := hb x (List.mem_cons_self ..)
    have := desc_len (n := n - 1) (List.pairwise_cons.1 hs).2 (fun y hy => by
      have h1 := (List.pairwise_cons.1 hs).1 y hy
      have h2 := hb y (List.mem_cons_of_mem _ hy)
      have h3 : x > y := h1
      omega)
    rw [List.length_cons]
    omega
theorem aheadF_len (cs : List Cm) (n : Int) : (aheadF cs n).length ≤ cs.length :=
  desc_len (aheadF_sorted cs n) fun x hx => by have := aheadF_le x hx; omega

/-- All that two came of, the oldest first. -/
def commonF (cs : List Cm) (a b : Int) : List Int := ((aheadF cs a).filter fun n => (aheadF cs b).contains n).reverse
def bestGo (cs : List Cm) : List Int → List Int → List Int
  | [], _ => []
  | n :: r, cov => if cov.contains n = true then bestGo cs r cov else n :: bestGo cs r (cov ++ aheadF cs n)
/-- Those of which no other common one came, the oldest first. -/
def bestF (cs : List Cm) (a b : Int) : List Int := (bestGo cs (commonF cs a b).reverse []).reverse
theorem bestGo_sub (cs : List Cm) : ∀ (l cov : List Int), (bestGo cs l cov).Sublist l
  | [], _ => List.Sublist.slnil
  | n :: r, cov => by
    unfold bestGo
    split
    · exact (bestGo_sub cs r cov).cons _
    · exact (bestGo_sub cs r _).cons_cons _
theorem bestF_mem {cs : List Cm} {a b n : Int} (h : n ∈ bestF cs a b) : 1 ≤ n ∧ n ≤ cs.length := by
  unfold bestF at h
  rw [List.mem_reverse] at h
  have := (bestGo_sub cs _ _).subset h
  unfold commonF at this
  rw [List.mem_reverse, List.mem_reverse, List.mem_filter] at this
  have := aheadF_le n this.1
  omega
theorem commonF_len (cs : List Cm) (a b : Int) : (commonF cs a b).length ≤ cs.length := by
  unfold commonF
  rw [List.length_reverse]
  exact Nat.le_trans (List.length_filter_le _ _) (aheadF_len cs a)
theorem bestF_len (cs : List Cm) (a b : Int) : (bestF cs a b).length ≤ cs.length := by
  unfold bestF
  rw [List.length_reverse]
  have := (bestGo_sub cs (commonF cs a b).reverse []).length_le
  rw [List.length_reverse] at this
  exact Nat.le_trans this (commonF_len cs a b)

end Go.Proofs.YtgjbfkaepalkiaaGreatDoor

namespace Go.Proofs.YtgjbfkaepalkiaaGreatDoor
open Go.RowKit
set_option linter.unusedVariables false
set_option linter.unusedSimpArgs false
attribute [local go_sem] Oper.semAt_some

def badP (m : Nat) (p : Int) : Bool := decide (p < 1) || decide ((m : Int) < p)
abbrev rp (rb : Nat) : Value := .pointer (some ⟨rb, 0, none⟩)

section
variable {I D : Fp} {rb : Nat} {cs : List Cm} {room : Nat} {w : World}

theorem add1_calls (p : Int) (xb m c : Nat) (A : Option Addr) (hx : w.cell? ⟨xb, 0, none⟩ = some (rp rb)) (hr : w.cell? ⟨rb, 0, none⟩ = some (.slice A m c)) :
    Calls Tryz.prog 76 #[.int .i64 p, .pointer (some ⟨xb, 0, none⟩)] w fun e w' => e = .returned (.bool (badP m p)) ∧ w = w' := by
  by_cases h1 : p < 1
  · have hd : decide (p < 1) = true := decide_eq_true h1
    have hq : badP m p = true := by unfold badP; rw [hd]; rfl
    go_enter Tryz.func76, Tryz.ntmps76
    go_wp2_with fail
    go_ret
    exact ⟨by first | rfl | (rw [hq]; rfl), rfl⟩
  · have hd : decide (p < 1) = false := decide_eq_false h1
    by_cases h2 : (m : Int) < p
    · have hd2 : decide ((m : Int) < p) = true := decide_eq_true h2
      have hq : badP m p = true := by unfold badP; rw [hd, hd2]; rfl
      go_enter Tryz.func76, Tryz.ntmps76
      go_wp2_with fail
      go_ret
      exact ⟨by first | rfl | (rw [hq]; rfl), rfl⟩
    · have hd2 : decide ((m : Int) < p) = false := decide_eq_false h2
      have hq : badP m p = false := by unfold badP; rw [hd, hd2]; rfl
      go_enter Tryz.func76, Tryz.ntmps76
      go_wp2_with fail
      go_ret
      exact ⟨by first | rfl | (rw [hq]; rfl), rfl⟩

theorem indexI_calls (ps : List Int) (xb m c cp : Nat) (A B : Option Addr) (S : Fp) (hO : Opn EI S w B cp ps) (hn : ps.length ≤ 1000000) (hx : w.cell? ⟨xb, 0, none⟩ = some (rp rb)) (hr : w.cell? ⟨rb, 0, none⟩ = some (.slice A m c)) :
    Calls Tryz.prog 122 #[.slice B ps.length cp, .func (.func 76) #[] #[.pointer (some ⟨xb, 0, none⟩)]] w fun e w' => (∃ r : Int, e = .returned (.int .i64 r) ∧ decide (r ≥ 0) = ps.any (badP m)) ∧ w = w' := by
  have HO := Lib.hid hO
  obtain ⟨n, hm⟩ : ∃ m, ps.length = m := ⟨_, rfl⟩
  rw [hm] at hn ⊢
  have HM := Lib.hid hm
  clear hO hm
  go_enter Tryz.func122, Tryz.ntmps122
  go_wp2_with fail
  go_loopw [8] (fun i wr => ∃ k : Nat, k ≤ n ∧ i = .int .i64 k ∧ ((ps.take k).any (badP m)) = false ∧ w = wr) (fun i _ => n - (intOf i).toNat)
  case atStart => exact ⟨0, Nat.zero_le _, rfl, by simp, rfl⟩
  case round =>
    obtain ⟨k, hk, rfl, hno, rfl⟩ := hrel
    by_cases hlt : k < n
    · have hd : decide ((k : Int) < (n : Int)) = true := decide_eq_true (by omega)
      have hkp : k < ps.length := by have := HM.out; omega
      obtain ⟨b, off, rfl, _, hb, c0⟩ := HO.out.rd.num hkp
      have hlt' : (k : Int) < (n : Int) := by omega
      have h0 : (0 : Int) ≤ (k : Int) := by omega
      have hw : IntKind.i64.wrap ((k : Int) + 1) = (k : Int) + 1 := IntWalk.i64_in _ (by omega)
      have hsn : ((ps.take (k + 1)).any (badP m)) = badP m ps[k] := by rw [take_snoc ps hkp, List.any_append, hno]; simp only [List.any_cons, List.any_nil, Bool.or_false, Bool.false_or]
      have hmem : badP m ps[k] = true → ps.any (badP m) = true := fun h => List.any_eq_true.2 ⟨_, List.getElem_mem hkp, h⟩
      have hcl := add1_calls ps[k] xb m c A hx hr
      obtain ⟨p, hp⟩ : ∃ p, ps[k] = p := ⟨_, rfl⟩
      rw [hp] at c0 hsn hmem hcl
      have HS := Lib.hid hsn
      have HN := Lib.hid hmem
      clear hsn hmem hp hno
      cases ho : badP m p with
      | true =>
        rw [ho] at hcl
        have HR := Lib.hid (HN.out ho)
        clear ho HS HN
        go_wp2_with (go_at_call 76; refine hcl.mono ?_; rintro e w' ⟨rfl, rfl⟩)
        go_ret
        refine ⟨⟨(k : Int), rfl, ?_⟩, rfl⟩
        rw [decide_eq_true (by omega : (k : Int) ≥ 0), HR.out]
      | false =>
        rw [ho] at hcl
        have HQ := Lib.hid ho
        clear ho HN
        go_wp2_with (go_at_call 76; refine hcl.mono ?_; rintro e w' ⟨rfl, rfl⟩)
        go_roundw
        case rel => exact ⟨k + 1, by omega, by go_num, by rw [HS.out]; exact HQ.out, by first | rfl | trivial⟩
        case measure => simp [intOf]; omega
    · have hd : decide ((k : Int) < (n : Int)) = false := decide_eq_false (by omega)
      rw [List.take_of_length_le (by have := HM.out; omega)] at hno
      go_wp2_with fail
      go_ret
      exact ⟨⟨-1, rfl, by rw [hno]; rfl⟩, rfl⟩

theorem containsI_calls (v : Value) (ps : List Int) (xb m c : Nat) (A : Option Addr) (S : Fp) (hR : Rd EI S w v ps) (hn : ps.length ≤ 1000000) (hx : w.cell? ⟨xb, 0, none⟩ = some (rp rb)) (hr : w.cell? ⟨rb, 0, none⟩ = some (.slice A m c)) :
    Calls Tryz.prog 75 #[v, .func (.func 76) #[] #[.pointer (some ⟨xb, 0, none⟩)]] w fun e w' => e = .returned (.bool (ps.any (badP m))) ∧ w = w' := by
  obtain ⟨B, cp, rfl, hO⟩ := hR.open_
  have HI := Lib.hid (indexI_calls ps xb m c cp A B S hO hn hx hr)
  clear hO hR hn
  go_enter Tryz.func75, Tryz.ntmps75
  go_wp2_with fail
  refine HI.out.mono ?_
  rintro e w' ⟨⟨r, rfl, hr⟩, rfl⟩
  have hr' : decide ((0 : Int) ≤ r) = ps.any (badP m) := hr
  cases ha : (ps.any (badP m)) with
  | true =>
    rw [ha] at hr'
    go_wp2_with fail
    go_ret
    exact ⟨by rw [ha]; rfl, rfl⟩
  | false =>
    rw [ha] at hr'
    go_wp2_with fail
    go_ret
    exact ⟨by rw [ha]; rfl, rfl⟩

theorem Sub.refl' (D : Fp) {w w' : World} (h : w.heap.size ≤ w'.heap.size) : Sub D D w w' := fun _ h => .inl h
/-- What adding a commit owes. -/
def AddPost (T : TypeId) (I D : Fp) (w : World) (rb : Nat) (cs : List Cm) (room : Nat) (c : Cm) (e : Ending) (w' : World) : Prop :=
  e = .returned (.tuple #[.int .i64 ((addC cs room c).2.1 : Int), .int .i64 ((addC cs room c).2.2 : Int)]) ∧ ∃ I' D', RepoX T I' D' w' rb (addC cs room c).1 room ∧ Sub I I' w w' ∧ Sub D D' w w' ∧ Kp (fun k => ¬ D k) w w'

theorem RepoX.add {T : TypeId} {w1 w2 : World} (h : RepoX T I D w rb cs room) {lv v' : Value} {rows : List KS} {s : KS} {c : Cm} (hB : Blk w rb T #[lv, .int .i64 room]) (hrep : RepK I w rows cs) (hD : D rb) (hg : ∀ g, lv.ownBlock = some g → D g ∧ g ≠ rb)
    (hx1 : Ext w w1) (hN : NewC w.heap.size w1 s c) (hown : Own EK 42 w2 v' (rows ++ [s])) (hk : Kp (fun k => lv.ownBlock ≠ some k) w1 w2) (hb : v'.ownBlock = lv.ownBlock ∨ v'.ownBlock = some w1.heap.size) :
    ∃ I' D', RepoX T I' D' (w2.setCell ⟨rb, 0, none⟩ v') rb (cs ++ [c]) room ∧ Sub I I' w (w2.setCell ⟨rb, 0, none⟩ v') ∧ Sub D D' w (w2.setCell ⟨rb, 0, none⟩ v') ∧ Kp (fun k => ¬ D k) w (w2.setCell ⟨rb, 0, none⟩ v') := by
  have hs1 := hx1.size
  have hs2 := hk.size
  have hrb := hB.lt
  have hlr : lv.ownBlock ≠ some rb := fun e => (hg rb e).2 rfl
  have hown' : ∀ g, v'.ownBlock = some g → (D g ∨ g = w1.heap.size) ∧ g ≠ rb ∧ g < w2.heap.size := by
    intro g e
    have hl := hown.lt e
    rcases hb with hb | hb
    · rw [hb] at e; exact ⟨.inl (hg g e).1, (hg g e).2, hl⟩
    · rw [hb] at e; simp at e; exact ⟨.inr (by omega), by omega, hl⟩
  have hkI : Kp I w1 w2 := hk.mono fun k _ hi e => h.apart k hi (hg k e).1
  have hkS : ∀ S : Fp, (∀ k, S k → k ≠ rb) → Kp S w2 (w2.setCell ⟨rb, 0, none⟩ v') := fun S hS => (Kp.refl _ w2).setCell (.inr fun e => hS _ e rfl) _
  have hB2 : Blk w2 rb T #[lv, .int .i64 room] := (hB.ext hx1).kp hk hlr
  have hNb : ∀ g, (s.p.val.ownBlock = some g ∨ s.t.val.ownBlock = some g) → w.heap.size ≤ g ∧ g < w1.heap.size := by
    rintro g (e | e)
    · exact ⟨hN.p.2 g e, hN.p.1.lt e⟩
    · exact ⟨hN.t.2 g e, hN.t.1.lt e⟩
  have hNI : ∀ g, w.heap.size ≤ g → g < w1.heap.size → lv.ownBlock ≠ some g := fun g h1 h2 e => by
    have := h.ld g (hg g e).1
    omega
  refine ⟨fun k => I k ∨ (s.p.val.ownBlock = some k ∨ s.t.val.ownBlock = some k), fun k => D k ∨ k = w1.heap.size ∧ v'.ownBlock = some k, ⟨⟨v', rows ++ [s], ?_, ?_, ?_, .inl hD, ?_⟩, ?_, ?_, ?_⟩, ?_, ?_, ?_⟩
  · exact hB2.set_ 0 v'
  · exact hown.kp (hkS (fun k => k ≠ rb) fun _ h => h) fun g e => (hown' g e).2.1
  · refine ((hrep.ext hx1).kp hkI |>.kp (hkS I fun k hi e => h.apart k hi (e ▸ hD)) |>.wide fun k hk => .inl hk).snoc ?_
    have h1 : RdC (fun k => s.p.val.ownBlock = some k ∨ s.t.val.ownBlock = some k) w1 s c := ⟨hN.p.1.rd.wide fun k hk => .inl hk, hN.t.1.rd.wide fun k hk => .inr hk, hN.note⟩
    have h2 := h1.kp (hk.mono fun k _ hk => (hNI k (hNb k hk).1 (hNb k hk).2))
    exact (h2.kp (hkS _ fun k hk => by have := hNb k hk; omega)).wide fun k hk => .inr hk
  · intro g e
    obtain ⟨h1, h2, h3⟩ := hown' g e
    rcases h1 with h1 | h1
    · exact ⟨.inl h1, h2⟩
    · exact ⟨.inr ⟨h1, e⟩, h2⟩
  · rintro k (hi | hi) (hd | ⟨hd, _⟩)
    · exact h.apart k hi hd
    · have := h.li k hi; omega
    · have := hNb k hi; have := h.ld k hd; omega
    · have := hNb k hi; omega
  · rintro k (hi | hi)
    · have := h.li k hi; simp; omega
    · have := hNb k hi; simp; omega
  · rintro k (hd | ⟨hd, he⟩)
    · have := h.ld k hd; simp; omega
    · have := (hown' k he).2.2; simpa using this
  · rintro k (hi | hi)
    · exact .inl hi
    · have := hNb k hi; exact .inr ⟨this.1, by simp; omega⟩
  · rintro k (hd | ⟨hd, he⟩)
    · exact .inl hd
    · have := (hown' k he).2.2; exact .inr ⟨by omega, by simpa using this⟩
  · refine ((Kp.of_ext hx1).trans' hk fun k _ hn e => hn (hg k e).1).trans' (hkS (fun k => k ≠ rb) fun _ h => h) fun k _ hn e => hn (e ▸ hD)
end

end Go.Proofs.YtgjbfkaepalkiaaGreatDoor

namespace Go.Proofs.YtgjbfkaepalkiaaGreatDoor
open Go.RowKit
set_option linter.unusedVariables false
set_option linter.unusedSimpArgs false
attribute [local go_sem] Oper.semAt_some

abbrev refT : TypeId := 62
theorem refNew_calls (room : Nat) (w : World) (h : room ≤ 120) : Calls Tryz.prog 56 #[.int .i64 room] w (NewPost refT w room) := by
  have h1 : max (room : Int) 0 = (room : Int) := by omega
  have h2 : min (room : Int) 120 = (room : Int) := by omega
  go_enter Tryz.func56, Tryz.ntmps56
  go_wp2_with fail
  go_ret
  exact ⟨rfl, Blk.new _ _ _, (Kp.refl _ w).alloc _, by simp⟩

section
variable {I D : Fp} {rb : Nat} {cs : List Cm} {room : Nat} {w : World}
theorem rkHas_calls (h : RepoX refT I D w rb cs room) (n : Int) : Calls Tryz.prog 72 #[.pointer (some ⟨rb, 0, none⟩), .int .i64 n] w fun e w' => e = .returned (.bool (getC cs n).isSome) ∧ w = w' := by
  obtain ⟨A, c, rows, hB, hO, hR, hl⟩ := h.rd
  have c0 : w.cell? ⟨rb, 0, none⟩ = some (.slice A cs.length c) := hB.cell 0
  have hiff := getC_isSome cs n
  generalize (getC cs n).isSome = b at hiff
  obtain ⟨m, hm⟩ : ∃ m, cs.length = m := ⟨_, rfl⟩
  rw [hm] at c0 hiff
  have HI := Lib.hid hiff
  clear hR hO h hB hl hm hiff
  by_cases h1 : 1 ≤ n
  · have hd1 : decide ((1 : Int) ≤ n) = true := decide_eq_true h1
    by_cases h2 : n ≤ m
    · have hd2 : decide (n ≤ (m : Int)) = true := decide_eq_true h2
      have hb : b = true := HI.out.2 ⟨h1, h2⟩
      go_enter Tryz.func72, Tryz.ntmps72
      go_wp2_with fail
      go_ret
      first | exact ⟨rfl, rfl⟩ | exact ⟨by rw [hb]; rfl, rfl⟩
    · have hd2 : decide (n ≤ (m : Int)) = false := decide_eq_false h2
      have hb : b = false := by
        cases hb : b with
        | false => rfl
        | true => exact absurd (HI.out.1 hb).2 h2
      go_enter Tryz.func72, Tryz.ntmps72
      go_wp2_with fail
      go_ret
      first | exact ⟨rfl, rfl⟩ | exact ⟨by rw [hb]; rfl, rfl⟩
  · have hd1 : decide ((1 : Int) ≤ n) = false := decide_eq_false h1
    have hb : b = false := by
      cases hb : b with
      | false => rfl
      | true => exact absurd (HI.out.1 hb).1 h1
    go_enter Tryz.func72, Tryz.ntmps72
    go_wp2_with fail
    go_ret
    first | exact ⟨rfl, rfl⟩ | exact ⟨by rw [hb]; rfl, rfl⟩

set_option maxHeartbeats 2000000 in
theorem refFind_calls (h : RepoX refT I D w rb cs room) (s : KS) (c : Cm) (T : Fp) (hR' : RdC T w s c) (hcl : cs.length ≤ 1000) : Calls Tryz.prog 84 #[.pointer (some ⟨rb, 0, none⟩), s.val] w fun e w' => e = .returned (.int .i64 (findC cs c)) ∧ Ext w w' := by
  obtain ⟨A, cp, rows, hB, hO, hR, hl⟩ := h.rd
  have hlen := hO.len
  have c0 : w.cell? ⟨rb, 0, none⟩ = some (.slice A cs.length cp) := hB.cell 0
  have hrb := hB.lt
  have hfn : ∀ k, cs.findIdx? (fun x => sameC x c) = some k → findC cs c = k + 1 := fun k h => by unfold findC; rw [h]
  have hfz : cs.findIdx? (fun x => sameC x c) = none → findC cs c = 0 := fun h => by unfold findC; rw [h]
  have hx0 : Ext w (w.alloc (.cells #[s.p.val, s.t.val, .string s.note] 42)) := (Kp.refl _ w).alloc _
  have hb0 := Blk.new w 42 #[s.p.val, s.t.val, .string s.note]
  rw [hl] at hlen
  obtain ⟨m, hm⟩ : ∃ m, cs.length = m := ⟨_, rfl⟩
  rw [hm] at hlen c0 hl hcl
  have HM := Lib.hid hm
  have HL := Lib.hid hl
  have HO := Lib.hid fun W (hW : Ext w W) => hO.kp (hW.mono fun _ _ _ => trivial)
  have HK := Lib.hid fun W (hW : Ext w W) => hR.ext hW
  have HF := Lib.hid fun W (hW : Ext w W) (x : KS) (d : Cm) (hx : RdC I W x d) => refSameC_calls x s d c I T W hx (hR'.ext hW)
  have HB0 := Lib.hid hb0
  have HC0 := Lib.hid fun W (hW : Ext w W) => show W.cell? ⟨rb, 0, none⟩ = some (.slice A m cp) from (hW.cell (p := ⟨rb, 0, none⟩) hrb trivial).trans c0
  have H1 := Lib.hid hfn
  have H0 := Lib.hid hfz
  obtain ⟨r, hr⟩ : ∃ r, findC cs c = r := ⟨_, rfl⟩
  rw [hr] at H1 H0 ⊢
  have hne : rb ≠ w.heap.size := by omega
  obtain ⟨⟨pa, pn, pc⟩, ⟨ta, tn, tc⟩, nt⟩ := s
  dsimp only [SliceV.val, KS.val] at HF HB0 hx0 ⊢
  clear hm hl hO hR hR' hB hfn hfz hr c0 h hb0
  go_enter Tryz.func84, Tryz.ntmps84
  go_wp2_with fail
  go_loopw [5] (fun i wr => ∃ k : Nat, k ≤ m ∧ i = .int .i64 k ∧ (∀ x ∈ cs.take k, sameC x c = false) ∧ Ext (w.alloc (.cells #[.slice pa pn pc, .slice ta tn tc, .string nt] 42)) wr) (fun i _ => m - (intOf i).toNat)
  case atStart => exact ⟨0, Nat.zero_le _, rfl, by simp, Kp.refl _ _⟩
  case round =>
    obtain ⟨k, hk, rfl, hno, hx⟩ := hrel
    rename World => wo
    have hxw := hx0.trans hx
    have c0 := HC0.out wo hxw
    by_cases hlt : k < m
    · have hd : decide ((k : Int) < (m : Int)) = true := decide_eq_true (by omega)
      have hkc : k < cs.length := by have := HM.out; omega
      have hkr : k < rows.length := by have := HL.out; omega
      obtain ⟨b, off, rfl, _, hb, e0, e1, e2⟩ := (HO.out wo hxw).rd.kom hkr
      have hRx := (HK.out wo hxw).get k hkr hkc
      have hcl' := HF.out wo.drew (hxw.drew) _ _ (hRx.ext (Kp.refl _ _).drew)
      have hsn : ∀ x ∈ cs.take (k + 1), x ∈ cs.take k ∨ x = cs[k] := fun x hx => by rw [take_snoc cs hkc] at hx; exact (List.mem_append.1 hx).imp id fun h => List.mem_singleton.1 h
      have hfk : sameC cs[k] c = true → r = k + 1 := fun h => H1.out k (List.findIdx?_eq_some_iff_getElem.2 ⟨hkc, h, fun j hj => by
          have := hno cs[j] (List.mem_iff_getElem.2 ⟨j, by rw [List.length_take]; omega, by simp⟩)
          simpa using this⟩)
      obtain ⟨xk, hrk⟩ : ∃ x, rows[k] = x := ⟨_, rfl⟩
      rw [hrk] at e0 e1 e2 hcl'
      obtain ⟨⟨pa2, pn2, pc2⟩, ⟨ta2, tn2, tc2⟩, nt2⟩ := xk
      dsimp only [KS.val, SliceV.val] at e0 e1 e2 hcl'
      have hlt' : (k : Int) < (m : Int) := by omega
      have h0 : (0 : Int) ≤ (k : Int) := by omega
      have hw : IntKind.i64.wrap ((k : Int) + 1) = (k : Int) + 1 := IntWalk.i64_in _ (by omega)
      have HN := Lib.hid hno
      have HSN := Lib.hid hsn
      have HFK := Lib.hid hfk
      have d0 : wo.cell? ⟨w.heap.size, 0, none⟩ = some (.slice pa pn pc) := (HB0.out.ext hx).cell 0
      have d1 : wo.cell? ⟨w.heap.size, 1, none⟩ = some (.slice ta tn tc) := (HB0.out.ext hx).cell 1
      have d2 : wo.cell? ⟨w.heap.size, 2, none⟩ = some (.string nt) := (HB0.out.ext hx).cell 2
      have HS : Hid (∀ W, Ext wo W → W.cell? ⟨rb, 0, none⟩ = some (.slice (some ⟨b, off, none⟩) m cp) ∧ W.cell? ⟨b, off + k * 3, none⟩ = some (.slice pa2 pn2 pc2) ∧ W.cell? ⟨b, off + k * 3 + 1, none⟩ = some (.slice ta2 tn2 tc2) ∧ W.cell? ⟨b, off + k * 3 + 2, none⟩ = some (.string nt2) ∧ W.cell? ⟨w.heap.size, 0, none⟩ = some (.slice pa pn pc) ∧ W.cell? ⟨w.heap.size, 1, none⟩ = some (.slice ta tn tc) ∧ W.cell? ⟨w.heap.size, 2, none⟩ = some (.string nt)) := Lib.hid fun W hW =>
        ⟨(hW.cell (p := ⟨rb, 0, none⟩) (cell_lt c0) trivial).trans c0, (hW.cell (p := ⟨b, off + k * 3, none⟩) hb trivial).trans e0, (hW.cell (p := ⟨b, off + k * 3 + 1, none⟩) hb trivial).trans e1, (hW.cell (p := ⟨b, off + k * 3 + 2, none⟩) hb trivial).trans e2, (hW.cell (p := ⟨w.heap.size, 0, none⟩) (cell_lt d0) trivial).trans d0, (hW.cell (p := ⟨w.heap.size, 1, none⟩) (cell_lt d1) trivial).trans d1, (hW.cell (p := ⟨w.heap.size, 2, none⟩) (cell_lt d2) trivial).trans d2⟩
      have HCL := Lib.hid hcl'
      clear hno hsn hfk hRx hrk hcl'
      go_wp2_with fail
      go_region_held3 (fun W => W.cell? ⟨rb, 0, none⟩ = some (.slice (some ⟨b, off, none⟩) m cp) ∧ W.cell? ⟨b, off + k * 3, none⟩ = some (.slice pa2 pn2 pc2) ∧ W.cell? ⟨b, off + k * 3 + 1, none⟩ = some (.slice ta2 tn2 tc2) ∧ W.cell? ⟨b, off + k * 3 + 2, none⟩ = some (.string nt2) ∧ W.cell? ⟨w.heap.size, 0, none⟩ = some (.slice pa pn pc) ∧ W.cell? ⟨w.heap.size, 1, none⟩ = some (.slice ta tn tc) ∧ W.cell? ⟨w.heap.size, 2, none⟩ = some (.string nt))
        (first | exact HS.out _ hx' | exact HS.out _ ((Kp.refl _ wo).drew) | fail)
        (first | (go_at_call 127; ((with_reducible refine Calls.mono HCL.out ?_)); rintro e w' ⟨rfl, hx1'⟩; have hx' : Ext wo w' := ((Kp.refl _ wo).drew).trans hx1') | fail)
      have hxF := hx.trans hx'
      clear d0 d1 d2 e0 e1 e2 c0 HS HCL hx1' hx'
      cases hq : sameC cs[k] c with
      | true =>
        have hkr' := HFK.out hq
        subst hkr'
        clear HFK hq
        go_wp2_with fail
        go_ret
        exact ⟨by first | rfl | go_num, hx0.trans hxF⟩
      | false =>
        have HQ := Lib.hid hq
        clear HFK hq
        go_wp2_with fail
        go_roundw
        case rel => exact ⟨k + 1, by omega, by go_num, fun x hx => by rcases HSN.out x hx with h | h; exact HN.out x h; rw [h]; exact HQ.out, hxF⟩
        case measure => simp [intOf]; omega
    · have hd : decide ((k : Int) < (m : Int)) = false := decide_eq_false (by omega)
      rw [List.take_of_length_le (by have := HM.out; omega)] at hno
      have hr0 := H0.out (List.findIdx?_eq_none_iff.2 hno)
      clear hno
      go_wp2_with fail
      go_ret
      exact ⟨by rw [hr0]; rfl, hxw⟩
end

end Go.Proofs.YtgjbfkaepalkiaaGreatDoor
