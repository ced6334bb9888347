/-
  Plain: cortegeref5's pieces are three's. cortegeref4: great, Same, table, Pairs. cortegeref5: places, loose. cortegeref5: loose; rows of its pieces.
-/
import Derived.Test.YtgjbfkaepalkiaaGreatDoorSwapM
import Derived.Test.YtgjbfkaepalkiaaGreatDoorPairs
import Derived.Test.YtgjbfkaepalkiaaGreatDoorParts2
import Derived.Deep.CutRange
import Derived.Laws.ResultCell
namespace Go.Proofs.YtgjbfkaepalkiaaGreatDoor
open Go.RowKit
set_option linter.unusedVariables false
set_option linter.unusedSimpArgs false

/-- Where an element of the first list stands in the second. -/
def plF (o a : List ByteArray) : Nat → Option Nat := inN (pairsF o a)
def endPl (o a b : List ByteArray) : Pl := ⟨o.length, a.length, b.length⟩
def addPl (s : Pl) (n : Nat) : Pl := ⟨s.base + n, s.a + n, s.b + n⟩

section
variable {o a b : List ByteArray}
theorem plF_iff {x y : Nat} : plF o a x = some y ↔ (x, y) ∈ pairsF o a := by
  constructor
  · exact inN_mem
  · intro h
    unfold plF
    cases hq : inN (pairsF o a) x with
    | none =>
      exfalso
      revert h hq
      refine snocInd (p := fun ps => (x, y) ∈ ps → inN ps x = none → False) (fun h => by cases h) (fun l p ih h hq => ?_) (pairsF o a)
      rw [inN_snoc] at hq
      dsimp only at hq
      by_cases hx : x = p.1
      · rw [if_pos hx] at hq; cases hq
      · rw [if_neg hx] at hq
        rcases List.mem_append.1 h with h | h
        · exact ih h hq
        · rw [List.mem_singleton] at h
          rw [← h] at hx
          exact hx rfl
    | some z =>
      have hz := inN_mem hq
      rcases Nat.lt_trichotomy y z with hl | rfl | hl
      · obtain ⟨i, hi, e1⟩ := List.getElem_of_mem h
        obtain ⟨k, hk, e2⟩ := List.getElem_of_mem hz
        have hp := List.pairwise_iff_getElem.1 (pairsF_rise o a)
        rcases Nat.lt_trichotomy i k with hlt | rfl | hgt
        · have := (hp i k hi hk hlt).1; rw [e1, e2] at this; simp at this
        · rw [e1] at e2; injection e2 with _ e2; omega
        · have := (hp k i hk hi hgt).1; rw [e1, e2] at this; simp at this
      · rfl
      · obtain ⟨i, hi, e1⟩ := List.getElem_of_mem h
        obtain ⟨k, hk, e2⟩ := List.getElem_of_mem hz
        have hp := List.pairwise_iff_getElem.1 (pairsF_rise o a)
        rcases Nat.lt_trichotomy i k with hlt | rfl | hgt
        · have := (hp i k hi hk hlt).1; rw [e1, e2] at this; simp at this
        · rw [e1] at e2; injection e2 with _ e2; omega
        · have := (hp k i hk hi hgt).1; rw [e1, e2] at this; simp at this
theorem stand_split (o a b : List ByteArray) : ∃ T, standF o a b = T ++ [endPl o a b] ∧ (∀ t ∈ T, t.base < o.length ∧ plF o a t.base = some t.a ∧ plF o b t.base = some t.b) ∧ ∀ k u v, plF o a k = some u → plF o b k = some v → (⟨k, u, v⟩ : Pl) ∈ T := by
  refine ⟨standK (inN (pairsF o b)) (pairsF o a), rfl, fun t ht => ?_, fun k u v h1 h2 => ?_⟩
  · obtain ⟨h1, h2⟩ := standK_mem ht
    refine ⟨?_, plF_iff.2 h1, h2⟩
    obtain ⟨_, h3, _⟩ := pairsF_eq h1
    exact (List.getElem?_eq_some_iff.1 h3).1
  · unfold standK
    refine List.mem_flatMap.2 ⟨(k, u), plF_iff.1 h1, ?_⟩
    unfold standOne
    dsimp only
    unfold plF at h2
    rw [h2]
    exact List.mem_singleton.2 rfl
theorem plF_lt {x y : Nat} (h : plF o a x = some y) : x < o.length ∧ y < a.length := by
  obtain ⟨v, h1, h2⟩ := pairsF_eq (plF_iff.1 h)
  exact ⟨(List.getElem?_eq_some_iff.1 h1).1, (List.getElem?_eq_some_iff.1 h2).1⟩

theorem loose_flag (q : Pt) : (⟨!sameT q.base q.a && (!sameT q.base q.b && !sameT q.a q.b), q.base, q.a, q.b⟩ : Pt) = flagP q := by
  have e : ∀ x y : List ByteArray, sameT x y = sameT y x := fun x y => by unfold sameT; exact decide_eq_decide.2 ⟨Eq.symm, Eq.symm⟩
  unfold flagP
  rw [e q.base q.a, e q.base q.b]
  cases sameT q.a q.base <;> cases sameT q.b q.base <;> cases sameT q.a q.b <;> rfl

/-- Between two rounds of Parts. -/
structure RInv (o a b : List ByteArray) (S1 S2 : List Pl) (p : Pl) (out : List Pt) : Prop where
  cut : standF o a b = S1 ++ S2
  ne : S2 ≠ []
  at_ : (partsK o a b S1).at_ = p
  out_ : fastP o a b (partsK o a b S1).l p (partsK o a b S1).from_ = out
  past : ∀ t ∈ S1, t.base < p.base
  next : S1 = [] ∨ S2.head? ≠ some p ∨ S2 = [endPl o a b]
  le : LeP p (endPl o a b)
theorem rInv_start (o a b : List ByteArray) : RInv o a b [] (standF o a b) zeroPl [] := by
  refine ⟨rfl, ?_, rfl, rfl, (fun t h => by cases h), .inl rfl, ⟨Nat.zero_le _, Nat.zero_le _, Nat.zero_le _⟩⟩
  obtain ⟨T, h, _⟩ := stand_split o a b
  rw [h]
  simp
/-- Within a run. -/
structure RRun (o a b : List ByteArray) (S1 S2 : List Pl) (s : Pl) (n : Nat) (out : List Pt) : Prop where
  cut : standF o a b = S1 ++ S2
  ne : S2 ≠ []
  st : partsK o a b S1 = ⟨out, addPl s n, s⟩
  past : ∀ t ∈ S1, t.base < s.base + n
  le : LeP (addPl s n) (endPl o a b)
theorem cut_last {S1 S2 : List Pl} {t : Pl} (h : standF o a b = S1 ++ t :: S2) (ht : t.base < o.length) : S2 ≠ [] := by
  intro e
  subst e
  obtain ⟨T, hT, _⟩ := stand_split o a b
  rw [hT] at h
  have := List.append_inj_right' h rfl
  injection this with this
  rw [← this] at ht
  exact Nat.lt_irrefl _ ht
theorem cut_end {S1 S2 : List Pl} {t : Pl} (h : standF o a b = S1 ++ t :: S2) (ht : ¬ t.base < o.length) : t :: S2 = [endPl o a b] := by
  have hr := standF_rise o a b
  have hle := standF_le o a b
  rw [h] at hr hle
  have hS : S2 = [] := by
    rcases S2 with _ | ⟨q, S2⟩
    · rfl
    · exfalso
      have h1 := (List.pairwise_append.1 hr).2.1
      rw [List.pairwise_cons] at h1
      have h2 := (h1.1 q (by simp)).base
      have h3 := (hle q (by simp)).base
      dsimp only at h3
      omega
  subst hS
  obtain ⟨T, hT, _⟩ := stand_split o a b
  rw [hT] at h
  exact (List.append_inj_right' h rfl).symm
theorem cut_le {S1 S2 : List Pl} {t : Pl} (h : standF o a b = S1 ++ t :: S2) : LeP (partsK o a b S1).at_ t := by
  have hk : S1.length < (standF o a b).length := by rw [h]; simp
  have := (stOk o a b (standF_rise o a b) (standF_le o a b) S1.length (Nat.le_of_lt hk)).an hk
  rw [List.getElem_of_eq h hk] at this
  rw [show (standF o a b).take S1.length = S1 by rw [h]; exact List.take_left' rfl] at this
  simpa using this
/-- The place behind which nothing pairs. -/
theorem RInv.find {S1 S2 : List Pl} {p : Pl} {out : List Pt} (h : RInv o a b S1 S2 p out) {k u v : Nat} (hk : p.base ≤ k) (hn : ∀ i, p.base ≤ i → i < k → plF o a i = none ∨ plF o b i = none)
    (hq : (k = o.length ∧ u = a.length ∧ v = b.length) ∨ (k < o.length ∧ plF o a k = some u ∧ plF o b k = some v)) : ∃ S3, S2 = ⟨k, u, v⟩ :: S3 ∧ LeP p ⟨k, u, v⟩ ∧ LeP ⟨k, u, v⟩ (endPl o a b) ∧ (k = o.length → S3 = []) ∧ (k < o.length → S3 ≠ []) := by
  obtain ⟨T, hT, hT1, hT2⟩ := stand_split o a b
  rcases S2 with _ | ⟨s, S3⟩
  · exact absurd rfl h.ne
  have hcut := h.cut
  have hle := cut_le hcut
  rw [h.at_] at hle
  have hse : LeP s (endPl o a b) := standF_le o a b s (by rw [hcut]; simp)
  have key : s = ⟨k, u, v⟩ := by
    by_cases hs : s.base < o.length
    · -- it pairs
      have hmem : s ∈ T := by
        have : s ∈ standF o a b := by rw [hcut]; simp
        rw [hT] at this
        rcases List.mem_append.1 this with h' | h'
        · exact h'
        · rw [List.mem_singleton.1 h'] at hs; exact absurd hs (Nat.lt_irrefl _)
      obtain ⟨_, e1, e2⟩ := hT1 s hmem
      have hks : k ≤ s.base := by
        rcases Nat.lt_or_ge s.base k with hl | hl
        · rcases hn s.base hle.base hl with e | e
          · rw [e1] at e; cases e
          · rw [e2] at e; cases e
        · exact hl
      rcases hq with ⟨rfl, _, _⟩ | ⟨hkl, f1, f2⟩
      · omega
      · have hin := hT2 k u v f1 f2
        have hin2 : (⟨k, u, v⟩ : Pl) ∈ S1 ++ s :: S3 := by rw [← hcut, hT]; exact List.mem_append_left _ hin
        rcases List.mem_append.1 hin2 with h' | h'
        · have := h.past _ h'; dsimp only at this; omega
        · rcases List.mem_cons.1 h' with h' | h'
          · exact h'.symm
          · have hr := standF_rise o a b
            rw [hcut] at hr
            have := ((List.pairwise_cons.1 (List.pairwise_append.1 hr).2.1).1 _ h').base
            dsimp only at this
            omega
    · have hend := cut_end hcut hs
      have he := (List.cons.inj hend).1
      rw [he]
      rcases hq with ⟨rfl, rfl, rfl⟩ | ⟨hkl, f1, f2⟩
      · rfl
      · exfalso
        have hin := hT2 k u v f1 f2
        have hin2 : (⟨k, u, v⟩ : Pl) ∈ S1 ++ s :: S3 := by rw [← hcut, hT]; exact List.mem_append_left _ hin
        rw [hend] at hin2
        rcases List.mem_append.1 hin2 with h' | h'
        · have := h.past _ h'; dsimp only at this; omega
        · have := congrArg Pl.base (List.mem_singleton.1 h')
          unfold endPl at this
          dsimp only at this
          omega
  subst key
  refine ⟨S3, rfl, hle, hse, fun e => ?_, fun hl => cut_last hcut hl⟩
  have := cut_end hcut (by dsimp only; omega)
  injection this
/-- What comes ahead of a run, or of the end. -/
def loosed (o a b : List ByteArray) (out : List Pt) (p s : Pl) : List Pt := if plB s p = true then out else out ++ [flagP (partF o a b p s)]
theorem RInv.done {S1 : List Pl} {p : Pl} {out : List Pt} {s : Pl} (h : RInv o a b S1 [s] p out) (hs : s = endPl o a b) : partsF o a b = loosed o a b out p s := by
  unfold partsF loosed
  rw [h.cut, partsK_snoc]
  unfold stepP
  rw [h.at_]
  by_cases e : plB s p = true
  · rw [if_pos e, if_pos e]
    have e' := (plB_iff _ _).1 e
    dsimp only
    rw [← h.out_, ← e', hs]
    rfl
  · rw [if_neg e, if_neg e]
    dsimp only
    rw [h.out_, hs]
    unfold fastP
    rw [if_neg (by unfold endPl; exact Nat.lt_irrefl _)]
theorem RInv.take_ {S1 S2 : List Pl} {p : Pl} {out : List Pt} {s : Pl} (h : RInv o a b S1 (s :: S2) p out) (hs : s.base < o.length) (hsa : s.a < a.length) (hsb : s.b < b.length) : RRun o a b (S1 ++ [s]) S2 s 1 (loosed o a b out p s) := by
  have hne := cut_last h.cut hs
  refine ⟨by rw [h.cut]; simp, hne, ?_, fun t ht => ?_, ⟨hs, hsa, hsb⟩⟩
  · rw [partsK_snoc]
    unfold stepP loosed
    rw [h.at_]
    by_cases e : plB s p = true
    · rw [if_pos e, if_pos e]
      have e' := (plB_iff _ _).1 e
      have hS1 : S1 = [] := by
        rcases h.next with h' | h' | h'
        · exact h'
        · rw [e'] at h'; exact absurd rfl h'
        · injection h' with _ h'; exact absurd h' hne
      subst hS1
      have hp : zeroPl = p := h.at_
      have ho : [] = out := by rw [← h.out_, ← hp]; rfl
      have hl : (partsK o a b []).l = [] := rfl
      have hf : (partsK o a b []).from_ = zeroPl := rfl
      rw [hl, hf, ← ho, hp, ← e']
      rfl
    · rw [if_neg e, if_neg e, h.out_]
      rfl
  · rcases List.mem_append.1 ht with ht | ht
    · have hr := standF_rise o a b
      rw [h.cut] at hr
      have := ((List.pairwise_append.1 hr).2.2 t ht s (by simp)).base
      omega
    · rw [List.mem_singleton.1 ht]; omega
/-- Is there one more? -/
theorem RRun.more {S1 S2 : List Pl} {s : Pl} {n : Nat} {out : List Pt} (h : RRun o a b S1 S2 s n out) (hl : s.base + n < o.length) (e1 : plF o a (s.base + n) = some (s.a + n)) (e2 : plF o b (s.base + n) = some (s.b + n)) : ∃ S3, RRun o a b (S1 ++ [addPl s n]) S3 s (n + 1) out := by
  obtain ⟨T, hT, hT1, hT2⟩ := stand_split o a b
  have hin := hT2 _ _ _ e1 e2
  have hin2 : addPl s n ∈ S1 ++ S2 := by rw [← h.cut, hT]; exact List.mem_append_left _ hin
  rcases S2 with _ | ⟨t, S3⟩
  · exact absurd rfl h.ne
  have hle := cut_le h.cut
  rw [h.st] at hle
  have ht : t = addPl s n := by
    rcases List.mem_append.1 hin2 with h' | h'
    · have := h.past _ h'; unfold addPl at this; dsimp only at this; omega
    · rcases List.mem_cons.1 h' with h' | h'
      · exact h'.symm
      · have hr := standF_rise o a b
        rw [h.cut] at hr
        have := ((List.pairwise_cons.1 (List.pairwise_append.1 hr).2.1).1 _ h').base
        have := hle.base
        dsimp only at this
        omega
  subst ht
  refine ⟨S3, by rw [h.cut]; simp, cut_last h.cut hl, ?_, fun q hq => ?_, ?_⟩
  · rw [partsK_snoc, h.st]
    unfold stepP
    dsimp only
    rw [if_pos ((plB_iff _ _).2 rfl)]
    rfl
  · rcases List.mem_append.1 hq with hq | hq
    · have := h.past q hq; omega
    · rw [List.mem_singleton.1 hq]; unfold addPl; dsimp only; omega
  · have h1 := plF_lt e1
    have h2 := plF_lt e2
    exact ⟨h1.1, h1.2, h2.2⟩
theorem RRun.close {S1 S2 : List Pl} {s : Pl} {n : Nat} {out : List Pt} (h : RRun o a b S1 S2 s n out) (hn : 0 < n) (hno : ¬ (s.base + n < o.length ∧ plF o a (s.base + n) = some (s.a + n) ∧ plF o b (s.base + n) = some (s.b + n))) : RInv o a b S1 S2 (addPl s n) (out ++ [partF o a b s (addPl s n)]) := by
  refine ⟨h.cut, h.ne, by rw [h.st], ?_, h.past, .inr ?_, h.le⟩
  · rw [h.st]
    unfold fastP
    dsimp only
    rw [if_pos (by unfold addPl; dsimp only; omega)]
  · rcases S2 with _ | ⟨t, S3⟩
    · exact absurd rfl h.ne
    by_cases e : t = addPl s n
    · right
      subst e
      by_cases hl : s.base + n < o.length
      · exfalso
        apply hno
        obtain ⟨T, hT, hT1, _⟩ := stand_split o a b
        have hmem : addPl s n ∈ T := by
          have : addPl s n ∈ standF o a b := by rw [h.cut]; simp
          rw [hT] at this
          rcases List.mem_append.1 this with h' | h'
          · exact h'
          · have := congrArg Pl.base (List.mem_singleton.1 h')
            unfold addPl endPl at this
            dsimp only at this
            omega
        obtain ⟨q1, q2, q3⟩ := hT1 _ hmem
        exact ⟨hl, q2, q3⟩
      · exact cut_end h.cut (by unfold addPl; dsimp only; exact hl)
    · left
      intro h'
      injection h' with h'
      exact e h'
/-- What a loose piece is to be: something lies between. -/
theorem loosed_iff {p s : Pl} (h : LeP p s) : plB s p = false ↔ (p.base < s.base ∨ p.a < s.a ∨ p.b < s.b) := by
  rw [← Bool.not_eq_true, plB_iff]
  have h1 := h.base
  have h2 := h.a
  have h3 := h.b
  cases p; cases s
  simp only [Pl.mk.injEq] at *
  omega
end

end Go.Proofs.YtgjbfkaepalkiaaGreatDoor

namespace Go.Proofs.YtgjbfkaepalkiaaGreatDoor
open Go.RowKit
set_option linter.unusedVariables false
set_option linter.unusedSimpArgs false
attribute [local go_sem] Oper.semAt_some

theorem great4_calls (A1 A2 : Option Addr) (n1 n2 c1 c2 : Nat) (h1 : n1 ≤ 400) (h2 : n2 ≤ 400) (w : World) :
    Calls Tryz.prog 258 #[.slice A1 n1 c1, .slice A2 n2 c2] w fun e w' => e = .returned (.bool false) ∧ w = w' := by
  have hd1 : decide ((400 : Int) < (n1 : Int)) = false := decide_eq_false (by omega)
  have hd2 : decide ((400 : Int) < (n2 : Int)) = false := decide_eq_false (by omega)
  go_enter Tryz.func258, Tryz.ntmps258
  go_wp2_with fail
  go_ret
  exact ⟨rfl, rfl⟩

theorem sameT_drop {xs ys : List ByteArray} {k : Nat} (h1 : k < xs.length) (h2 : k < ys.length) : sameT (xs.drop k) (ys.drop k) = (xs[k].toList == ys[k].toList && sameT (xs.drop (k + 1)) (ys.drop (k + 1))) := by
  rw [List.drop_eq_getElem_cons h1, List.drop_eq_getElem_cons h2]
  unfold sameT
  rw [toList_beq]
  by_cases e1 : xs[k] = ys[k]
  · rw [decide_eq_true e1, Bool.true_and]
    exact decide_eq_decide.2 ⟨fun h => by injection h, fun h => by rw [e1, h]⟩
  · rw [decide_eq_false e1, Bool.false_and]
    exact decide_eq_false fun h => e1 (by injection h)
set_option maxHeartbeats 1000000 in
/-- Same. -/
theorem same4_calls (v u : Value) (xs ys : List ByteArray) (S T : Fp) (w : World) (hR : Rd ES S w v xs) (hR' : Rd ES T w u ys) :
    Calls Tryz.prog 220 #[v, u] w fun e w' => e = .returned (.bool (sameT xs ys)) ∧ Ext w w' := by
  obtain ⟨A, c, rfl, hO⟩ := hR.open_
  obtain ⟨A', c', rfl, hO'⟩ := hR'.open_
  have hlen := hO.len
  obtain ⟨n, hn⟩ : ∃ n, xs.length = n := ⟨_, rfl⟩
  obtain ⟨m, hm⟩ : ∃ n, ys.length = n := ⟨_, rfl⟩
  rw [hn] at hlen ⊢
  rw [hm]
  have HN := Lib.hid hn
  have HM := Lib.hid hm
  have HA := Lib.hid fun W (hW : Ext w W) => hO.kp (hW.mono fun _ _ _ => trivial)
  have HB := Lib.hid fun W (hW : Ext w W) => hO'.kp (hW.mono fun _ _ _ => trivial)
  obtain ⟨q, hq⟩ : ∃ q, sameT xs ys = q := ⟨_, rfl⟩
  have HQ := Lib.hid hq
  rw [hq]
  clear hR hR' hO hO' hn hm hq
  by_cases hnm : n = m
  · subst hnm
    have hz1 : decide ((n : Int) ≠ (n : Int)) = false := by simp
    go_enter Tryz.func220, Tryz.ntmps220
    go_wp2_with fail
    go_loopw [5] (fun i wr => ∃ k : Nat, k ≤ n ∧ i = .int .i64 k ∧ Hid (q = sameT (xs.drop k) (ys.drop k)) ∧ Ext w wr) (fun i _ => n - (intOf i).toNat)
    case atStart => exact ⟨0, Nat.zero_le _, rfl, Lib.hid (by rw [List.drop_zero, List.drop_zero, HQ.out]), Kp.refl _ _⟩
    case round =>
      obtain ⟨k, hk, rfl, HS, hx⟩ := hrel
      rename World => wo
      by_cases hlt : k < n
      · have hd3 : decide ((k : Int) < (n : Int)) = true := decide_eq_true (by omega)
        have hkx : k < xs.length := by have := HN.out; omega
        have hky : k < ys.length := by have := HM.out; omega
        obtain ⟨b, off, rfl, _, hb, c0⟩ := (HA.out wo hx).rd.text hkx
        obtain ⟨b', off', rfl, _, hb', d0⟩ := (HB.out wo hx).rd.text hky
        have hstep := sameT_drop hkx hky
        obtain ⟨x, hxx⟩ : ∃ x, xs[k] = x := ⟨_, rfl⟩
        obtain ⟨y, hyy⟩ : ∃ y, ys[k] = y := ⟨_, rfl⟩
        rw [hxx] at c0 hstep
        rw [hyy] at d0 hstep
        have HST := Lib.hid hstep
        have hlt' : (k : Int) < (n : Int) := by omega
        have h0 : (0 : Int) ≤ (k : Int) := by omega
        have hw : IntKind.i64.wrap ((k : Int) + 1) = (k : Int) + 1 := IntWalk.i64_in _ (by omega)
        clear hxx hyy hkx hky hstep
        cases he : (x.toList == y.toList) with
        | true =>
          have HS2 : Hid (q = sameT (xs.drop (k + 1)) (ys.drop (k + 1))) := Lib.hid (by rw [HS.out, HST.out, he]; rfl)
          clear HS HST
          go_wp2_with fail
          go_quiet (fail)
          go_wp2_with fail
          go_roundw
          case rel => exact ⟨k + 1, by omega, by go_num, HS2, hx.drewN _⟩
          case measure => simp [intOf]; omega
        | false =>
          have HS2 : Hid (q = false) := Lib.hid (by rw [HS.out, HST.out, he]; rfl)
          clear HS HST
          go_wp2_with fail
          go_quiet (fail)
          go_wp2_with fail
          go_ret
          exact ⟨by rw [HS2.out]; rfl, hx.drewN _⟩
      · have hd3 : decide ((k : Int) < (n : Int)) = false := decide_eq_false (by omega)
        have HS2 : Hid (q = true) := Lib.hid (by
          rw [HS.out, List.drop_of_length_le (by have := HN.out; omega), List.drop_of_length_le (by have := HM.out; omega)]
          rfl)
        clear HS
        go_wp2_with fail
        go_ret
        exact ⟨by rw [HS2.out]; rfl, hx⟩
  · have hz1 : decide ((n : Int) = (m : Int)) = false := decide_eq_false (by omega)
    have hz2 : ¬ n = m := hnm
    have hz3 : ((n : Int) == (m : Int)) = false := by rw [beq_eq_false_iff_ne]; omega
    have hz4 : (n == m) = false := by rw [beq_eq_false_iff_ne]; exact hnm
    have hz5 : ((n : Int) != (m : Int)) = true := by rw [bne, hz3]; rfl
    have hz6 : (n != m) = true := by rw [bne, hz4]; rfl
    have HS2 : Hid (q = false) := Lib.hid (by
      rw [← HQ.out]
      unfold sameT
      exact decide_eq_false fun e => hnm (by rw [← HN.out, ← HM.out, e]))
    go_enter Tryz.func220, Tryz.ntmps220
    go_wp2_with fail
    go_ret
    exact ⟨by rw [HS2.out]; rfl, Kp.refl _ _⟩

/-- A table's row's header: the last row was made first. -/
def hdrD (g na mb i : Nat) : Value := .slice (some ⟨g + 1 + (na - i), 0, none⟩) mb mb
/-- The table's rows from p on. -/
structure TabD (w : World) (g na mb p : Nat) (f : Nat → Nat → Nat) : Prop where
  hd : Blk w g 40 (rowOf (na + 1) fun i => if p ≤ i then hdrD g na mb i else .slice none 0 0)
  row : ∀ i, p ≤ i → i ≤ na → Blk w (g + 1 + (na - i)) 3 (rowOf mb fun j => .int .i64 (f i j))
theorem TabD.kp {w w' : World} {g na mb p : Nat} {f : Nat → Nat → Nat} {S : Fp} (h : TabD w g na mb p f) (hk : Kp S w w') (hs : ∀ k, g ≤ k → k ≤ g + 1 + na → S k) : TabD w' g na mb p f :=
  ⟨h.hd.kp hk (hs _ (Nat.le_refl _) (by omega)), fun i hp hi => (h.row i hp hi).kp hk (hs _ (by omega) (by omega))⟩
theorem TabD.drewN_ {w : World} {g na mb p : Nat} {f : Nat → Nat → Nat} (h : TabD w g na mb p f) (n : Nat) : TabD (w.drewN n) g na mb p f := ⟨h.hd, h.row⟩
theorem TabD.cellH {w : World} {g na mb p : Nat} {f : Nat → Nat → Nat} (h : TabD w g na mb p f) {i : Nat} (hp : p ≤ i) (hi : i ≤ na) : w.cell? ⟨g, i, none⟩ = some (.slice (some ⟨g + 1 + (na - i), 0, none⟩) mb mb) := by
  rw [h.hd.cell i, rowOf_get _ (by omega), if_pos hp]; rfl
theorem TabD.cellR {w : World} {g na mb p : Nat} {f : Nat → Nat → Nat} (h : TabD w g na mb p f) {i j : Nat} (hp : p ≤ i) (hi : i ≤ na) (hj : j < mb) : w.cell? ⟨g + 1 + (na - i), j, none⟩ = some (.int .i64 (f i j)) := by
  rw [(h.row i hp hi).cell j, rowOf_get _ hj]
theorem TabD.set {w : World} {g na mb p : Nat} {f f' : Nat → Nat → Nat} (h : TabD w g na mb p f) {i j v : Nat} (hp : p ≤ i) (hi : i ≤ na) (hf : ∀ i' j', p ≤ i' → i' ≤ na → j' < mb → f' i' j' = if i' = i ∧ j' = j then v else f i' j') : TabD (w.setCell ⟨g + 1 + (na - i), j, none⟩ (.int .i64 v)) g na mb p f' := by
  refine ⟨h.hd.far (by simp; omega) _, fun k hk hk' => ?_⟩
  by_cases he : k = i
  · subst he
    have := (h.row k hk hk').set_ j (.int .i64 v)
    rw [rowOf_set] at this
    rw [rowOf_congr (g := fun j' => if j' = j then .int .i64 v else .int .i64 (f k j')) fun j' hj' => by rw [hf k j' hk hk' hj']; by_cases hh : j' = j <;> simp [hh]]
    exact this
  · rw [rowOf_congr (g := fun j' => .int .i64 (f k j')) fun j' hj' => by rw [hf k j' hk hk' hj', if_neg (by omega)]]
    exact (h.row k hk hk').far (by simp; omega) _
theorem TabD.congr {w : World} {g na mb p : Nat} {f f' : Nat → Nat → Nat} (h : TabD w g na mb p f) (hf : ∀ i' j', p ≤ i' → i' ≤ na → j' < mb → f' i' j' = f i' j') : TabD w g na mb p f' :=
  ⟨h.hd, fun i hp hi => by rw [rowOf_congr (g := fun j => .int .i64 (f i j)) fun j hj => by rw [hf i j hp hi hj]]; exact h.row i hp hi⟩
/-- A new row, ahead of the others. -/
theorem TabD.more {w : World} {g na mb p : Nat} {f : Nat → Nat → Nat} (h : TabD w g na mb (p + 1) f) (hp : p ≤ na) (hsz : w.heap.size = g + 1 + (na - p)) :
    TabD ((w.alloc (.cells (rowOf mb fun _ => .int .i64 0) 3)).setCell ⟨g, p, none⟩ (.slice (some ⟨w.heap.size, 0, none⟩) mb mb)) g na mb p (fun i j => if i = p then 0 else f i j) := by
  have hx : Ext w (w.alloc (.cells (rowOf mb fun _ => .int .i64 0) 3)) := (Kp.refl _ w).alloc _
  refine ⟨?_, fun i hi hi' => ?_⟩
  · have h1 := (h.hd.ext hx).set_ p (.slice (some ⟨w.heap.size, 0, none⟩) mb mb)
    rw [rowOf_set] at h1
    have e : rowOf (na + 1) (fun k => if p ≤ k then hdrD g na mb k else .slice none 0 0) = rowOf (na + 1) (fun k => if k = p then .slice (some ⟨w.heap.size, 0, none⟩) mb mb else if p + 1 ≤ k then hdrD g na mb k else .slice none 0 0) := rowOf_congr fun k hk => by
      by_cases he : k = p
      · subst he; rw [if_pos (Nat.le_refl _), if_pos rfl]; unfold hdrD; rw [hsz]
      · rw [if_neg he]
        by_cases hl : p ≤ k
        · rw [if_pos hl, if_pos (by omega)]
        · rw [if_neg hl, if_neg (by omega)]
    rw [e]
    exact h1
  · refine Blk.far ?_ (by simp; omega) _
    by_cases he : i = p
    · subst he
      have e : rowOf mb (fun j => .int .i64 (((fun i' j => if i' = i then 0 else f i' j) i j : Nat) : Int)) = rowOf mb (fun _ => Value.int .i64 0) := rowOf_congr fun j hj => by dsimp only; rw [if_pos rfl]; rfl
      have h := Blk.new w 3 (rowOf mb fun _ => Value.int .i64 0)
      rw [hsz] at h
      rw [e]
      exact h
    · have e : rowOf mb (fun j => .int .i64 (((fun i' j => if i' = p then 0 else f i' j) i j : Nat) : Int)) = rowOf mb (fun j => .int .i64 (f i j)) := rowOf_congr fun j hj => by dsimp only; rw [if_neg he]
      rw [e]
      exact (h.row i (by omega) hi').ext hx

set_option maxHeartbeats 2000000 in
set_option maxRecDepth 100000 in
theorem table4_calls (v u : Value) (xs ys : List ByteArray) (S T : Fp) (w : World) (hA : Rd ES S w v xs) (hB : Rd ES T w u ys) (h1 : xs.length ≤ 400) (h2 : ys.length ≤ 400) :
    Calls Tryz.prog 259 #[v, u] w fun e w' => e = .returned (.slice (some ⟨w.heap.size, 0, none⟩) (xs.length + 1) (xs.length + 1)) ∧ TabD w' w.heap.size xs.length (ys.length + 1) 0 (lcsAt xs ys) ∧ Ext w w' := by
  obtain ⟨A1, c1, rfl, hO1⟩ := hA.open_
  obtain ⟨A2, c2, rfl, hO2⟩ := hB.open_
  obtain ⟨na, hna⟩ : ∃ n, xs.length = n := ⟨_, rfl⟩
  obtain ⟨nb, hnb⟩ : ∃ n, ys.length = n := ⟨_, rfl⟩
  obtain ⟨ma, hma⟩ : ∃ n, na + 1 = n := ⟨_, rfl⟩
  obtain ⟨mb, hmb⟩ : ∃ n, nb + 1 = n := ⟨_, rfl⟩
  rw [hna] at h1 ⊢
  rw [hnb] at h2 ⊢
  rw [hma, hmb]
  have HNA := Lib.hid hna
  have HNB := Lib.hid hnb
  have HMA := Lib.hid hma
  have HMB := Lib.hid hmb
  have HA := Lib.hid fun W (hW : Ext w W) => hO1.kp (hW.mono fun _ _ _ => trivial)
  have HB := Lib.hid fun W (hW : Ext w W) => hO2.kp (hW.mono fun _ _ _ => trivial)
  have m1 : ∀ W : World, (Instr.makeSlice 263 (.int .i64 ((na : Int) + 1)) (.int .i64 ((na : Int) + 1))).run Tryz.prog W = .ok (.slice (some ⟨W.heap.size, 0, none⟩) ma ma) (W.alloc (.cells (rowOf ma fun _ => .slice none 0 0) 40)) := by
    intro W
    have h := run_make_row' (P := Tryz.prog) 263 40 (.slice none 0 0) 24 Tryz.underlying263 (by kernel_rfl) (by rfl) .i64 .i64 (na + 1) (by omega) (by omega) W
    rw [madeCells_row, hma] at h
    rw [← hma, Int.natCast_add] at h
    rw [← hma]; exact h
  have m2 : ∀ W : World, (Instr.makeSlice 40 (.int .i64 ((nb : Int) + 1)) (.int .i64 ((nb : Int) + 1))).run Tryz.prog W = .ok (.slice (some ⟨W.heap.size, 0, none⟩) mb mb) (W.alloc (.cells (rowOf mb fun _ => .int .i64 0) 3)) := by
    intro W
    have h := run_make_row' (P := Tryz.prog) 40 3 (.int .i64 0) 8 Tryz.underlying40 (by kernel_rfl) (by rfl) .i64 .i64 (nb + 1) (by omega) (by omega) W
    rw [madeCells_row, hmb] at h
    rw [← hmb, Int.natCast_add] at h
    rw [← hmb]; exact h
  have hma4 : ma ≤ 401 := by omega
  have hmb4 : mb ≤ 401 := by omega
  clear hA hB hO1 hO2 hna hnb hma hmb
  go_enter Tryz.func259, Tryz.ntmps259
  go_wp2_with fail
  have hT0 : TabD (w.alloc (.cells (rowOf ma fun _ => .slice none 0 0) 40)) w.heap.size na mb ma (lcsAt xs ys) := by
    refine ⟨?_, fun i h1 h2 => by have := HMA.out; omega⟩
    have h := Blk.new w 40 (rowOf ma fun _ => .slice none 0 0)
    have e : rowOf ma (fun i => if ma ≤ i then hdrD w.heap.size na mb i else .slice none 0 0) = rowOf ma (fun _ => .slice none 0 0) := rowOf_congr fun k hk => by rw [if_neg (by omega)]
    rw [HMA.out, e]
    exact h
  have HT0 := Lib.hid hT0
  clear hT0
  go_loopw [6] (fun i wr => ∃ p : Nat, p ≤ ma ∧ i = .int .i64 ((p : Int) - 1) ∧ TabD wr w.heap.size na mb p (lcsAt xs ys) ∧ Hid (wr.heap.size = w.heap.size + 1 + (ma - p)) ∧ Ext w wr) (fun i _ => ((intOf i) + 1).toNat)
  case atStart => exact ⟨ma, Nat.le_refl _, by rw [show (ma : Int) - 1 = (na : Int) by have := HMA.out; omega], HT0.out, Lib.hid (by simp), (Kp.refl _ w).alloc _⟩
  case round =>
    obtain ⟨p, hp, rfl, hT, HSZ, hx⟩ := hrel
    rename World => wo
    have HT := Lib.hid hT
    clear hT HT0
    rcases p with _ | p
    · rw [show ((0 : Nat) : Int) - 1 = -1 from rfl]
      go_wp2_with fail
      go_ret
      exact ⟨rfl, HT.out, hx⟩
    · rw [show ((p + 1 : Nat) : Int) - 1 = (p : Int) by omega]
      have hd : decide ((0 : Int) ≤ (p : Int)) = true := decide_eq_true (by omega)
      have hpn : p ≤ na := by have := HMA.out; omega
      have hsz : Hid (wo.heap.size = w.heap.size + 1 + (na - p)) := Lib.hid (by have := HSZ.out; have := HMA.out; omega)
      have HTM := Lib.hid (HT.out.more hpn hsz.out)
      have c0 : (wo.alloc (.cells (rowOf mb fun _ => .int .i64 0) 3)).cell? ⟨w.heap.size, p, none⟩ = some (.slice none 0 0) := by
        have h := (HT.out.hd.ext ((Kp.refl _ wo).alloc (.cells (rowOf mb fun _ => .int .i64 0) 3))).cell p
        rw [rowOf_get _ (by have := HMA.out; omega), if_neg (by omega)] at h
        exact h
      have f0 := (HT.out.hd.ext ((Kp.refl _ wo).alloc (.cells (rowOf mb fun _ => .int .i64 0) 3))).frozen p
      have hx3 : Ext w ((wo.alloc (.cells (rowOf mb fun _ => .int .i64 0) 3)).setCell ⟨w.heap.size, p, none⟩ (.slice (some ⟨wo.heap.size, 0, none⟩) mb mb)) := (hx.alloc _).setCell (.inl (Nat.le_refl _)) _
      have HS3 : Hid (((wo.alloc (.cells (rowOf mb fun _ => .int .i64 0) 3)).setCell ⟨w.heap.size, p, none⟩ (.slice (some ⟨wo.heap.size, 0, none⟩) mb mb)).heap.size = w.heap.size + 1 + (ma - p)) := Lib.hid (by have := hsz.out; have := HMA.out; simp; omega)
      have i7 : (p : Int) < (ma : Int) := by have := HMA.out; omega
      have i8 : (0 : Int) ≤ (p : Int) := by omega
      clear HT hx hsz HSZ
      go_wp2_with fail
      clear c0 f0
      generalize (wo.alloc (.cells (rowOf mb fun _ => .int .i64 0) 3)).setCell ⟨w.heap.size, p, none⟩ (.slice (some ⟨wo.heap.size, 0, none⟩) mb mb) = w4 at HTM hx3 HS3 ⊢
      go_loopw [7] (fun j wr => ∃ q : Nat, q ≤ nb ∧ j = .int .i64 ((q : Int) - 1) ∧ TabD wr w.heap.size na mb p (fun i' j' => if p + 1 ≤ i' ∨ (p < na ∧ q ≤ j') then lcsAt xs ys i' j' else 0) ∧ Hid (wr.heap.size = w.heap.size + 1 + (ma - p)) ∧ Ext w wr) (fun j _ => ((intOf j) + 1).toNat)
      case atStart =>
        refine ⟨nb, Nat.le_refl _, rfl, HTM.out.congr fun i' j' h1 h2 h3 => ?_, HS3, hx3⟩
        by_cases he : i' = p
        · rw [if_pos he]
          by_cases hh : p < na ∧ nb ≤ j'
          · rw [if_pos (.inr hh), lcsAt_end_b _ _ _ _ (by rw [HNB.out]; exact hh.2)]
          · rw [if_neg (by omega)]
        · rw [if_neg he, if_pos (.inl (by omega))]
      case round =>
        obtain ⟨q, hq, rfl, hT3, HSZ3, hx3⟩ := hrel
        rename World => wq
        have HT3 := Lib.hid hT3
        clear hT3 HTM HS3
        by_cases hpl : p < na
        · have hd1 : decide ((p : Int) < (na : Int)) = true := decide_eq_true (by omega)
          have hpk : p + 1 < ma := by have := HMA.out; omega
          rcases q with _ | q
          · rw [show ((0 : Nat) : Int) - 1 = -1 from rfl]
            have HT4 : Hid (TabD wq w.heap.size na mb p (lcsAt xs ys)) := Lib.hid (HT3.out.congr fun i' j' h1 h2 h3 => by
              rw [if_pos (.inr ⟨hpl, Nat.zero_le _⟩)])
            clear HT3
            go_wp2_with fail
            go_roundw
            case rel => exact ⟨p, by omega, by go_num, HT4.out, HSZ3, hx3⟩
            case measure => first | (simp [intOf]; omega) | simp [intOf]
          · rw [show ((q + 1 : Nat) : Int) - 1 = (q : Int) by omega]
            have hd2 : decide ((0 : Int) ≤ (q : Int)) = true := decide_eq_true (by omega)
            have hqm : q + 1 < mb := by have := HMB.out; omega
            have hpx : p < xs.length := by have := HNA.out; omega
            have hqx : q < ys.length := by have := HNB.out; omega
            obtain ⟨b1, o1, rfl, _, hb1, c0⟩ := (HA.out wq hx3).rd.text hpx
            obtain ⟨b2, o2, rfl, _, hb2, d0⟩ := (HB.out wq hx3).rd.text hqx
            have HST := Lib.hid (lcsAt_step xs ys hpx hqx)
            obtain ⟨x, hxx⟩ : ∃ x, xs[p] = x := ⟨_, rfl⟩
            obtain ⟨y, hyy⟩ : ∃ y, ys[q] = y := ⟨_, rfl⟩
            rw [hxx] at c0 HST
            rw [hyy] at d0 HST
            have i1 : (0 : Int) ≤ (p : Int) := by omega
            have i2 : (p : Int) < (na : Int) := by omega
            have i3 : (0 : Int) ≤ (q : Int) := by omega
            have i4 : (q : Int) < (nb : Int) := by omega
            clear hxx hyy hpx hqx
            go_wp2_with fail
            go_quiet (fail)
            have HT3' : Hid (TabD (wq.drewN nq) w.heap.size na mb p (fun i' j' => if p + 1 ≤ i' ∨ (p < na ∧ q + 1 ≤ j') then lcsAt xs ys i' j' else 0)) := Lib.hid (TabD.drewN_ HT3.out nq)
            have hx3' : Ext w (wq.drewN nq) := hx3.drewN nq
            have HSZ3' : Hid ((wq.drewN nq).heap.size = w.heap.size + 1 + (ma - p)) := Lib.hid HSZ3.out
            clear HT3 hx3 HSZ3 c0 d0
            have HT3 := HT3'
            have hx3 := hx3'
            have HSZ3 := HSZ3'
            clear HT3' hx3' HSZ3'
            generalize wq.drewN nq = wq at HT3 hx3 HSZ3 ⊢
            cases hxy : (x.toList == y.toList) with
            | true =>
              have heq : (x = y) ↔ True := by constructor <;> intro _ <;> first | trivial | exact toList_inj (by simpa using hxy)
              have HV : Hid (lcsAt xs ys p q = 1 + lcsAt xs ys (p + 1) (q + 1)) := Lib.hid (by have h := HST.out; rw [if_pos (heq.2 trivial)] at h; omega)
              have HF11 : Hid (wq.cell? ⟨w.heap.size + 1 + (na - (p + 1)), q + 1, none⟩ = some (.int .i64 (lcsAt xs ys (p + 1) (q + 1)))) := Lib.hid (by have h := HT3.out.cellR (i := p + 1) (j := q + 1) (by omega) (by omega) (by omega); rw [if_pos (.inl (Nat.le_refl _))] at h; exact h)
              have c2 := HT3.out.cellH (i := p) (by omega) (by omega)
              have c3 := HT3.out.cellH (i := p + 1) (by omega) (by omega)
              have f2 := (HT3.out.row p (by omega) (by omega)).frozen q
              have e2 := HT3.out.cellR (i := p) (j := q) (by omega) (by omega) (by omega)
              have hl := lcsAt_le xs ys (p + 1) (q + 1)
              have HL : Hid (lcsAt xs ys (p + 1) (q + 1) ≤ 400) := Lib.hid (by have := HNA.out; omega)
              obtain ⟨L1, hL1⟩ : ∃ L, lcsAt xs ys (p + 1) (q + 1) = L := ⟨_, rfl⟩
              rw [hL1] at HF11 HL HV
              have c4 := HF11.out
              have hL2 := HL.out
              clear hl hL1 HF11 HL
              have HT5 : Hid (TabD (wq.setCell ⟨w.heap.size + 1 + (na - p), q, none⟩ (.int .i64 (1 + (L1 : Int)))) w.heap.size na mb p (fun i' j' => if p + 1 ≤ i' ∨ (p < na ∧ q ≤ j') then lcsAt xs ys i' j' else 0)) := Lib.hid (HT3.out.set (v := 1 + L1) (by omega) (by omega) fun i' j' h1 h2 h3 => by
                by_cases he : i' = p ∧ j' = q
                · obtain ⟨rfl, rfl⟩ := he
                  rw [if_pos (.inr ⟨hpl, Nat.le_refl _⟩), if_pos ⟨rfl, rfl⟩]; exact HV.out
                · rw [if_neg he]
                  by_cases h4 : p + 1 ≤ i' ∨ (p < na ∧ q + 1 ≤ j')
                  · rw [if_pos h4, if_pos (by omega)]
                  · rw [if_neg h4, if_neg (by omega)])
              have HX5 := Lib.hid (hx3.setCell (p := ⟨w.heap.size + 1 + (na - p), q, none⟩) (.inl (by simp; omega)) (.int .i64 (1 + (L1 : Int))))
              have j1 : (0 : Int) ≤ (p : Int) + 1 := by omega
              have j2 : (p : Int) + 1 < (ma : Int) := by omega
              have j3 : (0 : Int) ≤ (q : Int) + 1 := by omega
              have j4 : (q : Int) + 1 < (mb : Int) := by omega
              have j5 : (p : Int) < (ma : Int) := by omega
              have j6 : (q : Int) < (mb : Int) := by omega
              have t1 : ((p : Int) + 1).toNat = p + 1 := by omega
              have t2 : ((q : Int) + 1).toNat = q + 1 := by omega
              clear heq HST HT3
              go_wp2_with fail
              have w3 : IntKind.i64.wrap (1 + (L1 : Int)) = 1 + (L1 : Int) := IntWalk.i64_in _ (by omega)
              have b1' : -9223372036854775808 ≤ (p : Int) + 1 ∧ (p : Int) + 1 ≤ 9223372036854775807 := by omega
              have b2' : -9223372036854775808 ≤ (q : Int) + 1 ∧ (q : Int) + 1 ≤ 9223372036854775807 := by omega
              have w1 : IntKind.i64.wrap ((p : Int) + 1) = (p : Int) + 1 := IntWalk.i64_in _ b1'
              have w2 := (IntWalk.i64_in ((q : Int) + 1) b2' : IntKind.i64.wrap ((q : Int) + 1) = (q : Int) + 1)
              go_still_tail 16, (by kernel_rfl)
              clear w3 w1 w2 b1' b2'
              go_wp2_with fail
              go_roundw
              case rel => exact ⟨q, by omega, by go_num, by first | exact HT5.out | exact ⟨HT5.out.hd, HT5.out.row⟩, Lib.hid (by first | exact HSZ3.out | (simp; exact HSZ3.out)), by first | exact HX5.out | exact HX5.out.drew | exact ⟨HX5.out.os, HX5.out.tape, HX5.out.output, HX5.out.size, HX5.out.block⟩⟩
              case measure => first | (simp [intOf]; omega) | simp [intOf]
            | false =>
              have heq : ¬ x = y := fun e => by rw [e] at hxy; simp at hxy
              have HV : Hid (lcsAt xs ys p q = max (lcsAt xs ys (p + 1) q) (lcsAt xs ys p (q + 1))) := Lib.hid (by have h := HST.out; rw [if_neg heq] at h; exact h)
              have HF10 : Hid (wq.cell? ⟨w.heap.size + 1 + (na - (p + 1)), q, none⟩ = some (.int .i64 (lcsAt xs ys (p + 1) q))) := Lib.hid (by have h := HT3.out.cellR (i := p + 1) (j := q) (by omega) (by omega) (by omega); rw [if_pos (.inl (Nat.le_refl _))] at h; exact h)
              have HF01 : Hid (wq.cell? ⟨w.heap.size + 1 + (na - p), q + 1, none⟩ = some (.int .i64 (lcsAt xs ys p (q + 1)))) := Lib.hid (by have h := HT3.out.cellR (i := p) (j := q + 1) (by omega) (by omega) (by omega); rw [if_pos (.inr ⟨hpl, Nat.le_refl _⟩)] at h; exact h)
              have c2 := HT3.out.cellH (i := p) (by omega) (by omega)
              have c3 := HT3.out.cellH (i := p + 1) (by omega) (by omega)
              have f2 := (HT3.out.row p (by omega) (by omega)).frozen q
              have e2 := HT3.out.cellR (i := p) (j := q) (by omega) (by omega) (by omega)
              have hl := lcsAt_le xs ys (p + 1) q
              have hl' := lcsAt_le xs ys p (q + 1)
              have HL : Hid (lcsAt xs ys (p + 1) q ≤ 400 ∧ lcsAt xs ys p (q + 1) ≤ 400) := Lib.hid (by have := HNA.out; omega)
              obtain ⟨L1, hL1⟩ : ∃ L, lcsAt xs ys (p + 1) q = L := ⟨_, rfl⟩
              obtain ⟨L2, hL2⟩ : ∃ L, lcsAt xs ys p (q + 1) = L := ⟨_, rfl⟩
              rw [hL1] at HF10 HL HV
              rw [hL2] at HF01 HL HV
              have c4 := HF10.out
              have c5 := HF01.out
              have hmx : max (L1 : Int) (L2 : Int) = ((max L1 L2 : Nat) : Int) := by omega
              obtain ⟨L3, hL3⟩ : ∃ L, max L1 L2 = L := ⟨_, rfl⟩
              rw [hL3] at hmx HV
              clear hl hl' hL1 hL2 hL3 HF10 HF01 HL
              have HT5 : Hid (TabD (wq.setCell ⟨w.heap.size + 1 + (na - p), q, none⟩ (.int .i64 (L3 : Int))) w.heap.size na mb p (fun i' j' => if p + 1 ≤ i' ∨ (p < na ∧ q ≤ j') then lcsAt xs ys i' j' else 0)) := Lib.hid (HT3.out.set (v := L3) (by omega) (by omega) fun i' j' h1 h2 h3 => by
                by_cases he : i' = p ∧ j' = q
                · obtain ⟨rfl, rfl⟩ := he
                  rw [if_pos (.inr ⟨hpl, Nat.le_refl _⟩), if_pos ⟨rfl, rfl⟩]; exact HV.out
                · rw [if_neg he]
                  by_cases h4 : p + 1 ≤ i' ∨ (p < na ∧ q + 1 ≤ j')
                  · rw [if_pos h4, if_pos (by omega)]
                  · rw [if_neg h4, if_neg (by omega)])
              have HX5 := Lib.hid (hx3.setCell (p := ⟨w.heap.size + 1 + (na - p), q, none⟩) (.inl (by simp; omega)) (.int .i64 (L3 : Int)))
              have j1 : (0 : Int) ≤ (p : Int) + 1 := by omega
              have j2 : (p : Int) + 1 < (ma : Int) := by omega
              have j3 : (0 : Int) ≤ (q : Int) + 1 := by omega
              have j4 : (q : Int) + 1 < (mb : Int) := by omega
              have j5 : (p : Int) < (ma : Int) := by omega
              have j6 : (q : Int) < (mb : Int) := by omega
              have t1 : ((p : Int) + 1).toNat = p + 1 := by omega
              have t2 : ((q : Int) + 1).toNat = q + 1 := by omega
              clear heq HST HT3
              go_wp2_with fail
              have b1' : -9223372036854775808 ≤ (p : Int) + 1 ∧ (p : Int) + 1 ≤ 9223372036854775807 := by omega
              have b2' : -9223372036854775808 ≤ (q : Int) + 1 ∧ (q : Int) + 1 ≤ 9223372036854775807 := by omega
              have w1 : IntKind.i64.wrap ((p : Int) + 1) = (p : Int) + 1 := IntWalk.i64_in _ b1'
              have w2 := (IntWalk.i64_in ((q : Int) + 1) b2' : IntKind.i64.wrap ((q : Int) + 1) = (q : Int) + 1)
              go_still_tail 23, (by kernel_rfl)
              clear w1 w2 b1' b2'
              go_wp2_with fail
              go_roundw
              case rel => exact ⟨q, by omega, by go_num, by first | exact HT5.out | exact ⟨HT5.out.hd, HT5.out.row⟩, Lib.hid (by first | exact HSZ3.out | (simp; exact HSZ3.out)), by first | exact HX5.out | exact HX5.out.drew | exact ⟨HX5.out.os, HX5.out.tape, HX5.out.output, HX5.out.size, HX5.out.block⟩⟩
              case measure => first | (simp [intOf]; omega) | simp [intOf]

        · have hd1 : decide ((p : Int) < (na : Int)) = false := decide_eq_false (by omega)
          have HT4 : Hid (TabD wq w.heap.size na mb p (lcsAt xs ys)) := Lib.hid (HT3.out.congr fun i' j' h1 h2 h3 => by
            by_cases hh : p + 1 ≤ i'
            · rw [if_pos (.inl hh)]
            · rw [if_neg (by omega), lcsAt_end_a _ _ _ _ (by rw [HNA.out]; omega)])
          clear HT3
          rcases q with _ | q
          · rw [show ((0 : Nat) : Int) - 1 = -1 from rfl]
            go_wp2_with fail
            go_roundw
            case rel => exact ⟨p, by omega, by go_num, HT4.out, HSZ3, hx3⟩
            case measure => first | (simp [intOf]; omega) | simp [intOf]
          · rw [show ((q + 1 : Nat) : Int) - 1 = (q : Int) by omega]
            have hd2 : decide ((0 : Int) ≤ (q : Int)) = true := decide_eq_true (by omega)
            go_wp2_with fail
            go_roundw
            case rel => exact ⟨p, by omega, by go_num, HT4.out, HSZ3, hx3⟩
            case measure => first | (simp [intOf]; omega) | simp [intOf]


set_option maxHeartbeats 2000000 in
set_option maxRecDepth 100000 in
/-- Pairs. -/
theorem pairs4_calls (v u : Value) (xs ys : List ByteArray) (S T : Fp) (w : World) (hA : Rd ES S w v xs) (hB : Rd ES T w u ys) (h1 : xs.length ≤ 400) (h2 : ys.length ≤ 400) :
    Calls Tryz.prog 253 #[v, u] w fun e w' => ∃ r, e = .returned r ∧ New EP 260 w.heap.size w' r (pairsF xs ys) ∧ Ext w w' := by
  obtain ⟨A1, c1, rfl, hO1⟩ := hA.open_
  obtain ⟨A2, c2, rfl, hO2⟩ := hB.open_
  have hTab := table4_calls _ _ xs ys S T w hA hB h1 h2
  obtain ⟨na, hna⟩ : ∃ n, xs.length = n := ⟨_, rfl⟩
  obtain ⟨nb, hnb⟩ : ∃ n, ys.length = n := ⟨_, rfl⟩
  rw [hna] at h1 hTab ⊢
  rw [hnb] at h2 hTab ⊢
  have HNA := Lib.hid hna
  have HNB := Lib.hid hnb
  have HTB := Lib.hid hTab
  have HA := Lib.hid fun W (hW : Ext w W) => hO1.kp (hW.mono fun _ _ _ => trivial)
  have HB := Lib.hid fun W (hW : Ext w W) => hO2.kp (hW.mono fun _ _ _ => trivial)
  clear hA hB hO1 hO2 hna hnb hTab
  go_enter Tryz.func253, Tryz.ntmps253
  go_wp2_with fail
  refine (great4_calls _ _ na nb _ _ h1 h2 w).mono ?_
  rintro e w' ⟨rfl, rfl⟩
  go_wp2_with fail
  refine HTB.out.mono ?_
  clear HTB
  rintro e w1 ⟨rfl, hT, hx1⟩
  have HT := Lib.hid fun W (hW : Ext w1 W) => hT.kp hW (fun _ _ _ => trivial)
  have HMA : Hid (∃ ma, na + 1 = ma) := Lib.hid ⟨_, rfl⟩
  obtain ⟨ma, hma⟩ := HMA.out
  obtain ⟨mb, hmb⟩ : ∃ mb, nb + 1 = mb := ⟨_, rfl⟩
  rw [hmb] at HT
  rw [hma]
  have HA1 := Lib.hid hma
  have HB1 := Lib.hid hmb
  clear hT hma hmb HMA
  go_wp2_with fail
  go_loopw [6, 7, 8] (fun l i j wr => ∃ (p q : Nat) (acc : List (Nat × Nat)), p ≤ na ∧ q ≤ nb ∧ i = .int .i64 p ∧ j = .int .i64 q ∧ acc.length ≤ p ∧ pairsF xs ys = acc ++ pairsAt xs ys p q ∧ New EP 260 w1.heap.size wr l acc ∧ Ext w1 wr) (fun l i j _ => (na - (intOf i).toNat) + (nb - (intOf j).toNat))
  case atStart => exact ⟨0, 0, [], Nat.zero_le _, Nat.zero_le _, rfl, rfl, Nat.le_refl _, rfl, New.nil _ _ _, Kp.refl _ _⟩
  case round =>
    obtain ⟨p, q, acc, hp, hq, rfl, rfl, hal, hpa, hN, hx⟩ := hrel
    rename World => wo
    obtain ⟨Ao, no, co, hl⟩ := hN.1.slice
    subst hl
    have HPA := Lib.hid hpa
    clear hpa
    by_cases hlp : p < na
    · have hd1 : decide ((p : Int) < (na : Int)) = true := decide_eq_true (by omega)
      by_cases hlq : q < nb
      · have hd2 : decide ((q : Int) < (nb : Int)) = true := decide_eq_true (by omega)
        have hpx : p < xs.length := by have := HNA.out; omega
        have hqx : q < ys.length := by have := HNB.out; omega
        obtain ⟨b1, o1, rfl, _, hb1, c0⟩ := (HA.out wo (hx1.trans hx)).rd.text hpx
        obtain ⟨b2, o2, rfl, _, hb2, d0⟩ := (HB.out wo (hx1.trans hx)).rd.text hqx
        have HST := Lib.hid (pairsAt_step xs ys hpx hqx)
        obtain ⟨x, hxx⟩ : ∃ x, xs[p] = x := ⟨_, rfl⟩
        obtain ⟨y, hyy⟩ : ∃ y, ys[q] = y := ⟨_, rfl⟩
        rw [hxx] at c0 HST
        rw [hyy] at d0 HST
        have i1 : (0 : Int) ≤ (p : Int) := by omega
        have i2 : (p : Int) < (na : Int) := by omega
        have i3 : (0 : Int) ≤ (q : Int) := by omega
        have i4 : (q : Int) < (nb : Int) := by omega
        clear hxx hyy hpx hqx
        go_wp2_with fail
        go_quiet (fail)
        have hx' : Ext w1 (wo.drewN nq) := hx.drewN nq
        have hN' : New EP 260 w1.heap.size (wo.drewN nq) (.slice Ao no co) acc := hN.ext ((Kp.refl _ wo).drewN nq)
        clear hx hN c0 d0
        generalize wo.drewN nq = wq at hx' hN' ⊢
        cases hxy : (x.toList == y.toList) with
        | true =>
          have HE : Hid (pairsF xs ys = (acc ++ [(p, q)]) ++ pairsAt xs ys (p + 1) (q + 1)) := Lib.hid (by
            have h := HST.out
            rw [if_pos (toList_inj (by simpa using hxy))] at h
            rw [HPA.out, h]; simp)
          clear HST HPA
          go_wp2_with (at_builtin; refine stop ?_)
          refine list_append1 (u := .slice (some ⟨wq.heap.size, 0, none⟩) 1 1) tiP (p, q) rfl rfl rfl hN' hx' rfl rfl rfl (by omega) (by unfold maxLen; omega) ?_
          intro v' w' hN2 hx2
          obtain ⟨A3, n3, c3, hv3⟩ := hN2.1.slice
          subst hv3
          have HL : Hid ((acc ++ [(p, q)]).length ≤ p + 1) := Lib.hid (by rw [List.length_append]; simp; omega)
          obtain ⟨ac2, hac⟩ : ∃ l, acc ++ [(p, q)] = l := ⟨_, rfl⟩
          rw [hac] at HE HL hN2
          clear hN' hx' hac hal
          go_wp2_with fail
          go_roundw
          case rel => exact ⟨p + 1, q + 1, ac2, by omega, by omega, by go_num, by go_num, HL.out, HE.out, hN2, hx2⟩
          case measure => simp [intOf]; omega
        | false =>
          have HNE : Hid (¬ x = y) := Lib.hid fun e => by rw [e] at hxy; simp at hxy
          have T1 := (HT.out wq hx').cellH (i := p) (by omega) (by have := HA1.out; omega)
          have T2 := (HT.out wq hx').cellH (i := p + 1) (by omega) (by have := HA1.out; omega)
          have T3 := (HT.out wq hx').cellR (i := p + 1) (j := q) (by omega) (by have := HA1.out; omega) (by have := HB1.out; omega)
          have T4 := (HT.out wq hx').cellR (i := p) (j := q + 1) (by omega) (by have := HA1.out; omega) (by have := HB1.out; omega)
          have HST2 := HST
          obtain ⟨L1, hL1⟩ : ∃ L, lcsAt xs ys (p + 1) q = L := ⟨_, rfl⟩
          obtain ⟨L2, hL2⟩ : ∃ L, lcsAt xs ys p (q + 1) = L := ⟨_, rfl⟩
          rw [hL1] at T3 HST2
          rw [hL2] at T4 HST2
          have j1 : (0 : Int) ≤ (p : Int) + 1 := by omega
          have j2 : (p : Int) + 1 < (ma : Int) := by have := HA1.out; omega
          have j3 : (0 : Int) ≤ (q : Int) + 1 := by omega
          have j4 : (q : Int) + 1 < (mb : Int) := by have := HB1.out; omega
          have j5 : (p : Int) < (ma : Int) := by omega
          have j6 : (q : Int) < (mb : Int) := by omega
          have t1 : ((p : Int) + 1).toNat = p + 1 := by omega
          have t2 : ((q : Int) + 1).toNat = q + 1 := by omega
          have b1' : -9223372036854775808 ≤ (p : Int) + 1 ∧ (p : Int) + 1 ≤ 9223372036854775807 := by omega
          have b2' : -9223372036854775808 ≤ (q : Int) + 1 ∧ (q : Int) + 1 ≤ 9223372036854775807 := by omega
          have HE : Hid (pairsF xs ys = acc ++ (if L2 ≤ L1 then pairsAt xs ys (p + 1) q else pairsAt xs ys p (q + 1))) := Lib.hid (by
            have h := HST2.out
            rw [if_neg HNE.out] at h
            rw [HPA.out, h])
          clear HST HST2 HPA HNE hL1 hL2
          by_cases hll : L2 ≤ L1
          · have hd3 : decide ((L2 : Int) ≤ (L1 : Int)) = true := decide_eq_true (by omega)
            have HE2 : Hid (pairsF xs ys = acc ++ pairsAt xs ys (p + 1) q) := Lib.hid (by rw [HE.out, if_pos hll])
            have hd4 : decide (L2 ≤ L1) = true := decide_eq_true hll
            clear HE
            go_wp2_with fail
            have w1' : IntKind.i64.wrap ((p : Int) + 1) = (p : Int) + 1 := IntWalk.i64_in _ b1'
            have w2' : IntKind.i64.wrap ((q : Int) + 1) = (q : Int) + 1 := IntWalk.i64_in _ b2'
            go_quiet (fail)
            clear w1' w2' b1' b2'
            go_wp2_with fail
            go_roundw
            case rel => exact ⟨p + 1, q, acc, by omega, by omega, by go_num, by go_num, by omega, HE2.out, hN'.ext ((Kp.refl _ wq).drewN _), hx'.drewN _⟩
            case measure => simp [intOf]; omega
          · have hd3 : decide ((L2 : Int) ≤ (L1 : Int)) = false := decide_eq_false (by omega)
            have hd4 : decide (L2 ≤ L1) = false := decide_eq_false hll
            have hd5 : ¬ L2 ≤ L1 := hll
            have HE2 : Hid (pairsF xs ys = acc ++ pairsAt xs ys p (q + 1)) := Lib.hid (by rw [HE.out, if_neg hll])
            clear HE
            go_wp2_with fail
            have w1' : IntKind.i64.wrap ((p : Int) + 1) = (p : Int) + 1 := IntWalk.i64_in _ b1'
            have w2' : IntKind.i64.wrap ((q : Int) + 1) = (q : Int) + 1 := IntWalk.i64_in _ b2'
            go_quiet (fail)
            clear w1' w2' b1' b2'
            go_wp2_with fail
            go_roundw
            case rel => exact ⟨p, q + 1, acc, by omega, by omega, by go_num, by go_num, by omega, HE2.out, hN'.ext ((Kp.refl _ wq).drewN _), hx'.drewN _⟩
            case measure => simp [intOf]; omega
      · have hd2 : decide ((q : Int) < (nb : Int)) = false := decide_eq_false (by omega)
        have hfin := HPA.out
        rw [pairsAt_end_b _ _ _ _ (by have := HNB.out; omega), List.append_nil] at hfin
        have HF := Lib.hid hfin
        clear hfin
        go_wp2_with fail
        go_ret
        exact ⟨_, rfl, by rw [HF.out]; exact hN.less hx1.size, hx1.trans hx⟩
    · have hd1 : decide ((p : Int) < (na : Int)) = false := decide_eq_false (by omega)
      have hfin := HPA.out
      rw [pairsAt_end_a _ _ _ _ (by have := HNA.out; omega), List.append_nil] at hfin
      have HF := Lib.hid hfin
      clear hfin
      go_wp2_with fail
      go_ret
      exact ⟨_, rfl, by rw [HF.out]; exact hN.less hx1.size, hx1.trans hx⟩


end Go.Proofs.YtgjbfkaepalkiaaGreatDoor

namespace Go.Proofs.YtgjbfkaepalkiaaGreatDoor
open Go.RowKit
set_option linter.unusedVariables false
set_option linter.unusedSimpArgs false
attribute [local go_sem] Oper.semAt_some

def plV (f : Nat → Option Nat) (i : Nat) : Value := .int .i64 (match f i with | some j => (j : Int) | none => -1)
theorem plV_put (f : Nat → Option Nat) (p q n : Nat) : rowOf n (fun k => if k = p then .int .i64 (q : Int) else plV f k) = rowOf n (plV fun x => if x = p then some q else f x) :=
  rowOf_congr fun k _ => by
    show _ = Value.int .i64 (match (if k = p then some q else f k) with | some j => (j : Int) | none => -1)
    by_cases h : k = p
    · rw [if_pos h, if_pos h]
    · rw [if_neg h, if_neg h]; rfl

set_option maxHeartbeats 1000000 in
set_option maxRecDepth 100000 in
/-- places. -/
theorem places5_calls (v u : Value) (xs ys : List ByteArray) (S T : Fp) (w : World) (hA : Rd ES S w v xs) (hB : Rd ES T w u ys) (h1 : xs.length ≤ 400) (h2 : ys.length ≤ 400) :
    Calls Tryz.prog 242 #[v, u] w fun e w' => e = .returned (.slice (some ⟨w.heap.size, 0, none⟩) xs.length xs.length) ∧ Blk w' w.heap.size 3 (rowOf xs.length (plV (plF xs ys))) ∧ Ext w w' := by
  have hP := fun W (hW : Ext w W) => pairs4_calls v u xs ys S T W (hA.kp (hW.mono fun _ _ _ => trivial)) (hB.kp (hW.mono fun _ _ _ => trivial)) h1 h2
  have hpl : ∀ q ∈ pairsF xs ys, q.1 < xs.length := fun q hq => by
    obtain ⟨_, e, _⟩ := pairsF_eq (x := q.1) (y := q.2) hq
    exact (List.getElem?_eq_some_iff.1 e).1
  have hpn := pairsF_length xs ys
  obtain ⟨A1, c1, rfl, _⟩ := hA.open_
  obtain ⟨A2, c2, rfl, _⟩ := hB.open_
  have hfin : plF xs ys = inN (pairsF xs ys) := rfl
  rw [hfin]
  obtain ⟨n, hn⟩ : ∃ n, xs.length = n := ⟨_, rfl⟩
  obtain ⟨m, hm⟩ : ∃ n, ys.length = n := ⟨_, rfl⟩
  rw [hn] at hP h1 hpl hpn ⊢
  rw [hm] at hP ⊢
  obtain ⟨ps, hps⟩ : ∃ p, pairsF xs ys = p := ⟨_, rfl⟩
  rw [hps] at hP hpl hpn ⊢
  have m1 : ∀ W : World, (Instr.makeSlice 40 (.int .i64 (n : Int)) (.int .i64 (n : Int))).run Tryz.prog W = .ok (.slice (some ⟨W.heap.size, 0, none⟩) n n) (W.alloc (.cells (rowOf n fun _ => .int .i64 0) 3)) := by
    intro W
    have h := run_make_row' (P := Tryz.prog) 40 3 (.int .i64 0) 8 Tryz.underlying40 (by kernel_rfl) (by rfl) .i64 .i64 n (by omega) (by omega) W
    rw [madeCells_row] at h
    exact h
  have HP := Lib.hid hP
  have HPL := Lib.hid hpl
  have HPN := Lib.hid hpn
  clear hA hB hP hpl hpn hn hm hps hfin h2
  go_enter Tryz.func242, Tryz.ntmps242
  go_wp2_with fail
  go_loopw [6] (fun i wr => ∃ k : Nat, k ≤ n ∧ i = .int .i64 k ∧ Blk wr w.heap.size 3 (rowOf n fun i' => if i' < k then .int .i64 (-1) else .int .i64 0) ∧ Ext w wr) (fun i _ => n - (intOf i).toNat)
  case atStart => exact ⟨0, Nat.zero_le _, rfl, Blk.new w _ _, (Kp.refl _ w).alloc _⟩
  case round =>
    obtain ⟨k, hk, rfl, hBk, hx⟩ := hrel
    rename World => wo
    by_cases hlt : k < n
    · have hd : decide ((k : Int) < (n : Int)) = true := decide_eq_true (by omega)
      have hlt' : (k : Int) < (n : Int) := by omega
      have h0 : (0 : Int) ≤ (k : Int) := by omega
      have hw : IntKind.i64.wrap ((k : Int) + 1) = (k : Int) + 1 := IntWalk.i64_in _ (by omega)
      have c0 : wo.cell? ⟨w.heap.size, k, none⟩ = some (.int .i64 0) := by rw [hBk.cell k, rowOf_get _ hlt, if_neg (Nat.lt_irrefl k)]
      have f0 := hBk.frozen k
      have hB2 : Blk (wo.setCell ⟨w.heap.size, k, none⟩ (.int .i64 (-1))) w.heap.size 3 (rowOf n fun i' => if i' < k + 1 then .int .i64 (-1) else .int .i64 0) := by
        have h := hBk.set_ k (.int .i64 (-1))
        rw [rowOf_set] at h
        rw [rowOf_congr (g := fun i' => if i' = k then .int .i64 (-1) else if i' < k then .int .i64 (-1) else .int .i64 0) fun i' _ => by
          by_cases he : i' = k
          · rw [if_pos he, if_pos (by omega)]
          · rw [if_neg he]
            by_cases hl : i' < k
            · rw [if_pos hl, if_pos (by omega)]
            · rw [if_neg hl, if_neg (by omega)]]
        exact h
      have HB2 := Lib.hid hB2
      have hx2 : Ext w (wo.setCell ⟨w.heap.size, k, none⟩ (.int .i64 (-1))) := hx.setCell (.inl (Nat.le_refl _)) _
      clear hBk hB2
      go_wp2_with fail
      go_roundw
      case rel => exact ⟨k + 1, by omega, by go_num, HB2.out, hx2⟩
      case measure => simp [intOf]; omega
    · have hd : decide ((k : Int) < (n : Int)) = false := decide_eq_false (by omega)
      have hd2 : decide (k < n) = false := decide_eq_false hlt
      have hkn : k = n := by omega
      have HB : Hid (Blk wo w.heap.size 3 (rowOf n (plV (inN (ps.take 0))))) := Lib.hid (by
        rw [rowOf_congr (g := fun i' => if i' < k then .int .i64 (-1) else .int .i64 0) fun i' hi' => by rw [if_pos (by omega)]; rfl]
        exact hBk)
      clear hBk hkn
      go_wp2_with fail
      refine (HP.out wo hx).mono ?_
      rintro e w5 ⟨r, rfl, hN, hx5⟩
      have hB5 := HB.out.ext hx5
      have hx05 := hx.trans hx5
      have hgl := HB.out.lt
      obtain ⟨Ar, cr, hr, hOr⟩ := hN.rd.open_
      subst hr
      obtain ⟨np, hnp⟩ : ∃ l, ps.length = l := ⟨_, rfl⟩
      have HNP := Lib.hid hnp
      have HR := Lib.hid fun W (hW : Kp (fun k => k ≠ w.heap.size) w5 W) => hOr.kp (hW.mono fun k _ hk e => by omega)
      rw [hnp]
      clear hN hOr hx5 HP hnp m1 HB hx hd hd2
      go_wp2_with fail
      go_loopw [8] (fun i wr => ∃ k : Nat, k ≤ np ∧ i = .int .i64 k ∧ Blk wr w.heap.size 3 (rowOf n (plV (inN (ps.take k)))) ∧ Kp (fun k => k ≠ w.heap.size) w5 wr ∧ Ext w wr) (fun i _ => np - (intOf i).toNat)
      case atStart => exact ⟨0, Nat.zero_le _, rfl, hB5, Kp.refl _ _, hx05⟩
      case round =>
        obtain ⟨k, hk, rfl, hBk, hkp, hx⟩ := hrel
        rename World => wo
        clear hB5 hx05
        by_cases hlt : k < np
        · have hd : decide ((k : Int) < (np : Int)) = true := decide_eq_true (by omega)
          have hkx : k < ps.length := by have := HNP.out; omega
          obtain ⟨b, off, rfl, _, hb, c0, c1⟩ := (HR.out wo hkp).rd.pair hkx
          have hstep : inN (ps.take (k + 1)) = fun x => if x = ps[k].1 then some ps[k].2 else inN (ps.take k) x := by rw [take_snoc ps hkx, inN_snoc]
          have hpb := HPL.out ps[k] (List.getElem_mem hkx)
          obtain ⟨pr, hpr⟩ : ∃ x, ps[k] = x := ⟨_, rfl⟩
          rw [hpr] at c0 c1 hpb
          simp only [hpr] at hstep
          obtain ⟨p1, p2⟩ := pr
          dsimp only at c0 c1 hpb hstep
          have hlt' : (k : Int) < (np : Int) := by omega
          have h0 : (0 : Int) ≤ (k : Int) := by omega
          have j1 : (0 : Int) ≤ (p1 : Int) := by omega
          have j2 : (p1 : Int) < (n : Int) := by omega
          have hw : IntKind.i64.wrap ((k : Int) + 1) = (k : Int) + 1 := IntWalk.i64_in _ (by have := HPN.out; have := HNP.out; omega)
          have e0 : wo.cell? ⟨w.heap.size, p1, none⟩ = some (plV (inN (ps.take k)) p1) := by rw [hBk.cell p1, rowOf_get _ hpb]
          have f0 := hBk.frozen p1
          have HB2 : Hid (Blk (wo.setCell ⟨w.heap.size, p1, none⟩ (.int .i64 p2)) w.heap.size 3 (rowOf n (plV (inN (ps.take (k + 1)))))) := Lib.hid (by
            have h := hBk.set_ p1 (.int .i64 p2)
            rw [rowOf_set, plV_put] at h
            rw [hstep]; exact h)
          have HK2 := Lib.hid (hkp.setCell (p := ⟨w.heap.size, p1, none⟩) (.inr (by simp)) (.int .i64 p2))
          have HX2 := Lib.hid (hx.setCell (p := ⟨w.heap.size, p1, none⟩) (.inl (Nat.le_refl _)) (.int .i64 p2))
          obtain ⟨pv, hpv⟩ : ∃ v, plV (inN (ps.take k)) p1 = v := ⟨_, rfl⟩
          rw [hpv] at e0
          clear hBk hkx hpr hstep hpv hkp hx hpb
          go_wp2_with fail
          go_still_tail 12, (by kernel_rfl)
          go_wp2_with fail
          go_roundw
          case rel => exact ⟨k + 1, by omega, by go_num, by first | exact HB2.out | exact HB2.out.drew_, by first | exact HK2.out | exact HK2.out.drew | exact ⟨HK2.out.os, HK2.out.tape, HK2.out.output, HK2.out.size, HK2.out.block⟩, by first | exact HX2.out | exact HX2.out.drew | exact ⟨HX2.out.os, HX2.out.tape, HX2.out.output, HX2.out.size, HX2.out.block⟩⟩
          case measure => simp [intOf]; omega
        · have hd : decide ((k : Int) < (np : Int)) = false := decide_eq_false (by omega)
          have hd2 : decide (k < np) = false := decide_eq_false hlt
          have HF : Hid (Blk wo w.heap.size 3 (rowOf n (plV (inN ps)))) := Lib.hid (by
            rw [List.take_of_length_le (by have := HNP.out; omega)] at hBk; exact hBk)
          clear hBk hkp
          go_wp2_with fail
          go_ret
          exact ⟨rfl, HF.out, hx⟩

end Go.Proofs.YtgjbfkaepalkiaaGreatDoor

namespace Go.Proofs.YtgjbfkaepalkiaaGreatDoor
open Go.RowKit
set_option linter.unusedVariables false
set_option linter.unusedSimpArgs false
attribute [local go_sem] Oper.semAt_some

set_option maxHeartbeats 1000000 in
/-- loose. -/
theorem loose5_calls (v1 v2 v3 : Value) (xs ys zs : List ByteArray) (S : Fp) (w : World) (hA : Rd ES S w v1 xs) (hB : Rd ES S w v2 ys) (hC : Rd ES S w v3 zs) :
    Calls Tryz.prog 243 #[v1, v2, v3] w fun e w' => e = .returned (.agg #[.bool (!sameT xs ys && (!sameT xs zs && !sameT ys zs)), v1, v2, v3]) ∧ Ext w w' := by
  have C1 := Lib.hid fun W (hW : Ext w W) => same4_calls v1 v2 xs ys S S W (hA.kp (hW.mono fun _ _ _ => trivial)) (hB.kp (hW.mono fun _ _ _ => trivial))
  have C2 := Lib.hid fun W (hW : Ext w W) => same4_calls v1 v3 xs zs S S W (hA.kp (hW.mono fun _ _ _ => trivial)) (hC.kp (hW.mono fun _ _ _ => trivial))
  have C3 := Lib.hid fun W (hW : Ext w W) => same4_calls v2 v3 ys zs S S W (hB.kp (hW.mono fun _ _ _ => trivial)) (hC.kp (hW.mono fun _ _ _ => trivial))
  obtain ⟨A1, c1, rfl, _⟩ := hA.open_
  obtain ⟨A2, c2, rfl, _⟩ := hB.open_
  obtain ⟨A3, c3, rfl, _⟩ := hC.open_
  generalize sameT xs ys = q1 at *
  generalize sameT xs zs = q2 at *
  generalize sameT ys zs = q3 at *
  generalize xs.length = n1 at *
  generalize ys.length = n2 at *
  generalize zs.length = n3 at *
  clear hA hB hC
  have key : ∀ (W : World) (q : Bool), Ext w W → Blk W w.heap.size 228 #[.bool false, .slice none 0 0, .slice none 0 0, .slice none 0 0] →
      Blk ((((W.setCell ⟨w.heap.size, 0, none⟩ (.bool q)).setCell ⟨w.heap.size, 1, none⟩ (.slice A1 n1 c1)).setCell ⟨w.heap.size, 2, none⟩ (.slice A2 n2 c2)).setCell ⟨w.heap.size, 3, none⟩ (.slice A3 n3 c3)) w.heap.size 228 #[.bool q, .slice A1 n1 c1, .slice A2 n2 c2, .slice A3 n3 c3] ∧
      Ext w ((((W.setCell ⟨w.heap.size, 0, none⟩ (.bool q)).setCell ⟨w.heap.size, 1, none⟩ (.slice A1 n1 c1)).setCell ⟨w.heap.size, 2, none⟩ (.slice A2 n2 c2)).setCell ⟨w.heap.size, 3, none⟩ (.slice A3 n3 c3)) := fun W q hx hb =>
    ⟨(((hb.set_ 0 _).set_ 1 _).set_ 2 _).set_ 3 _, (((hx.setCell (.inl (Nat.le_refl _)) _).setCell (.inl (Nat.le_refl _)) _).setCell (.inl (Nat.le_refl _)) _).setCell (.inl (Nat.le_refl _)) _⟩
  have HK := Lib.hid key
  clear key
  go_enter Tryz.func243, Tryz.ntmps243
  go_wp2_with fail
  have hB0 := Blk.new w 228 #[.bool false, .slice none 0 0, .slice none 0 0, .slice none 0 0]
  have hx0 : Ext w (w.alloc (.cells #[.bool false, .slice none 0 0, .slice none 0 0, .slice none 0 0] 228)) := (Kp.refl _ w).alloc _
  generalize w.alloc (.cells #[.bool false, .slice none 0 0, .slice none 0 0, .slice none 0 0] 228) = w0 at hB0 hx0 ⊢
  refine (C1.out _ hx0).mono ?_
  rintro e w1 ⟨rfl, hx1⟩
  replace hB0 := hB0.ext hx1
  replace hx0 := hx0.trans hx1
  clear hx1 C1
  cases q1 with
  | true =>
    have c0 : w1.cell? ⟨w.heap.size, 0, none⟩ = some (.bool false) := hB0.cell 0
    have c1' : w1.cell? ⟨w.heap.size, 1, none⟩ = some (.slice none 0 0) := hB0.cell 1
    have c2' : w1.cell? ⟨w.heap.size, 2, none⟩ = some (.slice none 0 0) := hB0.cell 2
    have c3' : w1.cell? ⟨w.heap.size, 3, none⟩ = some (.slice none 0 0) := hB0.cell 3
    have f0 := hB0.frozen 0
    have f1 := hB0.frozen 1
    have f2 := hB0.frozen 2
    have f3 := hB0.frozen 3
    have HF := Lib.hid (HK.out w1 false hx0 hB0)
    clear hB0 C2 C3
    go_wp2_with fail
    refine bodyPost_ret (results_cell_row rfl _ _ w.heap.size 228 #[.bool false, .slice A1 n1 c1, .slice A2 n2 c2, .slice A3 n3 c3] (0, 0) _ (by rfl) HF.out.1 Tryz.underlying228 (by rfl) (by kernel_rfl)) rfl ?_
    exact ⟨rfl, HF.out.2⟩
  | false =>
    go_wp2_with fail
    refine (C2.out _ hx0).mono ?_
    rintro e w2 ⟨rfl, hx2⟩
    replace hB0 := hB0.ext hx2
    replace hx0 := hx0.trans hx2
    clear hx2 C2
    cases q2 with
    | true =>
      have c0 : w2.cell? ⟨w.heap.size, 0, none⟩ = some (.bool false) := hB0.cell 0
      have c1' : w2.cell? ⟨w.heap.size, 1, none⟩ = some (.slice none 0 0) := hB0.cell 1
      have c2' : w2.cell? ⟨w.heap.size, 2, none⟩ = some (.slice none 0 0) := hB0.cell 2
      have c3' : w2.cell? ⟨w.heap.size, 3, none⟩ = some (.slice none 0 0) := hB0.cell 3
      have f0 := hB0.frozen 0
      have f1 := hB0.frozen 1
      have f2 := hB0.frozen 2
      have f3 := hB0.frozen 3
      have HF := Lib.hid (HK.out w2 false hx0 hB0)
      clear hB0 C3
      go_wp2_with fail
      refine bodyPost_ret (results_cell_row rfl _ _ w.heap.size 228 #[.bool false, .slice A1 n1 c1, .slice A2 n2 c2, .slice A3 n3 c3] (0, 0) _ (by rfl) HF.out.1 Tryz.underlying228 (by rfl) (by kernel_rfl)) rfl ?_
      exact ⟨rfl, HF.out.2⟩
    | false =>
      go_wp2_with fail
      refine (C3.out _ hx0).mono ?_
      rintro e w3 ⟨rfl, hx3⟩
      replace hB0 := hB0.ext hx3
      replace hx0 := hx0.trans hx3
      clear hx3 C3
      have c0 : w3.cell? ⟨w.heap.size, 0, none⟩ = some (.bool false) := hB0.cell 0
      have c1' : w3.cell? ⟨w.heap.size, 1, none⟩ = some (.slice none 0 0) := hB0.cell 1
      have c2' : w3.cell? ⟨w.heap.size, 2, none⟩ = some (.slice none 0 0) := hB0.cell 2
      have c3' : w3.cell? ⟨w.heap.size, 3, none⟩ = some (.slice none 0 0) := hB0.cell 3
      have f0 := hB0.frozen 0
      have f1 := hB0.frozen 1
      have f2 := hB0.frozen 2
      have f3 := hB0.frozen 3
      have HF := Lib.hid (HK.out w3 (!q3) hx0 hB0)
      clear hB0
      go_wp2_with fail
      refine bodyPost_ret (results_cell_row rfl _ _ w.heap.size 228 #[.bool (!q3), .slice A1 n1 c1, .slice A2 n2 c2, .slice A3 n3 c3] (0, 0) _ (by rfl) HF.out.1 Tryz.underlying228 (by rfl) (by kernel_rfl)) rfl ?_
      exact ⟨rfl, HF.out.2⟩

/-! ### Rows of pieces that lie in what was given -/
theorem tiPt5 : TI EPt Tryz.prog 226 228 80 :=
  TI.mk' (z := .agg #[.bool false, .slice none 0 0, .slice none 0 0, .slice none 0 0]) Tryz.underlying226 (by kernel_rfl) (by rfl) (by decide)
structure PtR (S : Fp) (w : World) (s : PtS) (q : Pt) : Prop where
  c : s.c = q.conflict
  base : Rd ES S w s.s1.val q.base
  a : Rd ES S w s.s2.val q.a
  b : Rd ES S w s.s3.val q.b
def RepR (S : Fp) (w : World) : List PtS → List Pt → Prop
  | [], [] => True
  | s :: ss, q :: qs => PtR S w s q ∧ RepR S w ss qs
  | _, _ => False
theorem PtR.kp {S : Fp} {w w' : World} {s : PtS} {q : Pt} (h : PtR S w s q) (hk : Kp S w w') : PtR S w' s q := ⟨h.c, h.base.kp hk, h.a.kp hk, h.b.kp hk⟩
theorem RepR.kp {S : Fp} {w w' : World} (hk : Kp S w w') : ∀ {ss : List PtS} {qs : List Pt}, RepR S w ss qs → RepR S w' ss qs
  | [], [], _ => trivial
  | _ :: _, _ :: _, h => ⟨h.1.kp hk, RepR.kp hk h.2⟩
  | [], _ :: _, h => h.elim
  | _ :: _, [], h => h.elim
theorem RepR.ext {S : Fp} {w w' : World} (hk : Ext w w') {ss : List PtS} {qs : List Pt} (h : RepR S w ss qs) : RepR S w' ss qs := h.kp (hk.mono fun _ _ _ => trivial)
theorem RepR.snoc {S : Fp} {w : World} {s : PtS} {q : Pt} (hq : PtR S w s q) : ∀ {ss : List PtS} {qs : List Pt}, RepR S w ss qs → RepR S w (ss ++ [s]) (qs ++ [q])
  | [], [], _ => ⟨hq, trivial⟩
  | _ :: _, _ :: _, h => ⟨h.1, RepR.snoc hq h.2⟩
  | [], _ :: _, h => h.elim
  | _ :: _, [], h => h.elim
theorem RepR.len {S : Fp} {w : World} : ∀ {ss : List PtS} {qs : List Pt}, RepR S w ss qs → ss.length = qs.length
  | [], [], _ => rfl
  | _ :: _, _ :: _, h => by rw [List.length_cons, List.length_cons, RepR.len h.2]
  | [], _ :: _, h => h.elim
  | _ :: _, [], h => h.elim
theorem RepR.get {S : Fp} {w : World} : ∀ {ss : List PtS} {qs : List Pt}, RepR S w ss qs → ∀ (i : Nat) (h1 : i < ss.length) (h2 : i < qs.length), PtR S w ss[i] qs[i]
  | [], [], _, i, h1, _ => by simp at h1
  | s :: ss, q :: qs, h, 0, _, _ => h.1
  | s :: ss, q :: qs, h, i + 1, h1, h2 => RepR.get h.2 i (by simpa using h1) (by simpa using h2)
  | [], _ :: _, h, _, _, _ => h.elim
  | _ :: _, [], h, _, _, _ => h.elim
/-- A piece of a list, as a slice of it. -/
theorem Opn.midV {S : Fp} {w : World} {A : Option Addr} {c : Nat} {xs : List ByteArray} (h : Opn ES S w A c xs) {i j : Nat} (h1 : i ≤ j) (h2 : j ≤ xs.length) : ∃ s : SliceV, sliced A i j c 1 = s.val ∧ Rd ES S w s.val (sub xs i j) := by
  have h' := h.midRd h1 h2
  obtain ⟨A', c', e, _⟩ := h'.open_
  exact ⟨⟨A', _, c'⟩, e, by rw [← show sliced A i j c 1 = (⟨A', (sub xs i j).length, c'⟩ : SliceV).val from e]; exact h'⟩

end Go.Proofs.YtgjbfkaepalkiaaGreatDoor
