/-
  A repository, and the document's, of those of commits that may be: made.
-/
import Derived.Test.YtgjbfkaepalkiaaGreatDoorGreat
import Derived.Test.YtgjbfkaepalkiaaGreatDoorRef10b
import Derived.Deep.QuietTactic
namespace Go.Proofs.YtgjbfkaepalkiaaGreatDoor
open Go.RowKit
set_option linter.unusedVariables false
set_option linter.unusedSimpArgs false
attribute [local go_sem] Oper.semAt_some

abbrev repoTy : TypeId := 99
def madeC (cs : List Cm) : List Cm := cs.foldl (fun acc c => (addC acc 60 c).1) []
theorem madeC_snoc (cs : List Cm) (c : Cm) : madeC (cs ++ [c]) = (addC (madeC cs) 60 c).1 := by simp [madeC, List.foldl_append]
theorem addC_len (cs : List Cm) (room : Nat) (c : Cm) : (addC cs room c).1.length ≤ cs.length + 1 ∧ cs.length ≤ (addC cs room c).1.length := by
  unfold addC
  split
  · exact ⟨by simp, by simp⟩
  · split
    · exact ⟨by simp, by simp⟩
    · split
      · exact ⟨by simp, by simp⟩
      · split
        · exact ⟨by simp, by simp⟩
        · exact ⟨by simp, by simp⟩
theorem madeC_len : ∀ (cs : List Cm), (madeC cs).length ≤ cs.length := by
  intro cs
  refine snocInd (p := fun cs => (madeC cs).length ≤ cs.length) (Nat.le_refl _) (fun l x ih => ?_) cs
  rw [madeC_snoc, List.length_append, List.length_singleton]
  have := (addC_len (madeC l) 60 x).1
  omega
theorem madeC_good {cs : List Cm} (h : ∀ c ∈ cs, SmallC c) : GoodR (madeC cs) := by
  revert h
  refine snocInd (p := fun cs => (∀ c ∈ cs, SmallC c) → GoodR (madeC cs)) (fun _ => GoodR.nil) (fun l x ih h => ?_) cs
  rw [madeC_snoc]
  exact addC_good (ih fun c hc => h c (List.mem_append_left _ hc)) (h x (by simp)) 60

/-- The two repositories: the program's at rb, the document's at wb, which reads commits that lie in S. -/
structure TwoR (S : Fp) (w wr : World) (rb wb : Nat) (cs cs' : List Cm) (I D D' : Fp) : Prop where
  r : RepoX repoTy I D wr rb cs 60
  q : RepoX refT S D' wr wb cs' 60
  lowD : ∀ k, D k → w.heap.size ≤ k
  lowI : ∀ k, I k → w.heap.size ≤ k
  lowD' : ∀ k, D' k → w.heap.size ≤ k
  ap : ∀ k, D' k → ¬ D k ∧ ¬ I k
  x : Ext w wr
section
variable {S : Fp} {w wr w1 : World} {rb wb : Nat} {cs cs' : List Cm} {I D D' : Fp} {c : Cm} {e : Ending}
theorem TwoR.ext (h : TwoR S w wr rb wb cs cs' I D D') (hx : Ext wr w1) : TwoR S w w1 rb wb cs cs' I D D' :=
  ⟨h.r.ext hx, h.q.ext hx, h.lowD, h.lowI, h.lowD', h.ap, h.x.trans hx⟩
theorem TwoR.add (h : TwoR S w wr rb wb cs cs' I D D') (hS : ∀ k, S k → k < w.heap.size) (hp : AddPost repoTy I D wr rb cs 60 c e w1) : ∃ I1 D1, TwoR S w w1 rb wb (addC cs 60 c).1 cs' I1 D1 D' := by
  obtain ⟨_, I1, D1, h1, h2, h3, h4⟩ := hp
  have hz := h.x.size
  refine ⟨I1, D1, h1, h.q.kp h4 (fun k hk => (h.ap k hk).1) (fun k hk hd => by have := hS k hk; have := h.lowD k hd; omega), fun k hk => ?_, fun k hk => ?_, h.lowD', fun k hk => ⟨fun hd => ?_, fun hi => ?_⟩, h.x.trans' h4 fun k hk _ hd => by have := h.lowD k hd; omega⟩
  · rcases h3 k hk with h' | h'
    · exact h.lowD k h'
    · omega
  · rcases h2 k hk with h' | h'
    · exact h.lowI k h'
    · omega
  · rcases h3 k hd with h' | h'
    · exact (h.ap k hk).1 h'
    · have := h.q.ld k hk; omega
  · rcases h2 k hi with h' | h'
    · exact (h.ap k hk).2 h'
    · have := h.q.ld k hk; omega
theorem TwoR.radd (h : TwoR S w wr rb wb cs cs' I D D') (hp : RefAddPost refT S D' wr wb cs' 60 c e w1) : ∃ D1, TwoR S w w1 rb wb cs (addC cs' 60 c).1 I D D1 := by
  obtain ⟨_, D1, h1, h3, h4⟩ := hp
  have hz := h.x.size
  refine ⟨D1, h.r.kp h4 (fun k hk hd => (h.ap k hd).1 hk) (fun k hk hd => (h.ap k hd).2 hk), h1, h.lowD, h.lowI, fun k hk => ?_, fun k hk => ⟨fun hd => ?_, fun hi => ?_⟩, h.x.trans' h4 fun k hk _ hd => by have := h.lowD' k hd; omega⟩
  · rcases h3 k hk with h' | h'
    · exact h.lowD' k h'
    · omega
  · rcases h3 k hk with h' | h'
    · exact (h.ap k h').1 hd
    · have := h.r.ld k hd; omega
  · rcases h3 k hk with h' | h'
    · exact (h.ap k h').2 hi
    · have := h.r.li k hi; omega
theorem TwoR.start {w1 w2 : World} {e1 e2 : Ending} (hS : ∀ k, S k → k < w.heap.size) (h1 : NewPost repoTy w 60 e1 w1) (h2 : NewPost refT w1 60 e2 w2) : TwoR S w w2 w.heap.size w1.heap.size [] [] (fun _ => False) (fun k => k = w.heap.size) (fun k => k = w1.heap.size) := by
  have hr := newR_repo h1
  have hq := newR_repo h2
  obtain ⟨_, _, hx1, hz1⟩ := h1
  obtain ⟨_, _, hx2, hz2⟩ := h2
  obtain ⟨⟨lv, rows, a, b, cc, d, f⟩, g1, g2, g3⟩ := hq
  have hrows : RepK S w2 rows [] := by
    cases rows with
    | nil => trivial
    | cons _ _ => exact cc.elim
  refine ⟨hr.ext hx2, ⟨⟨lv, rows, a, b, hrows, d, f⟩, fun k hs hd => ?_, fun k hs => ?_, g3⟩, fun k hk => by omega, fun k hk => hk.elim, fun k hk => by omega, fun k hk => ⟨fun hd => by omega, fun hi => hi⟩, hx1.trans hx2⟩
  · have := hS k hs; omega
  · have := hS k hs; have := hx1.size; have := hx2.size; omega
end

def MadePost (S : Fp) (w : World) (cs : List Cm) (e : Ending) (w' : World) : Prop := ∃ rb wb I D D', e = .returned (.tuple #[.pointer (some ⟨rb, 0, none⟩), .pointer (some ⟨wb, 0, none⟩)]) ∧ TwoR S w w' rb wb (madeC cs) (madeC cs) I D D'

set_option maxHeartbeats 2000000 in
theorem made13_calls (v : Value) (ss : List KS) (cs : List Cm) (S : Fp) (w : World) (hR : Rd EK S w v ss) (hK : RepK S w ss cs) (hS : ∀ k, S k → k < w.heap.size) (hs : ∀ c ∈ cs, SmallC c) (hn : cs.length ≤ 100) :
    Calls Tryz.prog 17 #[v] w (MadePost S w cs) := by
  obtain ⟨A, c, rfl, hO⟩ := hR.open_
  have hlen := hO.len
  have hl := hK.len
  have HO := Lib.hid fun W (hW : Ext w W) => hO.kp (hW.mono fun _ _ _ => trivial)
  have HK := Lib.hid fun W (hW : Ext w W) => hK.ext hW
  obtain ⟨n, hxn⟩ : ∃ n, cs.length = n := ⟨_, rfl⟩
  rw [hxn] at hl hn
  rw [hl] at hlen ⊢
  have HX := Lib.hid hxn
  have HL := Lib.hid hl
  have HS := Lib.hid hS
  have HSm := Lib.hid hs
  clear hR hO hK hxn hl hS hs
  go_enter Tryz.func17, Tryz.ntmps17
  go_wp2_with fail
  refine (newR_calls 60 w (by omega)).mono ?_
  rintro e w1 hP1
  have hP1' := hP1
  obtain ⟨rfl, -⟩ := hP1'
  have HP1 := Lib.hid hP1
  go_wp2_with fail
  refine (refNew_calls 60 w1 (by omega)).mono ?_
  rintro e w2 hP2
  have hP2' := hP2
  obtain ⟨rfl, -⟩ := hP2'
  have HT := Lib.hid (TwoR.start HS.out HP1.out hP2)
  clear hP1 hP2 HP1
  go_wp2_with fail
  go_loopw [6] (fun i wr => ∃ (k : Nat) (I D D' : Fp), k ≤ n ∧ i = .int .i64 k ∧ TwoR S w wr w.heap.size w1.heap.size (madeC (cs.take k)) (madeC (cs.take k)) I D D') (fun i _ => n - (intOf i).toNat)
  case atStart => exact ⟨0, _, _, _, Nat.zero_le _, rfl, HT.out⟩
  case round =>
    obtain ⟨k, I, D, D', hk, rfl, hT⟩ := hrel
    rename World => wo
    have HTo := Lib.hid hT
    have hx := hT.x
    clear hT HT
    by_cases hlt : k < n
    · have hd : decide ((k : Int) < (n : Int)) = true := decide_eq_true (by omega)
      have hkc : k < cs.length := by have := HX.out; omega
      have hkr : k < ss.length := by have := HL.out; omega
      obtain ⟨b, off, rfl, hSb, hb, c0, c1, c2⟩ := (HO.out wo hx).rd.kom hkr
      have hRx := (HK.out wo hx).get k hkr hkc
      have hsm := HSm.out cs[k] (List.getElem_mem hkc)
      have hgood : GoodR (madeC (cs.take k)) := madeC_good fun c hc => HSm.out c (List.take_subset _ _ hc)
      have hml : (madeC (cs.take k)).length ≤ 1000 := by have := madeC_len (cs.take k); rw [List.length_take] at this; omega
      have HT1 : Hid (madeC (cs.take (k + 1)) = (addC (madeC (cs.take k)) 60 cs[k]).1) := Lib.hid (by rw [take_snoc cs hkc, madeC_snoc])
      have hA1 := addR_calls HTo.out.r ss[k] cs[k] S hRx hsm hml (by omega)
      have hlt' : (k : Int) < (n : Int) := by omega
      have h0 : (0 : Int) ≤ (k : Int) := by omega
      have hw : IntKind.i64.wrap ((k : Int) + 1) = (k : Int) + 1 := IntWalk.i64_in _ (by omega)
      have hA2 : Hid (∀ w3 I1 D1 D2, TwoR S w w3 w.heap.size w1.heap.size I1 (madeC (cs.take k)) D1 D2 D' → Ext w w3 → Calls Tryz.prog 57 #[.pointer (some ⟨w1.heap.size, 0, none⟩), ss[k].val] w3 (RefAddPost refT S D' w3 w1.heap.size (madeC (cs.take k)) 60 cs[k])) := Lib.hid fun w3 I1 D1 D2 h hx3 => refAdd_calls h.q ss[k] cs[k] ((HK.out w3 hx3).get k hkr hkc) hsm hml (by omega)
      have hSb' := HS.out b hSb
      obtain ⟨xk, hrk⟩ : ∃ x, ss[k] = x := ⟨_, rfl⟩
      rw [hrk] at c0 c1 c2 hA1 hA2
      obtain ⟨⟨pa, pn, pc⟩, ⟨ta, tn, tc⟩, nt⟩ := xk
      dsimp only [KS.val, SliceV.val] at c0 c1 c2 hA1 hA2
      generalize cs[k] = ck at HT1 hA1 hA2 hRx hsm
      have HA1 := Lib.hid hA1
      clear hRx hrk hsm hgood hA1
      go_wp2_with fail
      refine HA1.out.mono ?_
      rintro e w3 hP3
      have hP3' := hP3
      obtain ⟨rfl, -⟩ := hP3'
      obtain ⟨I1, D1, hT3⟩ := HTo.out.add HS.out hP3
      have HT3 := Lib.hid hT3
      have hbk : ∀ (i : Nat) (v : Value), wo.cell? ⟨b, i, none⟩ = some v → w3.cell? ⟨b, i, none⟩ = some v := fun i v h => by
        obtain ⟨_, _, _, _, _, _, h4⟩ := hP3
        exact (h4.cell (p := ⟨b, i, none⟩) hb fun hd => by have := HTo.out.lowD _ hd; dsimp only at this; omega).trans h
      have d0 := hbk _ _ c0
      have d1 := hbk _ _ c1
      have d2 := hbk _ _ c2
      have hA2' := Lib.hid (hA2.out w3 _ _ _ hT3 hT3.x)
      clear hP3 hT3 hbk c0 c1 c2 hA2 HA1
      go_wp2_with fail
      refine hA2'.out.mono ?_
      rintro e w4 hP4
      have hP4' := hP4
      obtain ⟨rfl, -⟩ := hP4'
      obtain ⟨D2, hT4⟩ := HT3.out.radd hP4
      have HT4 := Lib.hid hT4
      clear hP4 hT4 hA2'
      go_wp2_with fail
      go_roundw
      case rel => exact ⟨k + 1, I1, D1, D2, by omega, by go_num, by rw [HT1.out]; exact HT4.out⟩
      case measure => simp [intOf]; omega
    · have hd : decide ((k : Int) < (n : Int)) = false := decide_eq_false (by omega)
      have hall : cs.take k = cs := List.take_of_length_le (by have := HX.out; omega)
      rw [hall] at HTo
      obtain ⟨A2, c2, rows, hB2, hO2, _, hl2⟩ := HTo.out.q.rd
      have q0 : wo.cell? ⟨w1.heap.size, 0, none⟩ = some (.slice A2 (madeC cs).length c2) := hB2.cell 0
      have hln := fun k => lenR_calls (HTo.out.r.ext ((Kp.refl _ wo).drewN k))
      obtain ⟨m, hm⟩ : ∃ m, (madeC cs).length = m := ⟨_, rfl⟩
      rw [hm] at q0 hln
      have HLn := Lib.hid hln
      clear hall hB2 hO2 hl2 hm hln
      go_wp2_with fail
      go_quiet ((go_at_call 25; exact Calls.quiet_of_same ((HLn.out _).mono fun _ _ h => ⟨h.1, h.2.symm⟩)))
      have hTn := Lib.hid (HTo.out.ext ((Kp.refl _ wo).drewN nq))
      clear HLn q0
      go_wp2_with fail
      go_returns
      exact ⟨_, _, _, _, _, rfl, hTn.out⟩

end Go.Proofs.YtgjbfkaepalkiaaGreatDoor
