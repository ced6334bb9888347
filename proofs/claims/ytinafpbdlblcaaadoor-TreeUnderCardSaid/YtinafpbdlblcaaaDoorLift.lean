/-
  From a walk to a row: what all rows of this seat share.
-/
import Derived.Test.YtinafpbdlblcaaaDoorBase
import Derived.Test.YtinafpbdlblcaaaDoorData
import Derived.Test.YtinafpbdlblcaaaDoorRows
import Derived.Test.YtinafpbdlblcaaaDoorTie
import Derived.ProofKit
import Derived.ChangeSame
import Derived.JoinedOf
import Derived.LaidLaws
import Derived.SevenTiedAt
import Derived.Deep.DeepLaidRun
import Derived.Deep.SlicePairs
import Derived.Below
import Derived.Carry
namespace Go.Proofs.YtinafpbdlblcaaaDoor
open Go.ChangeShapes Go.WideShapes Go.RowKit
open Go.ChangeMaps (open_string shut_string)
set_option linter.unusedVariables false
set_option linter.unusedSimpArgs false
set_option linter.constructorNameAsVariable false

theorem own : ownKnob Tryd.prog.godebug = none := by kernel_rfl
theorem laidOut : laidOutB Tryd.prog = true := by kernel_rfl

/-- The settled world, the tables laid. -/
noncomputable def laidWorld (os : Os) : World :=
  let w0 := World.holding Tryd.prog os ⟨#[], #[], []⟩
  { w0 with heap := (w0.heap.modify 1 fun
      | .cells _ t frozen => .cells (match Go.Pinned.utf8First with
        | .agg l => (l.map fun | .lit (.int k n) => Value.int k n | _ => undef).toArray
        | _ => #[]) t frozen
      | o => o).modify 2 fun
      | .cells _ t frozen => .cells (match (Rows.laid_unicode_utf8_acceptRanges : DataW Unit) with
        | .agg l => (l.flatMap fun | .agg m => m.map (fun | .lit (.int k n) => Value.int k n | _ => undef) | _ => []).toArray
        | _ => #[]) t frozen
      | o => o }
theorem laidWorld_met (os : Os) (args : Array Value) : laidMet Tryd.prog [("unicode/utf8.acceptRanges", Rows.laid_unicode_utf8_acceptRanges), ("unicode/utf8.first", Rows.laid_unicode_utf8_first)] ((laidWorld os).forCall (fun _ _ => 0) ⟨#[], args, []⟩).memory :=
  laidMet_of_run3 8 (by kernel_rfl) (by kernel_rfl) (by kernel_rfl)

/-- Old blocks stand. -/
theorem Ext.below {w w' : World} (h : Ext w w') : Below w.heap.size w w' := ⟨h.os, h.tape, h.output, h.size, fun k hk => h.block k hk trivial⟩

section
variable {H : Type} {enc : TypeId × Value → H}

theorem kept_all {W W' : World} (hb : Below W.heap.size W W') (sp : Nat → Bool) : ∀ {ts : List TypeId} {vs : List Value} {ds : List (DataW H)} {ps : List MemPlace}, (∀ t ∈ ts, Tryd.prog.readableRec t = true ∧ t < Tryd.prog.types.size) → (∀ x ∈ ps, x.block < W.heap.size) → (∀ x ∈ ps, sp x.block = true) →
    DataW.TrodAll enc Tryd.prog W 0 (fun _ => true) true ts vs ds ps → DataW.TrodAll enc Tryd.prog W' 0 sp true ts vs ds ps
  | [], [], [], _, _, _, _, h => h
  | [], [], _ :: _, _, _, _, _, h => h.elim
  | [], _ :: _, _, _, _, _, _, h => by cases ‹List (DataW H)› <;> exact h.elim
  | _ :: _, [], _, _, _, _, _, h => by cases ‹List (DataW H)› <;> exact h.elim
  | _ :: _, _ :: _, [], _, _, _, _, h => h.elim
  | t :: ts, v :: vs, d :: ds, ps, hr, hlt, hsp, h => by
    obtain ⟨p, q, h1, h2, rfl⟩ := h
    exact ⟨p, q, WideElems.Trod_stays laidOut (hr t (by simp)).1 (hr t (by simp)).2 h1 (fun x hx => hb.same (hlt x (by simp [hx]))) (fun x hx => hsp x (by simp [hx])), kept_all hb sp (fun t ht => hr t (by simp [ht])) (fun x hx => hlt x (by simp [hx])) (fun x hx => hsp x (by simp [hx])) h2, rfl⟩

set_option maxRecDepth 100000 in
/-- A slice of files that came in. -/
theorem opened_files {w : World} {base : Nat} {v : Value} {d : DataW H} {ps : List MemPlace} (hv : Value.okWide Tryd.prog w .any base 22 v) (h : DataW.Trod enc Tryd.prog w 0 (fun _ => true) true 22 v d ps) : ∃ xs : List File, Rd EF All w v xs := by
  obtain ⟨a, len, cap, rfl⟩ := okWide_slice Tryd.underlying22 hv
  obtain ⟨fuel, hf⟩ := h
  rcases Go.Deep.open_slice_pairs Tryd.underlying22 Tryd.underlying30 (by kernel_rfl) rfl rfl (by kernel_rfl) (by kernel_rfl) hf with ⟨hcs, _⟩ | ⟨b, l, c, m, n, V0, V1, D0, D1, P0, P1, hcs, hb, hl, hm, hmm, hx, hi⟩
  · simp only [Value.cells, List.cons.injEq, and_true] at hcs
    cases hcs
    exact ⟨[], Rd.nil _ _⟩
  · simp only [Value.cells, List.cons.injEq, and_true] at hcs
    cases hcs
    simp only [if_true] at hmm
    subst hmm
    have each : ∀ i, i < len → ∃ f : File, w.cell? (b.add (i * 2)) = some (.string f.path) ∧ w.cell? (b.add (i * 2 + 1)) = some (.string f.data) := by
      intro i hil
      obtain ⟨c0, c1, t0, t1⟩ := hi i (by omega)
      obtain ⟨s0, e0, _, _⟩ := DataW.trod_string Tryd.underlying9 t0
      obtain ⟨s1, e1, _, _⟩ := DataW.trod_string Tryd.underlying9 t1
      simp only [List.cons.injEq, and_true] at e0 e1
      exact ⟨⟨s0, s1⟩, by rw [c0, e0], by rw [c1, e1]⟩
    haveI : Inhabited File := ⟨⟨⟨#[]⟩, ⟨#[]⟩⟩⟩
    obtain ⟨F, hF⟩ := Go.Deep.choose_lt each
    refine ⟨(List.range len).map F, some b, m, by simp, by simpa using hl, hm, (fun h => by cases h), fun hp => ?_⟩
    simp only [List.length_map, List.length_range] at hp
    have h0 := (hF 0 hp).1
    have hspot : b.spot = none := by
      unfold World.cell? at h0
      simp only [Nat.zero_mul, Addr.add, if_true] at h0
      split at h0
      · split at h0
        · cases h0
        · rename_i hs; simpa using hs
      · cases h0
    obtain ⟨blk, off, spot⟩ := b
    cases hspot
    have hadd : ∀ j, (⟨blk, off, none⟩ : Addr).add j = ⟨blk, off + j, none⟩ := by
      intro j
      unfold Addr.add
      split
      · rename_i h; subst h; rfl
      · rfl
    have hlt : blk < w.heap.size := World.block_lt_of_cell? _ _ h0
    refine ⟨blk, off, rfl, trivial, hlt, fun j u hu => ?_⟩
    have hj : j < len * 2 := by
      have h1 := (List.getElem?_eq_some_iff.1 hu).1
      rw [EF.flat_length] at h1
      simp only [List.length_map, List.length_range] at h1
      exact h1
    have hi2 : j / 2 < len := by omega
    have hg := EF.flat_get ((List.range len).map F) (j / 2) (j % 2) (by simpa using hi2) (Nat.mod_lt _ (by decide))
    rw [show j / 2 * EF.sz + j % 2 = j from by show j / 2 * 2 + j % 2 = j; omega, hu] at hg
    have hel : ((List.range len).map F)[j / 2]'(by simpa using hi2) = F (j / 2) := by simp
    rw [hel] at hg
    have hF2 := hF (j / 2) hi2
    rw [hadd, hadd] at hF2
    rcases Nat.mod_two_eq_zero_or_one j with hm2 | hm2
    · rw [hm2] at hg
      have : u = .string (F (j / 2)).path := Option.some.inj hg
      rw [this, ← hF2.1]; congr 2; omega
    · rw [hm2] at hg
      have : u = .string (F (j / 2)).data := Option.some.inj hg
      rw [this, ← hF2.2]; congr 2; omega
end

section
variable {H : Type} {enc : TypeId × Value → H} {P : Program}
/-- The post of a call that leaves all old blocks as they were. -/
theorem post_of_below {f : Func} {s : ChangeSpec} {apart fresh handsOn again : Bool} {W W' : World} {args : Array Value} {v : Value} {ds gs : List (DataW H)} {before pa pv : List MemPlace}
    (hW : DataW.Whole enc P f.params.toList s.vars apart W args.toList ds gs before)
    (hres : ∀ (b : Nat) (sp : Nat → Bool) (hd : Bool), DataW.TrodAll enc P W' b sp hd f.resultTypes.toList (v.resultList f.resultTypes.size) (s.fn H (ds ++ gs)).results [])
    (hargs : ∀ sp : Nat → Bool, (∀ p ∈ before, sp p.block = true) → DataW.TrodAll enc P W' 0 sp true f.params.toList args.toList (s.fn H (ds ++ gs)).args pa)
    (hvars : ∀ sp : Nat → Bool, (∀ p ∈ before, sp p.block = true) → DataW.TrodVars enc P W' sp s.vars (s.fn H (ds ++ gs)).vars pv)
    (hps : before = pa ++ pv) (hb : Below W.heap.size W W')
    (hok : ∀ (j : Nat) (t : TypeId) (r : Value), f.resultTypes[j]? = some t → (v.resultList f.resultTypes.size)[j]? = some r → Value.okWide P W' .any 0 t r) :
    s.post enc P f apart fresh handsOn again W args v W' := by
  have hlt : ∀ p ∈ before, p.block < W.heap.size := fun p hp => hW.lt p hp
  have hold : ∀ p ∈ before, (fun b => decide (b < W.heap.size)) p.block = true := fun p hp => by simpa using hlt p hp
  refine ⟨ds, gs, before, [], pa, pv, hW, hres _ _ _, hargs _ hold, hvars _ hold, World.keptBut_mono (fun p hp => ⟨hp, ?_⟩) (hb.frame (· ∈ before)), fun _ => ?_⟩
  · rw [hps, List.mem_append] at hp
    exact Or.inr hp
  · obtain ⟨_, _, _, _, _, hz, hn⟩ := hW
    refine ⟨hok, _, _, ([] ++ pa) ++ pv, ⟨[] ++ pa, pv, trodAll_append (hargs _ (fun _ _ => rfl)) (hres _ _ _), hvars _ (fun _ _ => rfl), rfl, ?_, ?_⟩, ?_⟩
    · intro b off hp
      have hin : MemPlace.cell b off ∈ before := by rw [hps]; simpa using hp
      rw [hb.frozen (hlt _ hin)]
      exact hz b off hin
    · intro ha
      have := hn ha
      rw [hps] at this
      simpa using this
    · intro p hp _
      rw [hps]
      simpa using hp
end

end Go.Proofs.YtinafpbdlblcaaaDoor
