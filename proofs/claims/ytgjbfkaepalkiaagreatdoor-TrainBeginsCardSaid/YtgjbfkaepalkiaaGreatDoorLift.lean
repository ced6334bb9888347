/-
  From a walk to a row: what all rows share. From a walk to a row: what all rows of this seat share.
-/
import Derived.Test.YtgjbfkaepalkiaaGreatDoorBase
import Derived.Test.YtgjbfkaepalkiaaGreatDoorData
import Derived.ProofKit
import Derived.ChangeSame
import Derived.JoinedOf
import Derived.Deep.SlicePairs
import Derived.Below
import Derived.Carry
import Derived.Test.YtgjbfkaepalkiaaGreatDoorRows
import Derived.Test.YtgjbfkaepalkiaaGreatDoorTie
import Derived.LaidLaws
import Derived.SevenTiedAt
import Derived.Deep.DeepLaidRun
namespace Go.Proofs.YtgjbfkaepalkiaaGreatDoor
open Go.ChangeShapes Go.WideShapes Go.RowKit
open Go.ChangeMaps (open_string shut_string)
set_option linter.unusedVariables false
set_option linter.unusedSimpArgs false
set_option linter.constructorNameAsVariable false

theorem own : ownKnob Tryz.prog.godebug = none := by kernel_rfl
theorem laidOut : laidOutB Tryz.prog = true := by kernel_rfl

/-- Old blocks stand. -/
theorem Ext.below {w w' : World} (h : Ext w w') : Below w.heap.size w w' := ⟨h.os, h.tape, h.output, h.size, fun k hk => h.block k hk trivial⟩

section
variable {H : Type} {enc : TypeId × Value → H}

theorem kept_all {W W' : World} (hb : Below W.heap.size W W') (sp : Nat → Bool) : ∀ {ts : List TypeId} {vs : List Value} {ds : List (DataW H)} {ps : List MemPlace}, (∀ t ∈ ts, Tryz.prog.readableRec t = true ∧ t < Tryz.prog.types.size) → (∀ x ∈ ps, x.block < W.heap.size) → (∀ x ∈ ps, sp x.block = true) →
    DataW.TrodAll enc Tryz.prog W 0 (fun _ => true) true ts vs ds ps → DataW.TrodAll enc Tryz.prog W' 0 sp true ts vs ds ps
  | [], [], [], _, _, _, _, h => h
  | [], [], _ :: _, _, _, _, _, h => h.elim
  | [], _ :: _, _, _, _, _, _, h => by cases ‹List (DataW H)› <;> exact h.elim
  | _ :: _, [], _, _, _, _, _, h => by cases ‹List (DataW H)› <;> exact h.elim
  | _ :: _, _ :: _, [], _, _, _, _, h => h.elim
  | t :: ts, v :: vs, d :: ds, ps, hr, hlt, hsp, h => by
    obtain ⟨p, q, h1, h2, rfl⟩ := h
    exact ⟨p, q, WideElems.Trod_stays laidOut (hr t (by simp)).1 (hr t (by simp)).2 h1 (fun x hx => hb.same (hlt x (by simp [hx]))) (fun x hx => hsp x (by simp [hx])), kept_all hb sp (fun t ht => hr t (by simp [ht])) (fun x hx => hlt x (by simp [hx])) (fun x hx => hsp x (by simp [hx])) h2, rfl⟩

theorem add_flat (b off j : Nat) : (⟨b, off, none⟩ : Addr).add j = ⟨b, off + j, none⟩ := by
  unfold Addr.add
  split
  · rename_i h; subst h; rfl
  · rfl

set_option maxRecDepth 100000 in
/-- A slice that came in, whose elements' cells are known. -/
theorem opened_slice {α : Type} [Inhabited α] {E : El α} {t e : TypeId} {w : World} {base : Nat} {v : Value} {d : DataW H} {ps : List MemPlace} (ht : Tryz.prog.underlying t = some (.slice e)) (hC : Tryz.prog.cellsOf e = E.sz) (h0 : 0 < E.sz)
    (dec : ∀ (cs : List Value) (n : Nat) x, DataW.trod enc Tryz.prog w 0 (fun _ => true) true n e cs = some x → ∃ y : α, cs = E.enc y)
    (hv : Value.okWide Tryz.prog w .any base t v) (h : DataW.Trod enc Tryz.prog w 0 (fun _ => true) true t v d ps) : ∃ xs : List α, Rd E All w v xs := by
  obtain ⟨a, len, cap, rfl⟩ := okWide_slice ht hv
  obtain ⟨fuel, hf⟩ := h
  rcases Go.Deep.open_slice ht hf with ⟨hcs, _⟩ | ⟨a, l, c, m, n, D, Pl, hcs, hb, hl, hm, hmm, _, hi⟩
  · simp only [Value.cells, List.cons.injEq, and_true] at hcs
    cases hcs
    exact ⟨[], Rd.nil _ _⟩
  · simp only [Value.cells, List.cons.injEq, and_true] at hcs
    cases hcs
    simp only [if_true] at hmm
    subst hmm
    have each : ∀ i, i < len → ∃ y : α, ∀ f u, (E.enc y)[f]? = some u → w.cell? (a.add (i * E.sz + f)) = some u := by
      intro i hil
      obtain ⟨cs', hc, ht'⟩ := hi i (by omega)
      obtain ⟨y, rfl⟩ := dec cs' _ _ ht'
      rw [hC] at hc
      obtain ⟨_, hcl, hat⟩ := World.cells?_some hc
      refine ⟨y, fun f u hu => ?_⟩
      have hfl := (List.getElem?_eq_some_iff.1 hu).1
      have := hat f (by rw [E.len] at hfl; exact hfl)
      rw [← Go.Deep.add_add, this, hu]
    obtain ⟨F, hF⟩ := Go.Deep.choose_lt each
    refine ⟨(List.range len).map F, some a, m, by simp, by simpa using hl, hm, (fun h => by cases h), fun hp => ?_⟩
    simp only [List.length_map, List.length_range] at hp
    have hu0 : (E.enc (F 0))[0]? = some ((E.enc (F 0))[0]'(by rw [E.len]; exact h0)) := List.getElem?_eq_getElem _
    have hc0 := hF 0 hp 0 _ hu0
    have hspot : a.spot = none := by
      unfold World.cell? at hc0
      simp only [Nat.zero_mul, Nat.add_zero, Addr.add, if_true] at hc0
      split at hc0
      · split at hc0
        · cases hc0
        · rename_i hs; simpa using hs
      · cases hc0
    obtain ⟨blk, off, spot⟩ := a
    cases hspot
    rw [add_flat] at hc0
    refine ⟨blk, off, rfl, trivial, World.block_lt_of_cell? _ _ hc0, fun j u hu => ?_⟩
    have hj : j < len * E.sz := by
      have h1 := (List.getElem?_eq_some_iff.1 hu).1
      rw [E.flat_length] at h1
      simpa using h1
    have hi2 : j / E.sz < len := (Nat.div_lt_iff_lt_mul h0).2 hj
    have hg := E.flat_get ((List.range len).map F) (j / E.sz) (j % E.sz) (by simpa using hi2) (Nat.mod_lt _ h0)
    rw [Nat.div_add_mod' j E.sz, hu] at hg
    have hel : ((List.range len).map F)[j / E.sz]'(by simpa using hi2) = F (j / E.sz) := by simp
    rw [hel] at hg
    have := hF (j / E.sz) hi2 (j % E.sz) u hg.symm
    rw [add_flat, Nat.div_add_mod' j E.sz] at this
    exact this

set_option maxRecDepth 100000 in
theorem opened_files {w : World} {base : Nat} {v : Value} {d : DataW H} {ps : List MemPlace} (hv : Value.okWide Tryz.prog w .any base 30 v) (h : DataW.Trod enc Tryz.prog w 0 (fun _ => true) true 30 v d ps) : ∃ xs : List File, Rd EF All w v xs := by
  haveI : Inhabited File := ⟨⟨⟨#[]⟩, ⟨#[]⟩⟩⟩
  refine opened_slice Tryz.underlying30 (by kernel_rfl) (by decide) (fun cs n x hx => ?_) hv h
  obtain ⟨ys, n', _, _, hlen, hyl, hf⟩ := DataW.trod_struct Tryz.underlying39 hx
  have hl : cs.length = 2 := hlen
  match cs, hl with
  | [c0, c1], _ =>
    match ys, hyl with
    | [y0, y1], _ =>
      have t0 := hf 0 _ rfl
      have t1 := hf 1 _ rfl
      obtain ⟨s0, e0, _, _⟩ := DataW.trod_string Tryz.underlying9 t0
      obtain ⟨s1, e1, _, _⟩ := DataW.trod_string Tryz.underlying9 t1
      have e0' : [c0] = [Value.string s0] := e0
      have e1' : [c1] = [Value.string s1] := e1
      injection e0' with e0'
      injection e1' with e1'
      exact ⟨⟨s0, s1⟩, by rw [e0', e1']; rfl⟩
end

section
variable {H : Type} {enc : TypeId × Value → H} {P : Program}
/-- The post of a call that leaves all old blocks as they were. -/
theorem post_of_below {f : Func} {s : ChangeSpec} {apart fresh handsOn again : Bool} {W W' : World} {args : Array Value} {v : Value} {ds gs : List (DataW H)} {before pa pv : List MemPlace}
    (hW : DataW.Whole enc P f.params.toList s.vars apart W args.toList ds gs before)
    (hres : ∀ (b : Nat) (sp : Nat → Bool) (hd : Bool), DataW.TrodAll enc P W' b sp hd f.resultTypes.toList (v.resultList f.resultTypes.size) (s.fn H (ds ++ gs)).results [])
    (hargs : ∀ sp : Nat → Bool, (∀ p ∈ before, sp p.block = true) → DataW.TrodAll enc P W' 0 sp true f.params.toList args.toList (s.fn H (ds ++ gs)).args pa)
    (hvars : ∀ sp : Nat → Bool, (∀ p ∈ before, sp p.block = true) → DataW.TrodVars enc P W' sp s.vars (s.fn H (ds ++ gs)).vars pv)
    (hps : before = pa ++ pv) (hb : Below W.heap.size W W')
    (hok : ∀ (j : Nat) (t : TypeId) (r : Value), f.resultTypes[j]? = some t → (v.resultList f.resultTypes.size)[j]? = some r → Value.okWide P W' .any 0 t r) :
    s.post enc P f apart fresh handsOn again W args v W' := by
  have hlt : ∀ p ∈ before, p.block < W.heap.size := fun p hp => hW.lt p hp
  have hold : ∀ p ∈ before, (fun b => decide (b < W.heap.size)) p.block = true := fun p hp => by simpa using hlt p hp
  refine ⟨ds, gs, before, [], pa, pv, hW, hres _ _ _, hargs _ hold, hvars _ hold, World.keptBut_mono (fun p hp => ⟨hp, ?_⟩) (hb.frame (· ∈ before)), fun _ => ?_⟩
  · rw [hps, List.mem_append] at hp
    exact Or.inr hp
  · obtain ⟨_, _, _, _, _, hz, hn⟩ := hW
    refine ⟨hok, _, _, ([] ++ pa) ++ pv, ⟨[] ++ pa, pv, trodAll_append (hargs _ (fun _ _ => rfl)) (hres _ _ _), hvars _ (fun _ _ => rfl), rfl, ?_, ?_⟩, ?_⟩
    · intro b off hp
      have hin : MemPlace.cell b off ∈ before := by rw [hps]; simpa using hp
      rw [hb.frozen (hlt _ hin)]
      exact hz b off hin
    · intro ha
      have := hn ha
      rw [hps] at this
      simpa using this
    · intro p hp _
      rw [hps]
      simpa using hp
end

end Go.Proofs.YtgjbfkaepalkiaaGreatDoor

namespace Go.Proofs.YtgjbfkaepalkiaaGreatDoor
open Go.ChangeShapes Go.WideShapes Go.RowKit
open Go.ChangeMaps (open_string shut_string)
set_option linter.unusedVariables false
set_option linter.unusedSimpArgs false
set_option linter.constructorNameAsVariable false

/-- The settled world, the tables laid. -/
noncomputable def laidWorld (os : Os) : World :=
  let w0 := World.holding Tryz.prog os ⟨#[], #[], []⟩
  { w0 with heap := (w0.heap.modify 1 fun
      | .cells _ t frozen => .cells (match Go.Pinned.utf8First with
        | .agg l => (l.map fun | .lit (.int k n) => Value.int k n | _ => undef).toArray
        | _ => #[]) t frozen
      | o => o).modify 2 fun
      | .cells _ t frozen => .cells (match (Rows.laid_unicode_utf8_acceptRanges : DataW Unit) with
        | .agg l => (l.flatMap fun | .agg m => m.map (fun | .lit (.int k n) => Value.int k n | _ => undef) | _ => []).toArray
        | _ => #[]) t frozen
      | o => o }
theorem laidWorld_met (os : Os) (args : Array Value) : laidMet Tryz.prog [("unicode/utf8.acceptRanges", Rows.laid_unicode_utf8_acceptRanges), ("unicode/utf8.first", Rows.laid_unicode_utf8_first)] ((laidWorld os).forCall (fun _ _ => 0) ⟨#[], args, []⟩).memory :=
  laidMet_of_run3 8 (by kernel_rfl) (by kernel_rfl) (by kernel_rfl)

end Go.Proofs.YtgjbfkaepalkiaaGreatDoor
