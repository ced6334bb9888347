/-
  From a walk to a row: rows of commits that came in.
-/
import Derived.Test.YtgjbfkaepalkiaaGreatDoorLift
import Derived.Test.YtgjbfkaepalkiaaGreatDoorKom
namespace Go.Proofs.YtgjbfkaepalkiaaGreatDoor
open Go.ChangeShapes Go.WideShapes Go.RowKit
set_option linter.unusedVariables false
set_option linter.unusedSimpArgs false
set_option linter.constructorNameAsVariable false

/-- What is read lies in blocks that there are. -/
theorem Rd.bnd {α : Type} {E : El α} {S : Fp} {w : World} {v : Value} {xs : List α} (h : Rd E S w v xs) : Rd E (fun k => S k ∧ k < w.heap.size) w v xs := by
  obtain ⟨A, c, h1, h2, h3, h4, h5⟩ := h
  refine ⟨A, c, h1, h2, h3, h4, fun hp => ?_⟩
  obtain ⟨b, off, g1, g2, g3, g4⟩ := h5 hp
  exact ⟨b, off, g1, ⟨g2, g3⟩, g3, g4⟩
theorem RdC.bnd {S : Fp} {w : World} {s : KS} {c : Cm} (h : RdC S w s c) : RdC (fun k => S k ∧ k < w.heap.size) w s c := ⟨h.p.bnd, h.t.bnd, h.note⟩
theorem RepK.bnd {S : Fp} {w : World} : ∀ {ss : List KS} {cs : List Cm}, RepK S w ss cs → RepK (fun k => S k ∧ k < w.heap.size) w ss cs
  | [], [], _ => trivial
  | _ :: _, _ :: _, h => ⟨h.1.bnd, RepK.bnd h.2⟩
  | [], _ :: _, h => h.elim
  | _ :: _, [], h => h.elim
theorem RepK.of_each {S : Fp} {w : World} : ∀ {ss : List KS}, (∀ s ∈ ss, ∃ c, RdC S w s c) → ∃ cs, RepK S w ss cs
  | [], _ => ⟨[], trivial⟩
  | s :: ss, h => by
    obtain ⟨c, hc⟩ := h s (List.mem_cons_self ..)
    obtain ⟨cs, hcs⟩ := RepK.of_each fun x hx => h x (List.mem_cons_of_mem _ hx)
    exact ⟨c :: cs, hc, hcs⟩

section
variable {H : Type} {enc : TypeId × Value → H}
set_option maxRecDepth 100000 in
/-- A slice that came in, whose elements' cells are known. -/
theorem open_rows {α : Type} [Inhabited α] {E : El α} {t e : TypeId} {w : World} {fuel : Nat} {cs : List Value} {x : DataW H × List MemPlace} (Q : α → Prop) (ht : Tryz.prog.underlying t = some (.slice e)) (hC : Tryz.prog.cellsOf e = E.sz) (h0 : 0 < E.sz)
    (dec : ∀ (cs : List Value) (n : Nat) x, DataW.trod enc Tryz.prog w 0 (fun _ => true) true n e cs = some x → ∃ y : α, cs = E.enc y ∧ Q y)
    (hf : DataW.trod enc Tryz.prog w 0 (fun _ => true) true fuel t cs = some x) : ∃ (v : SliceV) (xs : List α), cs = [v.val] ∧ Rd E All w v.val xs ∧ ∀ y ∈ xs, Q y := by
  rcases Go.Deep.open_slice ht hf with ⟨hcs, _⟩ | ⟨a, len, cap, m, n, D, Pl, hcs, hb, hl, hm, hmm, _, hi⟩
  · exact ⟨⟨none, 0, 0⟩, [], hcs, Rd.nil _ _, fun y hy => by cases hy⟩
  · simp only [if_true] at hmm
    subst hmm
    have each : ∀ i, i < len → ∃ y : α, (∀ f u, (E.enc y)[f]? = some u → w.cell? (a.add (i * E.sz + f)) = some u) ∧ Q y := by
      intro i hil
      obtain ⟨cs', hc, ht'⟩ := hi i (by omega)
      obtain ⟨y, rfl, hQ⟩ := dec cs' _ _ ht'
      rw [hC] at hc
      obtain ⟨_, hcl, hat⟩ := World.cells?_some hc
      refine ⟨y, fun f u hu => ?_, hQ⟩
      have hfl := (List.getElem?_eq_some_iff.1 hu).1
      have := hat f (by rw [E.len] at hfl; exact hfl)
      rw [← Go.Deep.add_add, this, hu]
    obtain ⟨F, hF⟩ := Go.Deep.choose_lt each
    refine ⟨⟨some a, len, m⟩, (List.range len).map F, hcs, ⟨some a, m, by simp [SliceV.val], by simpa using hl, hm, (fun h => by cases h), fun hp => ?_⟩, fun y hy => ?_⟩
    · simp only [List.length_map, List.length_range] at hp
      have hu0 : (E.enc (F 0))[0]? = some ((E.enc (F 0))[0]'(by rw [E.len]; exact h0)) := List.getElem?_eq_getElem _
      have hc0 := (hF 0 hp).1 0 _ hu0
      have hspot : a.spot = none := by
        unfold World.cell? at hc0
        simp only [Nat.zero_mul, Nat.add_zero, Addr.add, if_true] at hc0
        split at hc0
        · split at hc0
          · cases hc0
          · rename_i hs; simpa using hs
        · cases hc0
      obtain ⟨blk, off, spot⟩ := a
      cases hspot
      rw [add_flat] at hc0
      refine ⟨blk, off, rfl, trivial, World.block_lt_of_cell? _ _ hc0, fun j u hu => ?_⟩
      have hj : j < len * E.sz := by
        have h1 := (List.getElem?_eq_some_iff.1 hu).1
        rw [E.flat_length] at h1
        simpa using h1
      have hi2 : j / E.sz < len := (Nat.div_lt_iff_lt_mul h0).2 hj
      have hg := E.flat_get ((List.range len).map F) (j / E.sz) (j % E.sz) (by simpa using hi2) (Nat.mod_lt _ h0)
      rw [Nat.div_add_mod' j E.sz, hu] at hg
      have hel : ((List.range len).map F)[j / E.sz]'(by simpa using hi2) = F (j / E.sz) := by simp
      rw [hel] at hg
      have := (hF (j / E.sz) hi2).1 (j % E.sz) u hg.symm
      rw [add_flat, Nat.div_add_mod' j E.sz] at this
      exact this
    · obtain ⟨i, hi', rfl⟩ := List.mem_map.1 hy
      exact (hF i (List.mem_range.1 hi')).2

set_option maxRecDepth 100000 in
theorem opened_commits {w : World} {base : Nat} {v : Value} {d : DataW H} {ps : List MemPlace} (hv : Value.okWide Tryz.prog w .any base 22 v) (h : DataW.Trod enc Tryz.prog w 0 (fun _ => true) true 22 v d ps) :
    ∃ (ss : List KS) (cs : List Cm), Rd EK (fun k => k < w.heap.size) w v ss ∧ RepK (fun k => k < w.heap.size) w ss cs := by
  haveI : Inhabited File := ⟨⟨⟨#[]⟩, ⟨#[]⟩⟩⟩
  haveI : Inhabited KS := ⟨⟨⟨none, 0, 0⟩, ⟨none, 0, 0⟩, ⟨#[]⟩⟩⟩
  obtain ⟨a, len, cap, rfl⟩ := okWide_slice Tryz.underlying22 hv
  obtain ⟨fuel, hf⟩ := h
  obtain ⟨v', ss, hcs, hR, hQ⟩ := open_rows (E := EK) (fun s => ∃ c, RdC All w s c) Tryz.underlying22 (by kernel_rfl) (by decide) (fun cs n x hx => by
    obtain ⟨ys, n', _, _, hlen, hyl, hfd⟩ := DataW.trod_struct Tryz.underlying42 hx
    have hl : cs.length = 3 := hlen
    match cs, hl with
    | [c0, c1, c2], _ =>
      match ys, hyl with
      | [y0, y1, y2], _ =>
        have t0 := hfd 0 _ rfl
        have t1 := hfd 1 _ rfl
        have t2 := hfd 2 _ rfl
        obtain ⟨v0, xs0, e0, hR0, _⟩ := open_rows (E := EI) (fun _ => True) Tryz.underlying40 (by kernel_rfl) (by decide) (fun cs n x hx => by
          obtain ⟨k, e, _, _⟩ := DataW.trod_int Tryz.underlying3 hx
          exact ⟨k, e, trivial⟩) t0
        obtain ⟨v1, xs1, e1, hR1, _⟩ := open_rows (E := EF) (fun _ => True) Tryz.underlying30 (by kernel_rfl) (by decide) (fun cs n x hx => by
          obtain ⟨ys, n', _, _, hlen, hyl, hf⟩ := DataW.trod_struct Tryz.underlying39 hx
          have hl : cs.length = 2 := hlen
          match cs, hl with
          | [c0, c1], _ =>
            match ys, hyl with
            | [y0, y1], _ =>
              have t0 := hf 0 _ rfl
              have t1 := hf 1 _ rfl
              obtain ⟨s0, e0, _, _⟩ := DataW.trod_string Tryz.underlying9 t0
              obtain ⟨s1, e1, _, _⟩ := DataW.trod_string Tryz.underlying9 t1
              have e0' : [c0] = [Value.string s0] := e0
              have e1' : [c1] = [Value.string s1] := e1
              injection e0' with e0'
              injection e1' with e1'
              exact ⟨⟨s0, s1⟩, by rw [e0', e1']; rfl, trivial⟩) t1
        obtain ⟨s2, e2, _, _⟩ := DataW.trod_string Tryz.underlying9 t2
        have e0' : [c0] = [v0.val] := e0
        have e1' : [c1] = [v1.val] := e1
        have e2' : [c2] = [Value.string s2] := e2
        injection e0' with e0'
        injection e1' with e1'
        injection e2' with e2'
        exact ⟨⟨v0, v1, s2⟩, by rw [e0', e1', e2']; rfl, ⟨xs0, xs1, s2⟩, hR0, hR1, rfl⟩) hf
  have hvv : (Value.slice a len cap) = v'.val := by
    have h1 : [Value.slice a len cap] = [v'.val] := hcs
    injection h1
  rw [hvv]
  obtain ⟨cs, hcs'⟩ := RepK.of_each hQ
  exact ⟨ss, cs, hR.bnd.wide fun k hk => hk.2, hcs'.bnd.wide fun k hk => hk.2⟩
end

end Go.Proofs.YtgjbfkaepalkiaaGreatDoor
