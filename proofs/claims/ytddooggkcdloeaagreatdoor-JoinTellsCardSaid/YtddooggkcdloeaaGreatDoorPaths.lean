/-
  tree.Paths.
-/
import Derived.Test.YtddooggkcdloeaaGreatDoorTexts
namespace Go.Proofs.YtddooggkcdloeaaGreatDoor
open Go.RowKit
set_option linter.unusedVariables false
set_option linter.unusedSimpArgs false
attribute [local go_sem] Oper.semAt_some

def pathsF (xss : List (List File)) : List ByteArray := compactT (sortT (xss.flatten.map File.path))

set_option maxHeartbeats 800000 in
/-- tree.Paths. -/
theorem paths_calls (v : Value) (ss : List SliceV) (xss : List (List File)) (S : Fp) (w : World) (hV : Rd ESL S w v ss) (hA : RdAll S w ss xss) (hb : sumL xss ≤ 100000) :
    Calls Tryz.prog 22 #[v] w fun e w' => ∃ u, e = .returned u ∧ New ES 9 w.heap.size w' u (pathsF xss) ∧ Ext w w' := by
  refine calls_of_body Tryz.func22 rfl ?_
  simp only [Tryz.ntmps22, List.size_toArray, List.length_cons, List.length_nil, Nat.reduceAdd, Nat.reduceSub, Array.replicate_succ, Array.replicate_zero, List.push_toArray, List.append_toArray, List.nil_append, List.cons_append]
  gi_wp2_with fail
  refine wide_call ((concat_calls v ss xss S _ (hV.kp ((Kp.refl _ w).alloc _)) (hA.kp ((Kp.refl _ w).alloc _)) hb).mono ?_)
  rintro e w1 ⟨u, rfl, hN1, hx1⟩
  have hbox : Blk w1 w.heap.size 26 #[.slice none 0 0] := (Blk.new w 26 #[.slice none 0 0]).ext hx1
  have hz1 := hx1.size
  simp only [World.size_alloc] at hz1
  have hfl : xss.flatten.length ≤ 100000 := hb
  obtain ⟨A1, n1, c1, rfl⟩ := hN1.1.slice
  gi_wp2_with fail
  refine wide_call ((of_calls _ xss.flatten _ w1 hN1.rd (by omega)).mono ?_)
  rintro e w2 ⟨s, rfl, hs, hx2⟩
  have hbox2 := hbox.ext hx2
  have hxw : Ext w w2 := ((Kp.refl _ w).alloc _).trans (hx1.trans hx2)
  have hz2 := hx2.size
  have HFL := Lib.hid hfl
  clear hN1 hV hA hx1 hbox hfl
  gi_wp2_with fail
  refine range_wp (fv := s) rfl hs (fun k hk => hk.2) (fun _ => rfl) (fun pre D W => Coll ES 26 9 w.heap.size (pre.map File.path) D W) (fun _ _ _ _ => False)
    (fun pre D W W' h _ hk => h.frame hk) (fun _ _ _ _ _ h _ _ => h) (fun k => k = w.heap.size) ⟨_, hbox2, Own.nil _ _, rfl, fun g hg => by simp [Value.ownBlock] at hg⟩ (fun k hk => ⟨by omega, fun h => by omega⟩) ?round ?done ?stop
  case stop => exact fun _ _ _ _ _ _ h => h.elim
  case round =>
    intro l pre x D W hI hD hpre hsub hkp hl hlt hnl K hK
    gi_wp2_with fail
    refine hK _ _ ((Kp.refl _ W).alloc _) ?_
    intro W₂ hk2 hsz hrec
    have hWW : Kp (fun k => k ≠ l) W W₂ := (Kp.of_ext ((Kp.refl _ W).alloc _)).trans hk2
    have hx := (Blk.new W 40 #[.string x.path, .string x.data]).kp hk2 (by simp; omega)
    have hx0 : W₂.cell? ⟨W.heap.size, 0, none⟩ = some (.string x.path) := hx.cell 0
    have hx1 : W₂.cell? ⟨W.heap.size, 1, none⟩ = some (.string x.data) := hx.cell 1
    obtain ⟨v, hv, hown, hB, hg⟩ := hI.frame (hWW.mono fun k _ hk => by rintro rfl; exact hnl hk)
    have hv0 := hv.cell0
    have hpl : (pre ++ [x]).length ≤ xss.flatten.length := hpre.length_le
    have hpm : (pre.map File.path).length + 1 ≤ 100000 := by rw [List.length_map]; have := HFL.out; simp only [List.length_append, List.length_singleton] at hpl; omega
    have hpa : (pre ++ [x]).map File.path = pre.map File.path ++ [x.path] := by simp
    have HPA := Lib.hid hpa
    have HPM := Lib.hid hpm
    clear hsub hkp hl hrec hK hs hpl hpa hpm
    gi_wp2_with (gi_at_builtin; refine stop ?_)
    refine listIn_append (v := v) (u := .slice (some ⟨W₂.heap.size, 0, none⟩) 1 1) (ys := [x.path]) tiS rfl rfl rfl rfl (hown.kp ((Kp.refl _ _).alloc _) (fun _ _ => trivial)) (Own.made W₂ 9 [x.path] (by simp [maxLen])).rd (by have := HPM.out; simp at this ⊢; omega) (by have := HPM.out; simp [maxLen] at this ⊢; omega) ?_
    intro v' w' hown' hkp' hblk'
    rw [← HPA.out] at hown'
    obtain ⟨A', n', c', rfl⟩ := hown'.slice
    have hvB : v.ownBlock ≠ some w.heap.size := fun h => by have := (hg _ h).2; omega
    have hv' : Blk w' w.heap.size 26 #[v] := (hv.ext ((Kp.refl _ W₂).alloc _)).kp hkp' hvB
    have hv0' := hv'.cell0
    have hf0' := hv'.frozen 0
    clear hv0 hx0 hx1
    gi_wp2_with fail
    exact coll_step (fun k hk => .inl hk) (fun k hk => by have := hWW.size; rcases hk with hk | hk; exact hWW.lt (hD k hk); omega) hv hB hg ((Kp.refl _ _).alloc _) hown' hkp' hblk'
  case done =>
    intro q D' W' hI hsub hkp hlt hq hnq hblk
    obtain ⟨v, hv, hown, hB, hg⟩ := hI
    have hv0 := hv.cell0
    have hq' : q ≠ w.heap.size := by omega
    have hgq : ∀ g, v.ownBlock = some g → g ≠ q := fun g h e => hnq (e ▸ (hg g h).1)
    have hbk : v.ownBlock ≠ some w.heap.size := fun h => by have := (hg _ h).2; omega
    clear hs
    gi_wp2_with fail
    have hml : (xss.flatten.map File.path).length ≤ 1000000 := by rw [List.length_map]; have := HFL.out; omega
    have HML := Lib.hid hml
    clear hml
    refine wide_call ((sortS_calls v _ W' hown HML.out).mono ?_)
    rintro e w4 ⟨⟨r, rfl⟩, hown4, hk4⟩
    have hv4 : Blk w4 w.heap.size 26 #[v] := hv.kp hk4 hbk
    have hv04 := hv4.cell0
    clear hv0
    gi_wp2_with fail
    have hw4 : w.heap.size + 1 ≤ w4.heap.size := by have := hkp.size; have := hk4.size; omega
    refine wide_call ((compactS_calls v _ w.heap.size w4 ⟨hown4, fun g h => by have := (hg g h).2; omega⟩ (by rw [sortT_length]; exact HML.out)).mono ?_)
    rintro e w5 ⟨u5, rfl, hN5, hk5⟩
    clear hv04
    gi_wp2_with fail
    have hvq : v.ownBlock ≠ some q := fun h => hgq q h rfl
    have hblk5 : w5.heap[q]? = some (.deferred (some [])) := hk5.heap hvq (hk4.heap hvq hblk)
    have hx5 : Ext w w5 := (((hxw.mono fun _ _ _ => trivial).trans' hkp fun k hk _ => Nat.ne_of_lt hk).trans' hk4 fun k hk _ e => by have := (hg _ e).2; omega).trans' hk5 fun k hk _ e => by have := (hg _ e).2; omega
    refine leaves1 hblk5 fun W3 hk3 _ => ⟨_, results_tmp rfl _ _ _, u5, rfl, ⟨hN5.1.kp hk3 fun g hg' e => ?_, hN5.2⟩, hx5.trans' hk3 fun k hk _ => by omega⟩
    subst e
    rcases hN5.1.2 with ⟨h0, _⟩ | ⟨g', cap, cur, h0, _, hc, _⟩
    · rw [h0] at hg'; cases hg'
    · rw [h0] at hg'
      injection hg' with hg'
      subst hg'
      rw [hblk5] at hc
      cases hc

end Go.Proofs.YtddooggkcdloeaaGreatDoor
