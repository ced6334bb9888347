/-
  cortegelaw0.Files.
-/
import Derived.Test.YtinafpbdlblcaaaDoorSame
namespace Go.Proofs.YtinafpbdlblcaaaDoor
open Go.RowKit
set_option linter.unusedVariables false
set_option linter.unusedSimpArgs false
attribute [local go_sem] Oper.semAt_some

set_option maxHeartbeats 800000 in
/-- cortegelaw0.Files, of fewer than asked for. -/
theorem files_calls (s : Value) (xs : List File) (S : Fp) (w : World) (hs : SeqV Tryd.prog S w s encF2 xs) (hS : ∀ k, S k → k < w.heap.size) (m : Nat) (hm : xs.length < m) (hm2 : m ≤ 1000000) :
    Calls Tryd.prog 29 #[s, .int .i64 m] w fun e w' => ∃ u, e = .returned u ∧ New EF 30 w.heap.size w' u xs ∧ Ext w w' := by
  obtain ⟨sf, sa, sb, rfl⟩ := hs.isf
  have hnil := run_eql_func_nil (P := Tryd.prog) 45 ⟨_, _, _, Tryd.underlying45⟩
  have hd1 : decide ((m : Int) < 1) = false := decide_eq_false (by omega)
  refine calls_of_body Tryd.func29 rfl ?_
  simp only [Tryd.ntmps29, List.size_toArray, List.length_cons, List.length_nil, Nat.reduceAdd, Nat.reduceSub, Array.replicate_succ, Array.replicate_zero, List.push_toArray, List.append_toArray, List.nil_append, List.cons_append]
  gi_wp2_with fail
  have hx0 : Ext w ((w.alloc (.cells #[.int .i64 m] 3)).alloc (.cells #[.slice none 0 0] 22)) := ((Kp.refl _ w).alloc _).alloc _
  have hbm : Blk ((w.alloc (.cells #[.int .i64 m] 3)).alloc (.cells #[.slice none 0 0] 22)) w.heap.size 3 #[.int .i64 m] := (Blk.new w 3 #[.int .i64 m]).ext ((Kp.refl _ _).alloc _)
  have hbo : Blk ((w.alloc (.cells #[.int .i64 m] 3)).alloc (.cells #[.slice none 0 0] 22)) (w.heap.size + 1) 22 #[.slice none 0 0] := by
    have := Blk.new (w.alloc (.cells #[.int .i64 m] 3)) 22 #[.slice none 0 0]
    simpa using this
  have hz0 : ((w.alloc (.cells #[.int .i64 m] 3)).alloc (.cells #[.slice none 0 0] 22)).heap.size = w.heap.size + 2 := by simp
  clear hnil
  generalize hW0 : ((w.alloc (.cells #[.int .i64 m] 3)).alloc (.cells #[.slice none 0 0] 22)) = W0 at hx0 hbm hbo hz0 ⊢
  clear hW0
  refine range_wp (fv := .func sf sa sb) rfl (hs.later (Kp.of_ext hx0)) (fun k hk => by have := hS k hk; omega) (fun _ => rfl) (fun pre D W => Coll EF 22 30 (w.heap.size + 1) pre D W) (fun _ _ _ _ => False)
    (fun pre D W W' h _ hk => h.frame hk) (fun _ _ _ _ _ h _ _ => h) (fun k => k = w.heap.size + 1) ⟨_, hbo, Own.nil _ _, rfl, fun g hg => by simp [Value.ownBlock] at hg⟩ (fun k hk => ⟨by omega, fun h => by have := hS k h; omega⟩) ?round ?done ?stop
  case stop => exact fun _ _ _ _ _ _ h => h.elim
  case round =>
    intro l pre x D W hI hD hpre hsub hkp hl hlt hnl K hK
    gi_wp2_with fail
    refine hK _ _ (Kp.refl _ W) ?_
    intro W₂ hk2 hsz hrec
    have hmost := ((hbm.kp hkp (by omega)).kp hk2 (by omega)).cell0
    have hBm2 := ((hbm.kp hkp (by omega)).kp hk2 (by omega))
    obtain ⟨v, hv, hown, hB, hg⟩ := hI.frame (hk2.mono fun k _ hk => by rintro rfl; exact hnl hk)
    have hv0 := hv.cell0
    have hpl : (pre ++ [x]).length ≤ xs.length := hpre.length_le
    simp only [List.length_append, List.length_singleton] at hpl
    obtain ⟨q, hq⟩ : ∃ q, pre.length = q := ⟨_, rfl⟩
    have hql : q + 1 < m := by omega
    have hge : decide ((m : Int) ≤ ((q + 1 : Nat) : Int)) = false := decide_eq_false (by omega)
    have hge' : decide (m ≤ q + 1) = false := decide_eq_false (by omega)
    have HQ := Lib.hid hq
    clear hsub hkp hrec hK hs hS hq
    gi_wp2_with (gi_at_builtin; refine stop ?_)
    refine listIn_append (v := v) (u := .slice (some ⟨W₂.heap.size, 0, none⟩) 1 1) (ys := [x]) tiF rfl rfl rfl rfl (hown.kp ((Kp.refl _ _).alloc _) (fun _ _ => trivial)) (Own.made W₂ 30 [x] (by simp [maxLen])).rd (by rw [HQ.out]; simp; omega) (by rw [HQ.out]; simp [maxLen]; omega) ?_
    intro v' w' hown' hkp' hblk'
    have hlen' : (pre ++ [x]).length = q + 1 := by rw [List.length_append, HQ.out]; rfl
    obtain ⟨A', c', hv'⟩ : ∃ A c, v' = .slice A (q + 1) c := by
      obtain ⟨A, c, hv, _⟩ := hown'.rd
      exact ⟨A, c, by rw [hv, hlen']⟩
    subst hv'
    have hvB : v.ownBlock ≠ some (w.heap.size + 1) := fun h => by have := (hg _ h).2; omega
    have hvM : v.ownBlock ≠ some w.heap.size := fun h => by have := (hg _ h).2; omega
    have hv1 : Blk w' (w.heap.size + 1) 22 #[v] := (hv.ext ((Kp.refl _ W₂).alloc _)).kp hkp' hvB
    have hm1 : Blk w' w.heap.size 3 #[.int .i64 m] := (hBm2.ext ((Kp.refl _ W₂).alloc _)).kp hkp' hvM
    have hv0' := hv1.cell0
    have hf0' := hv1.frozen 0
    have hm0' := hm1.cell0
    clear hv0 hmost hlen'
    gi_wp2_with fail
    exact coll_step (fun k hk => .inl hk) (fun k hk => by rcases hk with hk | hk; exact hk2.lt (hD k hk); omega) hv hB hg ((Kp.refl _ _).alloc _) hown' hkp' hblk'
  case done =>
    intro q D' W' hI hsub hkp hlt hq hnq hblk
    obtain ⟨v, hv, hown, hB, hg⟩ := hI
    have hv0 := hv.cell0
    have hgq : ∀ g, v.ownBlock = some g → g ≠ q := fun g h e => hnq (e ▸ (hg g h).1)
    clear hs hS
    gi_wp2_with fail
    refine leaves1 hblk fun W3 hk3 _ => ⟨_, results_tmp rfl _ _ _, v, rfl, ⟨hown.kp hk3 hgq, fun g h => by have := (hg g h).2; omega⟩, ?_⟩
    exact ((hx0.mono fun _ _ _ => trivial).trans' hkp fun k hk _ => by omega).trans' hk3 fun k hk _ => by omega

end Go.Proofs.YtinafpbdlblcaaaDoor
