/-
  Three rows of one's own that grow by one in one region, in whatever order.
-/
import Derived.Test.YtddooggkcdloeaaGreatDoorApartP
import Derived.Test.YtddooggkcdloeaaGreatDoorLaw9
namespace Go.Proofs.YtddooggkcdloeaaGreatDoor
open Go.RowKit
set_option linter.unusedVariables false
set_option linter.unusedSimpArgs false

/-- Three rows made since w0, apart from one another and from block bf. -/
structure Live (w0 : World) (bf : Nat) (cs : Array Value) (W : World) (v1 v2 v3 : Value) (l1 l2 l3 : List File) : Prop where
  blk : Blk W bf 40 cs
  n1 : New EF 40 w0.heap.size W v1 l1
  n2 : New EF 40 w0.heap.size W v2 l2
  n3 : New EF 40 w0.heap.size W v3 l3
  a12 : ∀ g, v1.ownBlock = some g → v2.ownBlock ≠ some g
  a23 : ∀ g, v2.ownBlock = some g → v3.ownBlock ≠ some g
  a31 : ∀ g, v3.ownBlock = some g → v1.ownBlock ≠ some g
  b1 : v1.ownBlock ≠ some bf
  b2 : v2.ownBlock ≠ some bf
  b3 : v3.ownBlock ≠ some bf
  ext : Ext w0 W
theorem Live.rot {w0 : World} {bf : Nat} {cs : Array Value} {W : World} {v1 v2 v3 : Value} {l1 l2 l3 : List File} (h : Live w0 bf cs W v1 v2 v3 l1 l2 l3) : Live w0 bf cs W v2 v3 v1 l2 l3 l1 :=
  ⟨h.blk, h.n2, h.n3, h.n1, h.a23, h.a31, h.a12, h.b2, h.b3, h.b1, h.ext⟩
/-- A row with one file, made in block u, apart from the three. -/
def Built (W : World) (u : Nat) (f : File) (v1 v2 v3 : Value) : Prop := Rd EF (fun k => k = u) W (.slice (some ⟨u, 0, none⟩) 1 1) [f] ∧ u < W.heap.size ∧ v1.ownBlock ≠ some u ∧ v2.ownBlock ≠ some u ∧ v3.ownBlock ≠ some u
theorem Built.rot {W : World} {u : Nat} {f : File} {v1 v2 v3 : Value} (h : Built W u f v1 v2 v3) : Built W u f v2 v3 v1 := ⟨h.1, h.2.1, h.2.2.2.1, h.2.2.2.2, h.2.2.1⟩

section
variable {w0 : World} {bf : Nat} {cs : Array Value} {W W' : World} {v1 v2 v3 v' : Value} {l1 l2 l3 l' : List File}
theorem Live.ext' (h : Live w0 bf cs W v1 v2 v3 l1 l2 l3) (hx : Ext W W') : Live w0 bf cs W' v1 v2 v3 l1 l2 l3 :=
  ⟨h.blk.ext hx, h.n1.ext hx, h.n2.ext hx, h.n3.ext hx, h.a12, h.a23, h.a31, h.b1, h.b2, h.b3, h.ext.trans hx⟩
theorem Live.alloc (h : Live w0 bf cs W v1 v2 v3 l1 l2 l3) (o : Obj) : Live w0 bf cs (W.alloc o) v1 v2 v3 l1 l2 l3 := h.ext' ((Kp.refl _ _).alloc _)
theorem Live.drew (h : Live w0 bf cs W v1 v2 v3 l1 l2 l3) : Live w0 bf cs W.drew v1 v2 v3 l1 l2 l3 := h.ext' (Kp.refl _ _).drew
theorem Built.ext' {u : Nat} {f : File} (h : Built W u f v1 v2 v3) (hx : Ext W W') : Built W' u f v1 v2 v3 := ⟨h.1.kp (hx.mono fun _ _ _ => trivial), Nat.lt_of_lt_of_le h.2.1 hx.size, h.2.2⟩
theorem Built.alloc {u : Nat} {f : File} (h : Built W u f v1 v2 v3) (o : Obj) : Built (W.alloc o) u f v1 v2 v3 := h.ext' ((Kp.refl _ _).alloc _)
theorem Live.built (h : Live w0 bf cs W v1 v2 v3 l1 l2 l3) (f : File) : Built (W.alloc (.cells #[.string f.path, .string f.data] 40)) W.heap.size f v1 v2 v3 := by
  have hm := Own.made (E := EF) W 40 [f] (by simp [maxLen])
  refine ⟨hm.rd.wide fun k hk => ?_, by simp, fun e => ?_, fun e => ?_, fun e => ?_⟩
  · injection hk with hk; exact hk.symm
  · have := h.n1.1.lt e; omega
  · have := h.n2.1.lt e; omega
  · have := h.n3.1.lt e; omega
theorem Live.grew (h : Live w0 bf cs W v1 v2 v3 l1 l2 l3) (hO : Own EF 40 W' v' l') (hk : Kp (fun k => v1.ownBlock ≠ some k) W W') (hb : v'.ownBlock = v1.ownBlock ∨ v'.ownBlock = some W.heap.size) : Live w0 bf cs W' v' v2 v3 l' l2 l3 := by
  obtain ⟨h1, h2⟩ := h.n1.grow h.ext (Kp.refl _ W) hO hk hb
  have key : ∀ (v : Value) (l : List File), New EF 40 w0.heap.size W v l → (∀ g, v1.ownBlock = some g → v.ownBlock ≠ some g) → ∀ g, v'.ownBlock = some g → v.ownBlock ≠ some g := fun v l hN ha g hg e => by
    rcases hb with hb | hb
    · rw [hb] at hg; exact ha g hg e
    · rw [hb] at hg; injection hg with hg; have := hN.1.lt e; omega
  refine ⟨h.blk.kp hk h.b1, h1, h.n2.kp hk fun g hg e => h.a12 g e hg, h.n3.kp hk fun g hg e => h.a31 g hg e, key v2 l2 h.n2 h.a12, h.a23, fun g hg e => key v3 l3 h.n3 (fun g h1 h3 => h.a31 g h3 h1) g e hg, fun e => ?_, h.b2, h.b3, h2⟩
  rcases hb with hb | hb
  · rw [hb] at e; exact h.b1 e
  · rw [hb] at e; injection e with e; have := h.blk.lt; omega
theorem Built.grew {u : Nat} {f : File} (h : Built W u f v1 v2 v3) (hk : Kp (fun k => v1.ownBlock ≠ some k) W W') (hb : v'.ownBlock = v1.ownBlock ∨ v'.ownBlock = some W.heap.size) : Built W' u f v' v2 v3 := by
  refine ⟨h.1.kp (hk.mono fun k h1 h2 e => h.2.2.1 (by rw [← h2]; exact e)), Nat.lt_of_lt_of_le h.2.1 hk.size, fun e => ?_, h.2.2.2.1, h.2.2.2.2⟩
  rcases hb with hb | hb
  · rw [hb] at e; exact h.2.2.1 e
  · rw [hb] at e; injection e with e; have := h.2.1; omega
end

section
variable {P : Program} {ops : Array Oper} {o : Oper} {a : Act} {K : Act → World → Prop} {Q : Exit → Act → World → Prop} {EE : Prop} {s x : Operand} {w0 W : World} {bf u : Nat} {cs : Array Value} {v1 v2 v3 : Value} {l1 l2 l3 : List File} {f : File}
theorem step_live1 (ti : TI EF P 22 40 32) (hgd : o.guard = none) (ho : o.op = .call { callee := .builtin .append, args := #[s, x], argTypes := #[22, 22] })
    (hL : Live w0 bf cs W v1 v2 v3 l1 l2 l3) (hB : Built W u f v1 v2 v3) (hs : a.eval s = v1) (hx : a.eval x = .slice (some ⟨u, 0, none⟩) 1 1) (hl : l1.length ≤ 1000)
    (h : ∀ v' W', Live w0 bf cs W' v' v2 v3 (l1 ++ [f]) l2 l3 → (∀ u' f', Built W u' f' v1 v2 v3 → Built W' u' f' v' v2 v3) → K (a.put o.dst v') W') :
    if Region.wanted o (yielded ops a.tmps) = true then Oper.wp P o a W K Q else EE := by
  have hw : Region.wanted o (yielded ops a.tmps) = true := by simp [Region.wanted, hgd]
  rw [if_pos hw]
  refine wp_append ti ho hs hx hL.n1.1 hB.1 (by simp; omega) (by simp [maxLen]; omega) ?_
  intro v' W' hO hk hb
  exact h v' W' (hL.grew hO hk hb) fun u' f' h' => h'.grew hk hb
theorem step_live2 (ti : TI EF P 22 40 32) (hgd : o.guard = none) (ho : o.op = .call { callee := .builtin .append, args := #[s, x], argTypes := #[22, 22] })
    (hL : Live w0 bf cs W v1 v2 v3 l1 l2 l3) (hB : Built W u f v1 v2 v3) (hs : a.eval s = v2) (hx : a.eval x = .slice (some ⟨u, 0, none⟩) 1 1) (hl : l2.length ≤ 1000)
    (h : ∀ v' W', Live w0 bf cs W' v1 v' v3 l1 (l2 ++ [f]) l3 → (∀ u' f', Built W u' f' v1 v2 v3 → Built W' u' f' v1 v' v3) → K (a.put o.dst v') W') :
    if Region.wanted o (yielded ops a.tmps) = true then Oper.wp P o a W K Q else EE :=
  step_live1 ti hgd ho hL.rot hB.rot hs hx hl fun v' W' h1 h2 => h v' W' h1.rot.rot fun u' f' h' => (h2 u' f' h'.rot).rot.rot
theorem step_live3 (ti : TI EF P 22 40 32) (hgd : o.guard = none) (ho : o.op = .call { callee := .builtin .append, args := #[s, x], argTypes := #[22, 22] })
    (hL : Live w0 bf cs W v1 v2 v3 l1 l2 l3) (hB : Built W u f v1 v2 v3) (hs : a.eval s = v3) (hx : a.eval x = .slice (some ⟨u, 0, none⟩) 1 1) (hl : l3.length ≤ 1000)
    (h : ∀ v' W', Live w0 bf cs W' v1 v2 v' l1 l2 (l3 ++ [f]) → (∀ u' f', Built W u' f' v1 v2 v3 → Built W' u' f' v1 v2 v') → K (a.put o.dst v') W') :
    if Region.wanted o (yielded ops a.tmps) = true then Oper.wp P o a W K Q else EE :=
  step_live1 ti hgd ho hL.rot.rot hB.rot.rot hs hx hl fun v' W' h1 h2 => h v' W' h1.rot fun u' f' h' => (h2 u' f' h'.rot.rot).rot
end

/-- A statement's end, by a relation; no way out by panic. -/
def OnlyN (R : Act → World → Prop) : Exit → Act → World → Prop
  | .normal, a, w => R a w
  | _, _, _ => False
theorem wp_meet {P : Program} {c : Code} {Q : Exit → Act → World → Prop} {a : Act} {w : World} (R : Act → World → Prop) (h1 : c.wp P (OnlyN R) a w) (h2 : ∀ a' w', R a' w' → Q .normal a' w') : c.wp P Q a w :=
  Code.wp_mono (fun e a w h => by
    cases e <;> first | exact h2 _ _ h | exact (h : False).elim) h1

/-- The slots that JoinApart's first loop writes. -/
def put8 (a : Act) (t68 t69 t70 t71 t72 t73 t74 t75 t76 t77 t78 t79 x y z : Value) : Act := (((((((((((((((a.put (some 68) t68).put (some 69) t69).put (some 70) t70).put (some 71) t71).put (some 72) t72).put (some 73) t73).put (some 74) t74).put (some 75) t75).put (some 76) t76).put (some 77) t77).put (some 78) t78).put (some 79) t79).put (some 7) x).put (some 8) y).put (some 9) z)
theorem wp_meet8 {P : Program} {c : Code} {Q : Exit → Act → World → Prop} {a : Act} {w : World} (F : Value → Value → Value → World → Prop)
    (h1 : c.wp P (OnlyN fun a' w' => ∃ t68 t69 t70 t71 t72 t73 t74 t75 t76 t77 t78 t79 x y z, a' = put8 a t68 t69 t70 t71 t72 t73 t74 t75 t76 t77 t78 t79 x y z ∧ F x y z w') a w)
    (h2 : ∀ t68 t69 t70 t71 t72 t73 t74 t75 t76 t77 t78 t79 x y z w', F x y z w' → Q .normal (put8 a t68 t69 t70 t71 t72 t73 t74 t75 t76 t77 t78 t79 x y z) w') : c.wp P Q a w :=
  wp_meet _ h1 fun a' w' h => by
    obtain ⟨t68, t69, t70, t71, t72, t73, t74, t75, t76, t77, t78, t79, x, y, z, rfl, hF⟩ := h
    exact h2 t68 t69 t70 t71 t72 t73 t74 t75 t76 t77 t78 t79 x y z w' hF

end Go.Proofs.YtddooggkcdloeaaGreatDoor
