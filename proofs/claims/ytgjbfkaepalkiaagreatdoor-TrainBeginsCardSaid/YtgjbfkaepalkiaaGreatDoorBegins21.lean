/-
  From a walk to a row: rows of entries that came in. Plain: the beginnings of trains. TrainBegins: the walk.
-/
import Derived.Test.YtgjbfkaepalkiaaGreatDoorOpenK
import Derived.Test.YtgjbfkaepalkiaaGreatDoorTrainP
import Derived.Test.YtgjbfkaepalkiaaGreatDoorAwake21
namespace Go.Proofs.YtgjbfkaepalkiaaGreatDoor
open Go.ChangeShapes Go.WideShapes Go.RowKit
set_option linter.unusedVariables false
set_option linter.unusedSimpArgs false
set_option linter.constructorNameAsVariable false

/-- Five arguments. -/
theorem trodAll_five {H : Type} {enc : TypeId × Value → H} {P : Program} {w : World} {base : Nat} {spare : Nat → Bool} {held : Bool} {t0 t1 t2 t3 t4 : TypeId} {args : Array Value} {ds : List (DataW H)} {ps : List MemPlace} (h : DataW.TrodAll enc P w base spare held [t0, t1, t2, t3, t4] args.toList ds ps) :
    ∃ v0 v1 v2 v3 v4 d0 d1 d2 d3 d4 p0 p1 p2 p3 p4, args = #[v0, v1, v2, v3, v4] ∧ ds = [d0, d1, d2, d3, d4] ∧ ps = p0 ++ p1 ++ p2 ++ p3 ++ p4 ∧ DataW.Trod enc P w base spare held t0 v0 d0 p0 ∧ DataW.Trod enc P w base spare held t1 v1 d1 p1 ∧ DataW.Trod enc P w base spare held t2 v2 d2 p2 ∧ DataW.Trod enc P w base spare held t3 v3 d3 p3 ∧ DataW.Trod enc P w base spare held t4 v4 d4 p4 := by
  obtain ⟨v0, vs0, d0, ds0, p0, q0, hargs, rfl, rfl, h0, r0⟩ := trodAll_cons h
  obtain ⟨v1, vs1, d1, ds1, p1, q1, rfl, rfl, rfl, h1, r1⟩ := trodAll_cons r0
  obtain ⟨v2, vs2, d2, ds2, p2, q2, rfl, rfl, rfl, h2, r2⟩ := trodAll_cons r1
  obtain ⟨v3, vs3, d3, ds3, p3, q3, rfl, rfl, rfl, h3, r3⟩ := trodAll_cons r2
  obtain ⟨v4, vs4, d4, ds4, p4, q4, rfl, rfl, rfl, h4, r4⟩ := trodAll_cons r3
  obtain ⟨rfl, rfl, rfl⟩ := trodAll_nil r4
  exact ⟨v0, v1, v2, v3, v4, d0, d1, d2, d3, d4, p0, p1, p2, p3, p4, by cases args; simp_all, rfl, by simp, h0, h1, h2, h3, h4⟩

section
variable {H : Type} {enc : TypeId × Value → H}
set_option maxRecDepth 100000 in
theorem opened_entries {w : World} {base : Nat} {v : Value} {d : DataW H} {ps : List MemPlace} (hv : Value.okWide Tryz.prog w .any base 69 v) (h : DataW.Trod enc Tryz.prog w 0 (fun _ => true) true 69 v d ps) : ∃ xs : List Ent, Rd EE (fun k => k < w.heap.size) w v xs := by
  haveI : Inhabited Ent := ⟨⟨0, 0, 0, 0⟩⟩
  obtain ⟨xs, hxs⟩ := opened_slice (E := EE) Tryz.underlying69 (by kernel_rfl) (by decide) (fun cs n x hx => by
    obtain ⟨ys, n', _, _, hlen, hyl, hfd⟩ := DataW.trod_struct Tryz.underlying79 hx
    have hl : cs.length = 4 := hlen
    match cs, hl with
    | [c0, c1, c2, c3], _ =>
      match ys, hyl with
      | [y0, y1, y2, y3], _ =>
        have t0 := hfd 0 _ rfl
        have t1 := hfd 1 _ rfl
        have t2 := hfd 2 _ rfl
        have t3 := hfd 3 _ rfl
        obtain ⟨k0, e0, _, _⟩ := DataW.trod_int Tryz.underlying3 t0
        obtain ⟨k1, e1, _, _⟩ := DataW.trod_int Tryz.underlying3 t1
        obtain ⟨k2, e2, _, _⟩ := DataW.trod_int Tryz.underlying3 t2
        obtain ⟨k3, e3, _, _⟩ := DataW.trod_int Tryz.underlying3 t3
        have e0' : [c0] = [Value.int .i64 k0] := e0
        have e1' : [c1] = [Value.int .i64 k1] := e1
        have e2' : [c2] = [Value.int .i64 k2] := e2
        have e3' : [c3] = [Value.int .i64 k3] := e3
        injection e0' with e0'
        injection e1' with e1'
        injection e2' with e2'
        injection e3' with e3'
        exact ⟨⟨k0, k1, k2, k3⟩, by rw [e0', e1', e2', e3']; rfl⟩) hv h
  exact ⟨xs, hxs.bnd.wide fun k hk => hk.2⟩
end

end Go.Proofs.YtgjbfkaepalkiaaGreatDoor

namespace Go.Proofs.YtgjbfkaepalkiaaGreatDoor
open Go.RowKit
set_option linter.unusedVariables false
set_option linter.unusedSimpArgs false

theorem addC_room {M : List Cm} {R R' : Nat} {c : Cm} (h : M.length < R) (h' : M.length < R') : addC M R c = addC M R' c := by
  unfold addC
  rw [if_neg (show ¬ R ≤ M.length by omega), if_neg (show ¬ R' ≤ M.length by omega)]
theorem stepT_room {room : Bool} {R R' : Nat} {s : TSt} {e : Ent} (h : s.M.length < R) (h' : s.M.length < R') : stepT room R s e = stepT room R' s e := by
  unfold stepT
  rw [addC_room h h']
theorem runT_room {room : Bool} {R R' : Nat} {M : List Cm} {tip : Int} (hG : GoodR M) (es : List Ent) : M.length + es.length ≤ R → M.length + es.length ≤ R' → runT room R M tip es = runT room R' M tip es := by
  refine snocInd (p := fun es => M.length + es.length ≤ R → M.length + es.length ≤ R' → runT room R M tip es = runT room R' M tip es) (fun _ _ => rfl) (fun l x ih h h' => ?_) es
  rw [List.length_append, List.length_singleton] at h h'
  have ih := ih (by omega) (by omega)
  have hg := runT_good (room := room) (R := R') (tip := tip) hG l
  have := hg.len
  have := hg.few
  rw [runT_snoc, runT_snoc, ih]
  exact stepT_room (by omega) (by omega)
theorem stepT_pre {room : Bool} {R : Nat} {s : TSt} {e : Ent} : s.l <+: (stepT room R s e).l := by
  unfold stepT
  split
  · exact List.prefix_refl _
  · split
    · exact List.prefix_append _ _
    · split
      · rename_i h
        have : s.l = [] := by simpa using h
        rw [this]
        exact List.nil_prefix
      · exact List.prefix_refl _
theorem foldT_pre {room : Bool} {R : Nat} : ∀ (es : List Ent) (s : TSt), s.l <+: (es.foldl (stepT room R) s).l
  | [], s => List.prefix_refl _
  | e :: es, s => by rw [List.foldl_cons]; exact stepT_pre.trans (foldT_pre es _)
theorem runT_pre {room : Bool} {R : Nat} {M : List Cm} {tip : Int} {p es : List Ent} (h : p <+: es) : (runT room R M tip p).l <+: (runT room R M tip es).l := by
  obtain ⟨q, rfl⟩ := h
  unfold runT
  rw [List.foldl_append]
  exact foldT_pre q _

/-- The train's state behind so many entries. -/
def rT (M : List Cm) (tip : Int) (es : List Ent) (k : Nat) : TSt := runT true 66 M tip (es.take k)
section
variable {M : List Cm} {tip : Int} {es : List Ent} (hG : GoodR M) (hM : M.length ≤ 14)
include hG hM in
theorem trainF_rT {most : Int} (h : 0 ≤ most) : trainF M tip es most = (rT M tip es (min most 6).toNat).l := by
  unfold trainF rT
  rw [decide_eq_true (show M.length < 60 by omega)]
  have hl : (es.take (min most 6).toNat).length ≤ 6 := by rw [List.length_take]; omega
  have hl2 : (es.take (min most 6).toNat).length ≤ (min most 6).toNat := by rw [List.length_take]; omega
  rw [runT_room hG _ (R := 60 + (min most 6).toNat) (R' := 66) (by omega) (by omega)]
theorem rT_zero : rT M tip es 0 = ⟨M, tip, [], false⟩ := rfl
theorem rT_succ {k : Nat} (hk : k < es.length) : rT M tip es (k + 1) = stepT true 66 (rT M tip es k) es[k] := by
  unfold rT
  rw [take_snoc es hk, runT_snoc]
theorem rT_off {k m : Nat} (hkm : k ≤ m) (h : (rT M tip es k).off = true) : rT M tip es m = rT M tip es k :=
  runT_off (List.take_prefix_take_left hkm) h
theorem rT_pre {k m : Nat} (hkm : k ≤ m) : (rT M tip es k).l <+: (rT M tip es m).l := runT_pre (List.take_prefix_take_left hkm)
include hG in
theorem rT_good (k : Nat) : GoodT M.length (min k es.length) (rT M tip es k) := by
  have := runT_good (room := true) (R := 66) (tip := tip) hG (es.take k)
  rwa [List.length_take] at this
/-- How long the two are. -/
structure BeginL (few : Nat) (es : List Ent) (a b : List Car) : Prop where
  len : a.length = min b.length few
  six : b.length ≤ 6
  les : b.length ≤ es.length
  none_ : (a.length = 0) ↔ (es.length = 0)
  same : ∀ i (h1 : i < a.length) (h2 : i < b.length), a[i] = b[i]
include hG in
theorem begin_len {few m : Nat} (h1 : 1 ≤ few) (h2 : few ≤ m) (h6 : m ≤ 6) : BeginL few es (rT M tip es few).l (rT M tip es m).l := by
  have ga := rT_good (tip := tip) (es := es) hG few
  have gb := rT_good (tip := tip) (es := es) hG m
  have hp := rT_pre (M := M) (tip := tip) (es := es) h2
  have hpl := hp.length_le
  have fa := ga.few
  have fb := gb.few
  refine ⟨?_, by omega, by omega, ⟨fun h => ?_, fun h => by omega⟩, fun i i1 i2 => ?_⟩
  · cases ho : (rT M tip es few).off with
    | true => rw [rT_off h2 ho]; omega
    | false =>
      have := ga.on ho
      omega
  · cases hes : es with
    | nil => rfl
    | cons e es' =>
      exfalso
      have h01 : 0 < es.length := by rw [hes]; simp
      have hs := rT_succ (M := M) (tip := tip) (es := es) h01
      have hl1 : 1 ≤ (rT M tip es 1).l.length := by
        rw [hs, rT_zero]
        unfold stepT
        rw [if_neg (by simp)]
        split
        · simp
        · simp
      have := (rT_pre (M := M) (tip := tip) (es := es) h1).length_le
      omega
  · exact hp.getElem i1
/-- What stands at a place of a train. -/
theorem begin_at (hG : GoodR M) {m i : Nat} (hi : i < (rT M tip es m).l.length) : (rT M tip es i).off = false ∧ ∃ he : i < es.length, i < m ∧ (rT M tip es i).M.length ≤ M.length + i ∧ GoodR (rT M tip es i).M ∧
    (rT M tip es m).l[i] = carF (rT M tip es i).M (rT M tip es i).tip es[i] true ∧
    (((rT M tip es m).l[i].code ≠ 7 → i = 0 ∧ (rT M tip es m).l.length = 1) ∧
     ((rT M tip es m).l[i].code = 7 → rT M tip es (i + 1) = ⟨(addC (rT M tip es i).M 66 (rT M tip es m).l[i].merge).1, ((addC (rT M tip es i).M 66 (rT M tip es m).l[i].merge).2.1 : Int), (rT M tip es i).l ++ [(rT M tip es m).l[i]], false⟩)) := by
  have gm := rT_good (tip := tip) (es := es) hG m
  have gi := rT_good (tip := tip) (es := es) hG i
  have fm := gm.few
  have fi := gi.few
  have him : i < m := by omega
  have hie : i < es.length := by omega
  have hoff : (rT M tip es i).off = false := by
    cases ho : (rT M tip es i).off with
    | false => rfl
    | true =>
      rw [rT_off (Nat.le_of_lt him) ho] at hi
      omega
  have hli := gi.on hoff
  rw [Nat.min_eq_left (by omega)] at hli
  have hlM := gi.len
  have hs := rT_succ (M := M) (tip := tip) (es := es) hie
  have hp := rT_pre (M := M) (tip := tip) (es := es) (show i + 1 ≤ m by omega)
  have hstep : stepT true 66 (rT M tip es i) es[i] = if (carF (rT M tip es i).M (rT M tip es i).tip es[i] true).code = 7 then
      ⟨(addC (rT M tip es i).M 66 (carF (rT M tip es i).M (rT M tip es i).tip es[i] true).merge).1, ((addC (rT M tip es i).M 66 (carF (rT M tip es i).M (rT M tip es i).tip es[i] true).merge).2.1 : Int), (rT M tip es i).l ++ [carF (rT M tip es i).M (rT M tip es i).tip es[i] true], false⟩
    else if (rT M tip es i).l.isEmpty = true then ⟨(rT M tip es i).M, (rT M tip es i).tip, [carF (rT M tip es i).M (rT M tip es i).tip es[i] true], true⟩ else ⟨(rT M tip es i).M, (rT M tip es i).tip, (rT M tip es i).l, true⟩ := by
    unfold stepT
    rw [if_neg (by rw [hoff]; simp), Bool.or_true]
  obtain ⟨c, hc⟩ : ∃ c, carF (rT M tip es i).M (rT M tip es i).tip es[i] true = c := ⟨_, rfl⟩
  rw [hc] at hstep
  rw [hstep] at hs
  by_cases h7 : c.code = 7
  · rw [if_pos h7] at hs
    have hl1 : (rT M tip es (i + 1)).l = (rT M tip es i).l ++ [c] := by rw [hs]
    have hat : (rT M tip es m).l[i] = c := by
      have h1 : i < (rT M tip es (i + 1)).l.length := by rw [hl1]; simp; omega
      rw [← hp.getElem h1]
      simp only [hl1]
      rw [List.getElem_append_right (by omega)]
      simp [hli]
    rw [hat]
    exact ⟨hoff, hie, him, by omega, gi.good, hc.symm, fun h => absurd h7 h, fun _ => hs⟩
  · rw [if_neg h7] at hs
    have ho1 : (rT M tip es (i + 1)).off = true := by rw [hs]; split <;> rfl
    have hm := rT_off (M := M) (tip := tip) (es := es) (show i + 1 ≤ m by omega) ho1
    by_cases hem : (rT M tip es i).l.isEmpty = true
    · rw [if_pos hem] at hs
      have hi0 : i = 0 := by
        have : (rT M tip es i).l = [] := by simpa using hem
        rw [this] at hli; simpa using hli.symm
      have hl1 : (rT M tip es m).l = [c] := by rw [hm, hs]
      have hat : (rT M tip es m).l[i] = c := by
        simp only [hl1]
        subst hi0
        rfl
      rw [hat]
      exact ⟨hoff, hie, him, by omega, gi.good, hc.symm, fun _ => ⟨hi0, by rw [hl1]; rfl⟩, fun h => absurd h h7⟩
    · rw [if_neg hem] at hs
      rw [hm, hs] at hi
      dsimp only at hi
      omega
end

/-- A clean merge may be added. -/
theorem pend_add {M : List Cm} {tip : Int} {e : Ent} (hG : GoodR M) (hM : M.length < 60) (h : (carF M tip e true).code = 7) : (addC M 66 (carF M tip e true).merge).2.2 = 0 ∧ ofF M tip e.com = ((carF M tip e true).merge, [], true) ∧ SmallC (carF M tip e true).merge := by
  obtain ⟨⟨h1, h2⟩, h3, h4, _⟩ := carF_pend h
  have hm := merge_add hG h1 h2 h3 hM
  refine ⟨?_, ?_, carF_small hG h⟩
  · rw [h4, addC_room (R := 66) (R' := 60) (by omega) hM]
    exact hm.1
  · have h5 := ofF_there h1 h2
    rw [h4]
    obtain ⟨⟨m, bd, ok⟩, hr⟩ : ∃ r, ofF M tip e.com = r := ⟨_, rfl⟩
    rw [hr] at h3 h5 ⊢
    dsimp only at h3 h5 ⊢
    rw [h3, h5]

end Go.Proofs.YtgjbfkaepalkiaaGreatDoor

namespace Go.Proofs.YtgjbfkaepalkiaaGreatDoor
open Go.RowKit
set_option linter.unusedVariables false
set_option linter.unusedSimpArgs false
attribute [local go_sem] Oper.semAt_some

/-- A take, its conditions met by themselves. -/
theorem tk {P : Program} {ops : Array Oper} {Q : Exit → Act → World → Prop} {md : Region.Mode} {S : World → Prop} {oi : Oper} {v : Value} {fuel : Nat} {listed : Array Bool} {a : Act} {w : World} (i : Nat) (h : wpAnyH P md ops Q S fuel (listed.setIfInBounds i true) (a.put oi.dst v) w)
    (hi : ops[i]? = some oi := by (simp only [List.getElem?_toArray, List.getElem?_cons_succ, List.getElem?_cons_zero]; rfl)) (hs : Region.noSelect ops = true := by kernel_rfl) (hf : Region.free md ops listed i = true := by kernel_rfl) (hr : (Region.ready md ops listed).contains i = true := by kernel_rfl)
    (hQ : ∀ c a w, Q (.panic c) (a.put oi.dst v) w → Q (.panic c) a w := by exact fun _ _ _ h => h) (hw : Region.wanted oi (yielded ops a.tmps) = true := by rfl) (hy : ∀ w, S w → (execOp a.eval oi).run P w = .ok (.value v) w := by (intro w hSw; (try dsimp only at hSw); go_simp; (try with_reducible rfl))) (hS : S w := by assumption) : wpAnyH P md ops Q S (fuel + 1) listed a w :=
  wpAnyH_take hi hs hf hr hQ (Or.inl ⟨hw, hy⟩) hS h
/-- One that is not wanted. -/
theorem sk {P : Program} {ops : Array Oper} {Q : Exit → Act → World → Prop} {md : Region.Mode} {S : World → Prop} {oi : Oper} {fuel : Nat} {listed : Array Bool} {a : Act} {w : World} (i : Nat) (h : wpAnyH P md ops Q S fuel (listed.setIfInBounds i true) (a.put oi.dst undef) w)
    (hi : ops[i]? = some oi := by (simp only [List.getElem?_toArray, List.getElem?_cons_succ, List.getElem?_cons_zero]; rfl)) (hs : Region.noSelect ops = true := by kernel_rfl) (hf : Region.free md ops listed i = true := by kernel_rfl) (hr : (Region.ready md ops listed).contains i = true := by kernel_rfl)
    (hQ : ∀ c a w, Q (.panic c) (a.put oi.dst undef) w → Q (.panic c) a w := by exact fun _ _ _ h => h) (hw : Region.wanted oi (yielded ops a.tmps) = false := by rfl) (hS : S w := by assumption) : wpAnyH P md ops Q S (fuel + 1) listed a w :=
  wpAnyH_take hi hs hf hr hQ (Or.inr ⟨hw, rfl⟩) hS h

set_option maxHeartbeats 8000000 in
set_option maxRecDepth 4000 in
theorem trainBegins_calls (v : Value) (ss : List KS) (cs : List Cm) (tip : Int) (ve : Value) (es : List Ent) (few more : Int) (S : Fp) (w : World) (hR : Rd EK S w v ss) (hK : RepK S w ss cs) (hS : ∀ k, S k → k < w.heap.size) (hE : Rd EE S w ve es) :
    Calls Tryz.prog 10 #[v, .int .i64 tip, ve, .int .i64 few, .int .i64 more] w (SamePost w true) := by
  have HGr : Hid (Calls Tryz.prog 15 #[v, .int .i64 14] w (SamePost w (greatR cs 14))) := Lib.hid (greatR_calls v ss cs 14 S w hR hK (by omega))
  have HMd := Lib.hid fun W (hW : Ext w W) (hs : ∀ c ∈ cs, SmallC c) (hn : cs.length ≤ 100) => made21_calls v ss cs S W (hR.kp (hW.mono fun _ _ _ => trivial)) (hK.ext hW) (fun k hk => hW.lt (hS k hk)) hs hn
  have HEach := Lib.hid fun W (hW : Ext w W) => each_calls ve es S W (hE.kp (hW.mono fun _ _ _ => trivial))
  have HSl := Lib.hid hS
  obtain ⟨A, c, rfl, hO⟩ := hR.open_
  obtain ⟨Ae, ce, rfl, hOe⟩ := hE.open_
  have hel := hOe.len
  have hl := hK.len
  have HEs := Lib.hid fun W (hW : Ext w W) => hOe.kp (hW.mono fun _ _ _ => trivial)
  clear hO hR hK hS hE hOe
  obtain ⟨ne, hne⟩ : ∃ ne, es.length = ne := ⟨_, rfl⟩
  rw [hne] at hel HEach ⊢
  have HNe := Lib.hid hne
  clear hne
  cases hg : greatR cs 14 with
  | true =>
    rw [hg] at HGr
    clear HMd hg hl HEach HEs
    go_enter Tryz.func10, Tryz.ntmps10
    go_wp2_with fail
    refine HGr.out.mono ?_
    rintro e w1 ⟨rfl, hx1⟩
    clear HGr
    go_wp2_with fail
    refine (awake21_calls w1).mono ?_
    rintro e w2 ⟨rfl, hx2⟩
    go_wp2_with fail
    go_ret
    exact ⟨rfl, hx1.trans hx2⟩
  | false =>
    rw [hg] at HGr
    have hsm := small_of_great hg
    have hn14 := (greatR_false hg).1
    have hgood : GoodR (madeC cs) := madeC_good hsm
    have hml := madeC_len cs
    have HM2 := Lib.hid fun W (hW : Ext w W) => HMd.out W hW hsm (by omega)
    have HGood := Lib.hid hgood
    have HM14 : Hid ((madeC cs).length ≤ 14) := Lib.hid (by omega)
    have hsl : ss.length ≤ 14 := by omega
    clear HMd hg hsm hgood hml hl hn14
    obtain ⟨n, hn⟩ : ∃ n, ss.length = n := ⟨_, rfl⟩
    rw [hn] at HGr HM2 hsl ⊢
    clear hn
    go_enter Tryz.func10, Tryz.ntmps10
    go_wp2_with fail
    refine HGr.out.mono ?_
    rintro e w1 ⟨rfl, hx1⟩
    by_cases h8 : (8 : Int) < (ne : Int)
    · have hd8 : decide ((8 : Int) < (ne : Int)) = true := decide_eq_true h8
      clear HGr HM2 HEach HEs
      go_wp2_with fail
      refine (awake21_calls w1).mono ?_
      rintro e w2 ⟨rfl, hx2⟩
      go_wp2_with fail
      go_ret
      exact ⟨rfl, hx1.trans hx2⟩
    · have hd8 : decide ((8 : Int) < (ne : Int)) = false := decide_eq_false h8
      have hMd := Lib.hid (HM2.out w1 hx1)
      clear HGr HM2
      go_wp2_with fail
      refine hMd.out.mono ?_
      rintro e w2 ⟨rb, wb, I, D, D', rfl, hT⟩
      have HT := Lib.hid hT.r
      have hx2 := hx1.trans hT.x
      have HX2 := Lib.hid hx2
      clear hMd hT hx1
      generalize madeC cs = M at HT HGood HM14
      have hwn : IntKind.i64.wrap ((n : Int) + 2) = ((n + 2 : Nat) : Int) := (IntWalk.i64_in _ (by omega)).trans (by omega)
      go_wp2_with fail
      refine (low1_calls tip (n + 2) w2 (by omega) (by omega)).mono ?_
      rintro e w2' ⟨⟨tj, htj, rfl⟩, rfl⟩
      obtain ⟨tp, htp⟩ : ∃ tp : Int, (tj : Int) = tp := ⟨_, rfl⟩
      rw [htp]
      clear htp htj hwn
      go_wp2_with fail
      refine (low1_calls few 6 w2 (by omega) (by omega)).mono ?_
      rintro e w2' ⟨⟨ka, hka, rfl⟩, rfl⟩
      obtain ⟨F, hF⟩ : ∃ F : Nat, 1 + ka = F := ⟨_, rfl⟩
      have hwF : IntKind.i64.wrap (1 + (ka : Int)) = (F : Int) := (IntWalk.i64_in _ (by omega)).trans (by omega)
      go_wp2_with fail
      refine (low1_calls more 4 w2 (by omega) (by omega)).mono ?_
      rintro e w2' ⟨⟨kb, hkb, rfl⟩, rfl⟩
      obtain ⟨G, hG⟩ : ∃ G : Nat, F + kb = G := ⟨_, rfl⟩
      have hwG : IntKind.i64.wrap ((F : Int) + (kb : Int)) = (G : Int) := (IntWalk.i64_in _ (by omega)).trans (by omega)
      obtain ⟨m, hm⟩ : ∃ m : Nat, min G 6 = m := ⟨_, rfl⟩
      have hBL := begin_len (M := M) (tip := tp) (es := es) HGood.out (few := F) (m := m) (by omega) (by omega) (by omega)
      have t1 := trainF_rT (M := M) (tip := tp) (es := es) HGood.out HM14.out (most := (F : Int)) (by omega)
      have t2 := trainF_rT (M := M) (tip := tp) (es := es) HGood.out HM14.out (most := (G : Int)) (by omega)
      rw [show (min (F : Int) 6).toNat = F by omega] at t1
      rw [show (min (G : Int) 6).toNat = m by omega] at t2
      have HCars := Lib.hid fun W (hW : Ext w2 W) s S hs hS mo => cars_calls (HT.out.ext hW) HGood.out (by have := HM14.out; omega) tp s es S hs hS mo
      obtain ⟨la, hla⟩ : ∃ la, (rT M tp es F).l.length = la := ⟨_, rfl⟩
      obtain ⟨lb, hlb⟩ : ∃ lb, (rT M tp es m).l.length = lb := ⟨_, rfl⟩
      have hb1 := hBL.len
      have hb2 := hBL.six
      have hb3 := hBL.les
      have hb4 := hBL.none_
      rw [hla, hlb] at hb1
      rw [hlb] at hb2 hb3
      rw [hla] at hb4
      rw [HNe.out] at hb3 hb4
      have hmin : min (lb : Int) (F : Int) = (la : Int) := by omega
      have hg6 : decide ((6 : Int) < (lb : Int)) = false := decide_eq_false (by omega)
      have hge : decide ((ne : Int) < (lb : Int)) = false := decide_eq_false (by omega)
      have hle : lb ≤ ne := hb3
      have hnl : ¬ ne < lb := by omega
      have hl6 : ¬ 6 < lb := by omega
      obtain ⟨z, hz⟩ : ∃ z, ((ne : Int) == 0) = z := ⟨_, rfl⟩
      have hz2 : ((la : Int) == 0) = z := by
        rw [← hz, Bool.eq_iff_iff, beq_iff_eq, beq_iff_eq]
        omega
      have HLa := Lib.hid hla
      have HLb := Lib.hid hlb
      have HSame := Lib.hid fun i h1 h2 bc (hbc : (rT M tp es m).l[i]'h2 = bc) => (hBL.same i h1 h2).trans hbc
      have HBnd := Lib.hid (And.intro hb2 (And.intro hb3 hka))
      have T1 := Lib.hid t1
      have T2 := Lib.hid t2
      have HGx := Lib.hid hG
      have HFx := Lib.hid hF
      have HMx := Lib.hid hm
      clear hla hlb hBL hb1 hb4 t1 t2 hG hF hm hb2 hb3
      go_wp2_with fail
      refine (HEach.out w2 HX2.out).mono ?_
      rintro e w3 ⟨s3, rfl, hs3, hx3, hz3⟩
      have hc := HCars.out w3 hx3 s3 _ hs3 (fun k hk => by have := HX2.out.size; rcases hk with hk | rfl; have := HSl.out k hk; omega; omega) (F : Int)
      rw [T1.out] at hc
      have HC := Lib.hid hc
      have hx23 := hx3
      clear hc hs3 hz3
      go_wp2_with fail
      refine HC.out.mono ?_
      rintro e w4 ⟨v1, rows1, J1, rfl, hN1, hR1, hJ1, hx4⟩
      have hx24 := hx23.trans hx4
      clear HC hx3 hx23
      go_wp2_with fail
      refine (HEach.out w4 (HX2.out.trans hx24)).mono ?_
      rintro e w5 ⟨s5, rfl, hs5, hx5, hz5⟩
      have hc := HCars.out w5 (hx24.trans hx5) s5 _ hs5 (fun k hk => by have := HX2.out.size; have := hx24.size; rcases hk with hk | rfl; have := HSl.out k hk; omega; omega) (G : Int)
      rw [T2.out] at hc
      have HC := Lib.hid hc
      clear hc hs5 hz5
      go_wp2_with fail
      refine HC.out.mono ?_
      rintro e wC ⟨v2, rows2, J2, rfl, hN2, hR2, hJ2, hxC⟩
      have hx4C := hx5.trans hxC
      obtain ⟨A1, c1, rfl, hca⟩ := cars_open (hN1.ext hx4C) (hR1.kp (Kp.of_ext hx4C))
      obtain ⟨A2, c2, rfl, hcb⟩ := cars_open hN2 hR2
      rw [HLa.out, HLb.out]
      have HCa := Lib.hid hca
      have HCb := Lib.hid hcb
      have hx2C := hx24.trans hx4C
      have hxwC := HX2.out.trans hx2C
      have hCp := copyR_calls (HT.out.ext hx2C) HGood.out.small (by have := HM14.out; omega) 6 66 (by decide) (by omega)
      have HCp := Lib.hid hCp
      clear hCp hca hcb hN1 hR1 hJ1 hN2 hR2 hJ2 hx4 hx5 hxC hx4C hx24 HC HCars HEach HX2 hx2 HT hx2C
      go_wp2_with fail
      refine HCp.out.mono ?_
      rintro e w6 ⟨I6, D6, rfl, hQ6⟩
      obtain ⟨cb, hcb⟩ : ∃ cb, wC.heap.size = cb := ⟨_, rfl⟩
      rw [hcb] at hQ6 ⊢
      have HQ6 := Lib.hid hQ6
      clear HCp hQ6 hcb
      go_wp2_with fail
      go_loopw [1, 16] (fun tv iv wr => ∃ i : Nat, i ≤ lb ∧ tv = .int .i64 (rT M tp es i).tip ∧ iv = .int .i64 i ∧ (rT M tp es i).off = false ∧ ∃ I D, OneQ wC wr cb (rT M tp es i).M I D 66) (fun _ iv _ => lb - (intOf iv).toNat)
      case atStart => exact ⟨0, Nat.zero_le _, rfl, rfl, rfl, I6, D6, HQ6.out⟩
      case round =>
        obtain ⟨i, hi, rfl, rfl, hoff, I1, D1, hQ⟩ := hrel
        rename World => wr
        have HQ := Lib.hid hQ
        have hxr := hQ.x
        have HOff := Lib.hid hoff
        clear hQ hoff
        by_cases hlt : i < lb
        · skip
          have hd1 : decide ((i : Int) < (lb : Int)) = true := decide_eq_true (by omega)
          have h0i : (0 : Int) ≤ (i : Int) := by omega
          have hilb : (i : Int) < (lb : Int) := by omega
          have hwi : IntKind.i64.wrap ((i : Int) + 1) = (i : Int) + 1 := IntWalk.i64_in _ (by omega)
          have hib : i < (rT M tp es m).l.length := by rw [HLb.out]; exact hlt
          obtain ⟨h1, he, him, hMl, hGi, hc1, hc2, hc3⟩ := begin_at HGood.out hib
          obtain ⟨b2, off2, hA2, hb2, -, pa2, ta2, pc2, tc2, d0, d1, d2, d3, d4, d5, hRd2⟩ := HCb.out i hib
          obtain ⟨bc, hbc⟩ : ∃ bc, (rT M tp es m).l[i] = bc := ⟨_, rfl⟩
          rw [hbc] at d0 d1 d2 d3 d4 d5 hRd2 hc1 hc2 hc3
          obtain ⟨pl, hpl⟩ : ∃ pl, bc.merge.parents.length = pl := ⟨_, rfl⟩
          obtain ⟨tl, htl⟩ : ∃ tl, bc.merge.tree.length = tl := ⟨_, rfl⟩
          obtain ⟨nt, hnt⟩ : ∃ nt, bc.merge.note = nt := ⟨_, rfl⟩
          rw [hpl] at d2 hRd2
          rw [htl] at d3 hRd2
          rw [hnt] at d4 hRd2
          obtain ⟨be, oe, hAe, _, hbe, q0, q1, q2, q3⟩ := (HEs.out wC hxwC).rd.ent (i := i) he
          have hen := carF_num (M := (rT M tp es i).M) (tip := (rT M tp es i).tip) (e := es[i]) (room := true)
          rw [← hc1] at hen
          rw [← hen.1] at q0
          rw [← hen.2] at q1
          have HD2 := Lib.hid fun W (hW : Ext wC W) => (⟨(hW.cell (p := ⟨b2, off2 + i * 6, none⟩) hb2 trivial).trans d0, (hW.cell (p := ⟨b2, off2 + i * 6 + 1, none⟩) hb2 trivial).trans d1, (hW.cell (p := ⟨b2, off2 + i * 6 + 2, none⟩) hb2 trivial).trans d2, (hW.cell (p := ⟨b2, off2 + i * 6 + 3, none⟩) hb2 trivial).trans d3, (hW.cell (p := ⟨b2, off2 + i * 6 + 4, none⟩) hb2 trivial).trans d4, (hW.cell (p := ⟨b2, off2 + i * 6 + 5, none⟩) hb2 trivial).trans d5⟩ : W.cell? ⟨b2, off2 + i * 6, none⟩ = some (.int .i64 bc.ent) ∧ W.cell? ⟨b2, off2 + i * 6 + 1, none⟩ = some (.int .i64 bc.com) ∧ W.cell? ⟨b2, off2 + i * 6 + 2, none⟩ = some (.slice pa2 pl pc2) ∧ W.cell? ⟨b2, off2 + i * 6 + 3, none⟩ = some (.slice ta2 tl tc2) ∧ W.cell? ⟨b2, off2 + i * 6 + 4, none⟩ = some (.string nt) ∧ W.cell? ⟨b2, off2 + i * 6 + 5, none⟩ = some (.int .i64 bc.code))
          have HQe := Lib.hid fun W (hW : Ext wC W) => (⟨(hW.cell (p := ⟨be, oe + i * 4, none⟩) hbe trivial).trans q0, (hW.cell (p := ⟨be, oe + i * 4 + 1, none⟩) hbe trivial).trans q1⟩ : W.cell? ⟨be, oe + i * 4, none⟩ = some (.int .i64 bc.ent) ∧ W.cell? ⟨be, oe + i * 4 + 1, none⟩ = some (.int .i64 bc.com))
          have HRd2 := Lib.hid fun W (hW : Ext wC W) => hRd2.ext hW
          have HMl := Lib.hid (show (rT M tp es i).M.length ≤ 20 from by have := HM14.out; have := HBnd.out.1; omega)
          have HGi := Lib.hid hGi
          have HC1 := Lib.hid hc1
          have HC2 := Lib.hid hc2
          have HC3 := Lib.hid hc3
          have HHe := Lib.hid he
          have hie : (i : Int) < (ne : Int) := by have := HNe.out; omega
          subst hA2
          have HAe := Lib.hid hAe
          have HBc := Lib.hid hbc
          have HP := Lib.hid (And.intro hpl (And.intro htl hnt))
          clear d0 d1 d2 d3 d4 d5 q0 q1 q2 q3 hRd2 hMl hGi hc1 hc2 hc3 hpl htl hnt hbc hen h1 hAe hbe hb2
          by_cases hia : i < la
          · skip
            have hd2 : decide ((i : Int) < (la : Int)) = true := decide_eq_true (by omega)
            have hila : (i : Int) < (la : Int) := by omega
            have hiaL : i < (rT M tp es F).l.length := by rw [HLa.out]; exact hia
            obtain ⟨b1, off1, hA1, hb1, -, pa1, ta1, pc1, tc1, d0, d1, d2, d3, d4, d5, hRd1⟩ := HCa.out i hiaL
            have hab : (rT M tp es F).l[i] = bc := HSame.out i hiaL hib bc HBc.out
            rw [hab] at d0 d1 d2 d3 d4 d5 hRd1
            rw [HP.out.1] at d2 hRd1
            rw [HP.out.2.1] at d3 hRd1
            rw [HP.out.2.2] at d4 hRd1
            have HD1 := Lib.hid fun W (hW : Ext wC W) => (⟨(hW.cell (p := ⟨b1, off1 + i * 6, none⟩) hb1 trivial).trans d0, (hW.cell (p := ⟨b1, off1 + i * 6 + 2, none⟩) hb1 trivial).trans d2, (hW.cell (p := ⟨b1, off1 + i * 6 + 3, none⟩) hb1 trivial).trans d3, (hW.cell (p := ⟨b1, off1 + i * 6 + 4, none⟩) hb1 trivial).trans d4, (hW.cell (p := ⟨b1, off1 + i * 6 + 5, none⟩) hb1 trivial).trans d5⟩ : W.cell? ⟨b1, off1 + i * 6, none⟩ = some (.int .i64 bc.ent) ∧ W.cell? ⟨b1, off1 + i * 6 + 2, none⟩ = some (.slice pa1 pl pc1) ∧ W.cell? ⟨b1, off1 + i * 6 + 3, none⟩ = some (.slice ta1 tl tc1) ∧ W.cell? ⟨b1, off1 + i * 6 + 4, none⟩ = some (.string nt) ∧ W.cell? ⟨b1, off1 + i * 6 + 5, none⟩ = some (.int .i64 bc.code))
            have HRd1 := Lib.hid fun W (hW : Ext wC W) => hRd1.ext hW
            have HS18 := Lib.hid fun W (hW : Ext wC W) => (⟨(HD1.out W hW).1, (HD1.out W hW).2.1, (HD1.out W hW).2.2.1, (HD1.out W hW).2.2.2.1, (HD1.out W hW).2.2.2.2, (HD2.out W hW).1, (HD2.out W hW).2.2.1, (HD2.out W hW).2.2.2.1, (HD2.out W hW).2.2.2.2.1, (HD2.out W hW).2.2.2.2.2⟩ : W.cell? ⟨b1, off1 + i * 6, none⟩ = some (.int .i64 bc.ent) ∧ W.cell? ⟨b1, off1 + i * 6 + 2, none⟩ = some (.slice pa1 pl pc1) ∧ W.cell? ⟨b1, off1 + i * 6 + 3, none⟩ = some (.slice ta1 tl tc1) ∧ W.cell? ⟨b1, off1 + i * 6 + 4, none⟩ = some (.string nt) ∧ W.cell? ⟨b1, off1 + i * 6 + 5, none⟩ = some (.int .i64 bc.code) ∧ W.cell? ⟨b2, off2 + i * 6, none⟩ = some (.int .i64 bc.ent) ∧ W.cell? ⟨b2, off2 + i * 6 + 2, none⟩ = some (.slice pa2 pl pc2) ∧ W.cell? ⟨b2, off2 + i * 6 + 3, none⟩ = some (.slice ta2 tl tc2) ∧ W.cell? ⟨b2, off2 + i * 6 + 4, none⟩ = some (.string nt) ∧ W.cell? ⟨b2, off2 + i * 6 + 5, none⟩ = some (.int .i64 bc.code))
            subst hA1
            clear d0 d1 d2 d3 d4 d5 hRd1 hab hb1
            go_wp2_with fail
            obtain ⟨w0, hw0⟩ : ∃ w0, wr.drew = w0 := ⟨_, rfl⟩
            have hx0 : Ext wr w0 := by rw [← hw0]; exact (Kp.refl _ _).drew
            refine wp_region_held_drew (S := (fun W => W.cell? ⟨b1, off1 + i * 6, none⟩ = some (.int .i64 bc.ent) ∧ W.cell? ⟨b1, off1 + i * 6 + 2, none⟩ = some (.slice pa1 pl pc1) ∧ W.cell? ⟨b1, off1 + i * 6 + 3, none⟩ = some (.slice ta1 tl tc1) ∧ W.cell? ⟨b1, off1 + i * 6 + 4, none⟩ = some (.string nt) ∧ W.cell? ⟨b1, off1 + i * 6 + 5, none⟩ = some (.int .i64 bc.code) ∧ W.cell? ⟨b2, off2 + i * 6, none⟩ = some (.int .i64 bc.ent) ∧ W.cell? ⟨b2, off2 + i * 6 + 2, none⟩ = some (.slice pa2 pl pc2) ∧ W.cell? ⟨b2, off2 + i * 6 + 3, none⟩ = some (.slice ta2 tl tc2) ∧ W.cell? ⟨b2, off2 + i * 6 + 4, none⟩ = some (.string nt) ∧ W.cell? ⟨b2, off2 + i * 6 + 5, none⟩ = some (.int .i64 bc.code))) (by kernel_rfl) ?_ (fun hHeld => ?_)
            · (try rw [hw0]); exact HS18.out _ (hxr.trans hx0)
            rw [hw0]
            have hHeld2 : (fun W => W.cell? ⟨b1, off1 + i * 6, none⟩ = some (.int .i64 bc.ent) ∧ W.cell? ⟨b1, off1 + i * 6 + 2, none⟩ = some (.slice pa1 pl pc1) ∧ W.cell? ⟨b1, off1 + i * 6 + 3, none⟩ = some (.slice ta1 tl tc1) ∧ W.cell? ⟨b1, off1 + i * 6 + 4, none⟩ = some (.string nt) ∧ W.cell? ⟨b1, off1 + i * 6 + 5, none⟩ = some (.int .i64 bc.code) ∧ W.cell? ⟨b2, off2 + i * 6, none⟩ = some (.int .i64 bc.ent) ∧ W.cell? ⟨b2, off2 + i * 6 + 2, none⟩ = some (.slice pa2 pl pc2) ∧ W.cell? ⟨b2, off2 + i * 6 + 3, none⟩ = some (.slice ta2 tl tc2) ∧ W.cell? ⟨b2, off2 + i * 6 + 4, none⟩ = some (.string nt) ∧ W.cell? ⟨b2, off2 + i * 6 + 5, none⟩ = some (.int .i64 bc.code)) w0 := HS18.out _ (hxr.trans hx0)
            clear hw0 hHeld
            refine tk 0 ?_
            try simp only [Act.put, List.setIfInBounds_toArray, List.set_cons_zero, List.set_cons_succ]
            refine tk 1 ?_
            try simp only [Act.put, List.setIfInBounds_toArray, List.set_cons_zero, List.set_cons_succ]
            refine tk 2 ?_
            try simp only [Act.put, List.setIfInBounds_toArray, List.set_cons_zero, List.set_cons_succ]
            refine tk 3 ?_
            try simp only [Act.put, List.setIfInBounds_toArray, List.set_cons_zero, List.set_cons_succ]
            refine tk 4 ?_
            try simp only [Act.put, List.setIfInBounds_toArray, List.set_cons_zero, List.set_cons_succ]
            refine tk 5 ?_
            try simp only [Act.put, List.setIfInBounds_toArray, List.set_cons_zero, List.set_cons_succ]
            refine tk 6 ?_
            try simp only [Act.put, List.setIfInBounds_toArray, List.set_cons_zero, List.set_cons_succ]
            refine tk 7 ?_
            try simp only [Act.put, List.setIfInBounds_toArray, List.set_cons_zero, List.set_cons_succ]
            refine tk 8 ?_
            try simp only [Act.put, List.setIfInBounds_toArray, List.set_cons_zero, List.set_cons_succ]
            refine tk 9 ?_
            try simp only [Act.put, List.setIfInBounds_toArray, List.set_cons_zero, List.set_cons_succ]
            refine tk 10 ?_
            try simp only [Act.put, List.setIfInBounds_toArray, List.set_cons_zero, List.set_cons_succ]
            refine tk 11 ?_
            try simp only [Act.put, List.setIfInBounds_toArray, List.set_cons_zero, List.set_cons_succ]
            refine tk 12 ?_
            try simp only [Act.put, List.setIfInBounds_toArray, List.set_cons_zero, List.set_cons_succ]
            refine tk 13 ?_
            try simp only [Act.put, List.setIfInBounds_toArray, List.set_cons_zero, List.set_cons_succ]
            refine tk 14 ?_
            try simp only [Act.put, List.setIfInBounds_toArray, List.set_cons_zero, List.set_cons_succ]
            refine tk 15 ?_
            try simp only [Act.put, List.setIfInBounds_toArray, List.set_cons_zero, List.set_cons_succ]
            refine tk 16 ?_
            try simp only [Act.put, List.setIfInBounds_toArray, List.set_cons_zero, List.set_cons_succ]
            refine tk 17 ?_
            try simp only [Act.put, List.setIfInBounds_toArray, List.set_cons_zero, List.set_cons_succ]
            refine tk 18 ?_
            try simp only [Act.put, List.setIfInBounds_toArray, List.set_cons_zero, List.set_cons_succ]
            refine tk 19 ?_
            try simp only [Act.put, List.setIfInBounds_toArray, List.set_cons_zero, List.set_cons_succ]
            refine tk 20 ?_
            try simp only [Act.put, List.setIfInBounds_toArray, List.set_cons_zero, List.set_cons_succ]
            refine tk 21 ?_
            try simp only [Act.put, List.setIfInBounds_toArray, List.set_cons_zero, List.set_cons_succ]
            refine tk 22 ?_
            try simp only [Act.put, List.setIfInBounds_toArray, List.set_cons_zero, List.set_cons_succ]
            refine tk 23 ?_
            try simp only [Act.put, List.setIfInBounds_toArray, List.set_cons_zero, List.set_cons_succ]
            refine tk 24 ?_
            try simp only [Act.put, List.setIfInBounds_toArray, List.set_cons_zero, List.set_cons_succ]
            refine tk 25 ?_
            try simp only [Act.put, List.setIfInBounds_toArray, List.set_cons_zero, List.set_cons_succ]
            refine tk 26 ?_
            try simp only [Act.put, List.setIfInBounds_toArray, List.set_cons_zero, List.set_cons_succ]
            refine tk 27 ?_
            try simp only [Act.put, List.setIfInBounds_toArray, List.set_cons_zero, List.set_cons_succ]
            refine tk 28 ?_
            try simp only [Act.put, List.setIfInBounds_toArray, List.set_cons_zero, List.set_cons_succ]
            refine tk 29 ?_
            try simp only [Act.put, List.setIfInBounds_toArray, List.set_cons_zero, List.set_cons_succ]
            refine tk 30 ?_
            try simp only [Act.put, List.setIfInBounds_toArray, List.set_cons_zero, List.set_cons_succ]
            refine tk 31 ?_
            try simp only [Act.put, List.setIfInBounds_toArray, List.set_cons_zero, List.set_cons_succ]
            refine tk 32 ?_
            try simp only [Act.put, List.setIfInBounds_toArray, List.set_cons_zero, List.set_cons_succ]
            refine tk 33 ?_
            try simp only [Act.put, List.setIfInBounds_toArray, List.set_cons_zero, List.set_cons_succ]
            refine tk 34 ?_
            try simp only [Act.put, List.setIfInBounds_toArray, List.set_cons_zero, List.set_cons_succ]
            refine tk 35 ?_
            try simp only [Act.put, List.setIfInBounds_toArray, List.set_cons_zero, List.set_cons_succ]
            refine tk 36 ?_
            try simp only [Act.put, List.setIfInBounds_toArray, List.set_cons_zero, List.set_cons_succ]
            refine tk 37 ?_
            try simp only [Act.put, List.setIfInBounds_toArray, List.set_cons_zero, List.set_cons_succ]
            refine tk 38 ?_
            try simp only [Act.put, List.setIfInBounds_toArray, List.set_cons_zero, List.set_cons_succ]
            refine tk 39 ?_
            try simp only [Act.put, List.setIfInBounds_toArray, List.set_cons_zero, List.set_cons_succ]
            refine wpAnyH_ready (rs := [40]) (by kernel_rfl) (by simp) ?_
            refine AllReadyH.cons (by simp only [List.getElem?_toArray, List.getElem?_cons_succ, List.getElem?_cons_zero]; rfl) (fun K hK => ?_) AllReadyH.nil
            go_simp
            have hsc := sameCommit_calls ⟨⟨pa1, pl, pc1⟩, ⟨ta1, tl, tc1⟩, nt⟩ ⟨⟨pa2, pl, pc2⟩, ⟨ta2, tl, tc2⟩, nt⟩ bc.merge bc.merge _ _ w0 (HRd1.out _ (hxr.trans hx0)) (HRd2.out _ (hxr.trans hx0))
            rw [sameC_refl] at hsc
            dsimp only [KS.val, SliceV.val] at hsc
            refine hsc.mono ?_
            rintro e w5 ⟨rfl, hx5'⟩
            have hx5 : Ext wr w5 := hx0.trans hx5'
            (try go_wp2_with fail)
            refine hK.out _ _ ?_ (fun hHeld => ?_)
            · (try dsimp only); exact HS18.out _ (hxr.trans hx5)
            clear hK K
            try simp only [Act.put, List.setIfInBounds_toArray, List.set_cons_zero, List.set_cons_succ]
            refine tk 41 ?_
            try simp only [Act.put, List.setIfInBounds_toArray, List.set_cons_zero, List.set_cons_succ]
            refine tk 42 ?_
            try simp only [Act.put, List.setIfInBounds_toArray, List.set_cons_zero, List.set_cons_succ]
            refine tk 43 ?_
            try simp only [Act.put, List.setIfInBounds_toArray, List.set_cons_zero, List.set_cons_succ]
            refine wpAnyH_done (by kernel_rfl) ?_ _
            have hxr5 := hxr.trans hx5
            have HQ5 := Lib.hid (HQ.out.ext hx5)
            clear hx5 hx5' hx0 hHeld hHeld2 hsc HS18 HD1 HRd1 HQ hxr
            have d5 := (HD2.out w5 hxr5).2.2.2.2.2
            obtain ⟨cd, hcd⟩ : ∃ cd, bc.code = cd := ⟨_, rfl⟩
            rw [hcd] at d5
            by_cases h7 : cd = 7
            · subst h7
              obtain ⟨g1, g2, g3⟩ := pend_add (M := (rT M tp es i).M) (tip := (rT M tp es i).tip) (e := es[i]'HHe.out) HGi.out (by have := HMl.out; omega) (by rw [← HC1.out]; exact hcd)
              rw [← HC1.out] at g1 g2 g3
              have hen := carF_num (M := (rT M tp es i).M) (tip := (rT M tp es i).tip) (e := es[i]'HHe.out) (room := true)
              rw [← HC1.out] at hen
              rw [← hen.2] at g2
              have hrt := HC3.out hcd
              have hMo := mergeOf_calls HQ5.out.r HGi.out (by have := HMl.out; omega) (rT M tp es i).tip bc.com
              rw [g2] at hMo
              have HMo := Lib.hid hMo
              have G1 := Lib.hid g1
              have G3 := Lib.hid g3
              have HRt := Lib.hid hrt
              have e1 := (HD2.out w5 hxr5).2.1
              clear hMo g1 g2 g3 hen hrt
              go_wp2_with fail
              refine HMo.out.mono ?_
              rintro e w6 ⟨s, u, rfl, hV, hU, hx6⟩
              obtain ⟨⟨pa, pn, pc⟩, ⟨ta, tn, tc⟩, nm⟩ := s
              obtain ⟨Au, nu, cu, hu⟩ := hU.1.slice
              subst hu
              have hnu : nu = 0 := by obtain ⟨_, _, hh, _⟩ := hU.1.rd; injection hh
              subst hnu
              have hbx : Ext w6 (w6.alloc (.cells #[.slice pa pn pc, .slice ta tn tc, .string nm] 42)) := (Kp.refl _ _).alloc _
              have hBm := Blk.new w6 42 #[.slice pa pn pc, .slice ta tn tc, .string nm]
              obtain ⟨mb, hmb⟩ : ∃ mb, w6.heap.size = mb := ⟨_, rfl⟩
              obtain ⟨w7, hw7⟩ : ∃ w7, w6.alloc (.cells #[.slice pa pn pc, .slice ta tn tc, .string nm] 42) = w7 := ⟨_, rfl⟩
              have hV7 := hV.rd.ext hbx
              have hx57 := hx6.trans hbx
              rw [hw7] at hBm hV7 hx57
              rw [hmb] at hBm
              have HBm := Lib.hid fun W (hW : Ext w7 W) => hBm.ext hW
              have HV7 := Lib.hid fun W (hW : Ext w7 W) => hV7.ext hW
              have hxr7 := hxr5.trans hx57
              have HQ7 := Lib.hid (HQ5.out.ext hx57)
              have HAe' := HAe.out
              have HS23 := Lib.hid fun W (hW : Ext w7 W) => (⟨(HBm.out W hW).cell 0, (HBm.out W hW).cell 1, (HBm.out W hW).cell 2, (HD2.out W (hxr7.trans hW)).1, (HD2.out W (hxr7.trans hW)).2.1, (HD2.out W (hxr7.trans hW)).2.2.1, (HD2.out W (hxr7.trans hW)).2.2.2.1, (HD2.out W (hxr7.trans hW)).2.2.2.2.1, (HQe.out W (hxr7.trans hW)).1, (HQe.out W (hxr7.trans hW)).2⟩ : W.cell? ⟨mb, 0, none⟩ = some (.slice pa pn pc) ∧ W.cell? ⟨mb, 1, none⟩ = some (.slice ta tn tc) ∧ W.cell? ⟨mb, 2, none⟩ = some (.string nm) ∧ W.cell? ⟨b2, off2 + i * 6, none⟩ = some (.int .i64 bc.ent) ∧ W.cell? ⟨b2, off2 + i * 6 + 1, none⟩ = some (.int .i64 bc.com) ∧ W.cell? ⟨b2, off2 + i * 6 + 2, none⟩ = some (.slice pa2 pl pc2) ∧ W.cell? ⟨b2, off2 + i * 6 + 3, none⟩ = some (.slice ta2 tl tc2) ∧ W.cell? ⟨b2, off2 + i * 6 + 4, none⟩ = some (.string nt) ∧ W.cell? ⟨be, oe + i * 4, none⟩ = some (.int .i64 bc.ent) ∧ W.cell? ⟨be, oe + i * 4 + 1, none⟩ = some (.int .i64 bc.com))
              clear hV hU hx6 hbx hBm hV7 hx57 d5 e1 HMo HQ5 hxr5
              dsimp only [KS.val, SliceV.val]
              go_wp2_with fail
              try rw [hw7]
              try rw [hmb]
              clear hw7 hmb
              subst HAe'
              obtain ⟨w0, hw0⟩ : ∃ w0, w7.drew = w0 := ⟨_, rfl⟩
              have hx0 : Ext w7 w0 := by rw [← hw0]; exact (Kp.refl _ _).drew
              refine wp_region_held_drew (S := (fun W => W.cell? ⟨mb, 0, none⟩ = some (.slice pa pn pc) ∧ W.cell? ⟨mb, 1, none⟩ = some (.slice ta tn tc) ∧ W.cell? ⟨mb, 2, none⟩ = some (.string nm) ∧ W.cell? ⟨b2, off2 + i * 6, none⟩ = some (.int .i64 bc.ent) ∧ W.cell? ⟨b2, off2 + i * 6 + 1, none⟩ = some (.int .i64 bc.com) ∧ W.cell? ⟨b2, off2 + i * 6 + 2, none⟩ = some (.slice pa2 pl pc2) ∧ W.cell? ⟨b2, off2 + i * 6 + 3, none⟩ = some (.slice ta2 tl tc2) ∧ W.cell? ⟨b2, off2 + i * 6 + 4, none⟩ = some (.string nt) ∧ W.cell? ⟨be, oe + i * 4, none⟩ = some (.int .i64 bc.ent) ∧ W.cell? ⟨be, oe + i * 4 + 1, none⟩ = some (.int .i64 bc.com))) (by kernel_rfl) ?_ (fun hHeld => ?_)
              · (try rw [hw0]); exact HS23.out _ hx0
              rw [hw0]
              have hHeld2 : (fun W => W.cell? ⟨mb, 0, none⟩ = some (.slice pa pn pc) ∧ W.cell? ⟨mb, 1, none⟩ = some (.slice ta tn tc) ∧ W.cell? ⟨mb, 2, none⟩ = some (.string nm) ∧ W.cell? ⟨b2, off2 + i * 6, none⟩ = some (.int .i64 bc.ent) ∧ W.cell? ⟨b2, off2 + i * 6 + 1, none⟩ = some (.int .i64 bc.com) ∧ W.cell? ⟨b2, off2 + i * 6 + 2, none⟩ = some (.slice pa2 pl pc2) ∧ W.cell? ⟨b2, off2 + i * 6 + 3, none⟩ = some (.slice ta2 tl tc2) ∧ W.cell? ⟨b2, off2 + i * 6 + 4, none⟩ = some (.string nt) ∧ W.cell? ⟨be, oe + i * 4, none⟩ = some (.int .i64 bc.ent) ∧ W.cell? ⟨be, oe + i * 4 + 1, none⟩ = some (.int .i64 bc.com)) w0 := HS23.out _ hx0
              clear hw0 hHeld
              refine tk 0 ?_
              try simp only [Act.put, List.setIfInBounds_toArray, List.set_cons_zero, List.set_cons_succ]
              refine tk 1 ?_
              try simp only [Act.put, List.setIfInBounds_toArray, List.set_cons_zero, List.set_cons_succ]
              refine tk 2 ?_
              try simp only [Act.put, List.setIfInBounds_toArray, List.set_cons_zero, List.set_cons_succ]
              refine tk 3 ?_
              try simp only [Act.put, List.setIfInBounds_toArray, List.set_cons_zero, List.set_cons_succ]
              refine tk 4 ?_
              try simp only [Act.put, List.setIfInBounds_toArray, List.set_cons_zero, List.set_cons_succ]
              refine tk 5 ?_
              try simp only [Act.put, List.setIfInBounds_toArray, List.set_cons_zero, List.set_cons_succ]
              refine tk 6 ?_
              try simp only [Act.put, List.setIfInBounds_toArray, List.set_cons_zero, List.set_cons_succ]
              refine tk 7 ?_
              try simp only [Act.put, List.setIfInBounds_toArray, List.set_cons_zero, List.set_cons_succ]
              refine tk 8 ?_
              try simp only [Act.put, List.setIfInBounds_toArray, List.set_cons_zero, List.set_cons_succ]
              refine tk 9 ?_
              try simp only [Act.put, List.setIfInBounds_toArray, List.set_cons_zero, List.set_cons_succ]
              refine tk 10 ?_
              try simp only [Act.put, List.setIfInBounds_toArray, List.set_cons_zero, List.set_cons_succ]
              refine tk 11 ?_
              try simp only [Act.put, List.setIfInBounds_toArray, List.set_cons_zero, List.set_cons_succ]
              refine tk 12 ?_
              try simp only [Act.put, List.setIfInBounds_toArray, List.set_cons_zero, List.set_cons_succ]
              refine tk 13 ?_
              try simp only [Act.put, List.setIfInBounds_toArray, List.set_cons_zero, List.set_cons_succ]
              refine wpAnyH_ready (rs := [14]) (by kernel_rfl) (by simp) ?_
              refine AllReadyH.cons (by simp only [List.getElem?_toArray, List.getElem?_cons_succ, List.getElem?_cons_zero]; rfl) (fun K hK => ?_) AllReadyH.nil
              go_simp
              have hsc := sameCommit_calls ⟨⟨pa, pn, pc⟩, ⟨ta, tn, tc⟩, nm⟩ ⟨⟨pa2, pl, pc2⟩, ⟨ta2, tl, tc2⟩, nt⟩ bc.merge bc.merge _ _ w0 (HV7.out _ hx0) (HRd2.out _ (hxr7.trans hx0))
              rw [sameC_refl] at hsc
              dsimp only [KS.val, SliceV.val] at hsc
              refine hsc.mono ?_
              rintro e w8 ⟨rfl, hx8'⟩
              have hx8 : Ext w7 w8 := hx0.trans hx8'
              (try go_wp2_with fail)
              refine hK.out _ _ ?_ (fun hHeld => ?_)
              · (try dsimp only); exact HS23.out _ hx8
              clear hK K
              try simp only [Act.put, List.setIfInBounds_toArray, List.set_cons_zero, List.set_cons_succ]
              refine tk 15 ?_
              try simp only [Act.put, List.setIfInBounds_toArray, List.set_cons_zero, List.set_cons_succ]
              refine tk 16 ?_
              try simp only [Act.put, List.setIfInBounds_toArray, List.set_cons_zero, List.set_cons_succ]
              refine tk 17 ?_
              try simp only [Act.put, List.setIfInBounds_toArray, List.set_cons_zero, List.set_cons_succ]
              refine tk 18 ?_
              try simp only [Act.put, List.setIfInBounds_toArray, List.set_cons_zero, List.set_cons_succ]
              refine tk 19 ?_
              try simp only [Act.put, List.setIfInBounds_toArray, List.set_cons_zero, List.set_cons_succ]
              refine tk 20 ?_
              try simp only [Act.put, List.setIfInBounds_toArray, List.set_cons_zero, List.set_cons_succ]
              refine tk 21 ?_
              try simp only [Act.put, List.setIfInBounds_toArray, List.set_cons_zero, List.set_cons_succ]
              refine tk 22 ?_
              try simp only [Act.put, List.setIfInBounds_toArray, List.set_cons_zero, List.set_cons_succ]
              refine tk 23 ?_
              try simp only [Act.put, List.setIfInBounds_toArray, List.set_cons_zero, List.set_cons_succ]
              refine tk 24 ?_
              try simp only [Act.put, List.setIfInBounds_toArray, List.set_cons_zero, List.set_cons_succ]
              refine tk 25 ?_
              try simp only [Act.put, List.setIfInBounds_toArray, List.set_cons_zero, List.set_cons_succ]
              refine tk 26 ?_
              try simp only [Act.put, List.setIfInBounds_toArray, List.set_cons_zero, List.set_cons_succ]
              refine tk 27 ?_
              try simp only [Act.put, List.setIfInBounds_toArray, List.set_cons_zero, List.set_cons_succ]
              refine tk 28 ?_
              try simp only [Act.put, List.setIfInBounds_toArray, List.set_cons_zero, List.set_cons_succ]
              refine tk 29 ?_
              try simp only [Act.put, List.setIfInBounds_toArray, List.set_cons_zero, List.set_cons_succ]
              refine tk 30 ?_
              try simp only [Act.put, List.setIfInBounds_toArray, List.set_cons_zero, List.set_cons_succ]
              refine tk 31 ?_
              try simp only [Act.put, List.setIfInBounds_toArray, List.set_cons_zero, List.set_cons_succ]
              refine tk 32 ?_
              try simp only [Act.put, List.setIfInBounds_toArray, List.set_cons_zero, List.set_cons_succ]
              refine tk 33 ?_
              try simp only [Act.put, List.setIfInBounds_toArray, List.set_cons_zero, List.set_cons_succ]
              refine tk 34 ?_
              try simp only [Act.put, List.setIfInBounds_toArray, List.set_cons_zero, List.set_cons_succ]
              refine tk 35 ?_
              try simp only [Act.put, List.setIfInBounds_toArray, List.set_cons_zero, List.set_cons_succ]
              refine tk 36 ?_
              try simp only [Act.put, List.setIfInBounds_toArray, List.set_cons_zero, List.set_cons_succ]
              refine tk 37 ?_
              try simp only [Act.put, List.setIfInBounds_toArray, List.set_cons_zero, List.set_cons_succ]
              refine tk 38 ?_
              try simp only [Act.put, List.setIfInBounds_toArray, List.set_cons_zero, List.set_cons_succ]
              refine tk 39 ?_
              try simp only [Act.put, List.setIfInBounds_toArray, List.set_cons_zero, List.set_cons_succ]
              refine tk 40 ?_
              try simp only [Act.put, List.setIfInBounds_toArray, List.set_cons_zero, List.set_cons_succ]
              refine tk 41 ?_
              try simp only [Act.put, List.setIfInBounds_toArray, List.set_cons_zero, List.set_cons_succ]
              refine tk 42 ?_
              try simp only [Act.put, List.setIfInBounds_toArray, List.set_cons_zero, List.set_cons_succ]
              refine wpAnyH_done (by kernel_rfl) ?_ _
              have m0 : w8.cell? ⟨mb, 0, none⟩ = some (.slice pa pn pc) := (HBm.out w8 hx8).cell 0
              have m1 : w8.cell? ⟨mb, 1, none⟩ = some (.slice ta tn tc) := (HBm.out w8 hx8).cell 1
              have m2 : w8.cell? ⟨mb, 2, none⟩ = some (.string nm) := (HBm.out w8 hx8).cell 2
              have HQ8 := Lib.hid (HQ7.out.ext hx8)
              have hAd := addR_calls HQ8.out.r ⟨⟨pa, pn, pc⟩, ⟨ta, tn, tc⟩, nm⟩ bc.merge _ (HV7.out w8 hx8) G3.out (by have := HMl.out; omega) (by omega)
              dsimp only [KS.val, SliceV.val] at hAd
              have HAd := Lib.hid hAd
              clear hAd hsc hx8' hx0 hHeld hHeld2 HS23 HQ7
              go_wp2_with fail
              refine HAd.out.mono ?_
              rintro e w9 hP9
              obtain ⟨I9, D9, hQ9, -, -, -⟩ := HQ8.out.add hP9
              obtain ⟨rfl, -⟩ := hP9
              rw [G1.out]
              have hst : (rT M tp es (i + 1)).M = (addC (rT M tp es i).M 66 bc.merge).1 ∧ (rT M tp es (i + 1)).tip = ((addC (rT M tp es i).M 66 bc.merge).2.1 : Int) ∧ (rT M tp es (i + 1)).off = false := by rw [HRt.out]; exact ⟨rfl, rfl, rfl⟩
              rw [← hst.1] at hQ9
              rw [← hst.2.1]
              have HQ9 := Lib.hid hQ9
              have HSt := Lib.hid hst
              clear hQ9 hst HAd m0 m1 m2
              go_wp2_with fail
              go_roundw
              case rel => exact ⟨i + 1, by omega, by first | rfl | trivial, by go_num, HSt.out.2.2, I9, D9, HQ9.out⟩
              case measure => simp [intOf]; omega
            · obtain ⟨hi0, hl1⟩ := HC2.out (by rw [hcd]; exact h7)
              subst hi0
              have hlb1 : lb = 1 := by have := HLb.out; omega
              subst hlb1
              have h7' : (cd == 7) = false := by rw [beq_eq_false_iff_ne]; exact h7
              have hno : bc.merge = noC := by rw [HC1.out]; exact carF_else (by rw [← HC1.out, hcd]; exact h7)
              have c5 : w5.cell? ⟨b2, off2 + 5, none⟩ = some (.int .i64 cd) := by have := d5; rwa [Nat.zero_mul, Nat.add_zero] at this
              have c2 : w5.cell? ⟨b2, off2 + 2, none⟩ = some (.slice pa2 pl pc2) := by have := (HD2.out w5 hxr5).2.2.1; rwa [Nat.zero_mul, Nat.add_zero] at this
              have c3 : w5.cell? ⟨b2, off2 + 2 + 1, none⟩ = some (.slice ta2 tl tc2) := by have := (HD2.out w5 hxr5).2.2.2.1; rwa [Nat.zero_mul, Nat.add_zero] at this
              have c4 : w5.cell? ⟨b2, off2 + 2 + 2, none⟩ = some (.string nt) := by have := (HD2.out w5 hxr5).2.2.2.2.1; rwa [Nat.zero_mul, Nat.add_zero] at this
              have hsc := sameCommit_calls ⟨⟨pa2, pl, pc2⟩, ⟨ta2, tl, tc2⟩, nt⟩ ⟨⟨none, 0, 0⟩, ⟨none, 0, 0⟩, ⟨#[]⟩⟩ bc.merge noC _ (fun _ => True) w5 (HRd2.out _ hxr5) ⟨Rd.nil _ _, Rd.nil _ _, rfl⟩
              rw [hno, sameC_refl] at hsc
              dsimp only [KS.val, SliceV.val] at hsc
              have HSc := Lib.hid hsc
              have HX5 := Lib.hid (hxwC.trans hxr5)
              clear hsc hno d5
              go_wp2_with fail
              refine HSc.out.mono ?_
              rintro e w6 ⟨rfl, hx6⟩
              go_wp2_with fail
              refine (awake21_calls w6).mono ?_
              rintro e w7 ⟨rfl, hx7⟩
              go_wp2_with fail
              go_ret
              exact ⟨rfl, (HX5.out.trans hx6).trans hx7⟩
          · skip
            have hd2 : decide ((i : Int) < (la : Int)) = false := decide_eq_false (by omega)
            go_wp2_with fail
            obtain ⟨w0, hw0⟩ : ∃ w0, wr.drew = w0 := ⟨_, rfl⟩
            have hx0 : Ext wr w0 := by rw [← hw0]; exact (Kp.refl _ _).drew
            refine wp_region_held_drew (S := (fun _ => True)) (by kernel_rfl) ?_ (fun hHeld => ?_)
            · (try rw [hw0]); exact trivial
            rw [hw0]
            have hHeld2 : (fun _ => True) w0 := trivial
            clear hw0 hHeld
            refine tk 0 ?_
            try simp only [Act.put, List.setIfInBounds_toArray, List.set_cons_zero, List.set_cons_succ]
            refine tk 1 ?_
            try simp only [Act.put, List.setIfInBounds_toArray, List.set_cons_zero, List.set_cons_succ]
            refine tk 2 ?_
            try simp only [Act.put, List.setIfInBounds_toArray, List.set_cons_zero, List.set_cons_succ]
            refine tk 3 ?_
            try simp only [Act.put, List.setIfInBounds_toArray, List.set_cons_zero, List.set_cons_succ]
            refine tk 4 ?_
            try simp only [Act.put, List.setIfInBounds_toArray, List.set_cons_zero, List.set_cons_succ]
            refine sk 5 ?_
            try simp only [Act.put, List.setIfInBounds_toArray, List.set_cons_zero, List.set_cons_succ]
            refine sk 6 ?_
            try simp only [Act.put, List.setIfInBounds_toArray, List.set_cons_zero, List.set_cons_succ]
            refine sk 7 ?_
            try simp only [Act.put, List.setIfInBounds_toArray, List.set_cons_zero, List.set_cons_succ]
            refine sk 8 ?_
            try simp only [Act.put, List.setIfInBounds_toArray, List.set_cons_zero, List.set_cons_succ]
            refine sk 9 ?_
            try simp only [Act.put, List.setIfInBounds_toArray, List.set_cons_zero, List.set_cons_succ]
            refine sk 10 ?_
            try simp only [Act.put, List.setIfInBounds_toArray, List.set_cons_zero, List.set_cons_succ]
            refine sk 11 ?_
            try simp only [Act.put, List.setIfInBounds_toArray, List.set_cons_zero, List.set_cons_succ]
            refine sk 12 ?_
            try simp only [Act.put, List.setIfInBounds_toArray, List.set_cons_zero, List.set_cons_succ]
            refine sk 13 ?_
            try simp only [Act.put, List.setIfInBounds_toArray, List.set_cons_zero, List.set_cons_succ]
            refine sk 14 ?_
            try simp only [Act.put, List.setIfInBounds_toArray, List.set_cons_zero, List.set_cons_succ]
            refine sk 15 ?_
            try simp only [Act.put, List.setIfInBounds_toArray, List.set_cons_zero, List.set_cons_succ]
            refine sk 16 ?_
            try simp only [Act.put, List.setIfInBounds_toArray, List.set_cons_zero, List.set_cons_succ]
            refine sk 17 ?_
            try simp only [Act.put, List.setIfInBounds_toArray, List.set_cons_zero, List.set_cons_succ]
            refine sk 18 ?_
            try simp only [Act.put, List.setIfInBounds_toArray, List.set_cons_zero, List.set_cons_succ]
            refine sk 19 ?_
            try simp only [Act.put, List.setIfInBounds_toArray, List.set_cons_zero, List.set_cons_succ]
            refine sk 20 ?_
            try simp only [Act.put, List.setIfInBounds_toArray, List.set_cons_zero, List.set_cons_succ]
            refine sk 21 ?_
            try simp only [Act.put, List.setIfInBounds_toArray, List.set_cons_zero, List.set_cons_succ]
            refine sk 22 ?_
            try simp only [Act.put, List.setIfInBounds_toArray, List.set_cons_zero, List.set_cons_succ]
            refine sk 23 ?_
            try simp only [Act.put, List.setIfInBounds_toArray, List.set_cons_zero, List.set_cons_succ]
            refine sk 24 ?_
            try simp only [Act.put, List.setIfInBounds_toArray, List.set_cons_zero, List.set_cons_succ]
            refine sk 25 ?_
            try simp only [Act.put, List.setIfInBounds_toArray, List.set_cons_zero, List.set_cons_succ]
            refine sk 26 ?_
            try simp only [Act.put, List.setIfInBounds_toArray, List.set_cons_zero, List.set_cons_succ]
            refine sk 27 ?_
            try simp only [Act.put, List.setIfInBounds_toArray, List.set_cons_zero, List.set_cons_succ]
            refine sk 28 ?_
            try simp only [Act.put, List.setIfInBounds_toArray, List.set_cons_zero, List.set_cons_succ]
            refine sk 29 ?_
            try simp only [Act.put, List.setIfInBounds_toArray, List.set_cons_zero, List.set_cons_succ]
            refine sk 30 ?_
            try simp only [Act.put, List.setIfInBounds_toArray, List.set_cons_zero, List.set_cons_succ]
            refine sk 31 ?_
            try simp only [Act.put, List.setIfInBounds_toArray, List.set_cons_zero, List.set_cons_succ]
            refine sk 32 ?_
            try simp only [Act.put, List.setIfInBounds_toArray, List.set_cons_zero, List.set_cons_succ]
            refine sk 33 ?_
            try simp only [Act.put, List.setIfInBounds_toArray, List.set_cons_zero, List.set_cons_succ]
            refine sk 34 ?_
            try simp only [Act.put, List.setIfInBounds_toArray, List.set_cons_zero, List.set_cons_succ]
            refine sk 35 ?_
            try simp only [Act.put, List.setIfInBounds_toArray, List.set_cons_zero, List.set_cons_succ]
            refine sk 36 ?_
            try simp only [Act.put, List.setIfInBounds_toArray, List.set_cons_zero, List.set_cons_succ]
            refine sk 37 ?_
            try simp only [Act.put, List.setIfInBounds_toArray, List.set_cons_zero, List.set_cons_succ]
            refine sk 38 ?_
            try simp only [Act.put, List.setIfInBounds_toArray, List.set_cons_zero, List.set_cons_succ]
            refine sk 39 ?_
            try simp only [Act.put, List.setIfInBounds_toArray, List.set_cons_zero, List.set_cons_succ]
            refine sk 40 ?_
            try simp only [Act.put, List.setIfInBounds_toArray, List.set_cons_zero, List.set_cons_succ]
            refine sk 41 ?_
            try simp only [Act.put, List.setIfInBounds_toArray, List.set_cons_zero, List.set_cons_succ]
            refine sk 42 ?_
            try simp only [Act.put, List.setIfInBounds_toArray, List.set_cons_zero, List.set_cons_succ]
            refine tk 43 ?_
            try simp only [Act.put, List.setIfInBounds_toArray, List.set_cons_zero, List.set_cons_succ]
            refine wpAnyH_done (by kernel_rfl) ?_ _
            obtain ⟨w5, hw5⟩ : ∃ w5, w0 = w5 := ⟨_, rfl⟩
            rw [hw5] at hx0 ⊢
            have hxr5 := hxr.trans hx0
            have HQ5 := Lib.hid (HQ.out.ext hx0)
            clear hw5 hx0 hHeld2 HQ hxr
            have d5 := (HD2.out w5 hxr5).2.2.2.2.2
            obtain ⟨cd, hcd⟩ : ∃ cd, bc.code = cd := ⟨_, rfl⟩
            rw [hcd] at d5
            by_cases h7 : cd = 7
            · subst h7
              obtain ⟨g1, g2, g3⟩ := pend_add (M := (rT M tp es i).M) (tip := (rT M tp es i).tip) (e := es[i]'HHe.out) HGi.out (by have := HMl.out; omega) (by rw [← HC1.out]; exact hcd)
              rw [← HC1.out] at g1 g2 g3
              have hen := carF_num (M := (rT M tp es i).M) (tip := (rT M tp es i).tip) (e := es[i]'HHe.out) (room := true)
              rw [← HC1.out] at hen
              rw [← hen.2] at g2
              have hrt := HC3.out hcd
              have hMo := mergeOf_calls HQ5.out.r HGi.out (by have := HMl.out; omega) (rT M tp es i).tip bc.com
              rw [g2] at hMo
              have HMo := Lib.hid hMo
              have G1 := Lib.hid g1
              have G3 := Lib.hid g3
              have HRt := Lib.hid hrt
              have e1 := (HD2.out w5 hxr5).2.1
              clear hMo g1 g2 g3 hen hrt
              go_wp2_with fail
              refine HMo.out.mono ?_
              rintro e w6 ⟨s, u, rfl, hV, hU, hx6⟩
              obtain ⟨⟨pa, pn, pc⟩, ⟨ta, tn, tc⟩, nm⟩ := s
              obtain ⟨Au, nu, cu, hu⟩ := hU.1.slice
              subst hu
              have hnu : nu = 0 := by obtain ⟨_, _, hh, _⟩ := hU.1.rd; injection hh
              subst hnu
              have hbx : Ext w6 (w6.alloc (.cells #[.slice pa pn pc, .slice ta tn tc, .string nm] 42)) := (Kp.refl _ _).alloc _
              have hBm := Blk.new w6 42 #[.slice pa pn pc, .slice ta tn tc, .string nm]
              obtain ⟨mb, hmb⟩ : ∃ mb, w6.heap.size = mb := ⟨_, rfl⟩
              obtain ⟨w7, hw7⟩ : ∃ w7, w6.alloc (.cells #[.slice pa pn pc, .slice ta tn tc, .string nm] 42) = w7 := ⟨_, rfl⟩
              have hV7 := hV.rd.ext hbx
              have hx57 := hx6.trans hbx
              rw [hw7] at hBm hV7 hx57
              rw [hmb] at hBm
              have HBm := Lib.hid fun W (hW : Ext w7 W) => hBm.ext hW
              have HV7 := Lib.hid fun W (hW : Ext w7 W) => hV7.ext hW
              have hxr7 := hxr5.trans hx57
              have HQ7 := Lib.hid (HQ5.out.ext hx57)
              have HAe' := HAe.out
              have HS23 := Lib.hid fun W (hW : Ext w7 W) => (⟨(HBm.out W hW).cell 0, (HBm.out W hW).cell 1, (HBm.out W hW).cell 2, (HD2.out W (hxr7.trans hW)).1, (HD2.out W (hxr7.trans hW)).2.1, (HD2.out W (hxr7.trans hW)).2.2.1, (HD2.out W (hxr7.trans hW)).2.2.2.1, (HD2.out W (hxr7.trans hW)).2.2.2.2.1, (HQe.out W (hxr7.trans hW)).1, (HQe.out W (hxr7.trans hW)).2⟩ : W.cell? ⟨mb, 0, none⟩ = some (.slice pa pn pc) ∧ W.cell? ⟨mb, 1, none⟩ = some (.slice ta tn tc) ∧ W.cell? ⟨mb, 2, none⟩ = some (.string nm) ∧ W.cell? ⟨b2, off2 + i * 6, none⟩ = some (.int .i64 bc.ent) ∧ W.cell? ⟨b2, off2 + i * 6 + 1, none⟩ = some (.int .i64 bc.com) ∧ W.cell? ⟨b2, off2 + i * 6 + 2, none⟩ = some (.slice pa2 pl pc2) ∧ W.cell? ⟨b2, off2 + i * 6 + 3, none⟩ = some (.slice ta2 tl tc2) ∧ W.cell? ⟨b2, off2 + i * 6 + 4, none⟩ = some (.string nt) ∧ W.cell? ⟨be, oe + i * 4, none⟩ = some (.int .i64 bc.ent) ∧ W.cell? ⟨be, oe + i * 4 + 1, none⟩ = some (.int .i64 bc.com))
              clear hV hU hx6 hbx hBm hV7 hx57 d5 e1 HMo HQ5 hxr5
              dsimp only [KS.val, SliceV.val]
              go_wp2_with fail
              try rw [hw7]
              try rw [hmb]
              clear hw7 hmb
              subst HAe'
              obtain ⟨w0, hw0⟩ : ∃ w0, w7.drew = w0 := ⟨_, rfl⟩
              have hx0 : Ext w7 w0 := by rw [← hw0]; exact (Kp.refl _ _).drew
              refine wp_region_held_drew (S := (fun W => W.cell? ⟨mb, 0, none⟩ = some (.slice pa pn pc) ∧ W.cell? ⟨mb, 1, none⟩ = some (.slice ta tn tc) ∧ W.cell? ⟨mb, 2, none⟩ = some (.string nm) ∧ W.cell? ⟨b2, off2 + i * 6, none⟩ = some (.int .i64 bc.ent) ∧ W.cell? ⟨b2, off2 + i * 6 + 1, none⟩ = some (.int .i64 bc.com) ∧ W.cell? ⟨b2, off2 + i * 6 + 2, none⟩ = some (.slice pa2 pl pc2) ∧ W.cell? ⟨b2, off2 + i * 6 + 3, none⟩ = some (.slice ta2 tl tc2) ∧ W.cell? ⟨b2, off2 + i * 6 + 4, none⟩ = some (.string nt) ∧ W.cell? ⟨be, oe + i * 4, none⟩ = some (.int .i64 bc.ent) ∧ W.cell? ⟨be, oe + i * 4 + 1, none⟩ = some (.int .i64 bc.com))) (by kernel_rfl) ?_ (fun hHeld => ?_)
              · (try rw [hw0]); exact HS23.out _ hx0
              rw [hw0]
              have hHeld2 : (fun W => W.cell? ⟨mb, 0, none⟩ = some (.slice pa pn pc) ∧ W.cell? ⟨mb, 1, none⟩ = some (.slice ta tn tc) ∧ W.cell? ⟨mb, 2, none⟩ = some (.string nm) ∧ W.cell? ⟨b2, off2 + i * 6, none⟩ = some (.int .i64 bc.ent) ∧ W.cell? ⟨b2, off2 + i * 6 + 1, none⟩ = some (.int .i64 bc.com) ∧ W.cell? ⟨b2, off2 + i * 6 + 2, none⟩ = some (.slice pa2 pl pc2) ∧ W.cell? ⟨b2, off2 + i * 6 + 3, none⟩ = some (.slice ta2 tl tc2) ∧ W.cell? ⟨b2, off2 + i * 6 + 4, none⟩ = some (.string nt) ∧ W.cell? ⟨be, oe + i * 4, none⟩ = some (.int .i64 bc.ent) ∧ W.cell? ⟨be, oe + i * 4 + 1, none⟩ = some (.int .i64 bc.com)) w0 := HS23.out _ hx0
              clear hw0 hHeld
              refine tk 0 ?_
              try simp only [Act.put, List.setIfInBounds_toArray, List.set_cons_zero, List.set_cons_succ]
              refine tk 1 ?_
              try simp only [Act.put, List.setIfInBounds_toArray, List.set_cons_zero, List.set_cons_succ]
              refine tk 2 ?_
              try simp only [Act.put, List.setIfInBounds_toArray, List.set_cons_zero, List.set_cons_succ]
              refine tk 3 ?_
              try simp only [Act.put, List.setIfInBounds_toArray, List.set_cons_zero, List.set_cons_succ]
              refine tk 4 ?_
              try simp only [Act.put, List.setIfInBounds_toArray, List.set_cons_zero, List.set_cons_succ]
              refine tk 5 ?_
              try simp only [Act.put, List.setIfInBounds_toArray, List.set_cons_zero, List.set_cons_succ]
              refine tk 6 ?_
              try simp only [Act.put, List.setIfInBounds_toArray, List.set_cons_zero, List.set_cons_succ]
              refine tk 7 ?_
              try simp only [Act.put, List.setIfInBounds_toArray, List.set_cons_zero, List.set_cons_succ]
              refine tk 8 ?_
              try simp only [Act.put, List.setIfInBounds_toArray, List.set_cons_zero, List.set_cons_succ]
              refine tk 9 ?_
              try simp only [Act.put, List.setIfInBounds_toArray, List.set_cons_zero, List.set_cons_succ]
              refine tk 10 ?_
              try simp only [Act.put, List.setIfInBounds_toArray, List.set_cons_zero, List.set_cons_succ]
              refine tk 11 ?_
              try simp only [Act.put, List.setIfInBounds_toArray, List.set_cons_zero, List.set_cons_succ]
              refine tk 12 ?_
              try simp only [Act.put, List.setIfInBounds_toArray, List.set_cons_zero, List.set_cons_succ]
              refine tk 13 ?_
              try simp only [Act.put, List.setIfInBounds_toArray, List.set_cons_zero, List.set_cons_succ]
              refine wpAnyH_ready (rs := [14]) (by kernel_rfl) (by simp) ?_
              refine AllReadyH.cons (by simp only [List.getElem?_toArray, List.getElem?_cons_succ, List.getElem?_cons_zero]; rfl) (fun K hK => ?_) AllReadyH.nil
              go_simp
              have hsc := sameCommit_calls ⟨⟨pa, pn, pc⟩, ⟨ta, tn, tc⟩, nm⟩ ⟨⟨pa2, pl, pc2⟩, ⟨ta2, tl, tc2⟩, nt⟩ bc.merge bc.merge _ _ w0 (HV7.out _ hx0) (HRd2.out _ (hxr7.trans hx0))
              rw [sameC_refl] at hsc
              dsimp only [KS.val, SliceV.val] at hsc
              refine hsc.mono ?_
              rintro e w8 ⟨rfl, hx8'⟩
              have hx8 : Ext w7 w8 := hx0.trans hx8'
              (try go_wp2_with fail)
              refine hK.out _ _ ?_ (fun hHeld => ?_)
              · (try dsimp only); exact HS23.out _ hx8
              clear hK K
              try simp only [Act.put, List.setIfInBounds_toArray, List.set_cons_zero, List.set_cons_succ]
              refine tk 15 ?_
              try simp only [Act.put, List.setIfInBounds_toArray, List.set_cons_zero, List.set_cons_succ]
              refine tk 16 ?_
              try simp only [Act.put, List.setIfInBounds_toArray, List.set_cons_zero, List.set_cons_succ]
              refine tk 17 ?_
              try simp only [Act.put, List.setIfInBounds_toArray, List.set_cons_zero, List.set_cons_succ]
              refine tk 18 ?_
              try simp only [Act.put, List.setIfInBounds_toArray, List.set_cons_zero, List.set_cons_succ]
              refine tk 19 ?_
              try simp only [Act.put, List.setIfInBounds_toArray, List.set_cons_zero, List.set_cons_succ]
              refine tk 20 ?_
              try simp only [Act.put, List.setIfInBounds_toArray, List.set_cons_zero, List.set_cons_succ]
              refine tk 21 ?_
              try simp only [Act.put, List.setIfInBounds_toArray, List.set_cons_zero, List.set_cons_succ]
              refine tk 22 ?_
              try simp only [Act.put, List.setIfInBounds_toArray, List.set_cons_zero, List.set_cons_succ]
              refine tk 23 ?_
              try simp only [Act.put, List.setIfInBounds_toArray, List.set_cons_zero, List.set_cons_succ]
              refine tk 24 ?_
              try simp only [Act.put, List.setIfInBounds_toArray, List.set_cons_zero, List.set_cons_succ]
              refine tk 25 ?_
              try simp only [Act.put, List.setIfInBounds_toArray, List.set_cons_zero, List.set_cons_succ]
              refine tk 26 ?_
              try simp only [Act.put, List.setIfInBounds_toArray, List.set_cons_zero, List.set_cons_succ]
              refine tk 27 ?_
              try simp only [Act.put, List.setIfInBounds_toArray, List.set_cons_zero, List.set_cons_succ]
              refine tk 28 ?_
              try simp only [Act.put, List.setIfInBounds_toArray, List.set_cons_zero, List.set_cons_succ]
              refine tk 29 ?_
              try simp only [Act.put, List.setIfInBounds_toArray, List.set_cons_zero, List.set_cons_succ]
              refine tk 30 ?_
              try simp only [Act.put, List.setIfInBounds_toArray, List.set_cons_zero, List.set_cons_succ]
              refine tk 31 ?_
              try simp only [Act.put, List.setIfInBounds_toArray, List.set_cons_zero, List.set_cons_succ]
              refine tk 32 ?_
              try simp only [Act.put, List.setIfInBounds_toArray, List.set_cons_zero, List.set_cons_succ]
              refine tk 33 ?_
              try simp only [Act.put, List.setIfInBounds_toArray, List.set_cons_zero, List.set_cons_succ]
              refine tk 34 ?_
              try simp only [Act.put, List.setIfInBounds_toArray, List.set_cons_zero, List.set_cons_succ]
              refine tk 35 ?_
              try simp only [Act.put, List.setIfInBounds_toArray, List.set_cons_zero, List.set_cons_succ]
              refine tk 36 ?_
              try simp only [Act.put, List.setIfInBounds_toArray, List.set_cons_zero, List.set_cons_succ]
              refine tk 37 ?_
              try simp only [Act.put, List.setIfInBounds_toArray, List.set_cons_zero, List.set_cons_succ]
              refine tk 38 ?_
              try simp only [Act.put, List.setIfInBounds_toArray, List.set_cons_zero, List.set_cons_succ]
              refine tk 39 ?_
              try simp only [Act.put, List.setIfInBounds_toArray, List.set_cons_zero, List.set_cons_succ]
              refine tk 40 ?_
              try simp only [Act.put, List.setIfInBounds_toArray, List.set_cons_zero, List.set_cons_succ]
              refine tk 41 ?_
              try simp only [Act.put, List.setIfInBounds_toArray, List.set_cons_zero, List.set_cons_succ]
              refine tk 42 ?_
              try simp only [Act.put, List.setIfInBounds_toArray, List.set_cons_zero, List.set_cons_succ]
              refine wpAnyH_done (by kernel_rfl) ?_ _
              have m0 : w8.cell? ⟨mb, 0, none⟩ = some (.slice pa pn pc) := (HBm.out w8 hx8).cell 0
              have m1 : w8.cell? ⟨mb, 1, none⟩ = some (.slice ta tn tc) := (HBm.out w8 hx8).cell 1
              have m2 : w8.cell? ⟨mb, 2, none⟩ = some (.string nm) := (HBm.out w8 hx8).cell 2
              have HQ8 := Lib.hid (HQ7.out.ext hx8)
              have hAd := addR_calls HQ8.out.r ⟨⟨pa, pn, pc⟩, ⟨ta, tn, tc⟩, nm⟩ bc.merge _ (HV7.out w8 hx8) G3.out (by have := HMl.out; omega) (by omega)
              dsimp only [KS.val, SliceV.val] at hAd
              have HAd := Lib.hid hAd
              clear hAd hsc hx8' hx0 hHeld hHeld2 HS23 HQ7
              go_wp2_with fail
              refine HAd.out.mono ?_
              rintro e w9 hP9
              obtain ⟨I9, D9, hQ9, -, -, -⟩ := HQ8.out.add hP9
              obtain ⟨rfl, -⟩ := hP9
              rw [G1.out]
              have hst : (rT M tp es (i + 1)).M = (addC (rT M tp es i).M 66 bc.merge).1 ∧ (rT M tp es (i + 1)).tip = ((addC (rT M tp es i).M 66 bc.merge).2.1 : Int) ∧ (rT M tp es (i + 1)).off = false := by rw [HRt.out]; exact ⟨rfl, rfl, rfl⟩
              rw [← hst.1] at hQ9
              rw [← hst.2.1]
              have HQ9 := Lib.hid hQ9
              have HSt := Lib.hid hst
              clear hQ9 hst HAd m0 m1 m2
              go_wp2_with fail
              go_roundw
              case rel => exact ⟨i + 1, by omega, by first | rfl | trivial, by go_num, HSt.out.2.2, I9, D9, HQ9.out⟩
              case measure => simp [intOf]; omega
            · obtain ⟨hi0, hl1⟩ := HC2.out (by rw [hcd]; exact h7)
              subst hi0
              have hlb1 : lb = 1 := by have := HLb.out; omega
              subst hlb1
              have h7' : (cd == 7) = false := by rw [beq_eq_false_iff_ne]; exact h7
              have hno : bc.merge = noC := by rw [HC1.out]; exact carF_else (by rw [← HC1.out, hcd]; exact h7)
              have c5 : w5.cell? ⟨b2, off2 + 5, none⟩ = some (.int .i64 cd) := by have := d5; rwa [Nat.zero_mul, Nat.add_zero] at this
              have c2 : w5.cell? ⟨b2, off2 + 2, none⟩ = some (.slice pa2 pl pc2) := by have := (HD2.out w5 hxr5).2.2.1; rwa [Nat.zero_mul, Nat.add_zero] at this
              have c3 : w5.cell? ⟨b2, off2 + 2 + 1, none⟩ = some (.slice ta2 tl tc2) := by have := (HD2.out w5 hxr5).2.2.2.1; rwa [Nat.zero_mul, Nat.add_zero] at this
              have c4 : w5.cell? ⟨b2, off2 + 2 + 2, none⟩ = some (.string nt) := by have := (HD2.out w5 hxr5).2.2.2.2.1; rwa [Nat.zero_mul, Nat.add_zero] at this
              have hsc := sameCommit_calls ⟨⟨pa2, pl, pc2⟩, ⟨ta2, tl, tc2⟩, nt⟩ ⟨⟨none, 0, 0⟩, ⟨none, 0, 0⟩, ⟨#[]⟩⟩ bc.merge noC _ (fun _ => True) w5 (HRd2.out _ hxr5) ⟨Rd.nil _ _, Rd.nil _ _, rfl⟩
              rw [hno, sameC_refl] at hsc
              dsimp only [KS.val, SliceV.val] at hsc
              have HSc := Lib.hid hsc
              have HX5 := Lib.hid (hxwC.trans hxr5)
              clear hsc hno d5
              go_wp2_with fail
              refine HSc.out.mono ?_
              rintro e w6 ⟨rfl, hx6⟩
              go_wp2_with fail
              refine (awake21_calls w6).mono ?_
              rintro e w7 ⟨rfl, hx7⟩
              go_wp2_with fail
              go_ret
              exact ⟨rfl, (HX5.out.trans hx6).trans hx7⟩
        · have hil : i = lb := by omega
          subst hil
          have hd1 : decide ((i : Int) < (i : Int)) = false := decide_eq_false (by omega)
          go_wp2_with fail
          refine (awake21_calls wr).mono ?_
          rintro e w7 ⟨rfl, hx7⟩
          go_wp2_with fail
          go_ret
          exact ⟨rfl, (hxwC.trans hxr).trans hx7⟩

end Go.Proofs.YtgjbfkaepalkiaaGreatDoor
