/-
  cortegelaw0: LendFiles, KeptFiles, OverFiles.
-/
import Derived.Test.YtddooggkcdloeaaGreatDoorGrow
import Derived.Deep.DeepAppendRoom
import Derived.Laws.MakeOwn
namespace Go.Proofs.YtddooggkcdloeaaGreatDoor
open Go.RowKit
set_option linter.unusedVariables false
set_option linter.unusedSimpArgs false
attribute [local go_sem] Oper.semAt_some

/-- make, of no elements and room for c. -/
theorem run_make0 {α : Type} {E : El α} {P : Program} {T e : TypeId} {bytes : Nat} (ti : TI E P T e bytes) (kl kc : IntKind) (c : Nat) (hb : bytes * c ≤ 281474976710656) (hm : c ≤ maxLen) :
    ∃ cs : Array Value, cs.size = c * E.sz ∧ ∀ (l c' : Int), l = 0 → c' = c → ∀ w : World, (Instr.makeSlice T (.int kl l) (.int kc c')).run P w = .ok (.slice (some ⟨w.heap.size, 0, none⟩) 0 c) (w.alloc (.cells cs e)) := by
  obtain ⟨hu, h0, i, z, hi, hz, hs, hby, hzs⟩ := ti
  refine ⟨madeCells z.cells (c * E.sz), size_madeCells _ _, ?_⟩
  rintro l c' rfl rfl w
  have hb' : (i.bytes : Int) * (c : Int) ≤ 281474976710656 := by
    have h : ((i.bytes * c : Nat) : Int) ≤ 281474976710656 := by rw [hby]; omega
    rwa [Int.natCast_mul] at h
  have := run_make (P := P) w T e i z hu hi hz kl kc 0 c (by omega) (by omega) hb' (by unfold maxLen at hm; omega)
  simp only [Int.toNat_natCast, hs] at this
  exact this

/-- The walk's step at an append that finds room. -/
theorem list_append_room {α : Type} {E : El α} {P : Program} {T e : TypeId} {bytes : Nat} (ti : TI E P T e bytes) {ops : Array Oper} {rest : List Oper} {o : Oper} {a : Act} {w : World} {Q : Exit → Act → World → Prop} {s x : Operand} (hgd : o.guard = none)
    (ho : o.op = .call { callee := .builtin .append, args := #[s, x], argTypes := #[T, T] }) {g n c : Nat} {u : Value} (hs : a.eval s = .slice (some ⟨g, 0, none⟩) n c) (hx : a.eval x = u) {xs ys : List α} {S : Fp} (hown : Own E e w (.slice (some ⟨g, 0, none⟩) n c) xs) (hn : xs.length = n) (hrd : Rd E S w u ys) (hroom : n + ys.length ≤ c)
    (h : ∀ w', Own E e w' (.slice (some ⟨g, 0, none⟩) (n + ys.length) c) (xs ++ ys) → Kp (fun k => k ≠ g) w w' → wpList P ops Q rest (a.put o.dst (.slice (some ⟨g, 0, none⟩) (n + ys.length) c)) w') : wpList P ops Q (o :: rest) a w := by
  subst hn
  obtain ⟨hu, h0, i, z, hi, hz, hsz, hby, hzs⟩ := ti
  obtain ⟨A, c', rfl, _, _, _, hA⟩ := hrd
  have fin : ∀ w', w'.ownsRow 0 e E.sz (.slice (some ⟨g, 0, none⟩) (xs.length + ys.length) c) (xs.length + ys.length) (E.flat xs ++ E.flat ys) → w.grownBy w' (some g) → wpList P ops Q rest (a.put o.dst (.slice (some ⟨g, 0, none⟩) (xs.length + ys.length) c)) w' := by
    intro w' h1 h2
    refine h w' ?_ ((Kp.refl _ w).grown h2 fun k hk => .inr (by cases hk; simp))
    unfold Own
    rw [E.flat_append, List.length_append]
    exact h1
  cases A with
  | none =>
    have hy : ys = [] := by
      rcases ys with _ | ⟨y, ys⟩
      · rfl
      · obtain ⟨_, _, h, _⟩ := hA (by simp)
        cases h
    subst hy
    have hr := run_append_of_nil' (P := P) (w := w) T o.type e i E.sz hu hi (.slice (some ⟨g, 0, none⟩) xs.length c) _ _ hown c'
    refine wpList_plain hgd fun K hK => ?_
    unfold Oper.wp execOp
    simp only [ho, resolve, invoke, builtin, Sem.run_bind, Sem.run_pure, Result.andThen_ok, List.map_toArray, List.map_cons, List.map_nil, hs, hx]
    rw [show (Value.slice none ([] : List α).length c') = .slice none 0 c' from rfl, hr]
    refine hK _ _ (h w ?_ (Kp.refl _ _))
    simpa using hown
  | some ad =>
    have hcells : ∀ j q, (E.flat ys)[j]? = some q → w.cell? (ad.add j) = some q := by
      intro j q hq
      have hp : 0 < ys.length := by
        rcases ys with _ | ⟨y, ys⟩
        · simp [El.flat] at hq
        · simp
      obtain ⟨b, off, h, _, _, hc⟩ := hA hp
      cases h
      have := hc j q hq
      unfold Addr.add
      split
      · rename_i hj; subst hj; simpa using this
      · exact this
    exact wpList_append_own_spare w hgd s x T ho 0 e i E.sz hu hi hsz g xs.length c (E.flat xs) hs hown ad ys.length c' (E.flat ys) hx (E.flat_length ys) hcells (E.flat_one_cell ys) hroom fin

/-- A row whose every cell is known. -/
theorem Own.block {α : Type} {E : El α} {t : TypeId} {w : World} {g n c : Nat} {xs : List α} (h : Own E t w (.slice (some ⟨g, 0, none⟩) n c) xs) :
    ∃ zs : List Value, Blk w g t (E.flat xs ++ zs).toArray ∧ zs.length = (c - n) * E.sz ∧ xs.length = n ∧ n ≤ c ∧ c ≤ maxLen := by
  rcases h.2 with ⟨h1, _⟩ | ⟨g', cap, cur, h1, hb, hg, hnc, hcm, hcs, ht⟩
  · cases h1
  · injection h1 with h1 h1' h1''
    injection h1 with h1
    injection h1 with h1
    subst h1 h1' h1''
    refine ⟨cur.toList.drop (xs.length * E.sz), ?_, ?_, rfl, hnc, hcm⟩
    · rw [← ht, List.take_append_drop]; exact hg
    · rw [List.length_drop, Array.length_toList, hcs, Nat.sub_mul]

def lentF : File := ⟨⟨#[108, 101, 110, 116]⟩, ⟨#[]⟩⟩
def marksF : List File := [lentF, lentF, lentF]

theorem six_set (l : List Value) (m : Nat) (hl : l.length = m) {z0 z1 z2 z3 z4 z5 a0 a1 a2 a3 a4 a5 : Value} :
    ((((((l ++ [z0, z1, z2, z3, z4, z5]).toArray.setIfInBounds m a0).setIfInBounds (m + 1) a1).setIfInBounds (m + 2) a2).setIfInBounds (m + 3) a3).setIfInBounds (m + 4) a4).setIfInBounds (m + 5) a5 = (l ++ [a0, a1, a2, a3, a4, a5]).toArray := by
  subst hl
  apply Array.toList_inj.1
  simp only [Array.toList_setIfInBounds, List.toList_toArray]
  simp [List.set_append_right]

set_option maxHeartbeats 400000 in
/-- cortegelaw0.LendFiles. -/
theorem lendFiles_calls (v : Value) (xs : List File) (S : Fp) (w : World) (hR : Rd EF S w v xs) (hb : xs.length ≤ 1000) :
    Calls Tryz.prog 11 #[v] w fun e w' => ∃ g, e = .returned (.slice (some ⟨g, 0, none⟩) xs.length (xs.length + 3)) ∧ w.heap.size ≤ g ∧ Blk w' g 40 (EF.flat (xs ++ marksF)).toArray ∧ Ext w w' := by
  obtain ⟨A, c, rfl, hO⟩ := hR.open_
  have hlen := hO.len
  have hRR := hR
  obtain ⟨n, hn⟩ : ∃ n, xs.length = n := ⟨_, rfl⟩
  rw [hn] at hlen hb hR ⊢
  obtain ⟨cs, hcs, hmk⟩ := run_make0 (P := Tryz.prog) tiF .i64 .i64 (n + 3) (by omega) (by unfold maxLen; omega)
  have hmk0 := hmk 0 ((n : Int) + 3) rfl (by omega)
  have HCS := Lib.hid hcs
  have HN := Lib.hid hn
  clear hcs hmk hn
  go_enter Tryz.func11, Tryz.ntmps11
  go_wp2_with (at_builtin; refine stop ?_)
  refine list_append_room tiF rfl rfl rfl rfl (xs := []) (ys := xs) ?own rfl (hR.kp ((Kp.refl _ w).alloc _)) ?room ?_
  case own => exact ⟨rfl, .inr ⟨w.heap.size, n + 3, cs, rfl, Nat.zero_le _, heap_alloc_new w _, Nat.zero_le _, by unfold maxLen; omega, HCS.out, by simp [El.flat]⟩⟩
  case room => rw [HN.out]; omega
  intro w1 hO1 hK1
  rw [HN.out] at hO1 ⊢
  simp only [Nat.zero_add, List.nil_append] at hO1 ⊢
  obtain ⟨zs, hB, hzs, _, _, _⟩ := hO1.block
  have hx1 : Ext w w1 := ((Kp.refl _ w).alloc _).trans' hK1 fun k hk _ => by omega
  have HB := Lib.hid hB
  have hlt1 : w.heap.size < w1.heap.size := hB.lt
  have hzl : zs.length = 6 := by rw [hzs]; show (n + 3 - n) * 2 = 6; omega
  obtain ⟨z0, z1, z2, z3, z4, z5, rfl⟩ : ∃ z0 z1 z2 z3 z4 z5, zs = [z0, z1, z2, z3, z4, z5] := by
    rcases zs with _ | ⟨z0, _ | ⟨z1, _ | ⟨z2, _ | ⟨z3, _ | ⟨z4, _ | ⟨z5, _ | ⟨z6, zs⟩⟩⟩⟩⟩⟩⟩
    · simp at hzl
    · simp at hzl
    · simp at hzl
    · simp at hzl
    · simp at hzl
    · simp at hzl
    · exact ⟨_, _, _, _, _, _, rfl⟩
    · simp at hzl
  have hf : ∀ i, w1.frozen? ⟨w.heap.size, i, none⟩ = false := fun i => hB.frozen i
  have hfl : (EF.flat xs).length = n * 2 := by rw [EF.flat_length, HN.out]; rfl
  have hc : ∀ i u, [z0, z1, z2, z3, z4, z5][i]? = some u → w1.cell? ⟨w.heap.size, n * 2 + i, none⟩ = some u := by
    intro i u hu
    rw [hB.cell, List.getElem?_toArray, List.getElem?_append_right (by omega), hfl, Nat.add_sub_cancel_left]
    exact hu
  have c0 := hc 0 _ rfl
  have c1 := hc 1 _ rfl
  have c2 := hc 2 _ rfl
  have c3 := hc 3 _ rfl
  have c4 := hc 4 _ rfl
  have c5 := hc 5 _ rfl
  have f0 := hf (n * 2)
  have f1 := hf (n * 2 + 1)
  have f2 := hf (n * 2 + 2)
  have f3 := hf (n * 2 + 3)
  have f4 := hf (n * 2 + 4)
  have f5 := hf (n * 2 + 5)
  have HFL := Lib.hid hfl
  have hn0 : (0 : Int) ≤ (n : Int) := by omega
  clear hB hzs hzl hc hf hO1 hfl hmk0 hR hO hRR
  clear HCS
  simp only [Nat.add_zero] at c0
  go_wp2_with fail
  rw [show n + 3 - n = 3 from by omega]
  refine wp_loop_rounds 4 ?_
  rw [rounds_succ]
  go_wp2_with fail
  rw [rounds_succ]
  go_wp2_with fail
  rw [rounds_succ]
  go_wp2_with fail
  rw [rounds_succ]
  go_wp2_with fail
  go_ret
  refine ⟨_, rfl, Nat.le_refl _, ?_, (((((hx1.setCell (.inl (Nat.le_refl _)) _).setCell (.inl (Nat.le_refl _)) _).setCell (.inl (Nat.le_refl _)) _).setCell (.inl (Nat.le_refl _)) _).setCell (.inl (Nat.le_refl _)) _).setCell (.inl (Nat.le_refl _)) _⟩
  have hbl := (((((HB.out.set_ (n * 2) (.string lentF.path)).set_ (n * 2 + 1) (.string lentF.data)).set_ (n * 2 + 2) (.string lentF.path)).set_ (n * 2 + 3) (.string lentF.data)).set_ (n * 2 + 4) (.string lentF.path)).set_ (n * 2 + 5) (.string lentF.data)
  rw [six_set (EF.flat xs) (n * 2) HFL.out] at hbl
  rw [EF.flat_append]
  exact hbl

def overF : File := ⟨⟨#[111, 118, 101, 114]⟩, ⟨#[]⟩⟩
/-- What was lent. -/
def LentF (w : World) (g : Nat) (xs : List File) : Prop := Blk w g 40 (EF.flat (xs ++ marksF)).toArray ∧ xs.length ≤ 1000
theorem LentF.opn {w : World} {g : Nat} {xs : List File} (h : LentF w g xs) : Opn EF (fun k => k = g) w (some ⟨g, 0, none⟩) (xs.length + 3) xs := by
  obtain ⟨hB, hl⟩ := h
  refine ⟨by omega, by omega, (fun e => by cases e), fun hp => ⟨g, 0, rfl, rfl, hB.lt, fun j u hu => ?_⟩⟩
  rw [hB.cell, List.getElem?_toArray, EF.flat_append, Nat.zero_add, List.getElem?_append_left (List.getElem?_eq_some_iff.1 hu).1]
  exact hu
theorem LentF.rd {w : World} {g : Nat} {xs : List File} (h : LentF w g xs) : Rd EF (fun k => k = g) w (.slice (some ⟨g, 0, none⟩) xs.length (xs.length + 3)) xs := h.opn.shut
theorem LentF.kp {w w' : World} {S : Fp} {g : Nat} {xs : List File} (h : LentF w g xs) (hk : Kp S w w') (hs : S g) : LentF w' g xs := ⟨h.1.kp hk hs, h.2⟩
theorem LentF.mark {w : World} {g : Nat} {xs : List File} (h : LentF w g xs) (i : Nat) {u : Value} (hu : (EF.flat marksF)[i]? = some u) : w.cell? ⟨g, xs.length * 2 + i, none⟩ = some u := by
  rw [h.1.cell, List.getElem?_toArray, EF.flat_append, List.getElem?_append_right (by rw [EF.flat_length]; show xs.length * 2 ≤ _; omega), EF.flat_length]
  show (EF.flat marksF)[xs.length * 2 + i - xs.length * 2]? = _
  rw [Nat.add_sub_cancel_left]
  exact hu
theorem fileB_refl (x : File) : fileB x x = true := (fileB_iff x x).2 rfl

set_option maxHeartbeats 400000 in
/-- cortegelaw0.KeptFiles. -/
theorem keptFiles_calls (g : Nat) (u : Value) (xs ys : List File) (T : Fp) (w : World) (hL : LentF w g xs) (hR : Rd EF T w u ys) :
    Calls Tryz.prog 20 #[.slice (some ⟨g, 0, none⟩) xs.length (xs.length + 3), u] w fun e w' => e = .returned (.bool (sameB xs ys)) ∧ Ext w w' := by
  have c0 := hL.mark 0 (u := .string ⟨#[108, 101, 110, 116]⟩) rfl
  have c1 := hL.mark 1 (u := .string ⟨#[]⟩) rfl
  have c2 := hL.mark 2 (u := .string ⟨#[108, 101, 110, 116]⟩) rfl
  have c3 := hL.mark 3 (u := .string ⟨#[]⟩) rfl
  have c4 := hL.mark 4 (u := .string ⟨#[108, 101, 110, 116]⟩) rfl
  have c5 := hL.mark 5 (u := .string ⟨#[]⟩) rfl
  obtain ⟨n, hn⟩ : ∃ n, xs.length = n := ⟨_, rfl⟩
  have hl := hL.2
  rw [hn] at c0 c1 c2 c3 c4 c5 hl ⊢
  simp only [Nat.add_zero] at c0
  have HS := Lib.hid fun W (hW : Ext w W) => sameFiles_calls (.slice (some ⟨g, 0, none⟩) xs.length (xs.length + 3)) u xs ys (fun k => k = g) T W (hL.rd.kp (hW.mono fun _ _ _ => trivial)) (hR.kp (hW.mono fun _ _ _ => trivial))
  have HNE := Lib.hid hn
  have hnk : n + 3 - n = 3 := by omega
  have heq : ∀ W, (binOp .neq 40 (.agg #[.string ⟨#[108, 101, 110, 116]⟩, .string ⟨#[]⟩]) (.agg #[.string ⟨#[108, 101, 110, 116]⟩, .string ⟨#[]⟩])).run Tryz.prog W = .ok (.bool false) W := by
    have h := run_neq_file lentF lentF
    rw [fileB_refl] at h
    exact h
  have hgd := fun (x y : Operand) (W : World) => run_eqGuard_agg (P := Tryz.prog) W .neq 40 x y #[.string ⟨#[108, 101, 110, 116]⟩, .string ⟨#[]⟩] #[.string ⟨#[108, 101, 110, 116]⟩, .string ⟨#[]⟩] (by kernel_rfl)
  clear hL hR hn
  go_enter Tryz.func20, Tryz.ntmps20
  go_wp2_with fail
  refine wp_loop_rounds 4 ?_
  rw [rounds_succ]
  go_wp2_with fail
  rw [rounds_succ]
  go_wp2_with fail
  rw [rounds_succ]
  go_wp2_with fail
  rw [rounds_succ]
  go_wp2_with (go_at_call 15; refine stop ?_)
  have HS' := HS.out w (Kp.refl _ _)
  rw [HNE.out] at HS'
  refine HS'.mono ?_
  rintro e w1 ⟨rfl, hx1⟩
  clear HS HS'
  go_wp2_with fail
  go_ret
  exact ⟨rfl, hx1⟩

set_option maxHeartbeats 400000 in
/-- cortegelaw0.OverFiles. -/
theorem overFiles_calls (v : Value) (xs : List File) (w : World) (hO : Own EF 40 w v xs) (hb : xs.length ≤ 1000) :
    Calls Tryz.prog 18 #[v] w fun e w' => (∃ r, e = .returned r) ∧ Kp (fun k => v.ownBlock ≠ some k) w w' := by
  have hslice : (v = .slice none 0 0 ∧ xs = []) ∨ ∃ g n c, v = .slice (some ⟨g, 0, none⟩) n c ∧ xs.length = n := by
    rcases hO.2 with ⟨h, h0⟩ | ⟨g, cap, cur, h, _⟩
    · exact .inl ⟨h, List.eq_nil_of_length_eq_zero h0⟩
    · exact .inr ⟨g, _, cap, h, rfl⟩
  rcases hslice with ⟨rfl, rfl⟩ | ⟨g, n, c, rfl, hn⟩
  · go_enter Tryz.func18, Tryz.ntmps18
    go_wp2_with fail
    refine wp_loop_once ?_
    go_wp2_with (at_builtin; refine stop ?_)
    refine list_append (xs := []) (ys := [overF]) tiF rfl rfl rfl rfl (hO.kp ((Kp.refl _ w).alloc _) (fun _ _ => trivial)) (Own.made w 40 [overF] (by simp [maxLen])).rd (by simp) (by simp [maxLen]) ?_
    intro v' w' hO' hK' hB'
    go_wp2_with fail
    exact bodyPost_end (results_none rfl _ _ _) rfl ⟨⟨_, rfl⟩, ((Kp.refl _ w).alloc _).trans' hK' (fun _ _ h => h)⟩
  · rw [hn] at hb
    have HN := Lib.hid hn
    clear hn
    go_enter Tryz.func18, Tryz.ntmps18
    go_wp2_with fail
    go_loopw [2] (fun i wr => ∃ (k : Nat) (zs : List File), k ≤ n ∧ i = .int .i64 k ∧ zs.length = n ∧ Own EF 40 wr (.slice (some ⟨g, 0, none⟩) n c) zs ∧ Kp (fun k => k ≠ g) w wr) (fun i _ => n - (intOf i).toNat)
    case atStart => exact ⟨0, xs, Nat.zero_le _, rfl, HN.out, hO, Kp.refl _ _⟩
    case round =>
      obtain ⟨k, zs, hk, rfl, hz, hOr, hKr⟩ := hrel
      rename World => wo
      have HZ := Lib.hid hz
      by_cases hlt : k < n
      · have hd3 : decide ((k : Int) < (n : Int)) = true := decide_eq_true (by omega)
        have hlt' : (k : Int) < (n : Int) := by omega
        have h0 : (0 : Int) ≤ (k : Int) := by omega
        have hw : IntKind.i64.wrap ((k : Int) + 1) = (k : Int) + 1 := IntWalk.i64_in _ (by omega)
        obtain ⟨x, hx⟩ : ∃ x, zs[k]? = some x := ⟨_, List.getElem?_eq_getElem (by omega)⟩
        obtain ⟨c0, c1⟩ := hOr.file hx
        have f0 := hOr.free (k * 2)
        have f1 := hOr.free (k * 2 + 1)
        have HX := Lib.hid hx
        clear hz hx
        go_wp2_with fail
        go_roundw
        case rel => exact ⟨k + 1, zs.set k overF, by omega, by go_num, by rw [List.length_set]; exact HZ.out, hOr.setF (List.getElem?_eq_some_iff.1 HX.out).1 overF, (hKr.setCell (.inr (by simp)) _).setCell (.inr (by simp)) _⟩
        case measure => simp [intOf]; omega
      · have hd3 : decide ((k : Int) < (n : Int)) = false := decide_eq_false (by omega)
        clear hz
        go_wp2_with (at_builtin; refine stop ?_)
        refine list_append (v := .slice (some ⟨g, 0, none⟩) n c) (xs := zs) (ys := [overF]) tiF rfl rfl rfl rfl (hOr.kp ((Kp.refl _ wo).alloc _) (fun _ _ => trivial)) (Own.made wo 40 [overF] (by simp [maxLen])).rd (by rw [HZ.out]; simp; omega) (by rw [HZ.out]; simp [maxLen]; omega) ?_
        intro v' w' hO' hK' hB'
        go_wp2_with fail
        refine bodyPost_end (results_none rfl _ _ _) rfl ⟨⟨_, rfl⟩, ?_⟩
        refine ((hKr.alloc _).trans' hK' (fun k _ h e => h (by injection e with e; exact e.symm))).mono (fun k _ h e => h (by rw [e]; rfl))
end Go.Proofs.YtddooggkcdloeaaGreatDoor
