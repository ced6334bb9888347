/-
  repo: New, Len, Get, Find.
-/
import Derived.Test.YtgjbfkaepalkiaaGreatDoorGreat
import Derived.Handy
import Derived.Laws.ResultCell
namespace Go.Proofs.YtgjbfkaepalkiaaGreatDoor
open Go.RowKit
set_option linter.unusedVariables false
set_option linter.unusedSimpArgs false
attribute [local go_sem] Oper.semAt_some

/-! ### Plain -/
/-- A commit by its number. -/
def getC (cs : List Cm) (n : Int) : Option Cm := if 1 ≤ n ∧ n ≤ cs.length then cs[n.toNat - 1]? else none
def noC : Cm := ⟨[], [], ⟨#[]⟩⟩
theorem getC_nat {cs : List Cm} {k : Nat} (hk : k < cs.length) : getC cs ((k : Int) + 1) = some cs[k] := by
  unfold getC
  rw [if_pos (by omega), show ((k : Int) + 1).toNat - 1 = k by omega, List.getElem?_eq_getElem hk]
theorem getC_some {cs : List Cm} {n : Int} {c : Cm} (h : getC cs n = some c) : 1 ≤ n ∧ n ≤ cs.length ∧ cs[n.toNat - 1]? = some c := by
  unfold getC at h
  split at h
  · rename_i h1; exact ⟨h1.1, h1.2, h⟩
  · cases h
theorem getC_none {cs : List Cm} {n : Int} (h : ¬ (1 ≤ n ∧ n ≤ cs.length)) : getC cs n = none := if_neg h
/-- Commits of small lists. -/
def SmallC (c : Cm) : Prop := c.parents.length ≤ 1000000 ∧ c.tree.length ≤ 1000000 ∧ ∀ y ∈ c.tree, y.path.size ≤ 1000000
def SmallR (cs : List Cm) : Prop := ∀ c ∈ cs, SmallC c
theorem SmallR.get {cs : List Cm} (h : SmallR cs) {n : Int} {c : Cm} (hc : getC cs n = some c) : SmallC c := by
  obtain ⟨_, _, h3⟩ := getC_some hc
  exact h c (List.mem_of_getElem? h3)

/-! ### The walks -/
def NewPost (T : TypeId) (w : World) (room : Nat) (e : Ending) (w' : World) : Prop := e = .returned (.pointer (some ⟨w.heap.size, 0, none⟩)) ∧ Blk w' w.heap.size T #[.slice none 0 0, .int .i64 room] ∧ Ext w w' ∧ w'.heap.size = w.heap.size + 1
theorem newR_calls (room : Nat) (w : World) (h : room ≤ 120) : Calls Tryz.prog 50 #[.int .i64 room] w (NewPost 99 w room) := by
  have h1 : max (room : Int) 0 = (room : Int) := by omega
  have h2 : min (room : Int) 120 = (room : Int) := by omega
  go_enter Tryz.func50, Tryz.ntmps50
  go_wp2_with fail
  go_ret
  exact ⟨rfl, Blk.new _ _ _, (Kp.refl _ w).alloc _, by simp⟩
theorem newR_repo {T : TypeId} {w w' : World} {room : Nat} {e : Ending} (h : NewPost T w room e w') : RepoX T (fun _ => False) (fun k => k = w.heap.size) w' w.heap.size [] room := by
  obtain ⟨_, h1, h2, h3⟩ := h
  exact ⟨⟨_, [], h1, Own.nil _ _, trivial, rfl, fun g hg => by simp [Value.ownBlock] at hg⟩, fun k hk => hk.elim, fun k hk => hk.elim, fun k hk => by omega⟩

section
variable {I D : Fp} {rb : Nat} {cs : List Cm} {room : Nat} {w : World}

theorem lenR_calls (h : RepoX 99 I D w rb cs room) : Calls Tryz.prog 25 #[.pointer (some ⟨rb, 0, none⟩)] w fun e w' => e = .returned (.int .i64 cs.length) ∧ w = w' := by
  obtain ⟨A, c, rows, hB, hO, hR, hl⟩ := h.rd
  have c0 := hB.cell 0
  have : (#[.slice A cs.length c, .int .i64 room] : Array Value)[0]? = some (.slice A cs.length c) := rfl
  rw [this] at c0
  clear hR hO h hB this
  go_enter Tryz.func25, Tryz.ntmps25
  go_wp2_with fail
  go_ret
  exact ⟨rfl, rfl⟩

def GetPost (w : World) (cs : List Cm) (n : Int) (e : Ending) (w' : World) : Prop := ∃ s ok c, e = .returned (.tuple #[s, .bool ok]) ∧ (∃ k : KS, s = k.val ∧ NewC w.heap.size w' k c) ∧ Ext w w' ∧ ((ok = true ∧ getC cs n = some c) ∨ (ok = false ∧ getC cs n = none ∧ c = noC))

set_option maxHeartbeats 1000000 in
theorem getR_calls (h : RepoX 99 I D w rb cs room) (n : Int) (hs : SmallR cs) : Calls Tryz.prog 29 #[.pointer (some ⟨rb, 0, none⟩), .int .i64 n] w (GetPost w cs n) := by
  obtain ⟨A, c, rows, hB, hO, hR, hl⟩ := h.rd
  have hrl := hO.len
  have hol := hO.le
  have hom := hO.max
  have c0 : w.cell? ⟨rb, 0, none⟩ = some (.slice A cs.length c) := hB.cell 0
  have hrb := hB.lt
  have hin : 1 ≤ n → n ≤ cs.length → ∃ b off x cx, A = some ⟨b, off, none⟩ ∧ b < w.heap.size ∧ w.cell? ⟨b, off + (n.toNat - 1) * 3, none⟩ = some x.p.val ∧ w.cell? ⟨b, off + (n.toNat - 1) * 3 + 1, none⟩ = some x.t.val ∧ w.cell? ⟨b, off + (n.toNat - 1) * 3 + 2, none⟩ = some (.string x.note) ∧ RdC I w x cx ∧ SmallC cx ∧ getC cs n = some cx := by
    intro h1 h2
    have hi : (n.toNat - 1) < rows.length := by omega
    have hi2 : (n.toNat - 1) < cs.length := by omega
    obtain ⟨b, off, rfl, _, hb, e0, e1, e2⟩ := hO.rd.kom hi
    have hg : getC cs n = some cs[(n.toNat - 1)] := by
      have := getC_nat hi2
      rwa [show (((n.toNat - 1) : Nat) : Int) + 1 = n by omega] at this
    exact ⟨b, off, rows[(n.toNat - 1)], cs[(n.toNat - 1)], rfl, hb, e0, e1, e2, hR.get _ hi hi2, hs _ (List.getElem_mem hi2), hg⟩
  have hno : ¬ (1 ≤ n ∧ n ≤ cs.length) → getC cs n = none := getC_none
  rw [hl] at hol hrl
  obtain ⟨m, hm⟩ : ∃ m, cs.length = m := ⟨_, rfl⟩
  rw [hm] at c0 hin hno hol hrl
  have HIN := Lib.hid hin
  have HNO := Lib.hid hno
  clear hin hno hB hO hR hl hm h hs
  by_cases h1 : 1 ≤ n
  · have hd1 : decide (n < 1) = false := decide_eq_false (by omega)
    by_cases h2 : n ≤ m
    · have hd2 : decide ((m : Int) < n) = false := decide_eq_false (by omega)
      obtain ⟨b, off, x, cx, rfl, hb, e0, e1, e2, hx, hsx, hg⟩ := HIN.out h1 h2
      have hi0 : (0 : Int) ≤ n - 1 := by omega
      have hi1 : n - 1 < (m : Int) := by omega
      have hw : IntKind.i64.wrap (n - 1) = n - 1 := IntWalk.i64_in _ (by omega)
      have HOwn := Lib.hid fun W (hW : Ext w W) => own_calls x cx I W (hx.ext hW) hsx.1 hsx.2.1
      have HG := Lib.hid hg
      have hne : b ≠ w.heap.size := by omega
      have hne2 : rb ≠ w.heap.size := by omega
      obtain ⟨⟨pa, pn, pc⟩, ⟨ta, tn, tc⟩, nt⟩ := x
      dsimp only [SliceV.val, KS.val] at e0 e1 e2 HOwn
      clear HIN HNO hx hsx hg
      go_enter Tryz.func29, Tryz.ntmps29
      go_wp2_with fail
      refine (HOwn.out _ (by first | exact (Kp.refl _ w).alloc _ | exact ((Kp.refl _ w).alloc _).drew)).mono ?_
      rintro e w1 ⟨⟨⟨qa, qn, qc⟩, ⟨ua, un, uc⟩, nt'⟩, rfl, hN, hx1⟩
      have hx : Ext w w1 := ((Kp.refl _ w).alloc _).trans hx1
      have hBr := (Blk.new w 42 #[.slice none 0 0, .slice none 0 0, .string ⟨#[]⟩]).ext hx1
      have hlt := hBr.lt
      have hNx : NewC (w.heap.size + 1) w1 ⟨⟨qa, qn, qc⟩, ⟨ua, un, uc⟩, nt'⟩ cx := by rw [World.size_alloc] at hN; exact hN
      have HN := Lib.hid hNx
      have HX := Lib.hid hx
      have f0 := hBr.frozen 0
      have f1 := hBr.frozen 1
      have f2 := hBr.frozen 2
      have c10 : w1.cell? ⟨w.heap.size, 0, none⟩ = some (.slice none 0 0) := hBr.cell 0
      have c11 : w1.cell? ⟨w.heap.size, 1, none⟩ = some (.slice none 0 0) := hBr.cell 1
      have c12 : w1.cell? ⟨w.heap.size, 2, none⟩ = some (.string ⟨#[]⟩) := hBr.cell 2
      have HB : Blk (((w1.setCell ⟨w.heap.size, 0, none⟩ (.slice qa qn qc)).setCell ⟨w.heap.size, 1, none⟩ (.slice ua un uc)).setCell ⟨w.heap.size, 2, none⟩ (.string nt')) w.heap.size 42 #[.slice qa qn qc, .slice ua un uc, .string nt'] := ((hBr.set_ 0 _).set_ 1 _).set_ 2 _
      clear HOwn hx1 hN hNx hx hBr
      dsimp only [KS.val, SliceV.val]
      go_wp2_with fail
      refine bodyPost_ret (by rw [results_cell_tmp rfl]; simp only [Array.getD_eq_getD_getElem?]; simp [asAddr]; rw [run_loadVar_row _ _ _ _ _ _ _ HB Tryz.underlying42 (by rfl) (by kernel_rfl)]; rfl) rfl ?_
      have hk : ∀ (S : Fp), (∀ k, S k → k ≠ w.heap.size) → Kp S w1 (((w1.setCell ⟨w.heap.size, 0, none⟩ (.slice qa qn qc)).setCell ⟨w.heap.size, 1, none⟩ (.slice ua un uc)).setCell ⟨w.heap.size, 2, none⟩ (.string nt')) := fun S hS => (((Kp.refl _ w1).setCell (.inr fun h => hS _ h rfl) _).setCell (.inr fun h => hS _ h rfl) _).setCell (.inr fun h => hS _ h rfl) _
      refine ⟨_, true, cx, rfl, ⟨⟨⟨qa, qn, qc⟩, ⟨ua, un, uc⟩, nt'⟩, rfl, ?_⟩, ?_, .inl ⟨rfl, HG.out⟩⟩
      · exact (HN.out.kp (hk (fun k => w.heap.size < k) fun k h => by omega) (fun g hg => HN.out.p.2 g hg) (fun g hg => HN.out.t.2 g hg)).less (by omega)
      · exact HX.out.trans' (hk (fun k => k < w.heap.size) fun k h => by omega) fun k h _ => h
    · have hd2 : decide ((m : Int) < n) = true := decide_eq_true (by omega)
      have hg := HNO.out (by omega)
      clear HIN HNO
      go_enter Tryz.func29, Tryz.ntmps29
      go_wp2_with fail
      have HB := Blk.new w 42 #[.slice none 0 0, .slice none 0 0, .string ⟨#[]⟩]
      refine bodyPost_ret (by rw [results_cell_tmp rfl]; simp only [Array.getD_eq_getD_getElem?]; simp [asAddr]; rw [run_loadVar_row _ _ _ _ _ _ _ HB Tryz.underlying42 (by rfl) (by kernel_rfl)]; rfl) rfl ?_
      refine ⟨_, false, noC, rfl, ⟨⟨⟨none, 0, 0⟩, ⟨none, 0, 0⟩, ⟨#[]⟩⟩, rfl, ⟨New.nil _ _ _, New.nil _ _ _, rfl⟩⟩, ?_, .inr ⟨rfl, hg, rfl⟩⟩
      exact (Kp.refl _ w).alloc _
  · have hd1 : decide (n < 1) = true := decide_eq_true (by omega)
    have hg := HNO.out (by omega)
    clear HIN HNO
    go_enter Tryz.func29, Tryz.ntmps29
    go_wp2_with fail
    have HB := Blk.new w 42 #[.slice none 0 0, .slice none 0 0, .string ⟨#[]⟩]
    refine bodyPost_ret (by rw [results_cell_tmp rfl]; simp only [Array.getD_eq_getD_getElem?]; simp [asAddr]; rw [run_loadVar_row _ _ _ _ _ _ _ HB Tryz.underlying42 (by rfl) (by kernel_rfl)]; rfl) rfl ?_
    refine ⟨_, false, noC, rfl, ⟨⟨⟨none, 0, 0⟩, ⟨none, 0, 0⟩, ⟨#[]⟩⟩, rfl, ⟨New.nil _ _ _, New.nil _ _ _, rfl⟩⟩, ?_, .inr ⟨rfl, hg, rfl⟩⟩
    exact (Kp.refl _ w).alloc _

/-- The box of a commit. -/
theorem find1_calls (s x : KS) (d c : Cm) (S T : Fp) (fb : Nat) (w : World) (hR : RdC S w x d) (hR' : RdC T w s c) (hfb : Blk w fb 42 #[s.p.val, s.t.val, .string s.note]) :
    Calls Tryz.prog 124 #[x.val, .pointer (some ⟨fb, 0, none⟩)] w (SamePost w (sameC d c)) := by
  have hS := fun W (hW : Ext w W) => sameC_calls x s d c S T W (hR.ext hW) (hR'.ext hW)
  obtain ⟨⟨pa, pn, pc⟩, ⟨ta, tn, tc⟩, nt⟩ := s
  obtain ⟨⟨qa, qn, qc⟩, ⟨ua, un, uc⟩, nt'⟩ := x
  dsimp only [SliceV.val, KS.val] at hS hfb
  have c0 : w.cell? ⟨fb, 0, none⟩ = some (.slice pa pn pc) := hfb.cell 0
  have c1 : w.cell? ⟨fb, 1, none⟩ = some (.slice ta tn tc) := hfb.cell 1
  have c2 : w.cell? ⟨fb, 2, none⟩ = some (.string nt) := hfb.cell 2
  have hl := hfb.lt
  have hne : fb ≠ w.heap.size := by omega
  have HS := Lib.hid hS
  clear hS hR hR' hfb
  show Calls _ _ #[.agg #[.slice qa qn qc, .slice ua un uc, .string nt'], _] w _
  go_enter Tryz.func124, Tryz.ntmps124
  go_wp2_with fail
  refine (HS.out _ (by first | exact (Kp.refl _ w).alloc _)).mono ?_
  rintro e w1 ⟨rfl, hx1⟩
  clear HS
  go_wp2_with fail
  go_ret
  exact ⟨rfl, ((Kp.refl _ w).alloc _).trans hx1⟩

/-- slices.IndexFunc at commits. -/
theorem indexC_calls (s : KS) (c : Cm) (T : Fp) (fb : Nat) (A : Option Addr) (cp : Nat) (rows : List KS) (hO : Opn EK All w A cp rows) (hRK : RepK I w rows cs) (hR' : RdC T w s c) (hfb : Blk w fb 42 #[s.p.val, s.t.val, .string s.note]) :
    Calls Tryz.prog 123 #[.slice A cs.length cp, .func (.func 124) #[] #[.pointer (some ⟨fb, 0, none⟩)]] w fun e w' => e = .returned (.int .i64 ((findC cs c : Int) - 1)) ∧ Ext w w' := by
  have hl := hRK.len
  have hlen := hO.len
  rw [hl] at hlen
  have hfn : ∀ k, cs.findIdx? (fun x => sameC x c) = some k → findC cs c = k + 1 := fun k h => by unfold findC; rw [h]
  have hfz : cs.findIdx? (fun x => sameC x c) = none → findC cs c = 0 := fun h => by unfold findC; rw [h]
  obtain ⟨m, hm⟩ : ∃ m, cs.length = m := ⟨_, rfl⟩
  rw [hm] at hlen ⊢
  have HM := Lib.hid hm
  have HL := Lib.hid hl
  have HO := Lib.hid fun W (hW : Ext w W) => hO.kp (hW.mono fun _ _ _ => trivial)
  have HK := Lib.hid fun W (hW : Ext w W) => hRK.ext hW
  have HF := Lib.hid fun W (hW : Ext w W) (x : KS) (d : Cm) (hx : RdC I W x d) => find1_calls s x d c I T fb W hx (hR'.ext hW) (hfb.ext hW)
  have H1 := Lib.hid hfn
  have H0 := Lib.hid hfz
  obtain ⟨r, hr⟩ : ∃ r, findC cs c = r := ⟨_, rfl⟩
  rw [hr] at H1 H0 ⊢
  clear hm hl hO hRK hR' hfb hfn hfz hr
  go_enter Tryz.func123, Tryz.ntmps123
  go_wp2_with fail
  go_loopw [8] (fun i wr => ∃ k : Nat, k ≤ m ∧ i = .int .i64 k ∧ (∀ x ∈ cs.take k, sameC x c = false) ∧ Ext w wr) (fun i _ => m - (intOf i).toNat)
  case atStart => exact ⟨0, Nat.zero_le _, rfl, by simp, Kp.refl _ _⟩
  case round =>
    obtain ⟨k, hk, rfl, hno, hx⟩ := hrel
    rename_i wr
    by_cases hlt : k < m
    · have hd : decide ((k : Int) < (m : Int)) = true := decide_eq_true (by omega)
      have hkc : k < cs.length := by have := HM.out; omega
      have hkr : k < rows.length := by have := HM.out; have := HL.out; omega
      obtain ⟨b, off, rfl, _, hb, c0, c1, c2⟩ := (HO.out wr hx).rd.kom hkr
      have hRx := (HK.out wr hx).get k hkr hkc
      have hcl := HF.out wr hx _ _ hRx
      have hsn : ∀ x ∈ cs.take (k + 1), x ∈ cs.take k ∨ x = cs[k] := fun x hx => by rw [take_snoc cs hkc] at hx; exact (List.mem_append.1 hx).imp id fun h => List.mem_singleton.1 h
      have hfk : sameC cs[k] c = true → (r : Int) - 1 = k := fun h => by
        have := H1.out k (List.findIdx?_eq_some_iff_getElem.2 ⟨hkc, h, fun j hj => by
          have := hno cs[j] (List.mem_iff_getElem.2 ⟨j, by rw [List.length_take]; omega, by simp⟩)
          simpa using this⟩)
        omega
      obtain ⟨xk, hrk⟩ : ∃ x, rows[k] = x := ⟨_, rfl⟩
      rw [hrk] at c0 c1 c2 hcl
      obtain ⟨⟨pa, pn, pc⟩, ⟨ta, tn, tc⟩, nt⟩ := xk
      dsimp only [KS.val, SliceV.val] at c0 c1 c2 hcl
      have hlt' : (k : Int) < (m : Int) := by omega
      have h0 : (0 : Int) ≤ (k : Int) := by omega
      have hw : IntKind.i64.wrap ((k : Int) + 1) = (k : Int) + 1 := IntWalk.i64_in _ (by omega)
      have HN := Lib.hid hno
      have HSN := Lib.hid hsn
      have HFK := Lib.hid hfk
      cases hq : sameC cs[k] c with
      | true =>
        rw [hq] at hcl
        have hkr := HFK.out hq
        clear hno hsn hfk hRx hrk HFK HSN HN
        go_wp2_with (go_at_call 124; refine hcl.mono ?_; rintro e w' ⟨rfl, hx'⟩)
        go_ret
        exact ⟨by rw [hkr]; rfl, hx.trans hx'⟩
      | false =>
        rw [hq] at hcl
        have HQ := Lib.hid hq
        clear hno hsn hfk hRx hrk HFK hq
        go_wp2_with (go_at_call 124; refine hcl.mono ?_; rintro e w' ⟨rfl, hx'⟩)
        go_roundw
        case rel => exact ⟨k + 1, by omega, by go_num, fun x hx => by rcases HSN.out x hx with h | h; exact HN.out x h; rw [h]; exact HQ.out, hx.trans hx'⟩
        case measure => simp [intOf]; omega
    · have hd : decide ((k : Int) < (m : Int)) = false := decide_eq_false (by omega)
      rw [List.take_of_length_le (by have := HM.out; omega)] at hno
      have hr0 := H0.out (List.findIdx?_eq_none_iff.2 hno)
      clear hno
      go_wp2_with fail
      go_ret
      exact ⟨by rw [hr0]; rfl, hx⟩

/-- Find. -/
theorem findR_calls (h : RepoX 99 I D w rb cs room) (s : KS) (c : Cm) (T : Fp) (hR' : RdC T w s c) : Calls Tryz.prog 77 #[.pointer (some ⟨rb, 0, none⟩), s.val] w fun e w' => e = .returned (.int .i64 (findC cs c)) ∧ Ext w w' := by
  obtain ⟨A, cp, rows, hB, hO, hR, hl⟩ := h.rd
  have hlen := hO.len
  have c0 : w.cell? ⟨rb, 0, none⟩ = some (.slice A cs.length cp) := hB.cell 0
  have hrb := hB.lt
  have hfl : findC cs c ≤ cs.length := by
    unfold findC
    split
    · rename_i i hi
      obtain ⟨h1, _⟩ := List.findIdx?_eq_some_iff_getElem.1 hi
      omega
    · omega
  have hx : Ext w (w.alloc (.cells #[s.p.val, s.t.val, .string s.note] 42)) := (Kp.refl _ w).alloc _
  have hI := indexC_calls (w := w.alloc (.cells #[s.p.val, s.t.val, .string s.note] 42)) (I := I) (cs := cs) s c T w.heap.size A cp rows (hO.kp (hx.mono fun _ _ _ => trivial)) (hR.ext hx) (hR'.ext hx) (Blk.new _ _ _)
  rw [hl] at hlen
  obtain ⟨m, hm⟩ : ∃ m, cs.length = m := ⟨_, rfl⟩
  rw [hm] at hlen c0 hI hfl
  obtain ⟨r, hr⟩ : ∃ r, findC cs c = r := ⟨_, rfl⟩
  rw [hr] at hI hfl ⊢
  have hw : IntKind.i64.wrap ((r : Int) - 1 + 1) = (r : Int) := by rw [show (r : Int) - 1 + 1 = r by omega]; exact IntWalk.i64_in _ (by omega)
  have hne : rb ≠ w.heap.size := by omega
  obtain ⟨⟨pa, pn, pc⟩, ⟨ta, tn, tc⟩, nt⟩ := s
  dsimp only [SliceV.val, KS.val] at hI hx ⊢
  clear hB hO hR hl h hR' hm hr
  go_enter Tryz.func77, Tryz.ntmps77
  go_wp2_with fail
  refine hI.mono ?_
  rintro e w1 ⟨rfl, hx1⟩
  clear hI
  go_wp2_with fail
  go_ret
  exact ⟨rfl, hx.trans hx1⟩
end

end Go.Proofs.YtgjbfkaepalkiaaGreatDoor
