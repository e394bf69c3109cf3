/- Proved: for every season, list of what was done and plan, the best plan keeps all rules and begins with what was done, and no plan that does so is worth more, nor less as a list if it is worth the same (SeasonBestIsBest returns true and leaves its arguments as they were). Conditions: none beyond those of the given statement. -/
import Derived.Test.YtefmjfcdgadggaaPl1
import Derived.KernelRfl
set_option linter.all false
set_option maxRecDepth 100000
namespace Go.Proofs.Ytefmjfcdgadggaa
open Go Go.AM
set_option maxHeartbeats 4000000
set_option maxRecDepth 100000
variable {N : Nat}
/-! ### The document's rules, kind by kind -/
abbrev inrU : Option (Sum Unit Unit) := some (.inr ())
abbrev inlU : Option (Sum Unit Unit) := some (.inl ())
section
variable {first days before : Int} {ses rules plan : List D} {r : D}
/-- Is a rule kept on a day of a plan? -/
def vP (first days before : Int) (ses : List D) (r : D) (plan : List D) (i : Nat) : Bool := V first days before ses r (hist (pN plan) i) (pN plan i)
theorem kind1_eq (hg : Good first days before ses rules) (hN : maxLen < N) (hp : DoneOk ses plan) (hl : plan.length ≤ 14) (e : rKind r = 1) :
  G62x0x36 N plan plan.length first ses 1 (rDay r) (rN r) 0 = bif allP (vP first days before ses r plan) plan.length then inrU else inlU := by
 have hf := hg.gfirst
 refine (scan_ind (S := fun w kr => S62x0x36 N plan plan.length first ses 1 (rDay r) (rN r) w kr (fun p => some (.inl p)) (fun p => some (.inr p))) (L := fun m w => L62x0x36 N plan plan.length first ses 1 (rDay r) (rN r) m w _ _) (fun m w => rfl) _ inlU inrU (n := plan.length) (by omega) ?_ ?_ hN)
 ·intro kr; simp [S62x0x36]
 ·intro w kr hw ew
  have hv : vP first days before ses r plan w = (decide (pN plan w < 0) || wday first w != rDay r) := by
   unfold vP V; rw [e, hist_len]; rfl
  rw [hv]
  unfold wday
  simp only [S62x0x36, decide_eq_true (show (w : Int) < plan.length by omega), _root_.cond_true, inB_of (show (0 : Int) ≤ w by omega) (show (w : Int) < plan.length by omega), small (show -1000000000000 ≤ first + (w : Int) ∧ first + (w : Int) ≤ 1000000000000 by omega), ew, Int.toNat_natCast, pN_at hw, G62x0x46, F62x0x46, bnd_eq]
  cases (first + (w : Int)).tmod 7 != rDay r with
  | true => simp
  | false =>
   by_cases h : pN plan w ≥ 0
   ·rw [decide_eq_true h, decide_eq_false (show ¬ pN plan w < 0 by omega)]; rfl
   ·rw [decide_eq_false h, decide_eq_true (show pN plan w < 0 by omega)]; rfl
theorem kind2_eq (hg : Good first days before ses rules) (hN : maxLen < N) (hp : DoneOk ses plan) (hl : plan.length ≤ 14) (hn : 0 ≤ rN r) (e : rKind r = 2) :
  G62x0x36 N plan plan.length first ses 2 (rDay r) (rN r) 0 = bif allP (vP first days before ses r plan) plan.length then inrU else inlU := by
 have hf := hg.gfirst
 refine (scan_ind (S := fun w kr => S62x0x36 N plan plan.length first ses 2 (rDay r) (rN r) w kr (fun p => some (.inl p)) (fun p => some (.inr p))) (L := fun m w => L62x0x36 N plan plan.length first ses 2 (rDay r) (rN r) m w _ _) (fun m w => rfl) _ inlU inrU (n := plan.length) (by omega) ?_ ?_ hN)
 ·intro kr; simp [S62x0x36]
 ·intro w kr hw ew
  have hv : vP first days before ses r plan w = (decide (pN plan w < 0) || (decide (sMin ses (pN plan w) ≤ rN r) || wday first w != rDay r)) := by
   unfold vP V; rw [e, hist_len]; rfl
  rw [hv]
  unfold wday
  simp only [S62x0x36, decide_eq_true (show (w : Int) < plan.length by omega), _root_.cond_true, inB_of (show (0 : Int) ≤ w by omega) (show (w : Int) < plan.length by omega), small (show -1000000000000 ≤ first + (w : Int) ∧ first + (w : Int) ≤ 1000000000000 by omega), ew, Int.toNat_natCast, pN_at hw, G62x0x46, F62x0x46, bnd_eq, G63x0_eq (pN_in hp w).2, Option.isSome_some, getD_some]
  cases (first + (w : Int)).tmod 7 != rDay r with
  | true => simp
  | false =>
   have hz : pN plan w < 0 → sMin ses (pN plan w) ≤ rN r := fun h => by unfold sMin; rw [decide_eq_true h]; exact hn
   by_cases h : sMin ses (pN plan w) ≤ rN r
   ·rw [decide_eq_true h, decide_eq_false (show ¬ sMin ses (pN plan w) > rN r by omega)]; simp
   ·rw [decide_eq_false h, decide_eq_true (show sMin ses (pN plan w) > rN r by omega), decide_eq_false fun h' => h (hz h')]; rfl
theorem ws_map {g : Nat → Int} {n j : Nat} (h : j < (n + 6) / 7) : (((ws g n).map D.i).getD j (.i 0)).toI = (ws g n).getD j 0 := by
 have hl : j < (ws g n).length := by rw [ws_len]; exact h
 simp only [List.getD_eq_getElem?_getD, List.getElem?_map, List.getElem?_eq_getElem hl, Option.map_some, Option.getD_some, D.toI]
theorem ws_mapl {g : Nat → Int} {n : Nat} : ((ws g n).map D.i).length = (n + 6) / 7 := by rw [List.length_map, ws_len]
theorem kind3_eq (hg : Good first days before ses rules) (hN : maxLen < N) (hp : DoneOk ses plan) (hl : plan.length ≤ 14) (e : rKind r = 3) :
  G62x0x60 N ((ws (ldF ses plan) plan.length).map D.i) (((ws (ldF ses plan) plan.length).map D.i).length : Int) (rN r) 0 = bif allP (vP first days before ses r plan) plan.length then inrU else inlU := by
 have hv : ∀ i, i < plan.length → vP first days before ses r plan i = decide (wk (ldF ses plan) i + ldF ses plan i ≤ rN r) := fun i _ => by
  unfold vP V; rw [e, hWk_eq]; rfl
 rw [allP_congr hv, most_eq (fun i => (ldF_in hg hp i).1), ← allP_list 0 (fun y => decide (y ≤ rN r)), ws_len]
 refine (scan_ind (S := fun w kr => S62x0x60 N ((ws (ldF ses plan) plan.length).map D.i) (((ws (ldF ses plan) plan.length).map D.i).length : Int) (rN r) w kr (fun p => some (.inl p)) (fun p => some (.inr p))) (L := fun m w => L62x0x60 N ((ws (ldF ses plan) plan.length).map D.i) (((ws (ldF ses plan) plan.length).map D.i).length : Int) (rN r) m w _ _) (fun m w => rfl) _ inlU inrU (n := (plan.length + 6) / 7) (by omega) ?_ ?_ hN)
 ·intro kr; simp only [S62x0x60, ws_mapl]; simp
 ·intro w kr hw ew
  simp only [S62x0x60, ws_mapl, decide_eq_true (show (w : Int) < ((plan.length + 6) / 7 : Nat) by omega), _root_.cond_true, inB_of (show (0 : Int) ≤ w by omega) (show (w : Int) < ((plan.length + 6) / 7 : Nat) by omega), ew, Int.toNat_natCast, ws_map hw]
  by_cases h : (ws (ldF ses plan) plan.length).getD w 0 ≤ rN r
  ·rw [decide_eq_true h, decide_eq_false (show ¬ (ws (ldF ses plan) plan.length).getD w 0 > rN r by omega)]; rfl
  ·rw [decide_eq_false h, decide_eq_true (show (ws (ldF ses plan) plan.length).getD w 0 > rN r by omega)]; rfl
theorem full_all {g : Nat → Int} {n : Nat} {p : Int → Bool} : allP (fun j => !(decide (7 * (j : Int) + 7 ≤ n) && !p ((ws g n).getD j 0))) ((n + 6) / 7) = (fw g n).all p := by
 rw [← allP_list 0 p, fw_len, Bool.eq_iff_iff, allP_iff, allP_iff]
 refine ⟨fun h j hj => ?_, fun h j hj => ?_⟩
 ·have := h j (by omega)
  rw [decide_eq_true (show 7 * (j : Int) + 7 ≤ n by omega)] at this
  unfold ws at this
  rw [getD_l (by rw [fw_len]; exact hj)] at this
  simpa using this
 ·by_cases h7 : 7 * (j : Int) + 7 ≤ n
  ·have hj' : j < n / 7 := by omega
   have := h j hj'
   rw [decide_eq_true h7]
   unfold ws
   rw [getD_l (by rw [fw_len]; exact hj'), this]; rfl
  ·rw [decide_eq_false h7]; rfl
theorem kind4_eq (hg : Good first days before ses rules) (hN : maxLen < N) (hp : DoneOk ses plan) (hl : plan.length ≤ 14) (e : rKind r = 4) :
  G62x0x81 N plan ((ws (ldF ses plan) plan.length).map D.i) (((ws (ldF ses plan) plan.length).map D.i).length : Int) (rN r) 0 = bif allP (vP first days before ses r plan) plan.length then inrU else inlU := by
 have hv : ∀ i, i < plan.length → vP first days before ses r plan i = (!(i % 7 == 6) || decide (wk (ldF ses plan) i + ldF ses plan i ≥ rN r)) := fun i _ => by
  unfold vP V; rw [e, hWk_eq, hist_len, full_nat]; rfl
 rw [allP_congr hv, least_eq, ← full_all]
 refine (scan_ind (S := fun w kr => S62x0x81 N plan ((ws (ldF ses plan) plan.length).map D.i) (((ws (ldF ses plan) plan.length).map D.i).length : Int) (rN r) w kr (fun p => some (.inl p)) (fun p => some (.inr p))) (L := fun m w => L62x0x81 N plan ((ws (ldF ses plan) plan.length).map D.i) (((ws (ldF ses plan) plan.length).map D.i).length : Int) (rN r) m w _ _) (fun m w => rfl) _ inlU inrU (n := (plan.length + 6) / 7) (by omega) ?_ ?_ hN)
 ·intro kr; simp only [S62x0x81, ws_mapl]; simp
 ·intro w kr hw ew
  simp only [S62x0x81, ws_mapl, decide_eq_true (show (w : Int) < ((plan.length + 6) / 7 : Nat) by omega), _root_.cond_true, inB_of (show (0 : Int) ≤ w by omega) (show (w : Int) < ((plan.length + 6) / 7 : Nat) by omega), ew, Int.toNat_natCast, ws_map hw, bnd_eq, small (show -1000000000000 ≤ 7 * (w : Int) ∧ 7 * (w : Int) ≤ 1000000000000 by omega), small (show -1000000000000 ≤ 7 * (w : Int) + 7 ∧ 7 * (w : Int) + 7 ≤ 1000000000000 by omega)]
  cases decide (7 * (w : Int) + 7 ≤ plan.length) with
  | false => rfl
  | true =>
   by_cases h : (ws (ldF ses plan) plan.length).getD w 0 ≥ rN r
   ·rw [decide_eq_true h, decide_eq_false (show ¬ (ws (ldF ses plan) plan.length).getD w 0 < rN r by omega)]; rfl
   ·rw [decide_eq_false h, decide_eq_true (show (ws (ldF ses plan) plan.length).getD w 0 < rN r by omega)]; rfl
theorem kind5_eq (hg : Good first days before ses rules) (hN : maxLen < N) (hp : DoneOk ses plan) (hl : plan.length ≤ 14) (e : rKind r = 5) :
  G62x0x102 N plan plan.length ses (rN r) 0 = bif allP (vP first days before ses r plan) plan.length then inrU else inlU := by
 have hv : ∀ i, i < plan.length → vP first days before ses r plan i = allP (fun k => !(sHard ses (pN plan i) && sHard ses (pN plan k) && decide ((i : Int) - k < rN r))) i := fun i _ => by
  rw [← apart_eq (H := fun k => sHard ses (pN plan k))]
  unfold vP V; rw [e, hHard_eq, hist_len]; rfl
 refine (scan_ind (S := fun w kr => S62x0x102 N plan plan.length ses (rN r) w kr (fun p => some (.inl p)) (fun p => some (.inr p))) (L := fun m w => L62x0x102 N plan plan.length ses (rN r) m w _ _) (fun m w => rfl) _ inlU inrU (n := plan.length) (by omega) ?_ ?_ hN)
 ·intro kr; simp [S62x0x102]
 ·intro w kr hw ew
  rw [hv w hw]
  have hin : G62x0x111 N plan w w ses (rN r) 0 = bif allP (fun k => !(sHard ses (pN plan w) && sHard ses (pN plan k) && decide ((w : Int) - k < rN r))) w then inrU else inlU := by
   refine (scan_ind (S := fun k kr => S62x0x111 N plan w w ses (rN r) k kr (fun p => some (.inl p)) (fun p => some (.inr p))) (L := fun m k => L62x0x111 N plan w w ses (rN r) m k _ _) (fun m w => rfl) _ inlU inrU (n := w) (by omega) ?_ ?_ hN)
   ·intro kr; simp [S62x0x111]
   ·intro k kr hk ek
    have hkp : k < plan.length := by omega
    simp only [S62x0x111, decide_eq_true (show (k : Int) < w by omega), _root_.cond_true, G62x0x118, F62x0x118, inB_of (show (0 : Int) ≤ w by omega) (show (w : Int) < plan.length by omega), inB_of (show (0 : Int) ≤ k by omega) (show (k : Int) < plan.length by omega), Int.toNat_natCast, pN_at hw, pN_at hkp, G63x0_eq (pN_in hp w).2, G63x0_eq (pN_in hp k).2, bnd_eq, Option.isSome_some, getD_some, ek, small (show -1000000000000 ≤ (w : Int) - k ∧ (w : Int) - k ≤ 1000000000000 by omega)]
    cases sHard ses (pN plan w) <;> cases sHard ses (pN plan k) <;> cases decide ((w : Int) - k < rN r) <;> rfl
  simp only [S62x0x102, decide_eq_true (show (w : Int) < plan.length by omega), _root_.cond_true, hin, bnd_eq, ew]
  cases allP (fun k => !(sHard ses (pN plan w) && sHard ses (pN plan k) && decide ((w : Int) - k < rN r))) w <;> rfl
theorem sumF_front {g : Nat → Int} : ∀ {m a : Nat}, sumF g a (m + 1) = g a + sumF g (a + 1) m
 | 0, a => by unfold sumF sumF; simp
 | m + 1, a => by
  have ih := sumF_front (g := g) (m := m) (a := a)
  rw [show sumF g a (m + 1 + 1) = sumF g a (m + 1) + g (a + (m + 1)) from rfl, ih, show sumF g (a + 1) (m + 1) = sumF g (a + 1) m + g (a + 1 + m) from rfl, show a + 1 + m = a + (m + 1) by omega]
  omega
/-- The days of a session. -/
def cntF (c : Int) (plan : List D) (i : Nat) : Int := bif pN plan i == c then 1 else 0
theorem cntF_in {c : Int} (i : Nat) : 0 ≤ cntF c plan i ∧ cntF c plan i ≤ 1000 := by unfold cntF; cases pN plan i == c <;> simp
theorem min2_nat (a b : Nat) : min2 (a : Int) (b : Int) = ((min a b : Nat) : Int) := by
 unfold min2
 rw [Nat.min_def]
 split <;> split <;> omega
theorem count_eq (hN : maxLen < N) (hs : ses.length ≤ maxLen) (hl : plan.length ≤ 14) {name : List UInt8} (j : Nat) (hj : j ≤ 14) :
  G62x0x147 N plan j ses name 0 (IntKind.wrap .i64 (7 * (j : Int))) = some (sumF (cntF (sesAt ses name) plan) (7 * j) (min (7 * j + 7) plan.length - 7 * j)) := by
 have hM : maxLen = 9223372036854775807 := rfl
 have key := loop_indP (A := Int × Int) (S := fun a kr => S62x0x147 N plan j ses name a.1 a.2 (fun x y => kr (x, y)) (fun p => some p)) (L := fun k a => L62x0x147 N plan j ses name k a.1 a.2 (fun p => some p)) (fun k a => rfl)
  (fun a x => x = some (a.1 + sumF (cntF (sesAt ses name) plan) a.2.toNat (min (7 * j + 7) plan.length - a.2.toNat)))
  (fun a => (0 ≤ a.2 ∧ a.2 ≤ 1000) ∧ 0 ≤ a.1 ∧ a.1 ≤ a.2) (fun a => min (7 * j + 7) plan.length - a.2.toNat) (by
   rintro ⟨c, w⟩ kr ⟨⟨h0, h1⟩, h2, h3⟩ ih
   dsimp only at h0 h1 h2 h3 ih ⊢
   obtain ⟨i, rfl⟩ := Int.eq_ofNat_of_zero_le h0
   have e7 : IntKind.wrap .i64 (7 * (j : Int)) = ((7 * j : Nat) : Int) := small (by omega)
   have e77 : IntKind.wrap .i64 (((7 * j : Nat) : Int) + 7) = ((7 * j + 7 : Nat) : Int) := small (by omega)
   simp only [S62x0x147, e7, e77, min2_nat, bnd_eq, Int.toNat_natCast]
   by_cases hw : i < min (7 * j + 7) plan.length
   ·have hip : i < plan.length := by omega
    have ew : IntKind.wrap .i64 ((i : Int) + 1) = ((i + 1 : Nat) : Int) := small (by omega)
    simp only [decide_eq_true (show (i : Int) < ((min (7 * j + 7) plan.length : Nat) : Int) by omega), _root_.cond_true, inB_of (show (0 : Int) ≤ i by omega) (show (i : Int) < plan.length by omega), G55x0_eq hN hs, Option.isSome_some, getD_some, pN_at hip, ew, V62x0x158, F62x0x158, small (show -1000000000000 ≤ c + 1 ∧ c + 1 ≤ 1000000000000 by omega)]
    rw [show min (7 * j + 7) plan.length - i = (min (7 * j + 7) plan.length - (i + 1)) + 1 by omega, sumF_front]
    unfold cntF
    cases hb : pN plan i == sesAt ses name with
    | true =>
     have := ih (c + 1, ((i + 1 : Nat) : Int)) ⟨⟨by dsimp only; omega, by dsimp only; omega⟩, by dsimp only; omega, by dsimp only; omega⟩ (by dsimp only; omega)
     dsimp only at this
     rw [Int.toNat_natCast] at this
     simp only [_root_.cond_true]
     rw [this, Int.add_assoc]; rfl
    | false =>
     have := ih (c, ((i + 1 : Nat) : Int)) ⟨⟨by dsimp only; omega, by dsimp only; omega⟩, by dsimp only; omega, by dsimp only; omega⟩ (by dsimp only; omega)
     dsimp only at this
     rw [Int.toNat_natCast] at this
     simp only [_root_.cond_false, Int.zero_add]
     rw [this]; rfl
   ·simp only [decide_eq_false (show ¬ (i : Int) < ((min (7 * j + 7) plan.length : Nat) : Int) by omega), _root_.cond_false]
    rw [show min (7 * j + 7) plan.length - i = 0 by omega]
    unfold sumF
    simp)
  N (0, ((7 * j : Nat) : Int)) ⟨⟨by dsimp only; omega, by dsimp only; omega⟩, by simp, by dsimp only; omega⟩ (by dsimp only; omega)
 have e7 : IntKind.wrap .i64 (7 * (j : Int)) = ((7 * j : Nat) : Int) := small (by omega)
 rw [e7]
 unfold G62x0x147
 dsimp only at key
 rw [key, Int.toNat_natCast, Int.zero_add]
theorem kind6_eq (hg : Good first days before ses rules) (hN : maxLen < N) (hp : DoneOk ses plan) (hl : plan.length ≤ 14) (e : rKind r = 6) :
  G62x0x135 N plan (((ws (ldF ses plan) plan.length).map D.i).length : Int) ses (rLow r) (rHigh r) (rName r) 0 = bif allP (vP first days before ses r plan) plan.length then inrU else inlU := by
 have hM : maxLen = 9223372036854775807 := rfl
 have h4 := hg.nses
 have hv : ∀ i, i < plan.length → vP first days before ses r plan i = (decide (wk (cntF (sesAt ses (rName r)) plan) i + cntF (sesAt ses (rName r)) plan i ≤ rHigh r) && (!(i % 7 == 6) || decide (wk (cntF (sesAt ses (rName r)) plan) i + cntF (sesAt ses (rName r)) plan i ≥ rLow r))) := fun i _ => by
  unfold vP V; rw [e, hCnt_eq, hist_len, full_nat]; rfl
 rw [allP_congr hv, allP_and, most_eq (fun i => (cntF_in i).1), least_eq, ← allP_list 0 (fun y => decide (y ≤ rHigh r)), ws_len, ← full_all, ← allP_and]
 refine (scan_ind (S := fun w kr => S62x0x135 N plan (((ws (ldF ses plan) plan.length).map D.i).length : Int) ses (rLow r) (rHigh r) (rName r) w kr (fun p => some (.inl p)) (fun p => some (.inr p))) (L := fun m w => L62x0x135 N plan (((ws (ldF ses plan) plan.length).map D.i).length : Int) ses (rLow r) (rHigh r) (rName r) m w _ _) (fun m w => rfl) _ inlU inrU (n := (plan.length + 6) / 7) (by omega) ?_ ?_ hN)
 ·intro kr; simp only [S62x0x135, ws_mapl]; simp
 ·intro w kr hw ew
  have hc := count_eq hN (show ses.length ≤ maxLen by omega) hl (name := rName r) w (by omega)
  rw [← ws_at hw, small (show -1000000000000 ≤ 7 * (w : Int) ∧ 7 * (w : Int) ≤ 1000000000000 by omega)] at hc
  simp only [S62x0x135, ws_mapl, decide_eq_true (show (w : Int) < ((plan.length + 6) / 7 : Nat) by omega), _root_.cond_true, hc, ew, bnd_eq, Option.isSome_some, getD_some, small (show -1000000000000 ≤ 7 * (w : Int) ∧ 7 * (w : Int) ≤ 1000000000000 by omega), small (show -1000000000000 ≤ 7 * (w : Int) + 7 ∧ 7 * (w : Int) + 7 ≤ 1000000000000 by omega)]
  generalize (ws (cntF (sesAt ses (rName r)) plan) plan.length).getD w 0 = y
  have a : decide (y > rHigh r) = !decide (y ≤ rHigh r) := by
   by_cases h : y ≤ rHigh r
   ·rw [decide_eq_true h, decide_eq_false (by omega)]; rfl
   ·rw [decide_eq_false h, decide_eq_true (by omega)]; rfl
  have b : decide (y < rLow r) = !decide (y ≥ rLow r) := by
   by_cases h : y ≥ rLow r
   ·rw [decide_eq_true h, decide_eq_false (by omega)]; rfl
   ·rw [decide_eq_false h, decide_eq_true (by omega)]; rfl
  rw [a, b]
  cases decide (y ≤ rHigh r) <;> cases decide (7 * (w : Int) + 7 ≤ plan.length) <;> cases decide (y ≥ rLow r) <;> rfl
end
end Go.Proofs.Ytefmjfcdgadggaa

namespace Go.Proofs.Ytefmjfcdgadggaa
open Go Go.AM
set_option maxHeartbeats 4000000
set_option maxRecDepth 100000
variable {N : Nat}
section
variable {first days before : Int} {ses rules plan : List D} {r : D}
theorem kind7_eq (hg : Good first days before ses rules) (hN : maxLen < N) (hp : DoneOk ses plan) (hl : (plan.length : Int) = days) (hn : 0 ≤ rN r ∧ rN r ≤ 100000) (e : rKind r = 7) :
  G62x0x177 N ((ws (ldF ses plan) plan.length).map D.i) (((ws (ldF ses plan) plan.length).map D.i).length : Int) (rN r) before 0 = bif allP (vP first days before ses r plan) plan.length then inrU else inlU := by
 have hM : maxLen = 9223372036854775807 := rfl
 have hgd := hg.gdays
 have hgb := hg.gbefore
 have hv : ∀ i, i < plan.length → vP first days before ses r plan i = (!(i % 7 == 6 || (i : Int) == (plan.length : Int) - 1) || decide (100 * (wk (ldF ses plan) i + ldF ses plan i) ≤ rN r * lastD before (fw (ldF ses plan) i))) := fun i _ => by
  unfold vP V endsD; rw [e, hWk_eq, hBef_eq, hist_len, full_nat, hl]; rfl
 rw [allP_congr hv, grow_all (by omega)]
 have key := loop_indP (A := Int × Int) (S := fun a kr => S62x0x177 N ((ws (ldF ses plan) plan.length).map D.i) (((ws (ldF ses plan) plan.length).map D.i).length : Int) (rN r) a.1 a.2 (fun x y => kr (x, y)) (fun p => some (.inl p)) (fun p => some (.inr p))) (L := fun k a => L62x0x177 N ((ws (ldF ses plan) plan.length).map D.i) (((ws (ldF ses plan) plan.length).map D.i).length : Int) (rN r) k a.1 a.2 (fun p => some (.inl p)) (fun p => some (.inr p))) (fun k a => rfl)
  (fun a x => x = bif chain (rN r) a.1 ((ws (ldF ses plan) plan.length).drop a.2.toNat) then inrU else inlU)
  (fun a => (0 ≤ a.2 ∧ a.2 ≤ ((plan.length + 6) / 7 : Nat)) ∧ 0 ≤ a.1 ∧ a.1 ≤ 100000) (fun a => (plan.length + 6) / 7 - a.2.toNat) (by
   rintro ⟨b, w⟩ kr ⟨⟨h0, h1⟩, h2, h3⟩ ih
   dsimp only at h0 h1 h2 h3 ih ⊢
   obtain ⟨i, rfl⟩ := Int.eq_ofNat_of_zero_le h0
   rw [Int.toNat_natCast]
   have hwl := ws_len (g := ldF ses plan) (i := plan.length)
   by_cases hw : i < (plan.length + 6) / 7
   ·have ew : IntKind.wrap .i64 ((i : Int) + 1) = ((i + 1 : Nat) : Int) := small (by omega)
    have hd := drop_at (xs := ws (ldF ses plan) plan.length) (w := (i : Int)) 0 (by omega) (by omega)
    rw [show ((i : Int) + 1).toNat = i + 1 by omega, Int.toNat_natCast] at hd
    have hmem : (ws (ldF ses plan) plan.length).getD i 0 ∈ ws (ldF ses plan) plan.length := by
     have := getD_mem (xs := ws (ldF ses plan) plan.length) (w := (i : Int)) 0 (by omega) (by omega)
     simpa using this
    have hbd := ws_bd (ldF_in hg hp) hmem
    have hmu := mul_small hn ⟨h2, h3⟩
    simp only [S62x0x177, ws_mapl, decide_eq_true (show (i : Int) < ((plan.length + 6) / 7 : Nat) by omega), _root_.cond_true, inB_of (show (0 : Int) ≤ i by omega) (show (i : Int) < ((plan.length + 6) / 7 : Nat) by omega), ew, Int.toNat_natCast, ws_map hw, bnd_eq]
    rw [hd]
    generalize (ws (ldF ses plan) plan.length).getD i 0 = y at hbd
    rw [small (show -1000000000000 ≤ y * 100 ∧ y * 100 ≤ 1000000000000 by omega), small (show -1000000000000 ≤ rN r * b ∧ rN r * b ≤ 1000000000000 by omega)]
    have ih' := ih (y, ((i + 1 : Nat) : Int)) ⟨⟨by dsimp only; omega, by dsimp only; omega⟩, by dsimp only; omega, by dsimp only; omega⟩ (by dsimp only; omega)
    dsimp only at ih'
    rw [Int.toNat_natCast] at ih'
    rw [ih']
    show _ = bif decide (100 * y ≤ rN r * b) && chain (rN r) y ((ws (ldF ses plan) plan.length).drop (i + 1)) then inrU else inlU
    by_cases h : 100 * y ≤ rN r * b
    ·rw [decide_eq_true h, decide_eq_false (show ¬ y * 100 > rN r * b by omega)]; rfl
    ·rw [decide_eq_false h, decide_eq_true (show y * 100 > rN r * b by omega)]; rfl
   ·simp only [S62x0x177, ws_mapl, decide_eq_false (show ¬ (i : Int) < ((plan.length + 6) / 7 : Nat) by omega), _root_.cond_false]
    rw [List.drop_eq_nil_of_le (by omega)]
    rfl)
  N (before, 0) ⟨⟨by simp, by dsimp only; omega⟩, by dsimp only; omega, by dsimp only; omega⟩ (by dsimp only; omega)
 dsimp only at key
 simp only [Int.toNat_zero, List.drop_zero] at key
 exact key
theorem fixed_all {c : Int} {P : Nat → Int} {day : Int} {n : Nat} (h0 : 0 ≤ day) (h1 : day < n) : allP (fun i => (i : Int) != day || P i == c) n = (P day.toNat == c) := by
 rw [Bool.eq_iff_iff, allP_iff]
 refine ⟨fun h => ?_, fun h i hi => ?_⟩
 ·have := h day.toNat (by omega)
  rw [Int.toNat_of_nonneg h0] at this
  simpa using this
 ·by_cases hd : (i : Int) = day
  ·subst hd
   rw [Int.toNat_natCast] at h
   rw [h, Bool.or_true]
  ·rw [show ((i : Int) != day) = true by simpa using hd]; rfl
theorem sesAt_none {name : List UInt8} (h : ∀ x ∈ ses, (x.cell 0).toS ≠ name) : sesAt ses name = -1 := by
 unfold sesAt
 rw [List.findIdx?_eq_none_iff.2 fun x hx => by simpa using h x hx]
theorem sesAt_at {name : List UInt8} (h : 0 ≤ sesAt ses name) : ((ses.getD (sesAt ses name).toNat (.i 0)).cell 0).toS = name := by
 unfold sesAt at h ⊢
 cases hf : ses.findIdx? (fun x => (x.cell 0).toS == name) with
 | none => rw [hf] at h; simp at h
 | some j =>
  rw [List.findIdx?_eq_some_iff_getElem] at hf
  obtain ⟨h1, h2, _⟩ := hf
  dsimp only
  rw [Int.toNat_natCast, List.getD_eq_getElem?_getD, List.getElem?_eq_getElem h1]
  exact by simpa using h2
theorem name_eq (hg : Good first days before ses rules) {m : Int} (hm : -1 ≤ m ∧ m < ses.length) {name : List UInt8} (hn : name ≠ [] → 0 ≤ sesAt ses name) : (sName ses m == name) = (m == sesAt ses name) := by
 unfold sName
 by_cases h0 : m < 0
 ·have h1 : m = -1 := by omega
  subst h1
  rw [decide_eq_true h0]
  simp only [_root_.cond_true]
  by_cases he : name = []
  ·subst he
   rw [sesAt_none fun x hx => hg.named x hx]; rfl
  ·have := hn he
   rw [show ((-1 : Int) == sesAt ses name) = false by rw [beq_eq_false_iff_ne]; omega, beq_eq_false_iff_ne]
   exact fun h => he h.symm
 ·rw [decide_eq_false h0]
  simp only [_root_.cond_false]
  rw [Bool.eq_iff_iff, beq_iff_eq, beq_iff_eq]
  refine ⟨fun h => ?_, fun h => ?_⟩
  ·have := hg.nodup m.toNat (by omega)
   rw [h] at this
   omega
  ·have := sesAt_at (ses := ses) (name := name) (by omega)
   rw [← h] at this
   exact this
theorem kind8_eq (hg : Good first days before ses rules) (hp : DoneOk ses plan) (hd : 0 ≤ rDay r ∧ rDay r < plan.length) (hn : rName r ≠ [] → 0 ≤ sesAt ses (rName r)) (e : rKind r = 8) :
  (sName ses (pN plan (rDay r).toNat) == rName r) = allP (vP first days before ses r plan) plan.length := by
 have hv : ∀ i, i < plan.length → vP first days before ses r plan i = ((i : Int) != rDay r || pN plan i == sesAt ses (rName r)) := fun i _ => by
  unfold vP V; rw [e, hist_len]; rfl
 rw [allP_congr hv, fixed_all hd.1 hd.2]
 exact name_eq hg (pN_in hp _) hn
/-- What counts ahead of a day. -/
def tapF (ses : List D) (r : D) (plan : List D) (i : Nat) : Int := bif inWin r i then ldF ses plan i else 0
theorem tapF_in (hg : Good first days before ses rules) (hp : DoneOk ses plan) (i : Nat) : 0 ≤ tapF ses r plan i ∧ tapF ses r plan i ≤ 1000 := by
 have := ldF_in hg hp i
 unfold tapF
 cases inWin r i <;> simp only [_root_.cond_true, _root_.cond_false] <;> omega
theorem hTap_eq : ∀ i : Nat, ((i : Int) < rDay r → hTap ses r (hist (pN plan) i) = sumF (tapF ses r plan) 0 i) ∧ ((i : Int) ≥ rDay r → hTap ses r (hist (pN plan) i) = 0)
 | 0 => ⟨fun _ => rfl, fun _ => rfl⟩
 | i + 1 => by
  have ih := hTap_eq i
  unfold hist hTap
  rw [hist_len]
  refine ⟨fun h => ?_, fun h => ?_⟩
  ·rw [decide_eq_false (by omega), ih.1 (by omega)]
   show sumF (tapF ses r plan) 0 i + _ = sumF (tapF ses r plan) 0 i + tapF ses r plan (0 + i)
   rw [Nat.zero_add]; rfl
  ·rw [decide_eq_true (by omega)]; rfl
theorem sumF_zero {g : Nat → Int} : ∀ {m : Nat}, (∀ k, k < m → g k = 0) → sumF g 0 m = 0
 | 0, _ => rfl
 | m + 1, h => by
  show sumF g 0 m + g (0 + m) = 0
  rw [sumF_zero fun k hk => h k (by omega), Nat.zero_add, h m (by omega)]; rfl
theorem tap_sum (hg : Good first days before ses rules) (hN : maxLen < N) (hp : DoneOk ses plan) (hl : plan.length ≤ 14) (hd : 0 ≤ rDay r ∧ rDay r < plan.length) (hlow : -14 ≤ rLow r ∧ rLow r ≤ 14) :
  G62x0x15 N plan ses (rDay r) 0 (max2 0 (IntKind.wrap .i64 (rDay r - rLow r))) = some (sumF (tapF ses r plan) 0 (rDay r).toNat) := by
 have hM : maxLen = 9223372036854775807 := rfl
 obtain ⟨dd, hdd⟩ := Int.eq_ofNat_of_zero_le hd.1
 rw [hdd] at hd ⊢
 rw [Int.toNat_natCast]
 have bdS : ∀ m : Nat, 0 ≤ sumF (tapF ses r plan) 0 m ∧ sumF (tapF ses r plan) 0 m ≤ 1000 * m := fun m => by
  induction m with
  | zero => simp [sumF]
  | succ m ih =>
   have := tapF_in (r := r) hg hp m
   show 0 ≤ sumF (tapF ses r plan) 0 m + tapF ses r plan (0 + m) ∧ sumF (tapF ses r plan) 0 m + tapF ses r plan (0 + m) ≤ _
   rw [Nat.zero_add]
   omega
 have key := loop_indP (A := Int × Int) (S := fun a kr => S62x0x15 N plan ses (dd : Int) a.1 a.2 (fun x y => kr (x, y)) (fun p => some p)) (L := fun k a => L62x0x15 N plan ses (dd : Int) k a.1 a.2 (fun p => some p)) (fun k a => rfl)
  (fun a x => a.2 ≤ dd → a.1 = sumF (tapF ses r plan) 0 a.2.toNat → x = some (sumF (tapF ses r plan) 0 dd))
  (fun a => 0 ≤ a.2 ∧ (dd : Int) - rLow r ≤ a.2) (fun a => dd - a.2.toNat) (by
   rintro ⟨c, w⟩ kr ⟨h0, h1⟩ ih h2 h3
   dsimp only at h0 h1 h2 h3 ih ⊢
   obtain ⟨i, rfl⟩ := Int.eq_ofNat_of_zero_le h0
   rw [Int.toNat_natCast] at h3
   subst h3
   by_cases hw : i < dd
   ·have hip : i < plan.length := by omega
    have ew : IntKind.wrap .i64 ((i : Int) + 1) = ((i + 1 : Nat) : Int) := small (by omega)
    have hb := bdS i
    have hti := ldF_in hg hp i
    have hwin : tapF ses r plan i = ldF ses plan i := by
     unfold tapF inWin out
     rw [hdd, decide_eq_false (by omega)]; rfl
    have eld : sLoad ses (pN plan i) = ldF ses plan i := rfl
    simp only [S62x0x15, decide_eq_true (show (i : Int) < dd by omega), _root_.cond_true, inB_of (show (0 : Int) ≤ i by omega) (show (i : Int) < plan.length by omega), Int.toNat_natCast, pN_at hip, G63x0_eq (pN_in hp i).2, bnd_eq, Option.isSome_some, getD_some, ew, eld, small (show -1000000000000 ≤ sumF (tapF ses r plan) 0 i + ldF ses plan i ∧ sumF (tapF ses r plan) 0 i + ldF ses plan i ≤ 1000000000000 by omega)]
    refine ih (_, ((i + 1 : Nat) : Int)) ⟨by dsimp only; omega, by dsimp only; omega⟩ (by dsimp only; omega) (by dsimp only; omega) ?_
    dsimp only
    rw [Int.toNat_natCast]
    show _ = sumF (tapF ses r plan) 0 i + tapF ses r plan (0 + i)
    rw [Nat.zero_add, hwin]
   ·have : i = dd := by omega
    subst this
    simp only [S62x0x15, decide_eq_false (show ¬ (i : Int) < i by omega), _root_.cond_false])
  N (0, max2 0 (IntKind.wrap .i64 ((dd : Int) - rLow r))) (by
   rw [small (show -1000000000000 ≤ (dd : Int) - rLow r ∧ (dd : Int) - rLow r ≤ 1000000000000 by omega)]
   unfold max2
   dsimp only
   split <;> omega) (by dsimp only; omega)
 unfold G62x0x15
 dsimp only at key
 by_cases hle : max2 0 (IntKind.wrap .i64 ((dd : Int) - rLow r)) ≤ dd
 ·refine key hle ?_
  rw [sumF_zero]
  intro k hk
  rw [small (show -1000000000000 ≤ (dd : Int) - rLow r ∧ (dd : Int) - rLow r ≤ 1000000000000 by omega)] at hk
  unfold max2 at hk
  unfold tapF inWin out
  rw [hdd]
  split at hk
  ·rw [decide_eq_true (by omega)]; rfl
  ·simp at hk
 ·have hgt : (dd : Int) - rLow r > dd := by
   rw [small (show -1000000000000 ≤ (dd : Int) - rLow r ∧ (dd : Int) - rLow r ≤ 1000000000000 by omega)] at hle
   unfold max2 at hle
   split at hle <;> omega
  obtain ⟨n, rfl⟩ : ∃ n, N = n + 1 := ⟨N - 1, by omega⟩
  have e1 : L62x0x15 (n + 1) plan ses (dd : Int) (n + 1) 0 (max2 0 (IntKind.wrap .i64 ((dd : Int) - rLow r))) (fun p => some p) = S62x0x15 (n + 1) plan ses (dd : Int) 0 (max2 0 (IntKind.wrap .i64 ((dd : Int) - rLow r))) (fun x y => L62x0x15 (n + 1) plan ses (dd : Int) n x y (fun p => some p)) (fun p => some p) := rfl
  rw [e1]
  simp only [S62x0x15, decide_eq_false (show ¬ max2 0 (IntKind.wrap .i64 ((dd : Int) - rLow r)) < dd by omega), _root_.cond_false]
  rw [sumF_zero]
  intro k hk
  unfold tapF inWin out
  rw [hdd, decide_eq_true (by omega)]; rfl
theorem kind9_eq (hg : Good first days before ses rules) (hp : DoneOk ses plan) (hd : 0 ≤ rDay r ∧ rDay r < plan.length) (hn : 0 ≤ rN r) (e : rKind r = 9) :
  decide (sumF (tapF ses r plan) 0 (rDay r).toNat ≤ rN r) = allP (vP first days before ses r plan) plan.length := by
 have hv : ∀ i, vP first days before ses r plan i = decide (hTap ses r (hist (pN plan) i) + tapF ses r plan i ≤ rN r) := fun i => by
  unfold vP V; rw [e, hist_len]; rfl
 rw [allP_more (m := (rDay r).toNat) (by omega) (fun i h1 h2 => by
  rw [hv, (hTap_eq i).2 (by omega)]
  unfold tapF inWin out
  rw [decide_eq_true (show (i : Int) < rDay r - rLow r ∨ (i : Int) > rDay r - 1 by omega)]
  simpa using hn)]
 rw [← tap_all (fun i => (tapF_in hg hp i).1) hn]
 refine allP_congr fun i hi => ?_
 rw [hv, (hTap_eq i).1 (by omega)]
theorem V62x0x30002_eq (k : Int) : V62x0x30002 N k (k == 1) = (k == 1 || k == 2) := by
 unfold V62x0x30002 F62x0x30002
 cases k == 1 <;> rfl
/-- A rule is kept by a plan, if it is kept on each day. -/
theorem G62x0_eq (hg : Good first days before ses rules) (hN : maxLen < N) (hp : DoneOk ses plan) (hl : (plan.length : Int) = days) (hr : r ∈ rules) :
  G62x0 N first before ses (rKind r) (rDay r) (rN r) (rLow r) (rHigh r) (rName r) plan = some (allP (vP first days before ses r plan) plan.length) := by
 have hx := rule_ok hg.gdays.1 (hg.rule r hr)
 have hx : (1 ≤ rKind r ∧ rKind r ≤ 9) ∧ (rKind r = 6 → 0 ≤ sesAt ses (rName r)) ∧ (0 ≤ rN r ∧ rN r ≤ 100000) ∧ (-14 ≤ rLow r ∧ rLow r ≤ 14) ∧ (-14 ≤ rDay r ∧ rDay r ≤ days + 7) ∧ ((rKind r = 8 ∨ rKind r = 9) → 0 ≤ rDay r ∧ rDay r ≤ days - 1) ∧ (rKind r = 9 → 1 ≤ rLow r) ∧ (rKind r = 5 → 1 ≤ rN r ∧ rN r ≤ 14) ∧ (rKind r = 8 → rName r ≠ [] → 0 ≤ sesAt ses (rName r)) ∧ (rKind r = 6 → 0 ≤ rLow r ∧ rHigh r ≤ 7) := hx
 obtain ⟨hk, h6, hn, hlow, hday, h89, _, h5, h8, h6'⟩ := hx
 have hgd := hg.gdays
 have hl14 : plan.length ≤ 14 := by omega
 obtain ⟨b, hW⟩ := G71x0_eq hg hN hp hl14
 unfold G62x0 F62x0
 rw [hW, V62x0x30002_eq]
 simp only [bnd_eq, Option.isSome_some, getD_some, _root_.cond_true]
 have fin : ∀ q : Bool, (bif inlB (bif q then some (Sum.inr () : Sum Bool Unit) else some (.inl false)) then some (inlV (bif q then some (Sum.inr () : Sum Bool Unit) else some (.inl false))) else bif (inrQ (bif q then some (Sum.inr () : Sum Bool Unit) else some (.inl false))).isSome then some true else none) = some q := fun q => by cases q <;> rfl
 rcases kinds9 hk with e | e | e | e | e | e | e | e | e
 ·rw [e]
  simp only [G62x0x54035, F62x0x54035, kind1_eq hg hN hp hl14 e, bnd_eq, beq_self_eq_true, Bool.true_or, _root_.cond_true]
  cases allP (vP first days before ses r plan) plan.length <;> rfl
 ·rw [e]
  have := kind2_eq hg hN hp hl14 hn.1 e
  simp only [G62x0x54035, F62x0x54035, bnd_eq, this, beq_self_eq_true, Bool.or_true, _root_.cond_true]
  cases allP (vP first days before ses r plan) plan.length <;> rfl
 ·rw [e]
  have := kind3_eq hg hN hp hl14 e
  simp only [G62x0x54035, F62x0x54035, G62x0x75059, F62x0x75059, bnd_eq, this, show ((3 : Int) == 1) = false from rfl, show ((3 : Int) == 2) = false from rfl, Bool.or_false, beq_self_eq_true, _root_.cond_true, _root_.cond_false]
  cases allP (vP first days before ses r plan) plan.length <;> rfl
 ·rw [e]
  have := kind4_eq hg hN hp hl14 e
  simp only [G62x0x54035, F62x0x54035, G62x0x75059, F62x0x75059, G62x0x96080, F62x0x96080, bnd_eq, this, show ((4 : Int) == 1) = false from rfl, show ((4 : Int) == 2) = false from rfl, show ((4 : Int) == 3) = false from rfl, Bool.or_false, beq_self_eq_true, _root_.cond_true, _root_.cond_false]
  cases allP (vP first days before ses r plan) plan.length <;> rfl
 ·rw [e]
  have := kind5_eq hg hN hp hl14 e
  simp only [G62x0x54035, F62x0x54035, G62x0x75059, F62x0x75059, G62x0x96080, F62x0x96080, G62x0x129101, F62x0x129101, bnd_eq, this, show ((5 : Int) == 1) = false from rfl, show ((5 : Int) == 2) = false from rfl, show ((5 : Int) == 3) = false from rfl, show ((5 : Int) == 4) = false from rfl, Bool.or_false, beq_self_eq_true, _root_.cond_true, _root_.cond_false]
  cases allP (vP first days before ses r plan) plan.length <;> rfl
 ·rw [e]
  have := kind6_eq hg hN hp hl14 e
  simp only [G62x0x54035, F62x0x54035, G62x0x75059, F62x0x75059, G62x0x96080, F62x0x96080, G62x0x129101, F62x0x129101, G62x0x168134, F62x0x168134, bnd_eq, this, show ((6 : Int) == 1) = false from rfl, show ((6 : Int) == 2) = false from rfl, show ((6 : Int) == 3) = false from rfl, show ((6 : Int) == 4) = false from rfl, show ((6 : Int) == 5) = false from rfl, Bool.or_false, beq_self_eq_true, _root_.cond_true, _root_.cond_false]
  cases allP (vP first days before ses r plan) plan.length <;> rfl
 ·rw [e]
  have := kind7_eq hg hN hp hl hn e
  simp only [G62x0x54035, F62x0x54035, G62x0x75059, F62x0x75059, G62x0x96080, F62x0x96080, G62x0x129101, F62x0x129101, G62x0x168134, F62x0x168134, bnd_eq, this, show ((7 : Int) == 1) = false from rfl, show ((7 : Int) == 2) = false from rfl, show ((7 : Int) == 3) = false from rfl, show ((7 : Int) == 4) = false from rfl, show ((7 : Int) == 5) = false from rfl, show ((7 : Int) == 6) = false from rfl, Bool.or_false, beq_self_eq_true, _root_.cond_true, _root_.cond_false]
  cases allP (vP first days before ses r plan) plan.length <;> rfl
 ·have hd := h89 (.inl e)
  have hdp : (rDay r).toNat < plan.length := by omega
  rw [e]
  have := kind8_eq hg hp (r := r) (plan := plan) (by omega) (h8 e) e
  simp only [G62x0x54035, F62x0x54035, G62x0x75059, F62x0x75059, G62x0x96080, F62x0x96080, G62x0x129101, F62x0x129101, G62x0x168134, F62x0x168134, bnd_eq, show ((8 : Int) == 1) = false from rfl, show ((8 : Int) == 2) = false from rfl, show ((8 : Int) == 3) = false from rfl, show ((8 : Int) == 4) = false from rfl, show ((8 : Int) == 5) = false from rfl, show ((8 : Int) == 6) = false from rfl, show ((8 : Int) == 7) = false from rfl, Bool.or_false, beq_self_eq_true, _root_.cond_true, _root_.cond_false, inB_of hd.1 (show rDay r < plan.length by omega), pN_at hdp, G63x0_eq (pN_in hp _).2, Option.isSome_some, getD_some, inlB_inl, inlV_inl]
  rw [this]
 ·have hd := h89 (.inr e)
  rw [e]
  have := kind9_eq hg hp (r := r) (plan := plan) (by omega) hn.1 e
  simp only [G62x0x54035, F62x0x54035, G62x0x75059, F62x0x75059, G62x0x96080, F62x0x96080, G62x0x129101, F62x0x129101, G62x0x168134, F62x0x168134, bnd_eq, show ((9 : Int) == 1) = false from rfl, show ((9 : Int) == 2) = false from rfl, show ((9 : Int) == 3) = false from rfl, show ((9 : Int) == 4) = false from rfl, show ((9 : Int) == 5) = false from rfl, show ((9 : Int) == 6) = false from rfl, show ((9 : Int) == 7) = false from rfl, show ((9 : Int) == 8) = false from rfl, Bool.or_false, _root_.cond_true, _root_.cond_false, tap_sum hg hN hp hl14 (r := r) (by omega) hlow, Option.isSome_some, getD_some, inlB_inl, inlV_inl]
  rw [this]
end
end Go.Proofs.Ytefmjfcdgadggaa

namespace Go.Proofs.Ytefmjfcdgadggaa
open Go Go.AM
set_option maxHeartbeats 4000000
set_option maxRecDepth 100000
/-! ### Paths: plans that keep all rules and begin with what was done -/
theorem upto_mem {x : Int} : ∀ {k : Nat} {n : Int}, n ≤ x → x < n + k → x ∈ upto n k
 | 0, n, h1, h2 => by omega
 | k + 1, n, h1, h2 => by
  unfold upto
  by_cases h : x = n
  ·subst h; exact List.mem_cons_self
  ·exact List.mem_cons_of_mem _ (upto_mem (by omega) (by omega))
theorem upto_split : ∀ {k : Nat} {a : Int} {pre : List Int} {n : Int} {post : List Int}, upto a k = pre ++ n :: post → (∀ x ∈ pre, x < n) ∧ (∀ x ∈ post, n < x)
 | 0, a, pre, n, post, h => by unfold upto at h; simp at h
 | k + 1, a, pre, n, post, h => by
  unfold upto at h
  cases pre with
  | nil =>
   simp only [List.nil_append, List.cons.injEq] at h
   obtain ⟨rfl, rfl⟩ := h
   exact ⟨fun x hx => by simp at hx, fun x hx => by have := upto_in hx; omega⟩
  | cons p pre =>
   simp only [List.cons_append, List.cons.injEq] at h
   obtain ⟨rfl, h⟩ := h
   have ih := upto_split h
   refine ⟨fun x hx => ?_, ih.2⟩
   rcases List.mem_cons.1 hx with rfl | hx
   ·have : n ∈ upto (x + 1) k := by rw [h]; simp
    have := upto_in this
    omega
   ·exact ih.1 x hx
def cmpL : List Int → List Int → Int
 | [], [] => 0
 | [], _ :: _ => -1
 | _ :: _, [] => 1
 | a :: l, b :: l' => if a < b then -1 else if a > b then 1 else cmpL l l'
section
variable (acc : List Int → Int → Bool) (ses done : List D)
def PathOk : Nat → List Int → List Int → Prop
 | 0, _, l => l = []
 | m + 1, h, l => ∃ n l', l = n :: l' ∧ n ∈ ns ses done h.length ∧ acc h n = true ∧ PathOk m (n :: h) l'
def wL (ses : List D) : List Int → Int
 | [] => 0
 | n :: l => wL ses l + sWorth ses n
end
section
variable {acc : List Int → Int → Bool} {ses done : List D}
theorem differs_nil {day : Int} (h : 0 ≤ day) (n : Int) : differs done [] day n = false := by
 unfold differs
 rw [decide_eq_false (show ¬ day < (([] : List D).length : Int) by simp; omega)]; simp
theorem cD_path {m : Nat} {h : List Int} {n : Int} (ha : acc h n = true) (hp : (DD acc ses done [] m (n :: h)).1.1 > 0) : (cD acc ses done [] m h n).1 = ((DD acc ses done [] m (n :: h)).1.1, (DD acc ses done [] m (n :: h)).1.2.1, (DD acc ses done [] m (n :: h)).1.2.2 + sWorth ses n) := by
 unfold cD addR
 rw [ha, differs_nil (by omega), show ((DD acc ses done [] m (n :: h)).1.1 == 0) = false by rw [beq_eq_false_iff_ne]; omega]
 rfl
theorem DD_zero : ∀ {m : Nat} {h : List Int}, (DD acc ses done [] m h).1.1 > 0 → (DD acc ses done [] m h).1.2.1 = 0
 | 0, _, _ => rfl
 | m + 1, h, hp => by
  obtain ⟨pre, n, post, h1, ha, h2, h3, h4, _⟩ := DD_pick hp
  rw [h4, cD_path ha h2]
  exact DD_zero h2
theorem path_best : ∀ {m : Nat} {h l : List Int}, PathOk acc ses done m h l → (DD acc ses done [] m h).1.1 > 0 ∧ wL ses l ≤ (DD acc ses done [] m h).1.2.2 ∧ (wL ses l = (DD acc ses done [] m h).1.2.2 → 0 ≤ cmpL l (DD acc ses done [] m h).2)
 | 0, h, l, hl => by
  unfold PathOk at hl
  subst hl
  unfold DD
  exact ⟨by simp, by simp [wL], fun _ => by simp [cmpL]⟩
 | m + 1, h, l, hl => by
  obtain ⟨k, l', rfl, hk, hak, hl'⟩ := hl
  obtain ⟨i1, i2, i3⟩ := path_best hl'
  have hp := DD_pos_of hk hak i1
  refine ⟨hp, ?_⟩
  obtain ⟨pre, n, post, h1, ha, h2, h3, h4, h5, h6, h7⟩ := DD_pick hp
  rw [h4, h3]
  have cn := cD_path ha h2
  have ck := cD_path hak i1
  have zn := DD_zero h2
  have zk := DD_zero i1
  have ckp : (cD acc ses done [] m h k).1.1 > 0 := by rw [ck]; exact i1
  have hs := upto_split h1
  rw [h1] at hk
  rw [cn]
  show wL ses l' + sWorth ses k ≤ _ ∧ (wL ses l' + sWorth ses k = _ → _)
  dsimp only
  rcases List.mem_append.1 hk with hk | hk
  ·have g := h6 k hk ckp
   rw [cn, ck] at g
   unfold gtr at g
   dsimp only at g
   rw [zn, zk] at g
   refine ⟨by omega, fun he => by omega⟩
  ·rcases List.mem_cons.1 hk with rfl | hk
   ·refine ⟨by omega, fun he => ?_⟩
    have := i3 (by omega)
    unfold cmpL
    rw [if_neg (by omega), if_neg (by omega)]
    exact this
   ·have g := h7 k hk ckp
    rw [cn, ck] at g
    unfold geq at g
    dsimp only at g
    rw [zn, zk] at g
    refine ⟨by omega, fun he => ?_⟩
    have := hs.2 k hk
    unfold cmpL
    rw [if_neg (by omega), if_pos (by omega)]
    omega
theorem best_path : ∀ {m : Nat} {h : List Int}, (DD acc ses done [] m h).1.1 > 0 → PathOk acc ses done m h (DD acc ses done [] m h).2 ∧ wL ses (DD acc ses done [] m h).2 = (DD acc ses done [] m h).1.2.2
 | 0, h, _ => ⟨rfl, rfl⟩
 | m + 1, h, hp => by
  obtain ⟨pre, n, post, h1, ha, h2, h3, h4, _⟩ := DD_pick hp
  obtain ⟨i1, i2⟩ := best_path h2
  rw [h3, h4, cD_path ha h2]
  refine ⟨⟨n, _, rfl, by rw [h1]; simp, ha, i1⟩, ?_⟩
  show wL ses _ + sWorth ses n = _
  rw [i2]
theorem path_len : ∀ {m : Nat} {h l : List Int}, PathOk acc ses done m h l → l.length = m
 | 0, h, l, hl => by unfold PathOk at hl; subst hl; rfl
 | m + 1, h, l, hl => by
  obtain ⟨k, l', rfl, _, _, hl'⟩ := hl
  rw [List.length_cons, path_len hl']
def runL (P : Nat → Int) : Nat → Nat → List Int
 | _, 0 => []
 | i, m + 1 => P i :: runL P (i + 1) m
theorem path_run {P : Nat → Int} : ∀ {m i : Nat}, PathOk acc ses done m (hist P i) (runL P i m) ↔ ∀ j, i ≤ j → j < i + m → P j ∈ ns ses done (j : Int) ∧ acc (hist P j) (P j) = true
 | 0, i => ⟨fun _ j h1 h2 => by omega, fun _ => rfl⟩
 | m + 1, i => by
  have ih := path_run (P := P) (m := m) (i := i + 1)
  refine ⟨fun h j h1 h2 => ?_, fun h => ?_⟩
  ·obtain ⟨n, l', e, hn, ha, hl⟩ := h
   obtain ⟨rfl, rfl⟩ := List.cons.inj e
   by_cases hj : j = i
   ·subst hj
    rw [hist_len] at hn
    exact ⟨hn, ha⟩
   ·exact ih.1 hl j (by omega) (by omega)
  ·have hi := h i (by omega) (by omega)
   refine ⟨P i, runL P (i + 1) m, rfl, by rw [hist_len]; exact hi.1, hi.2, ih.2 fun j h1 h2 => h j (by omega) (by omega)⟩
theorem wL_run {P : Nat → Int} : ∀ {m i : Nat}, wL ses (runL P i m) = sumF (fun k => sWorth ses (P k)) i m
 | 0, _ => rfl
 | m + 1, i => by
  rw [sumF_front, ← wL_run (m := m)]
  show wL ses _ + sWorth ses (P i) = _
  omega
end
theorem run_plan {plan : List D} : ∀ {m i : Nat}, i + m = plan.length → runL (pN plan) i m = (plan.drop i).map D.toI
 | 0, i, h => by rw [List.drop_eq_nil_of_le (by omega)]; rfl
 | m + 1, i, h => by
  have hd := drop_at (xs := plan) (w := (i : Int)) (.i 0) (by omega) (by omega)
  rw [show ((i : Int) + 1).toNat = i + 1 by omega, Int.toNat_natCast] at hd
  rw [hd, List.map_cons, ← run_plan (m := m) (i := i + 1) (by omega), pN_at (by omega)]
  rfl
theorem runs_plan (plan : List D) : runL (pN plan) 0 plan.length = plan.map D.toI := by
 rw [run_plan (by omega), List.drop_zero]
theorem map_toI (l : List Int) : (l.map D.i).map D.toI = l := by
 rw [List.map_map]
 conv => rhs; rw [← List.map_id l]
 rfl
/-- What can be done on a day, told by itself. -/
theorem ns_iff {ses done : List D} (hdo : DoneOk ses done) {x : Int} (j : Nat) : x ∈ ns ses done (j : Int) ↔ (-1 ≤ x ∧ x < ses.length) ∧ (j < done.length → (done.getD j (.i 0)).toI = x) := by
 unfold ns least most
 by_cases h : (j : Int) < done.length
 ·rw [decide_eq_true h, Int.toNat_natCast]
  simp only [_root_.cond_true]
  have hj : j < done.length := by omega
  have hin := hdo _ (getD_mem (xs := done) (w := (j : Int)) (.i 0) (by omega) h)
  rw [Int.toNat_natCast] at hin
  refine ⟨fun hx => ?_, fun hx => ?_⟩
  ·have := upto_in hx
   exact ⟨by omega, fun _ => by omega⟩
  ·have := hx.2 hj
   exact upto_mem (by omega) (by omega)
 ·rw [decide_eq_false h]
  simp only [_root_.cond_false]
  refine ⟨fun hx => ?_, fun hx => upto_mem (by omega) (by omega)⟩
  have := upto_in hx
  exact ⟨by omega, fun hj => by omega⟩
/-! ### All rules at once -/
theorem accF_every {v : D → Bool} : ∀ {l : List D} {w : Nat}, accF (fun _ r => false || v r) w l = l.all v
 | [], _ => rfl
 | r :: l, w => by
  unfold accF
  rw [accF_every]
  rfl
theorem accP_every {first days before : Int} {ses rules : List D} {h : List Int} {n : Int} : accP first days before ses rules (fun _ => false) h n = rules.all fun r => V first days before ses r h n := accF_every
section
variable {first days before : Int} {ses rules done plan : List D}
/-- A rule's verdict on a whole plan. -/
def fits (first days before : Int) (ses plan : List D) (r : D) : Bool := allP (vP first days before ses r plan) plan.length
theorem path_iff (hdo : DoneOk ses done) (hp : DoneOk ses plan) (hl : (plan.length : Int) = days) : PathOk (accP first days before ses rules (fun _ => false)) ses done days.toNat [] (plan.map D.toI) ↔ rules.all (fits first days before ses plan) = true ∧ ∀ j, j < plan.length → j < done.length → (done.getD j (.i 0)).toI = pN plan j := by
 have e : days.toNat = plan.length := by omega
 rw [e, ← runs_plan]
 have key := path_run (acc := accP first days before ses rules (fun _ => false)) (ses := ses) (done := done) (P := pN plan) (m := plan.length) (i := 0)
 refine key.trans ⟨fun h => ⟨?_, fun j hj hd => ?_⟩, fun h j _ hj => ?_⟩
 ·rw [List.all_eq_true]
  intro r hr
  unfold fits
  rw [allP_iff]
  intro j hj
  have := (h j (by omega) (by omega)).2
  rw [accP_every, List.all_eq_true] at this
  exact this r hr
 ·exact ((ns_iff hdo j).1 (h j (by omega) (by omega)).1).2 hd
 ·refine ⟨(ns_iff hdo j).2 ⟨pN_in hp j, fun hd => h.2 j (by omega) hd⟩, ?_⟩
  rw [accP_every, List.all_eq_true]
  intro r hr
  have := (List.all_eq_true.1 h.1) r hr
  unfold fits at this
  exact allP_iff.1 this j (by omega)
end
end Go.Proofs.Ytefmjfcdgadggaa

namespace Go.Proofs.Ytefmjfcdgadggaa
open Go Go.AM
set_option maxHeartbeats 4000000
set_option maxRecDepth 100000
variable {N : Nat}
/-! ### Lists, told equal and in order -/
def eqI : List D → List D → Bool
 | [], [] => true
 | x :: a, y :: b => (x.toI == y.toI) && eqI a b
 | _, _ => false
theorem eqI_iff : ∀ {a b : List D}, eqI a b = true ↔ a.map D.toI = b.map D.toI
 | [], [] => by simp [eqI]
 | x :: a, y :: b => by
  unfold eqI
  rw [Bool.and_eq_true, eqI_iff (a := a) (b := b), List.map_cons, List.map_cons, List.cons.injEq, beq_iff_eq]
 | [], _ :: _ => by simp [eqI]
 | _ :: _, [] => by simp [eqI]
def eqS : List D → List D → Option (Sum Unit Unit)
 | [], _ => some (.inr ())
 | x :: a, y :: b => bif x.toI != y.toI then some (.inl ()) else eqS a b
 | _ :: _, [] => none
theorem eqS_eq : ∀ {a b : List D}, a.length = b.length → eqS a b = bif eqI a b then some (.inr ()) else some (.inl ())
 | [], [], _ => rfl
 | x :: a, y :: b, h => by
  unfold eqS eqI
  rw [eqS_eq (a := a) (b := b) (by simpa using h)]
  cases hc : x.toI == y.toI with
  | true => rw [show (x.toI != y.toI) = false by rw [bne, hc]; rfl]; rfl
  | false => rw [show (x.toI != y.toI) = true by rw [bne, hc]; rfl]; rfl
 | [], _ :: _, h => by simp at h
 | _ :: _, [], h => by simp at h
theorem eqI_len {a b : List D} (h : eqI a b = true) : a.length = b.length := by
 have := congrArg List.length (eqI_iff.1 h)
 simpa using this
theorem G15x0_eq (hN : maxLen < N) {a b : List D} (ha : a.length ≤ maxLen) : G15x0 N a b = some (eqI a b) := by
 unfold G15x0 F15x0
 by_cases hl : a.length = b.length
 ·have e : G15x0x12 N a b a.length 0 = eqS a b := by
   unfold G15x0x12
   refine (for_ind (xs := a) (.i 0 : D) (S := fun w kr => S15x0x12 N a b a.length w kr _ _) (L := fun m w => L15x0x12 N a b a.length m w _ _) (fun m w => rfl) (fun w l => eqS l (b.drop w.toNat)) ha ?_ ?_ hN).trans ?_
   ·intro kr; simp [S15x0x12, eqS]
   ·intro w kr h0 h1 hw hi hk
    have hib : inB w b.length = true := inB_of h0 (by omega)
    simp only [S15x0x12, decide_eq_true h1, _root_.cond_true, hi, hib, bnd_eq, hw, hk]
    rw [drop_at (xs := b) (.i 0) h0 (by omega), show ∀ x a y b, eqS (x :: a) (y :: b) = bif x.toI != y.toI then some (.inl ()) else eqS a b from fun _ _ _ _ => rfl]
   ·simp
  rw [e, eqS_eq hl]
  have : ((a.length : Int) != (b.length : Int)) = false := by simp [hl]
  rw [this]
  cases eqI a b <;> rfl
 ·have : ((a.length : Int) != (b.length : Int)) = true := by simp; omega
  rw [this]
  cases h : eqI a b with
  | true => exact absurd (eqI_len h) hl
  | false => rfl
def cmp3 (x y : Int) : Int := if x < y then -1 else if x > y then 1 else 0
def cmpS : List D → List D → Option (Sum Int Unit)
 | [], _ => some (.inr ())
 | _ :: _, [] => some (.inl 1)
 | x :: a, y :: b => bif cmp3 x.toI y.toI != 0 then some (.inl (cmp3 x.toI y.toI)) else cmpS a b
theorem V64x0_eq (x y : Int) : V64x0 N x y = cmp3 x y := by
 unfold cmp3 V64x0 F64x0 V85x0 F85x0
 simp only [bnd_eq, bne_self_eq_false, _root_.cond_false]
 by_cases h : x < y
 ·rw [decide_eq_true h, if_pos h]; rfl
 ·rw [decide_eq_false h, if_neg h]
  by_cases h2 : x > y
  ·rw [decide_eq_true h2, if_pos h2]; rfl
  ·rw [decide_eq_false h2, if_neg h2]; rfl
theorem cmpS_eq : ∀ {a b : List D}, (bif inlB (cmpS a b) then some (inlV (cmpS a b)) else bif (inrQ (cmpS a b)).isSome then (bif decide ((a.length : Int) < (b.length : Int)) then some (-1) else some 0) else none) = some (cmpL (a.map D.toI) (b.map D.toI))
 | [], [] => rfl
 | [], y :: b => by
  rw [decide_eq_true (show (([] : List D).length : Int) < ((y :: b).length : Int) by simp)]
  rfl
 | x :: a, [] => rfl
 | x :: a, y :: b => by
  have ih := cmpS_eq (a := a) (b := b)
  rw [show decide (((x :: a).length : Int) < ((y :: b).length : Int)) = decide ((a.length : Int) < (b.length : Int)) by rw [decide_eq_decide]; simp]
  rw [show ∀ x a y b, cmpS (x :: a) (y :: b) = bif cmp3 x.toI y.toI != 0 then some (.inl (cmp3 x.toI y.toI)) else cmpS a b from fun _ _ _ _ => rfl, List.map_cons, List.map_cons]
  unfold cmpL cmp3
  by_cases h : x.toI < y.toI
  ·rw [if_pos h, if_pos h]; rfl
  ·rw [if_neg h, if_neg h]
   by_cases h2 : x.toI > y.toI
   ·rw [if_pos h2, if_pos h2]; rfl
   ·rw [if_neg h2, if_neg h2]
    exact ih
theorem G31x0_eq (hN : maxLen < N) {a b : List D} (ha : a.length ≤ maxLen) : G31x0 N a b = some (cmpL (a.map D.toI) (b.map D.toI)) := by
 have e : G31x0x6 N b a a.length 0 = cmpS a b := by
  unfold G31x0x6
  refine (for_ind (xs := a) (.i 0 : D) (S := fun w kr => S31x0x6 N b a a.length w kr _ _) (L := fun m w => L31x0x6 N b a a.length m w _ _) (fun m w => rfl) (fun w l => cmpS l (b.drop w.toNat)) ha ?_ ?_ hN).trans ?_
  ·intro kr; simp [S31x0x6, cmpS]
  ·intro w kr h0 h1 hw hi hk
   simp only [S31x0x6, decide_eq_true h1, _root_.cond_true, hi, bnd_eq, hw, hk]
   by_cases hb : w < b.length
   ·rw [decide_eq_false (show ¬ w ≥ b.length by omega), inB_of h0 hb, drop_at (xs := b) (.i 0) h0 hb]
    rw [V64x0_eq]
    rfl
   ·rw [decide_eq_true (show w ≥ b.length by omega), drop_end hb]
    rfl
  ·simp
 unfold G31x0 F31x0
 rw [e]
 simp only [bnd_eq]
 exact cmpS_eq
/-- Does a plan begin with what was done? -/
def begB (plan done : List D) : Bool := decide (done.length ≤ plan.length) && eqI (plan.take done.length) done
theorem G29x0_eq (hN : maxLen < N) {plan done : List D} (hp : plan.length ≤ maxLen) : G29x0 N plan done = some (begB plan done) := by
 unfold G29x0 F29x0 G29x0x4 F29x0x4 begB
 have h15 := G15x0_eq hN (a := plan.take done.length) (b := done) (by rw [List.length_take]; omega)
 by_cases h : done.length ≤ plan.length
 ·rw [decide_eq_true (show (done.length : Int) ≤ (plan.length : Int) by omega), decide_eq_true (show (0 : Int) ≤ (done.length : Int) by omega), decide_eq_true h, Int.toNat_natCast, List.drop_zero, h15]
  rfl
 ·rw [decide_eq_false (show ¬ (done.length : Int) ≤ (plan.length : Int) by omega), decide_eq_false h]
  simp [bnd_eq]
theorem begB_iff {plan done : List D} : begB plan done = true ↔ done.length ≤ plan.length ∧ ∀ j, j < done.length → (done.getD j (.i 0)).toI = pN plan j := by
 unfold begB
 rw [Bool.and_eq_true, decide_eq_true_eq, eqI_iff]
 refine ⟨fun h => ⟨h.1, fun j hj => ?_⟩, fun h => ⟨h.1, List.ext_getElem (by simp; omega) fun j h1 h2 => ?_⟩⟩
 ·have e := congrArg (fun l => l.getD j 0) h.2
  have hj2 : j < plan.length := by omega
  simp only [List.getD_eq_getElem?_getD, List.getElem?_map, List.getElem?_take, if_pos hj, List.getElem?_eq_getElem hj, List.getElem?_eq_getElem hj2, Option.map_some, Option.getD_some] at e
  rw [← pN_at hj2, List.getD_eq_getElem?_getD, List.getD_eq_getElem?_getD, List.getElem?_eq_getElem hj, List.getElem?_eq_getElem hj2]
  exact e.symm
 ·have hj : j < done.length := by simpa using h2
  have hj2 : j < plan.length := by omega
  have e := h.2 j hj
  rw [← pN_at hj2, List.getD_eq_getElem?_getD, List.getD_eq_getElem?_getD, List.getElem?_eq_getElem hj, List.getElem?_eq_getElem hj2] at e
  simp only [List.getElem_map, List.getElem_take]
  exact e.symm
section
variable {first days before : Int} {ses rules done plan : List D}
theorem plan_ok (hn : NamesOk ses) (h : (planE first days before ses rules plan != 0) = false) : Good first days before ses rules ∧ DoneOk ses plan ∧ (plan.length : Int) = days := by
 unfold planE at h
 cases h1 : doneE first days before ses rules plan != 0 with
 | true => rw [h1] at h; simp only [_root_.cond_true] at h; rw [h1] at h; cases h
 | false =>
  rw [h1] at h
  obtain ⟨hg, hp⟩ := good_done hn h1
  refine ⟨hg, hp, ?_⟩
  simp only [_root_.cond_false] at h
  cases h2 : (plan.length : Int) != days with
  | true => rw [h2] at h; cases h
  | false => simpa using h2
/-- The rules that a plan breaks. -/
def brk (f : D → Bool) : Nat → List D → List Nat
 | _, [] => []
 | w, r :: l => bif f r then brk f (w + 1) l else w :: brk f (w + 1) l
theorem brk_nil {f : D → Bool} : ∀ {l : List D} {w : Nat}, (brk f w l).length = 0 ↔ l.all f = true
 | [], _ => by simp [brk]
 | r :: l, w => by
  have ih := brk_nil (f := f) (l := l) (w := w + 1)
  unfold brk
  rw [List.all_cons]
  cases f r with
  | true => simpa using ih
  | false => simp
def brokenR (first days before : Int) (ses rules plan : List D) : List D × Int :=
 bif planE first days before ses rules plan != 0 then ([], planE first days before ses rules plan) else (nums (brk (fits first days before ses plan) 0 rules), 0)
theorem G28x0_eq (hN : maxLen < N) (hs : ses.length ≤ maxLen) (hr : rules.length ≤ maxLen) (hn : NamesOk ses) (hl : plan.length ≤ maxLen) : ∃ b, G28x0 N first days before ses rules plan = some (b, brokenR first days before ses rules plan) := by
 have hM : maxLen = 9223372036854775807 := rfl
 unfold G28x0 F28x0 brokenR
 rw [G58x0_eq hN hs hr hn hl]
 simp only [bnd_eq, Option.isSome_some, getD_some, _root_.cond_true]
 cases hpe : planE first days before ses rules plan != 0 with
 | true => exact ⟨_, rfl⟩
 | false =>
  obtain ⟨hg, hp, hlen⟩ := plan_ok hn hpe
  have h12 := hg.nrules
  have key := loop_indP (A := Int × Bool × List D) (S := fun a kr => S28x0x18 N plan rules rules.length first before ses a.1 a.2.1 a.2.2 (fun x y z => kr (x, y, z)) (fun p => some p)) (L := fun k a => L28x0x18 N plan rules rules.length first before ses k a.1 a.2.1 a.2.2 (fun p => some p)) (fun k a => rfl)
   (fun a x => ∃ b, x = some (b, a.2.2 ++ nums (brk (fits first days before ses plan) a.1.toNat (rules.drop a.1.toNat))))
   (fun a => 0 ≤ a.1 ∧ a.1 ≤ rules.length ∧ (a.2.2.length : Int) ≤ a.1) (fun a => ((rules.length : Int) - a.1).toNat) (by
    rintro ⟨w, b, ol⟩ kr ⟨h0, h1, h2⟩ ih
    dsimp only at h0 h1 h2 ih ⊢
    by_cases hw : w < rules.length
    ·have ew : IntKind.wrap .i64 (w + 1) = w + 1 := small (by omega)
     have hel : rules.getD w.toNat (.i 0) ∈ rules := getD_mem _ h0 hw
     have hk := G62x0_eq hg hN hp hlen hel
     unfold rKind rDay rN rLow rHigh rName at hk
     simp only [S28x0x18, decide_eq_true hw, _root_.cond_true, inB_of h0 hw, hk, bnd_eq, Option.isSome_some, getD_some, ew, G28x0x29, F28x0x29]
     rw [drop_at (.i 0) h0 hw, show ∀ f k x l, brk f k (x :: l) = bif f x then brk f (k + 1) l else k :: brk f (k + 1) l from fun _ _ _ _ => rfl, show w.toNat + 1 = (w + 1).toNat by omega]
     show ∃ b, _ = some (b, ol ++ nums (bif allP (vP first days before ses (rules.getD w.toNat (.i 0)) plan) plan.length then _ else _))
     cases allP (vP first days before ses (rules.getD w.toNat (.i 0)) plan) plan.length with
     | false =>
      simp only [Bool.not_false, _root_.cond_true, _root_.cond_false, roomOk (show ol.length ≤ 1000 by omega), inlB_inl, inlV_inl]
      obtain ⟨b', h⟩ := ih (w + 1, false, ol ++ [.i w]) ⟨by dsimp only; omega, by dsimp only; omega, by dsimp only; simp; omega⟩ (by dsimp only; omega)
      refine ⟨b', ?_⟩
      dsimp only at h
      rw [h]
      simp only [nums, List.map_cons, List.append_assoc, List.singleton_append, Int.toNat_of_nonneg h0]
     | true =>
      simp only [Bool.not_true, _root_.cond_false, inlB_inr, inrQ_inr, Option.isSome_some, _root_.cond_true]
      exact ih (w + 1, b, ol) ⟨by dsimp only; omega, by dsimp only; omega, by dsimp only; omega⟩ (by dsimp only; omega)
    ·refine ⟨b, ?_⟩
     simp only [S28x0x18, decide_eq_false hw, _root_.cond_false]
     rw [drop_end hw]
     simp [brk, nums])
   N (0, true, []) ⟨by simp, by simp, by simp⟩ (by dsimp only; omega)
  obtain ⟨b, key⟩ := key
  refine ⟨b, ?_⟩
  dsimp only at key
  simp only [List.nil_append, Int.toNat_zero, List.drop_zero] at key
  unfold G28x0x18
  rw [key]
  rfl
/-- What a plan is worth. -/
def worthR (first days before : Int) (ses rules plan : List D) : Int × Int :=
 bif planE first days before ses rules plan != 0 then (0, planE first days before ses rules plan) else (wL ses (plan.map D.toI), 0)
theorem wsum_bd (hg : Good first days before ses rules) (hp : DoneOk ses plan) : ∀ m : Nat, 0 ≤ sumF (fun i => sWorth ses (pN plan i)) 0 m ∧ sumF (fun i => sWorth ses (pN plan i)) 0 m ≤ 1000 * m
 | 0 => by simp [sumF]
 | m + 1 => by
  have ih := wsum_bd hg hp m
  have := sWorth_in hg (pN_in hp m).2
  show 0 ≤ sumF (fun i => sWorth ses (pN plan i)) 0 m + sWorth ses (pN plan (0 + m)) ∧ sumF (fun i => sWorth ses (pN plan i)) 0 m + sWorth ses (pN plan (0 + m)) ≤ _
  rw [Nat.zero_add]
  omega
theorem G30x0_eq (hN : maxLen < N) (hs : ses.length ≤ maxLen) (hr : rules.length ≤ maxLen) (hn : NamesOk ses) (hl : plan.length ≤ maxLen) : G30x0 N first days before ses rules plan = some (worthR first days before ses rules plan) := by
 have hM : maxLen = 9223372036854775807 := rfl
 unfold G30x0 F30x0 worthR
 rw [G58x0_eq hN hs hr hn hl]
 simp only [bnd_eq, Option.isSome_some, getD_some, _root_.cond_true]
 cases hpe : planE first days before ses rules plan != 0 with
 | true => rfl
 | false =>
  obtain ⟨hg, hp, hlen⟩ := plan_ok hn hpe
  have hgd := hg.gdays
  have key := loop_indP (A := Int × Int) (S := fun a kr => S30x0x18 N plan plan.length ses a.1 a.2 (fun x y => kr (x, y)) (fun p => some p)) (L := fun k a => L30x0x18 N plan plan.length ses k a.1 a.2 (fun p => some p)) (fun k a => rfl)
   (fun a x => a.1 = sumF (fun i => sWorth ses (pN plan i)) 0 a.2.toNat → x = some (sumF (fun i => sWorth ses (pN plan i)) 0 plan.length))
   (fun a => 0 ≤ a.2 ∧ a.2 ≤ plan.length) (fun a => plan.length - a.2.toNat) (by
    rintro ⟨c, w⟩ kr ⟨h0, h1⟩ ih h3
    dsimp only at h0 h1 h3 ih ⊢
    obtain ⟨i, rfl⟩ := Int.eq_ofNat_of_zero_le h0
    rw [Int.toNat_natCast] at h3
    subst h3
    by_cases hw : i < plan.length
    ·have ew : IntKind.wrap .i64 ((i : Int) + 1) = ((i + 1 : Nat) : Int) := small (by omega)
     have hb := wsum_bd hg hp i
     have hti := sWorth_in hg (pN_in hp i).2
     simp only [S30x0x18, decide_eq_true (show (i : Int) < plan.length by omega), _root_.cond_true, inB_of (show (0 : Int) ≤ i by omega) (show (i : Int) < plan.length by omega), Int.toNat_natCast, pN_at hw, G63x0_eq (pN_in hp i).2, bnd_eq, Option.isSome_some, getD_some, ew, small (show -1000000000000 ≤ sumF (fun i => sWorth ses (pN plan i)) 0 i + sWorth ses (pN plan i) ∧ sumF (fun i => sWorth ses (pN plan i)) 0 i + sWorth ses (pN plan i) ≤ 1000000000000 by omega)]
     refine ih (_, ((i + 1 : Nat) : Int)) ⟨by dsimp only; omega, by dsimp only; omega⟩ (by dsimp only; omega) ?_
     dsimp only
     rw [Int.toNat_natCast]
     show _ = sumF (fun i => sWorth ses (pN plan i)) 0 i + sWorth ses (pN plan (0 + i))
     rw [Nat.zero_add]
    ·have : i = plan.length := by omega
     subst this
     simp only [S30x0x18, decide_eq_false (show ¬ (plan.length : Int) < plan.length by omega), _root_.cond_false])
   N (0, 0) ⟨by simp, by simp⟩ (by dsimp only; omega) rfl
  dsimp only at key
  unfold G30x0x18
  rw [key, ← wL_run, runs_plan]
  rfl
end
end Go.Proofs.Ytefmjfcdgadggaa

namespace Go.Proofs.Ytefmjfcdgadggaa
open Go Go.AM
set_option maxRecDepth 100000
set_option maxHeartbeats 4000000
variable {N : Nat}
theorem path_in {acc : List Int → Int → Bool} {ses done : List D} (hdo : DoneOk ses done) : ∀ {m : Nat} {h l : List Int}, PathOk acc ses done m h l → ∀ x ∈ l, -1 ≤ x ∧ x < ses.length
 | 0, h, l, hl => by unfold PathOk at hl; subst hl; intro x hx; simp at hx
 | m + 1, h, l, hl => by
  obtain ⟨k, l', rfl, hn, _, hl'⟩ := hl
  intro x hx
  rcases List.mem_cons.1 hx with rfl | hx
  ·exact ns_in hdo (by omega) hn
  ·exact path_in hdo hl' x hx
section
variable {first days before : Int} {ses rules done plan : List D} {nb rb fb ab : Bool}
theorem planE_of (h : (doneE first days before ses rules done != 0) = false) (hp : DoneOk ses plan) (hl : (plan.length : Int) = days) : planE first days before ses rules plan = 0 := by
 have hc : (chk first days before ses rules != 0) = false := by
  unfold doneE at h
  cases hc : chk first days before ses rules != 0 with
  | true => rw [hc] at h; simp only [_root_.cond_true] at h; rw [hc] at h; cases h
  | false => rfl
 have hd : doneE first days before ses rules plan = 0 := by
  unfold doneE doneB
  rw [hc, decide_eq_true (show (plan.length : Int) ≤ days by omega)]
  rw [show plan.all (fun x => !out x.toI (-1) ((ses.length : Int) - 1)) = true by
   rw [List.all_eq_true]
   intro x hx
   have := hp x hx
   unfold out
   rw [decide_eq_false (by omega)]; rfl]
  rfl
 unfold planE
 rw [hd, show ((plan.length : Int) != days) = false by simp [hl]]
 rfl
/-- Does a plan keep all rules, and begin with what was done? -/
def fitB (first days before : Int) (ses rules done plan : List D) : Bool := planE first days before ses rules plan == 0 && rules.all (fits first days before ses plan) && begB plan done
theorem fit_eq (hN : maxLen < N) (hp : plan.length ≤ maxLen) : G8x0x19 N done plan (brokenR first days before ses rules plan).1 (brokenR first days before ses rules plan).2 = some (fitB first days before ses rules done plan) := by
 unfold G8x0x19 F8x0x19 brokenR fitB
 rw [G29x0_eq hN hp]
 cases hpe : planE first days before ses rules plan != 0 with
 | true =>
  have : (planE first days before ses rules plan == 0) = false := by
   rw [bne] at hpe
   simpa using hpe
  simp only [_root_.cond_true, this, _root_.cond_false, Bool.false_and]
 | false =>
  have : (planE first days before ses rules plan == 0) = true := by
   rw [bne] at hpe
   simpa using hpe
  simp only [_root_.cond_false, this, beq_self_eq_true, _root_.cond_true, Bool.true_and, nums_len]
  have hb := brk_nil (f := fits first days before ses plan) (l := rules) (w := 0)
  cases ha : rules.all (fits first days before ses plan) with
  | true =>
   have := hb.2 ha
   rw [this]
   simp [bnd_eq]
  | false =>
   have : (brk (fits first days before ses plan) 0 rules).length ≠ 0 := fun h => by rw [hb.1 h] at ha; cases ha
   rw [show (((brk (fits first days before ses plan) 0 rules).length : Int) == 0) = false by rw [beq_eq_false_iff_ne]; omega]
   rfl
theorem fit_path (hn : NamesOk ses) (hdo : DoneOk ses done) (h : fitB first days before ses rules done plan = true) : PathOk (accP first days before ses rules (fun _ => false)) ses done days.toNat [] (plan.map D.toI) := by
 unfold fitB at h
 simp only [Bool.and_eq_true] at h
 have hpe : (planE first days before ses rules plan != 0) = false := by rw [bne, h.1.1]; rfl
 obtain ⟨_, hp, hl⟩ := plan_ok hn hpe
 exact (path_iff hdo hp hl).2 ⟨h.1.2, fun j _ hj => (begB_iff.1 h.2).2 j hj⟩
theorem law8 (nb rb fb : Bool) (hs : ses.length ≤ maxLen) (hr : rules.length ≤ maxLen) (hn : NamesOk ses) (hl : done.length ≤ maxLen) (hp : plan.length ≤ maxLen) : G8x0 18446744073709551616 first days before nb ses rb rules fb done plan = some true := by
 have hN : maxLen < 18446744073709551616 := by decide
 have hM : maxLen = 9223372036854775807 := rfl
 obtain ⟨b3, h3⟩ := G28x0_eq (first := first) (days := days) (before := before) (plan := plan) hN hs hr hn hp
 unfold G8x0 F8x0
 rw [G11x0_eq hN hs hr hn hl, G12x0_eq hN hs hr hn hl, h3]
 simp only [bnd_eq, Option.isSome_some, getD_some, _root_.cond_true]
 rw [fit_eq hN hp]
 unfold bestR
 cases he : doneE first days before ses rules done != 0 with
 | true => simp only [_root_.cond_true, he, G8x0x13, F8x0x13, beq_self_eq_true, bnd_eq, told_ok, Option.isSome_some, getD_some]
 | false =>
  obtain ⟨hg, hdo⟩ := good_done hn he
  have hgd := hg.gdays
  simp only [_root_.cond_false]
  cases hz : (allD first days before ses rules (fun _ => false) done []).1.1 == 0 with
  | true =>
   have hf : fitB first days before ses rules done plan = false := by
    cases hf : fitB first days before ses rules done plan with
    | false => rfl
    | true =>
     have := (path_best (fit_path hn hdo hf)).1
     have hz : (allD first days before ses rules (fun _ => false) done []).1.1 = 0 := by simpa using hz
     unfold allD at hz
     omega
   simp only [_root_.cond_true, bne_self_eq_false, _root_.cond_false, Bool.not_false, hf, Option.isSome_some, getD_some, G8x0x25, F8x0x25, bnd_eq, told_ok]
  | false =>
   have hpos : (DD (accP first days before ses rules (fun _ => false)) ses done [] days.toNat []).1.1 > 0 := by
    have := DD_nonneg (acc := accP first days before ses rules (fun _ => false)) (ses := ses) (done := done) (plan := []) days.toNat []
    have hz : (allD first days before ses rules (fun _ => false) done []).1.1 ≠ 0 := by simpa using hz
    unfold allD at hz
    omega
   obtain ⟨hbp, hbw⟩ := best_path hpos
   show _ = _
   generalize hA : (allD first days before ses rules (fun _ => false) done []).2.map D.i = bl
   have hbl : bl.map D.toI = (DD (accP first days before ses rules (fun _ => false)) ses done [] days.toNat []).2 := by rw [← hA]; exact map_toI _
   have hlen : (bl.length : Int) = days := by
    have h1 := path_len hbp
    rw [← hbl, List.length_map] at h1
    omega
   have hblo : DoneOk ses bl := fun x hx => by
    have : x.toI ∈ bl.map D.toI := List.mem_map_of_mem hx
    rw [hbl] at this
    exact path_in hdo hbp _ this
   have hpe := planE_of he hblo hlen
   rw [← hbl] at hbp
   have hpi := (path_iff hdo hblo hlen).1 hbp
   obtain ⟨b6, h6⟩ := G28x0_eq (first := first) (days := days) (before := before) (plan := bl) hN hs hr hn (by omega)
   have hbr : brokenR first days before ses rules bl = ([], 0) := by
    unfold brokenR
    rw [hpe]
    have := (brk_nil (w := 0)).2 hpi.1
    simp only [bne_self_eq_false, _root_.cond_false]
    rw [List.eq_nil_of_length_eq_zero this]
    rfl
   rw [hbr] at h6
   have hdl : done.length ≤ bl.length := by
    have hd : doneE first days before ses rules done = 0 := by simpa using he
    unfold doneE at hd
    cases hc : chk first days before ses rules != 0 with
    | true => rw [hc] at hd; simp only [_root_.cond_true] at hd; rw [hd] at hc; cases hc
    | false =>
     rw [hc] at hd
     cases hb : doneB days ses done with
     | false => rw [hb] at hd; cases hd
     | true =>
      unfold doneB at hb
      simp only [Bool.and_eq_true, decide_eq_true_eq] at hb
      omega
   have hbeg : begB bl done = true := begB_iff.2 ⟨hdl, fun j hj => hpi.2 j (by omega) hj⟩
   have h29 := G29x0_eq hN (plan := bl) (done := done) (by omega)
   rw [hbeg] at h29
   simp only [bne_self_eq_false, _root_.cond_false, Option.isSome_some, getD_some, _root_.cond_true, Bool.not_true, h6, G8x0x31, F8x0x31, h29, bnd_eq, List.length_nil, show decide (((0 : Nat) : Int) > 0) = false from rfl]
   have h41 : G8x0x41 18446744073709551616 plan bl (fitB first days before ses rules done plan) first days before ses rules = some (.inr ()) := by
    unfold G8x0x41 F8x0x41
    cases hf : fitB first days before ses rules done plan with
    | false => rfl
    | true =>
     have hfp := fit_path hn hdo hf
     obtain ⟨_, g2, g3⟩ := path_best hfp
     rw [← hbw, ← hbl] at g2
     rw [← hbw, ← hbl] at g3
     have hppe : planE first days before ses rules plan = 0 := by
      unfold fitB at hf
      simp only [Bool.and_eq_true, beq_iff_eq] at hf
      exact hf.1.1
     have w1 := G30x0_eq (first := first) (days := days) (before := before) (rules := rules) (plan := bl) hN hs hr hn (by omega)
     have w2 := G30x0_eq (first := first) (days := days) (before := before) (rules := rules) (plan := plan) hN hs hr hn hp
     unfold worthR at w1 w2
     rw [hpe] at w1
     rw [hppe] at w2
     rw [w1, w2]
     simp only [bnd_eq, bne_self_eq_false, _root_.cond_false, _root_.cond_true, Option.isSome_some, getD_some, G8x0x46, F8x0x46, G31x0_eq hN (b := bl) hp]
     rw [decide_eq_false (show ¬ wL ses (plan.map D.toI) > wL ses (bl.map D.toI) by omega)]
     simp only [_root_.cond_false]
     cases hq : wL ses (plan.map D.toI) == wL ses (bl.map D.toI) with
     | false => rfl
     | true =>
      have := g3 (by simpa using hq)
      simp only [_root_.cond_true]
      rw [decide_eq_false (show ¬ cmpL (plan.map D.toI) (bl.map D.toI) < 0 by omega)]
      rfl
   simp only [h41, inlB_inr, inrQ_inr, _root_.cond_false, Option.isSome_some, _root_.cond_true, told_ok, getD_some]
end
theorem call8 (dss : List (List D)) (h : All2 (ArgOk Try.prog 6) Try.f8.params.toList dss) : CallOk Try.prog 8 (argVs Try.prog Try.f8.params.toList dss) [] ([.c (.b true)], []) := by
 have hp : Try.f8.params.toList = [25, 26, 26] := by kernel_rfl
 rw [hp] at h ⊢
 match dss, h with
 | [d0, d1, d2], ⟨h0, h1, h2, _⟩ =>
  obtain ⟨first, days, before, n, ses, n', rules, rfl, hs⟩ := arg25 h0
  obtain ⟨f, done, rfl, _, hl, _⟩ := arg26 h1
  obtain ⟨f', plan, rfl, _, hpl, _⟩ := arg26 h2
  refine ok8x0 18446744073709551616 _ _ (A8x0 18446744073709551616 [.i first, .i days, .i before, .b n, .l ses, .b n', .l rules, .b f, .l done, .b f', .l plan]) (by kernel_rfl) _ ?_
  have e : A8x0 18446744073709551616 [.i first, .i days, .i before, .b n, .l ses, .b n', .l rules, .b f, .l done, .b f', .l plan] = bnd (G8x0 18446744073709551616 first days before n ses n' rules f done plan) fun q => [(q.isSome, ([.c (.b (q.getD default))], []))] := by kernel_rfl
  rw [e, law8 n n' f hs.ls hs.lr hs.names hl hpl]
  rfl
theorem bestis_lifted (os : Os) (started : os.Started) (H : Type) (enc : TypeId × Value → H) :
  ReturnsInHanded {} Try.checked os 8 .any (Rows.seasonBestIsBestSpec.pre6 enc Try.prog Try.f8 Rows.seasonBestIsBestRow.domain false) (Rows.seasonBestIsBestSpec.post enc Try.prog Try.f8 false true false false) := by
 refine returnsInHanded_of_change (C := Try.checked) Try.own started (by kernel_rfl) Try.func8
  (ChangeSpec.witness6 (enc := enc) (C := Try.checked) false ⟨#[], #[.agg #[.int .i64 0, .int .i64 0, .int .i64 0, .slice none 0 0, .slice none 0 0], .slice none 0 0, .slice none 0 0], []⟩ 8 (by kernel_rfl) (by kernel_rfl) (by kernel_rfl) (by kernel_rfl)) ?_
 intro W base args ds gs before hval hW _ _
 exact law_call (m := 6) (tb := 4) Try.laidOut rfl (by kernel_rfl) (by kernel_rfl) (by kernel_rfl) (fun l hl => by
  rw [show Try.f8.params.size = 3 by kernel_rfl] at hl
  match l, hl with
  | [_, _, _], _ => rfl) call8 hval hW
theorem bestis_holds : Rows.SeasonBestIsBestSaid :=
 OpenClaim.holds_of_wide 8 Try.f8 rfl rfl rfl rfl rfl rfl rfl ⟨rfl, rfl, rfl, rfl, rfl⟩ rfl rfl rfl rfl rfl (by kernel_rfl) Try.func8 (by kernel_rfl)
  (of_decide_eq_true (by kernel_rfl)) (by unfold Func.isWrapper; first | (rw [if_pos (by decide +kernel)]; kernel_rfl) | (rw [if_neg (by decide +kernel)]; exact ⟨rfl, rfl⟩))
  (fun os started H enc _ => bestis_lifted os started H enc)
end Go.Proofs.Ytefmjfcdgadggaa

