/- Proved: for every veil, veil.Check, veil.Idle and veil.Tidy answer what the reference package answers, and a small veil lets just that be seen which the document tells (VeilCheckMatchesSpec returns true and leaves its argument as it was). Conditions: none beyond those of the given statement. -/
import Derived.Test.YtngnemeafkmaoaaVPp2
import Derived.KernelRfl
import Derived.Test.YtngnemeafkmaoaaRows
set_option linter.all false
set_option maxRecDepth 100000
/-! Plain laws: record.Check, record.Same and their references (the numbers are those of the seat of chapter 2). -/
namespace Go.Proofs.Ytngnemeafkmaoaa
open Go Go.AM
set_option maxRecDepth 100000
set_option maxHeartbeats 4000000
variable {N : Nat}
/-! ### Names, ranges -/
def ltr (n : Int) : Bool := decide (97 ≤ n ∧ n ≤ 122 ∨ 65 ≤ n ∧ n ≤ 90 ∨ 48 ≤ n ∧ n ≤ 57 ∨ n = 45 ∨ n = 95 ∨ n = 46)
def nameB (s : List UInt8) : Bool := s.all (fun c => ltr (c.toNat : Int)) && decide (1 ≤ s.length ∧ s.length ≤ 60)
def inI (n a b : Int) : Bool := decide (a ≤ n ∧ n ≤ b)
theorem G46x0x6_eq (hN : maxLen < N) {s : List UInt8} (hs : s.length ≤ maxLen) : G46x0x6 N s 0 = some (bif s.all (fun c => ltr (c.toNat : Int)) then .inr () else .inl ()) := by
 unfold G46x0x6
 refine (for_ind (0 : UInt8) (S := fun w kr => S46x0x6 N s w kr _ _) (L := fun m w => L46x0x6 N s m w _ _) (fun m w => rfl) (fun _ l => some (bif l.all (fun c => ltr (c.toNat : Int)) then .inr () else .inl ())) hs ?_ ?_ hN).trans rfl
 ·intro kr; simp [S46x0x6]
 ·intro w kr h0 h1 hw hi hk
  simp only [S46x0x6, decide_eq_true h1, _root_.cond_true, hi, bnd_eq, hw, hk, List.all_cons]
  generalize ((s.getD w.toNat 0).toNat : Int) = n
  refine (cond_congr (c' := !ltr n) ?_).trans ?_
  ·rw [Bool.eq_iff_iff]; simp [ltr]; omega
  ·cases ltr n <;> rfl
theorem G46x0_eq (hN : maxLen < N) {s : List UInt8} (hs : s.length ≤ maxLen) : G46x0 N s = some (nameB s) := by
 unfold G46x0 F46x0
 rw [G46x0x6_eq hN hs]
 unfold nameB
 cases s.all (fun c => ltr (c.toNat : Int)) with
 | false => rfl
 | true =>
  simp only [bnd_eq, inlB_inr, inrQ_inr, _root_.cond_true, _root_.cond_false, Option.isSome_some, Bool.true_and]
  congr 1
  rw [Bool.eq_iff_iff]; simp; omega
theorem G82x0x6_eq (hN : maxLen < N) {s : List UInt8} (hs : s.length ≤ maxLen) : G82x0x6 N s s.length 0 = some (bif s.all (fun c => ltr (c.toNat : Int)) then .inr () else .inl ()) := by
 unfold G82x0x6
 refine (for_ind (0 : UInt8) (S := fun w kr => S82x0x6 N s s.length w kr _ _) (L := fun m w => L82x0x6 N s s.length m w _ _) (fun m w => rfl) (fun _ l => some (bif l.all (fun c => ltr (c.toNat : Int)) then .inr () else .inl ())) hs ?_ ?_ hN).trans rfl
 ·intro kr; simp [S82x0x6]
 ·intro w kr h0 h1 hw hi hk
  simp only [S82x0x6, decide_eq_true h1, _root_.cond_true, hi, bnd_eq, hw, hk, List.all_cons, V82x0x19, F82x0x19, V96x0, F96x0]
  generalize ((s.getD w.toNat 0).toNat : Int) = n
  refine (cond_congr (c' := !ltr n) ?_).trans ?_
  ·rw [Bool.eq_iff_iff]; simp [ltr]; omega
  ·cases ltr n <;> rfl
theorem G82x0_eq (hN : maxLen < N) {s : List UInt8} (hs : s.length ≤ maxLen) : G82x0 N s = some (nameB s) := by
 unfold G82x0 F82x0
 rw [G82x0x6_eq hN hs]
 unfold nameB
 cases s.all (fun c => ltr (c.toNat : Int)) with
 | false => rfl
 | true =>
  simp only [bnd_eq, inlB_inr, inrQ_inr, _root_.cond_true, _root_.cond_false, Option.isSome_some, Bool.true_and]
  congr 1
  rw [Bool.eq_iff_iff]; simp; omega
/-! ### The first fault -/
def firstE (e : Int → Int) : Int → List D → Int
 | _, [] => 0
 | w, _ :: r => bif e w != 0 then e w else firstE e (w + 1) r
def wayE (n : Int) : Sum Int Unit := bif n != 0 then .inl n else .inr ()
theorem wayE_cons {e : Int → Int} {w : Int} {x : D} {l : List D} : wayE (firstE e w (x :: l)) = bif e w != 0 then .inl (e w) else wayE (firstE e (w + 1) l) := by
 simp only [firstE]
 cases h : e w != 0 with
 | true => simp only [_root_.cond_true, wayE, h]
 | false => rfl
section
variable {xs : List D} {w : Int}
end
/-- An activity's lengths are possible. -/
structure ActOk (name : List UInt8) (smps laps tags : List D) : Prop where
 n : name.length ≤ maxLen
 s : smps.length ≤ maxLen
 l : laps.length ≤ maxLen
 t : tags.length ≤ maxLen
 ln : ∀ x ∈ laps, (x.cell 2).toS.length ≤ maxLen
 tn : ∀ x ∈ tags, x.toS.length ≤ maxLen
section
variable {name : List UInt8} {sport start : Int} {smps laps tags : List D}
end
end Go.Proofs.Ytngnemeafkmaoaa

/-! Plain laws: record.Same and its reference. -/
namespace Go.Proofs.Ytngnemeafkmaoaa
open Go Go.AM
set_option maxRecDepth 100000
set_option maxHeartbeats 4000000
variable {N : Nat}
def zipAll (f : D → D → Bool) : List D → List D → Bool
 | x :: r, y :: s => f x y && zipAll f r s
 | _, _ => true
def eqL (f : D → D → Bool) (xs ys : List D) : Bool := (xs.length == ys.length) && zipAll f xs ys
theorem zip_ind {xs ys : List D} (f : D → D → Bool) {S : Int → (Int → Option (Sum Unit Unit)) → Option (Sum Unit Unit)} {L : Nat → Int → Option (Sum Unit Unit)} (hL : ∀ m a, L (m + 1) a = S a (L m)) (hlen : xs.length ≤ maxLen) (hxy : xs.length = ys.length)
  (hend : ∀ kr, S xs.length kr = some (.inr ()))
  (hstep : ∀ (w : Int) (kr : Int → Option (Sum Unit Unit)), decide (w < xs.length) = true → inB w xs.length = true → inB w ys.length = true → S w kr = bif f (xs.getD w.toNat (.i 0)) (ys.getD w.toNat (.i 0)) then kr (IntKind.wrap .i64 (w + 1)) else some (.inl ()))
  (hN : maxLen < N) : L N 0 = some (bif zipAll f xs ys then .inr () else .inl ()) := by
 refine (for_ind (.i 0 : D) hL (fun w l => some (bif zipAll f l (ys.drop w.toNat) then .inr () else .inl ())) hlen ?_ ?_ hN).trans (by simp)
 ·intro kr; rw [hend]; simp [zipAll]
 ·intro w kr h0 h1 hw hi hk
  have h2 : w < ys.length := by omega
  rw [hstep w kr (decide_eq_true h1) hi (inB_of h0 (by omega)), hw, hk, drop_at (.i 0) (xs := ys) h0 h2]
  simp only [zipAll]
  cases f (xs.getD w.toNat (.i 0)) (ys.getD w.toNat (.i 0)) <;> rfl
section
variable {xs ys : List D}
theorem len_bne : ((xs.length : Int) != (ys.length : Int)) = !(xs.length == ys.length) := by
 rw [Bool.eq_iff_iff]; simp; omega
end
section
variable {n n' : List UInt8} {sp st sp' st' : Int} {s l t s' l' t' : List D}
theorem zipAll_refl {f : D → D → Bool} (hf : ∀ x, f x x = true) : ∀ l, zipAll f l l = true
 | [] => rfl
 | x :: r => by simp only [zipAll, hf, zipAll_refl hf r, Bool.and_self]
theorem eqL_refl {f : D → D → Bool} (hf : ∀ x, f x x = true) (l : List D) : eqL f l l = true := by
 unfold eqL; rw [zipAll_refl hf]; simp
end
end Go.Proofs.Ytngnemeafkmaoaa

/-! Plain laws of chapter 10: rules, veils. -/
namespace Go.Proofs.Ytngnemeafkmaoaa
open Go Go.AM
set_option maxRecDepth 100000
set_option maxHeartbeats 4000000
variable {N : Nat}
theorem V64x0_eq (n a b : Int) : V64x0 N n a b = inI n a b := by
 unfold V64x0 F64x0 inI
 rw [Bool.eq_iff_iff]; simp
theorem V73x0_eq (n a b : Int) : V73x0 N n a b = !inI n a b := by
 unfold V73x0 F73x0 inI
 rw [Bool.eq_iff_iff]; simp <;> omega
/-- What is asked of the fields that a kind does not use. -/
def zeroB (kd x y r hf ht n : Int) (s : List UInt8) : Bool :=
 (kd == 1 || (x == 0 && y == 0 && r == 0)) && (kd == 2 || (hf == 0 && ht == 0)) && (kd == 3 || kd == 5 || kd == 8 || n == 0) && (kd == 4 || s == [])
/-- The fault of what a kind uses. -/
def kindE (kd x y r hf ht n : Int) (s : List UInt8) : Int :=
 bif kd == 1 then (bif inI x (-100000000) 100000000 && inI y (-100000000) 100000000 && inI r 0 1000000 then 0 else 9)
 else bif kd == 2 then (bif decide (hf < 0) || decide (hf > ht) || decide (ht ≥ 86400) then 9 else 0)
 else bif kd == 3 then (bif inI n 1 4 then 0 else 9)
 else bif kd == 8 then (bif inI n 1 1000000 then 0 else 9)
 else bif kd == 5 then (bif inI n 1 5 then 0 else 7)
 else bif kd == 4 then (bif nameB s then 0 else 8) else 0
def ruleE (fr kd x y r hf ht n : Int) (s : List UInt8) : Int :=
 bif !inI kd 1 8 then 7 else bif !inI fr 1 3 then 9 else bif kindE kd x y r hf ht n s != 0 then kindE kd x y r hf ht n s else bif zeroB kd x y r hf ht n s then 0 else 2
theorem kd_cases {kd : Int} (h : inI kd 1 8 = true) : kd = 1 ∨ kd = 2 ∨ kd = 3 ∨ kd = 4 ∨ kd = 5 ∨ kd = 6 ∨ kd = 7 ∨ kd = 8 := by
 have := of_decide_eq_true h
 omega
section
variable {fr kd x y r hf ht n : Int} {s : List UInt8}
theorem G58x0_eq (hN : maxLen < N) (hs : s.length ≤ maxLen) : G58x0 N fr kd x y r hf ht n s = some (ruleE fr kd x y r hf ht n s) := by
 unfold G58x0 F58x0
 simp only [bnd_eq, V64x0_eq]
 unfold ruleE
 cases hk : inI kd 1 8 with
 | false => rfl
 | true =>
 cases hfr : inI fr 1 3 with
 | false => rfl
 | true =>
 unfold kindE zeroB
 rcases kd_cases hk with rfl | rfl | rfl | rfl | rfl | rfl | rfl | rfl
 ·unfold G58x0x36029 F58x0x36029 V58x0x28 F58x0x28
  simp only [bnd_eq, V64x0_eq, beq_self_eq_true, Int.reduceBEq, _root_.cond_true, _root_.cond_false]
  cases inI x (-100000000) 100000000 <;> cases inI y (-100000000) 100000000 <;> cases inI r 0 1000000 <;> (try rfl) <;> simp only [inlB_inl, inlB_inr, inlV_inl, inrQ_inr, Option.isSome_some, getD_some, _root_.cond_true, _root_.cond_false, Bool.not_true, Bool.not_false] <;> cases hf == 0 <;> cases ht == 0 <;> cases n == 0 <;> cases s == [] <;> rfl
 ·unfold G58x0x36029 F58x0x36029 G58x0x48041 F58x0x48041
  simp only [bnd_eq, beq_self_eq_true, Int.reduceBEq, _root_.cond_true, _root_.cond_false]
  cases decide (hf < 0) <;> cases decide (hf > ht) <;> cases decide (ht ≥ 86400) <;> (try rfl) <;> simp only [inlB_inl, inlB_inr, inlV_inl, inrQ_inr, Option.isSome_some, getD_some, _root_.cond_true, _root_.cond_false, Bool.not_true, Bool.not_false] <;> cases x == 0 <;> cases y == 0 <;> cases r == 0 <;> cases n == 0 <;> cases s == [] <;> rfl
 ·unfold G58x0x36029 F58x0x36029 G58x0x48041 F58x0x48041 G58x0x60053 F58x0x60053
  simp only [bnd_eq, V64x0_eq, beq_self_eq_true, Int.reduceBEq, _root_.cond_true, _root_.cond_false]
  cases inI n 1 4 <;> (try rfl) <;> simp only [inlB_inl, inlB_inr, inlV_inl, inrQ_inr, Option.isSome_some, getD_some, _root_.cond_true, _root_.cond_false, Bool.not_true, Bool.not_false] <;> cases hf == 0 <;> cases ht == 0 <;> cases x == 0 <;> cases y == 0 <;> cases r == 0 <;> cases s == [] <;> rfl
 ·unfold G58x0x36029 F58x0x36029 G58x0x48041 F58x0x48041 G58x0x60053 F58x0x60053 G58x0x72065 F58x0x72065 G58x0x84077 F58x0x84077 G58x0x89 F58x0x89
  simp only [bnd_eq, V64x0_eq, G82x0_eq hN hs, beq_self_eq_true, Int.reduceBEq, _root_.cond_true, _root_.cond_false]
  cases nameB s <;> (try rfl) <;> simp only [inlB_inl, inlB_inr, inlV_inl, inrQ_inr, Option.isSome_some, getD_some, _root_.cond_true, _root_.cond_false, Bool.not_true, Bool.not_false] <;> cases hf == 0 <;> cases ht == 0 <;> cases x == 0 <;> cases y == 0 <;> cases r == 0 <;> cases n == 0 <;> rfl
 ·unfold G58x0x36029 F58x0x36029 G58x0x48041 F58x0x48041 G58x0x60053 F58x0x60053 G58x0x72065 F58x0x72065 G58x0x84077 F58x0x84077
  simp only [bnd_eq, V64x0_eq, beq_self_eq_true, Int.reduceBEq, _root_.cond_true, _root_.cond_false]
  cases inI n 1 5 <;> (try rfl) <;> simp only [inlB_inl, inlB_inr, inlV_inl, inrQ_inr, Option.isSome_some, getD_some, _root_.cond_true, _root_.cond_false, Bool.not_true, Bool.not_false] <;> cases hf == 0 <;> cases ht == 0 <;> cases x == 0 <;> cases y == 0 <;> cases r == 0 <;> cases s == [] <;> rfl
 ·unfold G58x0x36029 F58x0x36029 G58x0x48041 F58x0x48041 G58x0x60053 F58x0x60053 G58x0x72065 F58x0x72065 G58x0x84077 F58x0x84077 G58x0x89 F58x0x89
  simp only [bnd_eq, V64x0_eq, beq_self_eq_true, Int.reduceBEq, _root_.cond_true, _root_.cond_false]
  simp only [inlB_inl, inlB_inr, inlV_inl, inrQ_inr, Option.isSome_some, getD_some, _root_.cond_true, _root_.cond_false, Bool.not_true, Bool.not_false]
  cases hf == 0 <;> cases ht == 0 <;> cases x == 0 <;> cases y == 0 <;> cases r == 0 <;> cases n == 0 <;> cases s == [] <;> rfl
 ·unfold G58x0x36029 F58x0x36029 G58x0x48041 F58x0x48041 G58x0x60053 F58x0x60053 G58x0x72065 F58x0x72065 G58x0x84077 F58x0x84077 G58x0x89 F58x0x89
  simp only [bnd_eq, V64x0_eq, beq_self_eq_true, Int.reduceBEq, _root_.cond_true, _root_.cond_false]
  simp only [inlB_inl, inlB_inr, inlV_inl, inrQ_inr, Option.isSome_some, getD_some, _root_.cond_true, _root_.cond_false, Bool.not_true, Bool.not_false]
  cases hf == 0 <;> cases ht == 0 <;> cases x == 0 <;> cases y == 0 <;> cases r == 0 <;> cases n == 0 <;> cases s == [] <;> rfl
 ·unfold G58x0x36029 F58x0x36029 G58x0x48041 F58x0x48041 G58x0x60053 F58x0x60053 G58x0x72065 F58x0x72065
  simp only [bnd_eq, V64x0_eq, beq_self_eq_true, Int.reduceBEq, _root_.cond_true, _root_.cond_false]
  cases inI n 1 1000000 <;> (try rfl) <;> simp only [inlB_inl, inlB_inr, inlV_inl, inrQ_inr, Option.isSome_some, getD_some, _root_.cond_true, _root_.cond_false, Bool.not_true, Bool.not_false] <;> cases hf == 0 <;> cases ht == 0 <;> cases x == 0 <;> cases y == 0 <;> cases r == 0 <;> cases s == [] <;> rfl
theorem beq_c (a b : Int) : (a == b) = (b == a) := by rw [Bool.eq_iff_iff]; simp; exact eq_comm
theorem beq_cs (a b : List UInt8) : (a == b) = (b == a) := by rw [Bool.eq_iff_iff]; simp; exact eq_comm
theorem G59x0_eq (hN : maxLen < N) (hs : s.length ≤ maxLen) : G59x0 N fr kd x y r hf ht n s = some (ruleE fr kd x y r hf ht n s) := by
 unfold G59x0 F59x0
 simp only [bnd_eq, V73x0_eq]
 unfold ruleE
 cases hk : inI kd 1 8 with
 | false => rfl
 | true =>
 cases hfr : inI fr 1 3 with
 | false => rfl
 | true =>
 unfold kindE zeroB V59x0x27026 F59x0x27026 V83x0 F83x0 V83x0x15014 F83x0x15014 V59x0x52 F59x0x52 G59x0x58 F59x0x58
 rcases kd_cases hk with rfl | rfl | rfl | rfl | rfl | rfl | rfl | rfl
 ·unfold V59x0x25 F59x0x25
  simp only [bnd_eq, V73x0_eq, beq_self_eq_true, Int.reduceBEq, _root_.cond_true, _root_.cond_false, beq_c 0, beq_cs []]
  cases inI x (-100000000) 100000000 <;> cases inI y (-100000000) 100000000 <;> cases inI r 0 1000000 <;> (try rfl) <;> simp only [inlB_inl, inlB_inr, inlV_inl, inrQ_inr, Option.isSome_some, getD_some, _root_.cond_true, _root_.cond_false, Bool.not_true, Bool.not_false] <;> cases hf == 0 <;> cases ht == 0 <;> cases n == 0 <;> cases s == [] <;> rfl
 ·unfold V59x0x33032 F59x0x33032 V83x0x21020 F83x0x21020
  simp only [bnd_eq, beq_self_eq_true, Int.reduceBEq, _root_.cond_true, _root_.cond_false, beq_c 0, beq_cs []]
  cases decide (hf < 0) <;> cases decide (hf > ht) <;> cases decide (ht ≥ 86400) <;> (try rfl) <;> simp only [inlB_inl, inlB_inr, inlV_inl, inrQ_inr, Option.isSome_some, getD_some, _root_.cond_true, _root_.cond_false, Bool.not_true, Bool.not_false] <;> cases x == 0 <;> cases y == 0 <;> cases r == 0 <;> cases n == 0 <;> cases s == [] <;> rfl
 ·unfold V59x0x33032 F59x0x33032 V59x0x39038 F59x0x39038 V83x0x21020 F83x0x21020 V83x0x24002 F83x0x24002 V83x0x33032 F83x0x33032
  simp only [bnd_eq, V73x0_eq, beq_self_eq_true, Int.reduceBEq, _root_.cond_true, _root_.cond_false, beq_c 0, beq_cs []]
  cases inI n 1 4 <;> (try rfl) <;> simp only [inlB_inl, inlB_inr, inlV_inl, inrQ_inr, Option.isSome_some, getD_some, _root_.cond_true, _root_.cond_false, Bool.not_true, Bool.not_false] <;> cases hf == 0 <;> cases ht == 0 <;> cases x == 0 <;> cases y == 0 <;> cases r == 0 <;> cases s == [] <;> rfl
 ·unfold V59x0x33032 F59x0x33032 V59x0x39038 F59x0x39038 V59x0x44 F59x0x44 V83x0x21020 F83x0x21020 V83x0x24002 F83x0x24002 V83x0x33032 F83x0x33032 V83x0x27002 F83x0x27002 V83x0x38 F83x0x38
  simp only [bnd_eq, V73x0_eq, beq_self_eq_true, Int.reduceBEq, _root_.cond_true, _root_.cond_false, beq_c 0, beq_cs [], G46x0_eq hN hs]
  cases nameB s <;> (try rfl) <;> simp only [inlB_inl, inlB_inr, inlV_inl, inrQ_inr, Option.isSome_some, getD_some, _root_.cond_true, _root_.cond_false, Bool.not_true, Bool.not_false] <;> cases hf == 0 <;> cases ht == 0 <;> cases x == 0 <;> cases y == 0 <;> cases r == 0 <;> cases n == 0 <;> rfl
 ·unfold V59x0x33032 F59x0x33032 V59x0x39038 F59x0x39038 V59x0x44 F59x0x44 V83x0x21020 F83x0x21020 V83x0x24002 F83x0x24002 V83x0x33032 F83x0x33032 V83x0x27002 F83x0x27002
  simp only [bnd_eq, V73x0_eq, beq_self_eq_true, Int.reduceBEq, _root_.cond_true, _root_.cond_false, beq_c 0, beq_cs []]
  cases inI n 1 5 <;> (try rfl) <;> simp only [inlB_inl, inlB_inr, inlV_inl, inrQ_inr, Option.isSome_some, getD_some, _root_.cond_true, _root_.cond_false, Bool.not_true, Bool.not_false] <;> cases hf == 0 <;> cases ht == 0 <;> cases x == 0 <;> cases y == 0 <;> cases r == 0 <;> cases s == [] <;> rfl
 ·unfold V59x0x33032 F59x0x33032 V59x0x39038 F59x0x39038 V59x0x44 F59x0x44 V83x0x21020 F83x0x21020 V83x0x24002 F83x0x24002 V83x0x33032 F83x0x33032 V83x0x27002 F83x0x27002 V83x0x38 F83x0x38
  simp only [bnd_eq, beq_self_eq_true, Int.reduceBEq, _root_.cond_true, _root_.cond_false, beq_c 0, beq_cs []]
  simp only [inlB_inl, inlB_inr, inlV_inl, inrQ_inr, Option.isSome_some, getD_some, _root_.cond_true, _root_.cond_false, Bool.not_true, Bool.not_false]
  cases hf == 0 <;> cases ht == 0 <;> cases x == 0 <;> cases y == 0 <;> cases r == 0 <;> cases n == 0 <;> cases s == [] <;> rfl
 ·unfold V59x0x33032 F59x0x33032 V59x0x39038 F59x0x39038 V59x0x44 F59x0x44 V83x0x21020 F83x0x21020 V83x0x24002 F83x0x24002 V83x0x33032 F83x0x33032 V83x0x27002 F83x0x27002 V83x0x38 F83x0x38
  simp only [bnd_eq, beq_self_eq_true, Int.reduceBEq, _root_.cond_true, _root_.cond_false, beq_c 0, beq_cs []]
  simp only [inlB_inl, inlB_inr, inlV_inl, inrQ_inr, Option.isSome_some, getD_some, _root_.cond_true, _root_.cond_false, Bool.not_true, Bool.not_false]
  cases hf == 0 <;> cases ht == 0 <;> cases x == 0 <;> cases y == 0 <;> cases r == 0 <;> cases n == 0 <;> cases s == [] <;> rfl
 ·unfold V59x0x33032 F59x0x33032 V59x0x39038 F59x0x39038 V59x0x44 F59x0x44 V83x0x21020 F83x0x21020 V83x0x24002 F83x0x24002 V83x0x33032 F83x0x33032 V83x0x27002 F83x0x27002
  simp only [bnd_eq, V73x0_eq, beq_self_eq_true, Int.reduceBEq, _root_.cond_true, _root_.cond_false, beq_c 0, beq_cs []]
  cases inI n 1 1000000 <;> (try rfl) <;> simp only [inlB_inl, inlB_inr, inlV_inl, inrQ_inr, Option.isSome_some, getD_some, _root_.cond_true, _root_.cond_false, Bool.not_true, Bool.not_false] <;> cases hf == 0 <;> cases ht == 0 <;> cases x == 0 <;> cases y == 0 <;> cases r == 0 <;> cases s == [] <;> rfl
end
theorem told_ok : G12x0 18446744073709551616 = some true := by kernel_rfl
end Go.Proofs.Ytngnemeafkmaoaa

/-! Plain laws of chapter 10: Check, covers, Idle, Tidy. -/
namespace Go.Proofs.Ytngnemeafkmaoaa
open Go Go.AM
set_option maxRecDepth 100000
set_option maxHeartbeats 4000000
variable {N : Nat}
/-- A loop over a list's places that carries something along. -/
theorem fold_ind {α A X : Type} {xs : List α} (d : α) {S : Int → A → (Int → A → X) → X} {L : Nat → Int → A → X} (hL : ∀ m w a, L (m + 1) w a = S w a (L m)) (spec : Int → List α → A → X) (Inv : Int → A → Prop) (hlen : xs.length ≤ maxLen)
  (hend : ∀ a kr, Inv xs.length a → S xs.length a kr = spec xs.length [] a)
  (hstep : ∀ (w : Int) (a : A) (kr : Int → A → X), 0 ≤ w → w < xs.length → IntKind.wrap .i64 (w + 1) = w + 1 → inB w xs.length = true → Inv w a → (∀ a', Inv (w + 1) a' → kr (w + 1) a' = spec (w + 1) (xs.drop (w + 1).toNat) a') → S w a kr = spec w (xs.getD w.toNat d :: xs.drop (w + 1).toNat) a)
  (hN : maxLen < N) {a : A} (h0 : Inv 0 a) : L N 0 a = spec 0 xs a := by
 have hm : maxLen = 9223372036854775807 := rfl
 have := loop_ind (A := Int × A) (X := X) (S := fun p kr => S p.1 p.2 (fun w a => kr (w, a))) (L := fun m p => L m p.1 p.2) (fun m p => hL m p.1 p.2) (fun p => spec p.1 (xs.drop p.1.toNat) p.2) (fun p => 0 ≤ p.1 ∧ p.1 ≤ xs.length ∧ Inv p.1 p.2) (fun p => (xs.length - p.1).toNat) (fun ⟨w, a⟩ kr ⟨h0, h1, hi⟩ ih => by
  simp only at h0 h1 hi ih ⊢
  by_cases hw : w < xs.length
  ·rw [drop_at d h0 hw]
   exact hstep w a _ h0 hw (wrapI (by omega) (by omega)) (inB_of h0 hw) hi fun a' ha' => ih (w + 1, a') ⟨by simp only; omega, by simp only; omega, ha'⟩ (by simp only; omega)
  ·have : w = xs.length := by omega
   subst this
   rw [drop_end (by omega)]
   exact hend a _ hi) N (0, a) ⟨Int.le_refl _, by simp only; omega, h0⟩ (by simp only; omega)
 simpa using this
/-! ### Rules -/
abbrev rFrom (x : D) : Int := (x.cell 0).toI
abbrev rKind (x : D) : Int := (x.cell 1).toI
abbrev rX (x : D) : Int := (x.cell 2).toI
abbrev rY (x : D) : Int := (x.cell 3).toI
abbrev rR (x : D) : Int := (x.cell 4).toI
abbrev rHf (x : D) : Int := (x.cell 5).toI
abbrev rHt (x : D) : Int := (x.cell 6).toI
abbrev rN (x : D) : Int := (x.cell 7).toI
abbrev rT (x : D) : List UInt8 := (x.cell 8).toS
def ruleD (x : D) : Int := ruleE (rFrom x) (rKind x) (rX x) (rY x) (rR x) (rHf x) (rHt x) (rN x) (rT x)
def chkV (xs : List D) : Int := bif decide ((xs.length : Int) > 50) then 3 else firstE (fun w => ruleD (xs.getD w.toNat (.i 0))) 0 xs
structure VeilOk (xs : List D) : Prop where
 l : xs.length ≤ maxLen
 t : ∀ x ∈ xs, (rT x).length ≤ maxLen
theorem getD_mem {xs : List D} {w : Int} (h0 : 0 ≤ w) (h1 : w < xs.length) : xs.getD w.toNat (.i 0) ∈ xs := by
 rw [List.getD_eq_getElem?_getD, List.getElem?_eq_getElem (by omega)]; exact List.getElem_mem _
section
variable {xs : List D}
theorem G32x0x12_eq (hN : maxLen < N) (h : VeilOk xs) : G32x0x12 N xs xs.length 0 = some (wayE (firstE (fun w => ruleD (xs.getD w.toNat (.i 0))) 0 xs)) := by
 unfold G32x0x12
 refine (for_ind (.i 0 : D) (S := fun w kr => S32x0x12 N xs xs.length w kr _ _) (L := fun m w => L32x0x12 N xs xs.length m w _ _) (fun m w => rfl) (fun w l => some (wayE (firstE (fun w => ruleD (xs.getD w.toNat (.i 0))) w l))) h.l ?_ ?_ hN).trans rfl
 ·intro kr; simp [S32x0x12, firstE, wayE]
 ·intro w kr h0 h1 hw hi hk
  simp only [S32x0x12, decide_eq_true h1, _root_.cond_true, hi, bnd_eq, hw, hk, G58x0_eq hN (h.t _ (getD_mem h0 h1)), Option.isSome_some, getD_some, wayE_cons]
  unfold ruleD
  generalize ruleE _ _ _ _ _ _ _ _ _ = e
  cases e != 0 <;> rfl
theorem G33x0x12_eq (hN : maxLen < N) (h : VeilOk xs) : G33x0x12 N xs xs.length 0 = some (wayE (firstE (fun w => ruleD (xs.getD w.toNat (.i 0))) 0 xs)) := by
 unfold G33x0x12
 refine (for_ind (.i 0 : D) (S := fun w kr => S33x0x12 N xs xs.length w kr _ _) (L := fun m w => L33x0x12 N xs xs.length m w _ _) (fun m w => rfl) (fun w l => some (wayE (firstE (fun w => ruleD (xs.getD w.toNat (.i 0))) w l))) h.l ?_ ?_ hN).trans rfl
 ·intro kr; simp [S33x0x12, firstE, wayE]
 ·intro w kr h0 h1 hw hi hk
  simp only [S33x0x12, decide_eq_true h1, _root_.cond_true, hi, bnd_eq, hw, hk, G59x0_eq hN (h.t _ (getD_mem h0 h1)), Option.isSome_some, getD_some, wayE_cons]
  unfold ruleD
  generalize ruleE _ _ _ _ _ _ _ _ _ = e
  cases e != 0 <;> rfl
theorem way_chk (b : Bool) (e : Int) : (bif b then some (3 : Int) else bif inlB (some (wayE e)) then some (inlV (some (wayE e))) else bif (inrQ (some (wayE e))).isSome then some 0 else none) = some (bif b then 3 else e) := by
 unfold wayE
 cases b with
 | true => rfl
 | false =>
  cases h : e != 0 with
  | true => rfl
  | false => simp only [bne_eq_false_iff_eq] at h; subst h; rfl
theorem G32x0_eq (hN : maxLen < N) (h : VeilOk xs) : G32x0 N xs = some (chkV xs) := by
 unfold G32x0 F32x0 chkV
 simp only [bnd_eq, G32x0x12_eq hN h]
 exact way_chk _ _
theorem G33x0_eq (hN : maxLen < N) (h : VeilOk xs) : G33x0 N xs = some (chkV xs) := by
 unfold G33x0 F33x0 chkV
 simp only [bnd_eq, G33x0x12_eq hN h]
 exact way_chk _ _
theorem firstE_zero {e : Int → Int} : ∀ {l : List D} {w : Int}, firstE e w l = 0 → ∀ i : Nat, i < l.length → e (w + i) = 0
 | [], _, _, i, hi => by simp at hi
 | _ :: r, w, h, i, hi => by
  simp only [firstE] at h
  cases he : e w != 0 with
  | true => rw [he] at h; simp only [_root_.cond_true] at h; rw [h] at he; cases he
  | false =>
   rw [he] at h
   simp only [_root_.cond_false] at h
   simp only [bne_eq_false_iff_eq] at he
   cases i with
   | zero => simpa using he
   | succ i =>
    have := firstE_zero h i (by simpa using hi)
    rw [show w + ((i + 1 : Nat) : Int) = w + 1 + (i : Int) by omega]
    exact this
/-- A right veil. -/
structure VeilRight (xs : List D) : Prop where
 l : xs.length ≤ 50
 r : ∀ w : Int, 0 ≤ w → w < xs.length → ruleD (xs.getD w.toNat (.i 0)) = 0
theorem right_of (h : chkV xs = 0) : VeilRight xs := by
 unfold chkV at h
 by_cases hl : (xs.length : Int) > 50
 ·rw [decide_eq_true hl] at h; cases h
 ·rw [decide_eq_false hl] at h
  simp only [_root_.cond_false] at h
  refine ⟨by omega, fun w h0 h1 => ?_⟩
  have := firstE_zero h w.toNat (by omega)
  rw [show (0 : Int) + (w.toNat : Int) = w by omega] at this
  exact this
theorem VeilRight.mem (h : VeilRight xs) {x : D} (hx : x ∈ xs) : ruleD x = 0 := by
 obtain ⟨i, hi, rfl⟩ := List.getElem_of_mem hx
 have := h.r i (by omega) (by omega)
 rw [List.getD_eq_getElem?_getD] at this
 simpa [List.getElem?_eq_getElem hi] using this
end
/-- What holds of a right rule. -/
theorem rule_facts {fr kd x y r hf ht n : Int} {s : List UInt8} (h : ruleE fr kd x y r hf ht n s = 0) : inI kd 1 8 = true ∧ inI fr 1 3 = true ∧ kindE kd x y r hf ht n s = 0 ∧ zeroB kd x y r hf ht n s = true := by
 unfold ruleE at h
 cases h1 : inI kd 1 8 with
 | false => rw [h1] at h; cases h
 | true =>
 cases h2 : inI fr 1 3 with
 | false => rw [h1, h2] at h; cases h
 | true =>
 rw [h1, h2] at h
 cases h3 : kindE kd x y r hf ht n s != 0 with
 | true => rw [h3] at h; simp only [Bool.not_true, _root_.cond_false, _root_.cond_true] at h; rw [h] at h3; cases h3
 | false =>
  rw [h3] at h
  cases h4 : zeroB kd x y r hf ht n s with
  | false => rw [h4] at h; cases h
  | true => exact ⟨rfl, rfl, by simpa using h3, rfl⟩
/-! ### covers -/
noncomputable def covD (a b : D) : Bool := V61x0 0 (rFrom a) (rKind a) (rX a) (rY a) (rR a) (rHf a) (rHt a) (rN a) (rT a) (rFrom b) (rKind b) (rX b) (rY b) (rR b) (rHf b) (rHt b) (rN b) (rT b)
theorem V61x0_eq (a b : D) : V61x0 N (rFrom a) (rKind a) (rX a) (rY a) (rR a) (rHf a) (rHt a) (rN a) (rT a) (rFrom b) (rKind b) (rX b) (rY b) (rR b) (rHf b) (rHt b) (rN b) (rT b) = covD a b := rfl
theorem V60x0_eq {a b : D} (ha : ruleD a = 0) (hb : ruleD b = 0) : V60x0 N (rFrom a) (rKind a) (rX a) (rY a) (rR a) (rHf a) (rHt a) (rN a) (rT a) (rFrom b) (rKind b) (rX b) (rY b) (rR b) (rHf b) (rHt b) (rN b) (rT b) = covD a b := by
 obtain ⟨a1, _, _, a4⟩ := rule_facts ha
 obtain ⟨b1, _, _, b4⟩ := rule_facts hb
 unfold covD
 generalize rFrom a = fr at *
 generalize rKind a = kd at *
 generalize rX a = x at *
 generalize rY a = y at *
 generalize rR a = r at *
 generalize rHf a = hf at *
 generalize rHt a = ht at *
 generalize rN a = n at *
 generalize rT a = s at *
 generalize rFrom b = fr' at *
 generalize rKind b = kd' at *
 generalize rX b = x' at *
 generalize rY b = y' at *
 generalize rR b = r' at *
 generalize rHf b = hf' at *
 generalize rHt b = ht' at *
 generalize rN b = n' at *
 generalize rT b = s' at *
 unfold V60x0 F60x0 V61x0 F61x0
 cases decide (fr > fr') with
 | true => rfl
 | false =>
 by_cases hk : kd = kd'
 ·subst hk
  have e : (kd != kd) = false := by simp
  rw [e]
  unfold zeroB at a4 b4
  unfold V60x0x30002 F60x0x30002 V60x0x33002 F60x0x33002 V61x0x30002 F61x0x30002
  rcases kd_cases a1 with rfl | rfl | rfl | rfl | rfl | rfl | rfl | rfl
  ·rfl
  ·rfl
  ·simp at a4 b4
   simp [bnd_eq, a4, b4]
  ·simp at a4 b4
   simp [bnd_eq, a4, b4]
  ·simp at a4 b4
   simp [bnd_eq, a4, b4]
  ·rfl
  ·rfl
  ·rfl
 ·have e : (kd != kd') = true := by simpa using hk
  rw [e]
  rfl
/-! ### Idle -/
def anyE (p : Int → Bool) : Int → List D → Bool
 | _, [] => false
 | w, _ :: r => p w || anyE p (w + 1) r
noncomputable def idleP (xs : List D) (k w : Int) : Bool := (w != k) && covD (xs.getD w.toNat (.i 0)) (xs.getD k.toNat (.i 0)) && (decide (w < k) || !covD (xs.getD k.toNat (.i 0)) (xs.getD w.toNat (.i 0)))
noncomputable def idleB (xs : List D) (k : Int) : Bool := anyE (idleP xs k) 0 xs
def wayU (b : Bool) : Sum Unit Unit := bif b then .inl () else .inr ()
section
variable {xs : List D} {k : Int}
theorem G55x0x13_eq (h : VeilRight xs) (k0 : 0 ≤ k) (k1 : k < xs.length) {w : Int} (h0 : 0 ≤ w) (h1 : w < xs.length) :
  G55x0x13 N k w xs (rFrom (xs.getD w.toNat (.i 0))) (rKind (xs.getD w.toNat (.i 0))) (rX (xs.getD w.toNat (.i 0))) (rY (xs.getD w.toNat (.i 0))) (rR (xs.getD w.toNat (.i 0))) (rHf (xs.getD w.toNat (.i 0))) (rHt (xs.getD w.toNat (.i 0))) (rN (xs.getD w.toNat (.i 0))) (rT (xs.getD w.toNat (.i 0))) = some (idleP xs k w) := by
 unfold G55x0x13 F55x0x13 idleP
 rw [inB_of k0 k1]
 simp only [bnd_eq, V60x0_eq (h.r w h0 h1) (h.r k k0 k1), V60x0_eq (h.r k k0 k1) (h.r w h0 h1)]
 cases w != k <;> cases covD (xs.getD w.toNat (.i 0)) (xs.getD k.toNat (.i 0)) <;> cases decide (w < k) <;> rfl
theorem G56x0x13_eq (k0 : 0 ≤ k) (k1 : k < xs.length) {w : Int} :
  G56x0x13 N k w xs (rFrom (xs.getD w.toNat (.i 0))) (rKind (xs.getD w.toNat (.i 0))) (rX (xs.getD w.toNat (.i 0))) (rY (xs.getD w.toNat (.i 0))) (rR (xs.getD w.toNat (.i 0))) (rHf (xs.getD w.toNat (.i 0))) (rHt (xs.getD w.toNat (.i 0))) (rN (xs.getD w.toNat (.i 0))) (rT (xs.getD w.toNat (.i 0))) = some (idleP xs k w) := by
 unfold G56x0x13 F56x0x13 idleP
 rw [inB_of k0 k1]
 simp only [bnd_eq, V61x0_eq]
 cases w != k <;> cases covD (xs.getD w.toNat (.i 0)) (xs.getD k.toNat (.i 0)) <;> cases decide (w < k) <;> rfl
theorem way_idle (b : Bool) : (bif inlB (some (wayU b)) then some true else bif (inrQ (some (wayU b))).isSome then some false else none) = some b := by cases b <;> rfl
theorem G55x0_eq (hN : maxLen < N) (h : VeilRight xs) (k0 : 0 ≤ k) (k1 : k < xs.length) : G55x0 N xs k = some (idleB xs k) := by
 have hl : xs.length ≤ maxLen := by have := h.l; have hm : maxLen = 9223372036854775807 := rfl; omega
 have e : G55x0x6 N k xs xs.length xs 0 = some (wayU (idleB xs k)) := by
  unfold G55x0x6
  refine (for_ind (.i 0 : D) (S := fun w kr => S55x0x6 N k xs xs.length xs w kr _ _) (L := fun m w => L55x0x6 N k xs xs.length xs m w _ _) (fun m w => rfl) (fun w l => some (wayU (anyE (idleP xs k) w l))) hl ?_ ?_ hN).trans rfl
  ·intro kr; simp [S55x0x6, anyE, wayU]
  ·intro w kr h0 h1 hw hi hk
   simp only [S55x0x6, decide_eq_true h1, _root_.cond_true, hi, bnd_eq, hw, hk, G55x0x13_eq h k0 k1 h0 h1, Option.isSome_some, getD_some, anyE]
   cases idleP xs k w <;> rfl
 unfold G55x0 F55x0
 rw [e]
 exact way_idle _
theorem G56x0_eq (hN : maxLen < N) (h : VeilRight xs) (k0 : 0 ≤ k) (k1 : k < xs.length) : G56x0 N xs k = some (idleB xs k) := by
 have hl : xs.length ≤ maxLen := by have := h.l; have hm : maxLen = 9223372036854775807 := rfl; omega
 have e : G56x0x6 N k xs xs.length xs 0 = some (wayU (idleB xs k)) := by
  unfold G56x0x6
  refine (for_ind (.i 0 : D) (S := fun w kr => S56x0x6 N k xs xs.length xs w kr _ _) (L := fun m w => L56x0x6 N k xs xs.length xs m w _ _) (fun m w => rfl) (fun w l => some (wayU (anyE (idleP xs k) w l))) hl ?_ ?_ hN).trans rfl
  ·intro kr; simp [S56x0x6, anyE, wayU]
  ·intro w kr h0 h1 hw hi hk
   simp only [S56x0x6, decide_eq_true h1, _root_.cond_true, hi, bnd_eq, hw, hk, G56x0x13_eq k0 k1, Option.isSome_some, getD_some, anyE]
   cases idleP xs k w <;> rfl
 unfold G56x0 F56x0
 rw [e]
 exact way_idle _
/-- The places of idle rules. -/
noncomputable def idleF (xs : List D) : Int → List D → Bool × List D → Bool × List D
 | _, [], a => a
 | w, _ :: r, a => idleF xs (w + 1) r (bif idleB xs w then (false, a.2 ++ [.i w]) else a)
theorem room50 {n sz : Nat} (hn : n ≤ 50) (hs : sz ≤ 1000) : (decide ((n + 1) * sz ≤ room) && decide ((n + 1) ≤ strMax)) = true := by
 have h1 : (n + 1) * sz ≤ 51 * 1000 := Nat.mul_le_mul (by omega) hs
 have h2 : room = 140737488355328 := rfl
 have h3 : strMax = 9223372036854775807 := rfl
 rw [decide_eq_true (by omega), decide_eq_true (by omega)]; rfl
theorem G30x0x18_eq (hN : maxLen < N) (h : VeilRight xs) : G30x0x18 N xs.length xs 0 true [] = some (idleF xs 0 xs (true, [])) := by
 have hl : xs.length ≤ maxLen := by have := h.l; have hm : maxLen = 9223372036854775807 := rfl; omega
 unfold G30x0x18
 refine fold_ind (.i 0 : D) (A := Bool × List D) (S := fun w a kr => S30x0x18 N xs.length xs w a.1 a.2 (fun w b l => kr w (b, l)) _) (L := fun m w a => L30x0x18 N xs.length xs m w a.1 a.2 _) (fun m w a => rfl) (fun w l a => some (idleF xs w l a)) (fun w a => (a.2.length : Int) ≤ w) hl ?_ ?_ hN (a := (true, [])) (by simp)
 ·intro a kr _; simp [S30x0x18, idleF]
 ·intro w a kr h0 h1 hw hi ha hk
  have h50 := h.l
  simp only [S30x0x18, decide_eq_true h1, _root_.cond_true, bnd_eq, hw, G55x0_eq hN h h0 h1, Option.isSome_some, getD_some, G30x0x29, F30x0x29, idleF]
  cases hb : idleB xs w with
  | true =>
   rw [room50 (by omega) (by omega)]
   exact hk (false, a.2 ++ [.i w]) (by simp; omega)
  | false => exact hk a (by omega)
theorem G31x0x18_eq (hN : maxLen < N) (h : VeilRight xs) : G31x0x18 N xs.length xs 0 true [] = some (idleF xs 0 xs (true, [])) := by
 have hl : xs.length ≤ maxLen := by have := h.l; have hm : maxLen = 9223372036854775807 := rfl; omega
 unfold G31x0x18
 refine fold_ind (.i 0 : D) (A := Bool × List D) (S := fun w a kr => S31x0x18 N xs.length xs w a.1 a.2 (fun w b l => kr w (b, l)) _) (L := fun m w a => L31x0x18 N xs.length xs m w a.1 a.2 _) (fun m w a => rfl) (fun w l a => some (idleF xs w l a)) (fun w a => (a.2.length : Int) ≤ w) hl ?_ ?_ hN (a := (true, [])) (by simp)
 ·intro a kr _; simp [S31x0x18, idleF]
 ·intro w a kr h0 h1 hw hi ha hk
  have h50 := h.l
  simp only [S31x0x18, decide_eq_true h1, _root_.cond_true, bnd_eq, hw, G56x0_eq hN h h0 h1, Option.isSome_some, getD_some, G31x0x29, F31x0x29, idleF]
  cases hb : idleB xs w with
  | true =>
   rw [room50 (by omega) (by omega)]
   exact hk (false, a.2 ++ [.i w]) (by simp; omega)
  | false => exact hk a (by omega)
noncomputable def idleR (xs : List D) : Bool × List D × Int := bif chkV xs != 0 then (true, [], chkV xs) else ((idleF xs 0 xs (true, [])).1, (idleF xs 0 xs (true, [])).2, 0)
theorem G30x0_eq (hN : maxLen < N) (h : VeilOk xs) : G30x0 N xs = some (idleR xs) := by
 unfold G30x0 F30x0 idleR
 simp only [bnd_eq, G32x0_eq hN h, Option.isSome_some, getD_some, _root_.cond_true]
 cases hc : chkV xs != 0 with
 | true => rfl
 | false => rw [G30x0x18_eq hN (right_of (by simpa using hc))]; rfl
theorem G31x0_eq (hN : maxLen < N) (h : VeilOk xs) : G31x0 N xs = some (idleR xs) := by
 unfold G31x0 F31x0 idleR
 simp only [bnd_eq, G33x0_eq hN h, Option.isSome_some, getD_some, _root_.cond_true]
 cases hc : chkV xs != 0 with
 | true => rfl
 | false => rw [G31x0x18_eq hN (right_of (by simpa using hc))]; rfl
/-! ### Tidy -/
/-- A rule, its cells laid anew. -/
def reR (x : D) : D := .a [.i (rFrom x), .i (rKind x), .i (rX x), .i (rY x), .i (rR x), .i (rHf x), .i (rHt x), .i (rN x), .s (rT x)]
noncomputable def tidyF (xs : List D) : Int → List D → Bool × List D → Bool × List D
 | _, [], a => a
 | w, x :: r, a => tidyF xs (w + 1) r (bif idleB xs w then a else (false, a.2 ++ [reR x]))
theorem G27x0x18_eq (hN : maxLen < N) (h : VeilRight xs) : G27x0x18 N xs xs.length xs 0 true [] = some (tidyF xs 0 xs (true, [])) := by
 have hl : xs.length ≤ maxLen := by have := h.l; have hm : maxLen = 9223372036854775807 := rfl; omega
 unfold G27x0x18
 refine fold_ind (.i 0 : D) (A := Bool × List D) (S := fun w a kr => S27x0x18 N xs xs.length xs w a.1 a.2 (fun w b l => kr w (b, l)) _) (L := fun m w a => L27x0x18 N xs xs.length xs m w a.1 a.2 _) (fun m w a => rfl) (fun w l a => some (tidyF xs w l a)) (fun w a => (a.2.length : Int) ≤ w) hl ?_ ?_ hN (a := (true, [])) (by simp)
 ·intro a kr _; simp [S27x0x18, tidyF]
 ·intro w a kr h0 h1 hw hi ha hk
  have h50 := h.l
  simp only [S27x0x18, decide_eq_true h1, _root_.cond_true, hi, bnd_eq, hw, G55x0_eq hN h h0 h1, Option.isSome_some, getD_some, G27x0x29, F27x0x29, tidyF]
  cases hb : idleB xs w with
  | false =>
   rw [room50 (by omega) (by omega)]
   exact hk (false, a.2 ++ [reR (xs.getD w.toNat (.i 0))]) (by simp; omega)
  | true => exact hk a (by omega)
theorem G28x0x18_eq (hN : maxLen < N) (h : VeilRight xs) : G28x0x18 N xs xs.length xs 0 true [] = some (tidyF xs 0 xs (true, [])) := by
 have hl : xs.length ≤ maxLen := by have := h.l; have hm : maxLen = 9223372036854775807 := rfl; omega
 unfold G28x0x18
 refine fold_ind (.i 0 : D) (A := Bool × List D) (S := fun w a kr => S28x0x18 N xs xs.length xs w a.1 a.2 (fun w b l => kr w (b, l)) _) (L := fun m w a => L28x0x18 N xs xs.length xs m w a.1 a.2 _) (fun m w a => rfl) (fun w l a => some (tidyF xs w l a)) (fun w a => (a.2.length : Int) ≤ w) hl ?_ ?_ hN (a := (true, [])) (by simp)
 ·intro a kr _; simp [S28x0x18, tidyF]
 ·intro w a kr h0 h1 hw hi ha hk
  have h50 := h.l
  simp only [S28x0x18, decide_eq_true h1, _root_.cond_true, hi, bnd_eq, hw, G56x0_eq hN h h0 h1, Option.isSome_some, getD_some, G28x0x29, F28x0x29, tidyF]
  cases hb : idleB xs w with
  | false =>
   rw [room50 (by omega) (by omega)]
   exact hk (false, a.2 ++ [reR (xs.getD w.toNat (.i 0))]) (by simp; omega)
  | true => exact hk a (by omega)
noncomputable def tidyR (xs : List D) : Bool × List D × Int := bif chkV xs != 0 then (true, [], chkV xs) else ((tidyF xs 0 xs (true, [])).1, (tidyF xs 0 xs (true, [])).2, 0)
theorem G27x0_eq (hN : maxLen < N) (h : VeilOk xs) : G27x0 N xs = some (tidyR xs) := by
 unfold G27x0 F27x0 tidyR
 simp only [bnd_eq, G32x0_eq hN h, Option.isSome_some, getD_some, _root_.cond_true]
 cases hc : chkV xs != 0 with
 | true => rfl
 | false => rw [G27x0x18_eq hN (right_of (by simpa using hc))]; rfl
theorem G28x0_eq (hN : maxLen < N) (h : VeilOk xs) : G28x0 N xs = some (tidyR xs) := by
 unfold G28x0 F28x0 tidyR
 simp only [bnd_eq, G33x0_eq hN h, Option.isSome_some, getD_some, _root_.cond_true]
 cases hc : chkV xs != 0 with
 | true => rfl
 | false => rw [G28x0x18_eq hN (right_of (by simpa using hc))]; rfl
end
/-! ### Equal lists -/
def eqIn (x y : D) : Bool := x.toI == y.toI
def eqRu (x y : D) : Bool := ((x.cell 0).toI == (y.cell 0).toI) && (((x.cell 1).toI == (y.cell 1).toI) && (((x.cell 2).toI == (y.cell 2).toI) && (((x.cell 3).toI == (y.cell 3).toI) && (((x.cell 4).toI == (y.cell 4).toI) && ((((x.cell 5).toI == (y.cell 5).toI) && (((x.cell 6).toI == (y.cell 6).toI) && true)) && (((x.cell 7).toI == (y.cell 7).toI) && (((x.cell 8).toS == (y.cell 8).toS) && true)))))))
section
variable {xs ys : List D}
theorem G34x0_eq (hN : maxLen < N) (hl : xs.length ≤ maxLen) : G34x0 N xs ys = some (eqL eqIn xs ys) := by
 unfold G34x0 F34x0 eqL
 rw [len_bne]
 cases h : (xs.length == ys.length) with
 | false => rfl
 | true =>
  have e : G34x0x12 N xs ys xs.length 0 = some (bif zipAll eqIn xs ys then .inr () else .inl ()) := by
   unfold G34x0x12
   refine zip_ind eqIn (S := fun w kr => S34x0x12 N xs ys xs.length w kr _ _) (L := fun m w => L34x0x12 N xs ys xs.length m w _ _) (fun m w => rfl) hl (by simpa using h) (fun kr => by simp [S34x0x12]) (fun w kr h1 h2 h3 => ?_) hN
   unfold S34x0x12
   rw [h1, h2, h3]
   show (bif !(eqIn _ _) then _ else _) = _
   cases eqIn (xs.getD w.toNat (.i 0)) (ys.getD w.toNat (.i 0)) <;> rfl
  rw [e]
  cases zipAll eqIn xs ys <;> rfl
theorem G57x0_eq (hN : maxLen < N) (hl : xs.length ≤ maxLen) : G57x0 N xs ys = some (eqL eqRu xs ys) := by
 unfold G57x0 F57x0 eqL
 rw [len_bne]
 cases h : (xs.length == ys.length) with
 | false => rfl
 | true =>
  have e : G57x0x12 N xs ys xs.length 0 = some (bif zipAll eqRu xs ys then .inr () else .inl ()) := by
   unfold G57x0x12
   refine zip_ind eqRu (S := fun w kr => S57x0x12 N xs ys xs.length w kr _ _) (L := fun m w => L57x0x12 N xs ys xs.length m w _ _) (fun m w => rfl) hl (by simpa using h) (fun kr => by simp [S57x0x12]) (fun w kr h1 h2 h3 => ?_) hN
   unfold S57x0x12
   rw [h1, h2, h3]
   show (bif !(eqRu _ _) then _ else _) = _
   cases eqRu (xs.getD w.toNat (.i 0)) (ys.getD w.toNat (.i 0)) <;> rfl
  rw [e]
  cases zipAll eqRu xs ys <;> rfl
theorem eqIn_refl (l : List D) : eqL eqIn l l = true := eqL_refl (fun x => by simp [eqIn]) l
theorem eqRu_refl (l : List D) : eqL eqRu l l = true := eqL_refl (fun x => by simp [eqRu]) l
theorem G29x0_eq (hN : maxLen < N) (hl : xs.length ≤ maxLen) : G29x0 N xs ys = some (eqL eqRu xs ys) := by
 unfold G29x0 F29x0
 rw [G57x0_eq hN hl]; rfl
end
theorem idleF_len (xs : List D) : ∀ (l : List D) (w : Int) (a : Bool × List D), (idleF xs w l a).2.length ≤ a.2.length + l.length
 | [], w, a => by simp [idleF]
 | x :: r, w, a => by
  simp only [idleF]
  have := idleF_len xs r (w + 1) (bif idleB xs w then (false, a.2 ++ [.i w]) else a)
  cases hb : idleB xs w <;> rw [hb] at this <;> simp at this ⊢ <;> omega
theorem tidyF_len (xs : List D) : ∀ (l : List D) (w : Int) (a : Bool × List D), (tidyF xs w l a).2.length ≤ a.2.length + l.length
 | [], w, a => by simp [tidyF]
 | x :: r, w, a => by
  simp only [tidyF]
  have := tidyF_len xs r (w + 1) (bif idleB xs w then a else (false, a.2 ++ [reR x]))
  cases hb : idleB xs w <;> rw [hb] at this <;> simp at this ⊢ <;> omega
theorem idleR_len {xs : List D} (h : xs.length ≤ maxLen) : (idleR xs).2.1.length ≤ maxLen := by
 unfold idleR
 cases chkV xs != 0 with
 | true => simp
 | false => have := idleF_len xs xs 0 (true, []); simp at this ⊢; omega
theorem tidyR_len {xs : List D} (h : xs.length ≤ maxLen) : (tidyR xs).2.1.length ≤ maxLen := by
 unfold tidyR
 cases chkV xs != 0 with
 | true => simp
 | false => have := tidyF_len xs xs 0 (true, []); simp at this ⊢; omega
/-- The law of Check, Idle and Tidy. -/
theorem law8 {xs : List D} (h : VeilOk xs) : G8x0 18446744073709551616 xs = some true := by
 have hN : maxLen < 18446744073709551616 := by decide
 unfold G8x0 F8x0 G8x0x16 F8x0x16
 simp only [bnd_eq, G30x0_eq hN h, G31x0_eq hN h, G27x0_eq hN h, G28x0_eq hN h, G32x0_eq hN h, G33x0_eq hN h, G34x0_eq hN (idleR_len h.l), G29x0_eq hN (tidyR_len h.l), Option.isSome_some, _root_.cond_true, getD_some, beq_self_eq_true, eqIn_refl, eqRu_refl, told_ok]
end Go.Proofs.Ytngnemeafkmaoaa

/-! A law's arguments in chapter 10. -/
namespace Go.Proofs.Ytngnemeafkmaoaa
open Go Go.AM
set_option maxRecDepth 100000
set_option maxHeartbeats 4000000
def RuleT (x : D) : Prop := ∃ a b c d e f g h s, x = .a [.i a, .i b, .i c, .i d, .i e, .i f, .i g, .i h, .s s] ∧ s.length ≤ maxLen
def SmpT (x : D) : Prop := ∃ a b c d e f g, x = .a [.i a, .i b, .i c, .i d, .i e, .i f, .i g]
def LapT (x : D) : Prop := ∃ a b s, x = .a [.i a, .i b, .s s] ∧ s.length ≤ maxLen
def TagT (x : D) : Prop := ∃ s, x = .s s ∧ s.length ≤ maxLen
theorem kinds24 : kinds Try.prog 24 = [.sl 70] := by kernel_rfl
theorem kinds70 : kinds Try.prog 70 = [.int .i64, .int .i64, .int .i64, .int .i64, .int .i64, .int .i64, .int .i64, .int .i64, .str] := by kernel_rfl
theorem rule_ok {m : Nat} {x : D} (h : TyEl Try.prog (TyK Try.prog (m + 1)) 70 x) : RuleT x := by
 unfold TyEl at h
 rw [if_pos (show isAggB Try.prog 70 = true by kernel_rfl), kinds70] at h
 obtain ⟨cs, rfl, hc⟩ := h
 obtain ⟨_, _, rfl, h0, hc⟩ := all2_cons hc
 obtain ⟨_, _, rfl, h1, hc⟩ := all2_cons hc
 obtain ⟨_, _, rfl, h2, hc⟩ := all2_cons hc
 obtain ⟨_, _, rfl, h3, hc⟩ := all2_cons hc
 obtain ⟨_, _, rfl, h4, hc⟩ := all2_cons hc
 obtain ⟨_, _, rfl, h5, hc⟩ := all2_cons hc
 obtain ⟨_, _, rfl, h6, hc⟩ := all2_cons hc
 obtain ⟨_, _, rfl, h7, hc⟩ := all2_cons hc
 obtain ⟨_, _, rfl, h8, hc⟩ := all2_cons hc
 obtain rfl := all2_nil hc
 obtain ⟨_, rfl, _⟩ := ty_int h0
 obtain ⟨_, rfl, _⟩ := ty_int h1
 obtain ⟨_, rfl, _⟩ := ty_int h2
 obtain ⟨_, rfl, _⟩ := ty_int h3
 obtain ⟨_, rfl, _⟩ := ty_int h4
 obtain ⟨_, rfl, _⟩ := ty_int h5
 obtain ⟨_, rfl, _⟩ := ty_int h6
 obtain ⟨_, rfl, _⟩ := ty_int h7
 obtain ⟨_, rfl, hl⟩ := ty_str h8
 exact ⟨_, _, _, _, _, _, _, _, _, rfl, hl⟩
/-- A law's veil. -/
structure VeilT (xs : List D) : Prop where
 l : xs.length ≤ maxLen
 t : ∀ x ∈ xs, RuleT x
theorem VeilT.ok {xs : List D} (h : VeilT xs) : VeilOk xs := ⟨h.l, fun x hx => by obtain ⟨_, _, _, _, _, _, _, _, _, rfl, hl⟩ := h.t x hx; exact hl⟩
theorem arg24 {ds : List D} (h : ArgOk Try.prog 6 24 ds) : ∃ nl xs, ds = [.l nl xs] ∧ VeilT xs := by
 unfold ArgOk at h
 rw [kinds24] at h
 obtain ⟨_, _, rfl, h0, h⟩ := all2_cons h
 obtain rfl := all2_nil h
 obtain ⟨nl, xs, rfl, _, l1, e1⟩ := ty_sl (m := 5) h0
 exact ⟨nl, xs, rfl, l1, fun x hx => rule_ok (e1 x hx)⟩
/-- A law's activity. -/
structure ActT (name : List UInt8) (sport start : Int) (smps laps tags : List D) : Prop where
 n : name.length ≤ maxLen
 s : smps.length ≤ maxLen
 l : laps.length ≤ maxLen
 t : tags.length ≤ maxLen
 st : ∀ x ∈ smps, SmpT x
 lt : ∀ x ∈ laps, LapT x
 tt : ∀ x ∈ tags, TagT x
theorem ActT.ok {n : List UInt8} {sp st : Int} {s l t : List D} (h : ActT n sp st s l t) : ActOk n s l t :=
 ⟨h.n, h.s, h.l, h.t, fun x hx => by obtain ⟨_, _, _, rfl, hl⟩ := h.lt x hx; exact hl, fun x hx => by obtain ⟨_, rfl, hl⟩ := h.tt x hx; exact hl⟩
end Go.Proofs.Ytngnemeafkmaoaa

namespace Go.Proofs.Ytngnemeafkmaoaa
open Go Go.AM
set_option maxRecDepth 100000
set_option maxHeartbeats 4000000
set_option linter.unusedVariables false

theorem Try.own : ownKnob Try.prog.godebug = none := by kernel_rfl
theorem Try.laidOut : laidOutB Try.prog = true := by kernel_rfl
theorem callLaw (dss : List (List D)) (h : All2 (ArgOk Try.prog 6) Try.f8.params.toList dss) : CallOk Try.prog 8 (argVs Try.prog Try.f8.params.toList dss) [] ([.c (.b true)], []) := by
 have hp : Try.f8.params.toList = [24] := by kernel_rfl
 rw [hp] at h ⊢
 match dss, h with
 | [d0], ⟨h0, _⟩ =>
  obtain ⟨nl, xs, rfl, hx⟩ := arg24 h0
  refine ok8x0 18446744073709551616 _ _ (A8x0 18446744073709551616 [.b nl, .l xs]) (by kernel_rfl) _ ?_
  have e : A8x0 18446744073709551616 [.b nl, .l xs] = bnd (G8x0 18446744073709551616 xs) fun q => [(q.isSome, ([.c (.b (q.getD default))], []))] := by kernel_rfl
  rw [e, law8 hx.ok]
  rfl
theorem lawLifted (os : Os) (started : os.Started) (H : Type) (enc : TypeId × Value → H) :
  ReturnsInHanded {} Try.checked os 8 .any (Rows.veilCheckMatchesSpecSpec.pre6 enc Try.prog Try.f8 Rows.veilCheckMatchesSpecRow.domain false) (Rows.veilCheckMatchesSpecSpec.post enc Try.prog Try.f8 false true false false) := by
 refine returnsInHanded_of_change (C := Try.checked) Try.own started (by kernel_rfl) Try.func8
  (ChangeSpec.witness6 (enc := enc) (C := Try.checked) false ⟨#[], #[.agg #[.slice none 0 0]], []⟩ 8 (by kernel_rfl) (by kernel_rfl) (by kernel_rfl) (by kernel_rfl)) ?_
 intro W base args ds gs before hval hW _ _
 exact law_call (m := 6) (tb := 4) Try.laidOut rfl (by kernel_rfl) (by kernel_rfl) (by kernel_rfl) (fun l hl => by
  rw [show Try.f8.params.size = 1 by kernel_rfl] at hl
  match l, hl with
  | [_], _ => rfl) callLaw hval hW
theorem check_holds : Rows.VeilCheckMatchesSpecSaid :=
 OpenClaim.holds_of_wide 8 Try.f8 rfl rfl rfl rfl rfl rfl rfl ⟨rfl, rfl, rfl, rfl, rfl⟩ rfl rfl rfl rfl rfl (by kernel_rfl) Try.func8 (by kernel_rfl)
  (of_decide_eq_true (by kernel_rfl)) (by unfold Func.isWrapper; first | (rw [if_pos (by decide +kernel)]; kernel_rfl) | (rw [if_neg (by decide +kernel)]; exact ⟨rfl, rfl⟩))
  (fun os started H enc _ => lawLifted os started H enc)
end Go.Proofs.Ytngnemeafkmaoaa

