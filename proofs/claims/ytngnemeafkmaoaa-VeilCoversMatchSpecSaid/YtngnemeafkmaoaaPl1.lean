/- Proved: for every two rules and every two veils, veil.Covers and veil.Both answer what the reference package answers, and a small veil lets just that be seen which the document tells (VeilCoversMatchSpec returns true and leaves its arguments as they were). Conditions: none beyond those of the given statement. -/
import Derived.Test.YtngnemeafkmaoaaVPp2
import Derived.KernelRfl
import Derived.Test.YtngnemeafkmaoaaRows
set_option linter.all false
set_option maxRecDepth 100000
/-! Plain laws: record.Check, record.Same and their references (the numbers are those of the seat of chapter 2). -/
namespace Go.Proofs.Ytngnemeafkmaoaa
open Go Go.AM
set_option maxRecDepth 100000
set_option maxHeartbeats 4000000
variable {N : Nat}
/-! ### Names, ranges -/
def ltr (n : Int) : Bool := decide (97 ≤ n ∧ n ≤ 122 ∨ 65 ≤ n ∧ n ≤ 90 ∨ 48 ≤ n ∧ n ≤ 57 ∨ n = 45 ∨ n = 95 ∨ n = 46)
def nameB (s : List UInt8) : Bool := s.all (fun c => ltr (c.toNat : Int)) && decide (1 ≤ s.length ∧ s.length ≤ 60)
def inI (n a b : Int) : Bool := decide (a ≤ n ∧ n ≤ b)
theorem G46x0x6_eq (hN : maxLen < N) {s : List UInt8} (hs : s.length ≤ maxLen) : G46x0x6 N s 0 = some (bif s.all (fun c => ltr (c.toNat : Int)) then .inr () else .inl ()) := by
 unfold G46x0x6
 refine (for_ind (0 : UInt8) (S := fun w kr => S46x0x6 N s w kr _ _) (L := fun m w => L46x0x6 N s m w _ _) (fun m w => rfl) (fun _ l => some (bif l.all (fun c => ltr (c.toNat : Int)) then .inr () else .inl ())) hs ?_ ?_ hN).trans rfl
 ·intro kr; simp [S46x0x6]
 ·intro w kr h0 h1 hw hi hk
  simp only [S46x0x6, decide_eq_true h1, _root_.cond_true, hi, bnd_eq, hw, hk, List.all_cons]
  generalize ((s.getD w.toNat 0).toNat : Int) = n
  refine (cond_congr (c' := !ltr n) ?_).trans ?_
  ·rw [Bool.eq_iff_iff]; simp [ltr]; omega
  ·cases ltr n <;> rfl
theorem G46x0_eq (hN : maxLen < N) {s : List UInt8} (hs : s.length ≤ maxLen) : G46x0 N s = some (nameB s) := by
 unfold G46x0 F46x0
 rw [G46x0x6_eq hN hs]
 unfold nameB
 cases s.all (fun c => ltr (c.toNat : Int)) with
 | false => rfl
 | true =>
  simp only [bnd_eq, inlB_inr, inrQ_inr, _root_.cond_true, _root_.cond_false, Option.isSome_some, Bool.true_and]
  congr 1
  rw [Bool.eq_iff_iff]; simp; omega
theorem G82x0x6_eq (hN : maxLen < N) {s : List UInt8} (hs : s.length ≤ maxLen) : G82x0x6 N s s.length 0 = some (bif s.all (fun c => ltr (c.toNat : Int)) then .inr () else .inl ()) := by
 unfold G82x0x6
 refine (for_ind (0 : UInt8) (S := fun w kr => S82x0x6 N s s.length w kr _ _) (L := fun m w => L82x0x6 N s s.length m w _ _) (fun m w => rfl) (fun _ l => some (bif l.all (fun c => ltr (c.toNat : Int)) then .inr () else .inl ())) hs ?_ ?_ hN).trans rfl
 ·intro kr; simp [S82x0x6]
 ·intro w kr h0 h1 hw hi hk
  simp only [S82x0x6, decide_eq_true h1, _root_.cond_true, hi, bnd_eq, hw, hk, List.all_cons, V82x0x19, F82x0x19, V96x0, F96x0]
  generalize ((s.getD w.toNat 0).toNat : Int) = n
  refine (cond_congr (c' := !ltr n) ?_).trans ?_
  ·rw [Bool.eq_iff_iff]; simp [ltr]; omega
  ·cases ltr n <;> rfl
theorem G82x0_eq (hN : maxLen < N) {s : List UInt8} (hs : s.length ≤ maxLen) : G82x0 N s = some (nameB s) := by
 unfold G82x0 F82x0
 rw [G82x0x6_eq hN hs]
 unfold nameB
 cases s.all (fun c => ltr (c.toNat : Int)) with
 | false => rfl
 | true =>
  simp only [bnd_eq, inlB_inr, inrQ_inr, _root_.cond_true, _root_.cond_false, Option.isSome_some, Bool.true_and]
  congr 1
  rw [Bool.eq_iff_iff]; simp; omega
/-! ### The first fault -/
def firstE (e : Int → Int) : Int → List D → Int
 | _, [] => 0
 | w, _ :: r => bif e w != 0 then e w else firstE e (w + 1) r
def wayE (n : Int) : Sum Int Unit := bif n != 0 then .inl n else .inr ()
theorem wayE_cons {e : Int → Int} {w : Int} {x : D} {l : List D} : wayE (firstE e w (x :: l)) = bif e w != 0 then .inl (e w) else wayE (firstE e (w + 1) l) := by
 simp only [firstE]
 cases h : e w != 0 with
 | true => simp only [_root_.cond_true, wayE, h]
 | false => rfl
section
variable {xs : List D} {w : Int}
end
/-- An activity's lengths are possible. -/
structure ActOk (name : List UInt8) (smps laps tags : List D) : Prop where
 n : name.length ≤ maxLen
 s : smps.length ≤ maxLen
 l : laps.length ≤ maxLen
 t : tags.length ≤ maxLen
 ln : ∀ x ∈ laps, (x.cell 2).toS.length ≤ maxLen
 tn : ∀ x ∈ tags, x.toS.length ≤ maxLen
section
variable {name : List UInt8} {sport start : Int} {smps laps tags : List D}
end
end Go.Proofs.Ytngnemeafkmaoaa

/-! Plain laws: record.Same and its reference. -/
namespace Go.Proofs.Ytngnemeafkmaoaa
open Go Go.AM
set_option maxRecDepth 100000
set_option maxHeartbeats 4000000
variable {N : Nat}
def zipAll (f : D → D → Bool) : List D → List D → Bool
 | x :: r, y :: s => f x y && zipAll f r s
 | _, _ => true
def eqL (f : D → D → Bool) (xs ys : List D) : Bool := (xs.length == ys.length) && zipAll f xs ys
theorem zip_ind {xs ys : List D} (f : D → D → Bool) {S : Int → (Int → Option (Sum Unit Unit)) → Option (Sum Unit Unit)} {L : Nat → Int → Option (Sum Unit Unit)} (hL : ∀ m a, L (m + 1) a = S a (L m)) (hlen : xs.length ≤ maxLen) (hxy : xs.length = ys.length)
  (hend : ∀ kr, S xs.length kr = some (.inr ()))
  (hstep : ∀ (w : Int) (kr : Int → Option (Sum Unit Unit)), decide (w < xs.length) = true → inB w xs.length = true → inB w ys.length = true → S w kr = bif f (xs.getD w.toNat (.i 0)) (ys.getD w.toNat (.i 0)) then kr (IntKind.wrap .i64 (w + 1)) else some (.inl ()))
  (hN : maxLen < N) : L N 0 = some (bif zipAll f xs ys then .inr () else .inl ()) := by
 refine (for_ind (.i 0 : D) hL (fun w l => some (bif zipAll f l (ys.drop w.toNat) then .inr () else .inl ())) hlen ?_ ?_ hN).trans (by simp)
 ·intro kr; rw [hend]; simp [zipAll]
 ·intro w kr h0 h1 hw hi hk
  have h2 : w < ys.length := by omega
  rw [hstep w kr (decide_eq_true h1) hi (inB_of h0 (by omega)), hw, hk, drop_at (.i 0) (xs := ys) h0 h2]
  simp only [zipAll]
  cases f (xs.getD w.toNat (.i 0)) (ys.getD w.toNat (.i 0)) <;> rfl
section
variable {xs ys : List D}
theorem len_bne : ((xs.length : Int) != (ys.length : Int)) = !(xs.length == ys.length) := by
 rw [Bool.eq_iff_iff]; simp; omega
end
section
variable {n n' : List UInt8} {sp st sp' st' : Int} {s l t s' l' t' : List D}
theorem zipAll_refl {f : D → D → Bool} (hf : ∀ x, f x x = true) : ∀ l, zipAll f l l = true
 | [] => rfl
 | x :: r => by simp only [zipAll, hf, zipAll_refl hf r, Bool.and_self]
theorem eqL_refl {f : D → D → Bool} (hf : ∀ x, f x x = true) (l : List D) : eqL f l l = true := by
 unfold eqL; rw [zipAll_refl hf]; simp
end
end Go.Proofs.Ytngnemeafkmaoaa

/-! Plain laws of chapter 10: rules, veils. -/
namespace Go.Proofs.Ytngnemeafkmaoaa
open Go Go.AM
set_option maxRecDepth 100000
set_option maxHeartbeats 4000000
variable {N : Nat}
theorem V64x0_eq (n a b : Int) : V64x0 N n a b = inI n a b := by
 unfold V64x0 F64x0 inI
 rw [Bool.eq_iff_iff]; simp
theorem V73x0_eq (n a b : Int) : V73x0 N n a b = !inI n a b := by
 unfold V73x0 F73x0 inI
 rw [Bool.eq_iff_iff]; simp <;> omega
/-- What is asked of the fields that a kind does not use. -/
def zeroB (kd x y r hf ht n : Int) (s : List UInt8) : Bool :=
 (kd == 1 || (x == 0 && y == 0 && r == 0)) && (kd == 2 || (hf == 0 && ht == 0)) && (kd == 3 || kd == 5 || kd == 8 || n == 0) && (kd == 4 || s == [])
/-- The fault of what a kind uses. -/
def kindE (kd x y r hf ht n : Int) (s : List UInt8) : Int :=
 bif kd == 1 then (bif inI x (-100000000) 100000000 && inI y (-100000000) 100000000 && inI r 0 1000000 then 0 else 9)
 else bif kd == 2 then (bif decide (hf < 0) || decide (hf > ht) || decide (ht ≥ 86400) then 9 else 0)
 else bif kd == 3 then (bif inI n 1 4 then 0 else 9)
 else bif kd == 8 then (bif inI n 1 1000000 then 0 else 9)
 else bif kd == 5 then (bif inI n 1 5 then 0 else 7)
 else bif kd == 4 then (bif nameB s then 0 else 8) else 0
def ruleE (fr kd x y r hf ht n : Int) (s : List UInt8) : Int :=
 bif !inI kd 1 8 then 7 else bif !inI fr 1 3 then 9 else bif kindE kd x y r hf ht n s != 0 then kindE kd x y r hf ht n s else bif zeroB kd x y r hf ht n s then 0 else 2
theorem kd_cases {kd : Int} (h : inI kd 1 8 = true) : kd = 1 ∨ kd = 2 ∨ kd = 3 ∨ kd = 4 ∨ kd = 5 ∨ kd = 6 ∨ kd = 7 ∨ kd = 8 := by
 have := of_decide_eq_true h
 omega
section
variable {fr kd x y r hf ht n : Int} {s : List UInt8}
theorem G58x0_eq (hN : maxLen < N) (hs : s.length ≤ maxLen) : G58x0 N fr kd x y r hf ht n s = some (ruleE fr kd x y r hf ht n s) := by
 unfold G58x0 F58x0
 simp only [bnd_eq, V64x0_eq]
 unfold ruleE
 cases hk : inI kd 1 8 with
 | false => rfl
 | true =>
 cases hfr : inI fr 1 3 with
 | false => rfl
 | true =>
 unfold kindE zeroB
 rcases kd_cases hk with rfl | rfl | rfl | rfl | rfl | rfl | rfl | rfl
 ·unfold G58x0x36029 F58x0x36029 V58x0x28 F58x0x28
  simp only [bnd_eq, V64x0_eq, beq_self_eq_true, Int.reduceBEq, _root_.cond_true, _root_.cond_false]
  cases inI x (-100000000) 100000000 <;> cases inI y (-100000000) 100000000 <;> cases inI r 0 1000000 <;> (try rfl) <;> simp only [inlB_inl, inlB_inr, inlV_inl, inrQ_inr, Option.isSome_some, getD_some, _root_.cond_true, _root_.cond_false, Bool.not_true, Bool.not_false] <;> cases hf == 0 <;> cases ht == 0 <;> cases n == 0 <;> cases s == [] <;> rfl
 ·unfold G58x0x36029 F58x0x36029 G58x0x48041 F58x0x48041
  simp only [bnd_eq, beq_self_eq_true, Int.reduceBEq, _root_.cond_true, _root_.cond_false]
  cases decide (hf < 0) <;> cases decide (hf > ht) <;> cases decide (ht ≥ 86400) <;> (try rfl) <;> simp only [inlB_inl, inlB_inr, inlV_inl, inrQ_inr, Option.isSome_some, getD_some, _root_.cond_true, _root_.cond_false, Bool.not_true, Bool.not_false] <;> cases x == 0 <;> cases y == 0 <;> cases r == 0 <;> cases n == 0 <;> cases s == [] <;> rfl
 ·unfold G58x0x36029 F58x0x36029 G58x0x48041 F58x0x48041 G58x0x60053 F58x0x60053
  simp only [bnd_eq, V64x0_eq, beq_self_eq_true, Int.reduceBEq, _root_.cond_true, _root_.cond_false]
  cases inI n 1 4 <;> (try rfl) <;> simp only [inlB_inl, inlB_inr, inlV_inl, inrQ_inr, Option.isSome_some, getD_some, _root_.cond_true, _root_.cond_false, Bool.not_true, Bool.not_false] <;> cases hf == 0 <;> cases ht == 0 <;> cases x == 0 <;> cases y == 0 <;> cases r == 0 <;> cases s == [] <;> rfl
 ·unfold G58x0x36029 F58x0x36029 G58x0x48041 F58x0x48041 G58x0x60053 F58x0x60053 G58x0x72065 F58x0x72065 G58x0x84077 F58x0x84077 G58x0x89 F58x0x89
  simp only [bnd_eq, V64x0_eq, G82x0_eq hN hs, beq_self_eq_true, Int.reduceBEq, _root_.cond_true, _root_.cond_false]
  cases nameB s <;> (try rfl) <;> simp only [inlB_inl, inlB_inr, inlV_inl, inrQ_inr, Option.isSome_some, getD_some, _root_.cond_true, _root_.cond_false, Bool.not_true, Bool.not_false] <;> cases hf == 0 <;> cases ht == 0 <;> cases x == 0 <;> cases y == 0 <;> cases r == 0 <;> cases n == 0 <;> rfl
 ·unfold G58x0x36029 F58x0x36029 G58x0x48041 F58x0x48041 G58x0x60053 F58x0x60053 G58x0x72065 F58x0x72065 G58x0x84077 F58x0x84077
  simp only [bnd_eq, V64x0_eq, beq_self_eq_true, Int.reduceBEq, _root_.cond_true, _root_.cond_false]
  cases inI n 1 5 <;> (try rfl) <;> simp only [inlB_inl, inlB_inr, inlV_inl, inrQ_inr, Option.isSome_some, getD_some, _root_.cond_true, _root_.cond_false, Bool.not_true, Bool.not_false] <;> cases hf == 0 <;> cases ht == 0 <;> cases x == 0 <;> cases y == 0 <;> cases r == 0 <;> cases s == [] <;> rfl
 ·unfold G58x0x36029 F58x0x36029 G58x0x48041 F58x0x48041 G58x0x60053 F58x0x60053 G58x0x72065 F58x0x72065 G58x0x84077 F58x0x84077 G58x0x89 F58x0x89
  simp only [bnd_eq, V64x0_eq, beq_self_eq_true, Int.reduceBEq, _root_.cond_true, _root_.cond_false]
  simp only [inlB_inl, inlB_inr, inlV_inl, inrQ_inr, Option.isSome_some, getD_some, _root_.cond_true, _root_.cond_false, Bool.not_true, Bool.not_false]
  cases hf == 0 <;> cases ht == 0 <;> cases x == 0 <;> cases y == 0 <;> cases r == 0 <;> cases n == 0 <;> cases s == [] <;> rfl
 ·unfold G58x0x36029 F58x0x36029 G58x0x48041 F58x0x48041 G58x0x60053 F58x0x60053 G58x0x72065 F58x0x72065 G58x0x84077 F58x0x84077 G58x0x89 F58x0x89
  simp only [bnd_eq, V64x0_eq, beq_self_eq_true, Int.reduceBEq, _root_.cond_true, _root_.cond_false]
  simp only [inlB_inl, inlB_inr, inlV_inl, inrQ_inr, Option.isSome_some, getD_some, _root_.cond_true, _root_.cond_false, Bool.not_true, Bool.not_false]
  cases hf == 0 <;> cases ht == 0 <;> cases x == 0 <;> cases y == 0 <;> cases r == 0 <;> cases n == 0 <;> cases s == [] <;> rfl
 ·unfold G58x0x36029 F58x0x36029 G58x0x48041 F58x0x48041 G58x0x60053 F58x0x60053 G58x0x72065 F58x0x72065
  simp only [bnd_eq, V64x0_eq, beq_self_eq_true, Int.reduceBEq, _root_.cond_true, _root_.cond_false]
  cases inI n 1 1000000 <;> (try rfl) <;> simp only [inlB_inl, inlB_inr, inlV_inl, inrQ_inr, Option.isSome_some, getD_some, _root_.cond_true, _root_.cond_false, Bool.not_true, Bool.not_false] <;> cases hf == 0 <;> cases ht == 0 <;> cases x == 0 <;> cases y == 0 <;> cases r == 0 <;> cases s == [] <;> rfl
theorem beq_c (a b : Int) : (a == b) = (b == a) := by rw [Bool.eq_iff_iff]; simp; exact eq_comm
theorem beq_cs (a b : List UInt8) : (a == b) = (b == a) := by rw [Bool.eq_iff_iff]; simp; exact eq_comm
theorem G59x0_eq (hN : maxLen < N) (hs : s.length ≤ maxLen) : G59x0 N fr kd x y r hf ht n s = some (ruleE fr kd x y r hf ht n s) := by
 unfold G59x0 F59x0
 simp only [bnd_eq, V73x0_eq]
 unfold ruleE
 cases hk : inI kd 1 8 with
 | false => rfl
 | true =>
 cases hfr : inI fr 1 3 with
 | false => rfl
 | true =>
 unfold kindE zeroB V59x0x27026 F59x0x27026 V83x0 F83x0 V83x0x15014 F83x0x15014 V59x0x52 F59x0x52 G59x0x58 F59x0x58
 rcases kd_cases hk with rfl | rfl | rfl | rfl | rfl | rfl | rfl | rfl
 ·unfold V59x0x25 F59x0x25
  simp only [bnd_eq, V73x0_eq, beq_self_eq_true, Int.reduceBEq, _root_.cond_true, _root_.cond_false, beq_c 0, beq_cs []]
  cases inI x (-100000000) 100000000 <;> cases inI y (-100000000) 100000000 <;> cases inI r 0 1000000 <;> (try rfl) <;> simp only [inlB_inl, inlB_inr, inlV_inl, inrQ_inr, Option.isSome_some, getD_some, _root_.cond_true, _root_.cond_false, Bool.not_true, Bool.not_false] <;> cases hf == 0 <;> cases ht == 0 <;> cases n == 0 <;> cases s == [] <;> rfl
 ·unfold V59x0x33032 F59x0x33032 V83x0x21020 F83x0x21020
  simp only [bnd_eq, beq_self_eq_true, Int.reduceBEq, _root_.cond_true, _root_.cond_false, beq_c 0, beq_cs []]
  cases decide (hf < 0) <;> cases decide (hf > ht) <;> cases decide (ht ≥ 86400) <;> (try rfl) <;> simp only [inlB_inl, inlB_inr, inlV_inl, inrQ_inr, Option.isSome_some, getD_some, _root_.cond_true, _root_.cond_false, Bool.not_true, Bool.not_false] <;> cases x == 0 <;> cases y == 0 <;> cases r == 0 <;> cases n == 0 <;> cases s == [] <;> rfl
 ·unfold V59x0x33032 F59x0x33032 V59x0x39038 F59x0x39038 V83x0x21020 F83x0x21020 V83x0x24002 F83x0x24002 V83x0x33032 F83x0x33032
  simp only [bnd_eq, V73x0_eq, beq_self_eq_true, Int.reduceBEq, _root_.cond_true, _root_.cond_false, beq_c 0, beq_cs []]
  cases inI n 1 4 <;> (try rfl) <;> simp only [inlB_inl, inlB_inr, inlV_inl, inrQ_inr, Option.isSome_some, getD_some, _root_.cond_true, _root_.cond_false, Bool.not_true, Bool.not_false] <;> cases hf == 0 <;> cases ht == 0 <;> cases x == 0 <;> cases y == 0 <;> cases r == 0 <;> cases s == [] <;> rfl
 ·unfold V59x0x33032 F59x0x33032 V59x0x39038 F59x0x39038 V59x0x44 F59x0x44 V83x0x21020 F83x0x21020 V83x0x24002 F83x0x24002 V83x0x33032 F83x0x33032 V83x0x27002 F83x0x27002 V83x0x38 F83x0x38
  simp only [bnd_eq, V73x0_eq, beq_self_eq_true, Int.reduceBEq, _root_.cond_true, _root_.cond_false, beq_c 0, beq_cs [], G46x0_eq hN hs]
  cases nameB s <;> (try rfl) <;> simp only [inlB_inl, inlB_inr, inlV_inl, inrQ_inr, Option.isSome_some, getD_some, _root_.cond_true, _root_.cond_false, Bool.not_true, Bool.not_false] <;> cases hf == 0 <;> cases ht == 0 <;> cases x == 0 <;> cases y == 0 <;> cases r == 0 <;> cases n == 0 <;> rfl
 ·unfold V59x0x33032 F59x0x33032 V59x0x39038 F59x0x39038 V59x0x44 F59x0x44 V83x0x21020 F83x0x21020 V83x0x24002 F83x0x24002 V83x0x33032 F83x0x33032 V83x0x27002 F83x0x27002
  simp only [bnd_eq, V73x0_eq, beq_self_eq_true, Int.reduceBEq, _root_.cond_true, _root_.cond_false, beq_c 0, beq_cs []]
  cases inI n 1 5 <;> (try rfl) <;> simp only [inlB_inl, inlB_inr, inlV_inl, inrQ_inr, Option.isSome_some, getD_some, _root_.cond_true, _root_.cond_false, Bool.not_true, Bool.not_false] <;> cases hf == 0 <;> cases ht == 0 <;> cases x == 0 <;> cases y == 0 <;> cases r == 0 <;> cases s == [] <;> rfl
 ·unfold V59x0x33032 F59x0x33032 V59x0x39038 F59x0x39038 V59x0x44 F59x0x44 V83x0x21020 F83x0x21020 V83x0x24002 F83x0x24002 V83x0x33032 F83x0x33032 V83x0x27002 F83x0x27002 V83x0x38 F83x0x38
  simp only [bnd_eq, beq_self_eq_true, Int.reduceBEq, _root_.cond_true, _root_.cond_false, beq_c 0, beq_cs []]
  simp only [inlB_inl, inlB_inr, inlV_inl, inrQ_inr, Option.isSome_some, getD_some, _root_.cond_true, _root_.cond_false, Bool.not_true, Bool.not_false]
  cases hf == 0 <;> cases ht == 0 <;> cases x == 0 <;> cases y == 0 <;> cases r == 0 <;> cases n == 0 <;> cases s == [] <;> rfl
 ·unfold V59x0x33032 F59x0x33032 V59x0x39038 F59x0x39038 V59x0x44 F59x0x44 V83x0x21020 F83x0x21020 V83x0x24002 F83x0x24002 V83x0x33032 F83x0x33032 V83x0x27002 F83x0x27002 V83x0x38 F83x0x38
  simp only [bnd_eq, beq_self_eq_true, Int.reduceBEq, _root_.cond_true, _root_.cond_false, beq_c 0, beq_cs []]
  simp only [inlB_inl, inlB_inr, inlV_inl, inrQ_inr, Option.isSome_some, getD_some, _root_.cond_true, _root_.cond_false, Bool.not_true, Bool.not_false]
  cases hf == 0 <;> cases ht == 0 <;> cases x == 0 <;> cases y == 0 <;> cases r == 0 <;> cases n == 0 <;> cases s == [] <;> rfl
 ·unfold V59x0x33032 F59x0x33032 V59x0x39038 F59x0x39038 V59x0x44 F59x0x44 V83x0x21020 F83x0x21020 V83x0x24002 F83x0x24002 V83x0x33032 F83x0x33032 V83x0x27002 F83x0x27002
  simp only [bnd_eq, V73x0_eq, beq_self_eq_true, Int.reduceBEq, _root_.cond_true, _root_.cond_false, beq_c 0, beq_cs []]
  cases inI n 1 1000000 <;> (try rfl) <;> simp only [inlB_inl, inlB_inr, inlV_inl, inrQ_inr, Option.isSome_some, getD_some, _root_.cond_true, _root_.cond_false, Bool.not_true, Bool.not_false] <;> cases hf == 0 <;> cases ht == 0 <;> cases x == 0 <;> cases y == 0 <;> cases r == 0 <;> cases s == [] <;> rfl
end
theorem told_ok : G12x0 18446744073709551616 = some true := by kernel_rfl
end Go.Proofs.Ytngnemeafkmaoaa

/-! Plain laws of chapter 10: Check, covers, Idle, Tidy. -/
namespace Go.Proofs.Ytngnemeafkmaoaa
open Go Go.AM
set_option maxRecDepth 100000
set_option maxHeartbeats 4000000
variable {N : Nat}
/-- A loop over a list's places that carries something along. -/
theorem fold_ind {α A X : Type} {xs : List α} (d : α) {S : Int → A → (Int → A → X) → X} {L : Nat → Int → A → X} (hL : ∀ m w a, L (m + 1) w a = S w a (L m)) (spec : Int → List α → A → X) (Inv : Int → A → Prop) (hlen : xs.length ≤ maxLen)
  (hend : ∀ a kr, Inv xs.length a → S xs.length a kr = spec xs.length [] a)
  (hstep : ∀ (w : Int) (a : A) (kr : Int → A → X), 0 ≤ w → w < xs.length → IntKind.wrap .i64 (w + 1) = w + 1 → inB w xs.length = true → Inv w a → (∀ a', Inv (w + 1) a' → kr (w + 1) a' = spec (w + 1) (xs.drop (w + 1).toNat) a') → S w a kr = spec w (xs.getD w.toNat d :: xs.drop (w + 1).toNat) a)
  (hN : maxLen < N) {a : A} (h0 : Inv 0 a) : L N 0 a = spec 0 xs a := by
 have hm : maxLen = 9223372036854775807 := rfl
 have := loop_ind (A := Int × A) (X := X) (S := fun p kr => S p.1 p.2 (fun w a => kr (w, a))) (L := fun m p => L m p.1 p.2) (fun m p => hL m p.1 p.2) (fun p => spec p.1 (xs.drop p.1.toNat) p.2) (fun p => 0 ≤ p.1 ∧ p.1 ≤ xs.length ∧ Inv p.1 p.2) (fun p => (xs.length - p.1).toNat) (fun ⟨w, a⟩ kr ⟨h0, h1, hi⟩ ih => by
  simp only at h0 h1 hi ih ⊢
  by_cases hw : w < xs.length
  ·rw [drop_at d h0 hw]
   exact hstep w a _ h0 hw (wrapI (by omega) (by omega)) (inB_of h0 hw) hi fun a' ha' => ih (w + 1, a') ⟨by simp only; omega, by simp only; omega, ha'⟩ (by simp only; omega)
  ·have : w = xs.length := by omega
   subst this
   rw [drop_end (by omega)]
   exact hend a _ hi) N (0, a) ⟨Int.le_refl _, by simp only; omega, h0⟩ (by simp only; omega)
 simpa using this
/-! ### Rules -/
abbrev rFrom (x : D) : Int := (x.cell 0).toI
abbrev rKind (x : D) : Int := (x.cell 1).toI
abbrev rX (x : D) : Int := (x.cell 2).toI
abbrev rY (x : D) : Int := (x.cell 3).toI
abbrev rR (x : D) : Int := (x.cell 4).toI
abbrev rHf (x : D) : Int := (x.cell 5).toI
abbrev rHt (x : D) : Int := (x.cell 6).toI
abbrev rN (x : D) : Int := (x.cell 7).toI
abbrev rT (x : D) : List UInt8 := (x.cell 8).toS
def ruleD (x : D) : Int := ruleE (rFrom x) (rKind x) (rX x) (rY x) (rR x) (rHf x) (rHt x) (rN x) (rT x)
def chkV (xs : List D) : Int := bif decide ((xs.length : Int) > 50) then 3 else firstE (fun w => ruleD (xs.getD w.toNat (.i 0))) 0 xs
structure VeilOk (xs : List D) : Prop where
 l : xs.length ≤ maxLen
 t : ∀ x ∈ xs, (rT x).length ≤ maxLen
theorem getD_mem {xs : List D} {w : Int} (h0 : 0 ≤ w) (h1 : w < xs.length) : xs.getD w.toNat (.i 0) ∈ xs := by
 rw [List.getD_eq_getElem?_getD, List.getElem?_eq_getElem (by omega)]; exact List.getElem_mem _
section
variable {xs : List D}
theorem G32x0x12_eq (hN : maxLen < N) (h : VeilOk xs) : G32x0x12 N xs xs.length 0 = some (wayE (firstE (fun w => ruleD (xs.getD w.toNat (.i 0))) 0 xs)) := by
 unfold G32x0x12
 refine (for_ind (.i 0 : D) (S := fun w kr => S32x0x12 N xs xs.length w kr _ _) (L := fun m w => L32x0x12 N xs xs.length m w _ _) (fun m w => rfl) (fun w l => some (wayE (firstE (fun w => ruleD (xs.getD w.toNat (.i 0))) w l))) h.l ?_ ?_ hN).trans rfl
 ·intro kr; simp [S32x0x12, firstE, wayE]
 ·intro w kr h0 h1 hw hi hk
  simp only [S32x0x12, decide_eq_true h1, _root_.cond_true, hi, bnd_eq, hw, hk, G58x0_eq hN (h.t _ (getD_mem h0 h1)), Option.isSome_some, getD_some, wayE_cons]
  unfold ruleD
  generalize ruleE _ _ _ _ _ _ _ _ _ = e
  cases e != 0 <;> rfl
theorem G33x0x12_eq (hN : maxLen < N) (h : VeilOk xs) : G33x0x12 N xs xs.length 0 = some (wayE (firstE (fun w => ruleD (xs.getD w.toNat (.i 0))) 0 xs)) := by
 unfold G33x0x12
 refine (for_ind (.i 0 : D) (S := fun w kr => S33x0x12 N xs xs.length w kr _ _) (L := fun m w => L33x0x12 N xs xs.length m w _ _) (fun m w => rfl) (fun w l => some (wayE (firstE (fun w => ruleD (xs.getD w.toNat (.i 0))) w l))) h.l ?_ ?_ hN).trans rfl
 ·intro kr; simp [S33x0x12, firstE, wayE]
 ·intro w kr h0 h1 hw hi hk
  simp only [S33x0x12, decide_eq_true h1, _root_.cond_true, hi, bnd_eq, hw, hk, G59x0_eq hN (h.t _ (getD_mem h0 h1)), Option.isSome_some, getD_some, wayE_cons]
  unfold ruleD
  generalize ruleE _ _ _ _ _ _ _ _ _ = e
  cases e != 0 <;> rfl
theorem way_chk (b : Bool) (e : Int) : (bif b then some (3 : Int) else bif inlB (some (wayE e)) then some (inlV (some (wayE e))) else bif (inrQ (some (wayE e))).isSome then some 0 else none) = some (bif b then 3 else e) := by
 unfold wayE
 cases b with
 | true => rfl
 | false =>
  cases h : e != 0 with
  | true => rfl
  | false => simp only [bne_eq_false_iff_eq] at h; subst h; rfl
theorem G32x0_eq (hN : maxLen < N) (h : VeilOk xs) : G32x0 N xs = some (chkV xs) := by
 unfold G32x0 F32x0 chkV
 simp only [bnd_eq, G32x0x12_eq hN h]
 exact way_chk _ _
theorem G33x0_eq (hN : maxLen < N) (h : VeilOk xs) : G33x0 N xs = some (chkV xs) := by
 unfold G33x0 F33x0 chkV
 simp only [bnd_eq, G33x0x12_eq hN h]
 exact way_chk _ _
theorem firstE_zero {e : Int → Int} : ∀ {l : List D} {w : Int}, firstE e w l = 0 → ∀ i : Nat, i < l.length → e (w + i) = 0
 | [], _, _, i, hi => by simp at hi
 | _ :: r, w, h, i, hi => by
  simp only [firstE] at h
  cases he : e w != 0 with
  | true => rw [he] at h; simp only [_root_.cond_true] at h; rw [h] at he; cases he
  | false =>
   rw [he] at h
   simp only [_root_.cond_false] at h
   simp only [bne_eq_false_iff_eq] at he
   cases i with
   | zero => simpa using he
   | succ i =>
    have := firstE_zero h i (by simpa using hi)
    rw [show w + ((i + 1 : Nat) : Int) = w + 1 + (i : Int) by omega]
    exact this
/-- A right veil. -/
structure VeilRight (xs : List D) : Prop where
 l : xs.length ≤ 50
 r : ∀ w : Int, 0 ≤ w → w < xs.length → ruleD (xs.getD w.toNat (.i 0)) = 0
theorem right_of (h : chkV xs = 0) : VeilRight xs := by
 unfold chkV at h
 by_cases hl : (xs.length : Int) > 50
 ·rw [decide_eq_true hl] at h; cases h
 ·rw [decide_eq_false hl] at h
  simp only [_root_.cond_false] at h
  refine ⟨by omega, fun w h0 h1 => ?_⟩
  have := firstE_zero h w.toNat (by omega)
  rw [show (0 : Int) + (w.toNat : Int) = w by omega] at this
  exact this
theorem VeilRight.mem (h : VeilRight xs) {x : D} (hx : x ∈ xs) : ruleD x = 0 := by
 obtain ⟨i, hi, rfl⟩ := List.getElem_of_mem hx
 have := h.r i (by omega) (by omega)
 rw [List.getD_eq_getElem?_getD] at this
 simpa [List.getElem?_eq_getElem hi] using this
end
/-- What holds of a right rule. -/
theorem rule_facts {fr kd x y r hf ht n : Int} {s : List UInt8} (h : ruleE fr kd x y r hf ht n s = 0) : inI kd 1 8 = true ∧ inI fr 1 3 = true ∧ kindE kd x y r hf ht n s = 0 ∧ zeroB kd x y r hf ht n s = true := by
 unfold ruleE at h
 cases h1 : inI kd 1 8 with
 | false => rw [h1] at h; cases h
 | true =>
 cases h2 : inI fr 1 3 with
 | false => rw [h1, h2] at h; cases h
 | true =>
 rw [h1, h2] at h
 cases h3 : kindE kd x y r hf ht n s != 0 with
 | true => rw [h3] at h; simp only [Bool.not_true, _root_.cond_false, _root_.cond_true] at h; rw [h] at h3; cases h3
 | false =>
  rw [h3] at h
  cases h4 : zeroB kd x y r hf ht n s with
  | false => rw [h4] at h; cases h
  | true => exact ⟨rfl, rfl, by simpa using h3, rfl⟩
/-! ### covers -/
noncomputable def covD (a b : D) : Bool := V61x0 0 (rFrom a) (rKind a) (rX a) (rY a) (rR a) (rHf a) (rHt a) (rN a) (rT a) (rFrom b) (rKind b) (rX b) (rY b) (rR b) (rHf b) (rHt b) (rN b) (rT b)
theorem V60x0_eq {a b : D} (ha : ruleD a = 0) (hb : ruleD b = 0) : V60x0 N (rFrom a) (rKind a) (rX a) (rY a) (rR a) (rHf a) (rHt a) (rN a) (rT a) (rFrom b) (rKind b) (rX b) (rY b) (rR b) (rHf b) (rHt b) (rN b) (rT b) = covD a b := by
 obtain ⟨a1, _, _, a4⟩ := rule_facts ha
 obtain ⟨b1, _, _, b4⟩ := rule_facts hb
 unfold covD
 generalize rFrom a = fr at *
 generalize rKind a = kd at *
 generalize rX a = x at *
 generalize rY a = y at *
 generalize rR a = r at *
 generalize rHf a = hf at *
 generalize rHt a = ht at *
 generalize rN a = n at *
 generalize rT a = s at *
 generalize rFrom b = fr' at *
 generalize rKind b = kd' at *
 generalize rX b = x' at *
 generalize rY b = y' at *
 generalize rR b = r' at *
 generalize rHf b = hf' at *
 generalize rHt b = ht' at *
 generalize rN b = n' at *
 generalize rT b = s' at *
 unfold V60x0 F60x0 V61x0 F61x0
 cases decide (fr > fr') with
 | true => rfl
 | false =>
 by_cases hk : kd = kd'
 ·subst hk
  have e : (kd != kd) = false := by simp
  rw [e]
  unfold zeroB at a4 b4
  unfold V60x0x30002 F60x0x30002 V60x0x33002 F60x0x33002 V61x0x30002 F61x0x30002
  rcases kd_cases a1 with rfl | rfl | rfl | rfl | rfl | rfl | rfl | rfl
  ·rfl
  ·rfl
  ·simp at a4 b4
   simp [bnd_eq, a4, b4]
  ·simp at a4 b4
   simp [bnd_eq, a4, b4]
  ·simp at a4 b4
   simp [bnd_eq, a4, b4]
  ·rfl
  ·rfl
  ·rfl
 ·have e : (kd != kd') = true := by simpa using hk
  rw [e]
  rfl
section
variable {xs : List D} {k : Int}
end
def eqRu (x y : D) : Bool := ((x.cell 0).toI == (y.cell 0).toI) && (((x.cell 1).toI == (y.cell 1).toI) && (((x.cell 2).toI == (y.cell 2).toI) && (((x.cell 3).toI == (y.cell 3).toI) && (((x.cell 4).toI == (y.cell 4).toI) && ((((x.cell 5).toI == (y.cell 5).toI) && (((x.cell 6).toI == (y.cell 6).toI) && true)) && (((x.cell 7).toI == (y.cell 7).toI) && (((x.cell 8).toS == (y.cell 8).toS) && true)))))))
section
variable {xs ys : List D}
theorem G57x0_eq (hN : maxLen < N) (hl : xs.length ≤ maxLen) : G57x0 N xs ys = some (eqL eqRu xs ys) := by
 unfold G57x0 F57x0 eqL
 rw [len_bne]
 cases h : (xs.length == ys.length) with
 | false => rfl
 | true =>
  have e : G57x0x12 N xs ys xs.length 0 = some (bif zipAll eqRu xs ys then .inr () else .inl ()) := by
   unfold G57x0x12
   refine zip_ind eqRu (S := fun w kr => S57x0x12 N xs ys xs.length w kr _ _) (L := fun m w => L57x0x12 N xs ys xs.length m w _ _) (fun m w => rfl) hl (by simpa using h) (fun kr => by simp [S57x0x12]) (fun w kr h1 h2 h3 => ?_) hN
   unfold S57x0x12
   rw [h1, h2, h3]
   show (bif !(eqRu _ _) then _ else _) = _
   cases eqRu (xs.getD w.toNat (.i 0)) (ys.getD w.toNat (.i 0)) <;> rfl
  rw [e]
  cases zipAll eqRu xs ys <;> rfl
theorem eqRu_refl (l : List D) : eqL eqRu l l = true := eqL_refl (fun x => by simp [eqRu]) l
theorem G29x0_eq (hN : maxLen < N) (hl : xs.length ≤ maxLen) : G29x0 N xs ys = some (eqL eqRu xs ys) := by
 unfold G29x0 F29x0
 rw [G57x0_eq hN hl]; rfl
end
end Go.Proofs.Ytngnemeafkmaoaa

/-! A law's arguments in chapter 10. -/
namespace Go.Proofs.Ytngnemeafkmaoaa
open Go Go.AM
set_option maxRecDepth 100000
set_option maxHeartbeats 4000000
def RuleT (x : D) : Prop := ∃ a b c d e f g h s, x = .a [.i a, .i b, .i c, .i d, .i e, .i f, .i g, .i h, .s s] ∧ s.length ≤ maxLen
def SmpT (x : D) : Prop := ∃ a b c d e f g, x = .a [.i a, .i b, .i c, .i d, .i e, .i f, .i g]
def LapT (x : D) : Prop := ∃ a b s, x = .a [.i a, .i b, .s s] ∧ s.length ≤ maxLen
def TagT (x : D) : Prop := ∃ s, x = .s s ∧ s.length ≤ maxLen
theorem kinds24 : kinds Try.prog 24 = [.sl 70] := by kernel_rfl
theorem kinds70 : kinds Try.prog 70 = [.int .i64, .int .i64, .int .i64, .int .i64, .int .i64, .int .i64, .int .i64, .int .i64, .str] := by kernel_rfl
theorem rule_ok {m : Nat} {x : D} (h : TyEl Try.prog (TyK Try.prog (m + 1)) 70 x) : RuleT x := by
 unfold TyEl at h
 rw [if_pos (show isAggB Try.prog 70 = true by kernel_rfl), kinds70] at h
 obtain ⟨cs, rfl, hc⟩ := h
 obtain ⟨_, _, rfl, h0, hc⟩ := all2_cons hc
 obtain ⟨_, _, rfl, h1, hc⟩ := all2_cons hc
 obtain ⟨_, _, rfl, h2, hc⟩ := all2_cons hc
 obtain ⟨_, _, rfl, h3, hc⟩ := all2_cons hc
 obtain ⟨_, _, rfl, h4, hc⟩ := all2_cons hc
 obtain ⟨_, _, rfl, h5, hc⟩ := all2_cons hc
 obtain ⟨_, _, rfl, h6, hc⟩ := all2_cons hc
 obtain ⟨_, _, rfl, h7, hc⟩ := all2_cons hc
 obtain ⟨_, _, rfl, h8, hc⟩ := all2_cons hc
 obtain rfl := all2_nil hc
 obtain ⟨_, rfl, _⟩ := ty_int h0
 obtain ⟨_, rfl, _⟩ := ty_int h1
 obtain ⟨_, rfl, _⟩ := ty_int h2
 obtain ⟨_, rfl, _⟩ := ty_int h3
 obtain ⟨_, rfl, _⟩ := ty_int h4
 obtain ⟨_, rfl, _⟩ := ty_int h5
 obtain ⟨_, rfl, _⟩ := ty_int h6
 obtain ⟨_, rfl, _⟩ := ty_int h7
 obtain ⟨_, rfl, hl⟩ := ty_str h8
 exact ⟨_, _, _, _, _, _, _, _, _, rfl, hl⟩
/-- A law's veil. -/
structure VeilT (xs : List D) : Prop where
 l : xs.length ≤ maxLen
 t : ∀ x ∈ xs, RuleT x
theorem VeilT.ok {xs : List D} (h : VeilT xs) : VeilOk xs := ⟨h.l, fun x hx => by obtain ⟨_, _, _, _, _, _, _, _, _, rfl, hl⟩ := h.t x hx; exact hl⟩
theorem arg24 {ds : List D} (h : ArgOk Try.prog 6 24 ds) : ∃ nl xs, ds = [.l nl xs] ∧ VeilT xs := by
 unfold ArgOk at h
 rw [kinds24] at h
 obtain ⟨_, _, rfl, h0, h⟩ := all2_cons h
 obtain rfl := all2_nil h
 obtain ⟨nl, xs, rfl, _, l1, e1⟩ := ty_sl (m := 5) h0
 exact ⟨nl, xs, rfl, l1, fun x hx => rule_ok (e1 x hx)⟩
theorem arg70 {ds : List D} (h : ArgOk Try.prog 6 70 ds) : ∃ a b c d e f g k s, ds = [.i a, .i b, .i c, .i d, .i e, .i f, .i g, .i k, .s s] ∧ s.length ≤ maxLen := by
 unfold ArgOk at h
 rw [kinds70] at h
 obtain ⟨_, _, rfl, h0, hc⟩ := all2_cons h
 obtain ⟨_, _, rfl, h1, hc⟩ := all2_cons hc
 obtain ⟨_, _, rfl, h2, hc⟩ := all2_cons hc
 obtain ⟨_, _, rfl, h3, hc⟩ := all2_cons hc
 obtain ⟨_, _, rfl, h4, hc⟩ := all2_cons hc
 obtain ⟨_, _, rfl, h5, hc⟩ := all2_cons hc
 obtain ⟨_, _, rfl, h6, hc⟩ := all2_cons hc
 obtain ⟨_, _, rfl, h7, hc⟩ := all2_cons hc
 obtain ⟨_, _, rfl, h8, hc⟩ := all2_cons hc
 obtain rfl := all2_nil hc
 obtain ⟨_, rfl, _⟩ := ty_int (m := 5) h0
 obtain ⟨_, rfl, _⟩ := ty_int (m := 5) h1
 obtain ⟨_, rfl, _⟩ := ty_int (m := 5) h2
 obtain ⟨_, rfl, _⟩ := ty_int (m := 5) h3
 obtain ⟨_, rfl, _⟩ := ty_int (m := 5) h4
 obtain ⟨_, rfl, _⟩ := ty_int (m := 5) h5
 obtain ⟨_, rfl, _⟩ := ty_int (m := 5) h6
 obtain ⟨_, rfl, _⟩ := ty_int (m := 5) h7
 obtain ⟨_, rfl, hl⟩ := ty_str (m := 5) h8
 exact ⟨_, _, _, _, _, _, _, _, _, rfl, hl⟩
/-- A law's activity. -/
structure ActT (name : List UInt8) (sport start : Int) (smps laps tags : List D) : Prop where
 n : name.length ≤ maxLen
 s : smps.length ≤ maxLen
 l : laps.length ≤ maxLen
 t : tags.length ≤ maxLen
 st : ∀ x ∈ smps, SmpT x
 lt : ∀ x ∈ laps, LapT x
 tt : ∀ x ∈ tags, TagT x
theorem ActT.ok {n : List UInt8} {sp st : Int} {s l t : List D} (h : ActT n sp st s l t) : ActOk n s l t :=
 ⟨h.n, h.s, h.l, h.t, fun x hx => by obtain ⟨_, _, _, rfl, hl⟩ := h.lt x hx; exact hl, fun x hx => by obtain ⟨_, rfl, hl⟩ := h.tt x hx; exact hl⟩
end Go.Proofs.Ytngnemeafkmaoaa

/-! Plain laws of chapter 10: Covers, Both. -/
namespace Go.Proofs.Ytngnemeafkmaoaa
open Go Go.AM
set_option maxRecDepth 100000
set_option maxHeartbeats 4000000
variable {N : Nat}
section
variable {xs : List D}
theorem G62x0_eq (hN : maxLen < N) (hl : xs.length ≤ maxLen) : G62x0 N xs = some (firstE (fun w => (xs.getD w.toNat (.i 0)).toI) 0 xs) := by
 have e : G62x0x9 N 0 xs xs.length 0 = some (wayE (firstE (fun w => (xs.getD w.toNat (.i 0)).toI) 0 xs)) := by
  unfold G62x0x9
  refine (for_ind (.i 0 : D) (S := fun w kr => S62x0x9 N 0 xs xs.length w kr _ _) (L := fun m w => L62x0x9 N 0 xs xs.length m w _ _) (fun m w => rfl) (fun w l => some (wayE (firstE (fun w => (xs.getD w.toNat (.i 0)).toI) w l))) hl ?_ ?_ hN).trans rfl
  ·intro kr; simp [S62x0x9, firstE, wayE]
  ·intro w kr h0 h1 hw hi hk
   simp only [S62x0x9, decide_eq_true h1, _root_.cond_true, hi, hw, hk, wayE_cons]
   cases (xs.getD w.toNat (.i 0)).toI != 0 <;> rfl
 unfold G62x0 F62x0
 rw [e]
 simp only [bnd_eq, wayE]
 generalize firstE (fun w => (xs.getD w.toNat (.i 0)).toI) 0 xs = n
 cases h : n != 0 with
 | true => rfl
 | false => simp only [bne_eq_false_iff_eq] at h; subst h; rfl
end
theorem firstE2 (e : Int → Int) (x y : D) : firstE e 0 [x, y] = bif e 0 != 0 then e 0 else e 1 := by
 simp only [firstE]
 cases e 0 != 0 with
 | true => rfl
 | false =>
  cases h : e (0 + 1) != 0 with
  | true => rfl
  | false => simp only [bne_eq_false_iff_eq] at h; show (0 : Int) = e (0 + 1); exact h.symm
section
variable {a b : Bool} {v u : List D}
theorem G38x0x6_eq (hN : maxLen < N) (hv : VeilOk v) (hu : VeilOk u) : G38x0x6 N 2 [.a [.l a v], .a [.l b u]] 0 = some (wayE (bif chkV v != 0 then chkV v else chkV u)) := by
 have hm : maxLen = 9223372036854775807 := rfl
 unfold G38x0x6
 refine (for_ind (xs := [.a [.l a v], .a [.l b u]]) (.i 0 : D) (S := fun w kr => S38x0x6 N 2 [.a [.l a v], .a [.l b u]] w kr _ _) (L := fun m w => L38x0x6 N 2 [.a [.l a v], .a [.l b u]] m w _ _) (fun m w => rfl) (fun w l => some (wayE (firstE (fun w => chkV ((([D.a [.l a v], .a [.l b u]] : List D).getD w.toNat (.i 0)).cell 0).items) w l))) (by simp [hm]) ?_ ?_ hN).trans (by rw [firstE2]; rfl)
 ·intro kr; simp [S38x0x6, firstE, wayE]
 ·intro w kr h0 h1 hw hi hk
  have hw2 : w < 2 := h1
  have hx : VeilOk ((([D.a [.l a v], .a [.l b u]] : List D).getD w.toNat (.i 0)).cell 0).items := by
   rcases (by omega : w = 0 ∨ w = 1) with rfl | rfl
   ·exact hv
   ·exact hu
  have hlt : decide (w.toNat < ([D.a [.l a v], .a [.l b u]] : List D).length) = true := decide_eq_true (by simp; omega)
  simp only [S38x0x6, decide_eq_true hw2, hlt, _root_.cond_true, hi, hw, hk, bnd_eq, G33x0_eq hN hx, Option.isSome_some, getD_some, wayE_cons]
  cases chkV ((([D.a [.l a v], .a [.l b u]] : List D).getD w.toNat (.i 0)).cell 0).items != 0 <;> rfl
def bothE (v u : List D) : Int := bif chkV v != 0 then chkV v else chkV u
def bothR (v u : List D) : List D × Int := bif bothE v u != 0 then ([], bothE v u) else bif decide (((v.length + u.length : Nat) : Int) > 50) then ([], 3) else (v ++ u, 0)
theorem both_right (h : bothE v u = 0) : VeilRight v ∧ VeilRight u := by
 unfold bothE at h
 cases hc : chkV v != 0 with
 | true => rw [hc] at h; simp only [_root_.cond_true] at h; rw [h] at hc; cases hc
 | false => rw [hc] at h; exact ⟨right_of (by simpa using hc), right_of h⟩
theorem G38x0_eq (hN : maxLen < N) (hv : VeilOk v) (hu : VeilOk u) : ∃ nl, G38x0 N a v b u = some (nl, bothR v u) := by
 have hm : maxLen = 9223372036854775807 := rfl
 have h2 : room = 140737488355328 := rfl
 have h3 : strMax = 9223372036854775807 := rfl
 unfold G38x0 F38x0 bothR
 rw [G38x0x6_eq hN hv hu]
 show ∃ nl, bnd (some (wayE (bothE v u))) _ = _
 simp only [bnd_eq, wayE]
 cases he : bothE v u != 0 with
 | true => exact ⟨true, rfl⟩
 | false =>
  simp only [bne_eq_false_iff_eq] at he
  obtain ⟨r1, r2⟩ := both_right he
  have l1 := r1.l
  have l2 := r2.l
  rw [wrapI (by omega) (by omega)]
  have e : ((v.length : Int) + (u.length : Int)) = ((v.length + u.length : Nat) : Int) := by omega
  rw [e]
  cases hd : decide (((v.length + u.length : Nat) : Int) > 50) with
  | true => exact ⟨true, rfl⟩
  | false =>
   rw [decide_eq_true (show (0 + v.length) * 80 ≤ room by omega), decide_eq_true (show 0 + v.length ≤ strMax by omega), decide_eq_true (show (v.length + u.length) * 80 ≤ room by omega), decide_eq_true (show v.length + u.length ≤ strMax by omega)]
   exact ⟨_, rfl⟩
def sumL : List D → Int → Int
 | [], a => a
 | x :: r, a => sumL r (a + (x.items.length : Int))
def catL : List D → Bool × List D → Bool × List D
 | [], a => a
 | x :: r, a => catL r (x.items.isEmpty && a.1, a.2 ++ x.items)
theorem items_le (l1 : v.length ≤ 50) (l2 : u.length ≤ 50) {w : Int} (h0 : 0 ≤ w) (h1 : w < 2) : (([D.l a v, .l b u] : List D).getD w.toNat (.i 0)).items.length ≤ 50 := by
 rcases (by omega : w = 0 ∨ w = 1) with rfl | rfl
 ·exact l1
 ·exact l2
theorem G63x0x9_eq (hN : maxLen < N) (l1 : v.length ≤ 50) (l2 : u.length ≤ 50) : G63x0x9 N [.l a v, .l b u] (([D.l a v, .l b u] : List D).length : Int) 0 0 = some ((v.length + u.length : Nat) : Int) := by
 have hm : maxLen = 9223372036854775807 := rfl
 unfold G63x0x9
 refine (fold_ind (xs := [.l a v, .l b u]) (.i 0 : D) (A := Int) (S := fun w c kr => S63x0x9 N [.l a v, .l b u] (([D.l a v, .l b u] : List D).length : Int) c w (fun c w => kr w c) _) (L := fun m w c => L63x0x9 N [.l a v, .l b u] (([D.l a v, .l b u] : List D).length : Int) m c w _) (fun m w c => rfl) (fun w l c => some (sumL l c)) (fun w c => 0 ≤ c ∧ c ≤ 50 * w) (by simp [hm]) ?_ ?_ hN (a := 0) (by omega)).trans ?_
 ·intro c kr _; simp [S63x0x9, sumL]
 ·intro w c kr h0 h1 hw hi hc hk
  have := items_le (a := a) (b := b) l1 l2 h0 (show w < 2 from h1)
  have hw2 : w < 2 := h1
  simp only [S63x0x9, decide_eq_true h1, _root_.cond_true, hi, hw, bnd_eq, sumL]
  rw [wrapI (by omega) (by omega), decide_eq_false (by omega)]
  exact hk _ (by omega)
 ·simp only [sumL, D.items]; congr 1; omega
theorem G84x0_eq {n : Nat} (h : n ≤ 100) : ∃ x, G84x0 N (n : Int) = some x ∧ (x = .inl (Nat.beq n 0) ∨ x = .inr ()) := by
 have h2 : room = 140737488355328 := rfl
 have h3 : strMax = 9223372036854775807 := rfl
 unfold G84x0 F84x0 G84x0x17 F84x0x17
 rw [decide_eq_false (by omega : ¬ ((n : Int) < 0)), wrapI (by omega) (by omega)]
 simp only [Int.sub_zero, Int.toNat_natCast, bnd_eq]
 cases hn : decide ((n : Int) > 0) with
 | false => exact ⟨_, rfl, .inr rfl⟩
 | true =>
  rw [decide_eq_true (show (0 : Int) ≤ (n : Int) by omega), decide_eq_true (show n * 80 ≤ room by omega), decide_eq_true (show n ≤ strMax by omega), decide_eq_true (show (0 : Int) ≤ ((List.replicate n _).length : Int) by omega)]
  exact ⟨_, rfl, .inl rfl⟩
theorem G63x0x33_eq (hN : maxLen < N) (l1 : v.length ≤ 50) (l2 : u.length ≤ 50) (c : Bool) : G63x0x33 N [.l a v, .l b u] (([D.l a v, .l b u] : List D).length : Int) 0 c [] = some (catL [.l a v, .l b u] (c, [])) := by
 have hm : maxLen = 9223372036854775807 := rfl
 have h2 : room = 140737488355328 := rfl
 have h3 : strMax = 9223372036854775807 := rfl
 unfold G63x0x33
 refine (fold_ind (xs := [.l a v, .l b u]) (.i 0 : D) (A := Bool × List D) (S := fun w c kr => S63x0x33 N [.l a v, .l b u] (([D.l a v, .l b u] : List D).length : Int) w c.1 c.2 (fun w x y => kr w (x, y)) _) (L := fun m w c => L63x0x33 N [.l a v, .l b u] (([D.l a v, .l b u] : List D).length : Int) m w c.1 c.2 _) (fun m w c => rfl) (fun w l c => some (catL l c)) (fun w c => (c.2.length : Int) ≤ 50 * w) (by simp [hm]) ?_ ?_ hN (a := (c, [])) (by simp))
 ·intro c kr _; simp [S63x0x33, catL]
 ·intro w c kr h0 h1 hw hi hc hk
  have := items_le (a := a) (b := b) l1 l2 h0 (show w < 2 from h1)
  have hw2 : w < 2 := h1
  simp only [S63x0x33, decide_eq_true h1, _root_.cond_true, hi, hw, catL]
  rw [decide_eq_true (show (c.2.length + (([D.l a v, .l b u] : List D).getD w.toNat (.i 0)).items.length) * 80 ≤ room by omega), decide_eq_true (show c.2.length + (([D.l a v, .l b u] : List D).getD w.toNat (.i 0)).items.length ≤ strMax by omega)]
  exact hk (_, c.2 ++ _) (by simp only [List.length_append]; omega)
theorem G37x0_eq (hN : maxLen < N) (hv : VeilOk v) (hu : VeilOk u) : ∃ nl, G37x0 N a v b u = some (nl, bothR v u) := by
 have hm : maxLen = 9223372036854775807 := rfl
 unfold G37x0 F37x0 bothR
 simp only [bnd_eq, G32x0_eq hN hv, G32x0_eq hN hu, Option.isSome_some, getD_some, _root_.cond_true, G62x0_eq (xs := [.i (chkV v), .i (chkV u)]) hN (by simp [hm]), firstE2]
 show ∃ nl, (bif bothE v u != 0 then _ else _) = _
 have eb : (bif (([D.i (chkV v), .i (chkV u)] : List D).getD (0 : Int).toNat (.i 0)).toI != 0 then (([D.i (chkV v), .i (chkV u)] : List D).getD (0 : Int).toNat (.i 0)).toI else (([D.i (chkV v), .i (chkV u)] : List D).getD (1 : Int).toNat (.i 0)).toI) = bothE v u := rfl
 rw [eb]
 cases he : bothE v u != 0 with
 | true => exact ⟨true, rfl⟩
 | false =>
  simp only [bne_eq_false_iff_eq] at he
  obtain ⟨r1, r2⟩ := both_right he
  have l1 := r1.l
  have l2 := r2.l
  have eG : ∃ c, G63x0 N [.l a v, .l b u] = some (catL [.l a v, .l b u] (c, [])) := by
   unfold G63x0 F63x0 G63x0x28 F63x0x28
   simp only [bnd_eq, G63x0x9_eq hN l1 l2, Option.isSome_some, getD_some, _root_.cond_true, G63x0x33_eq hN l1 l2]
   obtain ⟨x, q1, q2⟩ := G84x0_eq (N := N) (n := v.length + u.length) (by omega)
   rw [q1]
   rcases q2 with rfl | rfl
   ·exact ⟨_, rfl⟩
   ·exact ⟨_, rfl⟩
  obtain ⟨c, eG⟩ := eG
  rw [eG]
  simp only [_root_.cond_false, Option.isSome_some, getD_some, _root_.cond_true, catL, D.items, List.nil_append, List.length_append]
  cases decide (((v.length + u.length : Nat) : Int) > 50) with
  | true => exact ⟨_, rfl⟩
  | false => exact ⟨_, rfl⟩
end
/-- The law of Covers and Both. -/
theorem law9 {x0 x1 x2 x3 x4 x5 x6 x7 y0 y1 y2 y3 y4 y5 y6 y7 : Int} {s t : List UInt8} {a b : Bool} {v u : List D} (hs : s.length ≤ maxLen) (ht : t.length ≤ maxLen) (hv : VeilOk v) (hu : VeilOk u) :
  G9x0 18446744073709551616 x0 x1 x2 x3 x4 x5 x6 x7 s y0 y1 y2 y3 y4 y5 y6 y7 t a v b u = some true := by
 have hm : maxLen = 9223372036854775807 := rfl
 have hN : maxLen < 18446744073709551616 := by decide
 have h2 : VeilOk [.a [.i x0, .i x1, .i x2, .i x3, .i x4, .i x5, .i x6, .i x7, .s s], .a [.i y0, .i y1, .i y2, .i y3, .i y4, .i y5, .i y6, .i y7, .s t]] := ⟨by simp [hm], fun x hx => by
  simp only [List.mem_cons, List.not_mem_nil, or_false] at hx
  rcases hx with rfl | rfl
  ·exact hs
  ·exact ht⟩
 have eC : ∃ c : Bool × Int, G35x0 18446744073709551616 x0 x1 x2 x3 x4 x5 x6 x7 s y0 y1 y2 y3 y4 y5 y6 y7 t = some c ∧ G36x0 18446744073709551616 x0 x1 x2 x3 x4 x5 x6 x7 s y0 y1 y2 y3 y4 y5 y6 y7 t = some c := by
  unfold G35x0 F35x0 G36x0 F36x0
  simp only [bnd_eq, G32x0_eq hN h2, G33x0_eq hN h2, Option.isSome_some, getD_some, _root_.cond_true]
  generalize hc : chkV _ = c
  cases hc0 : c != 0 with
  | true => exact ⟨_, rfl, rfl⟩
  | false =>
   simp only [bne_eq_false_iff_eq] at hc0
   subst hc0
   have hr := right_of hc
   have r0 := hr.mem (x := .a [.i x0, .i x1, .i x2, .i x3, .i x4, .i x5, .i x6, .i x7, .s s]) (by simp)
   have r1 := hr.mem (x := .a [.i y0, .i y1, .i y2, .i y3, .i y4, .i y5, .i y6, .i y7, .s t]) (by simp)
   have e := V60x0_eq (N := 18446744073709551616) r0 r1
   refine ⟨_, rfl, ?_⟩
   show some (_, _) = some (_, _)
   exact congrArg some (congrArg (·, (0 : Int)) e.symm)
 obtain ⟨c, e1, e2⟩ := eC
 obtain ⟨n1, e3⟩ := G37x0_eq (a := a) (b := b) hN hv hu
 obtain ⟨n2, e4⟩ := G38x0_eq (a := a) (b := b) hN hv hu
 have hl : (bothR v u).1.length ≤ maxLen := by
  unfold bothR
  cases he : bothE v u != 0 with
  | true => simp
  | false =>
   simp only [bne_eq_false_iff_eq] at he
   have l1 := (both_right he).1.l
   have l2 := (both_right he).2.l
   cases decide (((v.length + u.length : Nat) : Int) > 50) with
   | true => simp
   | false => simp; omega
 unfold G9x0 F9x0 G9x0x16 F9x0x16
 simp only [bnd_eq, e1, e2, e3, e4, Option.isSome_some, _root_.cond_true, getD_some, beq_self_eq_true, G29x0_eq hN hl, eqRu_refl, told_ok]
end Go.Proofs.Ytngnemeafkmaoaa

namespace Go.Proofs.Ytngnemeafkmaoaa
open Go Go.AM
set_option maxRecDepth 100000
set_option maxHeartbeats 4000000
set_option linter.unusedVariables false

theorem Try.own : ownKnob Try.prog.godebug = none := by kernel_rfl
theorem Try.laidOut : laidOutB Try.prog = true := by kernel_rfl
theorem callLaw (dss : List (List D)) (h : All2 (ArgOk Try.prog 6) Try.f9.params.toList dss) : CallOk Try.prog 9 (argVs Try.prog Try.f9.params.toList dss) [] ([.c (.b true)], []) := by
 have hp : Try.f9.params.toList = [70, 70, 24, 24] := by kernel_rfl
 rw [hp] at h ⊢
 match dss, h with
 | [d0, d1, d2, d3], ⟨h0, h1, h2, h3, _⟩ =>
  obtain ⟨x0, x1, x2, x3, x4, x5, x6, x7, s, rfl, hs⟩ := arg70 h0
  obtain ⟨y0, y1, y2, y3, y4, y5, y6, y7, t, rfl, ht⟩ := arg70 h1
  obtain ⟨a, v, rfl, hv⟩ := arg24 h2
  obtain ⟨b, u, rfl, hu⟩ := arg24 h3
  refine ok9x0 18446744073709551616 _ _ (A9x0 18446744073709551616 [.i x0, .i x1, .i x2, .i x3, .i x4, .i x5, .i x6, .i x7, .s s, .i y0, .i y1, .i y2, .i y3, .i y4, .i y5, .i y6, .i y7, .s t, .b a, .l v, .b b, .l u]) (by kernel_rfl) _ ?_
  have e : A9x0 18446744073709551616 [.i x0, .i x1, .i x2, .i x3, .i x4, .i x5, .i x6, .i x7, .s s, .i y0, .i y1, .i y2, .i y3, .i y4, .i y5, .i y6, .i y7, .s t, .b a, .l v, .b b, .l u] = bnd (G9x0 18446744073709551616 x0 x1 x2 x3 x4 x5 x6 x7 s y0 y1 y2 y3 y4 y5 y6 y7 t a v b u) fun q => [(q.isSome, ([.c (.b (q.getD default))], []))] := by kernel_rfl
  rw [e, law9 hs ht hv.ok hu.ok]
  rfl
theorem lawLifted (os : Os) (started : os.Started) (H : Type) (enc : TypeId × Value → H) :
  ReturnsInHanded {} Try.checked os 9 .any (Rows.veilCoversMatchSpecSpec.pre6 enc Try.prog Try.f9 Rows.veilCoversMatchSpecRow.domain false) (Rows.veilCoversMatchSpecSpec.post enc Try.prog Try.f9 false true false false) := by
 refine returnsInHanded_of_change (C := Try.checked) Try.own started (by kernel_rfl) Try.func9
  (ChangeSpec.witness6 (enc := enc) (C := Try.checked) false ⟨#[], #[.agg #[.int .i64 0, .int .i64 0, .int .i64 0, .int .i64 0, .int .i64 0, .int .i64 0, .int .i64 0, .int .i64 0, .string ⟨#[]⟩], .agg #[.int .i64 0, .int .i64 0, .int .i64 0, .int .i64 0, .int .i64 0, .int .i64 0, .int .i64 0, .int .i64 0, .string ⟨#[]⟩], .agg #[.slice none 0 0], .agg #[.slice none 0 0]], []⟩ 8 (by kernel_rfl) (by kernel_rfl) (by kernel_rfl) (by kernel_rfl)) ?_
 intro W base args ds gs before hval hW _ _
 exact law_call (m := 6) (tb := 4) Try.laidOut rfl (by kernel_rfl) (by kernel_rfl) (by kernel_rfl) (fun l hl => by
  rw [show Try.f9.params.size = 4 by kernel_rfl] at hl
  match l, hl with
  | [_, _, _, _], _ => rfl) callLaw hval hW
theorem covers_holds : Rows.VeilCoversMatchSpecSaid :=
 OpenClaim.holds_of_wide 9 Try.f9 rfl rfl rfl rfl rfl rfl rfl ⟨rfl, rfl, rfl, rfl, rfl⟩ rfl rfl rfl rfl rfl (by kernel_rfl) Try.func9 (by kernel_rfl)
  (of_decide_eq_true (by kernel_rfl)) (by unfold Func.isWrapper; first | (rw [if_pos (by decide +kernel)]; kernel_rfl) | (rw [if_neg (by decide +kernel)]; exact ⟨rfl, rfl⟩))
  (fun os started H enc _ => lawLifted os started H enc)
end Go.Proofs.Ytngnemeafkmaoaa

