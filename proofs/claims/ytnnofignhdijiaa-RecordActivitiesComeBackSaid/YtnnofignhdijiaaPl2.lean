/- Proved: for every activity and order of bytes, record.FileOf answers what the reference package answers, and Activity of its file, also made wide, is the activity (RecordActivitiesComeBack returns true and leaves its arguments as they were). Conditions: none beyond those of the given statement. -/
import Derived.Test.YtnnofignhdijiaaPl1
import Derived.KernelRfl
import Derived.Test.YtnnofignhdijiaaRows
set_option linter.all false
set_option maxRecDepth 100000
/-! Plain laws: the file of an activity: typed entries; what Check says. -/
namespace Go.Proofs.Ytnnofignhdijiaa
open Go Go.AM
set_option maxRecDepth 100000
set_option maxHeartbeats 4000000
set_option linter.unusedVariables false
theorem told_ok : G17x0 18446744073709551616 = some true := by kernel_rfl
/-! ### Bytes, entries, typed -/
def ByteL (l : List D) : Prop := ∀ y ∈ l, ByteT y
theorem ByteL.app {xs ys : List D} (h : ByteL xs) (h' : ByteL ys) : ByteL (xs ++ ys) := fun y hy => (List.mem_append.1 hy).elim (h y) (h' y)
theorem bt_T (n i : Int) : ByteT (bt n i) := ⟨_, rfl, by simp only [IntKind.wrap_u8]; omega, by simp only [IntKind.wrap_u8]; omega⟩
theorem nb4_T (n : Int) (big : Bool) : ByteL (nb4 n big) := by
 intro y hy
 cases big <;> (simp only [nb4, _root_.cond_true, _root_.cond_false, List.mem_cons, List.not_mem_nil, or_false] at hy; rcases hy with rfl | rfl | rfl | rfl <;> exact bt_T _ _)
theorem nb2_T (n : Int) (big : Bool) : ByteL (nb2 n big) := by
 intro y hy
 cases big <;> (simp only [nb2, _root_.cond_true, _root_.cond_false, List.mem_cons, List.not_mem_nil, or_false] at hy; rcases hy with rfl | rfl <;> exact bt_T _ _)
theorem nb1_T (n : Int) : ByteL (nb1 n) := by
 intro y hy
 simp only [nb1, List.mem_cons, List.not_mem_nil, or_false] at hy
 subst hy; exact bt_T _ _
theorem txB_T (s : List UInt8) : ByteL (txB s) := by
 refine ByteL.app (fun y hy => ?_) (fun y hy => ?_)
 ·obtain ⟨b, _, rfl⟩ := List.mem_map.1 hy
  exact ⟨_, rfl, by omega, by have := b.toNat_lt; omega⟩
 ·obtain ⟨_, rfl⟩ := List.mem_replicate.1 hy
  exact ⟨0, rfl, by omega, by omega⟩
theorem resB_T (big : Bool) (s : D) : ByteL (resB big s) := by
 unfold resB
 exact (nb4_T _ _).app ((nb4_T _ _).app ((nb4_T _ _).app ((nb2_T _ _).app ((nb2_T _ _).app (nb2_T _ _)))))
theorem defD_T {j g : Int} {fs : List D} {big : Bool} (hj : In64 j) (hg : In64 g) (hl : fs.length ≤ maxLen) (hf : ∀ f ∈ fs, FldT f) : EntT (defD j g fs big) := by
 refine ⟨1, j, 0, false, [.a [.b big, .i g, .l false fs]], true, [], rfl, by unfold In64; omega, hj, by unfold In64; omega, fun h => (by cases h), fun _ => rfl, by show 1 ≤ maxLen; decide, Nat.zero_le _, fun d hd => ?_, fun y hy => (by simp at hy)⟩
 simp only [List.mem_cons, List.not_mem_nil, or_false] at hd
 subst hd
 exact ⟨big, g, false, fs, rfl, hg, fun h => (by cases h), hl, hf⟩
theorem datD_T {k j o : Int} {b : List D} (hk : In64 k) (hj : In64 j) (ho : In64 o) (hl : b.length ≤ maxLen) (hb : ByteL b) : EntT (.a [.i k, .i j, .i o, .l true [], .l false b]) :=
 ⟨k, j, o, true, [], false, b, rfl, hk, hj, ho, fun _ => rfl, fun h => (by cases h), Nat.zero_le _, hl, fun d hd => (by simp at hd), hb⟩
theorem fld_T {a b c : Int} (h : In64 a ∧ In64 b ∧ In64 c) : FldT (.a [.i a, .i b, .i c]) := ⟨a, b, c, rfl, h.1, h.2.1, h.2.2⟩
theorem fs_T : (∀ f ∈ fs0, FldT f) ∧ (∀ f ∈ fs3, FldT f) ∧ (∀ f ∈ fs2, FldT f) ∧ (∀ f ∈ fs1, FldT f) := by
 refine ⟨?_, ?_, ?_, ?_⟩ <;>
 ·intro f hf
  simp only [fs0, fs1, fs2, fs3, tF, List.mem_cons, List.not_mem_nil, or_false] at hf
  rcases hf with rfl | rfl | rfl | rfl | rfl | rfl | rfl <;> exact fld_T (by unfold In64; omega)
section
variable {name : List UInt8} {sport st : Int} {ss ls ts : List D} {big : Bool}
theorem smps_T (h0 : 0 ≤ st) (W : Bool) : ∀ {ss : List D} {prev : Option Int}, (∀ s ∈ ss, SmpG st s) → ∀ x ∈ smpsF W big st prev ss, EntT x
 | [], _, _, x, hx => by simp [smpsF] at hx
 | s :: r, prev, h, x, hx => by
  have hm : maxLen = 9223372036854775807 := rfl
  have hlen : (resB big s).length = 18 := by unfold resB; simp [nb4_len, nb2_len]
  obtain ⟨t, _, _, _, _, _, _, hs, t0, t1, _⟩ := h s (by simp)
  have et : tmA st s = st + t := by rw [hs]; exact wrapI (by show -9223372036854775808 ≤ st + t; omega) (by show st + t ≤ 9223372036854775807; omega)
  simp only [smpsF, List.mem_cons] at hx
  rcases hx with rfl | hx
  ·unfold smpF
   cases (!W && shortP prev s) with
   | true =>
    refine datD_T (by unfold In64; omega) (by unfold In64; omega) ?_ (by rw [hlen]; omega) (resB_T _ _)
    rw [et, Int.tmod_eq_emod_of_nonneg (by omega)]
    unfold In64; omega
   | false => exact datD_T (by unfold In64; omega) (by unfold In64; omega) (by unfold In64; omega) (by rw [List.length_append, nb4_len, hlen]; omega) ((nb4_T _ _).app (resB_T _ _))
  ·exact smps_T h0 W (fun y hy => h y (by simp [hy])) x hx
theorem ifE_mem {xs : List D} {d x : D} (h : x ∈ ifE xs d) : x = d := by
 unfold ifE at h
 cases hd : decide ((xs.length : Int) > 0) with
 | true => rw [hd] at h; simpa using h
 | false => rw [hd] at h; simp at h
theorem filF_T (h : ActG name sport st ss ls ts) (W : Bool) : ∀ x ∈ filF W name sport st ss ls ts big, EntT x := by
 have hm : maxLen = 9223372036854775807 := rfl
 obtain ⟨f0, f3, f2, f1⟩ := fs_T
 intro x hx
 unfold filF at hx
 simp only [List.mem_append, List.mem_cons, List.not_mem_nil, or_false, List.mem_map] at hx
 rcases hx with (((((((rfl | rfl) | hx) | ⟨t, ht, rfl⟩) | hx) | ⟨l, hl, rfl⟩) | hx) | hx)
 ·exact defD_T (by unfold In64; omega) (by unfold In64; omega) (by show 3 ≤ maxLen; omega) f0
 ·exact datD_T (by unfold In64; omega) (by unfold In64; omega) (by unfold In64; omega) (by rw [List.length_append, List.length_append, nb4_len, txB_len h.nm.2.1]; show 4 + (60 + 1) ≤ maxLen; omega) ((nb4_T _ _).app ((txB_T _).app (nb1_T _)))
 ·rw [ifE_mem hx]; exact defD_T (by unfold In64; omega) (by unfold In64; omega) (by show 1 ≤ maxLen; omega) f3
 ·obtain ⟨s, rfl, _, hl, _⟩ := h.tg t ht
  exact datD_T (by unfold In64; omega) (by unfold In64; omega) (by unfold In64; omega) (by show (txB s).length ≤ maxLen; rw [txB_len hl]; omega) (txB_T _)
 ·rw [ifE_mem hx]; exact defD_T (by unfold In64; omega) (by unfold In64; omega) (by show 3 ≤ maxLen; omega) f2
 ·obtain ⟨f, t, n, rfl, _, _, _, _, hn, _⟩ := h.lg l hl
  refine datD_T (by unfold In64; omega) (by unfold In64; omega) (by unfold In64; omega) ?_ ((nb4_T _ _).app ((nb4_T _ _).app (txB_T _)))
  unfold lapB
  rw [List.length_append, List.length_append, nb4_len, nb4_len]
  show 4 + (4 + (txB n).length) ≤ maxLen
  rw [txB_len hn]; omega
 ·rw [ifE_mem hx]; exact defD_T (by unfold In64; omega) (by unfold In64; omega) (by show 7 ≤ maxLen; omega) f1
 ·exact smps_T h.b0 W h.sg x hx
end
/-! ### What Check says -/
def SmpT (s : D) : Prop := ∃ a b c d e f g, s = .a [.i a, .i b, .i c, .i d, .i e, .i f, .i g]
def LapT (l : D) : Prop := ∃ f t n, l = .a [.i f, .i t, .s n]
def TagT (t : D) : Prop := ∃ s, t = .s s
section
variable {name : List UInt8} {sport st : Int} {ss ls ts : List D}
theorem chk_parts (h : chkA name sport st ss ls ts = 0) : nameB name = true ∧ inI sport 1 5 = true ∧ inI st 0 86399999999 = true ∧ (ss.length ≤ 20000 ∧ ls.length ≤ 200 ∧ ts.length ≤ 20) ∧ firstE (smpE st ss) 0 ss = 0 ∧ firstE (lapE (spanD ss) ls) 0 ls = 0 ∧ firstE (tagE ts) 0 ts = 0 := by
 unfold chkA at h
 cases h1 : nameB name with
 | false => rw [h1] at h; exact absurd (show (8 : Int) = 0 from h) (by decide)
 | true =>
 cases h2 : inI sport 1 5 with
 | false => rw [h1, h2] at h; exact absurd (show (7 : Int) = 0 from h) (by decide)
 | true =>
 cases h3 : inI st 0 86399999999 with
 | false => rw [h1, h2, h3] at h; exact absurd (show (9 : Int) = 0 from h) (by decide)
 | true =>
 rw [h1, h2, h3] at h
 simp only [Bool.not_true, _root_.cond_false] at h
 cases h4 : decide ((ss.length : Int) > 20000) || decide ((ls.length : Int) > 200) || decide ((ts.length : Int) > 20) with
 | true => rw [h4] at h; exact absurd (show (3 : Int) = 0 from h) (by decide)
 | false =>
 rw [h4] at h
 simp only [_root_.cond_false] at h
 simp only [Bool.or_eq_false_iff, decide_eq_false_iff_not] at h4
 cases h5 : firstE (smpE st ss) 0 ss != 0 with
 | true => rw [h5] at h; simp only [_root_.cond_true] at h; rw [h] at h5; simp at h5
 | false =>
 rw [h5] at h
 simp only [_root_.cond_false] at h
 cases h6 : firstE (lapE (spanD ss) ls) 0 ls != 0 with
 | true => rw [h6] at h; simp only [_root_.cond_true] at h; rw [h] at h6; simp at h6
 | false =>
 rw [h6] at h
 simp only [_root_.cond_false] at h
 exact ⟨rfl, rfl, rfl, by omega, by simpa using h5, by simpa using h6, h⟩
theorem nameB_ok {s : List UInt8} (h : nameB s = true) : s ≠ [] ∧ s.length ≤ 60 ∧ ∀ c ∈ s, c ≠ 0 := by
 unfold nameB at h
 simp only [Bool.and_eq_true, decide_eq_true_eq, List.all_eq_true] at h
 refine ⟨fun e => by rw [e] at h; simp at h, h.2.2, fun c hc e => ?_⟩
 have := h.1 c hc
 rw [e] at this
 exact absurd this (by decide)
theorem titleB_ok {s : List UInt8} (h : titleB s = true) : s.length ≤ 60 ∧ ∀ c ∈ s, c ≠ 0 := by
 unfold titleB at h
 simp only [Bool.and_eq_true, decide_eq_true_eq, List.all_eq_true] at h
 refine ⟨h.2, fun c hc e => ?_⟩
 have := h.1 c hc
 rw [e] at this
 exact absurd this.1 (by decide)
def atS (ss : List D) (i : Nat) : Int := ((ss.getD i (.i 0)).cell 0).toI
theorem smp_zero (h : firstE (smpE st ss) 0 ss = 0) {i : Nat} (hi : i < ss.length) : (i = 0 → atS ss i = 0) ∧ (0 < i → atS ss (i - 1) < atS ss i) ∧ atS ss i ≤ 1000000 ∧ rngB (ss.getD i (.i 0)) = true := by
 have hz := firstE_zero h i hi
 rw [Int.zero_add] at hz
 unfold smpE at hz
 cases h1 : ordE ss (i : Int) with
 | true => rw [h1] at hz; exact absurd (show (10 : Int) = 0 from hz) (by decide)
 | false =>
  rw [h1] at hz
  simp only [_root_.cond_false, Int.toNat_natCast] at hz
  cases h2 : farB st (ss.getD i (.i 0)) || !rngB (ss.getD i (.i 0)) with
  | true => rw [h2] at hz; exact absurd (show (9 : Int) = 0 from hz) (by decide)
  | false =>
   simp only [Bool.or_eq_false_iff, Bool.not_eq_false'] at h2
   unfold ordE at h1
   unfold farB at h2
   simp only [Bool.or_eq_false_iff, decide_eq_false_iff_not] at h2
   refine ⟨fun hi0 => ?_, fun hi0 => ?_, by unfold atS; omega, h2.2⟩
   ·subst hi0
    simp at h1
    unfold atS
    simpa using h1
   ·have e : ((i : Int) == 0) = false := by rw [beq_eq_false_iff_ne]; omega
    rw [e] at h1
    simp only [_root_.cond_false, Int.toNat_natCast, decide_eq_false_iff_not] at h1
    have e2 : ((i : Int) - 1).toNat = i - 1 := by omega
    rw [e2] at h1
    unfold atS; omega
theorem at_le (h : firstE (smpE st ss) 0 ss = 0) : ∀ (d i : Nat), i + d < ss.length → atS ss i ≤ atS ss (i + d)
 | 0, i, _ => Int.le_refl _
 | d + 1, i, hi => by
  have h1 := at_le h d i (by omega)
  have h2 := (smp_zero h (i := i + (d + 1)) hi).2.1 (by omega)
  rw [show i + (d + 1) - 1 = i + d by omega] at h2
  omega
theorem span_ok (h : firstE (smpE st ss) 0 ss = 0) {i : Nat} (hi : i < ss.length) : 0 ≤ atS ss i ∧ atS ss i ≤ spanD ss ∧ spanD ss ≤ 1000000 := by
 have h0 := at_le h i 0 (by omega)
 have h1 := (smp_zero h (i := 0) (by omega)).1 rfl
 have h2 := at_le h (ss.length - 1 - i) i (by omega)
 have h3 := (smp_zero h (i := ss.length - 1) (by omega)).2.2.1
 rw [show i + (ss.length - 1 - i) = ss.length - 1 by omega] at h2
 rw [Nat.zero_add] at h0
 have e : spanD ss = atS ss (ss.length - 1) := by
  unfold spanD atS
  rw [decide_eq_true (show (ss.length : Int) > 0 by omega), show ((ss.length : Int) - 1).toNat = ss.length - 1 by omega]; rfl
 rw [e]; omega
theorem inc_of (h : firstE (smpE st ss) 0 ss = 0) : ∀ (n k : Nat), k + n = ss.length → Inc (if k = 0 then none else some (atS ss (k - 1))) (ss.drop k)
 | 0, k, hk => by rw [List.drop_eq_nil_of_le (by omega)]; trivial
 | n + 1, k, hk => by
  have hd : ss.drop k = ss.getD k (.i 0) :: ss.drop (k + 1) := by
   rw [List.drop_eq_getElem_cons (by omega), List.getD_eq_getElem?_getD, List.getElem?_eq_getElem (by omega)]; rfl
  have ih := inc_of h n (k + 1) (by omega)
  rw [if_neg (by omega), show k + 1 - 1 = k by omega] at ih
  rw [hd]
  refine ⟨fun p hp => ?_, ih⟩
  by_cases h0 : k = 0
  ·rw [if_pos h0] at hp; cases hp
  ·rw [if_neg h0] at hp
   simp only [Option.some.injEq] at hp
   subst hp
   exact (smp_zero h (i := k) (by omega)).2.1 (by omega)
theorem actG_of (h : chkA name sport st ss ls ts = 0) (hw : ¬ IntKind.wrap .i64 (st + spanD ss) > 4294967294) (hs : ∀ s ∈ ss, SmpT s) (hl : ∀ l ∈ ls, LapT l) (ht : ∀ t ∈ ts, TagT t) : ActG name sport st ss ls ts := by
 obtain ⟨c1, c2, c3, ⟨c4, c5, c6⟩, c7, c8, c9⟩ := chk_parts h
 unfold inI at c2 c3
 simp only [decide_eq_true_eq] at c2 c3
 have hsp : 0 ≤ spanD ss ∧ spanD ss ≤ 1000000 := by
  cases hss : ss with
  | nil => exact ⟨by decide, by decide⟩
  | cons x r =>
   have := span_ok c7 (i := 0) (by rw [hss]; simp)
   rw [← hss]; omega
 have hsum : st + spanD ss ≤ 4294967294 := by
  rw [wrapI (by omega) (by omega)] at hw; omega
 refine ⟨nameB_ok c1, c2, c3.1, by omega, c4, c5, c6, fun s hx => ?_, fun l hx => ?_, fun t hx => ?_, ?_⟩
 ·obtain ⟨i, hi, rfl⟩ := List.getElem_of_mem hx
  have hg : ss.getD i (.i 0) = ss[i] := by rw [List.getD_eq_getElem?_getD, List.getElem?_eq_getElem hi]; rfl
  obtain ⟨_, _, _, r⟩ := smp_zero c7 hi
  obtain ⟨a1, a2, a3⟩ := span_ok c7 hi
  unfold atS at a1 a2
  rw [hg] at r a1 a2
  obtain ⟨a, b, c, d, e, f, g, he⟩ := hs _ hx
  rw [he] at r a1 a2
  have a1 : 0 ≤ a := a1
  have a2 : a ≤ spanD ss := a2
  have r : (inI b (-100000000) 100000000 && inI c (-100000000) 100000000 && inI d (-100000) 100000 && inI e (-1) 300 && inI f (-1) 3000 && inI g (-1) 300) = true := r
  unfold inI at r
  simp only [Bool.and_eq_true, decide_eq_true_eq] at r
  exact ⟨a, b, c, d, e, f, g, he, a1, by omega, ⟨by omega, by omega, by omega, by omega, by omega, by omega⟩⟩
 ·obtain ⟨i, hi, rfl⟩ := List.getElem_of_mem hx
  have hg : ls.getD i (.i 0) = ls[i] := by rw [List.getD_eq_getElem?_getD, List.getElem?_eq_getElem hi]; rfl
  have hz := firstE_zero c8 i hi
  rw [Int.zero_add] at hz
  obtain ⟨f, t, n, he⟩ := hl _ hx
  unfold lapE at hz
  rw [Int.toNat_natCast, hg, he] at hz
  cases h1 : lapR (spanD ss) (.a [.i f, .i t, .s n]) with
  | true => rw [h1] at hz; exact absurd (show (9 : Int) = 0 from hz) (by decide)
  | false =>
   rw [h1] at hz
   simp only [_root_.cond_false] at hz
   cases h2 : lapO ls (i : Int) with
   | true => rw [h2] at hz; exact absurd (show (10 : Int) = 0 from hz) (by decide)
   | false =>
    rw [h2] at hz
    simp only [_root_.cond_false] at hz
    cases h3 : titleB n with
    | false =>
     have hz : (bif titleB n then (0 : Int) else 8) = 0 := hz
     rw [h3] at hz; exact absurd (show (8 : Int) = 0 from hz) (by decide)
    | true =>
     have h1 : (decide (f < 0) || decide (f ≥ t) || decide (t > spanD ss)) = false := h1
     simp only [Bool.or_eq_false_iff, decide_eq_false_iff_not] at h1
     obtain ⟨t1, t2⟩ := titleB_ok h3
     exact ⟨f, t, n, he, by omega, by omega, by omega, by omega, t1, t2⟩
 ·obtain ⟨i, hi, rfl⟩ := List.getElem_of_mem hx
  have hg : ts.getD i (.i 0) = ts[i] := by rw [List.getD_eq_getElem?_getD, List.getElem?_eq_getElem hi]; rfl
  have hz := firstE_zero c9 i hi
  rw [Int.zero_add] at hz
  obtain ⟨s, he⟩ := ht _ hx
  unfold tagE at hz
  rw [Int.toNat_natCast, hg, he] at hz
  cases h3 : nameB s with
  | false =>
   have hz : (bif nameB s then (bif tagO ts i then (10 : Int) else 0) else 8) = 0 := hz
   rw [h3] at hz; exact absurd (show (8 : Int) = 0 from hz) (by decide)
  | true => exact ⟨s, he, nameB_ok h3⟩
 ·exact inc_of c7 ss.length 0 (by omega)
theorem EqE.entD' {x y : D} (h : EqE x y) (he : EntD x) : EntD y := by
 have hm := h.d
 have l : (dX x).length = (dX y).length := by have := congrArg List.length hm; simpa using this
 refine ⟨by show (dX y).length ≤ maxLen; rw [← l]; exact he.d, by show (bX y).length ≤ maxLen; rw [← h.b]; exact he.b, fun d hd => ?_, by show BytesOk (bX y); rw [← h.b]; exact he.y⟩
 have hd : d ∈ dX y := hd
 obtain ⟨j, hj, rfl⟩ := List.getElem_of_mem hd
 have hj' : j < (dX x).length := by omega
 have e2 : nDef (dX x)[j] = nDef (dX y)[j] := by
  have := congrArg (fun l => l[j]?) hm
  simp only [List.getElem?_map, List.getElem?_eq_getElem hj, List.getElem?_eq_getElem hj', Option.map_some, Option.some.injEq] at this
  exact this
 rw [← (nDef_inj e2).2.2]
 exact he.f _ (List.getElem_mem hj')
end
end Go.Proofs.Ytnnofignhdijiaa

namespace Go.Proofs.Ytnnofignhdijiaa
open Go Go.AM
set_option maxRecDepth 100000
set_option maxHeartbeats 4000000
set_option linter.unusedVariables false
theorem law12 {name : List UInt8} {sport st : Int} {ss ls ts : List D} (ha : ActOk name ss ls ts) (hs : ∀ s ∈ ss, SmpT s) (hl : ∀ l ∈ ls, LapT l) (ht : ∀ t ∈ ts, TagT t) (big : Bool) : G12x0 18446744073709551616 name sport st ss ls ts big = some true := by
 have hN : maxLen < 18446744073709551616 := by decide
 have hm : maxLen = 9223372036854775807 := rfl
 have bad : ∀ e : Int, (e != 0) = true → (∃ b, G49x0 18446744073709551616 name sport st ss ls ts big = some (b, [], e)) → (∃ b, G50x0 18446744073709551616 name sport st ss ls ts big = some (b, [], e)) → G12x0 18446744073709551616 name sport st ss ls ts big = some true := by
  rintro e he ⟨b, q1⟩ ⟨b', q2⟩
  unfold G12x0 F12x0
  rw [q1, q2]
  dsimp only [bnd_eq, Option.isSome_some, _root_.cond_true, getD_some]
  rw [G28_refl (N := 18446744073709551616) hN ⟨fun x hx => (by simp at hx), Nat.zero_le _⟩]
  dsimp only [bnd_eq, Option.isSome_some, _root_.cond_true, getD_some]
  rw [show (e != e) = false from by simp, he, told_ok]
  rfl
 cases hc : chkA name sport st ss ls ts != 0 with
 | true =>
  refine bad _ hc ⟨true, ?_⟩ ⟨true, ?_⟩
  ·unfold G49x0 F49x0
   rw [G13x0_eq hN ha]
   dsimp only [bnd_eq, Option.isSome_some, _root_.cond_true, getD_some]
   rw [hc]; rfl
  ·unfold G50x0 F50x0
   rw [G14x0_eq hN ha]
   dsimp only [bnd_eq, Option.isSome_some, _root_.cond_true, getD_some]
   rw [hc]; rfl
 | false =>
 have hz : chkA name sport st ss ls ts = 0 := by simpa using hc
 by_cases hw : IntKind.wrap .i64 (st + spanD ss) > 4294967294
 ·refine bad 9 rfl ⟨true, ?_⟩ ⟨true, ?_⟩
  ·unfold G49x0 F49x0
   rw [G13x0_eq hN ha, hz, G54x0_eq ha.s]
   dsimp only [bnd_eq, Option.isSome_some, _root_.cond_true, getD_some]
   rw [decide_eq_true hw]; rfl
  ·unfold G50x0 F50x0
   rw [G14x0_eq hN ha, hz, G111x0_eq ha.s]
   dsimp only [bnd_eq, Option.isSome_some, _root_.cond_true, getD_some]
   rw [decide_eq_true hw]; rfl
 ·have hg := actG_of hz hw hs hl ht
  obtain ⟨⟨b1, q1⟩, b2, q2⟩ := fileOf_both (N := 18446744073709551616) (big := big) hN hg.filOk ha hz hw
  have hT := filF_T (big := big) hg false
  have hD : ∀ x ∈ filF false name sport st ss ls ts big, EntD x := fun x hx => (hT x hx).entD
  have hlen := filF_len (big := big) hg false
  have hF := filF_fileE (big := big) hg false
  obtain ⟨wd, wl⟩ := filF_wide (big := big) hg
  obtain ⟨b3, ys, q3, wy⟩ := widen_prog (N := 18446744073709551616) hN hT hF wl
  have hE : All2 EqE ys (filF true name sport st ss ls ts big) := wy.eq wd
  obtain ⟨n1, n2, n3, a1⟩ := act_prog (N := 18446744073709551616) hN hD
  have hTw : ∀ x ∈ filF true name sport st ss ls ts big, EntD x := fun x hx => (filF_T (big := big) hg true x hx).entD
  have hDy : ∀ x ∈ ys, EntD x := fun x hx => by
   obtain ⟨j, hj, rfl⟩ := List.getElem_of_mem hx
   obtain ⟨y, h1, h2⟩ := hE.get (List.getElem?_eq_getElem hj)
   exact h2.symm.entD' (hTw y (List.mem_of_getElem? h1))
  obtain ⟨m1, m2, m3, a2⟩ := act_prog (N := 18446744073709551616) hN hDy
  rw [filF_act hg hz false] at a1
  rw [actF_eqE hE, filF_act hg hz true] at a2
  have hs := G16x0_eq (N := 18446744073709551616) (n := name) (sp := sport) (st := st) (n' := name) (sp' := sport) (st' := st) (s' := ss) (l' := ls) (t' := ts) hN ha.s ha.l ha.t
  rw [sameA_refl] at hs
  unfold G12x0 F12x0
  rw [q1, q2]
  dsimp only [bnd_eq, Option.isSome_some, _root_.cond_true, getD_some]
  rw [G28_refl (N := 18446744073709551616) hN ⟨hD, by omega⟩]
  dsimp only [bnd_eq, Option.isSome_some, _root_.cond_true, getD_some]
  rw [a1, q3, show ((0 : Int) != 0) = false from rfl]
  dsimp only [bnd_eq, Option.isSome_some, _root_.cond_true, _root_.cond_false, getD_some, Bool.not_true]
  rw [a2]
  dsimp only [bnd_eq, Option.isSome_some, _root_.cond_true, _root_.cond_false, getD_some, Bool.not_true]
  unfold G12x0x31 F12x0x31
  rw [hs, told_ok]
  rfl
/-! ### The law's arguments, typed -/
theorem kinds26 : kinds Try.prog 26 = [.str, .int .i64, .int .i64, .sl 78, .sl 82, .sl 9] := by kernel_rfl
theorem kinds78 : kinds Try.prog 78 = [.int .i64, .int .i64, .int .i64, .int .i64, .int .i64, .int .i64, .int .i64] := by kernel_rfl
theorem kinds82 : kinds Try.prog 82 = [.int .i64, .int .i64, .str] := by kernel_rfl
theorem kinds9 : kinds Try.prog 9 = [.str] := by kernel_rfl
theorem kinds4 : kinds Try.prog 4 = [.bool] := by kernel_rfl
theorem smp_ok {m : Nat} {x : D} (h : TyEl Try.prog (TyK Try.prog (m + 1)) 78 x) : SmpT x := by
 unfold TyEl at h
 have : isAggB Try.prog 78 = true := by kernel_rfl
 rw [if_pos this, kinds78] at h
 obtain ⟨cs, rfl, hc⟩ := h
 obtain ⟨_, _, rfl, h0, hc⟩ := all2_cons hc
 obtain ⟨_, _, rfl, h1, hc⟩ := all2_cons hc
 obtain ⟨_, _, rfl, h2, hc⟩ := all2_cons hc
 obtain ⟨_, _, rfl, h3, hc⟩ := all2_cons hc
 obtain ⟨_, _, rfl, h4, hc⟩ := all2_cons hc
 obtain ⟨_, _, rfl, h5, hc⟩ := all2_cons hc
 obtain ⟨_, _, rfl, h6, hc⟩ := all2_cons hc
 obtain rfl := all2_nil hc
 obtain ⟨a, rfl, _⟩ := ty_int h0
 obtain ⟨b, rfl, _⟩ := ty_int h1
 obtain ⟨c, rfl, _⟩ := ty_int h2
 obtain ⟨d, rfl, _⟩ := ty_int h3
 obtain ⟨e, rfl, _⟩ := ty_int h4
 obtain ⟨f, rfl, _⟩ := ty_int h5
 obtain ⟨g, rfl, _⟩ := ty_int h6
 exact ⟨a, b, c, d, e, f, g, rfl⟩
theorem lap_ok {m : Nat} {x : D} (h : TyEl Try.prog (TyK Try.prog (m + 1)) 82 x) : LapT x ∧ (x.cell 2).toS.length ≤ maxLen := by
 unfold TyEl at h
 have : isAggB Try.prog 82 = true := by kernel_rfl
 rw [if_pos this, kinds82] at h
 obtain ⟨cs, rfl, hc⟩ := h
 obtain ⟨_, _, rfl, h0, hc⟩ := all2_cons hc
 obtain ⟨_, _, rfl, h1, hc⟩ := all2_cons hc
 obtain ⟨_, _, rfl, h2, hc⟩ := all2_cons hc
 obtain rfl := all2_nil hc
 obtain ⟨a, rfl, _⟩ := ty_int h0
 obtain ⟨b, rfl, _⟩ := ty_int h1
 obtain ⟨s, rfl, hl⟩ := ty_str h2
 exact ⟨⟨a, b, s, rfl⟩, hl⟩
theorem tag_ok {m : Nat} {x : D} (h : TyEl Try.prog (TyK Try.prog (m + 1)) 9 x) : TagT x ∧ x.toS.length ≤ maxLen := by
 unfold TyEl at h
 have : isAggB Try.prog 9 = false := by kernel_rfl
 rw [if_neg (by rw [this]; simp), kinds9] at h
 obtain ⟨k, hk, h⟩ := h
 simp only [List.cons.injEq, and_true] at hk
 subst hk
 obtain ⟨s, rfl, hl⟩ := h
 exact ⟨⟨s, rfl⟩, hl⟩
theorem arg26 {ds : List D} (h : ArgOk Try.prog 6 26 ds) : ∃ name sport start a smps b laps c tags, ds = [.s name, .i sport, .i start, .l a smps, .l b laps, .l c tags] ∧ ActOk name smps laps tags ∧ (∀ s ∈ smps, SmpT s) ∧ (∀ l ∈ laps, LapT l) ∧ (∀ t ∈ tags, TagT t) := by
 unfold ArgOk at h
 rw [kinds26] at h
 obtain ⟨_, _, rfl, h0, h⟩ := all2_cons h
 obtain ⟨_, _, rfl, h1, h⟩ := all2_cons h
 obtain ⟨_, _, rfl, h2, h⟩ := all2_cons h
 obtain ⟨_, _, rfl, h3, h⟩ := all2_cons h
 obtain ⟨_, _, rfl, h4, h⟩ := all2_cons h
 obtain ⟨_, _, rfl, h5, h⟩ := all2_cons h
 obtain rfl := all2_nil h
 obtain ⟨name, rfl, hn⟩ := ty_str (m := 5) h0
 obtain ⟨sport, rfl, _⟩ := ty_int (m := 5) h1
 obtain ⟨start, rfl, _⟩ := ty_int (m := 5) h2
 obtain ⟨a, smps, rfl, _, l1, e1⟩ := ty_sl (m := 5) h3
 obtain ⟨b, laps, rfl, _, l2, e2⟩ := ty_sl (m := 5) h4
 obtain ⟨c, tags, rfl, _, l3, e3⟩ := ty_sl (m := 5) h5
 exact ⟨name, sport, start, a, smps, b, laps, c, tags, rfl, ⟨hn, l1, l2, l3, fun x hx => (lap_ok (e2 x hx)).2, fun x hx => (tag_ok (e3 x hx)).2⟩, fun x hx => smp_ok (e1 x hx), fun x hx => (lap_ok (e2 x hx)).1, fun x hx => (tag_ok (e3 x hx)).1⟩
theorem arg4 {ds : List D} (h : ArgOk Try.prog 6 4 ds) : ∃ b, ds = [.b b] := by
 unfold ArgOk at h
 rw [kinds4] at h
 obtain ⟨_, _, rfl, h0, h⟩ := all2_cons h
 obtain rfl := all2_nil h
 obtain ⟨b, rfl⟩ := ty_bool (m := 5) h0
 exact ⟨b, rfl⟩
theorem Try.own : ownKnob Try.prog.godebug = none := by kernel_rfl
theorem Try.laidOut : laidOutB Try.prog = true := by kernel_rfl
theorem callLaw (dss : List (List D)) (h : All2 (ArgOk Try.prog 6) Try.f12.params.toList dss) : CallOk Try.prog 12 (argVs Try.prog Try.f12.params.toList dss) [] ([.c (.b true)], []) := by
 have hp : Try.f12.params.toList = [26, 4] := by kernel_rfl
 rw [hp] at h ⊢
 match dss, h with
 | [d0, d1], ⟨h0, h1, _⟩ =>
  obtain ⟨name, sport, start, a, smps, b, laps, c, tags, rfl, ha, hs, hl, ht⟩ := arg26 h0
  obtain ⟨big, rfl⟩ := arg4 h1
  refine ok12x0 18446744073709551616 _ _ (A12x0 18446744073709551616 [.s name, .i sport, .i start, .b a, .l smps, .b b, .l laps, .b c, .l tags, .b big]) (by kernel_rfl) _ ?_
  have e : A12x0 18446744073709551616 [.s name, .i sport, .i start, .b a, .l smps, .b b, .l laps, .b c, .l tags, .b big] = bnd (G12x0 18446744073709551616 name sport start smps laps tags big) fun q => [(q.isSome, ([.c (.b (q.getD default))], []))] := by kernel_rfl
  rw [e, law12 ha hs hl ht big]
  rfl
theorem lawLifted (os : Os) (started : os.Started) (H : Type) (enc : TypeId × Value → H) :
  ReturnsInHanded {} Try.checked os 12 .any (Rows.recordActivitiesComeBackSpec.pre6 enc Try.prog Try.f12 Rows.recordActivitiesComeBackRow.domain false) (Rows.recordActivitiesComeBackSpec.post enc Try.prog Try.f12 false true false false) := by
 refine returnsInHanded_of_change (C := Try.checked) Try.own started (by kernel_rfl) Try.func12
  (ChangeSpec.witness6 (enc := enc) (C := Try.checked) false ⟨#[], #[.agg #[.string ⟨#[]⟩, .int .i64 0, .int .i64 0, .slice none 0 0, .slice none 0 0, .slice none 0 0], .bool false], []⟩ 8 (by kernel_rfl) (by kernel_rfl) (by kernel_rfl) (by kernel_rfl)) ?_
 intro W base args ds gs before hval hW _ _
 exact law_call (m := 6) (tb := 4) Try.laidOut rfl (by kernel_rfl) (by kernel_rfl) (by kernel_rfl) (fun l hl => by
  rw [show Try.f12.params.size = 2 by kernel_rfl] at hl
  match l, hl with
  | [_, _], _ => rfl) callLaw hval hW
theorem back_holds : Rows.RecordActivitiesComeBackSaid :=
 OpenClaim.holds_of_wide 12 Try.f12 rfl rfl rfl rfl rfl rfl rfl ⟨rfl, rfl, rfl, rfl, rfl⟩ rfl rfl rfl rfl rfl (by kernel_rfl) Try.func12 (by kernel_rfl)
  (of_decide_eq_true (by kernel_rfl)) (by unfold Func.isWrapper; first | (rw [if_pos (by decide +kernel)]; kernel_rfl) | (rw [if_neg (by decide +kernel)]; exact ⟨rfl, rfl⟩))
  (fun os started H enc _ => lawLifted os started H enc)
end Go.Proofs.Ytnnofignhdijiaa

