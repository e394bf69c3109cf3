/- Proved: told() of chapter 7 returns true, reckoned by the machine at its constants. -/
import Derived.Test.YtpnacmnpahjpoaaGreatDoorAm3
import Derived.Below
import Derived.Lib.Join
import Derived.Lib.LaidTab
import Derived.LaidLaws
import Derived.Lib.Split
import Derived.Lib.SplitLaws
import Derived.Lib.ItoaNum
import Derived.Lib.AtoiAll
import Derived.Lib.ConvBytes
import Derived.Sort.Row
import Derived.Lib.Builder
import Derived.Lib.UnsafeStr
import Derived.Shelf.Strings.Builder1
import Derived.Lib.CountLaws
import Derived.Lib.FieldsP
import Derived.Shelf.Strconv.Itoa3
import Derived.Test.YtpnacmnpahjpoaaGreatDoorChecked
import Derived.KernelRfl
import Derived.Shelf.Strings.FieldsFuncAny
import Derived.Tactics
import Derived.Tactics2
import Derived.Defers
import Derived.Recover
set_option linter.all false
set_option maxRecDepth 100000
namespace Go.AM
open Go
end Go.AM

namespace Go.AM
open Go Go.RowKit
section
variable {P : Program}
theorem chg_below {M : Stab} {w w' : World} (h : Below w.heap.size w w') : Chg M w w' :=
 ⟨h.os, h.tape, h.output, h.size, fun b cur T fr hb => ⟨cur, fr, by rw [h.block b (Array.getElem?_eq_some_iff.1 hb).1]; exact hb, rfl, fun _ _ => rfl, .inl rfl⟩,
  fun b ob hb _ => by rw [h.block b (Array.getElem?_eq_some_iff.1 hb).1]; exact hb⟩
theorem callOk_below {f : FuncId} {args rs : List V} (h : ∀ (env : Env) (S : Stab) (w : World) (vs : Array Value), (∀ b o, S b o → b < w.heap.size) → GI P (fun _ _ => False) w → All2 (VRel P env S w) args vs.toList →
  Calls P f vs w fun e w' => ∃ v, e = .returned v ∧ Below w.heap.size w w' ∧ ∀ S', VRel P env S' w' (resultOf rs) v) : CallOk P f args [] (rs, []) := by
 intro B env w vs hpre hall
 refine (h env _ w vs (fun b o hS => hS.2.1) (hpre.rel.gi.step (Chg.refl _ w) fun b o hf => hf.elim) hall).mono fun e w' ⟨v, he, hb, hv⟩ => ⟨v, he, env, ⟨rfl, fun k o hg => (by cases hg), fun k k' o o' hg => (by cases hg), fun k o b x hg => (by cases hg), fun k e ex xs hg => (by cases hg), chg_below hb, hpre.rel.bb, fun _ _ => rfl, hpre.rel.gi⟩, hv _⟩
theorem all2_two {α β : Type} {R : α → β → Prop} {x y : α} {l : List β} (h : All2 R [x, y] l) : ∃ a b, l = [a, b] ∧ R x a ∧ R y b := by
 match l, h with
 | [a, b], ⟨h1, h2, _⟩ => exact ⟨a, b, rfl, h1, h2⟩
theorem all2_one {α β : Type} {R : α → β → Prop} {x : α} {l : List β} (h : All2 R [x] l) : ∃ a, l = [a] ∧ R x a := by
 match l, h with
 | [a], ⟨h1, _⟩ => exact ⟨a, rfl, h1⟩
end
end Go.AM

namespace Go.AM
open Go
theorem TyEl.mono {P : Program} {T T' : CK → D → Prop} {e : TypeId} {x : D} (h : ∀ k d, T k d → T' k d) (hx : TyEl P T e x) : TyEl P T' e x := by
 unfold TyEl at hx ⊢
 split
 ·rename_i ha
  rw [if_pos ha] at hx
  obtain ⟨cs, h1, h2⟩ := hx
  exact ⟨cs, h1, h2.mono fun k d _ => h k d⟩
 ·rename_i ha
  rw [if_neg ha] at hx
  obtain ⟨k, h1, h2⟩ := hx
  exact ⟨k, h1, h k x h2⟩
theorem TyK.succ {P : Program} : ∀ {m : Nat} {k : CK} {d : D}, TyK P m k d → TyK P (m + 1) k d
 | 0, _, _, h => h.elim
 | m + 1, k, d, h => by
  cases k with
  | sl e =>
   obtain ⟨nl, xs, h1, h2, h3, h4⟩ := h
   exact ⟨nl, xs, h1, h2, h3, fun x hx => (h4 x hx).mono fun k d => TyK.succ⟩
  | _ => exact h
theorem TyK.mono {P : Program} {m m' : Nat} {k : CK} {d : D} (hm : m ≤ m') (h : TyK P m k d) : TyK P m' k d := by
 induction hm with
 | refl => exact h
 | step _ ih => exact ih.succ
def okS (Ts : List TypeId) : CK → Bool
 | .sl e => memB e Ts
 | .oth => false
 | _ => true
def okTs (P : Program) (Ts : List TypeId) : Bool := Ts.all fun e => flatB P 12 e && Nat.beq (sizeB P e) (kinds P e).length && (kinds P e).all (okS Ts) && !Nat.beq (sizeB P e) 0
section
variable {H : Type} {enc : TypeId × Value → H} {P : Program} {w : World} {spare : Nat → Bool} {held : Bool} {Ts : List TypeId}
theorem RT.mono {m m' : Nat} (hm : m ≤ m') {kd : CK × D} {v : Value} (h : RT P w m kd v) : RT P w m' kd v := ⟨h.1.mono hm, h.2⟩
theorem bound_lt {Q : Nat → Nat → Prop} (hmono : ∀ i m m', m ≤ m' → Q i m → Q i m') : ∀ n, (∀ i, i < n → ∃ m, Q i m) → ∃ m, ∀ i, i < n → Q i m
 | 0, _ => ⟨0, fun i hi => by omega⟩
 | n + 1, h => by
  obtain ⟨m, h1⟩ := bound_lt hmono n fun i hi => h i (by omega)
  obtain ⟨m', h2⟩ := h n (by omega)
  refine ⟨max m m', fun i hi => ?_⟩
  by_cases hin : i = n
  ·subst hin; exact hmono _ _ _ (Nat.le_max_right _ _) h2
  ·exact hmono _ _ _ (Nat.le_max_left _ _) (h1 i (by omega))
mutual
def szD : D → Nat
 | .l _ xs => szDs xs + 1
 | .a cs => szDs cs + 1
 | .s l => l.length + 1
 | .i _ => 1
 | .b _ => 1
def szDs : List D → Nat
 | [] => 0
 | x :: r => szD x + szDs r
end
theorem szDs_append : ∀ (xs ys : List D), szDs (xs ++ ys) = szDs xs + szDs ys
 | [], ys => by simp [szDs]
 | x :: xs, ys => by simp only [List.cons_append, szDs, szDs_append xs ys]; omega
theorem szDs_map_le {α : Type} {f : α → D} {c : α → Nat} : ∀ {l : List α}, (∀ i ∈ l, szD (f i) ≤ c i) → szDs (l.map f) ≤ (l.map c).sum
 | [], _ => by simp [szDs]
 | x :: l, h => by
  have h1 := h x (by simp)
  have h2 := szDs_map_le (l := l) fun i hi => h i (by simp [hi])
  simp only [List.map_cons, szDs, List.sum_cons]
  omega
structure BulkOk (bk : DataW H → Nat) (bkA : List (DataW H) → Nat) : Prop where
 lit : ∀ l, 1 ≤ bk (.lit l)
 str : ∀ l, l.length + 1 ≤ bk (.lit (.string l))
 nil : 1 ≤ bk .nil
 slice : ∀ e s, bkA e + 1 ≤ bk (.slice e s)
 agg : ∀ p, bkA p + 1 ≤ bk (.agg p)
 nilA : bkA [] = 0
 consA : ∀ d r, bkA (d :: r) = bk d + bkA r
theorem bkA_of {α : Type} {bk : DataW H → Nat} {bkA : List (DataW H) → Nat} (hB : BulkOk bk bkA) {F : α → Option (DataW H × List MemPlace)} : ∀ {l : List α} {ys : List (DataW H × List MemPlace)}, All2 (fun i y => F i = some y) l ys →
  (l.map fun i => ((F i).map fun y => bk y.1).getD 0).sum = bkA (ys.map (·.1))
 | [], [], _ => by simp [hB.nilA]
 | x :: l, y :: ys, ⟨h1, h2⟩ => by
  simp only [List.map_cons, List.sum_cons, h1, Option.map_some, Option.getD_some, hB.consA, bkA_of hB h2]
 | [], _ :: _, h => h.elim
 | _ :: _, [], h => h.elim
theorem szDs_flat {α : Type} {c : α → Nat} : ∀ {fs : List α} {ls : List (List (CK × D))}, All2 (fun f l => szDs (l.map Prod.snd) ≤ c f) fs ls → szDs (ls.flatten.map Prod.snd) ≤ (fs.map c).sum
 | [], [], _ => by simp [szDs]
 | f :: fs, l :: ls, ⟨h1, h2⟩ => by
  have := szDs_flat h2
  simp only [List.flatten_cons, List.map_append, szDs_append, List.map_cons, List.sum_cons]
  omega
 | [], _ :: _, h => h.elim
 | _ :: _, [], h => h.elim
theorem chunksS {R : CK × D → Value → Prop} {ks : List CK} {sz : Nat} {cs : List Value} {c : Nat → Nat} : ∀ (len : Nat), len * sz ≤ cs.length → (∀ i, i < len → ∃ l : List (CK × D), l.map Prod.fst = ks ∧ All2 R l ((cs.drop (i * sz)).take sz) ∧ szDs (l.map Prod.snd) ≤ c i) →
  ∃ l : List (CK × D), l.map Prod.fst = (List.replicate len ks).flatten ∧ All2 R l (cs.take (len * sz)) ∧ szDs (l.map Prod.snd) ≤ ((List.range len).map c).sum
 | 0, _, _ => ⟨[], by simp, by simp [All2], by simp [szDs]⟩
 | len + 1, hl, h => by
  rw [Nat.add_mul, Nat.one_mul] at hl
  obtain ⟨l, h1, h2, h5⟩ := chunksS len (by omega) fun i hi => h i (by omega)
  obtain ⟨l', h3, h4, h6⟩ := h len (by omega)
  refine ⟨l ++ l', ?_, ?_, ?_⟩
  ·rw [List.map_append, h1, h3, List.replicate_succ', List.flatten_append]; simp
  ·rw [Nat.add_mul, Nat.one_mul, List.take_add]
   exact h2.append h4
  ·rw [List.map_append, szDs_append, List.range_succ, List.map_append, List.sum_append]
   simp
   omega
variable {bk : DataW H → Nat} {bkA : List (DataW H) → Nat}
def aggN (P : Program) (T : TypeId) : Nat := bif isAggB P T then 1 else 0
def HR (enc : TypeId × Value → H) (P : Program) (w : World) (spare : Nat → Bool) (held : Bool) (Ts : List TypeId) (bk : DataW H → Nat) (fuel : Nat) : Prop := ∀ (n : Nat) (T : TypeId) (cs : List Value) (d : DataW H) (ps : List MemPlace), flatB P n T = true → (kindsOf P n T).all (okS Ts) = true → DataW.trod enc P w 0 spare held fuel T cs = some (d, ps) →
 ∃ m, ∃ kds : List (CK × D), kds.map Prod.fst = kindsOf P n T ∧ All2 (RT P w m) kds cs ∧ szDs (kds.map Prod.snd) + aggN P T ≤ bk d
theorem trod_rec (hB : BulkOk bk bkA) (hTs : okTs P Ts = true) : ∀ fuel, HR enc P w spare held Ts bk fuel
 | 0 => fun n T cs d ps _ _ h => by cases h
 | fuel + 1 => by
  have ih := trod_rec hB hTs fuel
  intro n T cs d ps hf hk h
  cases n with
  | zero => cases hf
  | succ n =>
  unfold DataW.trod at h
  split at h
  ·rename_i b hu
   simp only [kindsOf, hu] at hk ⊢
   simp only [Option.some.injEq, Prod.mk.injEq] at h
   obtain ⟨rfl, _⟩ := h
   exact ⟨1, [(.bool, .b b)], rfl, ⟨⟨⟨b, rfl⟩, .bool (.b b)⟩, trivial⟩, by rw [show aggN P T = 0 by unfold aggN isAggB; rw [hu]; rfl]; exact hB.lit _⟩
  ·rename_i k k' i hu
   split at h
   ·rename_i hw
    obtain ⟨rfl, hw⟩ := hw
    simp only [kindsOf, hu] at hk ⊢
    simp only [Option.some.injEq, Prod.mk.injEq] at h
    obtain ⟨rfl, _⟩ := h
    exact ⟨1, [(.int k', .i i)], rfl, ⟨⟨⟨i, rfl, hw⟩, .int k' (.i i)⟩, trivial⟩, by rw [show aggN P T = 0 by unfold aggN isAggB; rw [hu]; rfl]; exact hB.lit _⟩
   ·cases h
  all_goals first
   | (rename_i hu; simp [flatB, hu] at hf; done)
   | skip
  ·rename_i x hu
   split at h
   ·rename_i hl
    simp only [kindsOf, hu] at hk ⊢
    simp only [Option.some.injEq, Prod.mk.injEq] at h
    obtain ⟨rfl, _⟩ := h
    exact ⟨1, [(.str, .s x.data.toList)], rfl, ⟨⟨⟨x.data.toList, rfl, by rw [Array.length_toList]; exact hl⟩, by have := RepD.str (P := P) (w := w) (S := Sw w) (.s x.data.toList); simpa [D.toS] using this⟩, trivial⟩, by rw [show aggN P T = 0 by unfold aggN isAggB; rw [hu]; rfl]; exact hB.str _⟩
   ·cases h
  ·rename_i e hu
   simp only [kindsOf, hu] at hk ⊢
   simp only [Option.some.injEq, Prod.mk.injEq] at h
   obtain ⟨rfl, _⟩ := h
   exact ⟨1, [(.sl e, .l true [])], rfl, ⟨⟨⟨true, [], rfl, fun _ => rfl, Nat.zero_le _, fun x hx => by simp at hx⟩, .nil e _ rfl rfl⟩, trivial⟩, by rw [show aggN P T = 0 by unfold aggN isAggB; rw [hu]; rfl]; exact hB.nil⟩
  ·rename_i e a len cap hu
   simp only [kindsOf, hu, List.all_cons, List.all_nil, Bool.and_true] at hk ⊢
   have hq := List.all_eq_true.1 hTs e (memB_iff.1 hk)
   simp only [Bool.and_eq_true] at hq
   obtain ⟨⟨⟨q1, q2⟩, q3⟩, q4⟩ := hq
   dsimp only at h
   split at h
   ·rename_i hc
    obtain ⟨elems, he, h⟩ := Option.bind_eq_some_iff.1 h
    have hx := mapM_some he
    obtain ⟨rest, _, h⟩ := Option.map_eq_some_iff.1 h
    simp only [Prod.mk.injEq] at h
    obtain ⟨rfl, _⟩ := h
    have hbk := bkA_of hB hx
    have hbs := hB.slice (elems.map (·.1)) (rest.map (·.1))
    by_cases h0 : len = 0
    ·subst h0
     exact ⟨1, [(.sl e, .l false [])], rfl, ⟨⟨⟨false, [], rfl, nofun, Nat.zero_le _, nofun⟩, .emp e _ a cap rfl rfl hc.2.2⟩, trivial⟩, by rw [show aggN P T = 0 by unfold aggN isAggB; rw [hu]; rfl]; show szDs [] + 1 + 0 + 0 ≤ _; simp only [szDs]; omega⟩
    ·have q2 : sizeB P e = (kinds P e).length := Nat.eq_of_beq_eq_true q2
     have hsz : 0 < sizeB P e := by
      rcases Nat.eq_zero_or_pos (sizeB P e) with h | h
      ·rw [h] at q4; cases q4
      ·exact h
     have hel0 : ∀ i, ∃ p : Nat × D × (Nat → Value), i < len → TyEl P (TyK P p.1) e p.2.1 ∧ (∀ (j : Nat) (k : CK), (kinds P e)[j]? = some k → w.cell? (a.add (i * sizeB P e + j)) = some (p.2.2 j) ∧ RepD P w (Sw w) k (elD P e p.2.1 j) (p.2.2 j)) ∧ szD p.2.1 ≤ (((w.cells? 0 (a.add (i * P.cellsOf e)) (P.cellsOf e)).bind (DataW.trod enc P w 0 spare held fuel e)).map fun y => bk y.1).getD 0 := by
      intro i
      by_cases hi : i < len
      ·obtain ⟨y, _, hy⟩ := hx.get (List.getElem?_range hi)
       obtain ⟨cs, hcs, hd⟩ := Option.bind_eq_some_iff.1 hy
       obtain ⟨_, hl, hcell⟩ := World.cells?_some hcs
       obtain ⟨m, kds, k1, k2, k3⟩ := ih 12 e cs y.1 y.2 q1 q3 hd
       obtain ⟨x, x1, x2, x3⟩ := elem_rep q1 k1 k2
       refine ⟨(m, x, fun j => cs.getD j undef), fun _ => ⟨x1, fun j k hj => ?_, ?_⟩⟩
       case refine_2 =>
        rw [hy]
        simp only [Option.map_some, Option.getD_some]
        rcases x3 with ⟨ha, rfl⟩ | ⟨ha, x3⟩
        ·unfold aggN at k3; rw [ha] at k3; exact k3
        ·unfold aggN at k3; rw [ha, x3] at k3; simpa [szDs] using k3
       obtain ⟨v, h1, h2⟩ := x2 j k hj
       have hjl := (List.getElem?_eq_some_iff.1 h1).1
       have := hcell j (by omega)
       rw [Addr.add_add, h1] at this
       have e1 : cs.getD j undef = v := by rw [List.getD_eq_getElem?_getD, h1]; rfl
       simp only [e1]
       exact ⟨this, h2⟩
      ·exact ⟨(0, .i 0, fun _ => undef), fun h => absurd h hi⟩
     obtain ⟨g, hg⟩ := Classical.axiomOfChoice hel0
     obtain ⟨m, hm⟩ := bound_lt (Q := fun i m => TyEl P (TyK P m) e (g i).2.1) (fun i m m' hmm h => h.mono fun k d => TyK.mono hmm) len fun i hi => ⟨_, (hg i hi).1⟩
     have hks : 0 < (kinds P e).length := by omega
     have hspot : a.spot = none := by
      have := ((hg 0 (by omega)).2.1 0 _ (List.getElem?_eq_getElem hks)).1
      rw [Nat.zero_mul] at this
      exact World.cell?_spot this
     have hadd : ∀ n, a.add n = ⟨a.block, a.off + n, none⟩ := fun n => by
      unfold Addr.add; split
      ·rename_i h; subst h; cases a; simp_all
      ·rfl
     have hlen : ((List.range len).map fun i => (g i).2.1).length = len := by simp
     refine ⟨m + 1, [(.sl e, .l false ((List.range len).map fun i => (g i).2.1))], rfl, ⟨⟨⟨false, _, rfl, nofun, by rw [hlen]; omega, ?_⟩, ?_⟩, trivial⟩, ?_⟩
     ·intro x hx
      obtain ⟨i, hi, rfl⟩ := List.mem_map.1 hx
      exact hm i (List.mem_range.1 hi)
     ·have ha : a = ⟨a.block, a.off, none⟩ := by cases a; simp_all
      rw [ha]
      have := RepD.sl (P := P) (w := w) (S := Sw w) e (.l false ((List.range len).map fun i => (g i).2.1)) a.block a.off cap (fun i j => (g i).2.2 j) rfl q2 (by simp only [D.items]; omega) hc.2.2
       (fun i hi j hj => by
        simp only [D.items, hlen] at hi
        have := ((hg i hi).2.1 j _ (List.getElem?_eq_getElem hj)).1
        rw [hadd, ← Nat.add_assoc] at this
        exact ⟨cell_lt this, this⟩)
       (fun i hi j k hk => by
        simp only [D.items, hlen] at hi
        have := ((hg i hi).2.1 j k hk).2
        simp only [D.items, List.getD_eq_getElem?_getD, List.getElem?_map, List.getElem?_range hi]
        exact this)
      simpa only [D.items, hlen] using this
     ·have hs := szDs_map_le (f := fun i => (g i).2.1) (l := List.range len) fun i hi => (hg i (List.mem_range.1 hi)).2.2
      rw [hbk] at hs
      rw [show aggN P T = 0 by unfold aggN isAggB; rw [hu]; rfl]
      show szDs _ + 1 + 0 + 0 ≤ _
      omega
   ·cases h
  ·rename_i cs _ _ fs hu
   split at h
   ·rename_i hl
    simp only [flatB, hu, Bool.and_eq_true, List.all_eq_true] at hf
    simp only [kindsOf, hu] at hk ⊢
    obtain ⟨xs, hxs, he⟩ := Option.map_eq_some_iff.1 h
    simp only [Prod.mk.injEq] at he
    obtain ⟨rfl, _⟩ := he
    have hx := mapM_some hxs
    have hbk := bkA_of hB hx
    have hba := hB.agg (xs.map (·.1))
    have hb : ∃ m, ∀ j, j < fs.toList.length → ∀ f, fs.toList[j]? = some f → ∃ l : List (CK × D), l.map Prod.fst = kindsOf P n f.type ∧ All2 (RT P w m) l ((cs.drop f.offset).take (sizeB P f.type)) ∧ szDs (l.map Prod.snd) ≤ ((DataW.trod enc P w 0 spare held fuel f.type ((cs.drop f.offset).take (P.cellsOf f.type))).map fun y => bk y.1).getD 0 := by
     refine bound_lt (Q := fun j m => ∀ f, fs.toList[j]? = some f → ∃ l : List (CK × D), l.map Prod.fst = kindsOf P n f.type ∧ All2 (RT P w m) l ((cs.drop f.offset).take (sizeB P f.type)) ∧ szDs (l.map Prod.snd) ≤ ((DataW.trod enc P w 0 spare held fuel f.type ((cs.drop f.offset).take (P.cellsOf f.type))).map fun y => bk y.1).getD 0) (fun j m m' hmm h f hf => ?_) _ fun j hj => ?_
     ·obtain ⟨l, h1, h2, h3⟩ := h f hf
      exact ⟨l, h1, h2.mono fun _ _ _ => RT.mono hmm, h3⟩
     ·have hjf := List.getElem?_eq_getElem hj
      obtain ⟨y, _, hy⟩ := hx.get hjf
      have hfm := List.mem_of_getElem? hjf
      have hff := hf.2 _ hfm
      have hkf : (kindsOf P n (fs.toList[j]).type).all (okS Ts) = true := by
       rw [List.all_eq_true] at hk ⊢
       exact fun k hkk => hk k (List.mem_flatMap.2 ⟨_, hfm, hkk⟩)
      obtain ⟨m, l, h1, h2, h3⟩ := ih n _ _ y.1 y.2 hff.1 hkf hy
      refine ⟨m, fun f hff => ?_⟩
      rw [hjf] at hff
      cases hff
      exact ⟨l, h1, h2, by rw [hy]; exact Nat.le_trans (Nat.le_add_right _ _) h3⟩
    obtain ⟨m, hb⟩ := hb
    have := contig_split (P := P) (kds := fun f l => l.map Prod.fst = kindsOf P n f.type ∧ szDs (l.map Prod.snd) ≤ ((DataW.trod enc P w 0 spare held fuel f.type ((cs.drop f.offset).take (P.cellsOf f.type))).map fun y => bk y.1).getD 0) (R := RT P w m) hf.1 hl (fun f hfm => by
     obtain ⟨j, hj⟩ := List.getElem?_of_mem hfm
     obtain ⟨l, h1, h2, h3⟩ := hb j (List.getElem?_eq_some_iff.1 hj).1 f hj
     refine ⟨l, ⟨h1, h3⟩, h2, ?_⟩
     have : l.length = (l.map Prod.fst).length := by simp
     rw [this, h1, Nat.eq_of_beq_eq_true (hf.2 f hfm).2])
    obtain ⟨ls, h1, h2⟩ := this
    have hfl := szDs_flat (h1.mono fun f l _ h => h.2)
    rw [hbk] at hfl
    refine ⟨m, ls.flatten, ?_, by simpa using h2, by rw [show aggN P T = 1 by unfold aggN isAggB; rw [hu]; rfl]; omega⟩
    rw [List.map_flatten]
    exact all2_flat (h1.mono fun f l _ h => h.1)
   ·cases h
  ·rename_i cs _ _ len e hu
   split at h
   ·rename_i hl
    simp only [flatB, hu, Bool.and_eq_true] at hf
    simp only [kindsOf, hu] at hk ⊢
    obtain ⟨xs, hxs, he⟩ := Option.map_eq_some_iff.1 h
    simp only [Prod.mk.injEq] at he
    obtain ⟨rfl, _⟩ := he
    have hx := mapM_some hxs
    have hbk := bkA_of hB hx
    have hba := hB.agg (xs.map (·.1))
    have e1 := hl.trans (Nat.eq_of_beq_eq_true hf.1.1)
    have hb : ∃ m, ∀ i, i < len → ∃ l : List (CK × D), l.map Prod.fst = kindsOf P n e ∧ All2 (RT P w m) l ((cs.drop (i * sizeB P e)).take (sizeB P e)) ∧ szDs (l.map Prod.snd) ≤ ((DataW.trod enc P w 0 spare held fuel e ((cs.drop (i * P.cellsOf e)).take (P.cellsOf e))).map fun y => bk y.1).getD 0 := by
     refine bound_lt (Q := fun i m => ∃ l : List (CK × D), l.map Prod.fst = kindsOf P n e ∧ All2 (RT P w m) l ((cs.drop (i * sizeB P e)).take (sizeB P e)) ∧ szDs (l.map Prod.snd) ≤ ((DataW.trod enc P w 0 spare held fuel e ((cs.drop (i * P.cellsOf e)).take (P.cellsOf e))).map fun y => bk y.1).getD 0) (fun i m m' hmm ⟨l, h1, h2, h3⟩ => ⟨l, h1, h2.mono fun _ _ _ => RT.mono hmm, h3⟩) _ fun i hi => ?_
     obtain ⟨y, _, hy⟩ := hx.get (List.getElem?_range hi)
     obtain ⟨m, l, h1, h2, h3⟩ := ih n e _ y.1 y.2 hf.1.2 (by
      rw [List.all_eq_true] at hk ⊢
      refine fun k hkk => hk k ?_
      cases len with
      | zero => omega
      | succ len => rw [List.replicate_succ, List.flatten_cons]; simp [hkk]) hy
     exact ⟨m, l, h1, h2, by rw [hy]; exact Nat.le_trans (Nat.le_add_right _ _) h3⟩
    obtain ⟨m, hb⟩ := hb
    obtain ⟨l, h1, h2, h3⟩ := chunksS (R := RT P w m) (ks := kindsOf P n e) (sz := sizeB P e) len (Nat.le_of_eq e1.symm) hb
    rw [hbk] at h3
    refine ⟨m, l, h1, ?_, by rw [show aggN P T = 1 by unfold aggN isAggB; rw [hu]; rfl]; omega⟩
    rw [← e1, List.take_length] at h2
    exact h2
   ·cases h
  ·cases h
def parR (P : Program) (Ts : List TypeId) (T : TypeId) : Bool := flatB P 12 T && (kinds P T).all (okS Ts) && stB P T
theorem arg_relR {W : World} {env : Env} {S : Stab} {base : Nat} (hB : BulkOk bk bkA) (hTs : okTs P Ts = true) {T : TypeId} {v : Value} {d : DataW H} {ps : List MemPlace} (hp : parR P Ts T = true) (h : DataW.Trod enc P W 0 (fun _ => true) true T v d ps) (ho : Value.okWide P W .any base T v)
  (hk : Keeps W (Sw W) W S) : ∃ m ds, ArgOk P m T ds ∧ VRel P env S W (argV P T ds) v ∧ szDs ds ≤ bk d := by
 unfold parR at hp
 simp only [Bool.and_eq_true] at hp
 obtain ⟨⟨p1, p2⟩, _⟩ := hp
 obtain ⟨fuel, h⟩ := h
 obtain ⟨m, kds, k1, k2, k3⟩ := trod_rec hB hTs fuel 12 T _ d ps p1 p2 h
 have k1 : kds.map Prod.fst = kinds P T := k1
 refine ⟨m, kds.map Prod.snd, ?_, ?_, Nat.le_trans (Nat.le_add_right _ _) k3⟩
 ·unfold ArgOk
  rw [← k1]
  refine .of_get (by simp) fun j x y hx hy => ?_
  rw [List.getElem?_map] at hx hy
  obtain ⟨kd, h1, rfl⟩ := Option.map_eq_some_iff.1 hx
  rw [h1] at hy
  cases hy
  obtain ⟨v, _, hv⟩ := k2.get h1
  exact hv.1
 ·have hz := mkZ_rel (env := env) k2 hk
  rw [k1] at hz
  exact argV_rel p1 ho hz
theorem args_relR {W : World} {env : Env} {S : Stab} {base : Nat} (hB : BulkOk bk bkA) (hTs : okTs P Ts = true) (hk : Keeps W (Sw W) W S) : ∀ {Tl : List TypeId} {vs : List Value} {ds : List (DataW H)} {ps : List MemPlace}, (∀ T ∈ Tl, parR P Ts T = true) → DataW.TrodAll enc P W 0 (fun _ => true) true Tl vs ds ps →
  (∀ (j : Nat) t v, Tl[j]? = some t → vs[j]? = some v → Value.okWide P W .any base t v) → ∃ m dss, All2 (ArgOk P m) Tl dss ∧ All2 (VRel P env S W) (argVs P Tl dss) vs ∧ (dss.map szDs).sum ≤ bkA ds
 | [], vs, ds, ps, _, h, _ => by
  obtain ⟨rfl, rfl, rfl⟩ := ChangeShapes.trodAll_nil h
  exact ⟨0, [], trivial, trivial, by simp⟩
 | T :: Tl, vs, ds, ps, hp, h, ho => by
  obtain ⟨v, vs1, d, ds1, a, b, rfl, rfl, rfl, h1, h2⟩ := ChangeShapes.trodAll_cons h
  obtain ⟨m, x, q1, q2, q5⟩ := arg_relR (env := env) hB hTs (hp T (by simp)) h1 (ho 0 T v rfl rfl) hk
  obtain ⟨m', xs, q3, q4, q6⟩ := args_relR hB hTs hk (fun T hT => hp T (by simp [hT])) h2 (fun j t v ht hv => ho (j + 1) t v (by simpa using ht) (by simpa using hv))
  exact ⟨max m m', x :: xs, ⟨q1.mono fun _ _ _ => TyK.mono (Nat.le_max_left _ _), q3.mono fun _ _ _ h => h.mono fun _ _ _ => TyK.mono (Nat.le_max_right _ _)⟩, ⟨q2, q4⟩, by rw [hB.consA, List.map_cons, List.sum_cons]; omega⟩
theorem law_callR {W : World} {f : FuncId} {fn : Func} {s : ChangeSpec} {apart fresh handsOn again : Bool} {tb : TypeId} (hB : BulkOk bk bkA) (Ts : List TypeId) (hTs : okTs P Ts = true) (hl : laidOutB P = true) (hvars : s.vars = [])
  (hres : fn.resultTypes = #[tb]) (htb : P.underlying tb = some .bool) (hpar : fn.params.all (parR P Ts) = true) (hs : ∀ l, l.length = fn.params.size → s.fn H l = { results := [.lit (.bool true)], args := l })
  {base : Nat} {args : Array Value} {ds gs : List (DataW H)} {before : List MemPlace} (hc : ∀ m dss, All2 (ArgOk P m) fn.params.toList dss → (dss.map szDs).sum ≤ bkA ds → CallOk P f (argVs P fn.params.toList dss) [] ([.c (.b true)], []))
  (hgi : ∀ {M : Stab}, (∀ b o, ¬ M b o) → GI P M W)
  (hok : ∀ (j : Nat) t v, fn.params[j]? = some t → args[j]? = some v → Value.okWide P W .any base t v)
  (hW : DataW.Whole enc P fn.params.toList s.vars apart W args.toList ds gs before) : Calls P f args W fun e W' => ∃ v, e = .returned v ∧ s.post enc P fn apart fresh handsOn again W args v W' := by
 have hpar' : ∀ T ∈ fn.params.toList, parR P Ts T = true := by
  rw [Array.all_eq_true_iff_forall_mem] at hpar
  exact fun T hT => hpar T (by simpa using hT)
 let env : Env := fun _ => ⟨0, 0, none⟩
 have hkeep : Keeps W (Sw W) W (Sof P (Sw W) (Mut0 P env []) W.heap.size env [] W) := fun b o v hS hc => ⟨⟨.inl hS, hS, fun k ob hg => by cases hg⟩, hc⟩
 obtain ⟨p, q, h1, _⟩ := id hW
 obtain ⟨m, dss, d1, d2, d3⟩ := args_relR (env := env) hB hTs hkeep hpar' h1 (fun j t v ht hv => hok j t v (by simpa using ht) (by simpa using hv))
 exact law_end hl hvars hres htb (fun T hT => by
  have := hpar' T hT
  unfold parR at this
  simp only [Bool.and_eq_true] at this
  exact this.2) hs (hc m dss d1 d3) hgi d2 hW
end
end Go.AM

namespace Go.AM
open Go
section
variable {P : Program} {W : World}
def GAt (W : World) (g : Nat) (ps : List (Value → Prop)) : Prop := ∃ cur T fr, W.heap[g]? = some (.cells cur T fr) ∧ cur.size = ps.length ∧ ∀ (o : Nat) p v, ps[o]? = some p → cur[o]? = some v → p v
theorem gi_of {a b c d : Nat} (ha : P.globalNamed "internal/bytealg.MaxLen" = some a) (hb : P.globalNamed "internal/strconv.uint64pow10" = some b) (hc : P.globalNamed "strconv.ErrSyntax" = some c) (hd : P.globalNamed "strconv.ErrRange" = some d)
  (h1 : GAt W a [isIntV]) (h2 : GAt W b ((List.range 20).map fun i v => v = .int .u64 ((10 ^ i : Nat) : Int))) (h3 : GAt W c [isErrV]) (h4 : GAt W d [isErrV]) {M : Stab} (hM : ∀ b o, ¬ M b o) : GI P M W := by
 intro x hx g hg
 refine ⟨hM g, ?_⟩
 simp only [gspecs, List.mem_cons, List.not_mem_nil, or_false] at hx
 rcases hx with rfl | rfl | rfl | rfl
 ·obtain rfl := Option.some.inj (ha.symm.trans hg); exact h1
 ·obtain rfl := Option.some.inj (hb.symm.trans hg); exact h2
 ·obtain rfl := Option.some.inj (hc.symm.trans hg); exact h3
 ·obtain rfl := Option.some.inj (hd.symm.trans hg); exact h4
theorem one_cell {cur : Array Value} {p : Value → Prop} {v0 : Value} (h : cur = #[v0]) (hp : p v0) : ∀ (o : Nat) q v, ([p] : List (Value → Prop))[o]? = some q → cur[o]? = some v → q v := by
 intro o q v hq hv
 subst h
 cases o with
 | zero => simp at hq hv; subst hq hv; exact hp
 | succ o => simp at hv
theorem gat_int {g t : Nat} {zero : Array Value} (hs : W.ShapedOpen P) (hg : g < P.globals.size) (hrow : (((begin P (fun _ _ => 0) default).world.heap[g]?).bind Obj.row?) = some (zero, t)) (hz : zero.size = 1) (hb : P.buildable t = true)
  (hct : P.cellTypes P.depth t = some [t]) (hu : P.underlying t = some (.int .i64)) : GAt W g [isIntV] := by
 obtain ⟨cs, h1, h2, h3⟩ := hs.1 g zero t hg hrow
 obtain ⟨ts, q1, _, q2⟩ := h3 hb
 rw [hct] at q1
 obtain rfl := Option.some.inj q1
 have hsz : cs.size = 1 := h2.trans hz
 have hcl : 0 < cs.size := by omega
 obtain ⟨u, q3, q4⟩ := q2 0 cs[0] (Array.getElem?_eq_getElem hcl)
 obtain rfl : t = u := by simpa using q3
 have hv : isIntV cs[0] := by
  unfold Cell.ok at q4
  rw [hu] at q4
  generalize cs[0] = v at q4 ⊢
  cases v with
  | int k' n => exact ⟨n, by rw [q4.1]⟩
  | _ => exact False.elim q4
 refine ⟨cs, t, _, h1, hsz, one_cell (v0 := cs[0]) ?_ hv⟩
 apply Array.ext
 ·simpa using hsz
 ·intro i hi hi'; simp at hi'; subst hi'; rfl
theorem gat_tab {g : Nat} {name : String} {k : IntKind} {zs : List Int} (hg : P.globalNamed name = some g) (h : Lib.TabIs P W name k zs) {ps : List (Value → Prop)} (hl : ps.length = zs.length) (hp : ∀ (i : Nat) p z, ps[i]? = some p → zs[i]? = some z → p (.int k z)) : GAt W g ps := by
 unfold Lib.TabIs World.var? at h
 rw [hg] at h
 simp only [Option.bind_some] at h
 split at h
 ·rename_i cs T fr hh
  simp only [Option.some.injEq] at h
  subst h
  refine ⟨_, T, fr, hh, by simp [hl], fun o p v q1 q2 => ?_⟩
  simp only [List.getElem?_toArray, List.getElem?_map, Option.map_eq_some_iff] at q2
  obtain ⟨z, q3, rfl⟩ := q2
  exact hp o p z q1 q3
 ·cases h
theorem laid_get {x : String × DataW Unit} : ∀ {l : List (String × DataW Unit)} {ps : List MemPlace}, DataW.LaidVars P W l ps → x ∈ l →
  ∃ g t cs fuel p, P.globalNamed x.1 = some g ∧ (P.globals[g]?).map (·.type) = some t ∧ W.var? P x.1 = some cs ∧ DataW.trod (fun _ => ()) P W 0 (fun _ => true) false fuel t cs.toList = some (x.2, p)
 | (n, d) :: l, ps, h, hx => by
  obtain ⟨g, t, cs, fuel, p, q, h1, h2, h3, h4, h5, _⟩ := h
  rcases List.mem_cons.1 hx with rfl | hx
  ·exact ⟨g, t, cs, fuel, p, h1, h2, h3, h4⟩
  ·exact laid_get h5 hx
def ifaceB (P : Program) (t : TypeId) : Bool := match P.underlying t with
 | some (.interface _) => true
 | _ => false
theorem gat_err {l : List (String × DataW Unit)} {name tn : String} {g t : Nat} {d : DataW Unit} (h : laidMet P l W) (hx : (name, DataW.iface tn d) ∈ l) (hg : P.globalNamed name = some g) (ht : (P.globals[g]?).map (·.type) = some t) (hi : ifaceB P t = true) : GAt W g [isErrV] := by
 obtain ⟨ms, hu⟩ : ∃ ms, P.underlying t = some (.interface ms) := by
  unfold ifaceB at hi
  split at hi
  ·rename_i ms h; exact ⟨ms, h⟩
  ·cases hi
 obtain ⟨ps, hl, _⟩ := h
 obtain ⟨g', t', cs, fuel, p, q1, q2, q3, q4⟩ := laid_get hl hx
 obtain rfl := Option.some.inj (hg.symm.trans q1)
 obtain rfl := Option.some.inj (ht.symm.trans q2)
 unfold World.var? at q3
 rw [hg] at q3
 simp only [Option.bind_some] at q3
 split at q3
 ·rename_i cs' T fr hh
  simp only [Option.some.injEq] at q3
  subst q3
  cases fuel with
  | zero => cases q4
  | succ fuel =>
   unfold DataW.trod at q4
   rw [hu] at q4
   have hone : ∃ u v, cs'.toList = [.iface u v] := by
    generalize hcl : cs'.toList = cl at q4
    match cl, q4 with
    | [.iface u v], _ => exact ⟨u, v, rfl⟩
    | [.nilIface], q4 => simp at q4
   obtain ⟨u, v, hone⟩ := hone
   have : cs' = #[.iface u v] := by rw [← Array.toList_inj]; exact hone
   exact ⟨cs', T, fr, hh, by rw [this]; rfl, one_cell this (.inr ⟨u, v, rfl⟩)⟩
 ·cases q3
end
end Go.AM

namespace Go.AM
open Go Go.RowKit
theorem get_one {α : Type} {k0 k : Nat} {x o : α} (h : get [(k0, x)] k = some o) : k = k0 ∧ o = x := by
 simp only [get, beq_eq'] at h
 by_cases hk : k0 = k
 ·rw [cond_true (by simpa using hk)] at h; exact ⟨hk.symm, (Option.some.inj h).symm⟩
 ·rw [cond_false (by simpa using hk)] at h; cases h
section
variable {P : Program}
def strsD (l : List (List UInt8)) : List D := l.map .s
theorem strs_obj {env : Env} {S : Stab} {w : World} {e : TypeId} (hk : kinds P e = [.str]) (ha : isAggB P e = false) (hsz : sizeB P e = 1) {xs : List (List UInt8)} {ex : Bool} {b cap : Nat} {cur : Array Value}
  (hrow : RowAt w b cur e) (h1 : xs.length ≤ cap) (h2 : cap ≤ maxLen) (h3 : cur.size = cap) (h4 : ∀ (i : Nat) (x : List UInt8), xs[i]? = some x → cur[i]? = some (Value.string ⟨x.toArray⟩)) :
  ObjRel P env S w ⟨b, 0, some (xs.length, cap)⟩ (.row e ex false (strsD xs)) := by
 have hl : (strsD xs).length = xs.length := by simp [strsD]
 refine ⟨by rw [hsz, hk]; rfl, .inr ⟨rfl, rfl, cap, cur, by rw [hl]; rfl, hrow, by rw [hl]; exact h1, h2, by rw [hsz]; omega, fun i j k hi hj => ?_⟩⟩
 rw [hk] at hj
 cases j with
 | succ j => simp at hj
 | zero =>
  simp only [List.getElem?_cons_zero, Option.some.injEq] at hj
  subst hj
  rw [hl] at hi
  have hx := List.getElem?_eq_getElem hi
  refine ⟨_, by rw [hsz, Nat.mul_one, Nat.add_zero]; exact h4 i _ hx, ?_⟩
  have : elD P e ((strsD xs).getD i (.i 0)) 0 = .s xs[i] := by
   unfold elD
   rw [ha]
   simp [strsD, List.getD_eq_getElem?_getD, List.getElem?_map, hx]
  rw [this]
  exact .str (.s xs[i])
theorem callOk_newStrs {f : FuncId} {args : List V} {e : TypeId} (hk : kinds P e = [.str]) (ha : isAggB P e = false) (hsz : sizeB P e = 1) {xs : List (List UInt8)}
  (h : ∀ (env : Env) (S : Stab) (w : World) (vs : Array Value), GI P (fun _ _ => False) w → All2 (VRel P env S w) args vs.toList →
   Calls P f vs w fun en w' => ∃ b cap cur, en = .returned (.slice (some ⟨b, 0, none⟩) xs.length cap) ∧ Below w.heap.size w w' ∧ w.heap.size ≤ b ∧ w'.heap[b]? = some (.cells cur e (0, 0)) ∧ xs.length ≤ cap ∧ cap ≤ maxLen ∧ cur.size = cap ∧ ∀ (i : Nat) (x : List UInt8), xs[i]? = some x → cur[i]? = some (Value.string ⟨x.toArray⟩)) :
  CallOk P f args [] ([.c (.o 0)], [(0, .row e true false (strsD xs))]) := by
 intro B env w vs hpre hall
 refine (h env _ w vs (hpre.rel.gi.step (Chg.refl _ w) fun b o hf => hf.elim) hall).mono fun en w' ⟨b, cap, cur, he, hb, hlt, hcell, h1, h2, h3, h4⟩ => ⟨_, he, upd env 0 ⟨b, 0, some (xs.length, cap)⟩, ⟨rfl, ?_, ?_, ?_, ?_, chg_below hb, hpre.rel.bb, fun k hk => absurd hk (Nat.not_lt_zero _), hpre.rel.gi⟩, ?_⟩
 ·intro k o hg
  obtain ⟨rfl, rfl⟩ := get_one hg
  rw [show upd env 0 ⟨b, 0, some (xs.length, cap)⟩ 0 = ⟨b, 0, some (xs.length, cap)⟩ by simp [upd]]
  exact strs_obj hk ha hsz (.of hcell) h1 h2 h3 h4
 ·intro k k' o o' hg hg' _ _ hne
  exact absurd ((get_one hg).1.trans (get_one hg').1.symm) hne
 ·intro k o b' x hg hm
  obtain ⟨rfl, rfl⟩ := get_one hg
  rw [show upd env 0 ⟨b, 0, some (xs.length, cap)⟩ 0 = ⟨b, 0, some (xs.length, cap)⟩ by simp [upd]] at hm
  obtain ⟨_, rfl, _⟩ := hm
  exact .inr hlt
 ·intro k e' ex ys hg o _
  obtain ⟨rfl, _⟩ := get_one hg
  rw [show upd env 0 ⟨b, 0, some (xs.length, cap)⟩ 0 = ⟨b, 0, some (xs.length, cap)⟩ by simp [upd]]
  exact .inr (.inl hlt)
 ·show _ = Slot.hdr _
  simp [upd, Slot.hdr]
def i64B (n : Int) : Bool := decide (-9223372036854775808 ≤ n) && decide (n ≤ 9223372036854775807)
theorem tab_of {g : Nat} (hg : P.globalNamed "internal/strconv.uint64pow10" = some g) {w : World} (hgi : GI P (fun _ _ => False) w) : Lib.TabIs P w "internal/strconv.uint64pow10" .u64 ((List.range 20).map fun i => ((10 ^ i : Nat) : Int)) := by
 obtain ⟨_, cur, T, fr, q1, q2, q3⟩ := hgi ("internal/strconv.uint64pow10", (List.range 20).map fun i v => v = .int .u64 ((10 ^ i : Nat) : Int)) (by simp [gspecs]) g hg
 unfold Lib.TabIs World.var?
 rw [hg]
 simp only [Option.bind_some, q1, Option.some.injEq]
 simp only [List.length_map, List.length_range] at q2
 refine Array.ext (by simp [q2]) fun i h1 h2 => ?_
 have hi : i < 20 := by omega
 have := q3 i _ _ (by rw [List.getElem?_map, List.getElem?_range hi]; rfl) (Array.getElem?_eq_getElem h1)
 rw [this]
 simp
theorem itoa_ok {f : FuncId} {g : Nat} (hg : P.globalNamed "internal/strconv.uint64pow10" = some g)
  (h : ∀ (n : Int), -9223372036854775808 ≤ n → n ≤ 9223372036854775807 → ∀ w : World, Lib.TabIs P w "internal/strconv.uint64pow10" .u64 ((List.range 20).map fun i => ((10 ^ i : Nat) : Int)) → Calls P f #[.int .i64 n] w fun e w' => e = .returned (.string ⟨(Lib.itoa n).toArray⟩) ∧ Below w.heap.size w w')
  {n : Int} (hn : i64B n = true) : CallOk P f [.c (.i .i64 n)] [] ([.c (.s (Lib.itoa n))], []) := by
 unfold i64B at hn
 rw [Bool.and_eq_true, decide_eq_true_eq, decide_eq_true_eq] at hn
 refine callOk_below fun env S w vs hS hgi hall => ?_
 obtain ⟨v1, hv, r1⟩ := all2_one hall
 have hvs : vs = #[v1] := by rw [← Array.toList_inj]; exact hv
 subst hvs
 have r1 : v1 = .int .i64 n := r1
 subst r1
 exact (h n hn.1 hn.2 w (tab_of hg hgi)).mono fun e w' ⟨he, hw⟩ => ⟨_, he, hw, fun S' => rfl⟩
open Go.Sort in
end
end Go.AM

namespace Go.AM
open Go Go.RowKit
section
variable {P : Program}
end
end Go.AM

set_option maxHeartbeats 1000000
set_option maxRecDepth 100000
namespace Go.Proofs
open Go Go.Shelf Go.RowKit
variable {P : Program} {ρ : Ren}
end Go.Proofs

namespace Go.AM
open Go
end Go.AM

namespace Go.AM
open Go
section
variable {P : Program} {N n0 kb : Nat} {F : Nat → Prop} {B M0 : Stab} {w0 : World} {e0 : Base} {env : Env} {st : St} {a : Act} {w : World}
def bindAll {α : Type} (f : Nat → Option (List α)) : List Nat → Option (List α)
 | [] => some []
 | i :: r => match f i, bindAll f r with
  | some x, some y => some (x ++ y)
  | _, _ => none
theorem bindAll_some {α : Type} {f : Nat → Option (List α)} : ∀ {l : List Nat} {out : List α}, bindAll f l = some out → ∀ i ∈ l, ∃ x, f i = some x ∧ ∀ y ∈ x, y ∈ out
 | [], _, _, i, hi => by cases hi
 | j :: r, out, h, i, hi => by
  simp only [bindAll] at h
  split at h
  ·rename_i x y hx hy
   simp only [Option.some.injEq] at h
   subst h
   rcases List.mem_cons.1 hi with rfl | hi
   ·exact ⟨x, hx, fun z hz => List.mem_append_left _ hz⟩
   ·obtain ⟨x', h1, h2⟩ := bindAll_some hy i hi
    exact ⟨x', h1, fun z hz => List.mem_append_right _ (h2 z hz)⟩
  ·cases h
def quietB (P : Program) (st : St) (o : Oper) : Bool :=
 o.guard.isNone && (match o.op with
  | .move _ => true
  | .assign _ => true
  | .nilCheck x => (match evu st x with | .c (.p _ _) => true | _ => false)
  | .fieldAddr s x f => (match evu st x, fieldOff P s f with | .c (.p _ _), some _ => true | _, _ => false)
  | _ => false)
def findQuiet (P : Program) (ops : Array Oper) (listed : Array Bool) (st : St) : List Nat → Option Nat
 | [] => none
 | i :: r => match ops[i]? with
  | some o => bif quietB P st o && Region.free .any ops listed i && Region.noSelect ops then some i else findQuiet P ops listed st r
  | none => findQuiet P ops listed st r
def anyRun (P : Program) (cl : Oracle) (kb : Nat) (ops : Array Oper) : Nat → Array Bool → St → Option (List St)
 | 0, listed, st => match Region.ready .any ops listed with
  | [] => some [{ st with tmps := mapV untag st.tmps }]
  | _ => none
 | n + 1, listed, st => match Region.ready .any ops listed with
  | [] => some [{ st with tmps := mapV untag st.tmps }]
  | i :: r => match findQuiet P ops listed st (i :: r) with
   | some j => (match ops[j]? with
    | some o => (match guarded P cl kb ops.toList o st some with
     | some st' => anyRun P cl kb ops n (listed.setIfInBounds j true) st'
     | none => none)
    | none => none)
   | none => bindAll (fun i => match ops[i]? with
    | some o => (match guarded P cl kb ops.toList o st some with
     | some st' => anyRun P cl kb ops n (listed.setIfInBounds i true) st'
     | none => none)
    | none => none) (i :: r)
theorem findQuiet_some {ops : Array Oper} {listed : Array Bool} {st : St} : ∀ {l : List Nat} {j : Nat}, findQuiet P ops listed st l = some j → j ∈ l ∧ ∃ o, ops[j]? = some o ∧ quietB P st o = true ∧ Region.free .any ops listed j = true ∧ Region.noSelect ops = true
 | [], j, h => by cases h
 | i :: r, j, h => by
  simp only [findQuiet] at h
  split at h
  ·rename_i o ho
   cases hb : quietB P st o && Region.free .any ops listed i && Region.noSelect ops with
   | true =>
    rw [hb] at h
    simp only [AM.cond_true rfl, Option.some.injEq] at h
    subst h
    simp only [Bool.and_eq_true] at hb
    exact ⟨by simp, o, ho, hb.1.1, hb.1.2, hb.2⟩
   | false =>
    rw [hb] at h
    obtain ⟨h1, h2⟩ := findQuiet_some h
    exact ⟨by simp [h1], h2⟩
  ·obtain ⟨h1, h2⟩ := findQuiet_some h
   exact ⟨by simp [h1], h2⟩
theorem quiet_yields {ops : Array Oper} {o : Oper} (h : Rel P N n0 B M0 w0 F e0 env st a w) (hq : quietB P st o = true) {K : Act → World → Prop} {Q : Exit → Act → World → Prop} (hw : o.wp P a w K Q) (hQ : ∀ c a w, ¬ Q (.panic c) a w) : ∃ v, YieldsFenced P ops o v a ∧ K (a.put o.dst v) w := by
 unfold quietB at hq
 simp only [Bool.and_eq_true] at hq
 obtain ⟨hg, hq⟩ := hq
 have hwant : Region.wanted o (yielded ops a.tmps) = true := by
  have : o.guard = none := by cases hgg : o.guard with
   | none => rfl
   | some _ => rw [hgg] at hg; cases hg
  simp [Region.wanted, this]
 have fin : ∀ v, (∀ w, (execOp a.eval o).run P w = .ok (.value v) w) → (∀ w, o.about P w a.eval = none) → ∃ v, YieldsFenced P ops o v a ∧ K (a.put o.dst v) w := by
  intro v h1 h2
  refine ⟨v, ⟨.inl ⟨hwant, h1⟩, h2⟩, ?_⟩
  unfold Oper.wp at hw
  rw [h1 w] at hw
  exact hw
 split at hq
 ·rename_i x ho
  exact fin (a.eval x) (fun w => by simp [execOp, ho]) fun w => by unfold Oper.about; rw [ho]
 ·rename_i x ho
  exact fin (a.eval x) (fun w => by simp [execOp, ho]) fun w => by unfold Oper.about; rw [ho]
 ·rename_i x ho
  split at hq
  ·rename_i k n hx
   have hv : a.eval x = .pointer (some ⟨(env k).blk, (env k).base + n, none⟩) := by have := h.evu x; rw [hx] at this; exact this
   exact fin _ (fun w => by simp only [execOp, ho, hv]; rfl) fun w => by unfold Oper.about; rw [ho]
  ·cases hq
 ·rename_i s x f ho
  split at hq
  ·rename_i k n m hx hm
   have hv : a.eval x = .pointer (some ⟨(env k).blk, (env k).base + n, none⟩) := by have := h.evu x; rw [hx] at this; exact this
   unfold fieldOff at hm
   split at hm
   ·rename_i fs hu
    split at hm
    ·rename_i fd hfd
     cases hz : Nat.beq (sizeB P fd.type) 0 with
     | true => rw [hz] at hm; cases hm
     | false =>
      have hne : sizeB P fd.type ≠ 0 := by rw [beq_eq'] at hz; simpa using hz
      exact fin (.pointer (some ⟨(env k).blk, (env k).base + n + fd.offset, none⟩)) (fun w => by simp only [execOp, ho, hv, Instr.fieldAt, Sem.run_bind, run_underlying hu, Result.andThen_ok, hfd, Instr.sureAddr, Sem.run_pure, run_fieldPlace hne]) fun w => by unfold Oper.about; rw [ho]
    ·cases hm
   ·cases hm
  ·cases hq
 ·cases hq
theorem rel_untag (h : Rel P N n0 B M0 w0 F e0 env st a w) : Rel P N n0 B M0 w0 F e0 env { st with tmps := mapV untag st.tmps } a w := by
 refine h.tmps fun t x hx => ?_
 rw [get_mapV] at hx
 cases hg : get st.tmps t with
 | none => rw [hg] at hx; cases hx
 | some y =>
  rw [hg] at hx
  simp only [Option.map_some, Option.some.injEq] at hx
  subst hx
  exact VRelA.of (vrelA_untag (h.tm t y hg))
theorem anyRun_sound {cl : Oracle} (hcl : OracleOk P cl) {ops : Array Oper} {Q : Exit → Act → World → Prop} {Fe : Fence} {nn : Nat} (hw : Fe = Fence.wide) (hQP : ∀ c a w, ¬ Q (.panic c) a w) (hF : ∀ k, F k → k < kb) (hd : ∀ o ∈ ops.toList, ∀ d, o.dst = some d → d < N) :
  ∀ (n : Nat) {listed : Array Bool} {env : Env} {st : St} {a : Act} {w : World} {l : List St}, Rel P N n0 B M0 w0 F e0 env st a w → anyRun P cl kb ops n listed st = some l → (∀ s ∈ l, ∀ env a w, Rel P N n0 B M0 w0 F e0 env s a w → Q .normal a w) → wpAnyIn Fe nn P .any ops Q n listed a w
 | 0, listed, env, st, a, w, l, h, hr, hQ => by
  simp only [anyRun] at hr
  split at hr
  ·rename_i he
   simp only [Option.some.injEq] at hr
   subst hr
   exact ⟨he, hQ _ (by simp) _ _ _ (rel_untag h)⟩
  ·cases hr
 | n + 1, listed, env, st, a, w, l, h, hr, hQ => by
  simp only [anyRun] at hr
  split at hr
  ·rename_i he
   simp only [Option.some.injEq] at hr
   subst hr
   refine ⟨fun _ => hQ _ (by simp) _ _ _ (rel_untag h), fun i hi => ?_⟩
   rw [he] at hi
   cases hi
  ·rename_i i0 r0 he
   have hW : WideF Fe := .inl hw
   have hdf : Fe = Fence.wide ∨ ∀ o ∈ ops.toList, ∀ c, o.op ≠ .defer c := .inl hw
   split at hr
   ·rename_i j hj
    obtain ⟨hjr, o, ho, hq, hfree, hsel⟩ := findQuiet_some hj
    rw [ho] at hr
    simp only at hr
    split at hr
    ·rename_i st' hg
     have hmem : o ∈ ops.toList := by have := Array.mem_of_getElem? ho; simpa using this
     have hs := guarded_sound (Q := Q) hcl (freshB_kb hF) h (hd o hmem) hg
     have hgn : o.guard = none := by
      unfold quietB at hq
      simp only [Bool.and_eq_true] at hq
      cases hgg : o.guard with
      | none => rfl
      | some _ => rw [hgg] at hq; cases hq.1
     rw [if_pos (by simp [Region.wanted, hgn])] at hs
     obtain ⟨v, hy, env', st2, q1, q2⟩ := quiet_yields (ops := ops) h hq hs hQP
     simp only [Option.some.injEq] at q2
     subst q2
     exact wpAnyIn_take (by rw [hw]; rfl) ho hsel hfree (by rw [he]; simpa using hjr) (fun c a w hh => absurd hh (hQP _ _ _)) hy (anyRun_sound hcl hw hQP hF hd n q1 hr hQ)
    ·cases hr
   refine ⟨fun h0 => (by rw [he] at h0; cases h0), fun i hi => ?_⟩
   rw [he] at hi
   obtain ⟨x, h1, h2⟩ := bindAll_some hr i hi
   split at h1
   ·rename_i o ho
    split at h1
    ·rename_i st' hg
     have hmem : o ∈ ops.toList := by have := Array.mem_of_getElem? ho; simpa using this
     have hs := guarded_sound (Q := Q) hcl (freshB_kb hF) h (hd o hmem) hg
     have next : ∀ a w, After P N n0 B M0 w0 F e0 some st' a w → wpAnyIn Fe nn P .any ops Q n (listed.setIfInBounds i true) a w := by
      rintro a w ⟨env', st2, q1, q2⟩
      simp only [Option.some.injEq] at q2
      subst q2
      exact anyRun_sound hcl hw hQP hF hd n q1 h1 fun s hs => hQ s (h2 s hs)
     unfold wpOpIn
     rw [ho]
     simp only
     split
     ·rename_i hw
      rw [if_pos hw] at hs
      exact oper_up hW (hdf.imp id fun q => q o hmem) (Oper.wp_mono next hs)
     ·rename_i hw
      rw [if_neg hw] at hs
      exact ⟨fun f _ => hW.fn f, next _ _ hs⟩
    ·cases h1
   ·cases h1

def eqVal : Value → Value → Bool
 | .slice none 0 0, .slice none 0 0 => true
 | .nilIface, .nilIface => true
 | .pointer none, .pointer none => true
 | .nilFunc, .nilFunc => true
 | _, _ => false
theorem eqVal_eq {x y : Value} (h : eqVal x y = true) : x = y := by
 unfold eqVal at h
 split at h <;> first | rfl | cases h
def eqC : C → C → Bool
 | .u, .u => true
 | .i k n, .i k' n' => k == k' && n == n'
 | .b x, .b y => x == y
 | .k x, .k y => x == y
 | .s x, .s y => x == y
 | .sl e n xs, .sl e' n' ys => Nat.beq e e' && n == n' && eqDs xs ys
 | .v x, .v y => eqVal x y
 | .p k o, .p k' o' => Nat.beq k k' && Nat.beq o o'
 | .o k, .o k' => Nat.beq k k'
 | .m k, .m k' => Nat.beq k k'
 | .bs k n, .bs k' n' => Nat.beq k k' && Nat.beq n n'
 | .bx k n, .bx k' n' => Nat.beq k k' && Nat.beq n n'
 | _, _ => false
theorem eqC_eq {x y : C} (h : eqC x y = true) : x = y := by
 unfold eqC at h
 split at h <;> (try simp only [Bool.and_eq_true] at h)
 ·rfl
 ·rw [eq_of_beq h.1, eq_of_beq h.2]
 ·rw [eq_of_beq h]
 ·rw [eq_of_beq h]
 ·rw [eq_of_beq h]
 ·rw [Nat.eq_of_beq_eq_true h.1.1, eq_of_beq h.1.2, eqDs_eq h.2]
 ·rw [eqVal_eq h]
 ·rw [Nat.eq_of_beq_eq_true h.1, Nat.eq_of_beq_eq_true h.2]
 ·rw [Nat.eq_of_beq_eq_true h]
 ·rw [Nat.eq_of_beq_eq_true h]
 ·rw [Nat.eq_of_beq_eq_true h.1, Nat.eq_of_beq_eq_true h.2]
 ·rw [Nat.eq_of_beq_eq_true h.1, Nat.eq_of_beq_eq_true h.2]
 ·cases h
def eqCs : List C → List C → Bool
 | [], [] => true
 | x :: xs, y :: ys => eqC x y && eqCs xs ys
 | _, _ => false
theorem eqCs_eq : ∀ {xs ys : List C}, eqCs xs ys = true → xs = ys
 | [], [], _ => rfl
 | x :: xs, y :: ys, h => by simp only [eqCs, Bool.and_eq_true] at h; rw [eqC_eq h.1, eqCs_eq h.2]
 | [], _ :: _, h => by cases h
 | _ :: _, [], h => by cases h
def eqVv : V → V → Bool
 | .c x, .c y => eqC x y
 | .g xs, .g ys => eqCs xs ys
 | _, _ => false
theorem eqVv_eq {x y : V} (h : eqVv x y = true) : x = y := by
 unfold eqVv at h
 split at h
 ·rw [eqC_eq h]
 ·rw [eqCs_eq h]
 ·cases h
def eqOb : Obj → Obj → Bool
 | .box xs, .box ys => eqCs xs ys
 | .row e ex nl xs, .row e' ex' nl' ys => Nat.beq e e' && ex == ex' && nl == nl' && eqDs xs ys
 | _, _ => false
theorem eqOb_eq {x y : Obj} (h : eqOb x y = true) : x = y := by
 unfold eqOb at h
 split at h
 ·rw [eqCs_eq h]
 ·simp only [Bool.and_eq_true] at h
  rw [Nat.eq_of_beq_eq_true h.1.1.1, eq_of_beq h.1.1.2, eq_of_beq h.1.2, eqDs_eq h.2]
 ·cases h
def eqAL {α : Type} (f : α → α → Bool) : AL α → AL α → Bool
 | [], [] => true
 | (k, x) :: r, (k', y) :: s => Nat.beq k k' && f x y && eqAL f r s
 | _, _ => false
theorem eqAL_eq {α : Type} {f : α → α → Bool} (hf : ∀ x y, f x y = true → x = y) : ∀ {x y : AL α}, eqAL f x y = true → x = y
 | [], [], _ => rfl
 | (k, x) :: r, (k', y) :: s, h => by
  simp only [eqAL, Bool.and_eq_true] at h
  rw [Nat.eq_of_beq_eq_true h.1.1, hf _ _ h.1.2, eqAL_eq hf h.2]
 | [], _ :: _, h => by cases h
 | _ :: _, [], h => by cases h
def eqSt (x y : St) : Bool := eqAL eqVv x.tmps y.tmps && eqAL eqOb x.mem y.mem
theorem eqSt_eq {x y : St} (h : eqSt x y = true) : x = y := by
 unfold eqSt at h
 simp only [Bool.and_eq_true] at h
 cases x; cases y
 simp only [St.mk.injEq]
 exact ⟨eqAL_eq (fun _ _ => eqVv_eq) h.1, eqAL_eq (fun _ _ => eqOb_eq) h.2⟩

theorem rel_moveBox (h : Rel P N n0 B M0 w0 F e0 env st a w) {key key0 : Nat} {ds : List C} (hg : get st.mem key0 = some (.box ds)) (hkey : ¬ F key) :
  Rel P N n0 B M0 w0 F e0 (upd env key (env key0)) (fresh key (.box (ds.map (inval key))) { st with mem := del st.mem key0 }) a w := by
 have hsub : ∀ k ob, get (del st.mem key0) k = some ob → get st.mem k = some ob := fun k ob hk => (get_del_sub k ob hk).2
 refine Rel.new h hsub key hkey _ _ (fun _ _ => False) (Chg.refl _ w) (fun _ _ hf => hf.elim) (fun _ _ _ _ _ => rfl) ?_ ?_ ?_ ?_
 ·intro hk
  exact obj_inval (o := .box ds) hk (fun k hk => by simp [upd, hk]) (fun _ => rfl) (h.ob _ _ hg)
 ·intro b x hm
  exact .inr ⟨key0, _, hg, mutO_inval (key := key) (o := .box ds) |>.1 hm⟩
 ·intro hr k ob _ hk hrk
  obtain ⟨h1, h2⟩ := get_del_sub k ob hk
  exact h.ds k key0 ob _ h2 hg hrk trivial h1
 ·intro e' ex' xs' he x hx
  cases he
def moveCell (P : Program) (kb t key0 ix : Nat) (st : St) : St :=
 match get st.mem key0 with
 | some (.box cs) => (match cs[ix]? with
  | some (.bx key n) => (match get st.mem key with
   | some (.box ds) => bif Nat.beq key (kb + t) || Nat.beq key0 key || Nat.beq key0 (kb + t) then st else
    { fresh (kb + t) (.box (ds.map (inval (kb + t)))) { st with mem := del st.mem key } with mem := set (fresh (kb + t) (.box (ds.map (inval (kb + t)))) { st with mem := del st.mem key }).mem key0 (setCell (get (fresh (kb + t) (.box (ds.map (inval (kb + t)))) { st with mem := del st.mem key }).mem key0) ix (.bx (kb + t) n)) }
   | _ => st)
  | _ => ownCell P kb t key0 ix st)
 | _ => st
theorem moveCell_sound (h : Rel P N n0 B M0 w0 F e0 env st a w) (hF : ∀ k, F k → k < kb) (t key0 ix : Nat) : ∃ env', Rel P N n0 B M0 w0 F e0 env' (moveCell P kb t key0 ix st) a w := by
 have hkey : ¬ F (kb + t) := fun hf => by have := hF _ hf; omega
 unfold moveCell
 split
 ·rename_i cs hb
  split
  ·rename_i key n hcell
   split
   ·rename_i ds hrow
    cases hq : Nat.beq key (kb + t) || Nat.beq key0 key || Nat.beq key0 (kb + t) with
    | true => exact ⟨env, h⟩
    | false =>
     simp only [Bool.or_eq_false_iff, beq_eq', decide_eq_false_iff_not] at hq
     obtain ⟨⟨n1, n2⟩, n3⟩ := hq
     have hm := rel_moveBox h hrow hkey
     have hg : get (fresh (kb + t) (.box (ds.map (inval (kb + t)))) { st with mem := del st.mem key }).mem key0 = some (.box (cs.map (inval (kb + t)))) := by
      simp only [fresh, get_set, get_mapV, get_del, if_neg n3, if_neg n2, hb, Option.map_some, invalO]
     simp only [AM.cond_false rfl]
     rw [hg]
     refine ⟨_, rel_cell hm hg (c := .bx key n) ?_ (fun v hv => ?_) fun _ _ _ => trivial⟩
     ·rw [List.getElem?_map, hcell]
      simp only [Option.map_some, inval, beq_eq', decide_eq_false n1, AM.cond_false rfl]
     ·obtain ⟨cap, q1, q2, q3⟩ := hv
      refine ⟨cap, q1, q2, ?_⟩
      rw [q3]
      simp [upd, n1]
   ·exact ⟨env, h⟩
  ·exact ownCell_sound h hF _ _ _
 ·exact ⟨env, h⟩
def ownEnds (P : Program) (kb : Nat) : List (Nat × Nat × Nat) → St → St
 | [], st => st
 | (t, key0, ix) :: r, st => ownEnds P kb r (moveCell P kb t key0 ix st)
theorem ownEnds_sound (hF : ∀ k, F k → k < kb) : ∀ (l : List (Nat × Nat × Nat)) {env : Env} {st : St}, Rel P N n0 B M0 w0 F e0 env st a w → ∃ env', Rel P N n0 B M0 w0 F e0 env' (ownEnds P kb l st) a w
 | [], env, st, h => ⟨env, h⟩
 | (t, key0, ix) :: r, env, st, h => let ⟨_, h1⟩ := moveCell_sound h hF t key0 ix; ownEnds_sound hF r h1

def runTo (P : Program) (cl : Oracle) (kb n : Nat) (c : Code) (own : List (Nat × Nat × Nat)) (ts ks : List Nat) (s : St) : Option St :=
 exec P cl {} kb n c s fun e s' => match e with
  | .normal => some (cutSt ts ks (ownEnds P kb own s'))
  | _ => none
def chooseF (P : Program) (cl : Oracle) (kb n : Nat) (ops : Array Oper) (c : Code) (own : List (Nat × Nat × Nat)) (ts ks : List Nat) (st : St) : Option (List (Bool × (Ex × St))) :=
 match anyRun P cl kb ops ops.size (Array.replicate ops.size false) (cleanD (fun _ => false) st) with
 | some (s :: l) => (match runTo P cl kb n c own ts ks s with
  | some st1 => bif l.all (fun s' => match runTo P cl kb n c own ts ks s' with | some st2 => eqSt st2 st1 | none => false) then some [(true, (.normal, st1))] else none
  | none => none)
 | _ => none
theorem choose_law {cl : Oracle} (hP : ProgOk P) (hcl : OracleOk P cl) {n id : Nat} {ops : Array Oper} {c : Code} {own : List (Nat × Nat × Nat)} {ts ks : List Nat} : CutLaw P kb (.seq (.region id ops true) c) (chooseF P cl kb n ops c own ts ks) := by
 intro st alts hf x hx N n0 F B M0 w0 e0 env a w hX hF hok hrel Fe nn hFe
 have hFe' : Fe = Fence.wide := hFe
 simp only [okC, Bool.and_eq_true] at hok
 unfold chooseF at hf
 split at hf
 ·rename_i s l hany
  split at hf
  ·rename_i st1 hst1
   cases hall : l.all (fun s' => match runTo P cl kb n c own ts ks s' with | some st2 => eqSt st2 st1 | none => false) with
   | false => rw [hall] at hf; cases hf
   | true =>
    rw [hall] at hf
    simp only [AM.cond_true rfl, Option.some.injEq] at hf
    subst hf
    simp only [altK, AM.cond_true rfl, Option.some.injEq] at hx
    subst hx
    refine wpIn_seq (wpIn_region_any hP.mixed (anyRun_sound hcl hFe' (fun c a w hh => hh) hF (okC_ops hok.1) _ (clean_rel hrel _ _) hany ?_))
    intro s' hs' env' a' w' h'
    have hrun : runTo P cl kb n c own ts ks s' = some st1 := by
     rcases List.mem_cons.1 hs' with rfl | hs'
     ·exact hst1
     ·have := List.all_eq_true.1 hall s' hs'
      split at this
      ·rename_i st2 h2
       rw [h2, eqSt_eq this]
      ·cases this
    refine wpIn_mono (exec_sound (hs := {}) (X := anyX) (Fs := onlyWide) trivial hcl (drawSound hP.mixed hcl) hF n hok.2 (fsW _) (fun b _ id f hl => ?_) h' hrun Fe nn hFe) ?_
    ·unfold lawOf at hl
     split at hl
     ·cases hl
     ·cases hl
    ·intro e a2 w2 hp
     cases e with
     | normal =>
      obtain ⟨env2, s2, q1, q2⟩ := hp
      simp only [Option.some.injEq] at q2
      subst q2
      obtain ⟨env3, q3⟩ := ownEnds_sound hF own q1
      exact ⟨env3, _, cutSt_sound q3 ts ks, rfl⟩
     | exit i => obtain ⟨_, _, _, q2⟩ := hp; cases q2
     | ret => obtain ⟨_, _, _, q2⟩ := hp; cases q2
     | _ => exact hp.elim
  ·cases hf
 ·cases hf
def anyF (P : Program) (cl : Oracle) (kb : Nat) (ops : Array Oper) (ts ks : List Nat) (st : St) : Option (List (Bool × (Ex × St))) :=
 match anyRun P cl kb ops ops.size (Array.replicate ops.size false) (cleanD (fun _ => false) st) with
 | some (s :: l) => bif l.all (fun s' => eqSt (cutSt ts ks s') (cutSt ts ks s)) then some [(true, (.normal, cutSt ts ks s))] else none
 | _ => none
theorem any_law {cl : Oracle} (hP : ProgOk P) (hcl : OracleOk P cl) {id : Nat} {ops : Array Oper} {ts ks : List Nat} : CutLaw P kb (.region id ops true) (anyF P cl kb ops ts ks) := by
 intro st alts hf x hx N n0 F B M0 w0 e0 env a w hX hF hok hrel Fe nn hFe
 have hFe' : Fe = Fence.wide := hFe
 unfold anyF at hf
 split at hf
 ·rename_i s l hany
  cases hall : l.all (fun s' => eqSt (cutSt ts ks s') (cutSt ts ks s)) with
  | false => rw [hall] at hf; cases hf
  | true =>
   rw [hall] at hf
   simp only [AM.cond_true rfl, Option.some.injEq] at hf
   subst hf
   simp only [altK, AM.cond_true rfl, Option.some.injEq] at hx
   subst hx
   refine wpIn_region_any hP.mixed (anyRun_sound hcl hFe' (fun c a w hh => hh) hF (okC_ops hok) _ (clean_rel hrel _ _) hany ?_)
   intro s' hs' env' a' w' h'
   refine ⟨env', _, cutSt_sound h' ts ks, ?_⟩
   rcases List.mem_cons.1 hs' with rfl | hs'
   ·rfl
   ·have := eqSt_eq (List.all_eq_true.1 hall s' hs')
    rw [this]
 ·cases hf
end
def bodyE (P : Program) (cl : Oracle) (hs : Hint) (ends : List (Nat × Nat × Nat)) (n : Nat) (f : FuncId) (args : List V) (mem : AL Obj) : Option Res :=
 match P.funcs[f]? with
 | none => none
 | some fn => match fn.body with
  | none => none
  | some c => exec P cl hs mem.length n c { tmps := params 0 args, mem } fun e st => match e with
   | .exit _ => none
   | _ => finish P fn hs.rows mem.length (ownEnds P mem.length ends st)
theorem bodyE_sound {P : Program} {cl : Oracle} {hs : Hint} {ends : List (Nat × Nat × Nat)} {n : Nat} {f : FuncId} {args : List V} {mem : AL Obj} {r : Res} (hP : ProgOk P) (hcl : OracleOk P cl) (hdr : DrawSound P cl) (hlo : LoopsOk P hs mem.length f)
  (h : bodyE P cl hs ends n f args mem = some r) : CallOk P f args mem r ∧ Enters P f := by
 unfold bodyE at h
 split at h
 ·cases h
 ·rename_i fn hfn
  split at h
  ·cases h
  ·rename_i c hc
   have hbn : fn.body.isNone = false := by rw [hc]; rfl
   refine ⟨fun B env w vs hpre hargs => ?_, fn, hfn, hbn, hP.num f fn hfn hbn⟩
   refine callsIn_wide.1 (callsIn_of_wp_marks (n := 0) hfn hc trivial ?_)
   have M := hpre.rel
   have hrel : Rel P (vs ++ Array.replicate (fn.ntmps - vs.size) undef).size w.heap.size B (Mut0 P env mem) w (· < mem.length) env env { tmps := params 0 args, mem } { tmps := vs ++ Array.replicate (fn.ntmps - vs.size) undef, defers := [] } w := by
    refine ⟨rfl, .nil, rfl, ?_, M.ob, M.ds, M.mu, M.pr, M.ch, M.bb, M.fx, M.gi⟩
    intro t x hx
    rw [get_params, if_pos (Nat.zero_le _), Nat.sub_zero] at hx
    obtain ⟨v, h1, h2⟩ := hargs.get hx
    rw [Array.getElem?_toList] at h1
    have hlt := (Array.getElem?_eq_some_iff.1 h1).1
    have : (vs ++ Array.replicate (fn.ntmps - vs.size) undef).getD t undef = v := by
     rw [Array.getD_eq_getD_getElem?, Array.getElem?_append_left hlt, h1]
     rfl
    rw [this]
    exact VRelA.of h2
   have hN : fn.ntmps ≤ (vs ++ Array.replicate (fn.ntmps - vs.size) undef).size := by simp; omega
   refine wpIn_mono (exec_sound (X := anyX) trivial hcl hdr (fun _ h => h) n (okC_mono hN (hP.ok f fn c hfn hc)) (fsW _) (hlo fn c hfn hc) hrel h Fence.wide 0 rfl) ?_
   intro e a' w' hp
   have fin : After P (vs ++ Array.replicate (fn.ntmps - vs.size) undef).size w.heap.size B (Mut0 P env mem) w (· < mem.length) env (fun st => finish P fn hs.rows mem.length (ownEnds P mem.length ends st)) r a' w' →
     LeavesInM Fence.wide 0 P fn a'.tmps (fun e w' => ∃ v, e = .returned v ∧ CallPost P B env mem w r v w') a'.defers .returning w' := by
    rintro ⟨env0, st0, h0, h2⟩
    obtain ⟨env', h1⟩ := ownEnds_sound (fun _ h => h) ends h0
    have h2 : finish P fn hs.rows mem.length (ownEnds P mem.length ends st0) = some r := h2
    generalize ownEnds P mem.length ends st0 = st' at h1 h2
    obtain ⟨ns, d1, d2, d3⟩ := h1.dfr
    rw [d1, List.append_nil]
    have h3 := h1.act (tmps := st'.tmps) (a2 := { tmps := a'.tmps, defers := [] }) (D' := []) .nil h1.tm
    exact leaves_marks (env := env') (st := st') h2 (fun v w q1 q2 => ⟨v, rfl, env', q1, q2⟩) ns h3 d2 d3
   cases e with
   | normal => exact fin hp
   | ret => exact fin hp
   | exit i =>
    obtain ⟨env', st', h1, h2⟩ := hp
    cases h2
   | _ => exact hp.elim
abbrev BookE := FuncId → (Oracle → Nat → Hint) × List (Nat × Nat × Nat)
def towE (P : Program) (hb : BookE) (base : Oracle) : Nat → Oracle
 | 0 => base
 | n + 1 => fun f args mem => match base f args mem with
  | some a => some a
  | none => (bodyE P (towE P hb base n) ((hb f).1 (towE P hb base n) mem.length) (hb f).2 n f args mem).map fun r => [(true, r)]
theorem towE_ok {P : Program} {base : Oracle} (hP : ProgOk P) (hb : BookE) (hlos : ∀ f cl kb, OracleOk P cl → AllCuts P ((hb f).1 cl kb).los kb f) (hbase : OracleOk P base) : ∀ n, OracleOk P (towE P hb base n)
 | 0 => hbase
 | n + 1 => by
  have ih := towE_ok hP hb hlos hbase n
  intro f args mem alts h
  unfold towE at h
  cases hbs : base f args mem with
  | some a =>
   rw [hbs] at h
   simp only [Option.some.injEq] at h
   subst h
   exact hbase f args mem a hbs
  | none =>
   rw [hbs] at h
   cases hb' : bodyE P (towE P hb base n) ((hb f).1 (towE P hb base n) mem.length) (hb f).2 n f args mem with
   | none => rw [hb'] at h; cases h
   | some r =>
    rw [hb'] at h
    simp only [Option.map_some, Option.some.injEq] at h
    subst h
    have hs := bodyE_sound hP ih (drawSound hP.mixed ih) (hlos f _ mem.length ih).loops hb'
    refine ⟨hs.2, fun res hr => ?_⟩
    have hr : some r = some res := hr
    simp only [Option.some.injEq] at hr
    subst hr
    exact hs.1
end Go.AM

namespace Go.AM
open Go
def pieceOps (c : Code) : Array Oper := match c with | .seq (.region _ ops _) _ => ops | _ => #[]
def pieceC (c : Code) : Code := match c with | .seq _ x => x | x => x
def putId : Nat := 900000007
def putHint (P : Program) (cl : Oracle) (kb : Nat) : Hint := { los := [(putId, chooseF P cl kb 60 (pieceOps (piece P 114 putId)) (pieceC (piece P 114 putId)) [(1001, 1, 0), (1002, 1, 1), (1003, 2, 0), (1004, 2, 1)] [] (List.range 10 ++ [kb + 1001, kb + 1002, kb + 1003, kb + 1004]))] }
def regionOps (c : Code) : Array Oper := match c with | .region _ ops _ => ops | _ => #[]
def repId : Nat := 4
def repHint (P : Program) (cl : Oracle) (kb : Nat) : Hint := { los := [(repId, anyF P cl kb (regionOps (piece P 103 repId)) [0, 1] (List.range 10 ++ [kb + 20]))] }
def bk7 (P : Program) : BookE := fun f =>
 bif Nat.beq f 114 then (putHint P, [])
 else bif Nat.beq f 112 || Nat.beq f 101 || Nat.beq f 104 then (fun _ _ => {}, [(1001, 1, 0), (1002, 1, 1)])
 else bif Nat.beq f 103 then (repHint P, [])
 else bif Nat.beq f 86 then (fun _ _ => {}, [(1001, 0, 3), (1002, 0, 4), (1003, 1003, 0), (1004, 1003, 1)])
 else bif Nat.beq f 15 then (fun _ _ => { loops := [(21, (List.range 50, List.range 60, [7]))] }, [])
 else (fun _ _ => {}, [])
end Go.AM

namespace Go.AM
open Go Go.RowKit
section
variable {P : Program}
def fieldsD (p : Nat → Bool) (s : List UInt8) : List (List UInt8) := (Lib.goFieldsP p ⟨s.toArray⟩).map fun b => b.data.toList
theorem fields_ok {f g : FuncId} {e : TypeId} (hk : kinds P e = [.str]) (ha : isAggB P e = false) (hsz : sizeB P e = 1) (p : Nat → Bool)
  (h : ∀ (s : ByteArray) (w : World), s.size ≤ 4294967296 → Calls P f #[.string s, .func (.func g) #[] #[]] w fun en w' => ∃ A, en = .returned (.slice (some ⟨A, 0, none⟩) (Lib.goFieldsP p s).length (Lib.goFieldsP p s).length) ∧ w.heap.size ≤ A ∧
   w'.ownsRow w.heap.size e 1 (.slice (some ⟨A, 0, none⟩) (Lib.goFieldsP p s).length (Lib.goFieldsP p s).length) (Lib.goFieldsP p s).length ((Lib.goFieldsP p s).map Value.string) ∧ Below w.heap.size w w')
  {s : List UInt8} (hs : s.length ≤ 4294967296) : CallOk P f [.c (.s s), .c (.f g [])] [] ([.c (.o 0)], [(0, .row e true false (strsD (fieldsD p s)))]) := by
 refine callOk_newStrs hk ha hsz fun env S w vs hgi hall => ?_
 obtain ⟨v1, v2, hv, r1, r2⟩ := all2_two hall
 have hvs : vs = #[v1, v2] := by rw [← Array.toList_inj]; exact hv
 subst hvs
 have r1 : v1 = .string ⟨s.toArray⟩ := r1
 have r2 : v2 = .func (.func g) #[] #[] := r2
 subst r1 r2
 have hl : (fieldsD p s).length = (Lib.goFieldsP p ⟨s.toArray⟩).length := by simp [fieldsD]
 refine (h ⟨s.toArray⟩ w (by simpa [ByteArray.size] using hs)).mono fun en w' ⟨A, he, hA, ho, hb⟩ => ?_
 obtain ⟨h1, ⟨h2, _⟩ | ⟨q, cap, cur, h2, h3, h4, h5, h6, h7, h8⟩⟩ := ho
 ·cases h2
 ·simp only [Value.slice.injEq, Option.some.injEq, Addr.mk.injEq, and_true, true_and] at h2
  obtain ⟨rfl, rfl⟩ := h2
  refine ⟨A, _, cur, by rw [hl]; exact he, hb, hA, h4, by rw [hl]; exact Nat.le_refl _, h6, by rw [h7, Nat.mul_one], fun i x hx => ?_⟩
  unfold fieldsD at hx
  rw [List.getElem?_map] at hx
  obtain ⟨b, hb', rfl⟩ := Option.map_eq_some_iff.1 hx
  have hi := (List.getElem?_eq_some_iff.1 hb').1
  have hc : (cur.toList.take ((Lib.goFieldsP p ⟨s.toArray⟩).length * 1))[i]? = some (Value.string b) := by rw [h8, List.getElem?_map, hb']; rfl
  rw [List.getElem?_take, if_pos (by omega)] at hc
  simpa using hc
end
end Go.AM

namespace Go.AM
open Go
section
variable {P : Program} {B : Stab} {env : Env} {mem : AL Obj} {w : World}
theorem mut0_lt (h : CallPre P B env mem w) {b o : Nat} (hm : Mut0 P env mem b o) : b < w.heap.size := by
 obtain ⟨k, ob, hg, hm⟩ := hm
 obtain ⟨hr, rfl⟩ := mutO_real hm
 exact obj_lt (h.rel.ob k ob hg) hr
theorem keeps_push (h : CallPre P B env mem w) (o : Go.Obj) : Keeps w (Sof P B (Mut0 P env mem) w.heap.size env mem w) (push w o) (Sof P B (Mut0 P env mem) (push w o).heap.size env mem (push w o)) := by
 intro b x v hS hv
 refine ⟨⟨?_, ?_, hS.2.2⟩, (chg_push (fun _ _ => False) w o).cell hv (fun hf => hf)⟩
 ·rcases hS.1 with h1 | h1 | h1
  ·exact .inl h1
  ·have := hS.2.1; omega
  ·exact .inr (.inr h1)
 ·have : (push w o).heap.size = w.heap.size + 1 := by simp [push]
  have := hS.2.1
  omega
theorem pre_push (h : CallPre P B env mem w) (o : Go.Obj) : CallPre P B env mem (push w o) := by
 have hk := keeps_push h o
 have M := h.rel
 refine ⟨⟨rfl, fun k ob hg => obj_same hk (fun hr => push_old (obj_lt (M.ob k ob hg) hr)) (M.ob k ob hg), M.ds, fun k ob b x hg hm => .inl ⟨k, ob, hg, hm⟩, ?_, Chg.refl _ _, fun b x hb => ?_, M.fx, M.gi.step (chg_push _ w o) fun b x hf => .inl hf⟩, h.key⟩
 ·intro k e ex xs hg x hx
  rcases M.pr k e ex xs hg x hx with h1 | h1 | h1
  ·exact .inl h1
  ·have hlt := obj_lt (M.ob k _ hg) (show realO (.row e ex false xs) from rfl)
   omega
  ·exact .inr (.inr h1)
 ·have := M.bb b x hb
  have : (push w o).heap.size = w.heap.size + 1 := by simp [push]
  omega
theorem post_push (h : CallPre P B env mem w) {o : Go.Obj} {res : Res} {v : Value} {w' : World} (hp : CallPost P B env mem (push w o) res v w') : CallPost P B env mem w res v w' := by
 obtain ⟨env', M, hv⟩ := hp
 have hsz : (push w o).heap.size = w.heap.size + 1 := by simp [push]
 have hk : Keeps w' (Sof P B (Mut0 P env mem) (push w o).heap.size env' res.2 w') w' (Sof P B (Mut0 P env mem) w.heap.size env' res.2 w') := by
  intro b x v hS hv
  refine ⟨⟨?_, hS.2⟩, hv⟩
  rcases hS.1 with h1 | h1 | h1
  ·exact .inl h1
  ·exact .inr (.inl (by omega))
  ·exact .inr (.inr h1)
 refine ⟨env', ⟨rfl, fun k ob hg => obj_same hk (fun _ => rfl) (M.ob k ob hg), M.ds, fun k ob b x hg hm => (M.mu k ob b x hg hm).imp id fun h1 => by omega, ?_, ?_, h.rel.bb, M.fx, h.rel.gi⟩, hv.mono hk fun _ => rfl⟩
 ·intro k e ex xs hg x hx
  rcases M.pr k e ex xs hg x hx with h1 | h1 | h1
  ·exact .inl h1
  ·exact .inr (.inl (by omega))
  ·exact .inr (.inr h1)
 ·exact Chg.trans (chg_push _ w o) M.ch fun b x hm => .inl hm
theorem post_block (h : CallPre P B env mem w) {cur : Array Value} {T : TypeId} {res : Res} {v : Value} {w' : World} (hp : CallPost P B env mem (push w (.cells cur T)) res v w') :
  w'.heap[w.heap.size]? = some (.cells cur T (0, 0)) := by
 obtain ⟨env', M, _⟩ := hp
 exact M.ch.other _ _ push_new fun x hm => by have := mut0_lt h hm; omega
end
end Go.AM

set_option linter.unusedVariables false
set_option linter.unusedSimpArgs false
set_option maxRecDepth 100000
namespace Go.Proofs.YtpnacmnpahjpoaaGreatDoor
open Go Go.AM
theorem progOk : ProgOk Tryz.prog := progOk_of (by kernel_rfl)
theorem below_gr (w : World) (n : Nat) (os : Array Go.Obj) : Go.RowKit.Below w.heap.size w (Go.Sort.grow (w.drewN n) os) :=
 ⟨rfl, rfl, rfl, by show w.heap.size ≤ (w.heap ++ os).size; rw [Array.size_append]; omega, fun _ hj => Go.Sort.heap_grow_old (w.drewN n) os hj⟩
def Tryz.laysM171_ren : Go.Shelf.Ren := ⟨fun | 171 => 127 | 243 => 143 | 246 => 151 | 283 => 169 | 284 => 170 | 285 => 171 | 286 => 172 | 129 => 107 | 317 => 176 | 318 => 177 | 319 => 178 | 320 => 179 | 337 => 180 | 338 => 181 | n => n, fun | 3 => 3 | 9 => 9 | 2 => 2 | 4 => 4 | 171 => 184 | 0 => 0 | 53 => 95 | 37 => 168 | 5 => 5 | 173 => 186 | 212 => 194 | 51 => 145 | 20 => 20 | 213 => 195 | 46 => 110 | 232 => 198 | 233 => 199 | n => n, fun | 17 => 7 | 18 => 8 | 19 => 9 | n => n⟩
theorem Tryz.laysM171 : Go.Proofs.LaysM.n171 Tryz.prog Tryz.laysM171_ren := {
 mixed := by kernel_rfl
 f129 := Tryz.func107.trans (congrArg some (by kernel_rfl))
 f171 := Tryz.func127.trans (congrArg some (by kernel_rfl))
 f243 := Tryz.func143.trans (congrArg some (by kernel_rfl))
 f246 := Tryz.func151.trans (congrArg some (by kernel_rfl))
 f283 := Tryz.func169.trans (congrArg some (by kernel_rfl))
 f284 := Tryz.func170.trans (congrArg some (by kernel_rfl))
 f285 := Tryz.func171.trans (congrArg some (by kernel_rfl))
 f286 := Tryz.func172.trans (congrArg some (by kernel_rfl))
 f317 := Tryz.func176.trans (congrArg some (by kernel_rfl))
 f318 := Tryz.func177.trans (congrArg some (by kernel_rfl))
 f319 := Tryz.func178.trans (congrArg some (by kernel_rfl))
 f320 := Tryz.func179.trans (congrArg some (by kernel_rfl))
 f337 := Tryz.func180.trans (congrArg some (by kernel_rfl))
 f338 := Tryz.func181.trans (congrArg some (by kernel_rfl))
 t0 := Tryz.underlying0
 a0 := Tryz.isAgg0
 z0 := Tryz.sizeOf0
 v0 := Tryz.zeroValue0
 t2 := Tryz.underlying2
 a2 := Tryz.isAgg2
 z2 := Tryz.sizeOf2
 v2 := Tryz.zeroValue2
 t3 := Tryz.underlying3
 a3 := Tryz.isAgg3
 z3 := Tryz.sizeOf3
 v3 := Tryz.zeroValue3
 t4 := Tryz.underlying4
 a4 := Tryz.isAgg4
 z4 := Tryz.sizeOf4
 v4 := Tryz.zeroValue4
 t5 := Tryz.underlying5
 a5 := Tryz.isAgg5
 z5 := Tryz.sizeOf5
 v5 := Tryz.zeroValue5
 t9 := Tryz.underlying9
 a9 := Tryz.isAgg9
 z9 := Tryz.sizeOf9
 v9 := Tryz.zeroValue9
 t20 := Tryz.underlying20
 a20 := Tryz.isAgg20
 z20 := Tryz.sizeOf20
 v20 := Tryz.zeroValue20
 t37 := Tryz.underlying168
 a37 := Tryz.isAgg168
 z37 := Tryz.sizeOf168
 v37 := Tryz.zeroValue168
 t46 := Tryz.underlying110
 a46 := Tryz.isAgg110
 z46 := Tryz.sizeOf110
 v46 := Tryz.zeroValue110
 t51 := Tryz.underlying145
 a51 := Tryz.isAgg145
 z51 := Tryz.sizeOf145
 v51 := Tryz.zeroValue145
 t53 := Tryz.underlying95
 a53 := Tryz.isAgg95
 z53 := Tryz.sizeOf95
 v53 := Tryz.zeroValue95
 t171 := Tryz.underlying184
 a171 := Tryz.isAgg184
 z171 := Tryz.sizeOf184
 v171 := Tryz.zeroValue184
 t173 := Tryz.underlying186
 a173 := Tryz.isAgg186
 z173 := Tryz.sizeOf186
 v173 := Tryz.zeroValue186
 t212 := Tryz.underlying194
 a212 := Tryz.isAgg194
 z212 := Tryz.sizeOf194
 v212 := Tryz.zeroValue194
 t213 := Tryz.underlying195
 a213 := Tryz.isAgg195
 z213 := Tryz.sizeOf195
 t232 := Tryz.underlying198
 a232 := Tryz.isAgg198
 z232 := Tryz.sizeOf198
 v232 := Tryz.zeroValue198
 t233 := Tryz.underlying199
 a233 := Tryz.isAgg199
 z233 := Tryz.sizeOf199
 v233 := Tryz.zeroValue199
 g17 := by kernel_rfl
 g18 := by kernel_rfl
 g19 := by kernel_rfl
 i0 := by kernel_rfl
 i2 := by kernel_rfl
 i3 := by kernel_rfl
 i4 := by kernel_rfl
 i5 := by kernel_rfl
 i9 := by kernel_rfl
 i20 := by kernel_rfl
 i37 := by kernel_rfl
 i46 := by kernel_rfl
 i51 := by kernel_rfl
 i53 := by kernel_rfl
 i171 := by kernel_rfl
 i173 := by kernel_rfl
 i212 := by kernel_rfl
 i232 := by kernel_rfl
 i233 := by kernel_rfl
 m17 := by kernel_rfl
 m18 := by kernel_rfl
 m19 := by kernel_rfl }
open Go.RowKit Go.Sort Go.Lib in
theorem Tryz.strconv_Itoa (n : Int) (h0 : -9223372036854775808 ≤ n) (h1 : n ≤ 9223372036854775807) (w : World) (htab : Lib.TabIs Tryz.prog w "internal/strconv.uint64pow10" .u64 Lib.pow10Tab) :
  Calls Tryz.prog 127 #[.int .i64 n] w fun e w' => e = .returned (.string ⟨(Lib.itoa n).toArray⟩) ∧ ∃ k os, w' = grow (w.drewN k) os := Any.strconv_Itoa Tryz.laysM171 n h0 h1 w htab
noncomputable def itoaSh : Sh := { tmps := [(0, .c (.i .i64))], mem := [] }
noncomputable def itoaA (L : List Lf) : List (Bool × Res) := [(i64B (li L 0), ([.c (.s (Lib.itoa (li L 0)))], []))]
theorem itoa_fn : FnOk Tryz.prog 127 itoaSh itoaA := by
 refine spSh_law fun L x hx => ?_
 show CallOk Tryz.prog 127 [.c (.i .i64 (li L 0))] [] x
 unfold itoaA at hx
 cases hc : i64B (li L 0) with
 | false => rw [hc] at hx; cases hx
 | true =>
 rw [hc] at hx
 have hx : some (([.c (.s (Lib.itoa (li L 0)))], []) : Res) = some x := hx
 simp only [Option.some.injEq] at hx
 subst hx
 obtain ⟨g, hg⟩ : ∃ g, Tryz.prog.globalNamed "internal/strconv.uint64pow10" = some g := ⟨_, (by kernel_rfl : Tryz.prog.globalNamed "internal/strconv.uint64pow10" = some 7)⟩
 exact itoa_ok hg (fun n h1 h2 w htab => (Tryz.strconv_Itoa n h1 h2 w htab).mono fun e w' ⟨he, k, os, hw⟩ => ⟨he, by subst hw; exact below_gr w k os⟩) hc
end Go.Proofs.YtpnacmnpahjpoaaGreatDoor

set_option linter.unusedVariables false
set_option linter.unusedSimpArgs false
set_option maxRecDepth 100000
namespace Go.Proofs.YtpnacmnpahjpoaaGreatDoor
open Go Go.AM
def Tryz.lays229_ren : Go.Shelf.Ren := ⟨fun | 229 => 116 | n => n, fun | 9 => 9 | 40 => 132 | 31 => 78 | 152 => 138 | 3 => 3 | 0 => 0 | 4 => 4 | 21 => 21 | 154 => 140 | n => n, fun | n => n⟩
theorem Tryz.lays229 : Go.Proofs.Lays.n229 Tryz.prog Tryz.lays229_ren := {
 mixed := by kernel_rfl
 f229 := Tryz.func116.trans (congrArg some (by kernel_rfl))
 t0 := Tryz.underlying0
 a0 := Tryz.isAgg0
 z0 := Tryz.sizeOf0
 v0 := Tryz.zeroValue0
 t3 := Tryz.underlying3
 a3 := Tryz.isAgg3
 z3 := Tryz.sizeOf3
 v3 := Tryz.zeroValue3
 t4 := Tryz.underlying4
 a4 := Tryz.isAgg4
 z4 := Tryz.sizeOf4
 v4 := Tryz.zeroValue4
 t9 := Tryz.underlying9
 a9 := Tryz.isAgg9
 z9 := Tryz.sizeOf9
 v9 := Tryz.zeroValue9
 t21 := Tryz.underlying21
 a21 := Tryz.isAgg21
 z21 := Tryz.sizeOf21
 v21 := Tryz.zeroValue21
 t31 := Tryz.underlying78
 a31 := Tryz.isAgg78
 z31 := Tryz.sizeOf78
 v31 := Tryz.zeroValue78
 t40 := Tryz.underlying132
 a40 := Tryz.isAgg132
 z40 := Tryz.sizeOf132
 v40 := Tryz.zeroValue132
 t152 := Tryz.underlying138
 a152 := Tryz.isAgg138
 z152 := Tryz.sizeOf138
 v152 := Tryz.zeroValue138
 t154 := Tryz.underlying140
 a154 := Tryz.isAgg140
 z154 := Tryz.sizeOf140
 v154 := Tryz.zeroValue140 }
open Go.RowKit Go.Lib Go.Proofs in
theorem Tryz.strings_FieldsFunc (g : Nat) (lb : Array Value) (eg : ∀ args w, (callFunc g args).run Tryz.prog w = .ok (.enter g args) w) (p : Nat → Bool) (s : ByteArray) (w : World) (hs : s.size ≤ 4294967296) (hp : PredAt Tryz.prog g lb encR p w) :
  Calls Tryz.prog 116 #[.string s, .func (.func g) #[] lb] w fun e w' => ∃ A, e = .returned (.slice (some ⟨A, 0, none⟩) (Lib.goFieldsP p s).length (Lib.goFieldsP p s).length) ∧ w.heap.size ≤ A ∧
   w'.ownsRow w.heap.size 9 1 (.slice (some ⟨A, 0, none⟩) (Lib.goFieldsP p s).length (Lib.goFieldsP p s).length) (Lib.goFieldsP p s).length ((Lib.goFieldsP p s).map Value.string) ∧ Below w.heap.size w w' := Any.strings_FieldsFunc Tryz.lays229 g lb eg p s w hs hp (by kernel_rfl) (by kernel_rfl)
def blankR (x : Nat) : Bool := (x : Int) == 32 || (x : Int) == 9
theorem gives117 (x : Nat) (W : World) : Go.Proofs.FnGives Tryz.prog 117 #[] #[Go.Proofs.encR x] (.bool (blankR x)) W := by
 show Calls Tryz.prog 117 #[.int .i32 x] W _
 go_enter Tryz.func117, Tryz.ntmps117
 go_wp2
 all_goals (go_ret; refine ⟨?_, 0, rfl⟩; first | rfl | simp_all [blankR])
def isFields (args : List V) (mem : AL AM.Obj) : Option (List (Bool × Res)) :=
 match args, mem with
 | [.c (.s s), .c (.f 117 [])], [] => some [(Nat.ble s.length 4294967296, ([.c (.o 0)], [(0, .row 9 true false (strsD (fieldsD blankR s)))]))]
 | _, _ => none
theorem fields_law : ∀ args mem alts, isFields args mem = some alts → ∀ res, altK alts some = some res → CallOk Tryz.prog 116 args mem res := by
 intro args mem alts h res hr
 unfold isFields at h
 split at h
 ·rename_i s
  simp only [Option.some.injEq] at h
  subst h
  cases hc : Nat.ble s.length 4294967296 with
  | false => rw [hc] at hr; cases hr
  | true =>
   rw [hc] at hr
   have hr : some (([.c (.o 0)], [(0, .row 9 true false (strsD (fieldsD blankR s)))]) : Res) = some res := hr
   simp only [Option.some.injEq] at hr
   subst hr
   have eg : ∀ args w, (callFunc 117 args).run Tryz.prog w = .ok (.enter 117 args) w := Go.Proofs.enters_of Tryz.func117 (by kernel_rfl) rfl
   exact fields_ok (by kernel_rfl) (by kernel_rfl) (by kernel_rfl) blankR (fun s w hs => Tryz.strings_FieldsFunc 117 #[] eg blankR s w hs fun W x _ => gives117 x W) (Nat.le_of_ble_eq_true hc)
 ·cases h
theorem catch_idle (p : Addr) (w : World) :
  CallsD Tryz.prog 85 #[.pointer (some p)] .returning w fun e u' w' => e = .returned (.tuple #[]) ∧ u' = .returning ∧ w' = w := by
 refine callsD_of_wpS Tryz.func85 rfl fun c₀ cs hu => ?_
 apply wpS_seq
 apply wpS_region
 simp [wpOpsS, go_sem, recoverD, hu, Tryz.ntmps85, Exit.thenS]
 apply wpS_seq
 apply wpS_seq
 apply wpS_region
 simp [wpOpsS, go_sem, Exit.thenS]
 refine wpS_cond (t := true) (by simp [Act.eval, Array.replicate]) ?_
 simp only [if_true]
 refine wpS_of_wp (wp_ret ?_)
 cases c₀
 simp_all [bodyPostS, results, Tryz.results85, Exit.thenS]
theorem thrown_law (p l : Value) (w : World) (R : World → Prop) (hR : ∀ w', R w' → w'.heap[w.heap.size]? = some (.cells #[.int .i64 0] 3 (0, 0)))
  (h : Calls Tryz.prog 86 #[p, l] (w.alloc (.cells #[.int .i64 0] 3)) fun e w' => e = .returned (.tuple #[]) ∧ R w') :
  Calls Tryz.prog 64 #[p, l] w fun e w' => ∃ w'', R w'' ∧ e = .returned (.int .i64 0) ∧ w' = w''.setCell ⟨w.heap.size, 0, none⟩ (.int .i64 0) := by
 have hmf : ∀ (fn : Fn) (first cap : Array Value) (w : World), (Instr.makeFunc fn first cap).run Tryz.prog w = .ok (.func fn first cap) w := fun _ _ _ _ => rfl
 go_enter_defers Tryz.func64, Tryz.ntmps64
 go_wp2_with (go_at_call 86; refine h.mono ?_; rintro e w1 ⟨rfl, hr⟩; have hb := hR w1 hr; have hc : w1.cell? ⟨w.heap.size, 0, none⟩ = some (.int .i64 0) := cell_of hb rfl; have hz : w1.frozen? ⟨w.heap.size, 0, none⟩ = false := by (simp [World.frozen?, hb]))
 refine leaves_cons (f := 85) (args := #[.pointer (some ⟨w.heap.size, 0, none⟩)]) (by simp) (by simp [go_sem]) ?_
 refine (catch_idle ⟨w.heap.size, 0, none⟩ _).mono ?_
 rintro e u' w'' ⟨rfl, rfl, rfl⟩
 have hc2 : (w1.setCell ⟨w.heap.size, 0, none⟩ (.int .i64 0)).cell? ⟨w.heap.size, 0, none⟩ = some (.int .i64 0) := by simp [go_sem, hc]
 simp [Leaves, settle, results, Tryz.results64, go_sem, hc2]
 exact ⟨w1, hr, rfl⟩
theorem setCell_self {w : World} {b : Nat} {cur : Array Value} {T : TypeId} {fr : Nat × Nat} {v : Value} (h : w.heap[b]? = some (.cells cur T fr)) (hv : cur[0]? = some v) : w.setCell ⟨b, 0, none⟩ v = w := by
 have hlt := (Array.getElem?_eq_some_iff.1 h).1
 have hcur : cur.setIfInBounds 0 v = cur := by
  apply Array.ext
  ·simp
  ·intro i h1 h2
   rw [Array.getElem_setIfInBounds]
   split
   ·rename_i e
    subst e
    have := (Array.getElem?_eq_some_iff.1 hv).2
    exact this.symm
   ·rfl
 have hm : (w.setCell ⟨b, 0, none⟩ v).heap = w.heap := by
  unfold World.setCell
  apply Array.ext
  ·simp
  ·intro i h1 h2
   simp only
   rw [Array.getElem_modify]
   split
   ·rename_i e
    subst e
    have he : w.heap[b] = .cells cur T fr := (Array.getElem?_eq_some_iff.1 h).2
    rw [he]
    simp [hcur]
   ·rfl
 have : w.setCell ⟨b, 0, none⟩ v = { w with heap := (w.setCell ⟨b, 0, none⟩ v).heap } := rfl
 rw [this, hm]
theorem thrown_ok {args : List V} {mem mem' : AL AM.Obj} (h : CallOk Tryz.prog 86 args mem ([], mem')) (ha : args.length = 2) : CallOk Tryz.prog 64 args mem ([.c (.i .i64 0)], mem') := by
 intro B env w vs hpre hargs
 have hp2 := pre_push hpre (.cells #[.int .i64 0] 3)
 have hlen : vs.size = 2 := by have := hargs.length; simp at this; omega
 obtain ⟨p, l, rfl⟩ : ∃ p l, vs = #[p, l] := ⟨vs[0], vs[1], by apply Array.ext <;> simp [hlen]; intro i h1 h2; match i with | 0 => rfl | 1 => rfl⟩
 have hk : Keeps w (Sof Tryz.prog B (Mut0 Tryz.prog env mem) w.heap.size env mem w) (push w (.cells #[.int .i64 0] 3)) (Sof Tryz.prog B (Mut0 Tryz.prog env mem) (push w (.cells #[.int .i64 0] 3)).heap.size env mem (push w (.cells #[.int .i64 0] 3))) := keeps_push hpre _
 have hc := h B env (push w (.cells #[.int .i64 0] 3)) #[p, l] hp2 (hargs.mono fun x y _ hxy => hxy.mono hk fun _ => rfl)
 refine (thrown_law p l w (fun w' => ∃ v, CallPost Tryz.prog B env mem (push w (.cells #[.int .i64 0] 3)) ([], mem') v w') (fun w' ⟨v, hv⟩ => post_block hpre hv) (hc.mono fun e w' ⟨v, he, hv⟩ => ?_)).mono ?_
 ·obtain ⟨env', M, hr⟩ := id hv
  obtain ⟨us, rfl, hus⟩ := hr
  have : us = #[] := by have := hus.length; simp at this; exact Array.eq_empty_of_size_eq_zero this.symm
  subst this
  exact ⟨he, _, hv⟩
 ·rintro e w' ⟨w2, ⟨v, hv⟩, he, rfl⟩
  rw [setCell_self (v := .int .i64 0) (post_block hpre hv) rfl]
  obtain ⟨env', M, _⟩ := post_push hpre hv
  exact ⟨_, he, env', M, rfl⟩
end Go.Proofs.YtpnacmnpahjpoaaGreatDoor

set_option linter.unusedVariables false
set_option linter.unusedSimpArgs false
set_option maxRecDepth 100000
namespace Go.Proofs.YtpnacmnpahjpoaaGreatDoor
open Go Go.AM
noncomputable def J0 : Oracle := ext 116 isFields (ext 127 (spSh itoaSh itoaA) noOracle)
theorem J0_ok : OracleOk Tryz.prog J0 := ext_ok (FnOk.to itoa_fn noOracle_ok) (AM.enters_of (by kernel_rfl)) fields_law
theorem put_piece : piece Tryz.prog 114 putId = .seq (.region 2 (pieceOps (piece Tryz.prog 114 putId)) true) (pieceC (piece Tryz.prog 114 putId)) := by kernel_rfl
theorem rep_piece : piece Tryz.prog 103 repId = .region 1 (regionOps (piece Tryz.prog 103 repId)) true := by kernel_rfl
theorem bk_ok : ∀ f cl kb, OracleOk Tryz.prog cl → AllCuts Tryz.prog ((bk7 Tryz.prog f).1 cl kb).los kb f := by
 intro f cl kb hcl
 unfold bk7
 cases h1 : Nat.beq f 114 with
 | true =>
  have := Nat.eq_of_beq_eq_true h1
  subst this
  refine AllCuts.cons AllCuts.nil (by kernel_rfl) ?_
  have := choose_law (kb := kb) (n := 60) (id := 2) (ops := pieceOps (piece Tryz.prog 114 putId)) (c := pieceC (piece Tryz.prog 114 putId)) (own := [(1001, 1, 0), (1002, 1, 1), (1003, 2, 0), (1004, 2, 1)]) (ts := []) (ks := List.range 10 ++ [kb + 1001, kb + 1002, kb + 1003, kb + 1004]) progOk hcl
  rw [← put_piece] at this
  exact this
 | false =>
 cases h2 : Nat.beq f 112 || Nat.beq f 101 || Nat.beq f 104 with
 | true => exact AllCuts.nil
 | false =>
 cases h3 : Nat.beq f 103 with
 | true =>
  have := Nat.eq_of_beq_eq_true h3
  subst this
  refine AllCuts.cons AllCuts.nil (by kernel_rfl) ?_
  have := any_law (kb := kb) (id := 1) (ops := regionOps (piece Tryz.prog 103 repId)) (ts := [0, 1]) (ks := List.range 10 ++ [kb + 20]) progOk hcl
  rw [← rep_piece] at this
  exact this
 | false =>
 cases h4 : Nat.beq f 86 with
 | true => exact AllCuts.nil
 | false =>
 cases h5 : Nat.beq f 15 with
 | true => exact AllCuts.nil
 | false => exact AllCuts.nil
def eqVs : List V → List V → Bool
 | [], [] => true
 | x :: xs, y :: ys => eqVv x y && eqVs xs ys
 | _, _ => false
theorem eqVs_eq : ∀ {xs ys : List V}, eqVs xs ys = true → xs = ys
 | [], [], _ => rfl
 | x :: xs, y :: ys, h => by simp only [eqVs, Bool.and_eq_true] at h; rw [eqVv_eq h.1, eqVs_eq h.2]
 | [], _ :: _, h => by cases h
 | _ :: _, [], h => by cases h
def constSp (args0 : List V) (mem0 : AL AM.Obj) (r : Res) (args : List V) (mem : AL AM.Obj) : Option (List (Bool × Res)) := bif eqVs args0 args && eqAL eqOb mem0 mem then some [(true, r)] else none
theorem const_law {f : FuncId} {args0 : List V} {mem0 : AL AM.Obj} {r : Res} (h : CallOk Tryz.prog f args0 mem0 r) : ∀ args mem alts, constSp args0 mem0 r args mem = some alts → ∀ res, altK alts some = some res → CallOk Tryz.prog f args mem res := by
 intro args mem alts hs res hr
 unfold constSp at hs
 cases hb : eqVs args0 args && eqAL eqOb mem0 mem with
 | false => rw [hb] at hs; cases hs
 | true =>
  rw [hb] at hs
  simp only [Bool.and_eq_true] at hb
  have e1 := eqVs_eq hb.1
  have e2 := eqAL_eq (fun _ _ => eqOb_eq) hb.2
  subst e1 e2
  simp only [AM.cond_true rfl, Option.some.injEq] at hs
  subst hs
  simp only [altK, AM.cond_true rfl, Option.some.injEq] at hr
  subst hr
  exact h
noncomputable def K0 : Oracle := J0
theorem K0_ok : OracleOk Tryz.prog K0 := J0_ok
noncomputable def a1 : List V := [.c (.s [119, 111, 114, 107, 111, 117, 116, 32, 97])]
noncomputable def m1 : AL AM.Obj := []
noncomputable def r1 : Res := ([.c (.sl 9 false [.s [119, 111, 114, 107, 111, 117, 116], .s [97]])], [])
theorem run1 : towE Tryz.prog (bk7 Tryz.prog) K0 200 105 a1 m1 = some [(true, r1)] := by kernel_rfl
noncomputable def L1 : Oracle := ext 105 (constSp a1 m1 r1) K0
theorem L1_ok : OracleOk Tryz.prog L1 := ext_ok K0_ok (AM.enters_of (by kernel_rfl)) (const_law ((towE_ok progOk _ bk_ok K0_ok 200 105 _ _ _ run1).2 _ rfl))
noncomputable def K1 : Oracle := L1
theorem K1_ok : OracleOk Tryz.prog K1 := L1_ok
noncomputable def a2 : List V := [.c (.p 0 0), .c (.sl 9 false [.s [119, 111, 114, 107, 111, 117, 116], .s [97]])]
noncomputable def m2 : AL AM.Obj := [(0, .box [.i .i64 1, .k false, .s [], .bs 1 1, .sl 3 true []]), (1, .box [.v (.slice none 0 0)])]
noncomputable def r2 : Res := ([], [(0, .box [.i .i64 1, .k true, .s [97], .bs 1 1, .sl 3 true []]), (1, .box [.v (.slice none 0 0)])])
theorem run2 : towE Tryz.prog (bk7 Tryz.prog) K1 200 100 a2 m2 = some [(true, r2)] := by kernel_rfl
noncomputable def L2 : Oracle := ext 100 (constSp a2 m2 r2) K1
theorem L2_ok : OracleOk Tryz.prog L2 := ext_ok K1_ok (AM.enters_of (by kernel_rfl)) (const_law ((towE_ok progOk _ bk_ok K1_ok 200 100 _ _ _ run2).2 _ rfl))
noncomputable def K2 : Oracle := L2
theorem K2_ok : OracleOk Tryz.prog K2 := L2_ok
noncomputable def a3 : List V := [.c (.s [114, 101, 112, 101, 97, 116, 32, 50])]
noncomputable def m3 : AL AM.Obj := []
noncomputable def r3 : Res := ([.c (.sl 9 false [.s [114, 101, 112, 101, 97, 116], .s [50]])], [])
theorem run3 : towE Tryz.prog (bk7 Tryz.prog) K2 200 105 a3 m3 = some [(true, r3)] := by kernel_rfl
noncomputable def L3 : Oracle := ext 105 (constSp a3 m3 r3) K2
theorem L3_ok : OracleOk Tryz.prog L3 := ext_ok K2_ok (AM.enters_of (by kernel_rfl)) (const_law ((towE_ok progOk _ bk_ok K2_ok 200 105 _ _ _ run3).2 _ rfl))
noncomputable def K3 : Oracle := L3
theorem K3_ok : OracleOk Tryz.prog K3 := L3_ok
noncomputable def a4 : List V := [.c (.p 0 0), .c (.sl 9 false [.s [114, 101, 112, 101, 97, 116], .s [50]])]
noncomputable def m4 : AL AM.Obj := [(0, .box [.i .i64 2, .k true, .s [97], .bs 1 1, .sl 3 true []]), (1, .box [.v (.slice none 0 0)])]
noncomputable def r4 : Res := ([], [(0, .box [.i .i64 2, .b true, .s [97], .bx 31 2, .o 22]), (1, .box [.v (.slice none 0 0)]), (22, .row 3 true false [.i 2]), (31, .box [.v (.slice none 0 0), .v (.slice none 0 0)])])
theorem run4 : towE Tryz.prog (bk7 Tryz.prog) K3 200 103 a4 m4 = some [(true, r4)] := by kernel_rfl
noncomputable def L4 : Oracle := ext 103 (constSp a4 m4 r4) K3
theorem L4_ok : OracleOk Tryz.prog L4 := ext_ok K3_ok (AM.enters_of (by kernel_rfl)) (const_law ((towE_ok progOk _ bk_ok K3_ok 200 103 _ _ _ run4).2 _ rfl))
noncomputable def K4 : Oracle := L4
theorem K4_ok : OracleOk Tryz.prog K4 := L4_ok
noncomputable def a5 : List V := [.c (.s [115, 116, 101, 112, 32, 111, 110, 32, 102, 111, 114, 32, 49, 58, 48, 48, 32, 112, 111, 119, 101, 114, 32, 57, 48, 45, 49, 49, 48, 37])]
noncomputable def m5 : AL AM.Obj := []
noncomputable def r5 : Res := ([.c (.sl 9 false [.s [115, 116, 101, 112], .s [111, 110], .s [102, 111, 114], .s [49, 58, 48, 48], .s [112, 111, 119, 101, 114], .s [57, 48, 45, 49, 49, 48, 37]])], [])
theorem run5 : towE Tryz.prog (bk7 Tryz.prog) K4 200 105 a5 m5 = some [(true, r5)] := by kernel_rfl
noncomputable def L5 : Oracle := ext 105 (constSp a5 m5 r5) K4
theorem L5_ok : OracleOk Tryz.prog L5 := ext_ok K4_ok (AM.enters_of (by kernel_rfl)) (const_law ((towE_ok progOk _ bk_ok K4_ok 200 105 _ _ _ run5).2 _ rfl))
noncomputable def K5 : Oracle := L5
theorem K5_ok : OracleOk Tryz.prog K5 := L5_ok
noncomputable def a6 : List V := [.c (.p 0 0), .c (.s [112, 111, 119, 101, 114]), .c (.s [57, 48, 45, 49, 49, 48, 37])]
noncomputable def m6 : AL AM.Obj := [(0, .box [.i .i64 3, .b true, .s [97], .bx 1 2, .o 2]), (1, .box [.v (.slice none 0 0), .v (.slice none 0 0)]), (2, .row 3 true false [.i 2])]
noncomputable def r6 : Res := ([.g [.i .i64 1, .b true, .i .i64 90, .i .i64 110]], [(0, .box [.i .i64 3, .b true, .s [97], .bx 1 2, .o 2]), (1, .box [.v (.slice none 0 0), .v (.slice none 0 0)]), (2, .row 3 true false [.i 2])])
theorem run6 : towE Tryz.prog (bk7 Tryz.prog) K5 200 125 a6 m6 = some [(true, r6)] := by kernel_rfl
noncomputable def L6 : Oracle := ext 125 (constSp a6 m6 r6) K5
theorem L6_ok : OracleOk Tryz.prog L6 := ext_ok K5_ok (AM.enters_of (by kernel_rfl)) (const_law ((towE_ok progOk _ bk_ok K5_ok 200 125 _ _ _ run6).2 _ rfl))
noncomputable def K6 : Oracle := L6
theorem K6_ok : OracleOk Tryz.prog K6 := L6_ok
noncomputable def a7 : List V := [.c (.p 0 0), .g [.i .i64 1, .s [111, 110], .i .i64 60, .i .i64 0, .i .i64 1, .b true, .i .i64 90, .i .i64 110, .i .i64 0, .sl 64 true []]]
noncomputable def m7 : AL AM.Obj := [(0, .box [.i .i64 3, .b true, .s [97], .bx 1 2, .o 2]), (1, .box [.v (.slice none 0 0), .v (.slice none 0 0)]), (2, .row 3 true false [.i 2])]
noncomputable def r7 : Res := ([], [(0, .box [.i .i64 3, .b true, .s [97], .bx 1 2, .o 2]), (1, .box [.v (.slice none 0 0), .o 1005]), (2, .row 3 true false [.i 2]), (1005, .row 64 true false [.a [.i 1, .s [111, 110], .i 60, .i 0, .i 1, .b true, .i 90, .i 110, .i 0, .l true []]])])
theorem run7 : towE Tryz.prog (bk7 Tryz.prog) K6 200 114 a7 m7 = some [(true, r7)] := by kernel_rfl
noncomputable def L7 : Oracle := ext 114 (constSp a7 m7 r7) K6
theorem L7_ok : OracleOk Tryz.prog L7 := ext_ok K6_ok (AM.enters_of (by kernel_rfl)) (const_law ((towE_ok progOk _ bk_ok K6_ok 200 114 _ _ _ run7).2 _ rfl))
noncomputable def K7 : Oracle := L7
theorem K7_ok : OracleOk Tryz.prog K7 := L7_ok
noncomputable def a8 : List V := [.c (.p 0 0), .c (.i .i64 1), .c (.sl 9 false [.s [115, 116, 101, 112], .s [111, 110], .s [102, 111, 114], .s [49, 58, 48, 48], .s [112, 111, 119, 101, 114], .s [57, 48, 45, 49, 49, 48, 37]])]
noncomputable def m8 : AL AM.Obj := [(0, .box [.i .i64 3, .b true, .s [97], .bx 1 2, .o 2]), (1, .box [.v (.slice none 0 0), .v (.slice none 0 0)]), (2, .row 3 true false [.i 2])]
noncomputable def r8 : Res := ([], [(0, .box [.i .i64 3, .b true, .s [97], .bx 1 2, .o 2]), (1, .box [.v (.slice none 0 0), .o 1005]), (2, .row 3 true false [.i 2]), (1005, .row 64 true false [.a [.i 1, .s [111, 110], .i 60, .i 0, .i 1, .b true, .i 90, .i 110, .i 0, .l true []]])])
theorem run8 : towE Tryz.prog (bk7 Tryz.prog) K7 200 112 a8 m8 = some [(true, r8)] := by kernel_rfl
noncomputable def L8 : Oracle := ext 112 (constSp a8 m8 r8) K7
theorem L8_ok : OracleOk Tryz.prog L8 := ext_ok K7_ok (AM.enters_of (by kernel_rfl)) (const_law ((towE_ok progOk _ bk_ok K7_ok 200 112 _ _ _ run8).2 _ rfl))
noncomputable def K8 : Oracle := L8
theorem K8_ok : OracleOk Tryz.prog K8 := L8_ok
noncomputable def a9 : List V := [.c (.p 0 0), .c (.sl 9 false [.s [115, 116, 101, 112], .s [111, 110], .s [102, 111, 114], .s [49, 58, 48, 48], .s [112, 111, 119, 101, 114], .s [57, 48, 45, 49, 49, 48, 37]])]
noncomputable def m9 : AL AM.Obj := [(0, .box [.i .i64 3, .b true, .s [97], .bx 1 2, .o 2]), (1, .box [.v (.slice none 0 0), .v (.slice none 0 0)]), (2, .row 3 true false [.i 2])]
noncomputable def r9 : Res := ([], [(0, .box [.i .i64 3, .b true, .s [97], .bx 1 2, .o 2]), (1, .box [.v (.slice none 0 0), .o 1005]), (2, .row 3 true false [.i 2]), (1005, .row 64 true false [.a [.i 1, .s [111, 110], .i 60, .i 0, .i 1, .b true, .i 90, .i 110, .i 0, .l true []]])])
theorem run9 : towE Tryz.prog (bk7 Tryz.prog) K8 200 101 a9 m9 = some [(true, r9)] := by kernel_rfl
noncomputable def L9 : Oracle := ext 101 (constSp a9 m9 r9) K8
theorem L9_ok : OracleOk Tryz.prog L9 := ext_ok K8_ok (AM.enters_of (by kernel_rfl)) (const_law ((towE_ok progOk _ bk_ok K8_ok 200 101 _ _ _ run9).2 _ rfl))
noncomputable def K9 : Oracle := L9
theorem K9_ok : OracleOk Tryz.prog K9 := L9_ok
noncomputable def a10 : List V := [.c (.s [115, 116, 101, 112, 32, 111, 102, 102, 32, 102, 111, 114, 32, 51, 48, 115])]
noncomputable def m10 : AL AM.Obj := []
noncomputable def r10 : Res := ([.c (.sl 9 false [.s [115, 116, 101, 112], .s [111, 102, 102], .s [102, 111, 114], .s [51, 48, 115]])], [])
theorem run10 : towE Tryz.prog (bk7 Tryz.prog) K9 200 105 a10 m10 = some [(true, r10)] := by kernel_rfl
noncomputable def L10 : Oracle := ext 105 (constSp a10 m10 r10) K9
theorem L10_ok : OracleOk Tryz.prog L10 := ext_ok K9_ok (AM.enters_of (by kernel_rfl)) (const_law ((towE_ok progOk _ bk_ok K9_ok 200 105 _ _ _ run10).2 _ rfl))
noncomputable def K10 : Oracle := L10
theorem K10_ok : OracleOk Tryz.prog K10 := L10_ok
noncomputable def a11 : List V := [.c (.p 0 0), .g [.i .i64 1, .s [111, 102, 102], .i .i64 30, .i .i64 0, .i .i64 0, .b false, .i .i64 0, .i .i64 0, .i .i64 0, .sl 64 true []]]
noncomputable def m11 : AL AM.Obj := [(0, .box [.i .i64 4, .b true, .s [97], .bx 1 2, .o 2]), (1, .box [.v (.slice none 0 0), .o 3]), (2, .row 3 true false [.i 2]), (3, .row 64 true false [.a [.i 1, .s [111, 110], .i 60, .i 0, .i 1, .b true, .i 90, .i 110, .i 0, .l true []]])]
noncomputable def r11 : Res := ([], [(0, .box [.i .i64 4, .b true, .s [97], .bx 1 2, .o 2]), (1, .box [.v (.slice none 0 0), .o 1006]), (2, .row 3 true false [.i 2]), (1006, .row 64 true false [.a [.i 1, .s [111, 110], .i 60, .i 0, .i 1, .b true, .i 90, .i 110, .i 0, .l true []], .a [.i 1, .s [111, 102, 102], .i 30, .i 0, .i 0, .b false, .i 0, .i 0, .i 0, .l true []]])])
theorem run11 : towE Tryz.prog (bk7 Tryz.prog) K10 200 114 a11 m11 = some [(true, r11)] := by kernel_rfl
noncomputable def L11 : Oracle := ext 114 (constSp a11 m11 r11) K10
theorem L11_ok : OracleOk Tryz.prog L11 := ext_ok K10_ok (AM.enters_of (by kernel_rfl)) (const_law ((towE_ok progOk _ bk_ok K10_ok 200 114 _ _ _ run11).2 _ rfl))
noncomputable def K11 : Oracle := L11
theorem K11_ok : OracleOk Tryz.prog K11 := L11_ok
noncomputable def a12 : List V := [.c (.p 0 0), .c (.i .i64 1), .c (.sl 9 false [.s [115, 116, 101, 112], .s [111, 102, 102], .s [102, 111, 114], .s [51, 48, 115]])]
noncomputable def m12 : AL AM.Obj := [(0, .box [.i .i64 4, .b true, .s [97], .bx 1 2, .o 2]), (1, .box [.v (.slice none 0 0), .o 3]), (2, .row 3 true false [.i 2]), (3, .row 64 true false [.a [.i 1, .s [111, 110], .i 60, .i 0, .i 1, .b true, .i 90, .i 110, .i 0, .l true []]])]
noncomputable def r12 : Res := ([], [(0, .box [.i .i64 4, .b true, .s [97], .bx 1 2, .o 2]), (1, .box [.v (.slice none 0 0), .o 1006]), (2, .row 3 true false [.i 2]), (1006, .row 64 true false [.a [.i 1, .s [111, 110], .i 60, .i 0, .i 1, .b true, .i 90, .i 110, .i 0, .l true []], .a [.i 1, .s [111, 102, 102], .i 30, .i 0, .i 0, .b false, .i 0, .i 0, .i 0, .l true []]])])
theorem run12 : towE Tryz.prog (bk7 Tryz.prog) K11 200 112 a12 m12 = some [(true, r12)] := by kernel_rfl
noncomputable def L12 : Oracle := ext 112 (constSp a12 m12 r12) K11
theorem L12_ok : OracleOk Tryz.prog L12 := ext_ok K11_ok (AM.enters_of (by kernel_rfl)) (const_law ((towE_ok progOk _ bk_ok K11_ok 200 112 _ _ _ run12).2 _ rfl))
noncomputable def K12 : Oracle := L12
theorem K12_ok : OracleOk Tryz.prog K12 := L12_ok
noncomputable def a13 : List V := [.c (.p 0 0), .c (.sl 9 false [.s [115, 116, 101, 112], .s [111, 102, 102], .s [102, 111, 114], .s [51, 48, 115]])]
noncomputable def m13 : AL AM.Obj := [(0, .box [.i .i64 4, .b true, .s [97], .bx 1 2, .o 2]), (1, .box [.v (.slice none 0 0), .o 3]), (2, .row 3 true false [.i 2]), (3, .row 64 true false [.a [.i 1, .s [111, 110], .i 60, .i 0, .i 1, .b true, .i 90, .i 110, .i 0, .l true []]])]
noncomputable def r13 : Res := ([], [(0, .box [.i .i64 4, .b true, .s [97], .bx 1 2, .o 2]), (1, .box [.v (.slice none 0 0), .o 1006]), (2, .row 3 true false [.i 2]), (1006, .row 64 true false [.a [.i 1, .s [111, 110], .i 60, .i 0, .i 1, .b true, .i 90, .i 110, .i 0, .l true []], .a [.i 1, .s [111, 102, 102], .i 30, .i 0, .i 0, .b false, .i 0, .i 0, .i 0, .l true []]])])
theorem run13 : towE Tryz.prog (bk7 Tryz.prog) K12 200 101 a13 m13 = some [(true, r13)] := by kernel_rfl
noncomputable def L13 : Oracle := ext 101 (constSp a13 m13 r13) K12
theorem L13_ok : OracleOk Tryz.prog L13 := ext_ok K12_ok (AM.enters_of (by kernel_rfl)) (const_law ((towE_ok progOk _ bk_ok K12_ok 200 101 _ _ _ run13).2 _ rfl))
noncomputable def K13 : Oracle := L13
theorem K13_ok : OracleOk Tryz.prog K13 := L13_ok
noncomputable def a14 : List V := [.c (.s [101, 110, 100])]
noncomputable def m14 : AL AM.Obj := []
noncomputable def r14 : Res := ([.c (.sl 9 false [.s [101, 110, 100]])], [])
theorem run14 : towE Tryz.prog (bk7 Tryz.prog) K13 200 105 a14 m14 = some [(true, r14)] := by kernel_rfl
noncomputable def L14 : Oracle := ext 105 (constSp a14 m14 r14) K13
theorem L14_ok : OracleOk Tryz.prog L14 := ext_ok K13_ok (AM.enters_of (by kernel_rfl)) (const_law ((towE_ok progOk _ bk_ok K13_ok 200 105 _ _ _ run14).2 _ rfl))
noncomputable def K14 : Oracle := L14
theorem K14_ok : OracleOk Tryz.prog K14 := L14_ok
noncomputable def a15 : List V := [.c (.p 0 0), .g [.i .i64 3, .s [], .i .i64 0, .i .i64 0, .i .i64 0, .k false, .i .i64 0, .i .i64 0, .i .i64 2, .o 1]]
noncomputable def m15 : AL AM.Obj := [(0, .box [.i .i64 5, .b true, .s [97], .bx 2 1, .o 3]), (1, .row 64 true false [.a [.i 1, .s [111, 110], .i 60, .i 0, .i 1, .b true, .i 90, .i 110, .i 0, .l true []], .a [.i 1, .s [111, 102, 102], .i 30, .i 0, .i 0, .b false, .i 0, .i 0, .i 0, .l true []]]), (2, .box [.v (.slice none 0 0), .o 1]), (3, .row 3 true false [])]
noncomputable def r15 : Res := ([], [(0, .box [.i .i64 5, .b true, .s [97], .bx 2 1, .o 3]), (2, .box [.o 1007, .o 1008]), (3, .row 3 true false []), (1007, .row 64 true false [.a [.i 3, .s [], .i 0, .i 0, .i 0, .b false, .i 0, .i 0, .i 2, .l false [.a [.i 1, .s [111, 110], .i 60, .i 0, .i 1, .b true, .i 90, .i 110, .i 0, .l true []], .a [.i 1, .s [111, 102, 102], .i 30, .i 0, .i 0, .b false, .i 0, .i 0, .i 0, .l true []]]]]), (1008, .row 64 false false [.a [.i 1, .s [111, 110], .i 60, .i 0, .i 1, .b true, .i 90, .i 110, .i 0, .l true []], .a [.i 1, .s [111, 102, 102], .i 30, .i 0, .i 0, .b false, .i 0, .i 0, .i 0, .l true []]])])
theorem run15 : towE Tryz.prog (bk7 Tryz.prog) K14 200 114 a15 m15 = some [(true, r15)] := by kernel_rfl
noncomputable def L15 : Oracle := ext 114 (constSp a15 m15 r15) K14
theorem L15_ok : OracleOk Tryz.prog L15 := ext_ok K14_ok (AM.enters_of (by kernel_rfl)) (const_law ((towE_ok progOk _ bk_ok K14_ok 200 114 _ _ _ run15).2 _ rfl))
noncomputable def K15 : Oracle := L15
theorem K15_ok : OracleOk Tryz.prog K15 := L15_ok
noncomputable def a16 : List V := [.c (.p 0 0), .c (.sl 9 false [.s [101, 110, 100]])]
noncomputable def m16 : AL AM.Obj := [(0, .box [.i .i64 5, .b true, .s [97], .bx 1 2, .o 2]), (1, .box [.v (.slice none 0 0), .o 3]), (2, .row 3 true false [.i 2]), (3, .row 64 true false [.a [.i 1, .s [111, 110], .i 60, .i 0, .i 1, .b true, .i 90, .i 110, .i 0, .l true []], .a [.i 1, .s [111, 102, 102], .i 30, .i 0, .i 0, .b false, .i 0, .i 0, .i 0, .l true []]])]
noncomputable def r16 : Res := ([], [(0, .box [.i .i64 5, .b true, .s [97], .bx 1 1, .o 48]), (1, .box [.o 1005, .o 1006]), (48, .row 3 true false []), (1005, .row 64 true false [.a [.i 3, .s [], .i 0, .i 0, .i 0, .b false, .i 0, .i 0, .i 2, .l false [.a [.i 1, .s [111, 110], .i 60, .i 0, .i 1, .b true, .i 90, .i 110, .i 0, .l true []], .a [.i 1, .s [111, 102, 102], .i 30, .i 0, .i 0, .b false, .i 0, .i 0, .i 0, .l true []]]]]), (1006, .row 64 false false [.a [.i 1, .s [111, 110], .i 60, .i 0, .i 1, .b true, .i 90, .i 110, .i 0, .l true []], .a [.i 1, .s [111, 102, 102], .i 30, .i 0, .i 0, .b false, .i 0, .i 0, .i 0, .l true []]])])
theorem run16 : towE Tryz.prog (bk7 Tryz.prog) K15 200 104 a16 m16 = some [(true, r16)] := by kernel_rfl
noncomputable def L16 : Oracle := ext 104 (constSp a16 m16 r16) K15
theorem L16_ok : OracleOk Tryz.prog L16 := ext_ok K15_ok (AM.enters_of (by kernel_rfl)) (const_law ((towE_ok progOk _ bk_ok K15_ok 200 104 _ _ _ run16).2 _ rfl))
noncomputable def K16 : Oracle := L16
theorem K16_ok : OracleOk Tryz.prog K16 := L16_ok
noncomputable def a17 : List V := [.c (.p 0 0), .c (.sl 9 false [.s [119, 111, 114, 107, 111, 117, 116, 32, 97], .s [114, 101, 112, 101, 97, 116, 32, 50], .s [115, 116, 101, 112, 32, 111, 110, 32, 102, 111, 114, 32, 49, 58, 48, 48, 32, 112, 111, 119, 101, 114, 32, 57, 48, 45, 49, 49, 48, 37], .s [115, 116, 101, 112, 32, 111, 102, 102, 32, 102, 111, 114, 32, 51, 48, 115], .s [101, 110, 100]])]
noncomputable def m17 : AL AM.Obj := [(0, .box [.i .i64 0, .k false, .s [], .bs 1 1, .sl 3 true []]), (1, .box [.v (.slice none 0 0)])]
noncomputable def r17 : Res := ([], [(0, .box [.i .i64 6, .b true, .s [97], .bx 1003 1, .o 1004]), (1, .box [.v (.slice none 0 0)]), (1003, .box [.o 1005, .o 1006]), (1004, .row 3 true false []), (1005, .row 64 true false [.a [.i 3, .s [], .i 0, .i 0, .i 0, .b false, .i 0, .i 0, .i 2, .l false [.a [.i 1, .s [111, 110], .i 60, .i 0, .i 1, .b true, .i 90, .i 110, .i 0, .l true []], .a [.i 1, .s [111, 102, 102], .i 30, .i 0, .i 0, .b false, .i 0, .i 0, .i 0, .l true []]]]]), (1006, .row 64 false false [.a [.i 1, .s [111, 110], .i 60, .i 0, .i 1, .b true, .i 90, .i 110, .i 0, .l true []], .a [.i 1, .s [111, 102, 102], .i 30, .i 0, .i 0, .b false, .i 0, .i 0, .i 0, .l true []]])])
theorem run17 : towE Tryz.prog (bk7 Tryz.prog) K16 200 86 a17 m17 = some [(true, r17)] := by kernel_rfl
noncomputable def L17 : Oracle := ext 86 (constSp a17 m17 r17) K16
theorem L17_ok : OracleOk Tryz.prog L17 := ext_ok K16_ok (AM.enters_of (by kernel_rfl)) (const_law ((towE_ok progOk _ bk_ok K16_ok 200 86 _ _ _ run17).2 _ rfl))
theorem thr : CallOk Tryz.prog 64 a17 m17 ([.c (.i .i64 0)], r17.2) := thrown_ok ((towE_ok progOk _ bk_ok K16_ok 200 86 _ _ _ run17).2 _ rfl) rfl
noncomputable def K17 : Oracle := ext 64 (constSp a17 m17 ([.c (.i .i64 0)], r17.2)) L17
theorem K17_ok : OracleOk Tryz.prog K17 := ext_ok L17_ok (AM.enters_of (by kernel_rfl)) (const_law thr)
noncomputable def a18 : List V := [.g [.s [97], .o 0]]
noncomputable def m18 : AL AM.Obj := [(0, .row 64 true false [.a [.i 3, .s [], .i 0, .i 0, .i 0, .b false, .i 0, .i 0, .i 2, .l false [.a [.i 1, .s [111, 110], .i 60, .i 0, .i 1, .b true, .i 90, .i 110, .i 0, .l true []], .a [.i 1, .s [111, 102, 102], .i 30, .i 0, .i 0, .b false, .i 0, .i 0, .i 0, .l true []]]]])]
noncomputable def r18 : Res := ([.c (.i .i64 0)], [(0, .row 64 true false [.a [.i 3, .s [], .i 0, .i 0, .i 0, .b false, .i 0, .i 0, .i 2, .l false [.a [.i 1, .s [111, 110], .i 60, .i 0, .i 1, .b true, .i 90, .i 110, .i 0, .l true []], .a [.i 1, .s [111, 102, 102], .i 30, .i 0, .i 0, .b false, .i 0, .i 0, .i 0, .l true []]]]])])
theorem run18 : towE Tryz.prog (bk7 Tryz.prog) K17 200 10 a18 m18 = some [(true, r18)] := by kernel_rfl
noncomputable def L18 : Oracle := ext 10 (constSp a18 m18 r18) K17
theorem L18_ok : OracleOk Tryz.prog L18 := ext_ok K17_ok (AM.enters_of (by kernel_rfl)) (const_law ((towE_ok progOk _ bk_ok K17_ok 200 10 _ _ _ run18).2 _ rfl))
noncomputable def K18 : Oracle := L18
theorem K18_ok : OracleOk Tryz.prog K18 := L18_ok
noncomputable def a19 : List V := [.c (.s [119, 111, 114, 107, 111, 117, 116, 32, 97, 10, 114, 101, 112, 101, 97, 116, 32, 50, 10, 115, 116, 101, 112, 32, 111, 110, 32, 102, 111, 114, 32, 49, 58, 48, 48, 32, 112, 111, 119, 101, 114, 32, 57, 48, 45, 49, 49, 48, 37, 10, 115, 116, 101, 112, 32, 111, 102, 102, 32, 102, 111, 114, 32, 51, 48, 115, 10, 101, 110, 100, 10])]
noncomputable def m19 : AL AM.Obj := []
noncomputable def r19 : Res := ([.g [.s [97], .sl 64 false [.a [.i 3, .s [], .i 0, .i 0, .i 0, .b false, .i 0, .i 0, .i 2, .l false [.a [.i 1, .s [111, 110], .i 60, .i 0, .i 1, .b true, .i 90, .i 110, .i 0, .l true []], .a [.i 1, .s [111, 102, 102], .i 30, .i 0, .i 0, .b false, .i 0, .i 0, .i 0, .l true []]]]]], .c (.i .i64 0), .c (.i .i64 0)], [])
theorem run19 : towE Tryz.prog (bk7 Tryz.prog) K18 200 38 a19 m19 = some [(true, r19)] := by kernel_rfl
noncomputable def L19 : Oracle := ext 38 (constSp a19 m19 r19) K18
theorem L19_ok : OracleOk Tryz.prog L19 := ext_ok K18_ok (AM.enters_of (by kernel_rfl)) (const_law ((towE_ok progOk _ bk_ok K18_ok 200 38 _ _ _ run19).2 _ rfl))
noncomputable def K19 : Oracle := L19
theorem K19_ok : OracleOk Tryz.prog K19 := L19_ok
noncomputable def a20 : List V := [.g [.s [97], .sl 64 false [.a [.i 3, .s [], .i 0, .i 0, .i 0, .b false, .i 0, .i 0, .i 2, .l false [.a [.i 1, .s [111, 110], .i 60, .i 0, .i 1, .b true, .i 90, .i 110, .i 0, .l true []], .a [.i 1, .s [111, 102, 102], .i 30, .i 0, .i 0, .b false, .i 0, .i 0, .i 0, .l true []]]]]]]
noncomputable def m20 : AL AM.Obj := []
noncomputable def r20 : Res := ([.c (.i .i64 0)], [])
theorem run20 : towE Tryz.prog (bk7 Tryz.prog) K19 200 10 a20 m20 = some [(true, r20)] := by kernel_rfl
noncomputable def L20 : Oracle := ext 10 (constSp a20 m20 r20) K19
theorem L20_ok : OracleOk Tryz.prog L20 := ext_ok K19_ok (AM.enters_of (by kernel_rfl)) (const_law ((towE_ok progOk _ bk_ok K19_ok 200 10 _ _ _ run20).2 _ rfl))
noncomputable def K20 : Oracle := L20
theorem K20_ok : OracleOk Tryz.prog K20 := L20_ok
noncomputable def a21 : List V := [.g [.i .i64 1, .s [111, 110], .i .i64 60, .i .i64 0, .i .i64 1, .b true, .i .i64 90, .i .i64 110, .i .i64 0, .sl 64 true []], .g [.i .i64 200, .i .i64 180, .i .i64 300], .c (.i .i64 0)]
noncomputable def m21 : AL AM.Obj := []
noncomputable def r21 : Res := ([.g [.i .i64 0, .i .i64 60, .s [111, 110], .i .i64 1, .i .i64 180, .i .i64 220, .i .i64 0, .i .i64 0]], [])
theorem run21 : towE Tryz.prog (bk7 Tryz.prog) K20 200 41 a21 m21 = some [(true, r21)] := by kernel_rfl
noncomputable def L21 : Oracle := ext 41 (constSp a21 m21 r21) K20
theorem L21_ok : OracleOk Tryz.prog L21 := ext_ok K20_ok (AM.enters_of (by kernel_rfl)) (const_law ((towE_ok progOk _ bk_ok K20_ok 200 41 _ _ _ run21).2 _ rfl))
noncomputable def K21 : Oracle := L21
theorem K21_ok : OracleOk Tryz.prog K21 := L21_ok
noncomputable def a22 : List V := [.g [.i .i64 1, .s [111, 102, 102], .i .i64 30, .i .i64 0, .i .i64 0, .b false, .i .i64 0, .i .i64 0, .i .i64 0, .sl 64 true []], .g [.i .i64 200, .i .i64 180, .i .i64 300], .c (.i .i64 60)]
noncomputable def m22 : AL AM.Obj := []
noncomputable def r22 : Res := ([.g [.i .i64 60, .i .i64 90, .s [111, 102, 102], .i .i64 0, .i .i64 0, .i .i64 0, .i .i64 0, .i .i64 0]], [])
theorem run22 : towE Tryz.prog (bk7 Tryz.prog) K21 200 41 a22 m22 = some [(true, r22)] := by kernel_rfl
noncomputable def L22 : Oracle := ext 41 (constSp a22 m22 r22) K21
theorem L22_ok : OracleOk Tryz.prog L22 := ext_ok K21_ok (AM.enters_of (by kernel_rfl)) (const_law ((towE_ok progOk _ bk_ok K21_ok 200 41 _ _ _ run22).2 _ rfl))
noncomputable def K22 : Oracle := L22
theorem K22_ok : OracleOk Tryz.prog K22 := L22_ok
noncomputable def a23 : List V := [.g [.i .i64 1, .s [111, 110], .i .i64 60, .i .i64 0, .i .i64 1, .b true, .i .i64 90, .i .i64 110, .i .i64 0, .sl 64 true []], .g [.i .i64 200, .i .i64 180, .i .i64 300], .c (.i .i64 90)]
noncomputable def m23 : AL AM.Obj := []
noncomputable def r23 : Res := ([.g [.i .i64 90, .i .i64 150, .s [111, 110], .i .i64 1, .i .i64 180, .i .i64 220, .i .i64 0, .i .i64 0]], [])
theorem run23 : towE Tryz.prog (bk7 Tryz.prog) K22 200 41 a23 m23 = some [(true, r23)] := by kernel_rfl
noncomputable def L23 : Oracle := ext 41 (constSp a23 m23 r23) K22
theorem L23_ok : OracleOk Tryz.prog L23 := ext_ok K22_ok (AM.enters_of (by kernel_rfl)) (const_law ((towE_ok progOk _ bk_ok K22_ok 200 41 _ _ _ run23).2 _ rfl))
noncomputable def K23 : Oracle := L23
theorem K23_ok : OracleOk Tryz.prog K23 := L23_ok
noncomputable def a24 : List V := [.g [.i .i64 1, .s [111, 102, 102], .i .i64 30, .i .i64 0, .i .i64 0, .b false, .i .i64 0, .i .i64 0, .i .i64 0, .sl 64 true []], .g [.i .i64 200, .i .i64 180, .i .i64 300], .c (.i .i64 150)]
noncomputable def m24 : AL AM.Obj := []
noncomputable def r24 : Res := ([.g [.i .i64 150, .i .i64 180, .s [111, 102, 102], .i .i64 0, .i .i64 0, .i .i64 0, .i .i64 0, .i .i64 0]], [])
theorem run24 : towE Tryz.prog (bk7 Tryz.prog) K23 200 41 a24 m24 = some [(true, r24)] := by kernel_rfl
noncomputable def L24 : Oracle := ext 41 (constSp a24 m24 r24) K23
theorem L24_ok : OracleOk Tryz.prog L24 := ext_ok K23_ok (AM.enters_of (by kernel_rfl)) (const_law ((towE_ok progOk _ bk_ok K23_ok 200 41 _ _ _ run24).2 _ rfl))
noncomputable def K24 : Oracle := L24
theorem K24_ok : OracleOk Tryz.prog K24 := L24_ok
noncomputable def a25 : List V := [.g [.s [97], .sl 64 false [.a [.i 3, .s [], .i 0, .i 0, .i 0, .b false, .i 0, .i 0, .i 2, .l false [.a [.i 1, .s [111, 110], .i 60, .i 0, .i 1, .b true, .i 90, .i 110, .i 0, .l true []], .a [.i 1, .s [111, 102, 102], .i 30, .i 0, .i 0, .b false, .i 0, .i 0, .i 0, .l true []]]]]], .g [.i .i64 200, .i .i64 180, .i .i64 300]]
noncomputable def m25 : AL AM.Obj := []
noncomputable def r25 : Res := ([.c (.sl 39 false [.a [.i 0, .i 60, .s [111, 110], .i 1, .i 180, .i 220, .i 0, .i 0], .a [.i 60, .i 90, .s [111, 102, 102], .i 0, .i 0, .i 0, .i 0, .i 0], .a [.i 90, .i 150, .s [111, 110], .i 1, .i 180, .i 220, .i 0, .i 0], .a [.i 150, .i 180, .s [111, 102, 102], .i 0, .i 0, .i 0, .i 0, .i 0]]), .c (.i .i64 0)], [])
theorem run25 : towE Tryz.prog (bk7 Tryz.prog) K24 200 15 a25 m25 = some [(true, r25)] := by kernel_rfl
noncomputable def L25 : Oracle := ext 15 (constSp a25 m25 r25) K24
theorem L25_ok : OracleOk Tryz.prog L25 := ext_ok K24_ok (AM.enters_of (by kernel_rfl)) (const_law ((towE_ok progOk _ bk_ok K24_ok 200 15 _ _ _ run25).2 _ rfl))
noncomputable def K25 : Oracle := L25
theorem K25_ok : OracleOk Tryz.prog K25 := L25_ok
theorem told_run : towE Tryz.prog (bk7 Tryz.prog) K25 200 14 [] [] = some [(true, ([.c (.b true)], []))] := by kernel_rfl
noncomputable def toldSh : Sh := { tmps := [], mem := [] }
noncomputable def toldA (_ : List Lf) : List (Bool × Res) := [(true, ([.c (.b true)], []))]
theorem told_call : CallOk Tryz.prog 14 [] [] ([.c (.b true)], []) := (towE_ok progOk _ bk_ok K25_ok 200 14 [] [] _ told_run).2 _ rfl
theorem told_fn : FnOk Tryz.prog 14 toldSh toldA := spSh_law fun L x hx => by
 have hx : some (([.c (.b true)], []) : Res) = some x := hx
 simp only [Option.some.injEq] at hx
 subst hx
 exact told_call
end Go.Proofs.YtpnacmnpahjpoaaGreatDoor

