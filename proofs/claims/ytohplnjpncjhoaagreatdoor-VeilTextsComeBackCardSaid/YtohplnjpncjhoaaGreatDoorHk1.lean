/- Proved: what functions of the library answer, by their contracts. -/
import Derived.Test.YtohplnjpncjhoaaGreatDoorAm3
import Derived.Below
import Derived.Lib.Join
import Derived.Lib.LaidTab
import Derived.LaidLaws
import Derived.Lib.Split
import Derived.Lib.SplitLaws
import Derived.Lib.ItoaNum
import Derived.Lib.AtoiAll
import Derived.Lib.ConvBytes
import Derived.Sort.Row
import Derived.Lib.Builder
import Derived.Lib.UnsafeStr
import Derived.Shelf.Strings.Builder1
import Derived.Lib.CountLaws
import Derived.Test.YtohplnjpncjhoaaGreatDoorChecked
import Derived.KernelRfl
import Derived.Shelf.Strings.Split
import Derived.Shelf.Strconv.Itoa3
import Derived.Shelf.Strconv.AtoiAll
import Derived.Shelf.SlicesE.DeleteFunc
import Derived.Shelf.Strings.OnBuilder
set_option linter.all false
set_option maxRecDepth 100000
namespace Go.AM
open Go
end Go.AM

namespace Go.AM
open Go Go.RowKit
section
variable {P : Program}
theorem chg_below {M : Stab} {w w' : World} (h : Below w.heap.size w w') : Chg M w w' :=
 ⟨h.os, h.tape, h.output, h.size, fun b cur T fr hb => ⟨cur, fr, by rw [h.block b (Array.getElem?_eq_some_iff.1 hb).1]; exact hb, rfl, fun _ _ => rfl, .inl rfl⟩,
  fun b ob hb _ => by rw [h.block b (Array.getElem?_eq_some_iff.1 hb).1]; exact hb⟩
theorem callOk_below {f : FuncId} {args rs : List V} (h : ∀ (env : Env) (S : Stab) (w : World) (vs : Array Value), (∀ b o, S b o → b < w.heap.size) → GI P (fun _ _ => False) w → All2 (VRel P env S w) args vs.toList →
  Calls P f vs w fun e w' => ∃ v, e = .returned v ∧ Below w.heap.size w w' ∧ ∀ S', VRel P env S' w' (resultOf rs) v) : CallOk P f args [] (rs, []) := by
 intro B env w vs hpre hall
 refine (h env _ w vs (fun b o hS => hS.2.1) (hpre.rel.gi.step (Chg.refl _ w) fun b o hf => hf.elim) hall).mono fun e w' ⟨v, he, hb, hv⟩ => ⟨v, he, env, ⟨rfl, fun k o hg => (by cases hg), fun k k' o o' hg => (by cases hg), fun k o b x hg => (by cases hg), fun k e ex xs hg => (by cases hg), chg_below hb, hpre.rel.bb, fun _ _ => rfl, hpre.rel.gi⟩, hv _⟩
def joinSp (P : Program) (args : List V) (mem : AL Obj) : Option (List (Bool × Res)) :=
 match args, mem with
 | [.c (.sl e _ xs), .c (.s sep)], [] => (match kinds P e with
  | [.str] => bif isAggB P e || !(Nat.beq (sizeB P e) 1) then none else
    some [(Nat.ble xs.length 140737488355328 && Nat.ble (Lib.join (xs.map D.toS) sep).length 140737488355328, ([.c (.s (Lib.join (xs.map D.toS) sep))], []))]
  | _ => none)
 | _, _ => none
theorem all2_two {α β : Type} {R : α → β → Prop} {x y : α} {l : List β} (h : All2 R [x, y] l) : ∃ a b, l = [a, b] ∧ R x a ∧ R y b := by
 match l, h with
 | [a, b], ⟨h1, h2, _⟩ => exact ⟨a, b, rfl, h1, h2⟩
theorem all2_one {α β : Type} {R : α → β → Prop} {x : α} {l : List β} (h : All2 R [x] l) : ∃ a, l = [a] ∧ R x a := by
 match l, h with
 | [a], ⟨h1, _⟩ => exact ⟨a, rfl, h1⟩
theorem join_law {f : FuncId} (h0 : ∀ (a : Option Addr) (c : Nat) (sep : ByteArray) (w : World), Calls P f #[.slice a 0 c, .string sep] w fun e w' => e = .returned (.string ⟨#[]⟩) ∧ w' = w)
  (h1 : ∀ (bk o c : Nat) (xs : List ByteArray) (sep : ByteArray) (w : World), (∀ (j : Nat) x, xs[j]? = some x → w.cell? ⟨bk, o + j, none⟩ = some (.string x)) → bk < w.heap.size → xs.length ≤ 140737488355328 → xs.length ≤ c →
   (Lib.join (xs.map (·.data.toList)) sep.data.toList).length ≤ 140737488355328 →
   Calls P f #[.slice (some ⟨bk, o, none⟩) xs.length c, .string sep] w fun e w' => e = .returned (.string ⟨(Lib.join (xs.map (·.data.toList)) sep.data.toList).toArray⟩) ∧ Below w.heap.size w w') :
  ∀ args mem alts, joinSp P args mem = some alts → ∀ res, altK alts some = some res → CallOk P f args mem res := by
 intro args mem alts ha res hr
 unfold joinSp at ha
 split at ha
 case h_2 => cases ha
 rename_i e nl xs sep
 split at ha
 case h_2 => cases ha
 rename_i hk
 cases hc : isAggB P e || !(Nat.beq (sizeB P e) 1) with
 | true => rw [hc] at ha; cases ha
 | false =>
 rw [hc] at ha
 simp only [Bool.or_eq_false_iff, Bool.not_eq_false'] at hc
 have hsz := Nat.eq_of_beq_eq_true hc.2
 simp only [AM.cond_false rfl, Option.some.injEq] at ha
 subst ha
 cases hcc : Nat.ble xs.length 140737488355328 && Nat.ble (Lib.join (xs.map D.toS) sep).length 140737488355328 with
 | false => rw [hcc] at hr; cases hr
 | true =>
 rw [hcc] at hr
 have hr : some (([.c (.s (Lib.join (xs.map D.toS) sep))], []) : Res) = some res := hr
 simp only [Option.some.injEq] at hr
 subst hr
 simp only [Bool.and_eq_true] at hcc
 have hn := Nat.le_of_ble_eq_true hcc.1
 have hl := Nat.le_of_ble_eq_true hcc.2
 refine callOk_below fun env S w vs hS _ hall => ?_
 obtain ⟨v1, v2, hv, r1, r2⟩ := all2_two hall
 have hvs : vs = #[v1, v2] := by rw [← Array.toList_inj]; exact hv
 subst hvs
 have r2 : v2 = .string ⟨sep.toArray⟩ := r2
 subst r2
 have r1 : RepD P w S (.sl e) (.l nl xs) v1 := r1
 have none0 : xs = [] → ∀ a c, v1 = .slice a 0 c → Calls P f #[v1, .string ⟨sep.toArray⟩] w fun e w' => ∃ v, e = .returned v ∧ Below w.heap.size w w' ∧ ∀ S', VRel P env S' w' (resultOf [.c (.s (Lib.join (xs.map D.toS) sep))]) v := by
  intro hx a c hv1
  subst hx hv1
  exact (h0 a c _ w).mono fun e w' ⟨he, hw⟩ => ⟨_, he, hw ▸ Below.refl _ _, fun S' => rfl⟩
 generalize hd : D.l nl xs = d at r1
 cases r1 with
 | nil e d q1 q2 => subst hd; exact none0 q2 _ _ rfl
 | emp e d a cap q1 q2 hm => subst hd; exact none0 q2 _ _ rfl
 | sl e d b off cap cv q1 q2 q3 hm q4 q5 =>
  subst hd
  simp only [D.items] at *
  by_cases hx : xs = []
  ·subst hx; exact none0 rfl _ _ rfl
  have hb : b < w.heap.size := by
   cases xs with
   | nil => exact absurd rfl hx
   | cons x r => exact hS _ _ (q4 0 (by simp) 0 (by rw [hk]; simp)).1
  have hcv : ∀ i, i < xs.length → cv i 0 = .string ⟨(xs.getD i (.i 0)).toS.toArray⟩ := by
   intro i hi
   have := q5 i hi 0 .str (by rw [hk]; rfl)
   unfold elD at this
   rw [hc.1] at this
   simp only [AM.cond_false rfl] at this
   generalize cv i 0 = u at this ⊢
   cases this; rfl
  have hlen : (xs.map fun x => (⟨x.toS.toArray⟩ : ByteArray)).length = xs.length := by simp
  have := h1 b off cap (xs.map fun x => ⟨x.toS.toArray⟩) ⟨sep.toArray⟩ w (fun j x hj => by
    rw [List.getElem?_map] at hj
    obtain ⟨d, hd, rfl⟩ := Option.map_eq_some_iff.1 hj
    have hjl := (List.getElem?_eq_some_iff.1 hd).1
    have h4 := (q4 j hjl 0 (by rw [hk]; simp)).2
    rw [hcv j hjl, hsz, Nat.mul_one, Nat.add_zero, List.getD_eq_getElem?_getD, hd] at h4
    exact h4) hb (by rw [hlen]; exact hn) (by rw [hlen]; exact q3)
  rw [hlen] at this
  have hmap : (xs.map fun x => (⟨x.toS.toArray⟩ : ByteArray)).map (·.data.toList) = xs.map D.toS := by
   rw [List.map_map]
   exact List.map_congr_left fun x _ => rfl
  rw [hmap] at this
  exact (this hl).mono fun e w' ⟨he, hw⟩ => ⟨_, he, hw, fun S' => rfl⟩
end
end Go.AM

namespace Go.AM
open Go
theorem TyEl.mono {P : Program} {T T' : CK → D → Prop} {e : TypeId} {x : D} (h : ∀ k d, T k d → T' k d) (hx : TyEl P T e x) : TyEl P T' e x := by
 unfold TyEl at hx ⊢
 split
 ·rename_i ha
  rw [if_pos ha] at hx
  obtain ⟨cs, h1, h2⟩ := hx
  exact ⟨cs, h1, h2.mono fun k d _ => h k d⟩
 ·rename_i ha
  rw [if_neg ha] at hx
  obtain ⟨k, h1, h2⟩ := hx
  exact ⟨k, h1, h k x h2⟩
theorem TyK.succ {P : Program} : ∀ {m : Nat} {k : CK} {d : D}, TyK P m k d → TyK P (m + 1) k d
 | 0, _, _, h => h.elim
 | m + 1, k, d, h => by
  cases k with
  | sl e =>
   obtain ⟨nl, xs, h1, h2, h3, h4⟩ := h
   exact ⟨nl, xs, h1, h2, h3, fun x hx => (h4 x hx).mono fun k d => TyK.succ⟩
  | _ => exact h
theorem TyK.mono {P : Program} {m m' : Nat} {k : CK} {d : D} (hm : m ≤ m') (h : TyK P m k d) : TyK P m' k d := by
 induction hm with
 | refl => exact h
 | step _ ih => exact ih.succ
def okS (Ts : List TypeId) : CK → Bool
 | .sl e => memB e Ts
 | .oth => false
 | _ => true
def okTs (P : Program) (Ts : List TypeId) : Bool := Ts.all fun e => flatB P 12 e && Nat.beq (sizeB P e) (kinds P e).length && (kinds P e).all (okS Ts) && !Nat.beq (sizeB P e) 0
section
variable {H : Type} {enc : TypeId × Value → H} {P : Program} {w : World} {spare : Nat → Bool} {held : Bool} {Ts : List TypeId}
theorem RT.mono {m m' : Nat} (hm : m ≤ m') {kd : CK × D} {v : Value} (h : RT P w m kd v) : RT P w m' kd v := ⟨h.1.mono hm, h.2⟩
theorem bound_lt {Q : Nat → Nat → Prop} (hmono : ∀ i m m', m ≤ m' → Q i m → Q i m') : ∀ n, (∀ i, i < n → ∃ m, Q i m) → ∃ m, ∀ i, i < n → Q i m
 | 0, _ => ⟨0, fun i hi => by omega⟩
 | n + 1, h => by
  obtain ⟨m, h1⟩ := bound_lt hmono n fun i hi => h i (by omega)
  obtain ⟨m', h2⟩ := h n (by omega)
  refine ⟨max m m', fun i hi => ?_⟩
  by_cases hin : i = n
  ·subst hin; exact hmono _ _ _ (Nat.le_max_right _ _) h2
  ·exact hmono _ _ _ (Nat.le_max_left _ _) (h1 i (by omega))
mutual
def szD : D → Nat
 | .l _ xs => szDs xs + 1
 | .a cs => szDs cs + 1
 | .s l => l.length + 1
 | .i _ => 1
 | .b _ => 1
def szDs : List D → Nat
 | [] => 0
 | x :: r => szD x + szDs r
end
theorem szDs_append : ∀ (xs ys : List D), szDs (xs ++ ys) = szDs xs + szDs ys
 | [], ys => by simp [szDs]
 | x :: xs, ys => by simp only [List.cons_append, szDs, szDs_append xs ys]; omega
theorem szDs_map_le {α : Type} {f : α → D} {c : α → Nat} : ∀ {l : List α}, (∀ i ∈ l, szD (f i) ≤ c i) → szDs (l.map f) ≤ (l.map c).sum
 | [], _ => by simp [szDs]
 | x :: l, h => by
  have h1 := h x (by simp)
  have h2 := szDs_map_le (l := l) fun i hi => h i (by simp [hi])
  simp only [List.map_cons, szDs, List.sum_cons]
  omega
structure BulkOk (bk : DataW H → Nat) (bkA : List (DataW H) → Nat) : Prop where
 lit : ∀ l, 1 ≤ bk (.lit l)
 str : ∀ l, l.length + 1 ≤ bk (.lit (.string l))
 nil : 1 ≤ bk .nil
 slice : ∀ e s, bkA e + 1 ≤ bk (.slice e s)
 agg : ∀ p, bkA p + 1 ≤ bk (.agg p)
 nilA : bkA [] = 0
 consA : ∀ d r, bkA (d :: r) = bk d + bkA r
theorem bkA_of {α : Type} {bk : DataW H → Nat} {bkA : List (DataW H) → Nat} (hB : BulkOk bk bkA) {F : α → Option (DataW H × List MemPlace)} : ∀ {l : List α} {ys : List (DataW H × List MemPlace)}, All2 (fun i y => F i = some y) l ys →
  (l.map fun i => ((F i).map fun y => bk y.1).getD 0).sum = bkA (ys.map (·.1))
 | [], [], _ => by simp [hB.nilA]
 | x :: l, y :: ys, ⟨h1, h2⟩ => by
  simp only [List.map_cons, List.sum_cons, h1, Option.map_some, Option.getD_some, hB.consA, bkA_of hB h2]
 | [], _ :: _, h => h.elim
 | _ :: _, [], h => h.elim
theorem szDs_flat {α : Type} {c : α → Nat} : ∀ {fs : List α} {ls : List (List (CK × D))}, All2 (fun f l => szDs (l.map Prod.snd) ≤ c f) fs ls → szDs (ls.flatten.map Prod.snd) ≤ (fs.map c).sum
 | [], [], _ => by simp [szDs]
 | f :: fs, l :: ls, ⟨h1, h2⟩ => by
  have := szDs_flat h2
  simp only [List.flatten_cons, List.map_append, szDs_append, List.map_cons, List.sum_cons]
  omega
 | [], _ :: _, h => h.elim
 | _ :: _, [], h => h.elim
theorem chunksS {R : CK × D → Value → Prop} {ks : List CK} {sz : Nat} {cs : List Value} {c : Nat → Nat} : ∀ (len : Nat), len * sz ≤ cs.length → (∀ i, i < len → ∃ l : List (CK × D), l.map Prod.fst = ks ∧ All2 R l ((cs.drop (i * sz)).take sz) ∧ szDs (l.map Prod.snd) ≤ c i) →
  ∃ l : List (CK × D), l.map Prod.fst = (List.replicate len ks).flatten ∧ All2 R l (cs.take (len * sz)) ∧ szDs (l.map Prod.snd) ≤ ((List.range len).map c).sum
 | 0, _, _ => ⟨[], by simp, by simp [All2], by simp [szDs]⟩
 | len + 1, hl, h => by
  rw [Nat.add_mul, Nat.one_mul] at hl
  obtain ⟨l, h1, h2, h5⟩ := chunksS len (by omega) fun i hi => h i (by omega)
  obtain ⟨l', h3, h4, h6⟩ := h len (by omega)
  refine ⟨l ++ l', ?_, ?_, ?_⟩
  ·rw [List.map_append, h1, h3, List.replicate_succ', List.flatten_append]; simp
  ·rw [Nat.add_mul, Nat.one_mul, List.take_add]
   exact h2.append h4
  ·rw [List.map_append, szDs_append, List.range_succ, List.map_append, List.sum_append]
   simp
   omega
variable {bk : DataW H → Nat} {bkA : List (DataW H) → Nat}
def aggN (P : Program) (T : TypeId) : Nat := bif isAggB P T then 1 else 0
def HR (enc : TypeId × Value → H) (P : Program) (w : World) (spare : Nat → Bool) (held : Bool) (Ts : List TypeId) (bk : DataW H → Nat) (fuel : Nat) : Prop := ∀ (n : Nat) (T : TypeId) (cs : List Value) (d : DataW H) (ps : List MemPlace), flatB P n T = true → (kindsOf P n T).all (okS Ts) = true → DataW.trod enc P w 0 spare held fuel T cs = some (d, ps) →
 ∃ m, ∃ kds : List (CK × D), kds.map Prod.fst = kindsOf P n T ∧ All2 (RT P w m) kds cs ∧ szDs (kds.map Prod.snd) + aggN P T ≤ bk d
theorem trod_rec (hB : BulkOk bk bkA) (hTs : okTs P Ts = true) : ∀ fuel, HR enc P w spare held Ts bk fuel
 | 0 => fun n T cs d ps _ _ h => by cases h
 | fuel + 1 => by
  have ih := trod_rec hB hTs fuel
  intro n T cs d ps hf hk h
  cases n with
  | zero => cases hf
  | succ n =>
  unfold DataW.trod at h
  split at h
  ·rename_i b hu
   simp only [kindsOf, hu] at hk ⊢
   simp only [Option.some.injEq, Prod.mk.injEq] at h
   obtain ⟨rfl, _⟩ := h
   exact ⟨1, [(.bool, .b b)], rfl, ⟨⟨⟨b, rfl⟩, .bool (.b b)⟩, trivial⟩, by rw [show aggN P T = 0 by unfold aggN isAggB; rw [hu]; rfl]; exact hB.lit _⟩
  ·rename_i k k' i hu
   split at h
   ·rename_i hw
    obtain ⟨rfl, hw⟩ := hw
    simp only [kindsOf, hu] at hk ⊢
    simp only [Option.some.injEq, Prod.mk.injEq] at h
    obtain ⟨rfl, _⟩ := h
    exact ⟨1, [(.int k', .i i)], rfl, ⟨⟨⟨i, rfl, hw⟩, .int k' (.i i)⟩, trivial⟩, by rw [show aggN P T = 0 by unfold aggN isAggB; rw [hu]; rfl]; exact hB.lit _⟩
   ·cases h
  all_goals first
   | (rename_i hu; simp [flatB, hu] at hf; done)
   | skip
  ·rename_i x hu
   split at h
   ·rename_i hl
    simp only [kindsOf, hu] at hk ⊢
    simp only [Option.some.injEq, Prod.mk.injEq] at h
    obtain ⟨rfl, _⟩ := h
    exact ⟨1, [(.str, .s x.data.toList)], rfl, ⟨⟨⟨x.data.toList, rfl, by rw [Array.length_toList]; exact hl⟩, by have := RepD.str (P := P) (w := w) (S := Sw w) (.s x.data.toList); simpa [D.toS] using this⟩, trivial⟩, by rw [show aggN P T = 0 by unfold aggN isAggB; rw [hu]; rfl]; exact hB.str _⟩
   ·cases h
  ·rename_i e hu
   simp only [kindsOf, hu] at hk ⊢
   simp only [Option.some.injEq, Prod.mk.injEq] at h
   obtain ⟨rfl, _⟩ := h
   exact ⟨1, [(.sl e, .l true [])], rfl, ⟨⟨⟨true, [], rfl, fun _ => rfl, Nat.zero_le _, fun x hx => by simp at hx⟩, .nil e _ rfl rfl⟩, trivial⟩, by rw [show aggN P T = 0 by unfold aggN isAggB; rw [hu]; rfl]; exact hB.nil⟩
  ·rename_i e a len cap hu
   simp only [kindsOf, hu, List.all_cons, List.all_nil, Bool.and_true] at hk ⊢
   have hq := List.all_eq_true.1 hTs e (memB_iff.1 hk)
   simp only [Bool.and_eq_true] at hq
   obtain ⟨⟨⟨q1, q2⟩, q3⟩, q4⟩ := hq
   dsimp only at h
   split at h
   ·rename_i hc
    obtain ⟨elems, he, h⟩ := Option.bind_eq_some_iff.1 h
    have hx := mapM_some he
    obtain ⟨rest, _, h⟩ := Option.map_eq_some_iff.1 h
    simp only [Prod.mk.injEq] at h
    obtain ⟨rfl, _⟩ := h
    have hbk := bkA_of hB hx
    have hbs := hB.slice (elems.map (·.1)) (rest.map (·.1))
    by_cases h0 : len = 0
    ·subst h0
     exact ⟨1, [(.sl e, .l false [])], rfl, ⟨⟨⟨false, [], rfl, nofun, Nat.zero_le _, nofun⟩, .emp e _ a cap rfl rfl hc.2.2⟩, trivial⟩, by rw [show aggN P T = 0 by unfold aggN isAggB; rw [hu]; rfl]; show szDs [] + 1 + 0 + 0 ≤ _; simp only [szDs]; omega⟩
    ·have q2 : sizeB P e = (kinds P e).length := Nat.eq_of_beq_eq_true q2
     have hsz : 0 < sizeB P e := by
      rcases Nat.eq_zero_or_pos (sizeB P e) with h | h
      ·rw [h] at q4; cases q4
      ·exact h
     have hel0 : ∀ i, ∃ p : Nat × D × (Nat → Value), i < len → TyEl P (TyK P p.1) e p.2.1 ∧ (∀ (j : Nat) (k : CK), (kinds P e)[j]? = some k → w.cell? (a.add (i * sizeB P e + j)) = some (p.2.2 j) ∧ RepD P w (Sw w) k (elD P e p.2.1 j) (p.2.2 j)) ∧ szD p.2.1 ≤ (((w.cells? 0 (a.add (i * P.cellsOf e)) (P.cellsOf e)).bind (DataW.trod enc P w 0 spare held fuel e)).map fun y => bk y.1).getD 0 := by
      intro i
      by_cases hi : i < len
      ·obtain ⟨y, _, hy⟩ := hx.get (List.getElem?_range hi)
       obtain ⟨cs, hcs, hd⟩ := Option.bind_eq_some_iff.1 hy
       obtain ⟨_, hl, hcell⟩ := World.cells?_some hcs
       obtain ⟨m, kds, k1, k2, k3⟩ := ih 12 e cs y.1 y.2 q1 q3 hd
       obtain ⟨x, x1, x2, x3⟩ := elem_rep q1 k1 k2
       refine ⟨(m, x, fun j => cs.getD j undef), fun _ => ⟨x1, fun j k hj => ?_, ?_⟩⟩
       case refine_2 =>
        rw [hy]
        simp only [Option.map_some, Option.getD_some]
        rcases x3 with ⟨ha, rfl⟩ | ⟨ha, x3⟩
        ·unfold aggN at k3; rw [ha] at k3; exact k3
        ·unfold aggN at k3; rw [ha, x3] at k3; simpa [szDs] using k3
       obtain ⟨v, h1, h2⟩ := x2 j k hj
       have hjl := (List.getElem?_eq_some_iff.1 h1).1
       have := hcell j (by omega)
       rw [Addr.add_add, h1] at this
       have e1 : cs.getD j undef = v := by rw [List.getD_eq_getElem?_getD, h1]; rfl
       simp only [e1]
       exact ⟨this, h2⟩
      ·exact ⟨(0, .i 0, fun _ => undef), fun h => absurd h hi⟩
     obtain ⟨g, hg⟩ := Classical.axiomOfChoice hel0
     obtain ⟨m, hm⟩ := bound_lt (Q := fun i m => TyEl P (TyK P m) e (g i).2.1) (fun i m m' hmm h => h.mono fun k d => TyK.mono hmm) len fun i hi => ⟨_, (hg i hi).1⟩
     have hks : 0 < (kinds P e).length := by omega
     have hspot : a.spot = none := by
      have := ((hg 0 (by omega)).2.1 0 _ (List.getElem?_eq_getElem hks)).1
      rw [Nat.zero_mul] at this
      exact World.cell?_spot this
     have hadd : ∀ n, a.add n = ⟨a.block, a.off + n, none⟩ := fun n => by
      unfold Addr.add; split
      ·rename_i h; subst h; cases a; simp_all
      ·rfl
     have hlen : ((List.range len).map fun i => (g i).2.1).length = len := by simp
     refine ⟨m + 1, [(.sl e, .l false ((List.range len).map fun i => (g i).2.1))], rfl, ⟨⟨⟨false, _, rfl, nofun, by rw [hlen]; omega, ?_⟩, ?_⟩, trivial⟩, ?_⟩
     ·intro x hx
      obtain ⟨i, hi, rfl⟩ := List.mem_map.1 hx
      exact hm i (List.mem_range.1 hi)
     ·have ha : a = ⟨a.block, a.off, none⟩ := by cases a; simp_all
      rw [ha]
      have := RepD.sl (P := P) (w := w) (S := Sw w) e (.l false ((List.range len).map fun i => (g i).2.1)) a.block a.off cap (fun i j => (g i).2.2 j) rfl q2 (by simp only [D.items]; omega) hc.2.2
       (fun i hi j hj => by
        simp only [D.items, hlen] at hi
        have := ((hg i hi).2.1 j _ (List.getElem?_eq_getElem hj)).1
        rw [hadd, ← Nat.add_assoc] at this
        exact ⟨cell_lt this, this⟩)
       (fun i hi j k hk => by
        simp only [D.items, hlen] at hi
        have := ((hg i hi).2.1 j k hk).2
        simp only [D.items, List.getD_eq_getElem?_getD, List.getElem?_map, List.getElem?_range hi]
        exact this)
      simpa only [D.items, hlen] using this
     ·have hs := szDs_map_le (f := fun i => (g i).2.1) (l := List.range len) fun i hi => (hg i (List.mem_range.1 hi)).2.2
      rw [hbk] at hs
      rw [show aggN P T = 0 by unfold aggN isAggB; rw [hu]; rfl]
      show szDs _ + 1 + 0 + 0 ≤ _
      omega
   ·cases h
  ·rename_i cs _ _ fs hu
   split at h
   ·rename_i hl
    simp only [flatB, hu, Bool.and_eq_true, List.all_eq_true] at hf
    simp only [kindsOf, hu] at hk ⊢
    obtain ⟨xs, hxs, he⟩ := Option.map_eq_some_iff.1 h
    simp only [Prod.mk.injEq] at he
    obtain ⟨rfl, _⟩ := he
    have hx := mapM_some hxs
    have hbk := bkA_of hB hx
    have hba := hB.agg (xs.map (·.1))
    have hb : ∃ m, ∀ j, j < fs.toList.length → ∀ f, fs.toList[j]? = some f → ∃ l : List (CK × D), l.map Prod.fst = kindsOf P n f.type ∧ All2 (RT P w m) l ((cs.drop f.offset).take (sizeB P f.type)) ∧ szDs (l.map Prod.snd) ≤ ((DataW.trod enc P w 0 spare held fuel f.type ((cs.drop f.offset).take (P.cellsOf f.type))).map fun y => bk y.1).getD 0 := by
     refine bound_lt (Q := fun j m => ∀ f, fs.toList[j]? = some f → ∃ l : List (CK × D), l.map Prod.fst = kindsOf P n f.type ∧ All2 (RT P w m) l ((cs.drop f.offset).take (sizeB P f.type)) ∧ szDs (l.map Prod.snd) ≤ ((DataW.trod enc P w 0 spare held fuel f.type ((cs.drop f.offset).take (P.cellsOf f.type))).map fun y => bk y.1).getD 0) (fun j m m' hmm h f hf => ?_) _ fun j hj => ?_
     ·obtain ⟨l, h1, h2, h3⟩ := h f hf
      exact ⟨l, h1, h2.mono fun _ _ _ => RT.mono hmm, h3⟩
     ·have hjf := List.getElem?_eq_getElem hj
      obtain ⟨y, _, hy⟩ := hx.get hjf
      have hfm := List.mem_of_getElem? hjf
      have hff := hf.2 _ hfm
      have hkf : (kindsOf P n (fs.toList[j]).type).all (okS Ts) = true := by
       rw [List.all_eq_true] at hk ⊢
       exact fun k hkk => hk k (List.mem_flatMap.2 ⟨_, hfm, hkk⟩)
      obtain ⟨m, l, h1, h2, h3⟩ := ih n _ _ y.1 y.2 hff.1 hkf hy
      refine ⟨m, fun f hff => ?_⟩
      rw [hjf] at hff
      cases hff
      exact ⟨l, h1, h2, by rw [hy]; exact Nat.le_trans (Nat.le_add_right _ _) h3⟩
    obtain ⟨m, hb⟩ := hb
    have := contig_split (P := P) (kds := fun f l => l.map Prod.fst = kindsOf P n f.type ∧ szDs (l.map Prod.snd) ≤ ((DataW.trod enc P w 0 spare held fuel f.type ((cs.drop f.offset).take (P.cellsOf f.type))).map fun y => bk y.1).getD 0) (R := RT P w m) hf.1 hl (fun f hfm => by
     obtain ⟨j, hj⟩ := List.getElem?_of_mem hfm
     obtain ⟨l, h1, h2, h3⟩ := hb j (List.getElem?_eq_some_iff.1 hj).1 f hj
     refine ⟨l, ⟨h1, h3⟩, h2, ?_⟩
     have : l.length = (l.map Prod.fst).length := by simp
     rw [this, h1, Nat.eq_of_beq_eq_true (hf.2 f hfm).2])
    obtain ⟨ls, h1, h2⟩ := this
    have hfl := szDs_flat (h1.mono fun f l _ h => h.2)
    rw [hbk] at hfl
    refine ⟨m, ls.flatten, ?_, by simpa using h2, by rw [show aggN P T = 1 by unfold aggN isAggB; rw [hu]; rfl]; omega⟩
    rw [List.map_flatten]
    exact all2_flat (h1.mono fun f l _ h => h.1)
   ·cases h
  ·rename_i cs _ _ len e hu
   split at h
   ·rename_i hl
    simp only [flatB, hu, Bool.and_eq_true] at hf
    simp only [kindsOf, hu] at hk ⊢
    obtain ⟨xs, hxs, he⟩ := Option.map_eq_some_iff.1 h
    simp only [Prod.mk.injEq] at he
    obtain ⟨rfl, _⟩ := he
    have hx := mapM_some hxs
    have hbk := bkA_of hB hx
    have hba := hB.agg (xs.map (·.1))
    have e1 := hl.trans (Nat.eq_of_beq_eq_true hf.1.1)
    have hb : ∃ m, ∀ i, i < len → ∃ l : List (CK × D), l.map Prod.fst = kindsOf P n e ∧ All2 (RT P w m) l ((cs.drop (i * sizeB P e)).take (sizeB P e)) ∧ szDs (l.map Prod.snd) ≤ ((DataW.trod enc P w 0 spare held fuel e ((cs.drop (i * P.cellsOf e)).take (P.cellsOf e))).map fun y => bk y.1).getD 0 := by
     refine bound_lt (Q := fun i m => ∃ l : List (CK × D), l.map Prod.fst = kindsOf P n e ∧ All2 (RT P w m) l ((cs.drop (i * sizeB P e)).take (sizeB P e)) ∧ szDs (l.map Prod.snd) ≤ ((DataW.trod enc P w 0 spare held fuel e ((cs.drop (i * P.cellsOf e)).take (P.cellsOf e))).map fun y => bk y.1).getD 0) (fun i m m' hmm ⟨l, h1, h2, h3⟩ => ⟨l, h1, h2.mono fun _ _ _ => RT.mono hmm, h3⟩) _ fun i hi => ?_
     obtain ⟨y, _, hy⟩ := hx.get (List.getElem?_range hi)
     obtain ⟨m, l, h1, h2, h3⟩ := ih n e _ y.1 y.2 hf.1.2 (by
      rw [List.all_eq_true] at hk ⊢
      refine fun k hkk => hk k ?_
      cases len with
      | zero => omega
      | succ len => rw [List.replicate_succ, List.flatten_cons]; simp [hkk]) hy
     exact ⟨m, l, h1, h2, by rw [hy]; exact Nat.le_trans (Nat.le_add_right _ _) h3⟩
    obtain ⟨m, hb⟩ := hb
    obtain ⟨l, h1, h2, h3⟩ := chunksS (R := RT P w m) (ks := kindsOf P n e) (sz := sizeB P e) len (Nat.le_of_eq e1.symm) hb
    rw [hbk] at h3
    refine ⟨m, l, h1, ?_, by rw [show aggN P T = 1 by unfold aggN isAggB; rw [hu]; rfl]; omega⟩
    rw [← e1, List.take_length] at h2
    exact h2
   ·cases h
  ·cases h
def parR (P : Program) (Ts : List TypeId) (T : TypeId) : Bool := flatB P 12 T && (kinds P T).all (okS Ts) && stB P T
theorem arg_relR {W : World} {env : Env} {S : Stab} {base : Nat} (hB : BulkOk bk bkA) (hTs : okTs P Ts = true) {T : TypeId} {v : Value} {d : DataW H} {ps : List MemPlace} (hp : parR P Ts T = true) (h : DataW.Trod enc P W 0 (fun _ => true) true T v d ps) (ho : Value.okWide P W .any base T v)
  (hk : Keeps W (Sw W) W S) : ∃ m ds, ArgOk P m T ds ∧ VRel P env S W (argV P T ds) v ∧ szDs ds ≤ bk d := by
 unfold parR at hp
 simp only [Bool.and_eq_true] at hp
 obtain ⟨⟨p1, p2⟩, _⟩ := hp
 obtain ⟨fuel, h⟩ := h
 obtain ⟨m, kds, k1, k2, k3⟩ := trod_rec hB hTs fuel 12 T _ d ps p1 p2 h
 have k1 : kds.map Prod.fst = kinds P T := k1
 refine ⟨m, kds.map Prod.snd, ?_, ?_, Nat.le_trans (Nat.le_add_right _ _) k3⟩
 ·unfold ArgOk
  rw [← k1]
  refine .of_get (by simp) fun j x y hx hy => ?_
  rw [List.getElem?_map] at hx hy
  obtain ⟨kd, h1, rfl⟩ := Option.map_eq_some_iff.1 hx
  rw [h1] at hy
  cases hy
  obtain ⟨v, _, hv⟩ := k2.get h1
  exact hv.1
 ·have hz := mkZ_rel (env := env) k2 hk
  rw [k1] at hz
  exact argV_rel p1 ho hz
theorem args_relR {W : World} {env : Env} {S : Stab} {base : Nat} (hB : BulkOk bk bkA) (hTs : okTs P Ts = true) (hk : Keeps W (Sw W) W S) : ∀ {Tl : List TypeId} {vs : List Value} {ds : List (DataW H)} {ps : List MemPlace}, (∀ T ∈ Tl, parR P Ts T = true) → DataW.TrodAll enc P W 0 (fun _ => true) true Tl vs ds ps →
  (∀ (j : Nat) t v, Tl[j]? = some t → vs[j]? = some v → Value.okWide P W .any base t v) → ∃ m dss, All2 (ArgOk P m) Tl dss ∧ All2 (VRel P env S W) (argVs P Tl dss) vs ∧ (dss.map szDs).sum ≤ bkA ds
 | [], vs, ds, ps, _, h, _ => by
  obtain ⟨rfl, rfl, rfl⟩ := ChangeShapes.trodAll_nil h
  exact ⟨0, [], trivial, trivial, by simp⟩
 | T :: Tl, vs, ds, ps, hp, h, ho => by
  obtain ⟨v, vs1, d, ds1, a, b, rfl, rfl, rfl, h1, h2⟩ := ChangeShapes.trodAll_cons h
  obtain ⟨m, x, q1, q2, q5⟩ := arg_relR (env := env) hB hTs (hp T (by simp)) h1 (ho 0 T v rfl rfl) hk
  obtain ⟨m', xs, q3, q4, q6⟩ := args_relR hB hTs hk (fun T hT => hp T (by simp [hT])) h2 (fun j t v ht hv => ho (j + 1) t v (by simpa using ht) (by simpa using hv))
  exact ⟨max m m', x :: xs, ⟨q1.mono fun _ _ _ => TyK.mono (Nat.le_max_left _ _), q3.mono fun _ _ _ h => h.mono fun _ _ _ => TyK.mono (Nat.le_max_right _ _)⟩, ⟨q2, q4⟩, by rw [hB.consA, List.map_cons, List.sum_cons]; omega⟩
theorem law_callR {W : World} {f : FuncId} {fn : Func} {s : ChangeSpec} {apart fresh handsOn again : Bool} {tb : TypeId} (hB : BulkOk bk bkA) (Ts : List TypeId) (hTs : okTs P Ts = true) (hl : laidOutB P = true) (hvars : s.vars = [])
  (hres : fn.resultTypes = #[tb]) (htb : P.underlying tb = some .bool) (hpar : fn.params.all (parR P Ts) = true) (hs : ∀ l, l.length = fn.params.size → s.fn H l = { results := [.lit (.bool true)], args := l })
  {base : Nat} {args : Array Value} {ds gs : List (DataW H)} {before : List MemPlace} (hc : ∀ m dss, All2 (ArgOk P m) fn.params.toList dss → (dss.map szDs).sum ≤ bkA ds → CallOk P f (argVs P fn.params.toList dss) [] ([.c (.b true)], []))
  (hgi : ∀ {M : Stab}, (∀ b o, ¬ M b o) → GI P M W)
  (hok : ∀ (j : Nat) t v, fn.params[j]? = some t → args[j]? = some v → Value.okWide P W .any base t v)
  (hW : DataW.Whole enc P fn.params.toList s.vars apart W args.toList ds gs before) : Calls P f args W fun e W' => ∃ v, e = .returned v ∧ s.post enc P fn apart fresh handsOn again W args v W' := by
 have hpar' : ∀ T ∈ fn.params.toList, parR P Ts T = true := by
  rw [Array.all_eq_true_iff_forall_mem] at hpar
  exact fun T hT => hpar T (by simpa using hT)
 let env : Env := fun _ => ⟨0, 0, none⟩
 have hkeep : Keeps W (Sw W) W (Sof P (Sw W) (Mut0 P env []) W.heap.size env [] W) := fun b o v hS hc => ⟨⟨.inl hS, hS, fun k ob hg => by cases hg⟩, hc⟩
 obtain ⟨p, q, h1, _⟩ := id hW
 obtain ⟨m, dss, d1, d2, d3⟩ := args_relR (env := env) hB hTs hkeep hpar' h1 (fun j t v ht hv => hok j t v (by simpa using ht) (by simpa using hv))
 exact law_end hl hvars hres htb (fun T hT => by
  have := hpar' T hT
  unfold parR at this
  simp only [Bool.and_eq_true] at this
  exact this.2) hs (hc m dss d1 d3) hgi d2 hW
end
end Go.AM

namespace Go.AM
open Go
section
variable {P : Program} {W : World}
def GAt (W : World) (g : Nat) (ps : List (Value → Prop)) : Prop := ∃ cur T fr, W.heap[g]? = some (.cells cur T fr) ∧ cur.size = ps.length ∧ ∀ (o : Nat) p v, ps[o]? = some p → cur[o]? = some v → p v
theorem gi_of {a b c d : Nat} (ha : P.globalNamed "internal/bytealg.MaxLen" = some a) (hb : P.globalNamed "internal/strconv.uint64pow10" = some b) (hc : P.globalNamed "strconv.ErrSyntax" = some c) (hd : P.globalNamed "strconv.ErrRange" = some d)
  (h1 : GAt W a [isIntV]) (h2 : GAt W b ((List.range 20).map fun i v => v = .int .u64 ((10 ^ i : Nat) : Int))) (h3 : GAt W c [isErrV]) (h4 : GAt W d [isErrV]) {M : Stab} (hM : ∀ b o, ¬ M b o) : GI P M W := by
 intro x hx g hg
 refine ⟨hM g, ?_⟩
 simp only [gspecs, List.mem_cons, List.not_mem_nil, or_false] at hx
 rcases hx with rfl | rfl | rfl | rfl
 ·obtain rfl := Option.some.inj (ha.symm.trans hg); exact h1
 ·obtain rfl := Option.some.inj (hb.symm.trans hg); exact h2
 ·obtain rfl := Option.some.inj (hc.symm.trans hg); exact h3
 ·obtain rfl := Option.some.inj (hd.symm.trans hg); exact h4
theorem one_cell {cur : Array Value} {p : Value → Prop} {v0 : Value} (h : cur = #[v0]) (hp : p v0) : ∀ (o : Nat) q v, ([p] : List (Value → Prop))[o]? = some q → cur[o]? = some v → q v := by
 intro o q v hq hv
 subst h
 cases o with
 | zero => simp at hq hv; subst hq hv; exact hp
 | succ o => simp at hv
theorem gat_int {g t : Nat} {zero : Array Value} (hs : W.ShapedOpen P) (hg : g < P.globals.size) (hrow : (((begin P (fun _ _ => 0) default).world.heap[g]?).bind Obj.row?) = some (zero, t)) (hz : zero.size = 1) (hb : P.buildable t = true)
  (hct : P.cellTypes P.depth t = some [t]) (hu : P.underlying t = some (.int .i64)) : GAt W g [isIntV] := by
 obtain ⟨cs, h1, h2, h3⟩ := hs.1 g zero t hg hrow
 obtain ⟨ts, q1, _, q2⟩ := h3 hb
 rw [hct] at q1
 obtain rfl := Option.some.inj q1
 have hsz : cs.size = 1 := h2.trans hz
 have hcl : 0 < cs.size := by omega
 obtain ⟨u, q3, q4⟩ := q2 0 cs[0] (Array.getElem?_eq_getElem hcl)
 obtain rfl : t = u := by simpa using q3
 have hv : isIntV cs[0] := by
  unfold Cell.ok at q4
  rw [hu] at q4
  generalize cs[0] = v at q4 ⊢
  cases v with
  | int k' n => exact ⟨n, by rw [q4.1]⟩
  | _ => exact False.elim q4
 refine ⟨cs, t, _, h1, hsz, one_cell (v0 := cs[0]) ?_ hv⟩
 apply Array.ext
 ·simpa using hsz
 ·intro i hi hi'; simp at hi'; subst hi'; rfl
theorem gat_tab {g : Nat} {name : String} {k : IntKind} {zs : List Int} (hg : P.globalNamed name = some g) (h : Lib.TabIs P W name k zs) {ps : List (Value → Prop)} (hl : ps.length = zs.length) (hp : ∀ (i : Nat) p z, ps[i]? = some p → zs[i]? = some z → p (.int k z)) : GAt W g ps := by
 unfold Lib.TabIs World.var? at h
 rw [hg] at h
 simp only [Option.bind_some] at h
 split at h
 ·rename_i cs T fr hh
  simp only [Option.some.injEq] at h
  subst h
  refine ⟨_, T, fr, hh, by simp [hl], fun o p v q1 q2 => ?_⟩
  simp only [List.getElem?_toArray, List.getElem?_map, Option.map_eq_some_iff] at q2
  obtain ⟨z, q3, rfl⟩ := q2
  exact hp o p z q1 q3
 ·cases h
theorem laid_get {x : String × DataW Unit} : ∀ {l : List (String × DataW Unit)} {ps : List MemPlace}, DataW.LaidVars P W l ps → x ∈ l →
  ∃ g t cs fuel p, P.globalNamed x.1 = some g ∧ (P.globals[g]?).map (·.type) = some t ∧ W.var? P x.1 = some cs ∧ DataW.trod (fun _ => ()) P W 0 (fun _ => true) false fuel t cs.toList = some (x.2, p)
 | (n, d) :: l, ps, h, hx => by
  obtain ⟨g, t, cs, fuel, p, q, h1, h2, h3, h4, h5, _⟩ := h
  rcases List.mem_cons.1 hx with rfl | hx
  ·exact ⟨g, t, cs, fuel, p, h1, h2, h3, h4⟩
  ·exact laid_get h5 hx
def ifaceB (P : Program) (t : TypeId) : Bool := match P.underlying t with
 | some (.interface _) => true
 | _ => false
theorem gat_err {l : List (String × DataW Unit)} {name tn : String} {g t : Nat} {d : DataW Unit} (h : laidMet P l W) (hx : (name, DataW.iface tn d) ∈ l) (hg : P.globalNamed name = some g) (ht : (P.globals[g]?).map (·.type) = some t) (hi : ifaceB P t = true) : GAt W g [isErrV] := by
 obtain ⟨ms, hu⟩ : ∃ ms, P.underlying t = some (.interface ms) := by
  unfold ifaceB at hi
  split at hi
  ·rename_i ms h; exact ⟨ms, h⟩
  ·cases hi
 obtain ⟨ps, hl, _⟩ := h
 obtain ⟨g', t', cs, fuel, p, q1, q2, q3, q4⟩ := laid_get hl hx
 obtain rfl := Option.some.inj (hg.symm.trans q1)
 obtain rfl := Option.some.inj (ht.symm.trans q2)
 unfold World.var? at q3
 rw [hg] at q3
 simp only [Option.bind_some] at q3
 split at q3
 ·rename_i cs' T fr hh
  simp only [Option.some.injEq] at q3
  subst q3
  cases fuel with
  | zero => cases q4
  | succ fuel =>
   unfold DataW.trod at q4
   rw [hu] at q4
   have hone : ∃ u v, cs'.toList = [.iface u v] := by
    generalize hcl : cs'.toList = cl at q4
    match cl, q4 with
    | [.iface u v], _ => exact ⟨u, v, rfl⟩
    | [.nilIface], q4 => simp at q4
   obtain ⟨u, v, hone⟩ := hone
   have : cs' = #[.iface u v] := by rw [← Array.toList_inj]; exact hone
   exact ⟨cs', T, fr, hh, by rw [this]; rfl, one_cell this (.inr ⟨u, v, rfl⟩)⟩
 ·cases q3
end
end Go.AM

namespace Go.AM
open Go Go.RowKit
theorem get_one {α : Type} {k0 k : Nat} {x o : α} (h : get [(k0, x)] k = some o) : k = k0 ∧ o = x := by
 simp only [get, beq_eq'] at h
 by_cases hk : k0 = k
 ·rw [cond_true (by simpa using hk)] at h; exact ⟨hk.symm, (Option.some.inj h).symm⟩
 ·rw [cond_false (by simpa using hk)] at h; cases h
section
variable {P : Program}
def strsD (l : List (List UInt8)) : List D := l.map .s
theorem strs_obj {env : Env} {S : Stab} {w : World} {e : TypeId} (hk : kinds P e = [.str]) (ha : isAggB P e = false) (hsz : sizeB P e = 1) {xs : List (List UInt8)} {ex : Bool} {b cap : Nat} {cur : Array Value}
  (hrow : RowAt w b cur e) (h1 : xs.length ≤ cap) (h2 : cap ≤ maxLen) (h3 : cur.size = cap) (h4 : ∀ (i : Nat) (x : List UInt8), xs[i]? = some x → cur[i]? = some (Value.string ⟨x.toArray⟩)) :
  ObjRel P env S w ⟨b, 0, some (xs.length, cap)⟩ (.row e ex false (strsD xs)) := by
 have hl : (strsD xs).length = xs.length := by simp [strsD]
 refine ⟨by rw [hsz, hk]; rfl, .inr ⟨rfl, rfl, cap, cur, by rw [hl]; rfl, hrow, by rw [hl]; exact h1, h2, by rw [hsz]; omega, fun i j k hi hj => ?_⟩⟩
 rw [hk] at hj
 cases j with
 | succ j => simp at hj
 | zero =>
  simp only [List.getElem?_cons_zero, Option.some.injEq] at hj
  subst hj
  rw [hl] at hi
  have hx := List.getElem?_eq_getElem hi
  refine ⟨_, by rw [hsz, Nat.mul_one, Nat.add_zero]; exact h4 i _ hx, ?_⟩
  have : elD P e ((strsD xs).getD i (.i 0)) 0 = .s xs[i] := by
   unfold elD
   rw [ha]
   simp [strsD, List.getD_eq_getElem?_getD, List.getElem?_map, hx]
  rw [this]
  exact .str (.s xs[i])
theorem callOk_newStrs {f : FuncId} {args : List V} {e : TypeId} (hk : kinds P e = [.str]) (ha : isAggB P e = false) (hsz : sizeB P e = 1) {xs : List (List UInt8)}
  (h : ∀ (env : Env) (S : Stab) (w : World) (vs : Array Value), GI P (fun _ _ => False) w → All2 (VRel P env S w) args vs.toList →
   Calls P f vs w fun en w' => ∃ b cap cur, en = .returned (.slice (some ⟨b, 0, none⟩) xs.length cap) ∧ Below w.heap.size w w' ∧ w.heap.size ≤ b ∧ w'.heap[b]? = some (.cells cur e (0, 0)) ∧ xs.length ≤ cap ∧ cap ≤ maxLen ∧ cur.size = cap ∧ ∀ (i : Nat) (x : List UInt8), xs[i]? = some x → cur[i]? = some (Value.string ⟨x.toArray⟩)) :
  CallOk P f args [] ([.c (.o 0)], [(0, .row e true false (strsD xs))]) := by
 intro B env w vs hpre hall
 refine (h env _ w vs (hpre.rel.gi.step (Chg.refl _ w) fun b o hf => hf.elim) hall).mono fun en w' ⟨b, cap, cur, he, hb, hlt, hcell, h1, h2, h3, h4⟩ => ⟨_, he, upd env 0 ⟨b, 0, some (xs.length, cap)⟩, ⟨rfl, ?_, ?_, ?_, ?_, chg_below hb, hpre.rel.bb, fun k hk => absurd hk (Nat.not_lt_zero _), hpre.rel.gi⟩, ?_⟩
 ·intro k o hg
  obtain ⟨rfl, rfl⟩ := get_one hg
  rw [show upd env 0 ⟨b, 0, some (xs.length, cap)⟩ 0 = ⟨b, 0, some (xs.length, cap)⟩ by simp [upd]]
  exact strs_obj hk ha hsz (.of hcell) h1 h2 h3 h4
 ·intro k k' o o' hg hg' _ _ hne
  exact absurd ((get_one hg).1.trans (get_one hg').1.symm) hne
 ·intro k o b' x hg hm
  obtain ⟨rfl, rfl⟩ := get_one hg
  rw [show upd env 0 ⟨b, 0, some (xs.length, cap)⟩ 0 = ⟨b, 0, some (xs.length, cap)⟩ by simp [upd]] at hm
  obtain ⟨_, rfl, _⟩ := hm
  exact .inr hlt
 ·intro k e' ex ys hg o _
  obtain ⟨rfl, _⟩ := get_one hg
  rw [show upd env 0 ⟨b, 0, some (xs.length, cap)⟩ 0 = ⟨b, 0, some (xs.length, cap)⟩ by simp [upd]]
  exact .inr (.inl hlt)
 ·show _ = Slot.hdr _
  simp [upd, Slot.hdr]
def splitD (s sep : List UInt8) : List (List UInt8) := (Lib.splitB ⟨sep.toArray⟩ 0 (Lib.countB ⟨s.toArray⟩ ⟨sep.toArray⟩) ⟨s.toArray⟩).map fun b => b.data.toList
theorem split_ok {f : FuncId} {e : TypeId} (hk : kinds P e = [.str]) (ha : isAggB P e = false) (hsz : sizeB P e = 1) {g : Nat} (hg : P.globalNamed "internal/bytealg.MaxLen" = some g)
  (h : ∀ (s sep : ByteArray) (m : Int) (w : World), s.size < 4294967281 → w.cell? ⟨g, 0, none⟩ = some (.int .i64 m) → 1 ≤ sep.size → Calls P f #[.string s, .string sep] w fun en w' =>
   en = .returned (.slice (some ⟨w.heap.size, 0, none⟩) (Lib.countB s sep + 1) (Lib.countB s sep + 1)) ∧ w' = w.alloc (.cells ((Lib.splitB sep 0 (Lib.countB s sep) s).map Value.string).toArray e))
  {s sep : List UInt8} (hs : s.length < 4294967281) (hsep : sep ≠ []) : CallOk P f [.c (.s s), .c (.s sep)] [] ([.c (.o 0)], [(0, .row e true false (strsD (splitD s sep)))]) := by
 have h1 : 1 ≤ (⟨sep.toArray⟩ : ByteArray).size := by
  cases sep with
  | nil => exact absurd rfl hsep
  | cons x r => simp [ByteArray.size]
 have hlen := Lib.splitB_all ⟨sep.toArray⟩ h1 0 _ ⟨s.toArray⟩ rfl
 have hcount := Lib.countB_le ⟨sep.toArray⟩ h1 s.length ⟨s.toArray⟩ (by simp [ByteArray.size])
 refine callOk_newStrs hk ha hsz fun env S w vs hgi hall => ?_
 obtain ⟨v1, v2, hv, r1, r2⟩ := all2_two hall
 have hvs : vs = #[v1, v2] := by rw [← Array.toList_inj]; exact hv
 subst hvs
 have r1 : v1 = .string ⟨s.toArray⟩ := r1
 have r2 : v2 = .string ⟨sep.toArray⟩ := r2
 subst r1 r2
 obtain ⟨_, cur, T, fr, q1, q2, q3⟩ := hgi ("internal/bytealg.MaxLen", [isIntV]) (by simp [gspecs]) g hg
 obtain ⟨v, hv0⟩ : ∃ v, cur[0]? = some v := ⟨cur[0]'(by rw [q2]; exact Nat.zero_lt_one), Array.getElem?_eq_getElem _⟩
 obtain ⟨m, rfl⟩ := q3 0 isIntV v rfl hv0
 have hl : (splitD s sep).length = Lib.countB ⟨s.toArray⟩ ⟨sep.toArray⟩ + 1 := by simp [splitD, hlen]
 rw [hl]
 refine (h ⟨s.toArray⟩ ⟨sep.toArray⟩ m w (by simpa [ByteArray.size] using hs) (cell_of q1 hv0) h1).mono fun en w' ⟨he, hw⟩ => ?_
 subst hw
 refine ⟨_, _, _, he, (Below.refl _ _).alloc (Nat.le_refl _) _, Nat.le_refl _, World.alloc_heap_new w _, Nat.le_refl _, ?_, ?_, fun i x hx => ?_⟩
 ·have hz : (⟨s.toArray⟩ : ByteArray).size = s.length := by simp [ByteArray.size]
  rw [hz] at hcount
  simp only [maxLen]; omega
 ·simp [hlen]
 ·unfold splitD at hx
  rw [List.getElem?_map] at hx
  obtain ⟨b, hb, rfl⟩ := Option.map_eq_some_iff.1 hx
  rw [List.getElem?_toArray, List.getElem?_map, hb]
  rfl
def i64B (n : Int) : Bool := decide (-9223372036854775808 ≤ n) && decide (n ≤ 9223372036854775807)
theorem tab_of {g : Nat} (hg : P.globalNamed "internal/strconv.uint64pow10" = some g) {w : World} (hgi : GI P (fun _ _ => False) w) : Lib.TabIs P w "internal/strconv.uint64pow10" .u64 ((List.range 20).map fun i => ((10 ^ i : Nat) : Int)) := by
 obtain ⟨_, cur, T, fr, q1, q2, q3⟩ := hgi ("internal/strconv.uint64pow10", (List.range 20).map fun i v => v = .int .u64 ((10 ^ i : Nat) : Int)) (by simp [gspecs]) g hg
 unfold Lib.TabIs World.var?
 rw [hg]
 simp only [Option.bind_some, q1, Option.some.injEq]
 simp only [List.length_map, List.length_range] at q2
 refine Array.ext (by simp [q2]) fun i h1 h2 => ?_
 have hi : i < 20 := by omega
 have := q3 i _ _ (by rw [List.getElem?_map, List.getElem?_range hi]; rfl) (Array.getElem?_eq_getElem h1)
 rw [this]
 simp
theorem itoa_ok {f : FuncId} {g : Nat} (hg : P.globalNamed "internal/strconv.uint64pow10" = some g)
  (h : ∀ (n : Int), -9223372036854775808 ≤ n → n ≤ 9223372036854775807 → ∀ w : World, Lib.TabIs P w "internal/strconv.uint64pow10" .u64 ((List.range 20).map fun i => ((10 ^ i : Nat) : Int)) → Calls P f #[.int .i64 n] w fun e w' => e = .returned (.string ⟨(Lib.itoa n).toArray⟩) ∧ Below w.heap.size w w')
  {n : Int} (hn : i64B n = true) : CallOk P f [.c (.i .i64 n)] [] ([.c (.s (Lib.itoa n))], []) := by
 unfold i64B at hn
 rw [Bool.and_eq_true, decide_eq_true_eq, decide_eq_true_eq] at hn
 refine callOk_below fun env S w vs hS hgi hall => ?_
 obtain ⟨v1, hv, r1⟩ := all2_one hall
 have hvs : vs = #[v1] := by rw [← Array.toList_inj]; exact hv
 subst hvs
 have r1 : v1 = .int .i64 n := r1
 subst r1
 exact (h n hn.1 hn.2 w (tab_of hg hgi)).mono fun e w' ⟨he, hw⟩ => ⟨_, he, hw, fun S' => rfl⟩
def atoiOk (l : List UInt8) : Bool := match Lib.atoiAll l with | .ok _ => true | _ => false
def isSyn (x : Lib.NumEnd Int) : Bool := match x with | .ok _ => false | .range => false | _ => true
def atoiV (l : List UInt8) : Int := match Lib.atoiAll l with | .ok v => v | .range => Lib.atoiSat l | _ => 0
theorem atoi_ok {f : FuncId} {g1 g2 : Nat} (hg1 : P.globalNamed "strconv.ErrSyntax" = some g1) (hg2 : P.globalNamed "strconv.ErrRange" = some g2)
  (h1 : ∀ (s : ByteArray) (v : Int) (w : World), s.size ≤ 281474976710656 → Lib.atoiAll s.data.toList = .ok v → Calls P f #[.string s] w fun e w' => e = .returned (.tuple #[.int .i64 v, .nilIface]) ∧ Below w.heap.size w w')
  (h2 : ∀ (s : ByteArray) (ev : Value) (w : World), s.size ≤ 281474976710656 → isSyn (Lib.atoiAll s.data.toList) = true → w.cell? ⟨g1, 0, none⟩ = some ev → (ev = .nilIface ∨ ∃ te pe, ev = .iface te pe) → Calls P f #[.string s] w fun e w' => ∃ t p, e = .returned (.tuple #[.int .i64 0, .iface t p]) ∧ Below w.heap.size w w')
  (h3 : ∀ (s : ByteArray) (ev : Value) (w : World), s.size ≤ 281474976710656 → Lib.atoiAll s.data.toList = .range → w.cell? ⟨g2, 0, none⟩ = some ev → (ev = .nilIface ∨ ∃ te pe, ev = .iface te pe) → Calls P f #[.string s] w fun e w' => ∃ t p, e = .returned (.tuple #[.int .i64 (Lib.atoiSat s.data.toList), .iface t p]) ∧ Below w.heap.size w w')
  {l : List UInt8} (hl : l.length ≤ 281474976710656) : CallOk P f [.c (.s l)] [] ([.c (.i .i64 (atoiV l)), .c (.ifc (atoiOk l))], []) := by
 refine callOk_below fun env S w vs hS hgi hall => ?_
 obtain ⟨v1, hv, r1⟩ := all2_one hall
 have hvs : vs = #[v1] := by rw [← Array.toList_inj]; exact hv
 subst hvs
 have r1 : v1 = .string ⟨l.toArray⟩ := r1
 subst r1
 have hsz : (⟨l.toArray⟩ : ByteArray).size ≤ 281474976710656 := by simpa [ByteArray.size] using hl
 have errAt : ∀ nm g, (nm, [isErrV]) ∈ gspecs → P.globalNamed nm = some g → ∃ ev, w.cell? ⟨g, 0, none⟩ = some ev ∧ (ev = .nilIface ∨ ∃ te pe, ev = .iface te pe) := by
  intro nm g hm hg
  obtain ⟨_, cur, T, fr, q1, q2, q3⟩ := hgi (nm, [isErrV]) hm g hg
  obtain ⟨v, hv0⟩ : ∃ v, cur[0]? = some v := ⟨cur[0]'(by rw [q2]; exact Nat.zero_lt_one), Array.getElem?_eq_getElem _⟩
  exact ⟨v, cell_of q1 hv0, q3 0 isErrV v rfl hv0⟩
 unfold atoiV atoiOk
 cases ha : Lib.atoiAll l with
 | ok v => exact (h1 ⟨l.toArray⟩ v w hsz ha).mono fun e w' ⟨he, hw⟩ => ⟨_, he, hw, fun S' => ⟨_, rfl, rfl, .inl ⟨rfl, rfl⟩, trivial⟩⟩
 | range =>
  obtain ⟨ev, q1, q2⟩ := errAt "strconv.ErrRange" g2 (by simp [gspecs]) hg2
  exact (h3 ⟨l.toArray⟩ ev w hsz ha q1 q2).mono fun e w' ⟨t, p, he, hw⟩ => ⟨_, he, hw, fun S' => ⟨_, rfl, rfl, .inr ⟨rfl, t, p, rfl⟩, trivial⟩⟩
 | _ =>
  obtain ⟨ev, q1, q2⟩ := errAt "strconv.ErrSyntax" g1 (by simp [gspecs]) hg1
  exact (h2 ⟨l.toArray⟩ ev w hsz (show isSyn (Lib.atoiAll l) = true by rw [ha]; rfl) q1 q2).mono fun e w' ⟨t, p, he, hw⟩ => ⟨_, he, hw, fun S' => ⟨_, rfl, rfl, .inr ⟨rfl, t, p, rfl⟩, trivial⟩⟩
open Go.Sort in
theorem delete_ok {f g : FuncId} {e : TypeId} (hk : kinds P e = [.str]) (ha : isAggB P e = false) (hsz : sizeB P e = 1) (p : List UInt8 → Bool)
  (h : ∀ (blk cap : Nat) (d : Array ByteArray) (w : World), Holds Value.string w blk 0 d → d.size ≤ 9223372036854775807 → d.size ≤ cap → Calls P f #[.slice (some ⟨blk, 0, none⟩) d.size cap, .func (.func g) #[] #[]] w fun en w' =>
   en = .returned (.slice (some ⟨blk, 0, none⟩) (d.toList.filter fun x => !p x.data.toList).length cap) ∧ ∃ q, w' = putRow Value.string (Sort.ahead w q) blk 0 ((d.toList.filter fun x => !p x.data.toList) ++ List.replicate (d.size - (d.toList.filter fun x => !p x.data.toList).length) ByteArray.empty).toArray)
  {xs : List D} : CallOk P f [.c (.o 0), .c (.f g [])] [(0, .row e true false xs)] ([.c (.o 1)], [(1, .row e true false (xs.filter fun d => !p d.toS))]) := by
 intro B env w vs hpre hall
 obtain ⟨v1, v2, hv, r1, r2⟩ := all2_two hall
 have hvs : vs = #[v1, v2] := by rw [← Array.toList_inj]; exact hv
 subst hvs
 obtain ⟨_, ⟨hn, _⟩ | ⟨_, hbase, cap, cur, hhdr, hrow, h1, h2, h3, h4⟩⟩ := hpre.rel.ob 0 _ rfl
 ·cases hn
 have r1 : v1 = (env 0).hdr := r1
 have r2 : v2 = .func (.func g) #[] #[] := r2
 subst r2
 rw [hhdr] at r1
 subst r1
 rw [hsz, Nat.mul_one] at h3
 have hcell : ∀ i, i < xs.length → cur[i]? = some (Value.string ⟨(xs.getD i (.i 0)).toS.toArray⟩) := by
  intro i hi
  obtain ⟨u, hu, hr⟩ := h4 i 0 .str hi (by rw [hk]; rfl)
  rw [hsz, Nat.mul_one, Nat.add_zero] at hu
  unfold elD at hr
  rw [ha] at hr
  simp only [AM.cond_false rfl] at hr
  rw [hu]
  generalize xs.getD i (.i 0) = d at hr
  cases hr
  rfl
 obtain ⟨dd, hdd⟩ : ∃ dd : Array ByteArray, dd = (xs.map fun d => (⟨d.toS.toArray⟩ : ByteArray)).toArray := ⟨_, rfl⟩
 have hds : dd.size = xs.length := by rw [hdd]; simp
 obtain ⟨fr, hfr, hheap⟩ := hrow
 have hH : Holds Value.string w (env 0).blk 0 dd := by
  intro j hj
  rw [hds] at hj
  have hget : dd[j]! = ⟨(xs.getD j (.i 0)).toS.toArray⟩ := by
   rw [hdd]
   simp [List.getD_eq_getElem?_getD, hj]
  refine ⟨?_, ?_⟩
  ·rw [Nat.zero_add, hget]
   exact cell_of hheap (hcell j hj)
  ·unfold World.frozen?
   simp only [hheap]
   rcases hfr with rfl | hfr
   ·simp
   ·simp; omega
 have hfilt : (dd.toList.filter fun x => !p x.data.toList) = (xs.filter fun d => !p d.toS).map fun d => (⟨d.toS.toArray⟩ : ByteArray) := by
  rw [hdd]
  simp only [List.filter_map]
  rfl
 have hlen : (dd.toList.filter fun x => !p x.data.toList).length = (xs.filter fun d => !p d.toS).length := by rw [hfilt]; simp
 have hle : (xs.filter fun d => !p d.toS).length ≤ xs.length := List.length_filter_le _ _
 have hc := h (env 0).blk cap dd w hH (by rw [hds]; exact Nat.le_trans h1 (Nat.le_trans h2 (by decide))) (by rw [hds]; exact h1)
 rw [hds] at hc
 refine hc.mono ?_
 rintro en w' ⟨he, q, hw⟩
 rw [hlen] at he hw
 refine ⟨_, he, upd env 1 ⟨(env 0).blk, 0, some ((xs.filter fun d => !p d.toS).length, cap)⟩, ?_, ?_⟩
 ·have hblk : ∃ cur' : Array Value, w'.heap[(env 0).blk]? = some (.cells cur' e fr) ∧ cur'.size = cur.size ∧ ∀ (i : Nat) (x : List UInt8), ((xs.filter fun d => !p d.toS).map D.toS)[i]? = some x → cur'[i]? = some (Value.string ⟨x.toArray⟩) := by
   rw [hw]
   refine ⟨putCells Value.string 0 ((dd.toList.filter fun x => !p x.data.toList) ++ List.replicate (xs.length - (xs.filter fun d => !p d.toS).length) ByteArray.empty).toArray cur, ?_, ?_, ?_⟩
   ·unfold putRow mapBlock
    simp only [Array.getElem?_modify, if_pos, Sort.ahead, hheap, Option.map_some, onCells]
   ·simp [putCells]
   ·intro i x hx
    rw [List.getElem?_map] at hx
    obtain ⟨d, hd, rfl⟩ := Option.map_eq_some_iff.1 hx
    have hi := (List.getElem?_eq_some_iff.1 hd).1
    have hic : i < cur.size := by omega
    unfold putCells
    rw [Array.getElem?_mapIdx, Array.getElem?_eq_getElem hic]
    simp only [Option.map_some, Option.some.injEq, Nat.zero_le, true_and, Nat.zero_add, Nat.sub_zero]
    rw [if_pos (by simp [hfilt]; omega)]
    congr 1
    rw [hfilt]
    have he2 := (List.getElem?_eq_some_iff.1 hd).2
    simp [List.getElem?_append, hi, List.getElem?_map, hd]
    rw [he2]
  have hother : ∀ b : Nat, b ≠ (env 0).blk → w'.heap[b]? = w.heap[b]? := by
   intro b hb
   rw [hw]
   unfold putRow mapBlock
   simp only [Array.getElem?_modify, Sort.ahead]
   rw [if_neg (Ne.symm hb)]
  obtain ⟨cur', c1, c2, c3⟩ := hblk
  have hM : ∀ o, Mut0 P env [(0, .row e true false xs)] (env 0).blk o := fun o => ⟨0, _, rfl, rfl, rfl, .inl rfl⟩
  have hup : upd env 1 ⟨(env 0).blk, 0, some ((xs.filter fun d => !p d.toS).length, cap)⟩ 1 = ⟨(env 0).blk, 0, some ((xs.filter fun d => !p d.toS).length, cap)⟩ := by simp [upd]
  have hstr : ∃ ys : List (List UInt8), strsD ys = (xs.filter fun d => !p d.toS).map (fun d => .s d.toS) ∧ ys = (xs.filter fun d => !p d.toS).map D.toS := ⟨_, by simp [strsD, Function.comp_def], rfl⟩
  refine ⟨rfl, ?_, ?_, ?_, ?_, ?_, hpre.rel.bb, ?_, hpre.rel.gi⟩
  ·intro k o hg
   obtain ⟨rfl, rfl⟩ := get_one hg
   rw [hup]
   have hso := strs_obj (P := P) (env := upd env 1 ⟨(env 0).blk, 0, some ((xs.filter fun d => !p d.toS).length, cap)⟩) (S := Sof P B (Mut0 P env [(0, .row e true false xs)]) w.heap.size (upd env 1 ⟨(env 0).blk, 0, some ((xs.filter fun d => !p d.toS).length, cap)⟩) [(1, .row e true false (xs.filter fun d => !p d.toS))] w') (w := w') (ex := true) hk ha hsz (xs := (xs.filter fun d => !p d.toS).map D.toS) (b := (env 0).blk) (cap := cap) (cur := cur')
    ⟨fr, by rw [c2]; exact hfr, c1⟩ (by simp; omega) h2 (by rw [c2]; exact h3) c3
   obtain ⟨s1, ⟨s2, _⟩ | ⟨_, s2, cap', cur'', s3, s4, s5, s6, s7, s8⟩⟩ := hso
   ·cases s2
   ·simp only [List.length_map, strsD] at s3 s5 s8
    refine ⟨s1, .inr ⟨rfl, s2, cap', cur'', s3, s4, s5, s6, s7, fun i j k hi hj => ?_⟩⟩
    obtain ⟨u, u1, u2⟩ := s8 i j k hi hj
    refine ⟨u, u1, ?_⟩
    rw [hk] at hj
    cases j with
    | succ j => simp at hj
    | zero =>
     simp only [List.getElem?_cons_zero, Option.some.injEq] at hj
     subst hj
     have hx := List.getElem?_eq_getElem hi
     unfold elD at u2 ⊢
     rw [ha] at u2 ⊢
     simp only [AM.cond_false rfl] at u2 ⊢
     rw [List.getD_eq_getElem?_getD, hx]
     rw [List.getD_eq_getElem?_getD, List.getElem?_map, List.getElem?_map, hx] at u2
     simp only [Option.map_some, Option.getD_some] at u2 ⊢
     cases u2
     exact .str _
  ·intro k k' o o' hg hg' _ _ hne
   exact absurd ((get_one hg).1.trans (get_one hg').1.symm) hne
  ·intro k o b' x hg hm
   obtain ⟨rfl, rfl⟩ := get_one hg
   rw [hup] at hm
   obtain ⟨_, rfl, _⟩ := hm
   exact .inl (hM x)
  ·intro k e' ex ys hg o _
   obtain ⟨rfl, _⟩ := get_one hg
   rw [hup]
   exact .inr (.inr (hM o))
  ·refine ⟨by rw [hw]; rfl, by rw [hw]; rfl, by rw [hw]; rfl, by rw [hw]; simp [putRow, mapBlock, Sort.ahead], ?_, ?_⟩
   ·intro b c T fr' hb
    by_cases hbb : b = (env 0).blk
    ·subst hbb
     rw [hheap] at hb
     cases hb
     exact ⟨cur', fr, c1, c2, fun o ho => absurd (hM o) ho, .inl rfl⟩
    ·exact ⟨c, fr', by rw [hother b hbb]; exact hb, rfl, fun _ _ => rfl, .inl rfl⟩
   ·intro b ob hb hno
    by_cases hbb : b = (env 0).blk
    ·subst hbb; exact absurd (hM 0) (hno 0)
    ·rw [hother b hbb]; exact hb
  ·intro k hk'
   have : k = 0 := by simpa using hk'
   subst this
   simp [upd]
 ·show _ = Slot.hdr _
  simp [upd, Slot.hdr]
end
end Go.AM

namespace Go.AM
open Go Go.RowKit
section
variable {P : Program}
def act0 : Act := { tmps := #[], defers := [] }
theorem MRel.toRel {n0 : Nat} {B M0 : Stab} {w0 w : World} {F : Nat → Prop} {e0 env : Env} {mem : AL Obj} (h : MRel P n0 B M0 w0 F e0 env mem w) : Rel P 0 n0 B M0 w0 F ⟨e0, []⟩ env ⟨[], mem⟩ act0 w :=
 ⟨rfl, MarksOk.nil, h.hn0, fun t x hg => (by cases hg), h.ob, h.ds, h.mu, h.pr, h.ch, h.bb, h.fx, h.gi⟩
theorem ba_box {env : Env} {S : Stab} {w : World} {s : Slot} {k : Nat} {T : TypeId} {c : C} (hsz : sizeB P T = 2) (h : ObjRel P env S w s (.box [.ba k T, c])) :
  s.base = 0 ∧ ∃ u v, w.heap[s.blk]? = some (.cells #[u, v] T (0, 0)) ∧ CRel P env S w (.ba k T) u ∧ CRel P env S w c v := by
 obtain ⟨cur, T', hh, hle, hrel, hnb⟩ := h
 obtain ⟨rfl, hn⟩ := hnb (.ba k T) (by simp)
 rw [hsz] at hn
 simp only [List.length_cons, List.length_nil] at hle
 have hb : s.base = 0 := by omega
 rw [hb] at hrel
 obtain ⟨l, hl⟩ : ∃ l, cur.toList = l := ⟨_, rfl⟩
 have hlen : l.length = 2 := by rw [← hl]; simpa using hn
 match l, hlen with
 | [u, v], _ =>
  rw [hl] at hrel
  refine ⟨hb, u, v, ?_, hrel.1, hrel.2.1⟩
  rw [hh]
  congr 2
  rw [← Array.toList_inj, hl]
theorem copyCheck_ok {f : FuncId} {T : TypeId} (hsz : sizeB P T = 2)
  (h1 : ∀ (b : Nat) (w : World), w.cell? ⟨b, 0, none⟩ = some (.pointer (some ⟨b, 0, none⟩)) → Calls P f #[.pointer (some ⟨b, 0, none⟩)] w fun e w' => e = .returned (.tuple #[]) ∧ w' = w)
  (h2 : ∀ (b : Nat) (w : World), w.cell? ⟨b, 0, none⟩ = some (.pointer none) → w.shape? b = some (T, 2) → w.frozen? ⟨b, 0, none⟩ = false →
   Calls P f #[.pointer (some ⟨b, 0, none⟩)] w fun e w' => e = .returned (.tuple #[]) ∧ w' = w.setCell ⟨b, 0, none⟩ (.pointer (some ⟨b, 0, none⟩)))
  {c : C} {rest : AL Obj} : CallOk P f [.c (.p 0 0)] ((0, .box [.ba 0 T, c]) :: rest) ([], (0, .box [.ba 0 T, c]) :: rest) := by
 intro B env w vs hpre hall
 obtain ⟨v1, hv, r1⟩ := all2_one hall
 have hvs : vs = #[v1] := by rw [← Array.toList_inj]; exact hv
 subst hvs
 have hg : get ((0, Obj.box [.ba 0 T, c]) :: rest) 0 = some (.box [.ba 0 T, c]) := rfl
 obtain ⟨hb, u, v, hh, hu, hc⟩ := ba_box hsz (hpre.rel.ob 0 _ hg)
 have r1 : v1 = .pointer (some ⟨(env 0).blk, (env 0).base + 0, none⟩) := r1
 rw [hb] at r1
 subst r1
 rcases hu with hu | hu
 ·subst hu
  refine (h2 (env 0).blk w (cell_of hh rfl) (by simp [World.shape?, hh]) (by simp [World.frozen?, hh])).mono fun e w' ⟨he, hw⟩ => ⟨_, he, env, ?_, #[], rfl, trivial⟩
  subst hw
  have hr := box_store (o := 0) (vs := [.pointer (some ⟨(env 0).blk, 0, none⟩)]) (cs' := [.ba 0 T, c]) hpre.rel.toRel hg hh (by rw [hb]; simp) rfl (by simp) (by
    intro c' hc'
    obtain ⟨cur, T', hh', _, _, hnb⟩ := hpre.rel.ob 0 _ hg
    rw [hh] at hh'
    cases hh'
    exact hnb c' hc') (by
    intro S' w' hk
    rw [hb]
    exact ⟨.inr (by simp [hb]), CRel.mono hk (fun _ _ => rfl) hc, trivial⟩)
  have hM := hr.toM
  have e1 : w.setRow (env 0).blk ((#[Value.pointer none, v] : Array Value).toList.take ((env 0).base + 0) ++ [Value.pointer (some ⟨(env 0).blk, 0, none⟩)] ++ (#[Value.pointer none, v] : Array Value).toList.drop ((env 0).base + 0 + [Value.pointer (some ⟨(env 0).blk, 0, none⟩)].length)).toArray = w.setCell ⟨(env 0).blk, 0, none⟩ (.pointer (some ⟨(env 0).blk, 0, none⟩)) := by
   rw [setCell_eq_setRow w _ _ _ _ _ _ hh, hb]
   rfl
  rw [e1] at hM
  exact hM
 ·rw [hb] at hu
  subst hu
  refine (h1 (env 0).blk w (cell_of hh rfl)).mono fun e w' ⟨he, hw⟩ => ⟨_, he, env, ?_, #[], rfl, trivial⟩
  subst hw
  exact hpre.rel
def isBytes (xs : List D) : Bool := xs.all fun d => decide (0 ≤ d.toI) && decide (d.toI < 256)
theorem drew_heap (w : World) : w.drew.heap = w.heap := rfl
theorem isBytes_bytesD (l : List UInt8) : isBytes (bytesD l) = true := by
 simp only [isBytes, bytesD, List.all_map, List.all_eq_true, Function.comp]
 intro b _
 have := b.toNat_lt
 rw [Bool.and_eq_true]
 exact ⟨decide_eq_true (by show (0 : Int) ≤ (b.toNat : Int); omega), decide_eq_true (by show (b.toNat : Int) < 256; omega)⟩
theorem strD_bytesD (l : List UInt8) : strD (bytesD l) = l := by
 simp [strD, bytesD, byteD, D.toI, Function.comp_def]
theorem bstr_ok {f : FuncId} {T e : TypeId} (hsz : sizeB P T = 2) (hk : kinds P e = [.int .u8]) (ha : isAggB P e = false)
  (h0 : ∀ (b : Nat) (p : Value) (w : World), w.heap[b]? = some (.cells #[p, .slice none 0 0] T (0, 0)) → Calls P f #[.pointer (some ⟨b, 0, none⟩)] w fun en w' => en = .returned (.string ⟨#[]⟩) ∧ Below w.heap.size w w')
  (h2 : ∀ (b g cap : Nat) (p : Value) (cur : Array Value) (fr : Nat × Nat) (l : List UInt8) (w : World), w.heap[b]? = some (.cells #[p, .slice (some ⟨g, 0, none⟩) l.length cap] T (0, 0)) → w.heap[g]? = some (.cells cur e fr) → l ≠ [] → l.length ≤ cap → cap ≤ maxLen → cur.size = cap →
   (∀ (j : Nat) x, l[j]? = some x → cur[j]? = some (.int .u8 x.toNat)) → Calls P f #[.pointer (some ⟨b, 0, none⟩)] w fun en w' => en = .returned (.string ⟨l.toArray⟩) ∧ w' = w.drew.freeze ⟨g, 0, none⟩ l.length)
  {nl : Bool} {xs : List D} (hx : (isBytes xs && (!xs.isEmpty || nl)) = true) : CallOk P f [.c (.p 0 0)] [(0, .box [.ba 0 T, .o 1]), (1, .row e true nl xs)] ([.c (.s (strD xs))], [(0, .box [.ba 0 T, .u])]) := by
 intro B env w vs hpre hall
 obtain ⟨v1, hv, r1⟩ := all2_one hall
 have hvs : vs = #[v1] := by rw [← Array.toList_inj]; exact hv
 subst hvs
 have hg : get [(0, Obj.box [.ba 0 T, .o 1]), (1, .row e true nl xs)] 0 = some (.box [.ba 0 T, .o 1]) := rfl
 have hg1 : get [(0, Obj.box [.ba 0 T, .o 1]), (1, .row e true nl xs)] 1 = some (.row e true nl xs) := rfl
 obtain ⟨hb, u, v, hh, hu, hc⟩ := ba_box hsz (hpre.rel.ob 0 _ hg)
 have r1 : v1 = .pointer (some ⟨(env 0).blk, (env 0).base + 0, none⟩) := r1
 rw [hb] at r1
 subst r1
 have hc : v = (env 1).hdr := hc
 subst hc
 have fin : ∀ w' : World, w'.heap[(env 0).blk]? = w.heap[(env 0).blk]? → Chg (Mut0 P env [(0, Obj.box [.ba 0 T, .o 1]), (1, .row e true nl xs)]) w w' →
   CallPost P B env [(0, Obj.box [.ba 0 T, .o 1]), (1, .row e true nl xs)] w ([.c (.s (strD xs))], [(0, .box [.ba 0 T, .u])]) (.string ⟨(strD xs).toArray⟩) w' := by
  intro w' hw hch
  refine ⟨env, ⟨rfl, ?_, ?_, ?_, ?_, hch, hpre.rel.bb, fun _ _ => rfl, hpre.rel.gi⟩, rfl⟩
  ·intro k o hgk
   obtain ⟨rfl, rfl⟩ := get_one hgk
   refine ⟨_, T, by rw [hw]; exact hh, by rw [hb]; simp, ?_, ?_⟩
   ·rw [hb]
    refine ⟨?_, trivial, trivial⟩
    exact hu
   ·obtain ⟨cur, T', hh', _, _, hnb⟩ := hpre.rel.ob 0 _ hg
    rw [hh] at hh'
    cases hh'
    intro c hc
    simp only [List.mem_cons, List.not_mem_nil, or_false] at hc
    rcases hc with rfl | rfl
    ·exact hnb _ (by simp)
    ·trivial
  ·intro k k' o o' hgk hgk' _ _ hne
   exact absurd ((get_one hgk).1.trans (get_one hgk').1.symm) hne
  ·intro k o b x hgk hm
   obtain ⟨rfl, rfl⟩ := get_one hgk
   exact .inl ⟨0, _, hg, hm⟩
  ·intro k e' ex ys hgk
   obtain ⟨_, he⟩ := get_one hgk
   cases he
 obtain ⟨hsz1, ⟨hnl, hxs, hhdr⟩ | ⟨hnl, hbase, cap, cur, hhdr, hrow, hl1, hl2, hl3, hl4⟩⟩ := hpre.rel.ob 1 _ hg1
 ·subst hxs
  rw [hhdr] at hh
  exact (h0 _ _ w hh).mono fun en w' ⟨he, hbw⟩ => ⟨_, he, fin w' (hbw.block _ (Array.getElem?_eq_some_iff.1 hh).1) (chg_below hbw)⟩
 ·rw [hhdr] at hh
  obtain ⟨fr, hfr, hgrow⟩ := hrow
  rw [hk] at hsz1
  have hs1 : sizeB P e = 1 := hsz1
  rw [hs1, Nat.mul_one] at hl3
  have hne : (env 0).blk ≠ (env 1).blk := hpre.rel.ds 0 1 _ _ hg hg1 trivial hnl (by decide)
  cases xs with
  | nil => rw [hnl] at hx; simp at hx
  | cons d ds =>
   have hll : (strD (d :: ds)).length = (d :: ds).length := by simp [strD]
   refine (h2 _ (env 1).blk cap _ cur fr (strD (d :: ds)) w (by rw [hll]; exact hh) hgrow (by simp [strD]) (by rw [hll]; exact hl1) hl2 hl3 ?_).mono fun en w' ⟨he, hw⟩ => ⟨_, he, fin w' ?_ ?_⟩
   ·intro j x hj
    unfold strD at hj
    rw [List.getElem?_map] at hj
    obtain ⟨y, hy, rfl⟩ := Option.map_eq_some_iff.1 hj
    have hjl := (List.getElem?_eq_some_iff.1 hy).1
    obtain ⟨u', hu', hr⟩ := hl4 j 0 (.int .u8) hjl (by rw [hk]; rfl)
    rw [hs1, Nat.mul_one, Nat.add_zero] at hu'
    rw [hu']
    unfold elD at hr
    rw [ha] at hr
    simp only [cond_false] at hr
    rw [List.getD_eq_getElem?_getD, hy] at hr
    simp only [Option.getD_some] at hr
    have hby := List.all_eq_true.1 (Bool.and_eq_true _ _ ▸ hx).1 y (List.mem_of_getElem? hy)
    rw [Bool.and_eq_true, decide_eq_true_eq, decide_eq_true_eq] at hby
    cases hr
    have hyn : (UInt8.ofNat y.toI.toNat).toNat = y.toI.toNat := by
     simp only [UInt8.toNat_ofNat']
     omega
    rw [hyn]
    congr 2
    omega
   ·subst hw
    unfold World.freeze
    split
    ·rfl
    ·simp only [Array.getElem?_modify, if_neg (Ne.symm hne), drew_heap]
   ·have hM : ∀ o, Mut0 P env [(0, Obj.box [.ba 0 T, .o 1]), (1, .row e true nl (d :: ds))] (env 1).blk o := fun o => ⟨1, _, hg1, hnl, rfl, .inl rfl⟩
    subst hw
    unfold World.freeze
    split
    ·exact ⟨rfl, rfl, rfl, Nat.le_refl _, fun b c T' fr' hb' => ⟨c, fr', hb', rfl, fun _ _ => rfl, .inl rfl⟩, fun b ob hb' _ => hb'⟩
    ·refine ⟨rfl, rfl, rfl, by simp, ?_, ?_⟩
     ·intro b c T' fr' hb'
      by_cases hbb : b = (env 1).blk
      ·subst hbb
       refine ⟨c, _, by simp only [Array.getElem?_modify, if_pos, drew_heap, hb', Option.map_some]; rfl, rfl, fun _ _ => rfl, .inr hM⟩
      ·exact ⟨c, fr', by simp only [Array.getElem?_modify, if_neg (Ne.symm hbb), drew_heap]; exact hb', rfl, fun _ _ => rfl, .inl rfl⟩
     ·intro b ob hb' hno
      by_cases hbb : b = (env 1).blk
      ·subst hbb; exact absurd (hM 0) (hno 0)
      ·simp only [Array.getElem?_modify, if_neg (Ne.symm hbb), drew_heap]; exact hb'
end
end Go.AM

set_option maxHeartbeats 1000000
set_option maxRecDepth 100000
namespace Go.Proofs
open Go Go.Shelf Go.RowKit
variable {P : Program} {ρ : Ren}
theorem Any.bstr_exact (L : Lays.n169 P ρ) (X : Builder.Extra P ρ) (b g cap : Nat) (p : Value) (cur : Array Value) (fr : Nat × Nat) (l : List UInt8) (w : World)
  (hbk : w.heap[b]? = some (.cells #[p, .slice (some ⟨g, 0, none⟩) l.length cap] (ρ.t 72) (0, 0))) (hg : w.heap[g]? = some (.cells cur (ρ.t 5) fr)) (h0 : l ≠ []) (hnc : l.length ≤ cap) (hcm : cap ≤ maxLen) (hcs : cur.size = cap)
  (hl : ∀ (j : Nat) x, l[j]? = some x → cur[j]? = some (.int .u8 x.toNat)) :
  Calls P (ρ.f 169) #[.pointer (some ⟨b, 0, none⟩)] w fun e w' => e = .returned (.string ⟨l.toArray⟩) ∧ w' = w.drew.freeze ⟨g, 0, none⟩ l.length := by
 have hl0 : l.length ≠ 0 := by simpa using h0
 have c1 : w.drew.cell? ⟨b, 1, none⟩ = some (.slice (some ⟨g, 0, none⟩) l.length cap) := by
  have : w.drew.heap[b]? = some (.cells #[p, .slice (some ⟨g, 0, none⟩) l.length cap] (ρ.t 72) (0, 0)) := hbk
  rw [Lib.cell_of_heap this]; rfl
 have hSD : (Builtin.unsafeSliceData_ #[(ρ.t 37)] (ρ.t 127) #[.slice (some ⟨g, 0, none⟩) l.length cap]).run P w.drew = .ok (.pointer (some ⟨g, 0, none⟩)) w.drew :=
  Lib.run_unsafeSliceData_row _ _ _ _ _ _ (by omega)
 have hUS : (Builtin.unsafeString_ #[(ρ.t 127), (ρ.t 3)] (ρ.t 9) #[.pointer (some ⟨g, 0, none⟩), .int .i64 l.length]).run P w.drew = .ok (.string ⟨l.toArray⟩) (w.drew.freeze ⟨g, 0, none⟩ l.length) := by
  refine Lib.run_unsafeString_row w.drew (ρ.t 127) (ρ.t 3) (ρ.t 9) (ρ.t 5) L.t127 X.cellsByte g cur.size (by have hg' : w.drew.heap[g]? = some (.cells cur (ρ.t 5) fr) := hg; simp [World.shape?, hg']) l h0 (by omega) (by unfold maxLen at hcm; omega) ?_
  intro j x hx
  have hj := hl j x hx
  have hg' : w.drew.heap[g]? = some (.cells cur (ρ.t 5) fr) := hg
  rw [Addr.add_lit, Nat.zero_add]
  exact Go.AM.cell_of hg' hj
 have mixed := L.mixed
 have t72 := L.t72; have a72 := L.a72; have z72 := L.z72; have v72 := L.v72; have u72 := run_underlying L.t72
 have t70 := L.t70; have a70 := L.a70; have z70 := L.z70; have v70 := L.v70; have u70 := run_underlying L.t70
 have t37 := L.t37; have a37 := L.a37; have z37 := L.z37; have v37 := L.v37; have u37 := run_underlying L.t37
 have t127 := L.t127; have a127 := L.a127; have z127 := L.z127; have v127 := L.v127; have u127 := run_underlying L.t127
 have t3 := L.t3; have a3 := L.a3; have z3 := L.z3; have v3 := L.v3; have u3 := run_underlying L.t3
 have t9 := L.t9; have a9 := L.a9; have z9 := L.z9; have v9 := L.v9; have u9 := run_underlying L.t9
 have t5 := X.t5; have a5 := X.a5; have z5 := X.z5; have v5 := X.v5; have u5 := run_underlying X.t5
 go_enter L.f169, Body.n169_ntmps ρ
 go_wp2
 go_region_o
 all_goals (go_wp2; go_ret; exact ⟨rfl, rfl⟩)
end Go.Proofs

namespace Go.AM
open Go
def splitL (c : UInt8) : List UInt8 → List (List UInt8)
 | [] => [[]]
 | x :: r => bif x == c then [] :: splitL c r else match splitL c r with
  | h :: t => (x :: h) :: t
  | [] => [[x]]
theorem splitL_at {c : UInt8} : ∀ {a b : List UInt8}, c ∉ a → splitL c (a ++ c :: b) = a :: splitL c b
 | [], b, _ => by simp [splitL]
 | x :: a, b, h => by
  have h1 : x ≠ c := fun e => h (by simp [e])
  have := splitL_at (c := c) (a := a) (b := b) (fun hm => h (List.mem_cons_of_mem x hm))
  simp only [List.cons_append, splitL, this]
  rw [show (x == c) = false from beq_eq_false_iff_ne.2 h1]
  rfl
theorem splitL_none {c : UInt8} : ∀ {a : List UInt8}, c ∉ a → splitL c a = [a]
 | [], _ => rfl
 | x :: a, h => by
  have h1 : x ≠ c := fun e => h (by simp [e])
  have := splitL_none (c := c) (a := a) (fun hm => h (List.mem_cons_of_mem x hm))
  simp only [splitL, this]
  rw [show (x == c) = false from beq_eq_false_iff_ne.2 h1]
  rfl
theorem occ_one {c : UInt8} {s : List UInt8} {i : Nat} : Lib.occAt s [c] i = (s[i]? == some c) := by
 unfold Lib.occAt
 cases h : s.drop i with
 | nil =>
  have : s[i]? = none := by rw [List.getElem?_eq_none]; simpa using h
  rw [this]; rfl
 | cons x r =>
  have : s[i]? = some x := by
   have h2 : (s.drop i)[0]? = some x := by rw [h]; rfl
   simpa using h2
  rw [this]
  simp [List.isPrefixOf, Bool.beq_comm]
theorem index_hit {c : UInt8} {a b : List UInt8} (h : c ∉ a) : Lib.index (a ++ c :: b) [c] = a.length := by
 refine Lib.index_first (by simp) (by rw [occ_one]; simp) fun j hj => ?_
 rw [occ_one, List.getElem?_append_left hj]
 cases hx : a[j]? with
 | none => rfl
 | some x =>
  have : x ≠ c := fun e => h (e ▸ List.mem_of_getElem? hx)
  simpa using this
theorem index_miss {c : UInt8} {s : List UInt8} (h : c ∉ s) : Lib.index s [c] = -1 := by
 refine Lib.index_none fun j _ => ?_
 rw [occ_one]
 cases hx : s[j]? with
 | none => rfl
 | some x =>
  have : x ≠ c := fun e => h (e ▸ List.mem_of_getElem? hx)
  simpa using this
theorem split_one (c : UInt8) : ∀ (n : Nat) (s : List UInt8), s.length ≤ n → Lib.splitK [c] 0 (Lib.count s [c]) s = splitL c s := by
 intro n
 induction n with
 | zero =>
  intro s hs
  have : s = [] := List.eq_nil_of_length_eq_zero (by omega)
  subst this
  rw [Lib.count_miss (index_miss (by simp))]
  rfl
 | succ n ih =>
  intro s hs
  by_cases hc : c ∈ s
  ·obtain ⟨a, b, rfl, ha⟩ := List.eq_append_cons_of_mem hc
   rw [Lib.count_hit (by simp) (index_hit ha), splitL_at ha, Nat.add_comm 1]
   unfold Lib.splitK
   rw [index_hit ha, if_neg (by simp <;> omega)]
   have e1 : (a ++ c :: b).drop (((a.length : Int)).toNat + [c].length) = b := by simp
   have e2 : (a ++ c :: b).drop (a.length + [c].length) = b := by simp
   have e3 : (a ++ c :: b).take (((a.length : Int)).toNat + 0) = a := by simp
   rw [e1, e2, e3, ih b (by simp at hs; omega)]
  ·rw [Lib.count_miss (index_miss hc), splitL_none hc]
   simp [Lib.splitK]
theorem splitD_one (s : List UInt8) (c : UInt8) : splitD s [c] = splitL c s := by
 unfold splitD
 rw [Lib.splitB_data]
 exact split_one c _ s (Nat.le_refl _)
def isDig (c : UInt8) : Bool := decide (48 ≤ c.toNat) && decide (c.toNat ≤ 57)
def dgs (acc : Nat) (c : UInt8) : Nat := acc * 10 + (c.toNat - 48)
def digV (acc : Nat) (l : List UInt8) : Nat := l.foldl dgs acc
theorem digV_nil (acc : Nat) : digV acc [] = acc := by unfold digV; rw [List.foldl_nil]
theorem digV_cons (acc : Nat) (c : UInt8) (r : List UInt8) : digV acc (c :: r) = digV (acc * 10 + (c.toNat - 48)) r := by
 unfold digV
 rw [List.foldl_cons]
 rfl
theorem isDig_iff {c : UInt8} : isDig c = true ↔ 48 ≤ c.toNat ∧ c.toNat ≤ 57 := by simp [isDig]
theorem digV_snoc (l : List UInt8) (acc : Nat) (c : UInt8) : digV acc (l ++ [c]) = digV acc l * 10 + (c.toNat - 48) := by
 unfold digV
 rw [List.foldl_append, List.foldl_cons, List.foldl_nil]
 rfl
theorem digV_lt (l : List UInt8) : ∀ (acc : Nat), l.all isDig = true → digV acc l < (acc + 1) * 10 ^ l.length := by
 induction l with
 | nil => intro acc _; rw [digV_nil, List.length_nil, Nat.pow_zero]; omega
 | cons c r ih =>
  intro acc h
  simp only [List.all_cons, Bool.and_eq_true] at h
  have hc := isDig_iff.1 h.1
  have h2 := ih (acc * 10 + (c.toNat - 48)) h.2
  rw [digV_cons]
  have e : (acc + 1) * 10 ^ (c :: r).length = ((acc + 1) * 10) * 10 ^ r.length := by
   rw [List.length_cons, Nat.pow_succ, Nat.mul_comm (10 ^ r.length) 10, Nat.mul_assoc]
  rw [e]
  generalize 10 ^ r.length = P at h2 ⊢
  exact Nat.lt_of_lt_of_le h2 (Nat.mul_le_mul_right P (by omega))
theorem parse_step {c : UInt8} {r : List UInt8} {acc : Nat} (hc : 48 ≤ c.toNat ∧ c.toNat ≤ 57) (h : (acc + 1) * 10 ≤ 1000000000000000000) : Lib.parseUint10 acc (c :: r) = Lib.parseUint10 (acc * 10 + (c.toNat - 48)) r := by
 have h1 : ¬ 1844674407370955162 ≤ acc := by omega
 have h2 : ¬ 18446744073709551616 ≤ acc * 10 + (c.toNat - 48) := by omega
 simp only [Lib.parseUint10, hc, h1, h2, and_self, if_true, if_false]
theorem parse_digits {B : Nat} (hB : B ≤ 1000000000000000000) (l : List UInt8) : ∀ (acc : Nat), l.all isDig = true → (acc + 1) * 10 ^ l.length ≤ B → Lib.parseUint10 acc l = .ok (digV acc l) := by
 induction l with
 | nil => intro acc _ _; rw [digV_nil]; rfl
 | cons c r ih =>
  intro acc h hb
  simp only [List.all_cons, Bool.and_eq_true] at h
  have hc := isDig_iff.1 h.1
  have e : (acc + 1) * 10 ^ (c :: r).length = ((acc + 1) * 10) * 10 ^ r.length := by
   rw [List.length_cons, Nat.pow_succ, Nat.mul_comm (10 ^ r.length) 10, Nat.mul_assoc]
  rw [e] at hb
  have h1 : acc * 10 + (c.toNat - 48) + 1 ≤ (acc + 1) * 10 := by omega
  have h2 := Nat.le_trans (Nat.mul_le_mul_right (10 ^ r.length) h1) hb
  have h4 : 1 ≤ 10 ^ r.length := Nat.one_le_pow r.length 10 (by omega)
  have h3 : (acc + 1) * 10 ≤ B := Nat.le_trans (Nat.le_mul_of_pos_right _ h4) hb
  rw [parse_step hc (Nat.le_trans h3 hB), digV_cons]
  exact ih _ h.2 h2
def wholeL (l : List UInt8) : Bool := l.all isDig && decide (1 ≤ l.length) && (decide (l.length = 1) || decide (l.head? ≠ some 48))
theorem chr_back {c : UInt8} (h : isDig c = true) : UInt8.ofNat (48 + (c.toNat - 48)) = c := by
 have := isDig_iff.1 h
 rw [show 48 + (c.toNat - 48) = c.toNat by omega]
 exact UInt8.ofNat_toNat
theorem decDigits_digV : ∀ (n : Nat) (l : List UInt8), l.length = n → wholeL l = true → Lib.decDigits (digV 0 l) = l := by
 intro n
 induction n with
 | zero =>
  intro l hl h
  have : l = [] := List.eq_nil_of_length_eq_zero hl
  subst this
  simp [wholeL] at h
 | succ n ih =>
  intro l hl h
  rcases List.eq_nil_or_concat l with rfl | ⟨a, c, rfl⟩
  ·simp at hl
  simp only [wholeL, List.concat_eq_append, Bool.and_eq_true, List.all_append, List.all_cons, List.all_nil, Bool.and_true, Bool.or_eq_true, decide_eq_true_eq] at h ⊢
  obtain ⟨⟨⟨ha, hc⟩, _⟩, hz⟩ := h
  have hc' := isDig_iff.1 hc
  have hcb := chr_back hc
  rw [digV_snoc]
  cases a with
  | nil =>
   rw [digV_nil]
   rw [Lib.decDigits, dif_pos (by omega)]
   simp only [Nat.zero_mul, Nat.zero_add]
   rw [hcb]
   rfl
  | cons x r =>
   have hx : x ≠ 48 := by
    rcases hz with hz | hz
    ·simp at hz
    ·simpa using hz
   have hxd := isDig_iff.1 (by simp only [List.all_cons, Bool.and_eq_true] at ha; exact ha.1)
   have hx2 : 1 ≤ x.toNat - 48 := by
    have : x.toNat ≠ 48 := fun e => hx (UInt8.toNat_inj.1 (by rw [e]; rfl))
    omega
   have hpos : 1 ≤ digV 0 (x :: r) := by
    have mono : ∀ (l : List UInt8) (acc : Nat), acc ≤ digV acc l := by
     intro l
     induction l with
     | nil => intro acc; rw [digV_nil]; exact Nat.le_refl _
     | cons y l ihl => intro acc; rw [digV_cons]; exact Nat.le_trans (by omega) (ihl (acc * 10 + (y.toNat - 48)))
    rw [digV_cons]
    exact Nat.le_trans (by omega) (mono r (0 * 10 + (x.toNat - 48)))
   have hd := ih (x :: r) (by simp at hl; simp; omega) (by
    simp only [wholeL, ha, Bool.true_and, Bool.and_eq_true, Bool.or_eq_true, decide_eq_true_eq]
    exact ⟨by simp, .inr (by simpa using hx)⟩)
   rw [Lib.decDigits, dif_neg (by omega)]
   rw [show (digV 0 (x :: r) * 10 + (c.toNat - 48)) / 10 = digV 0 (x :: r) by omega, show (digV 0 (x :: r) * 10 + (c.toNat - 48)) % 10 = c.toNat - 48 by omega, hd, hcb]
theorem ofNat_dig {k : Nat} (h : k < 10) : (UInt8.ofNat (48 + k)).toNat = 48 + k := by
 exact UInt8.toNat_ofNat_of_lt (by show 48 + k < 256; omega)
theorem decDigits_whole : ∀ (n u : Nat), u ≤ n → wholeL (Lib.decDigits u) = true ∧ digV 0 (Lib.decDigits u) = u ∧ (1 ≤ u → (Lib.decDigits u).head? ≠ some 48) := by
 intro n
 induction n with
 | zero =>
  intro u hu
  have : u = 0 := by omega
  subst this
  rw [Lib.decDigits, dif_pos (by omega)]
  exact ⟨by decide, by decide, fun h => by omega⟩
 | succ n ih =>
  intro u hu
  by_cases h : u < 10
  ·rw [Lib.decDigits, dif_pos h]
   have hk := ofNat_dig h
   refine ⟨?_, ?_, fun h1 => ?_⟩
   ·simp only [wholeL, List.all_cons, List.all_nil, Bool.and_true, List.length_cons, List.length_nil, Bool.and_eq_true, isDig_iff, hk, decide_eq_true_eq, Bool.or_eq_true]
    refine ⟨⟨?_, ?_⟩, ?_⟩ <;> first | omega | simp | exact .inl rfl
   ·rw [digV_cons, digV_nil, hk]; omega
   ·simp only [List.head?_cons, Option.some.injEq, ne_eq]
    intro e
    have : (UInt8.ofNat (48 + u)).toNat = 48 := by rw [e]; rfl
    omega
  ·rw [Lib.decDigits, dif_neg h]
   have hk := ofNat_dig (k := u % 10) (by omega)
   obtain ⟨h1, h2, h3⟩ := ih (u / 10) (by omega)
   have h3 := h3 (by omega)
   simp only [wholeL, Bool.and_eq_true, decide_eq_true_eq] at h1
   obtain ⟨⟨h4, h5⟩, _⟩ := h1
   have hne : Lib.decDigits (u / 10) ≠ [] := by intro e; rw [e] at h5; simp at h5
   have hh : (Lib.decDigits (u / 10) ++ [UInt8.ofNat (48 + u % 10)]).head? = (Lib.decDigits (u / 10)).head? := by
    cases hq : Lib.decDigits (u / 10) with
    | nil => exact absurd hq hne
    | cons => rfl
   refine ⟨?_, ?_, fun _ => by rw [hh]; exact h3⟩
   ·simp only [wholeL, List.all_append, h4, List.all_cons, List.all_nil, Bool.and_true, Bool.true_and, Bool.and_eq_true, isDig_iff, hk, decide_eq_true_eq, Bool.or_eq_true, hh]
    refine ⟨⟨by omega, by simp⟩, .inr h3⟩
   ·rw [digV_snoc, h2, hk]; omega
def unsign (l : List UInt8) : List UInt8 := match l with | 45 :: r => r | _ => l
def isNeg (l : List UInt8) : Bool := match l with | 45 :: _ => true | _ => false
def numB (k : Nat) (l : List UInt8) : Bool := wholeL (unsign l) && decide ((unsign l).length ≤ k) && !(isNeg l && decide (digV 0 (unsign l) = 0))
def numV (l : List UInt8) : Int := bif isNeg l then -(digV 0 (unsign l) : Int) else (digV 0 (unsign l) : Int)
theorem wholeL_head {l : List UInt8} (h : wholeL l = true) : ∃ c r, l = c :: r ∧ isDig c = true := by
 cases l with
 | nil => simp [wholeL] at h
 | cons c r =>
  simp only [wholeL, List.all_cons, Bool.and_eq_true] at h
  exact ⟨c, r, rfl, h.1.1.1⟩
theorem unsign_cases (l : List UInt8) : (isNeg l = true ∧ l = 45 :: unsign l) ∨ (isNeg l = false ∧ unsign l = l) := by
 unfold isNeg unsign
 split
 ·exact .inl ⟨rfl, rfl⟩
 ·exact .inr ⟨rfl, rfl⟩
theorem num_iff {k : Nat} (hk : k ≤ 17) (l : List UInt8) : (atoiOk l && decide ((unsign l).length ≤ k) && (Lib.itoa (atoiV l) == l)) = numB k l := by
 rw [Bool.eq_iff_iff]
 constructor
 ·intro h
  simp only [Bool.and_eq_true, decide_eq_true_eq, beq_iff_eq] at h
  obtain ⟨⟨_, h2⟩, h3⟩ := h
  unfold Lib.itoa at h3
  unfold numB
  split at h3
  ·rename_i hn
   have hu : unsign l = Lib.decDigits (atoiV l).natAbs := (congrArg unsign h3).symm
   have hg : isNeg l = true := (congrArg isNeg h3).symm
   obtain ⟨w1, w2, w3⟩ := decDigits_whole _ (atoiV l).natAbs (Nat.le_refl _)
   rw [hu, hg, w1, w2]
   rw [hu] at h2
   simp only [Bool.true_and, Bool.and_eq_true, decide_eq_true_eq, Bool.not_eq_true', decide_eq_false_iff_not]
   exact ⟨h2, by omega⟩
  ·rename_i hn
   obtain ⟨w1, w2, w3⟩ := decDigits_whole _ (atoiV l).toNat (Nat.le_refl _)
   rw [h3] at w1 w2
   obtain ⟨c, r, rfl, hc⟩ := wholeL_head w1
   have hc' := isDig_iff.1 hc
   have hneg : isNeg (c :: r) = false ∧ unsign (c :: r) = c :: r := by
    rcases unsign_cases (c :: r) with ⟨_, q2⟩ | q
    ·simp only [List.cons.injEq] at q2
     rw [q2.1] at hc'
     exact absurd hc'.1 (by decide)
    ·exact q
   rw [hneg.1, hneg.2, w1]
   rw [hneg.2] at h2
   simp only [Bool.true_and, Bool.false_and, Bool.not_false, Bool.and_true, decide_eq_true_eq]
   exact h2
 ·intro h
  unfold numB at h
  simp only [Bool.and_eq_true, decide_eq_true_eq, Bool.not_eq_true', Bool.and_eq_false_imp, decide_eq_false_iff_not] at h
  obtain ⟨⟨h1, h2⟩, h3⟩ := h
  have hw := h1
  obtain ⟨c, r, hcr, hc⟩ := wholeL_head h1
  have hc' := isDig_iff.1 hc
  simp only [wholeL, Bool.and_eq_true] at h1
  have hall := h1.1.1
  have hlt := digV_lt (unsign l) 0 hall
  have hp : 10 ^ (unsign l).length ≤ 10 ^ 17 := Nat.pow_le_pow_right (by omega) (by omega)
  have hV : digV 0 (unsign l) < 100000000000000000 := by
   have : (100000000000000000 : Nat) = 10 ^ 17 := by decide
   rw [this]
   exact Nat.lt_of_lt_of_le (by simpa using hlt) hp
  have hparse : Lib.parseMag (unsign l) = .ok (digV 0 (unsign l)) := by
   unfold Lib.parseMag
   rw [if_neg (by rw [hcr]; simp)]
   exact parse_digits (B := 10 ^ 17) (by decide) _ 0 hall (by simpa using hp)
  have hdd := decDigits_digV _ (unsign l) rfl hw
  have key : Lib.atoiAll l = .ok (numV l) := by
   rcases unsign_cases l with ⟨q1, q2⟩ | ⟨q1, q2⟩
   ·unfold numV
    rw [q1]
    rw [q2]
    have e : unsign (45 :: unsign l) = unsign l := rfl
    rw [e]
    unfold Lib.atoiAll
    simp only [show (45 : UInt8).toNat = 45 from rfl, or_true, if_true, hparse]
    rw [if_neg (by simp), if_neg (by simp; omega)]
    rfl
   ·unfold numV
    rw [q1]
    have hh : l = c :: r := by rw [← q2]; exact hcr
    have e2 : unsign l = l := q2
    rw [hh] at hparse hV e2 ⊢
    rw [e2] at hparse hV ⊢
    unfold Lib.atoiAll
    simp only
    rw [if_neg (by omega), hparse]
    simp only
    rw [if_neg (by omega), if_neg (by omega), if_neg (by omega)]
    rfl
  have hv : atoiV l = numV l := by unfold atoiV; rw [key]
  have ho : atoiOk l = true := by unfold atoiOk; rw [key]
  rw [ho, hv]
  simp only [Bool.true_and, Bool.and_eq_true, decide_eq_true_eq, beq_iff_eq]
  refine ⟨h2, ?_⟩
  unfold Lib.itoa numV
  rcases unsign_cases l with ⟨q1, q2⟩ | ⟨q1, q2⟩
  ·have := h3 q1
   rw [q1]
   simp only [_root_.cond_true]
   rw [if_pos (by omega)]
   rw [show (-(digV 0 (unsign l) : Int)).natAbs = digV 0 (unsign l) by omega, hdd]
   exact q2.symm
  ·rw [q1]
   simp only [_root_.cond_false]
   rw [if_neg (by omega)]
   rw [show ((digV 0 (unsign l) : Nat) : Int).toNat = digV 0 (unsign l) by omega, hdd]
   exact q2
theorem num_val {k : Nat} (hk : k ≤ 17) {l : List UInt8} (h : numB k l = true) : atoiV l = numV l := by
 have h0 := (num_iff hk l).trans h
 simp only [Bool.and_eq_true, decide_eq_true_eq, beq_iff_eq] at h0
 have h3 := h0.2
 unfold Lib.itoa at h3
 unfold numV
 split at h3
 ·rename_i hn
  have hu : unsign l = Lib.decDigits (atoiV l).natAbs := (congrArg unsign h3).symm
  have hg : isNeg l = true := (congrArg isNeg h3).symm
  rw [hg, hu, (decDigits_whole _ _ (Nat.le_refl _)).2.1]
  simp only [_root_.cond_true]
  omega
 ·rename_i hn
  obtain ⟨w1, w2, w3⟩ := decDigits_whole _ (atoiV l).toNat (Nat.le_refl _)
  rw [h3] at w1 w2
  obtain ⟨c, r, rfl, hc⟩ := wholeL_head w1
  have hc' := isDig_iff.1 hc
  have hneg : isNeg (c :: r) = false ∧ unsign (c :: r) = c :: r := by
   rcases unsign_cases (c :: r) with ⟨_, q2⟩ | q
   ·simp only [List.cons.injEq] at q2
    rw [q2.1] at hc'
    exact absurd hc'.1 (by decide)
   ·exact q
  rw [hneg.1, hneg.2, w2]
  simp only [_root_.cond_false]
  omega
theorem itoa_num {k : Nat} {n : Int} (hk0 : 1 ≤ k) (hk : k ≤ 17) (hn : n.natAbs < 10 ^ k) : numB k (Lib.itoa n) = true ∧ numV (Lib.itoa n) = n := by
 have hlen : ∀ u : Nat, u < 10 ^ k → (Lib.decDigits u).length ≤ k := by
  intro u hu
  rw [Lib.decDigits_length]
  rcases Nat.lt_or_ge u 10 with h | h
  ·rw [Lib.nDigits_small h]; exact hk0
  ·refine Nat.le_of_not_lt fun hlt => ?_
   obtain ⟨w1, w2, w3⟩ := decDigits_whole _ u (Nat.le_refl _)
   -- a number of more digits is greater
   have hle : 10 ^ (Lib.nDigits u - 1) ≤ u := by
    have : ∀ (m v : Nat), v ≤ m → 1 ≤ v → 10 ^ (Lib.nDigits v - 1) ≤ v := by
     intro m
     induction m with
     | zero => intro v hv h1; omega
     | succ m ihm =>
      intro v hv h1
      by_cases h10 : v < 10
      ·rw [Lib.nDigits_small h10]; simpa using h1
      ·rw [Lib.nDigits_big h10]
       have := ihm (v / 10) (by omega) (by omega)
       have h1 := Lib.nDigits_pos (v / 10)
       rw [show Lib.nDigits (v / 10) + 1 - 1 = Lib.nDigits (v / 10) - 1 + 1 by omega, Nat.pow_succ]
       omega
    exact this u u (Nat.le_refl _) (by omega)
   have : 10 ^ k ≤ 10 ^ (Lib.nDigits u - 1) := Nat.pow_le_pow_right (by omega) (by omega)
   omega
 obtain ⟨w1, w2, w3⟩ := decDigits_whole _ n.natAbs (Nat.le_refl _)
 unfold Lib.itoa
 split
 ·rename_i h
  have e1 : unsign (45 :: Lib.decDigits n.natAbs) = Lib.decDigits n.natAbs := rfl
  have e2 : isNeg (45 :: Lib.decDigits n.natAbs) = true := rfl
  unfold numB numV
  rw [e1, e2, w1, w2]
  simp only [Bool.true_and, _root_.cond_true, Bool.and_eq_true, decide_eq_true_eq, Bool.not_eq_true', decide_eq_false_iff_not]
  exact ⟨⟨hlen _ hn, by omega⟩, by omega⟩
 ·rename_i h
  have e0 : n.toNat = n.natAbs := by omega
  rw [e0]
  obtain ⟨c, r, hcr, hc⟩ := wholeL_head w1
  have hc' := isDig_iff.1 hc
  have hneg : isNeg (Lib.decDigits n.natAbs) = false ∧ unsign (Lib.decDigits n.natAbs) = Lib.decDigits n.natAbs := by
   rcases unsign_cases (Lib.decDigits n.natAbs) with ⟨_, q2⟩ | q
   ·rw [hcr] at q2
    simp only [List.cons.injEq] at q2
    rw [q2.1] at hc'
    exact absurd hc'.1 (by decide)
   ·exact q
  unfold numB numV
  rw [hneg.1, hneg.2, w1, w2]
  simp only [Bool.true_and, _root_.cond_false, Bool.and_eq_true, decide_eq_true_eq, Bool.false_and, Bool.not_false, and_true]
  exact ⟨hlen _ hn, by omega⟩
end Go.AM

set_option linter.unusedVariables false
set_option linter.unusedSimpArgs false
set_option maxRecDepth 100000
namespace Go.Proofs.YtohplnjpncjhoaaGreatDoor
open Go Go.AM
theorem progOk : ProgOk Tryz.prog := progOk_of (by kernel_rfl)
noncomputable def lkC : Code := piece Tryz.prog 108 300000004
noncomputable def lkFst : Code → Code | .seq a _ => a | c => c
noncomputable def lkSnd : Code → Code | .seq _ b => b | c => c
noncomputable def lkIn : Code → Code | .block _ b => b | .loop b => b | .cond _ a _ => a | c => c
noncomputable def lkOps : Code → List Oper | .region _ ops _ => ops.toList | _ => []
noncomputable def lkR1 : List Oper := lkOps (lkFst lkC)
noncomputable def lkL : Code := lkIn (lkIn (lkSnd lkC))
noncomputable def lkR2 : List Oper := lkOps (lkFst lkL)
noncomputable def lkB : Code := lkIn (lkSnd (lkSnd lkL))
noncomputable def lkR3 : List Oper := lkOps (lkFst lkB)
noncomputable def lkT : Code := lkSnd lkB
theorem lkC_eq : lkC = .seq (.region 1 lkR1.toArray false) (.block 0 (.loop (.seq (.region 2 lkR2.toArray false) (.seq (.cond (.tmp 16) .skip (.exit 0)) (.block 1 (.seq (.region 3 lkR3.toArray false) lkT)))))) := by kernel_rfl
noncomputable def lk1 (i : Nat) : Oper := lkR1.getD i default
noncomputable def lk2 (i : Nat) : Oper := lkR2.getD i default
noncomputable def lk3 (i : Nat) : Oper := lkR3.getD i default
theorem lkR1_eq : lkR1 = [lk1 0, lk1 1, lk1 2, lk1 3, lk1 4, lk1 5, lk1 6, lk1 7, lk1 8] := by kernel_rfl
theorem lkR2_eq : lkR2 = [lk2 0, lk2 1] := by kernel_rfl
theorem lkR3_eq : lkR3 = [lk3 0, lk3 1, lk3 2, lk3 3, lk3 4] := by kernel_rfl
theorem lk10 : (lk1 0).op = .makeMap 170 none ∧ (lk1 0).dst = some 9 ∧ (lk1 0).guard = none := ⟨by kernel_rfl, by kernel_rfl, by kernel_rfl⟩
theorem lk12 : (lk1 2).op = .insert 170 (.tmp 9) (.const (.int .i64 1)) (.tmp 10) ∧ (lk1 2).dst = none ∧ (lk1 2).guard = none := ⟨by kernel_rfl, by kernel_rfl, by kernel_rfl⟩
theorem lk14 : (lk1 4).op = .insert 170 (.tmp 9) (.const (.int .i64 2)) (.tmp 11) ∧ (lk1 4).dst = none ∧ (lk1 4).guard = none := ⟨by kernel_rfl, by kernel_rfl, by kernel_rfl⟩
theorem lk16 : (lk1 6).op = .insert 170 (.tmp 9) (.const (.int .i64 3)) (.tmp 12) ∧ (lk1 6).dst = none ∧ (lk1 6).guard = none := ⟨by kernel_rfl, by kernel_rfl, by kernel_rfl⟩
theorem lk18 : (lk1 8).op = .range 170 (.tmp 13) ∧ (lk1 8).dst = some 14 ∧ (lk1 8).guard = none := ⟨by kernel_rfl, by kernel_rfl, by kernel_rfl⟩
theorem lk20 : (lk2 0).op = .next (.tmp 14) false ∧ (lk2 0).dst = some 15 ∧ (lk2 0).guard = none := ⟨by kernel_rfl, by kernel_rfl, by kernel_rfl⟩
theorem lk30 : (lk3 0).op = .entry (.tmp 14) ∧ (lk3 0).dst = some 17 ∧ (lk3 0).guard = none := ⟨by kernel_rfl, by kernel_rfl, by kernel_rfl⟩
theorem noG {l : List Oper} (h : (l.all fun o => o.guard.isNone) = true) {o : Oper} (ho : o ∈ l) : o.guard = none := Option.isNone_iff_eq_none.1 (List.all_eq_true.1 h o ho)
theorem lkG1 : (lkR1.all fun o => o.guard.isNone) = true := by kernel_rfl
theorem lkG2 : (lkR2.all fun o => o.guard.isNone) = true := by kernel_rfl
theorem lkG3 : (lkR3.all fun o => o.guard.isNone) = true := by kernel_rfl
theorem lkU : Tryz.prog.underlying 170 = some (.map 3 63) := by kernel_rfl
theorem lkU3 : Tryz.prog.underlying 3 = some (.int .i64) := by kernel_rfl
noncomputable def lkBoxes (L : List Lf) (p q s : Int) : AL AM.Obj := [(2, .box [.b (lb L 0), .b (lb L 1), .b (lb L 2), .b (lb L 3), .b (lb L 4), .sl 3 (lb L 5) (ll L 6), .b (lb L 7), .b (lb L 8)]),
 (3, .box [.i .i64 (li L 9), .i .i64 (li L 10), .i .i64 (li L 11), .i .i64 (li L 12), .i .i64 p, .i .i64 q, .i .i64 s]),
 (4, .box [.i .i64 (li L 16), .i .i64 (li L 17), .i .i64 (li L 18), .i .i64 (li L 19), .i .i64 (li L 20), .i .i64 (li L 21), .i .i64 (li L 22)])]
noncomputable def lkTm : AL V := [(2, .c (.p 2 0)), (3, .c (.p 3 0)), (4, .c (.p 4 0))]
noncomputable def shLook : Sh := { tmps := [(2, .c (.p 2 0)), (3, .c (.p 3 0)), (4, .c (.p 4 0))], mem := [(2, .box (rB 5 ([.sl 3, .b, .b]))), (3, .box (rI 7 ([]))), (4, .box (rI 7 ([])))] }
theorem shLook_eq (L : List Lf) : ofSh shLook L = ⟨lkTm, lkBoxes L (li L 13) (li L 14) (li L 15)⟩ := by kernel_rfl
noncomputable def mis (f : Bool) (x : Int) : Int := bif f then -1 else x
noncomputable def ALook (L : List Lf) : List (Bool × (Ex × St)) := [(true, (.normal, ⟨lkTm, lkBoxes L (mis (lb L 1) (li L 13)) (mis (lb L 2) (li L 14)) (mis (lb L 3) (li L 15))⟩))]
noncomputable def cl0 : Oracle := fun _ _ _ => none
noncomputable def lkSt (L : List Lf) (p q s : Int) (rb : Nat) : St := ⟨lkTm ++ [(14, .c (.v (.pointer (some ⟨rb, 0, none⟩))))], lkBoxes L p q s⟩
noncomputable def lkIn3 (L : List Lf) (p q s : Int) (rb i : Nat) : St := ⟨lkTm ++ [(5, .c (.i .i64 i)), (6, .c (.p 3 (3 + i))), (14, .c (.v (.pointer (some ⟨rb, 0, none⟩))))], lkBoxes L p q s⟩
noncomputable def lkK (e : Ex) (st : St) : Option (Ex × St) := some (e, cutSt [2, 3, 4, 14] [2, 3, 4] st)
theorem lk_exec1 (L : List Lf) (p q s : Int) (rb : Nat) : exec Tryz.prog cl0 {} 1000 50 lkT (lkIn3 L p q s rb 1) lkK = bif lb L 1 then some (.normal, lkSt L (-1) q s rb) else some (.normal, lkSt L p q s rb) := by kernel_rfl
theorem lk_exec2 (L : List Lf) (p q s : Int) (rb : Nat) : exec Tryz.prog cl0 {} 1000 50 lkT (lkIn3 L p q s rb 2) lkK = bif lb L 2 then some (.normal, lkSt L p (-1) s rb) else some (.normal, lkSt L p q s rb) := by kernel_rfl
theorem lk_exec3 (L : List Lf) (p q s : Int) (rb : Nat) : exec Tryz.prog cl0 {} 1000 50 lkT (lkIn3 L p q s rb 3) lkK = bif lb L 3 then some (.normal, lkSt L p q (-1) rb) else some (.normal, lkSt L p q s rb) := by kernel_rfl
end Go.Proofs.YtohplnjpncjhoaaGreatDoor

set_option linter.unusedVariables false
set_option linter.unusedSimpArgs false
set_option maxRecDepth 100000
namespace Go.Proofs.YtohplnjpncjhoaaGreatDoor
open Go Go.AM
theorem cl0_ok : OracleOk Tryz.prog cl0 := fun _ _ _ _ h => by cases h
theorem no_laws {hs : Hint} (h : hs.los = []) {kb : Nat} {b : Code} : CutOk Tryz.prog hs kb b := by
 intro id f hl
 unfold lawOf at hl
 rw [h] at hl
 split at hl
 ·cases hl
 ·simp [AM.get] at hl
def notW : V → Bool | .w .. => false | _ => true
theorem noW_of {st : St} (h : (st.tmps.all fun x => notW x.2) = true) : NoW st := by
 intro t x hx s b y he
 subst he
 have : ∀ (l : AL V), (l.all fun x => notW x.2) = true → AM.get l t ≠ some (.w s b y) := by
  intro l
  induction l with
  | nil => intro _ h; cases h
  | cons e r ih =>
   obtain ⟨k, v⟩ := e
   intro hl hg
   simp only [List.all_cons, Bool.and_eq_true] at hl
   simp only [AM.get] at hg
   cases hk : Nat.beq k t with
   | true => rw [hk] at hg; simp only [AM.cond_true rfl, Option.some.injEq] at hg; subst hg; exact absurd hl.1 (by simp [notW])
   | false => rw [hk] at hg; exact ih hl.2 hg
 exact this _ h hx
theorem grown_set {w : World} {b : Nat} {o : Go.Obj} : w.grownBy { w with heap := w.heap.setIfInBounds b o } (some b) :=
 ⟨rfl, rfl, rfl, by simp, fun k hk hne => by
  show (w.heap.setIfInBounds b o)[k]? = _
  rw [Array.getElem?_setIfInBounds, if_neg (fun e => hne (by rw [e]))]⟩
theorem grown_drew {w w1 : World} {b : Nat} {o : Go.Obj} (h : w1 = w ∨ w1 = w.drew) : w.grownBy (ChangeMaps.setBlock w1 b o) (some b) := by
 rcases h with rfl | rfl
 ·exact grown_set
 ·exact ⟨rfl, rfl, rfl, by show w.heap.size ≤ (w.heap.setIfInBounds b o).size; simp, fun k hk hne => by
   show (w.heap.setIfInBounds b o)[k]? = _
   rw [Array.getElem?_setIfInBounds, if_neg (fun e => hne (by rw [e]))]⟩
theorem ins_run {w : World} {mb clock : Nat} {es : Array MapEntry} {k : Int} {v : Value} (hb : w.heap[mb]? = some (.map es clock)) (hf : Instr.findNow (.int .i64) (.int .i64 k) es.toList 0 = some none) :
  (Instr.mapUpdate 170 (.map (some mb)) (.int .i64 k) v).run Tryz.prog w = .ok () { w with heap := w.heap.setIfInBounds mb (.map (es.push { key := .int .i64 k, val := v, born := clock }) (clock + 1)) } := by
 have hc : (Instr.checkKey false 10000 3 (.int .i64 k)).run Tryz.prog w = .ok () w := MapKept.run_checkKey (k := .int .i64 k) lkU3 (by simp [MapKept.IsKey]) false 9999
 simp [Instr.mapUpdate, run_underlying lkU, MapKept.run_getObj_map hb, hc, MapKept.run_findKey lkU3 hf, MapKept.run_setObj_map _ hb, Result.andThen]
def lkE (s : Slot) (i : Nat) : MapEntry := { key := .int .i64 (i + 1), val := .pointer (some ⟨s.blk, s.base + (4 + i), none⟩), born := i }
def lkEs (s : Slot) : Array MapEntry := #[lkE s 0, lkE s 1, lkE s 2]
theorem lk_mem {s : Slot} {e : MapEntry} (h : e ∈ (lkEs s).toList) : ∃ i, i < 3 ∧ e = lkE s i := by
 simp only [lkEs, List.mem_cons, List.not_mem_nil, or_false] at h
 rcases h with rfl | rfl | rfl
 ·exact ⟨0, by omega, rfl⟩
 ·exact ⟨1, by omega, rfl⟩
 ·exact ⟨2, by omega, rfl⟩
section
variable {N n0 : Nat} {F : Nat → Prop} {B M0 : Stab} {w0 : World} {e0 : Base} {env : Env} {a : Act} {w : World}
def LkI (N n0 : Nat) (F : Nat → Prop) (B M0 : Stab) (w0 : World) (e0 : Base) (L : List Lf) (s : Slot) (mb rb : Nat) (a : Act) (w : World) : Prop :=
 ∃ env p q r, ∃ (seen : Array Nat) (c0 : Nat), Rel Tryz.prog N n0 B M0 w0 F e0 env (lkSt L p q r rb) a w ∧ env 3 = s ∧ w.heap[mb]? = some (.map (lkEs s) 3) ∧ w.heap[rb]? = some (.mapIter (some mb) 3 seen c0) ∧ 3 ≤ c0 ∧
  Off env (lkBoxes L p q r) mb ∧ Off env (lkBoxes L p q r) rb ∧ n0 ≤ rb ∧
  p = (bif seen.contains 0 then mis (lb L 1) (li L 13) else li L 13) ∧ q = (bif seen.contains 1 then mis (lb L 2) (li L 14) else li L 14) ∧ r = (bif seen.contains 2 then mis (lb L 3) (li L 15) else li L 15)
def lkM (s : Slot) (rb : Nat) (w : World) : Nat := match w.heap[rb]? with
 | some (.mapIter _ _ seen _) => (leftOf (lkEs s) seen).size
 | _ => 0

theorem rel_cast {st st' : St} (h : Rel Tryz.prog N n0 B M0 w0 F e0 env st a w) (e : st = st') : Rel Tryz.prog N n0 B M0 w0 F e0 env st' a w := e ▸ h
theorem lk_okC {N : Nat} (h : okC N lkC = true) : (∀ o ∈ lkR1, ∀ d, o.dst = some d → d < N) ∧ (∀ o ∈ lkR2, ∀ d, o.dst = some d → d < N) ∧ (∀ o ∈ lkR3, ∀ d, o.dst = some d → d < N) ∧ okC N lkT = true := by
 rw [lkC_eq] at h
 simp only [okC, Bool.and_eq_true] at h
 exact ⟨okC_ops h.1, okC_ops h.2.1, okC_ops h.2.2.2.1, h.2.2.2.2⟩
theorem lk_tail {L : List Lf} {p q r p' q' r' : Int} {rb i : Nat} (hN : okC N lkT = true) (hF : ∀ k, F k → k < 0) (h : Rel Tryz.prog N n0 B M0 w0 F e0 env (lkIn3 L p q r rb i) a w)
  (hx : exec Tryz.prog cl0 {} 1000 50 lkT (lkIn3 L p q r rb i) lkK = some (.normal, lkSt L p' q' r' rb)) :
  lkT.wp Tryz.prog (fun e a' w' => e = .normal ∧ ∃ env', Rel Tryz.prog N n0 B M0 w0 F e0 env' (lkSt L p' q' r' rb) a' w' ∧ AM.Left (· < 1000) env (lkBoxes L p q r) w env' (lkBoxes L p' q' r') w') a w :=
 run_cut (kb := 1000) (ts := [2, 3, 4, 14]) (ks := [2, 3, 4]) cl0_ok (drawSound progOk.mixed cl0_ok) (fun k hk => by have := hF k hk; omega) hN (fun b _ => no_laws rfl) h (noW_of rfl) hx rfl

theorem lk_round {x : Ex × St} {L : List Lf} {s : Slot} {mb rb : Nat} (hok : okC N lkC = true) (hF : ∀ k, F k → k < 0) (hI : LkI N n0 F B M0 w0 e0 L s mb rb a w) (hmr : mb ≠ rb)
  (hx : x = (.normal, ⟨lkTm, lkBoxes L (mis (lb L 1) (li L 13)) (mis (lb L 2) (li L 14)) (mis (lb L 3) (li L 15))⟩)) :
  (Code.seq (.region 2 lkR2.toArray false) (.seq (.cond (.tmp 16) .skip (.exit 0)) (.block 1 (.seq (.region 3 lkR3.toArray false) lkT)))).wp Tryz.prog
   (Exit.then (fun a' w' => LkI N n0 F B M0 w0 e0 L s mb rb a' w' ∧ lkM s rb w' < lkM s rb w) (Exit.inBlock 0 (PostX Tryz.prog N n0 B M0 w0 F e0 (fun e st => some (e, st)) x))) a w := by
 obtain ⟨ok1, ok2, ok3, okT⟩ := lk_okC hok
 obtain ⟨env, p, q, r, seen, c0, h, hs, hb, hr, hc, hOb, hOr, hn, hp, hq, hrr⟩ := hI
 have hold : ∀ x ∈ (lkEs s).toList, x.born < 3 := fun x hx => by obtain ⟨i, hi, rfl⟩ := lk_mem hx; exact hi
 have hM : lkM s rb w = (leftOf (lkEs s) seen).size := by unfold lkM; rw [hr]
 refine wp_seq (wp_region_list ?_)
 show wpList Tryz.prog _ _ lkR2 a w
 rw [lkR2_eq] at ok2 ⊢
 have e14 : a.eval (.tmp 14) = .pointer (some ⟨rb, 0, none⟩) := h.evu (.tmp 14)
 have d0 : ∀ d, (lk2 0).dst = some d → d < N := ok2 _ (by simp)
 have d1 : ∀ d, (lk2 1).dst = some d → d < N := ok2 _ (by simp)
 have g0 : (lk2 0).guard = none := lk20.2.2
 have g1 : (lk2 1).guard = none := noG lkG2 (by rw [lkR2_eq]; simp)
 rcases run_next_at (P := Tryz.prog) w (lk2 0).type rb mb 3 c0 seen (lkEs s) 3 hr hb hold hc with ⟨h0, hrun⟩ | ⟨e, he, w1, hal, hrun⟩
 ·-- nothing is left
  have hall := all_seen (lkEs s) seen h0
  refine wpl_value (v := .tuple #[.bool false]) (w' := w) g0 (by simp only [execOp, lk20.1, e14, Sem.run_bind, hrun, Result.andThen_ok, Sem.run_pure]) ?_
  have h1 := h.put (x := .t [.c (.k false)]) (v := .tuple #[.bool false]) d0 ⟨#[.bool false], rfl, rfl, trivial⟩
  refine wpl_val (x := .c (.k false)) h1 d1 g1 (by kernel_rfl) fun v hv h2 => ?_
  show (Code.seq _ _).wp Tryz.prog _ _ _
  have h16 : (Act.put (Act.put a (lk2 0).dst (.tuple #[.bool false])) (lk2 1).dst v).eval (.tmp 16) = .bool false := h2.evu (.tmp 16)
  refine wp_seq (wp_cond_false h16 (wp_exit ?_))
  have h3 := cutSt_sound h2 [2, 3, 4] [2, 3, 4]
  refine ⟨env, _, h3, ?_⟩
  subst hx
  have s0 := hall (lkE s 0) (by simp [lkEs])
  have s1 := hall (lkE s 1) (by simp [lkEs])
  have s2 := hall (lkE s 2) (by simp [lkEs])
  have s0 : seen.contains 0 = true := s0
  have s1 : seen.contains 1 = true := s1
  have s2 : seen.contains 2 = true := s2
  rw [s0] at hp; rw [s1] at hq; rw [s2] at hrr
  subst hp hq hrr
  show some (Ex.normal, _) = some _
  kernel_rfl
 ·obtain ⟨hes, hnot⟩ := mem_left he
  obtain ⟨i, hi, rfl⟩ := lk_mem hes
  have hw1 : w1.heap = w.heap := by rcases hal with rfl | rfl <;> rfl
  have hsz : rb < w.heap.size := (Array.getElem?_eq_some_iff.1 hr).1
  have hmsz : mb < w.heap.size := (Array.getElem?_eq_some_iff.1 hb).1
  have hg2 := grown_drew (b := rb) (o := .mapIter (some mb) 3 (seen.push (lkE s i).born) 3) hal
  have hr2 : (ChangeMaps.setBlock w1 rb (.mapIter (some mb) 3 (seen.push (lkE s i).born) 3)).heap[rb]? = some (.mapIter (some mb) 3 (seen.push (lkE s i).born) 3) := by
   show (w1.heap.setIfInBounds rb _)[rb]? = _
   rw [hw1, Array.getElem?_setIfInBounds, if_pos rfl, if_pos hsz]
  have hb2 : (ChangeMaps.setBlock w1 rb (.mapIter (some mb) 3 (seen.push (lkE s i).born) 3)).heap[mb]? = some (.map (lkEs s) 3) := by
   rw [hg2.block mb hmsz (fun e => hmr (Option.some.inj e))]; exact hb
  generalize ChangeMaps.setBlock w1 rb (.mapIter (some mb) 3 (seen.push (lkE s i).born) 3) = w2 at hrun hg2 hr2 hb2
  have hA := h.alien hg2 (fun b e => by cases e; exact ⟨hn, (fun c T f e => by rw [hr] at e; cases e), hOr⟩) (fun b e d q => by cases e; rw [hr] at q; cases q)
  refine wpl_value (v := .tuple #[.bool true, (lkE s i).key, (lkE s i).val]) (w' := w2) g0 (by simp only [execOp, lk20.1, e14, Sem.run_bind, hrun, Result.andThen_ok, Sem.run_pure]) ?_
  have h1 := hA.put (x := .t [.c (.k true), .c .u, .c .u]) (v := .tuple #[.bool true, (lkE s i).key, (lkE s i).val]) d0 ⟨_, rfl, rfl, trivial, trivial, trivial⟩
  refine wpl_val (x := .c (.k true)) h1 d1 g1 (by kernel_rfl) fun v hv h2 => ?_
  show (Code.seq _ _).wp Tryz.prog _ _ _
  have h16 : (Act.put (Act.put a (lk2 0).dst (.tuple #[.bool true, (lkE s i).key, (lkE s i).val])) (lk2 1).dst v).eval (.tmp 16) = .bool true := h2.evu (.tmp 16)
  refine wp_seq (wp_cond_true h16 (wp_skip ?_))
  show (Code.block _ _).wp Tryz.prog _ _ _
  refine wp_block (wp_seq (wp_region_list ?_))
  show wpList Tryz.prog _ _ lkR3 _ _
  have f : ∀ o ∈ lkR3, o.guard = none := fun o ho => noG lkG3 ho
  rw [lkR3_eq] at ok3 f ⊢
  have e14' : (Act.put (Act.put a (lk2 0).dst (.tuple #[.bool true, (lkE s i).key, (lkE s i).val])) (lk2 1).dst v).eval (.tmp 14) = .pointer (some ⟨rb, 0, none⟩) := h2.evu (.tmp 14)
  have hent := run_entry_at (P := Tryz.prog) w2 rb mb 3 seen (lkEs s) 3 (lkE s i) hr2 hb2 hes (by simp [lkEs, lkE])
  refine wpl_value (v := .tuple #[(lkE s i).key, (lkE s i).val]) (w' := w2) (f _ (by simp)) (by simp only [execOp, lk30.1, e14', Sem.run_bind, hent, Result.andThen_ok, Sem.run_pure]) ?_
  have h3 := h2.put (x := .t [.c (.i .i64 ((i + 1 : Nat) : Int)), .c (.p 3 (3 + (i + 1)))]) (v := .tuple #[(lkE s i).key, (lkE s i).val]) (ok3 (lk3 0) (by simp)) ⟨_, rfl, by show _ = _; simp [lkE], by
   show (lkE s i).val = _
   rw [hs]
   simp only [lkE]
   congr 4
   omega, trivial⟩
  refine wpl_val (x := .c (.i .i64 ((i + 1 : Nat) : Int))) h3 (ok3 _ (by simp)) (f _ (by simp)) (by kernel_rfl) fun v1 hv1 h4 => ?_
  refine wpl_val (x := .c (.p 3 (3 + (i + 1)))) h4 (ok3 _ (by simp)) (f _ (by simp)) (by kernel_rfl) fun v2 hv2 h5 => ?_
  refine wpl_val (x := .c (.i .i64 ((i + 1 : Nat) : Int))) h5 (ok3 _ (by simp)) (f _ (by simp)) (by kernel_rfl) fun v3 hv3 h6 => ?_
  refine wpl_val (x := .c (.p 3 (3 + (i + 1)))) h6 (ok3 _ (by simp)) (f _ (by simp)) (by kernel_rfl) fun v4 hv4 h7 => ?_
  show lkT.wp Tryz.prog _ _ _
  have h8 : Rel Tryz.prog N n0 B M0 w0 F e0 env (lkIn3 L p q r rb (i + 1)) _ w2 := rel_cast (cutSt_sound h7 [2, 3, 4, 5, 6, 14] [2, 3, 4]) (by kernel_rfl)
  have hlt : (leftOf (lkEs s) (seen.push (lkE s i).born)).size < (leftOf (lkEs s) seen).size := left_shrinks _ _ _ he
  have fin : ∀ (af : Act), Rel Tryz.prog N n0 B M0 w0 F e0 env (lkIn3 L p q r rb (i + 1)) af w2 → ∀ p' q' r', exec Tryz.prog cl0 {} 1000 50 lkT (lkIn3 L p q r rb (i + 1)) lkK = some (.normal, lkSt L p' q' r' rb) →
    p' = (bif (seen.push (lkE s i).born).contains 0 then mis (lb L 1) (li L 13) else li L 13) → q' = (bif (seen.push (lkE s i).born).contains 1 then mis (lb L 2) (li L 14) else li L 14) → r' = (bif (seen.push (lkE s i).born).contains 2 then mis (lb L 3) (li L 15) else li L 15) →
    lkT.wp Tryz.prog (fun e a' w' => e = .normal ∧ (LkI N n0 F B M0 w0 e0 L s mb rb a' w' ∧ lkM s rb w' < lkM s rb w)) af w2 := by
   intro af h8 p' q' r' hx' e1 e2 e3
   refine Code.wp_mono ?_ (lk_tail okT hF h8 hx')
   rintro e a' w' ⟨he', env', k1, k2, k3, k4⟩
   have m1 := k4 mb _ hb2 hOb
   have m2 := k4 rb _ hr2 hOr
   refine ⟨he', ⟨env', p', q', r', _, 3, k1, (k3 3 (by omega)).trans hs, m1.1, m2.1, Nat.le_refl _, m1.2, m2.2, hn, e1, e2, e3⟩, ?_⟩
   rw [hM]
   unfold lkM
   rw [m2.1]
   exact hlt
  have done : ∀ {c : Code} {a' : Act} {w' : World}, c.wp Tryz.prog (fun e a' w' => e = .normal ∧ (LkI N n0 F B M0 w0 e0 L s mb rb a' w' ∧ lkM s rb w' < lkM s rb w)) a' w' →
    c.wp Tryz.prog (Exit.inBlock 1 (Exit.then (fun a' w' => LkI N n0 F B M0 w0 e0 L s mb rb a' w' ∧ lkM s rb w' < lkM s rb w) (Exit.inBlock 0 (PostX Tryz.prog N n0 B M0 w0 F e0 (fun e st => some (e, st)) x)))) a' w' := fun hc => Code.wp_mono (fun e a' w' hp => by obtain ⟨rfl, hp⟩ := hp; exact hp) hc
  refine done ?_
  have hcp : ∀ j, (seen.push (lkE s i).born).contains j = (seen.contains j || j == i) := fun j => contains_push seen i j
  have hni : seen.contains i = false := hnot
  clear hv hv1 hv2 hv3 hv4 h1 h2 h3 h4 h5 h6 h7 hA hent e14' h16 hrun
  generalize (Act.put _ (lk3 4).dst v4) = af at h8 ⊢
  rcases (by omega : i = 0 ∨ i = 1 ∨ i = 2) with rfl | rfl | rfl
  ·skip
   rw [hni] at hp
   cases hf : lb L 1 with
   | true => exact fin _ h8 (-1) q r (by rw [lk_exec1, hf]; rfl) (by rw [hcp, hf]; simp [mis]) (by rw [hcp, hq]; simp) (by rw [hcp, hrr]; simp)
   | false => exact fin _ h8 p q r (by rw [lk_exec1, hf]; rfl) (by rw [hcp, hf, hp]; simp [mis]) (by rw [hcp, hq]; simp) (by rw [hcp, hrr]; simp)
  ·skip
   rw [hni] at hq
   cases hf : lb L 2 with
   | true => exact fin _ h8 p (-1) r (by rw [lk_exec2, hf]; rfl) (by rw [hcp, hp]; simp) (by rw [hcp, hf]; simp [mis]) (by rw [hcp, hrr]; simp)
   | false => exact fin _ h8 p q r (by rw [lk_exec2, hf]; rfl) (by rw [hcp, hp]; simp) (by rw [hcp, hf, hq]; simp [mis]) (by rw [hcp, hrr]; simp)
  ·skip
   rw [hni] at hrr
   cases hf : lb L 3 with
   | true => exact fin _ h8 p q (-1) (by rw [lk_exec3, hf]; rfl) (by rw [hcp, hp]; simp) (by rw [hcp, hq]; simp) (by rw [hcp, hf]; simp [mis])
   | false => exact fin _ h8 p q r (by rw [lk_exec3, hf]; rfl) (by rw [hcp, hp]; simp) (by rw [hcp, hq]; simp) (by rw [hcp, hf, hrr]; simp [mis])
end
end Go.Proofs.YtohplnjpncjhoaaGreatDoor

set_option linter.unusedVariables false
set_option linter.unusedSimpArgs false
set_option maxRecDepth 100000
namespace Go.Proofs.YtohplnjpncjhoaaGreatDoor
open Go Go.AM
section
variable {N n0 : Nat} {F : Nat → Prop} {B M0 : Stab} {w0 : World} {e0 : Base} {env : Env} {a : Act} {w : World}
theorem run_mk (w : World) : (Instr.makeMap 170 none).run Tryz.prog w = .ok (.map (some w.heap.size)) (w.alloc (.map #[] 0)) := by simp [Instr.makeMap]
theorem lk_ins {st : St} {mb clock : Nat} {es : Array MapEntry} {k : Int} {v : Value} {o : Oper} {ops : Array Oper} {Q : Exit → Act → World → Prop} {rest : List Oper} {t : Nat} (h : Rel Tryz.prog N n0 B M0 w0 F e0 env st a w) (hb : w.heap[mb]? = some (.map es clock)) (hn : n0 ≤ mb) (hO : Off env st.mem mb)
  (ho : o.op = .insert 170 (.tmp 9) (.const (.int .i64 k)) (.tmp t) ∧ o.dst = none ∧ o.guard = none) (h9 : a.eval (.tmp 9) = .map (some mb)) (hv : a.eval (.tmp t) = v) (hf : Instr.findNow (.int .i64) (.int .i64 k) es.toList 0 = some none)
  (hk : ∀ w', Rel Tryz.prog N n0 B M0 w0 F e0 env st a w' → w'.heap[mb]? = some (.map (es.push { key := .int .i64 k, val := v, born := clock }) (clock + 1)) → w'.heap.size = w.heap.size → wpList Tryz.prog ops Q rest a w') : wpList Tryz.prog ops Q (o :: rest) a w := by
 refine wpl_skip (w' := { w with heap := w.heap.setIfInBounds mb (.map (es.push { key := .int .i64 k, val := v, born := clock }) (clock + 1)) }) ho.2.2 ?_ ?_
 ·have : a.eval (.const (.int .i64 k)) = .int .i64 k := rfl
  simp only [execOp, ho.1, h9, hv, this, Sem.run_bind, ins_run hb hf, Result.andThen_ok, Sem.run_pure]
 ·rw [ho.2.1]
  refine hk _ (h.alien grown_set (fun r e => by cases e; exact ⟨hn, (fun c T f e => by rw [hb] at e; cases e), hO⟩) (fun r e d q => by cases e; rw [hb] at q; cases q)) ?_ (by simp)
  show (w.heap.setIfInBounds mb _)[mb]? = _
  rw [Array.getElem?_setIfInBounds, if_pos rfl, if_pos (Array.getElem?_eq_some_iff.1 hb).1]
theorem lookLaw : CutLaw Tryz.prog 0 (piece Tryz.prog 108 300000004) (loSh shLook ALook) := by
 intro st alts hst x hx N n0 F B M0 w0 e0 env a w _ hF hok hrel
 rintro Fe nn rfl
 refine wpIn_wide.2 ?_
 have hq := loSh_law (sh := shLook) (A := ALook) (Q := fun st x => ∃ L, st = ofSh shLook L ∧ altK (ALook L) some = some x) (fun L x hx => ⟨L, rfl, hx⟩) st alts hst x hx
 obtain ⟨L, rfl, hxL⟩ := hq
 have hx' : x = (.normal, ⟨lkTm, lkBoxes L (mis (lb L 1) (li L 13)) (mis (lb L 2) (li L 14)) (mis (lb L 3) (li L 15))⟩) := by
  have : some (Ex.normal, (⟨lkTm, lkBoxes L (mis (lb L 1) (li L 13)) (mis (lb L 2) (li L 14)) (mis (lb L 3) (li L 15))⟩ : St)) = some x := hxL
  exact (Option.some.inj this).symm
 clear hst hx hxL
 have hok' : okC N lkC = true := hok
 obtain ⟨ok1, _, _, _⟩ := lk_okC hok'
 rw [shLook_eq] at hrel
 show lkC.wp Tryz.prog _ _ _
 rw [lkC_eq]
 refine wp_seq (wp_region_list ?_)
 show wpList Tryz.prog _ _ lkR1 a w
 have f : ∀ o ∈ lkR1, o.guard = none := fun o ho => noG lkG1 ho
 rw [lkR1_eq] at ok1 f ⊢
 have hn0 := hrel.n0le
 -- the map
 have hO0 : Off env (lkBoxes L (li L 13) (li L 14) (li L 15)) w.heap.size := Off.new hrel (Nat.le_refl _)
 have hO1 : Off env (lkBoxes L (li L 13) (li L 14) (li L 15)) (w.heap.size + 1) := Off.new hrel (Nat.le_succ _)
 obtain ⟨mb, hmb⟩ : ∃ mb, mb = w.heap.size := ⟨_, rfl⟩
 have hA := hrel.alien (World.grownBy_alloc w (.map #[] 0) none) (fun r e => by cases e) (fun r e => by cases e)
 have hb0 : (w.alloc (.map #[] 0)).heap[mb]? = some (.map #[] 0) := by rw [hmb]; exact (MapKept.heap_alloc w _).1
 have hsz0 : (w.alloc (.map #[] 0)).heap.size = mb + 1 := by rw [hmb]; simp
 refine wpl_value (v := .map (some mb)) (w' := w.alloc (.map #[] 0)) (f _ (by simp)) (by simp only [execOp, lk10.1, Option.map_none, run_mk, Sem.run_bind, Result.andThen_ok, Sem.run_pure, hmb]) ?_
 rw [← hmb] at hO0 hO1
 have h0 := hA.put (x := .c (.v (.map (some mb)))) (v := .map (some mb)) (ok1 (lk1 0) (by simp)) (show _ = _ from rfl)
 generalize w.alloc (.map #[] 0) = wA at h0 hb0 hsz0
 clear hA
 have hnm : n0 ≤ mb := by omega
 refine wpl_val (x := .c (.p 3 4)) h0 (ok1 _ (by simp)) (f _ (by simp)) (by kernel_rfl) fun v1 hv1 h1 => ?_
 refine lk_ins h1 hb0 hnm hO0 lk12 (h1.evu (.tmp 9)) (h1.evu (.tmp 10)) rfl fun w1 h2 hb1 hs1 => ?_
 refine wpl_val (x := .c (.p 3 5)) h2 (ok1 _ (by simp)) (f _ (by simp)) (by kernel_rfl) fun v2 hv2 h3 => ?_
 refine lk_ins h3 hb1 hnm hO0 lk14 (h3.evu (.tmp 9)) (h3.evu (.tmp 11)) rfl fun w2 h4 hb2 hs2 => ?_
 refine wpl_val (x := .c (.p 3 6)) h4 (ok1 _ (by simp)) (f _ (by simp)) (by kernel_rfl) fun v3 hv3 h5 => ?_
 refine lk_ins h5 hb2 hnm hO0 lk16 (h5.evu (.tmp 9)) (h5.evu (.tmp 12)) rfl fun w3 h6 hb3 hs3 => ?_
 refine wpl_val (x := .c (.v (.map (some mb)))) h6 (ok1 _ (by simp)) (f _ (by simp)) (by kernel_rfl) fun v4 hv4 h7 => ?_
 have e13 : (Act.put _ (lk1 7).dst v4).eval (.tmp 13) = .map (some mb) := h7.evu (.tmp 13)
 have hes : w3.heap[mb]? = some (.map (lkEs (env 3)) 3) := hb3
 have hrn := run_range_map (P := Tryz.prog) w3 170 3 63 mb (lkEs (env 3)) 3 lkU hes
 obtain ⟨rb, hrb⟩ : ∃ rb, rb = w3.heap.size := ⟨_, rfl⟩
 rw [← hrb] at hrn
 have hsr : rb = mb + 1 := by omega
 refine wpl_value (v := .pointer (some ⟨rb, 0, none⟩)) (w' := w3.alloc (.mapIter (some mb) 3 #[] 3)) (f _ (by simp)) (by simp only [execOp, lk18.1, e13, Sem.run_bind, hrn, Result.andThen_ok, Sem.run_pure]) ?_
 have hr4 : (w3.alloc (.mapIter (some mb) 3 #[] 3)).heap[rb]? = some (.mapIter (some mb) 3 #[] 3) := by rw [hrb]; exact (MapKept.heap_alloc w3 _).1
 have hb4 : (w3.alloc (.mapIter (some mb) 3 #[] 3)).heap[mb]? = some (.map (lkEs (env 3)) 3) := ((MapKept.heap_alloc w3 _).2 mb (Array.getElem?_eq_some_iff.1 hes).1).trans hes
 have h8 := (h7.alien (World.grownBy_alloc w3 (.mapIter (some mb) 3 #[] 3) none) (fun r e => by cases e) (fun r e => by cases e)).put (x := .c (.v (.pointer (some ⟨rb, 0, none⟩)))) (v := .pointer (some ⟨rb, 0, none⟩)) (ok1 (lk1 8) (by simp)) (show _ = _ from rfl)
 generalize w3.alloc (.mapIter (some mb) 3 #[] 3) = w4 at h8 hr4 hb4
 have h9 : Rel Tryz.prog N n0 B M0 w0 F e0 env (lkSt L (li L 13) (li L 14) (li L 15) rb) _ w4 := rel_cast (cutSt_sound h8 [2, 3, 4, 14] [2, 3, 4]) (by kernel_rfl)
 show (Code.block 0 _).wp Tryz.prog _ _ _
 refine wp_block (wp_loop (LkI N n0 F B M0 w0 e0 L (env 3) mb rb) (fun _ w => lkM (env 3) rb w) ?_ fun a' w' hI => lk_round hok' hF hI (by omega) hx')
 exact ⟨env, _, _, _, #[], 3, h9, rfl, hb4, hr4, Nat.le_refl _, hO0, by rw [hsr]; exact hO1, by omega, by simp, by simp, by simp⟩
end
end Go.Proofs.YtohplnjpncjhoaaGreatDoor

set_option linter.unusedVariables false
set_option linter.unusedSimpArgs false
set_option maxRecDepth 100000
namespace Go.Proofs.YtohplnjpncjhoaaGreatDoor
open Go Go.AM
def Tryz.lays146_ren : Go.Shelf.Ren := ⟨fun | 146 => 11 | 221 => 32 | 268 => 47 | 138 => 48 | 143 => 49 | 195 => 64 | 197 => 65 | 218 => 66 | 219 => 67 | 260 => 87 | 217 => 88 | 225 => 89 | 224 => 90 | 267 => 91 | 266 => 114 | 314 => 115 | n => n, fun | 9 => 9 | 31 => 34 | 3 => 3 | 4 => 4 | 0 => 0 | 105 => 100 | 21 => 21 | 5 => 5 | 46 => 128 | 119 => 156 | 139 => 159 | 138 => 158 | 146 => 160 | 51 => 152 | n => n, fun | 1 => 0 | 3 => 2 | 4 => 3 | n => n⟩
theorem Tryz.lays146 : Go.Proofs.Lays.n146 Tryz.prog Tryz.lays146_ren := {
 mixed := by kernel_rfl
 f138 := Tryz.func48.trans (congrArg some (by kernel_rfl))
 f143 := Tryz.func49.trans (congrArg some (by kernel_rfl))
 f146 := Tryz.func11.trans (congrArg some (by kernel_rfl))
 f195 := Tryz.func64.trans (congrArg some (by kernel_rfl))
 f197 := Tryz.func65.trans (congrArg some (by kernel_rfl))
 f217 := Tryz.func88.trans (congrArg some (by kernel_rfl))
 f218 := Tryz.func66.trans (congrArg some (by kernel_rfl))
 f219 := Tryz.func67.trans (congrArg some (by kernel_rfl))
 f221 := Tryz.func32.trans (congrArg some (by kernel_rfl))
 f224 := Tryz.func90.trans (congrArg some (by kernel_rfl))
 f225 := Tryz.func89.trans (congrArg some (by kernel_rfl))
 f260 := Tryz.func87.trans (congrArg some (by kernel_rfl))
 f266 := Tryz.func114.trans (congrArg some (by kernel_rfl))
 f267 := Tryz.func91.trans (congrArg some (by kernel_rfl))
 f268 := Tryz.func47.trans (congrArg some (by kernel_rfl))
 f314 := Tryz.func115.trans (congrArg some (by kernel_rfl))
 t0 := Tryz.underlying0
 a0 := Tryz.isAgg0
 z0 := Tryz.sizeOf0
 v0 := Tryz.zeroValue0
 t3 := Tryz.underlying3
 a3 := Tryz.isAgg3
 z3 := Tryz.sizeOf3
 v3 := Tryz.zeroValue3
 t4 := Tryz.underlying4
 a4 := Tryz.isAgg4
 z4 := Tryz.sizeOf4
 v4 := Tryz.zeroValue4
 t5 := Tryz.underlying5
 a5 := Tryz.isAgg5
 z5 := Tryz.sizeOf5
 v5 := Tryz.zeroValue5
 t9 := Tryz.underlying9
 a9 := Tryz.isAgg9
 z9 := Tryz.sizeOf9
 v9 := Tryz.zeroValue9
 t21 := Tryz.underlying21
 a21 := Tryz.isAgg21
 z21 := Tryz.sizeOf21
 v21 := Tryz.zeroValue21
 t31 := Tryz.underlying34
 a31 := Tryz.isAgg34
 z31 := Tryz.sizeOf34
 v31 := Tryz.zeroValue34
 t46 := Tryz.underlying128
 a46 := Tryz.isAgg128
 z46 := Tryz.sizeOf128
 v46 := Tryz.zeroValue128
 t51 := Tryz.underlying152
 a51 := Tryz.isAgg152
 z51 := Tryz.sizeOf152
 v51 := Tryz.zeroValue152
 t105 := Tryz.underlying100
 a105 := Tryz.isAgg100
 z105 := Tryz.sizeOf100
 v105 := Tryz.zeroValue100
 t119 := Tryz.underlying156
 a119 := Tryz.isAgg156
 z119 := Tryz.sizeOf156
 t138 := Tryz.underlying158
 a138 := Tryz.isAgg158
 z138 := Tryz.sizeOf158
 v138 := Tryz.zeroValue158
 t139 := Tryz.underlying159
 a139 := Tryz.isAgg159
 z139 := Tryz.sizeOf159
 v139 := Tryz.zeroValue159
 t146 := Tryz.underlying160
 a146 := Tryz.isAgg160
 z146 := Tryz.sizeOf160
 v146 := Tryz.zeroValue160
 g1 := by kernel_rfl
 g3 := by kernel_rfl
 g4 := by kernel_rfl }
open Go.RowKit Go.Lib in
theorem Tryz.strings_Split (s sep : ByteArray) (m : Int) (w : World) (hs : s.size < 4294967281) (hm : w.cell? ⟨0, 0, none⟩ = some (.int .i64 m)) (h1 : 1 ≤ sep.size) :
  Calls Tryz.prog 11 #[.string s, .string sep] w fun e w' =>
   e = .returned (.slice (some ⟨w.heap.size, 0, none⟩) (Lib.countB s sep + 1) (Lib.countB s sep + 1)) ∧ w' = w.alloc (.cells ((Lib.splitB sep 0 (Lib.countB s sep) s).map Value.string).toArray 9) := Any.strings_Split Tryz.lays146 (by kernel_rfl) s sep m w hs hm h1
def Tryz.laysM171_ren : Go.Shelf.Ren := ⟨fun | 171 => 26 | 243 => 43 | 246 => 61 | 283 => 82 | 284 => 83 | 285 => 84 | 286 => 85 | 129 => 110 | 317 => 109 | 318 => 111 | 319 => 112 | 320 => 113 | 337 => 121 | 338 => 122 | n => n, fun | 3 => 3 | 9 => 9 | 2 => 2 | 4 => 4 | 171 => 120 | 0 => 0 | 53 => 121 | 37 => 56 | 5 => 5 | 173 => 124 | 212 => 151 | 51 => 152 | 20 => 20 | 213 => 153 | 46 => 128 | 232 => 176 | 233 => 177 | n => n, fun | 17 => 1 | 18 => 6 | 19 => 7 | n => n⟩
theorem Tryz.laysM171 : Go.Proofs.LaysM.n171 Tryz.prog Tryz.laysM171_ren := {
 mixed := by kernel_rfl
 f129 := Tryz.func110.trans (congrArg some (by kernel_rfl))
 f171 := Tryz.func26.trans (congrArg some (by kernel_rfl))
 f243 := Tryz.func43.trans (congrArg some (by kernel_rfl))
 f246 := Tryz.func61.trans (congrArg some (by kernel_rfl))
 f283 := Tryz.func82.trans (congrArg some (by kernel_rfl))
 f284 := Tryz.func83.trans (congrArg some (by kernel_rfl))
 f285 := Tryz.func84.trans (congrArg some (by kernel_rfl))
 f286 := Tryz.func85.trans (congrArg some (by kernel_rfl))
 f317 := Tryz.func109.trans (congrArg some (by kernel_rfl))
 f318 := Tryz.func111.trans (congrArg some (by kernel_rfl))
 f319 := Tryz.func112.trans (congrArg some (by kernel_rfl))
 f320 := Tryz.func113.trans (congrArg some (by kernel_rfl))
 f337 := Tryz.func121.trans (congrArg some (by kernel_rfl))
 f338 := Tryz.func122.trans (congrArg some (by kernel_rfl))
 t0 := Tryz.underlying0
 a0 := Tryz.isAgg0
 z0 := Tryz.sizeOf0
 v0 := Tryz.zeroValue0
 t2 := Tryz.underlying2
 a2 := Tryz.isAgg2
 z2 := Tryz.sizeOf2
 v2 := Tryz.zeroValue2
 t3 := Tryz.underlying3
 a3 := Tryz.isAgg3
 z3 := Tryz.sizeOf3
 v3 := Tryz.zeroValue3
 t4 := Tryz.underlying4
 a4 := Tryz.isAgg4
 z4 := Tryz.sizeOf4
 v4 := Tryz.zeroValue4
 t5 := Tryz.underlying5
 a5 := Tryz.isAgg5
 z5 := Tryz.sizeOf5
 v5 := Tryz.zeroValue5
 t9 := Tryz.underlying9
 a9 := Tryz.isAgg9
 z9 := Tryz.sizeOf9
 v9 := Tryz.zeroValue9
 t20 := Tryz.underlying20
 a20 := Tryz.isAgg20
 z20 := Tryz.sizeOf20
 v20 := Tryz.zeroValue20
 t37 := Tryz.underlying56
 a37 := Tryz.isAgg56
 z37 := Tryz.sizeOf56
 v37 := Tryz.zeroValue56
 t46 := Tryz.underlying128
 a46 := Tryz.isAgg128
 z46 := Tryz.sizeOf128
 v46 := Tryz.zeroValue128
 t51 := Tryz.underlying152
 a51 := Tryz.isAgg152
 z51 := Tryz.sizeOf152
 v51 := Tryz.zeroValue152
 t53 := Tryz.underlying121
 a53 := Tryz.isAgg121
 z53 := Tryz.sizeOf121
 v53 := Tryz.zeroValue121
 t171 := Tryz.underlying120
 a171 := Tryz.isAgg120
 z171 := Tryz.sizeOf120
 v171 := Tryz.zeroValue120
 t173 := Tryz.underlying124
 a173 := Tryz.isAgg124
 z173 := Tryz.sizeOf124
 v173 := Tryz.zeroValue124
 t212 := Tryz.underlying151
 a212 := Tryz.isAgg151
 z212 := Tryz.sizeOf151
 v212 := Tryz.zeroValue151
 t213 := Tryz.underlying153
 a213 := Tryz.isAgg153
 z213 := Tryz.sizeOf153
 t232 := Tryz.underlying176
 a232 := Tryz.isAgg176
 z232 := Tryz.sizeOf176
 v232 := Tryz.zeroValue176
 t233 := Tryz.underlying177
 a233 := Tryz.isAgg177
 z233 := Tryz.sizeOf177
 v233 := Tryz.zeroValue177
 g17 := by kernel_rfl
 g18 := by kernel_rfl
 g19 := by kernel_rfl
 i0 := by kernel_rfl
 i2 := by kernel_rfl
 i3 := by kernel_rfl
 i4 := by kernel_rfl
 i5 := by kernel_rfl
 i9 := by kernel_rfl
 i20 := by kernel_rfl
 i37 := by kernel_rfl
 i46 := by kernel_rfl
 i51 := by kernel_rfl
 i53 := by kernel_rfl
 i171 := by kernel_rfl
 i173 := by kernel_rfl
 i212 := by kernel_rfl
 i232 := by kernel_rfl
 i233 := by kernel_rfl
 m17 := by kernel_rfl
 m18 := by kernel_rfl
 m19 := by kernel_rfl }
open Go.RowKit Go.Sort Go.Lib in
theorem Tryz.strconv_Itoa (n : Int) (h0 : -9223372036854775808 ≤ n) (h1 : n ≤ 9223372036854775807) (w : World) (htab : Lib.TabIs Tryz.prog w "internal/strconv.uint64pow10" .u64 Lib.pow10Tab) :
  Calls Tryz.prog 26 #[.int .i64 n] w fun e w' => e = .returned (.string ⟨(Lib.itoa n).toArray⟩) ∧ ∃ k os, w' = grow (w.drewN k) os := Any.strconv_Itoa Tryz.laysM171 n h0 h1 w htab
def Tryz.laysC172_ren : Go.Shelf.Ren := ⟨fun | 172 => 50 | 244 => 68 | 245 => 69 | 247 => 92 | 279 => 93 | 280 => 94 | 281 => 95 | 282 => 96 | 287 => 116 | 316 => 117 | 171 => 26 | 205 => 118 | 321 => 123 | 322 => 124 | 243 => 43 | 246 => 61 | 283 => 82 | 284 => 83 | 285 => 84 | 286 => 85 | 129 => 110 | 317 => 109 | 318 => 111 | 319 => 112 | 320 => 113 | 337 => 121 | 338 => 122 | n => n, fun | 9 => 9 | 3 => 3 | 75 => 66 | 76 => 67 | 4 => 4 | 5 => 5 | 167 => 129 | 37 => 56 | 0 => 0 | 85 => 130 | 2 => 2 | 168 => 132 | 53 => 121 | 175 => 162 | 46 => 128 | 210 => 166 | 127 => 84 | 145 => 175 | 143 => 173 | 21 => 21 | 171 => 120 | 173 => 124 | 212 => 151 | 51 => 152 | 20 => 20 | 213 => 153 | 232 => 176 | 233 => 177 | 80 => 70 | n => n, fun | 15 => 4 | 16 => 5 | 17 => 1 | 18 => 6 | 19 => 7 | n => n⟩
theorem Tryz.laysC172 : Go.Proofs.LaysC.n172 Tryz.prog Tryz.laysC172_ren := {
 mixed := by kernel_rfl
 f129 := Tryz.func110.trans (congrArg some (by kernel_rfl))
 f171 := Tryz.func26.trans (congrArg some (by kernel_rfl))
 f172 := Tryz.func50.trans (congrArg some (by kernel_rfl))
 f205 := Tryz.func118.trans (congrArg some (by kernel_rfl))
 f243 := Tryz.func43.trans (congrArg some (by kernel_rfl))
 f244 := Tryz.func68.trans (congrArg some (by kernel_rfl))
 f245 := Tryz.func69.trans (congrArg some (by kernel_rfl))
 f246 := Tryz.func61.trans (congrArg some (by kernel_rfl))
 f247 := Tryz.func92.trans (congrArg some (by kernel_rfl))
 f279 := Tryz.func93.trans (congrArg some (by kernel_rfl))
 f280 := Tryz.func94.trans (congrArg some (by kernel_rfl))
 f281 := Tryz.func95.trans (congrArg some (by kernel_rfl))
 f282 := Tryz.func96.trans (congrArg some (by kernel_rfl))
 f283 := Tryz.func82.trans (congrArg some (by kernel_rfl))
 f284 := Tryz.func83.trans (congrArg some (by kernel_rfl))
 f285 := Tryz.func84.trans (congrArg some (by kernel_rfl))
 f286 := Tryz.func85.trans (congrArg some (by kernel_rfl))
 f287 := Tryz.func116.trans (congrArg some (by kernel_rfl))
 f316 := Tryz.func117.trans (congrArg some (by kernel_rfl))
 f317 := Tryz.func109.trans (congrArg some (by kernel_rfl))
 f318 := Tryz.func111.trans (congrArg some (by kernel_rfl))
 f319 := Tryz.func112.trans (congrArg some (by kernel_rfl))
 f320 := Tryz.func113.trans (congrArg some (by kernel_rfl))
 f321 := Tryz.func123.trans (congrArg some (by kernel_rfl))
 f322 := Tryz.func124.trans (congrArg some (by kernel_rfl))
 f337 := Tryz.func121.trans (congrArg some (by kernel_rfl))
 f338 := Tryz.func122.trans (congrArg some (by kernel_rfl))
 t0 := Tryz.underlying0
 a0 := Tryz.isAgg0
 z0 := Tryz.sizeOf0
 v0 := Tryz.zeroValue0
 t2 := Tryz.underlying2
 a2 := Tryz.isAgg2
 z2 := Tryz.sizeOf2
 v2 := Tryz.zeroValue2
 t3 := Tryz.underlying3
 a3 := Tryz.isAgg3
 z3 := Tryz.sizeOf3
 v3 := Tryz.zeroValue3
 t4 := Tryz.underlying4
 a4 := Tryz.isAgg4
 z4 := Tryz.sizeOf4
 v4 := Tryz.zeroValue4
 t5 := Tryz.underlying5
 a5 := Tryz.isAgg5
 z5 := Tryz.sizeOf5
 v5 := Tryz.zeroValue5
 t9 := Tryz.underlying9
 a9 := Tryz.isAgg9
 z9 := Tryz.sizeOf9
 v9 := Tryz.zeroValue9
 t20 := Tryz.underlying20
 a20 := Tryz.isAgg20
 z20 := Tryz.sizeOf20
 v20 := Tryz.zeroValue20
 t21 := Tryz.underlying21
 a21 := Tryz.isAgg21
 z21 := Tryz.sizeOf21
 v21 := Tryz.zeroValue21
 t37 := Tryz.underlying56
 a37 := Tryz.isAgg56
 z37 := Tryz.sizeOf56
 v37 := Tryz.zeroValue56
 t46 := Tryz.underlying128
 a46 := Tryz.isAgg128
 z46 := Tryz.sizeOf128
 v46 := Tryz.zeroValue128
 t51 := Tryz.underlying152
 a51 := Tryz.isAgg152
 z51 := Tryz.sizeOf152
 v51 := Tryz.zeroValue152
 t53 := Tryz.underlying121
 a53 := Tryz.isAgg121
 z53 := Tryz.sizeOf121
 v53 := Tryz.zeroValue121
 t75 := Tryz.underlying66
 a75 := Tryz.isAgg66
 z75 := Tryz.sizeOf66
 v75 := Tryz.zeroValue66
 t76 := Tryz.underlying67
 a76 := Tryz.isAgg67
 z76 := Tryz.sizeOf67
 v76 := Tryz.zeroValue67
 t85 := Tryz.underlying130
 a85 := Tryz.isAgg130
 z85 := Tryz.sizeOf130
 v85 := Tryz.zeroValue130
 t127 := Tryz.underlying84
 a127 := Tryz.isAgg84
 z127 := Tryz.sizeOf84
 v127 := Tryz.zeroValue84
 t143 := Tryz.underlying173
 a143 := Tryz.isAgg173
 z143 := Tryz.sizeOf173
 v143 := Tryz.zeroValue173
 t145 := Tryz.underlying175
 a145 := Tryz.isAgg175
 z145 := Tryz.sizeOf175
 v145 := Tryz.zeroValue175
 t167 := Tryz.underlying129
 a167 := Tryz.isAgg129
 z167 := Tryz.sizeOf129
 v167 := Tryz.zeroValue129
 t168 := Tryz.underlying132
 a168 := Tryz.isAgg132
 z168 := Tryz.sizeOf132
 v168 := Tryz.zeroValue132
 t171 := Tryz.underlying120
 a171 := Tryz.isAgg120
 z171 := Tryz.sizeOf120
 v171 := Tryz.zeroValue120
 t173 := Tryz.underlying124
 a173 := Tryz.isAgg124
 z173 := Tryz.sizeOf124
 v173 := Tryz.zeroValue124
 t175 := Tryz.underlying162
 a175 := Tryz.isAgg162
 z175 := Tryz.sizeOf162
 v175 := Tryz.zeroValue162
 t210 := Tryz.underlying166
 a210 := Tryz.isAgg166
 z210 := Tryz.sizeOf166
 v210 := Tryz.zeroValue166
 t212 := Tryz.underlying151
 a212 := Tryz.isAgg151
 z212 := Tryz.sizeOf151
 v212 := Tryz.zeroValue151
 t213 := Tryz.underlying153
 a213 := Tryz.isAgg153
 z213 := Tryz.sizeOf153
 t232 := Tryz.underlying176
 a232 := Tryz.isAgg176
 z232 := Tryz.sizeOf176
 v232 := Tryz.zeroValue176
 t233 := Tryz.underlying177
 a233 := Tryz.isAgg177
 z233 := Tryz.sizeOf177
 v233 := Tryz.zeroValue177
 g15 := by kernel_rfl
 g16 := by kernel_rfl
 g17 := by kernel_rfl
 g18 := by kernel_rfl
 g19 := by kernel_rfl
 t80 := Tryz.underlying70
 a80 := Tryz.isAgg70
 z80 := Tryz.sizeOf70
 v80 := Tryz.zeroValue70
 i0 := by kernel_rfl
 i2 := by kernel_rfl
 i3 := by kernel_rfl
 i4 := by kernel_rfl
 i5 := by kernel_rfl
 i9 := by kernel_rfl
 i20 := by kernel_rfl
 i21 := by kernel_rfl
 i37 := by kernel_rfl
 i46 := by kernel_rfl
 i51 := by kernel_rfl
 i53 := by kernel_rfl
 i75 := by kernel_rfl
 i76 := by kernel_rfl
 i80 := by kernel_rfl
 i85 := by kernel_rfl
 i127 := by kernel_rfl
 i143 := by kernel_rfl
 i145 := by kernel_rfl
 i167 := by kernel_rfl
 i168 := by kernel_rfl
 i171 := by kernel_rfl
 i173 := by kernel_rfl
 i175 := by kernel_rfl
 i210 := by kernel_rfl
 i212 := by kernel_rfl
 i232 := by kernel_rfl
 i233 := by kernel_rfl
 m15 := by kernel_rfl
 m16 := by kernel_rfl
 m17 := by kernel_rfl
 m18 := by kernel_rfl
 m19 := by kernel_rfl
 c0 := by kernel_rfl
 c2 := by kernel_rfl
 c3 := by kernel_rfl
 c4 := by kernel_rfl
 c5 := by kernel_rfl
 c9 := by kernel_rfl
 c20 := by kernel_rfl
 c21 := by kernel_rfl
 c37 := by kernel_rfl
 c46 := by kernel_rfl
 c51 := by kernel_rfl
 c53 := by kernel_rfl
 c75 := by kernel_rfl
 c76 := by kernel_rfl
 c80 := by kernel_rfl
 c85 := by kernel_rfl
 c127 := by kernel_rfl
 c143 := by kernel_rfl
 c145 := by kernel_rfl
 c167 := by kernel_rfl
 c168 := by kernel_rfl
 c171 := by kernel_rfl
 c173 := by kernel_rfl
 c175 := by kernel_rfl
 c210 := by kernel_rfl
 c212 := by kernel_rfl
 c213 := by kernel_rfl
 c232 := by kernel_rfl
 c233 := by kernel_rfl }
theorem Tryz.strconv_Atoi_ok (s : ByteArray) (hmax : s.size ≤ 9223372036854775806) (v : Int) (h : Lib.atoiAll s.data.toList = .ok v) (w : World) :
  Calls Tryz.prog 50 #[.string s] w fun e w' => e = .returned (.tuple #[.int .i64 v, .nilIface]) ∧ (w' = w ∨ ∃ t, w' = Lib.bytesWorld w 5 t) := Any.strconv_Atoi_ok Tryz.laysC172 s hmax v h w
open Go.RowKit in
theorem Tryz.strconv_Atoi_syn (s : ByteArray) (hlim : s.size ≤ 281474976710656) (h : isSyn (Lib.atoiAll s.data.toList) = true) (ev : Value) (w : World) (hv : w.cell? ⟨4, 0, none⟩ = some ev) (hev : ev = .nilIface ∨ ∃ te pe, ev = .iface te pe) :
  Calls Tryz.prog 50 #[.string s] w fun e w' => ∃ N, e = .returned (.tuple #[.int .i64 (0), .iface 132 (.pointer (some ⟨N, 0, none⟩))]) ∧ w.heap.size ≤ N ∧ w'.heap[N]? = some (.cells #[.string ⟨#[65, 116, 111, 105]⟩, .string s, ev] 166 (0, 0)) ∧ Below w.heap.size w w' := Any.strconv_Atoi_syntax Tryz.laysC172 s hlim (by revert h; cases Lib.atoiAll s.data.toList <;> simp [isSyn]) ev w hv hev
open Go.RowKit in
theorem Tryz.strconv_Atoi_range (s : ByteArray) (hlim : s.size ≤ 281474976710656) (h : Lib.atoiAll s.data.toList = .range) (ev : Value) (w : World) (hv : w.cell? ⟨5, 0, none⟩ = some ev) (hev : ev = .nilIface ∨ ∃ te pe, ev = .iface te pe) :
  Calls Tryz.prog 50 #[.string s] w fun e w' => ∃ N, e = .returned (.tuple #[.int .i64 (Lib.atoiSat s.data.toList), .iface 132 (.pointer (some ⟨N, 0, none⟩))]) ∧ w.heap.size ≤ N ∧ w'.heap[N]? = some (.cells #[.string ⟨#[65, 116, 111, 105]⟩, .string s, ev] 166 (0, 0)) ∧ Below w.heap.size w w' := Any.strconv_Atoi_range Tryz.laysC172 s hlim h ev w hv hev
def Tryz.laysSlH10_f12_ren : Go.Shelf.Ren := ⟨fun | 10 => 12 | 6 => 33 | n => n, fun | 22 => 34 | 23 => 9 | 25 => 30 | 3 => 3 | 4 => 4 | 0 => 0 | n => n, fun | n => n⟩
theorem Tryz.laysSlH10_f12 : Go.Proofs.SlLaysH.n10 Tryz.prog Tryz.laysSlH10_f12_ren := {
 mixed := by kernel_rfl
 f6 := ⟨Tryz.f33.name, by decide, Tryz.func33.trans (congrArg some (by kernel_rfl))⟩
 f10 := ⟨Tryz.f12.name, by decide, Tryz.func12.trans (congrArg some (by kernel_rfl))⟩
 t0 := Tryz.underlying0
 a0 := Tryz.isAgg0
 z0 := Tryz.sizeOf0
 v0 := Tryz.zeroValue0
 t3 := Tryz.underlying3
 a3 := Tryz.isAgg3
 z3 := Tryz.sizeOf3
 v3 := Tryz.zeroValue3
 t4 := Tryz.underlying4
 a4 := Tryz.isAgg4
 z4 := Tryz.sizeOf4
 v4 := Tryz.zeroValue4
 t22 := Tryz.underlying34
 a22 := Tryz.isAgg34
 z22 := Tryz.sizeOf34
 v22 := Tryz.zeroValue34
 a23 := Tryz.isAgg9
 z23 := Tryz.sizeOf9
 t25 := Tryz.underlying30
 a25 := Tryz.isAgg30
 z25 := Tryz.sizeOf30
 v25 := Tryz.zeroValue30 }
open Go.RowKit Go.Lib Go.Sort in
theorem Tryz.slices_DeleteFunc {α : Type} [Inhabited α] (enc : α → Value) (hO : OneCell enc) (p : α → Bool) (g : Nat) (lb : Array Value) (eg : ∀ args w, (callFunc g args).run Tryz.prog w = .ok (.enter g args) w) (zr : α) (v23 : ∀ w, (zeroValue 9).run Tryz.prog w = .ok (enc zr) w) (blk off cap : Nat) (d : Array α) (w : World) (hp : PredAt Tryz.prog g lb enc p w) (hpo : PredOver Tryz.prog g lb enc p blk off d.size w) (hH : Holds enc w blk off d) (hsz : d.size ≤ 9223372036854775807) (hcap : d.size ≤ cap) :
  Calls Tryz.prog 12 #[.slice (some ⟨blk, off, none⟩) d.size cap, .func (.func g) #[] lb] w fun e w' => e = .returned (.slice (some ⟨blk, off, none⟩) (d.toList.filter fun x => !p x).length cap) ∧ ∃ q, w' = putRow enc (Sort.ahead w q) blk off ((d.toList.filter fun x => !p x) ++ List.replicate (d.size - (d.toList.filter fun x => !p x).length) zr).toArray := AnyE.slices_DeleteFunc Tryz.laysSlH10_f12 enc hO p g lb eg zr v23 blk off cap d w hp hpo hH hsz hcap
noncomputable def splitSh : Sh := { tmps := [(0, .c .s), (1, .c .s)], mem := [] }
noncomputable def splitA (L : List Lf) : List (Bool × Res) := [((Nat.blt (ls L 0).length 4294967281) && (!(ls L 1).isEmpty), ([.c (.o 0)], [(0, .row 9 true false (strsD (splitD (ls L 0) (ls L 1))))]))]
theorem split_fn : FnOk Tryz.prog 11 splitSh splitA := by
 refine spSh_law fun L x hx => ?_
 show CallOk Tryz.prog 11 [.c (.s (ls L 0)), .c (.s (ls L 1))] [] x
 unfold splitA at hx
 cases hc : (Nat.blt (ls L 0).length 4294967281) && (!(ls L 1).isEmpty) with
 | false => rw [hc] at hx; cases hx
 | true =>
 rw [hc] at hx
 have hx : some (([.c (.o 0)], [(0, .row 9 true false (strsD (splitD (ls L 0) (ls L 1))))]) : Res) = some x := hx
 simp only [Option.some.injEq] at hx
 subst hx
 rw [Bool.and_eq_true] at hc
 refine split_ok (g := 0) (by kernel_rfl) (by kernel_rfl) (by kernel_rfl) (by kernel_rfl) (fun s sep m w h1 h2 h3 => Tryz.strings_Split s sep m w h1 h2 h3) (Nat.le_of_ble_eq_true hc.1) fun e => ?_
 rw [e] at hc
 exact absurd hc.2 (by decide)
noncomputable def itoaSh : Sh := { tmps := [(0, .c (.i .i64))], mem := [] }
noncomputable def itoaA (L : List Lf) : List (Bool × Res) := [(i64B (li L 0), ([.c (.s (Lib.itoa (li L 0)))], []))]
theorem itoa_fn : FnOk Tryz.prog 26 itoaSh itoaA := by
 refine spSh_law fun L x hx => ?_
 show CallOk Tryz.prog 26 [.c (.i .i64 (li L 0))] [] x
 unfold itoaA at hx
 cases hc : i64B (li L 0) with
 | false => rw [hc] at hx; cases hx
 | true =>
 rw [hc] at hx
 have hx : some (([.c (.s (Lib.itoa (li L 0)))], []) : Res) = some x := hx
 simp only [Option.some.injEq] at hx
 subst hx
 obtain ⟨g, hg⟩ : ∃ g, Tryz.prog.globalNamed "internal/strconv.uint64pow10" = some g := ⟨_, (by kernel_rfl : Tryz.prog.globalNamed "internal/strconv.uint64pow10" = some 1)⟩
 exact itoa_ok hg (fun n h1 h2 w htab => (Tryz.strconv_Itoa n h1 h2 w htab).mono fun e w' ⟨he, k, os, hw⟩ => ⟨he, by subst hw; exact Go.Proofs.below_grown w k os⟩) hc
noncomputable def atoiSh : Sh := { tmps := [(0, .c .s)], mem := [] }
noncomputable def atoiA (L : List Lf) : List (Bool × Res) := [(Nat.ble (ls L 0).length 281474976710656, ([.c (.i .i64 (atoiV (ls L 0))), .c (.ifc (atoiOk (ls L 0)))], []))]
theorem atoi_fn : FnOk Tryz.prog 50 atoiSh atoiA := by
 refine spSh_law fun L x hx => ?_
 show CallOk Tryz.prog 50 [.c (.s (ls L 0))] [] x
 unfold atoiA at hx
 cases hc : Nat.ble (ls L 0).length 281474976710656 with
 | false => rw [hc] at hx; cases hx
 | true =>
 rw [hc] at hx
 have hx : some (([.c (.i .i64 (atoiV (ls L 0))), .c (.ifc (atoiOk (ls L 0)))], []) : Res) = some x := hx
 simp only [Option.some.injEq] at hx
 subst hx
 exact atoi_ok (g1 := 4) (g2 := 5) (by kernel_rfl) (by kernel_rfl) (fun s v w h1 h2 => (Tryz.strconv_Atoi_ok s (by omega) v h2 w).mono fun e w' ⟨he, hw⟩ => ⟨he, by
   rcases hw with rfl | ⟨t, rfl⟩
   ·exact Go.RowKit.Below.refl _ _
   ·exact Lib.bytesWorld_below _ _ _⟩) (fun s ev w h1 h2 h3 h4 => (Tryz.strconv_Atoi_syn s h1 h2 ev w h3 h4).mono fun e w' ⟨N, he, _, _, hb⟩ => ⟨_, _, he, hb⟩) (fun s ev w h1 h2 h3 h4 => (Tryz.strconv_Atoi_range s h1 h2 ev w h3 h4).mono fun e w' ⟨N, he, _, _, hb⟩ => ⟨_, _, he, hb⟩) (Nat.le_of_ble_eq_true hc)
def noEmpty (xs : List D) : List D := xs.filter fun d => !(d.toS == [])
theorem gives13 (x : ByteArray) (W : World) : Go.Proofs.FnGives Tryz.prog 13 #[] #[.string x] (.bool (x.data.toList == [])) W := by
 show Calls Tryz.prog 13 #[.string x] W _
 go_enter Tryz.func13, Tryz.ntmps13
 go_wp2
 all_goals (go_ret; refine ⟨?_, 0, rfl⟩; rw [ByteArray.toList_eq]; cases x.data.toList <;> rfl)
noncomputable def deleteSh : Sh := { tmps := [(0, .c (.o 0)), (1, .c (.f 13 []))], mem := [(0, .row 9 true)] }
noncomputable def deleteA (L : List Lf) : List (Bool × Res) := [(!(lb L 0), ([.c (.o 1)], [(1, .row 9 true false (noEmpty (ll L 1)))]))]
theorem delete_fn : FnOk Tryz.prog 12 deleteSh deleteA := by
 refine spSh_law fun L x hx => ?_
 show CallOk Tryz.prog 12 [.c (.o 0), .c (.f 13 [])] [(0, .row 9 true (lb L 0) (ll L 1))] x
 unfold deleteA at hx
 cases hc : lb L 0 with
 | true => rw [hc] at hx; cases hx
 | false =>
 rw [hc] at hx
 have hx : some (([.c (.o 1)], [(1, .row 9 true false (noEmpty (ll L 1)))]) : Res) = some x := hx
 simp only [Option.some.injEq] at hx
 subst hx
 refine delete_ok (g := 13) (by kernel_rfl) (by kernel_rfl) (by kernel_rfl) (fun l => l == []) fun blk cap d w hH hsz hcap => ?_
 have eg : ∀ args w, (callFunc 13 args).run Tryz.prog w = .ok (.enter 13 args) w := Go.Proofs.enters_of Tryz.func13 (by kernel_rfl) rfl
 exact Tryz.slices_DeleteFunc Value.string (fun _ => rfl) (fun x => x.data.toList == []) 13 #[] eg ByteArray.empty Tryz.zeroValue9 blk 0 cap d w (fun W x _ => gives13 x W) (fun n os dk x _ => gives13 x _) hH hsz hcap
end Go.Proofs.YtohplnjpncjhoaaGreatDoor

set_option linter.unusedVariables false
set_option linter.unusedSimpArgs false
set_option maxRecDepth 100000
namespace Go.Proofs.YtohplnjpncjhoaaGreatDoor
open Go Go.AM
def Tryz.lays169_ren : Go.Shelf.Ren := ⟨fun | 169 => 29 | n => n, fun | 70 => 55 | 9 => 9 | 0 => 0 | 72 => 58 | 37 => 56 | 127 => 84 | 3 => 3 | 5 => 5 | n => n, fun | n => n⟩
theorem Tryz.lays169 : Go.Proofs.Lays.n169 Tryz.prog Tryz.lays169_ren := {
 mixed := by kernel_rfl
 f169 := Tryz.func29.trans (congrArg some (by kernel_rfl))
 t0 := Tryz.underlying0
 a0 := Tryz.isAgg0
 z0 := Tryz.sizeOf0
 v0 := Tryz.zeroValue0
 t3 := Tryz.underlying3
 a3 := Tryz.isAgg3
 z3 := Tryz.sizeOf3
 v3 := Tryz.zeroValue3
 t9 := Tryz.underlying9
 a9 := Tryz.isAgg9
 z9 := Tryz.sizeOf9
 v9 := Tryz.zeroValue9
 t37 := Tryz.underlying56
 a37 := Tryz.isAgg56
 z37 := Tryz.sizeOf56
 v37 := Tryz.zeroValue56
 t70 := Tryz.underlying55
 a70 := Tryz.isAgg55
 z70 := Tryz.sizeOf55
 v70 := Tryz.zeroValue55
 t72 := Tryz.underlying58
 a72 := Tryz.isAgg58
 z72 := Tryz.sizeOf58
 v72 := Tryz.zeroValue58
 t127 := Tryz.underlying84
 a127 := Tryz.isAgg84
 z127 := Tryz.sizeOf84
 v127 := Tryz.zeroValue84 }
theorem Tryz.Builder_Extra_169 : Go.Proofs.Builder.Extra Tryz.prog Tryz.lays169_ren := {
 sizeBuilder := by kernel_rfl
 liesBuilder := by kernel_rfl
 t5 := Tryz.underlying5
 a5 := Tryz.isAgg5
 z5 := Tryz.sizeOf5
 v5 := Tryz.zeroValue5
 infoByte := by kernel_rfl
 cellsByte := by kernel_rfl
 sizeByte := by kernel_rfl
 neB5 := by decide }
def Tryz.lays240_ren : Go.Shelf.Ren := ⟨fun | 240 => 44 | 276 => 62 | n => n, fun | 0 => 0 | 4 => 4 | 9 => 9 | 20 => 20 | 70 => 55 | 72 => 58 | 164 => 97 | 37 => 56 | n => n, fun | n => n⟩
theorem Tryz.lays240 : Go.Proofs.Lays.n240 Tryz.prog Tryz.lays240_ren := {
 mixed := by kernel_rfl
 f240 := Tryz.func44.trans (congrArg some (by kernel_rfl))
 f276 := Tryz.func62.trans (congrArg some (by kernel_rfl))
 t0 := Tryz.underlying0
 a0 := Tryz.isAgg0
 z0 := Tryz.sizeOf0
 v0 := Tryz.zeroValue0
 t4 := Tryz.underlying4
 a4 := Tryz.isAgg4
 z4 := Tryz.sizeOf4
 v4 := Tryz.zeroValue4
 t9 := Tryz.underlying9
 a9 := Tryz.isAgg9
 z9 := Tryz.sizeOf9
 v9 := Tryz.zeroValue9
 t20 := Tryz.underlying20
 a20 := Tryz.isAgg20
 z20 := Tryz.sizeOf20
 v20 := Tryz.zeroValue20
 t70 := Tryz.underlying55
 a70 := Tryz.isAgg55
 z70 := Tryz.sizeOf55
 v70 := Tryz.zeroValue55
 t72 := Tryz.underlying58
 a72 := Tryz.isAgg58
 z72 := Tryz.sizeOf58
 v72 := Tryz.zeroValue58
 t164 := Tryz.underlying97
 a164 := Tryz.isAgg97
 z164 := Tryz.sizeOf97
 v164 := Tryz.zeroValue97 }
theorem Tryz.Builder_X72_240 : Go.Proofs.Builder.X72 Tryz.prog Tryz.lays240_ren := {
 sizeBuilder := by kernel_rfl
 liesBuilder := by kernel_rfl }
noncomputable def copyCkSh : Sh := { tmps := [(0, .c (.p 0 0))], mem := [(0, .box [.ba 0 58, .o 1]), (1, .row 5 true)] }
noncomputable def copyCkA (L : List Lf) : List (Bool × Res) := [(true, ([], [(0, .box [.ba 0 58, .o 1]), (1, .row 5 true (lb L 0) (ll L 1))]))]
theorem copyCk_fn : FnOk Tryz.prog 44 copyCkSh copyCkA := by
 refine spSh_law fun L x hx => ?_
 show CallOk Tryz.prog 44 [.c (.p 0 0)] ((0, .box [.ba 0 58, .o 1]) :: [(1, .row 5 true (lb L 0) (ll L 1))]) x
 have hx : some (([], (0, .box [.ba 0 58, .o 1]) :: [(1, .row 5 true (lb L 0) (ll L 1))]) : Res) = some x := hx
 simp only [Option.some.injEq] at hx
 subst hx
 exact copyCheck_ok (by kernel_rfl) (fun b w h => Any.Builder_copyCheck_used Tryz.lays240 Tryz.Builder_X72_240 b w h) (fun b w h1 h2 h3 => Any.Builder_copyCheck_fresh Tryz.lays240 Tryz.Builder_X72_240 b w h1 h2 h3)
noncomputable def bstrSh : Sh := { tmps := [(0, .c (.p 0 0))], mem := [(0, .box [.ba 0 58, .o 1]), (1, .row 5 true)] }
noncomputable def bstrA (L : List Lf) : List (Bool × Res) := [((isBytes (ll L 1) && (!(ll L 1).isEmpty || lb L 0)), ([.c (.s (strD (ll L 1)))], [(0, .box [.ba 0 58, .u])]))]
theorem bstr_fn : FnOk Tryz.prog 29 bstrSh bstrA := by
 refine spSh_law fun L x hx => ?_
 show CallOk Tryz.prog 29 [.c (.p 0 0)] [(0, .box [.ba 0 58, .o 1]), (1, .row 5 true (lb L 0) (ll L 1))] x
 unfold bstrA at hx
 cases hc : (isBytes (ll L 1) && (!(ll L 1).isEmpty || lb L 0)) with
 | false => rw [hc] at hx; cases hx
 | true =>
 rw [hc] at hx
 have hx : some (([.c (.s (strD (ll L 1)))], [(0, .box [.ba 0 58, .u])]) : Res) = some x := hx
 simp only [Option.some.injEq] at hx
 subst hx
 exact bstr_ok (by kernel_rfl) (by kernel_rfl) (by kernel_rfl) (fun b p w h => Any.Builder_String_nil Tryz.lays169 Tryz.Builder_Extra_169 w.heap.size b p w h)
  (fun b g cap p cur fr l w h1 h2 h3 h4 h5 h6 h7 => Any.bstr_exact Tryz.lays169 Tryz.Builder_Extra_169 b g cap p cur fr l w h1 h2 h3 h4 h5 h6 h7) hc
def Tryz.lays156_ren : Go.Shelf.Ren := ⟨fun | 156 => 28 | 165 => 45 | 166 => 27 | 169 => 29 | 240 => 44 | 241 => 63 | 276 => 62 | 277 => 86 | n => n, fun | 31 => 34 | 9 => 9 | 3 => 3 | 4 => 4 | 0 => 0 | 20 => 20 | 72 => 58 | 76 => 67 | 70 => 55 | 37 => 56 | 75 => 66 | 127 => 84 | 164 => 97 | 5 => 5 | 80 => 70 | n => n, fun | n => n⟩
theorem Tryz.lays156 : Go.Proofs.Lays.n156 Tryz.prog Tryz.lays156_ren := {
 mixed := by kernel_rfl
 f156 := Tryz.func28.trans (congrArg some (by kernel_rfl))
 f165 := Tryz.func45.trans (congrArg some (by kernel_rfl))
 f166 := Tryz.func27.trans (congrArg some (by kernel_rfl))
 f169 := Tryz.func29.trans (congrArg some (by kernel_rfl))
 f240 := Tryz.func44.trans (congrArg some (by kernel_rfl))
 f241 := Tryz.func63.trans (congrArg some (by kernel_rfl))
 f276 := Tryz.func62.trans (congrArg some (by kernel_rfl))
 f277 := Tryz.func86.trans (congrArg some (by kernel_rfl))
 t0 := Tryz.underlying0
 a0 := Tryz.isAgg0
 z0 := Tryz.sizeOf0
 v0 := Tryz.zeroValue0
 t3 := Tryz.underlying3
 a3 := Tryz.isAgg3
 z3 := Tryz.sizeOf3
 v3 := Tryz.zeroValue3
 t4 := Tryz.underlying4
 a4 := Tryz.isAgg4
 z4 := Tryz.sizeOf4
 v4 := Tryz.zeroValue4
 t9 := Tryz.underlying9
 a9 := Tryz.isAgg9
 z9 := Tryz.sizeOf9
 v9 := Tryz.zeroValue9
 t20 := Tryz.underlying20
 a20 := Tryz.isAgg20
 z20 := Tryz.sizeOf20
 v20 := Tryz.zeroValue20
 t31 := Tryz.underlying34
 a31 := Tryz.isAgg34
 z31 := Tryz.sizeOf34
 v31 := Tryz.zeroValue34
 t37 := Tryz.underlying56
 a37 := Tryz.isAgg56
 z37 := Tryz.sizeOf56
 v37 := Tryz.zeroValue56
 t70 := Tryz.underlying55
 a70 := Tryz.isAgg55
 z70 := Tryz.sizeOf55
 v70 := Tryz.zeroValue55
 t72 := Tryz.underlying58
 a72 := Tryz.isAgg58
 z72 := Tryz.sizeOf58
 v72 := Tryz.zeroValue58
 t75 := Tryz.underlying66
 a75 := Tryz.isAgg66
 z75 := Tryz.sizeOf66
 v75 := Tryz.zeroValue66
 t76 := Tryz.underlying67
 a76 := Tryz.isAgg67
 z76 := Tryz.sizeOf67
 v76 := Tryz.zeroValue67
 t127 := Tryz.underlying84
 a127 := Tryz.isAgg84
 z127 := Tryz.sizeOf84
 v127 := Tryz.zeroValue84
 t164 := Tryz.underlying97
 a164 := Tryz.isAgg97
 z164 := Tryz.sizeOf97
 v164 := Tryz.zeroValue97 }
theorem Tryz.Builder_Extra_156 : Go.Proofs.Builder.Extra Tryz.prog Tryz.lays156_ren := {
 sizeBuilder := by kernel_rfl
 liesBuilder := by kernel_rfl
 t5 := Tryz.underlying5
 a5 := Tryz.isAgg5
 z5 := Tryz.sizeOf5
 v5 := Tryz.zeroValue5
 infoByte := by kernel_rfl
 cellsByte := by kernel_rfl
 sizeByte := by kernel_rfl
 neB5 := by decide }
open Go.RowKit Go.Sort Go.Lib in
theorem Tryz.strings_Join_none (a : Option Addr) (c : Nat) (sep : ByteArray) (w : World) :
  Calls Tryz.prog 28 #[.slice a 0 c, .string sep] w fun e w' => e = .returned (.string ⟨#[]⟩) ∧ w' = w := Any.strings_Join_none Tryz.lays156 Tryz.Builder_Extra_156 a c sep w
open Go.RowKit Go.Sort Go.Lib in
theorem Tryz.strings_Join (bk o c : Nat) (xs : List ByteArray) (sep : ByteArray) (w : World) (hcells : ∀ (j : Nat) x, xs[j]? = some x → w.cell? ⟨bk, o + j, none⟩ = some (.string x)) (hbk : bk < w.heap.size) (hN : xs.length ≤ 140737488355328) (hcap : xs.length ≤ c) (hlen : (Lib.join (xs.map (·.data.toList)) sep.data.toList).length ≤ 140737488355328) :
  Calls Tryz.prog 28 #[.slice (some ⟨bk, o, none⟩) xs.length c, .string sep] w fun e w' => e = .returned (.string ⟨(Lib.join (xs.map (·.data.toList)) sep.data.toList).toArray⟩) ∧ Below w.heap.size w w' := Any.strings_Join Tryz.lays156 Tryz.Builder_Extra_156 bk o c xs sep w hcells hbk hN hcap hlen
noncomputable def joinSh : Sh := { tmps := [(0, .c (.sl 9)), (1, .c .s)], mem := [] }
noncomputable def joinA (L : List Lf) : List (Bool × Res) := [((Nat.ble (ll L 1).length 140737488355328) && (Nat.ble (Lib.join ((ll L 1).map D.toS) (ls L 2)).length 140737488355328), ([.c (.s (Lib.join ((ll L 1).map D.toS) (ls L 2)))], []))]
theorem join_fn : FnOk Tryz.prog 28 joinSh joinA := by
 refine spSh_law fun L x hx => ?_
 show CallOk Tryz.prog 28 [.c (.sl 9 (lb L 0) (ll L 1)), .c (.s (ls L 2))] [] x
 exact join_law (fun a c sep w => Tryz.strings_Join_none a c sep w) (fun bk o c xs sep w h1 h2 h3 h4 h5 => Tryz.strings_Join bk o c xs sep w h1 h2 h3 h4 h5) _ _ _ (by kernel_rfl) x hx
end Go.Proofs.YtohplnjpncjhoaaGreatDoor

