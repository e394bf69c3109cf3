/- Proved: what strings.Contains answers, by its contract. -/
import Derived.Test.YtfkkcdapcgimlaaGreatDoorAm3
import Derived.Below
import Derived.Lib.Join
import Derived.Lib.LaidTab
import Derived.LaidLaws
import Derived.Lib.Split
import Derived.Lib.SplitLaws
import Derived.Lib.ItoaNum
import Derived.Lib.AtoiAll
import Derived.Lib.ConvBytes
import Derived.Sort.Row
import Derived.Lib.Builder
import Derived.Lib.UnsafeStr
import Derived.Shelf.Strings.Builder1
import Derived.Lib.CountLaws
import Derived.Shelf.SlSortCmp.WholeK
import Derived.Shelf.Strconv.Itoa3
import Derived.Shelf.Strconv.AtoiAll
import Derived.Shelf.Strings.OnBuilder
import Derived.Test.YtfkkcdapcgimlaaGreatDoorChecked
import Derived.KernelRfl
import Derived.Shelf.SlSortCmp.NoneTotal
import Derived.Shelf.SlicesG.Cmp
import Derived.Shelf.Small.Strs
import Derived.StillTailTactics
import Derived.WalkKit
import Derived.Shelf.Strings.Search3
set_option linter.all false
set_option maxRecDepth 100000
namespace Go.AM
open Go
def tow (P : Program) (hb : f4a) (base : a0f) : Nat → a0f
 | 0 => base
 | n + 1 => fun f args mem => match base f args mem with
  | some a => some a
  | none => (body P (tow P hb base n) (hb f) n f args mem).map fun r => [(true, r)]
theorem a1n {P : Program} {base : a0f} (hP : a6B P) (hb : f4a) (hlos : ∀ f, (hb f).los = []) (hbase : a0b P base) : ∀ n, a0b P (tow P hb base n)
 | 0 => hbase
 | n + 1 => by
  have ih := a1n hP hb hlos hbase n
  intro f args mem alts h
  unfold tow at h
  cases hbs : base f args mem with
  | some a =>
   rw [hbs] at h
   simp only [f5S] at h
   subst h
   exact hbase f args mem a hbs
  | none =>
   rw [hbs] at h
   cases hb' : body P (tow P hb base n) (hb f) n f args mem with
   | none => rw [hb'] at h; cases h
   | some r =>
    rw [hb'] at h
    simp only [f6b, f5S] at h
    subst h
    have hal : a1o P (hb f).los mem.length f := by rw [hlos]; exact a1o.nil
    refine ⟨(c0z hP ih (a87 hP.mixed ih) hal.loops hb').2, fun res hr => ?_⟩
    have hr : some r = some res := hr
    simp only [f5S] at hr
    subst hr
    exact a3p hP ih hal rfl hb'
end Go.AM

namespace Go.AM
open Go Go.RowKit
section
variable {P : Program}
theorem d9G {M : a0Q} {w w' : World} (h : Below w.heap.size w w') : Chg M w w' :=
 ⟨h.os, h.tape, h.output, h.size, fun b cur T fr hb => ⟨cur, fr, by rw [h.block b (f53.1 hb).1]; exact hb, rfl, fun _ _ => rfl, .inl rfl⟩,
  fun b ob hb _ => by rw [h.block b (f53.1 hb).1]; exact hb⟩
theorem b5L {f : FuncId} {args rs : List V} (h : ∀ (env : Env) (S : a0Q) (w : World) (vs : Array Value), (∀ b o, S b o → b < w.heap.size) → GI P (fun _ _ => False) w → a0B (a0G P env S w) args vs.toList →
  Calls P f vs w fun e w' => ∃ v, e = .returned v ∧ Below w.heap.size w w' ∧ ∀ S', a0G P env S' w' (a3T rs) v) : a1I P f args [] (rs, []) := by
 intro B env w vs hpre hall
 refine (h env _ w vs (fun b o hS => hS.2.1) (hpre.rel.gi.step (Chg.refl _ w) fun b o hf => hf.elim) hall).mono fun e w' ⟨v, he, hb, hv⟩ => ⟨v, he, env, ⟨rfl, fun k o hg => (by cases hg), fun k k' o o' hg => (by cases hg), fun k o b x hg => (by cases hg), fun k e ex xs hg => (by cases hg), d9G hb, hpre.rel.bb, fun _ _ => rfl, hpre.rel.gi⟩, hv _⟩
def d9H (P : Program) (args : List V) (mem : AL Obj) : Option (List (Bool × Res)) :=
 match args, mem with
 | [.c (.sl e _ xs), .c (.s sep)], [] => (match kinds P e with
  | [.str] => bif a0j P e || !(Nat.beq (a0d P e) 1) then none else
    some [(Nat.ble xs.length 140737488355328 && Nat.ble (Lib.join (xs.map D.toS) sep).length 140737488355328, ([.c (.s (Lib.join (xs.map D.toS) sep))], []))]
  | _ => none)
 | _, _ => none
theorem c4j {α β : Type} {R : α → β → Prop} {x y : α} {l : List β} (h : a0B R [x, y] l) : ∃ a b, l = [a, b] ∧ R x a ∧ R y b := by
 match l, h with
 | [a, b], ⟨h1, h2, _⟩ => exact ⟨a, b, rfl, h1, h2⟩
theorem e3x {f : FuncId} (h0 : ∀ (a : Option Addr) (c : Nat) (sep : ByteArray) (w : World), Calls P f #[.slice a 0 c, .string sep] w fun e w' => e = .returned (.string ⟨#[]⟩) ∧ w' = w)
  (h1 : ∀ (bk o c : Nat) (xs : List ByteArray) (sep : ByteArray) (w : World), (∀ (j : Nat) x, xs[j]? = some x → w.cell? ⟨bk, o + j, none⟩ = some (.string x)) → bk < w.heap.size → xs.length ≤ 140737488355328 → xs.length ≤ c →
   (Lib.join (xs.map (·.data.toList)) sep.data.toList).length ≤ 140737488355328 →
   Calls P f #[.slice (some ⟨bk, o, none⟩) xs.length c, .string sep] w fun e w' => e = .returned (.string ⟨(Lib.join (xs.map (·.data.toList)) sep.data.toList).toArray⟩) ∧ Below w.heap.size w w') :
  ∀ args mem alts, d9H P args mem = some alts → ∀ res, a5f alts some = some res → a1I P f args mem res := by
 intro args mem alts ha res hr
 unfold d9H at ha
 split at ha
 case h_2 => cases ha
 rename_i e nl xs sep
 split at ha
 case h_2 => cases ha
 rename_i hk
 cases hc : a0j P e || !(Nat.beq (a0d P e) 1) with
 | true => rw [hc] at ha; cases ha
 | false =>
 rw [hc] at ha
 simp only [Bool.or_eq_false_iff, Bool.not_eq_false'] at hc
 have hsz := f5T hc.2
 simp only [AM.cond_false rfl, f5S] at ha
 subst ha
 cases hcc : Nat.ble xs.length 140737488355328 && Nat.ble (Lib.join (xs.map D.toS) sep).length 140737488355328 with
 | false => rw [hcc] at hr; cases hr
 | true =>
 rw [hcc] at hr
 have hr : some (([.c (.s (Lib.join (xs.map D.toS) sep))], []) : Res) = some res := hr
 simp only [f5S] at hr
 subst hr
 simp only [f5U] at hcc
 have hn := f54 hcc.1
 have hl := f54 hcc.2
 refine b5L fun env S w vs hS _ hall => ?_
 obtain ⟨v1, v2, hv, r1, r2⟩ := c4j hall
 have hvs : vs = #[v1, v2] := by rw [← Array.toList_inj]; exact hv
 subst hvs
 have r2 : v2 = .string ⟨sep.toArray⟩ := r2
 subst r2
 have r1 : a2e P w S (.sl e) (.l nl xs) v1 := r1
 have none0 : xs = [] → ∀ a c, v1 = .slice a 0 c → Calls P f #[v1, .string ⟨sep.toArray⟩] w fun e w' => ∃ v, e = .returned v ∧ Below w.heap.size w w' ∧ ∀ S', a0G P env S' w' (a3T [.c (.s (Lib.join (xs.map D.toS) sep))]) v := by
  intro hx a c hv1
  subst hx hv1
  exact (h0 a c _ w).mono fun e w' ⟨he, hw⟩ => ⟨_, he, hw ▸ Below.refl _ _, fun S' => rfl⟩
 generalize hd : D.l nl xs = d at r1
 cases r1 with
 | nil e d q1 q2 => subst hd; exact none0 q2 _ _ rfl
 | emp e d a cap q1 q2 hm => subst hd; exact none0 q2 _ _ rfl
 | sl e d b off cap cv q1 q2 q3 hm q4 q5 =>
  subst hd
  simp only [D.items] at *
  by_cases hx : xs = []
  ·subst hx; exact none0 rfl _ _ rfl
  have hb : b < w.heap.size := by
   cases xs with
   | nil => exact absurd rfl hx
   | cons x r => exact hS _ _ (q4 0 (by simp) 0 (by rw [hk]; simp)).1
  have hcv : ∀ i, i < xs.length → cv i 0 = .string ⟨(xs.getD i (.i 0)).toS.toArray⟩ := by
   intro i hi
   have := q5 i hi 0 .str (by rw [hk]; rfl)
   unfold elD at this
   rw [hc.1] at this
   simp only [AM.cond_false rfl] at this
   generalize cv i 0 = u at this ⊢
   cases this; rfl
  have hlen : (xs.map fun x => (⟨x.toS.toArray⟩ : ByteArray)).length = xs.length := by simp
  have := h1 b off cap (xs.map fun x => ⟨x.toS.toArray⟩) ⟨sep.toArray⟩ w (fun j x hj => by
    rw [List.getElem?_map] at hj
    obtain ⟨d, hd, rfl⟩ := Option.map_eq_some_iff.1 hj
    have hjl := (f55.1 hd).1
    have h4 := (q4 j hjl 0 (by rw [hk]; simp)).2
    rw [hcv j hjl, hsz, Nat.mul_one, Nat.add_zero, f51, hd] at h4
    exact h4) hb (by rw [hlen]; exact hn) (by rw [hlen]; exact q3)
  rw [hlen] at this
  have hmap : (xs.map fun x => (⟨x.toS.toArray⟩ : ByteArray)).map (·.data.toList) = xs.map D.toS := by
   rw [List.map_map]
   exact List.map_congr_left fun x _ => rfl
  rw [hmap] at this
  exact (this hl).mono fun e w' ⟨he, hw⟩ => ⟨_, he, hw, fun S' => rfl⟩
end
end Go.AM

namespace Go.AM
open Go
theorem c7K.mono {P : Program} {T T' : CK → D → Prop} {e : TypeId} {x : D} (h : ∀ k d, T k d → T' k d) (hx : c7K P T e x) : c7K P T' e x := by
 unfold c7K at hx ⊢
 split
 ·rename_i ha
  rw [if_pos ha] at hx
  obtain ⟨cs, h1, h2⟩ := hx
  exact ⟨cs, h1, h2.mono fun k d _ => h k d⟩
 ·rename_i ha
  rw [if_neg ha] at hx
  obtain ⟨k, h1, h2⟩ := hx
  exact ⟨k, h1, h k x h2⟩
theorem TyK.succ {P : Program} : ∀ {m : Nat} {k : CK} {d : D}, TyK P m k d → TyK P (m + 1) k d
 | 0, _, _, h => h.elim
 | m + 1, k, d, h => by
  cases k with
  | sl e =>
   obtain ⟨nl, xs, h1, h2, h3, h4⟩ := h
   exact ⟨nl, xs, h1, h2, h3, fun x hx => (h4 x hx).mono fun k d => TyK.succ⟩
  | _ => exact h
theorem TyK.mono {P : Program} {m m' : Nat} {k : CK} {d : D} (hm : m ≤ m') (h : TyK P m k d) : TyK P m' k d := by
 induction hm with
 | refl => exact h
 | step _ ih => exact ih.succ
def okS (Ts : List TypeId) : CK → Bool
 | .sl e => b37 e Ts
 | .oth => false
 | _ => true
def f4f (P : Program) (Ts : List TypeId) : Bool := Ts.all fun e => b5W P 12 e && Nat.beq (a0d P e) (kinds P e).length && (kinds P e).all (okS Ts) && !Nat.beq (a0d P e) 0
section
variable {H : Type} {enc : TypeId × Value → H} {P : Program} {w : World} {spare : Nat → Bool} {held : Bool} {Ts : List TypeId}
theorem RT.mono {m m' : Nat} (hm : m ≤ m') {kd : CK × D} {v : Value} (h : RT P w m kd v) : RT P w m' kd v := ⟨h.1.mono hm, h.2⟩
theorem b7z {Q : Nat → Nat → Prop} (hmono : ∀ i m m', m ≤ m' → Q i m → Q i m') : ∀ n, (∀ i, i < n → ∃ m, Q i m) → ∃ m, ∀ i, i < n → Q i m
 | 0, _ => ⟨0, fun i hi => by omega⟩
 | n + 1, h => by
  obtain ⟨m, h1⟩ := b7z hmono n fun i hi => h i (by omega)
  obtain ⟨m', h2⟩ := h n (by omega)
  refine ⟨max m m', fun i hi => ?_⟩
  by_cases hin : i = n
  ·subst hin; exact hmono _ _ _ (Nat.le_max_right _ _) h2
  ·exact hmono _ _ _ (Nat.le_max_left _ _) (h1 i (by omega))
mutual
def szD : D → Nat
 | .l _ xs => a3k xs + 1
 | .a cs => a3k cs + 1
 | .s l => l.length + 1
 | .i _ => 1
 | .b _ => 1
def a3k : List D → Nat
 | [] => 0
 | x :: r => szD x + a3k r
end
theorem b1U : ∀ (xs ys : List D), a3k (xs ++ ys) = a3k xs + a3k ys
 | [], ys => by simp [a3k]
 | x :: xs, ys => by simp only [List.cons_append, a3k, b1U xs ys]; omega
theorem b9p {α : Type} {f : α → D} {c : α → Nat} : ∀ {l : List α}, (∀ i ∈ l, szD (f i) ≤ c i) → a3k (l.map f) ≤ (l.map c).sum
 | [], _ => by simp [a3k]
 | x :: l, h => by
  have h1 := h x (by simp)
  have h2 := b9p (l := l) fun i hi => h i (by simp [hi])
  simp only [List.map_cons, a3k, List.sum_cons]
  omega
structure c1A (bk : DataW H → Nat) (bkA : List (DataW H) → Nat) : Prop where
 lit : ∀ l, 1 ≤ bk (.lit l)
 str : ∀ l, l.length + 1 ≤ bk (.lit (.string l))
 nil : 1 ≤ bk .nil
 slice : ∀ e s, bkA e + 1 ≤ bk (.slice e s)
 agg : ∀ p, bkA p + 1 ≤ bk (.agg p)
 nilA : bkA [] = 0
 consA : ∀ d r, bkA (d :: r) = bk d + bkA r
theorem d1T {α : Type} {bk : DataW H → Nat} {bkA : List (DataW H) → Nat} (hB : c1A bk bkA) {F : α → Option (DataW H × List MemPlace)} : ∀ {l : List α} {ys : List (DataW H × List MemPlace)}, a0B (fun i y => F i = some y) l ys →
  (l.map fun i => ((F i).map fun y => bk y.1).getD 0).sum = bkA (ys.map (·.1))
 | [], [], _ => by simp [hB.nilA]
 | x :: l, y :: ys, ⟨h1, h2⟩ => by
  simp only [List.map_cons, List.sum_cons, h1, f6b, Option.getD_some, hB.consA, d1T hB h2]
 | [], _ :: _, h => h.elim
 | _ :: _, [], h => h.elim
theorem c61 {α : Type} {c : α → Nat} : ∀ {fs : List α} {ls : List (List (CK × D))}, a0B (fun f l => a3k (l.map Prod.snd) ≤ c f) fs ls → a3k (ls.flatten.map Prod.snd) ≤ (fs.map c).sum
 | [], [], _ => by simp [a3k]
 | f :: fs, l :: ls, ⟨h1, h2⟩ => by
  have := c61 h2
  simp only [List.flatten_cons, List.map_append, b1U, List.map_cons, List.sum_cons]
  omega
 | [], _ :: _, h => h.elim
 | _ :: _, [], h => h.elim
theorem d9I {R : CK × D → Value → Prop} {ks : List CK} {sz : Nat} {cs : List Value} {c : Nat → Nat} : ∀ (len : Nat), len * sz ≤ cs.length → (∀ i, i < len → ∃ l : List (CK × D), l.map Prod.fst = ks ∧ a0B R l ((cs.drop (i * sz)).take sz) ∧ a3k (l.map Prod.snd) ≤ c i) →
  ∃ l : List (CK × D), l.map Prod.fst = (List.replicate len ks).flatten ∧ a0B R l (cs.take (len * sz)) ∧ a3k (l.map Prod.snd) ≤ ((List.range len).map c).sum
 | 0, _, _ => ⟨[], by simp, by simp [a0B], by simp [a3k]⟩
 | len + 1, hl, h => by
  rw [Nat.add_mul, Nat.one_mul] at hl
  obtain ⟨l, h1, h2, h5⟩ := d9I len (by omega) fun i hi => h i (by omega)
  obtain ⟨l', h3, h4, h6⟩ := h len (by omega)
  refine ⟨l ++ l', ?_, ?_, ?_⟩
  ·rw [List.map_append, h1, h3, List.replicate_succ', List.flatten_append]; simp
  ·rw [Nat.add_mul, Nat.one_mul, List.take_add]
   exact h2.append h4
  ·rw [List.map_append, b1U, List.range_succ, List.map_append, List.sum_append]
   simp
   omega
variable {bk : DataW H → Nat} {bkA : List (DataW H) → Nat}
def c4k (P : Program) (T : TypeId) : Nat := bif a0j P T then 1 else 0
def HR (enc : TypeId × Value → H) (P : Program) (w : World) (spare : Nat → Bool) (held : Bool) (Ts : List TypeId) (bk : DataW H → Nat) (fuel : Nat) : Prop := ∀ (n : Nat) (T : TypeId) (cs : List Value) (d : DataW H) (ps : List MemPlace), b5W P n T = true → (a1k P n T).all (okS Ts) = true → DataW.trod enc P w 0 spare held fuel T cs = some (d, ps) →
 ∃ m, ∃ kds : List (CK × D), kds.map Prod.fst = a1k P n T ∧ a0B (RT P w m) kds cs ∧ a3k (kds.map Prod.snd) + c4k P T ≤ bk d
theorem d1U (hB : c1A bk bkA) (hTs : f4f P Ts = true) : ∀ fuel, HR enc P w spare held Ts bk fuel
 | 0 => fun n T cs d ps _ _ h => by cases h
 | fuel + 1 => by
  have ih := d1U hB hTs fuel
  intro n T cs d ps hf hk h
  cases n with
  | zero => cases hf
  | succ n =>
  unfold DataW.trod at h
  split at h
  ·rename_i b hu
   simp only [a1k, hu] at hk ⊢
   simp only [f5S, f6a] at h
   obtain ⟨rfl, _⟩ := h
   exact ⟨1, [(.bool, .b b)], rfl, ⟨⟨⟨b, rfl⟩, .bool (.b b)⟩, trivial⟩, by rw [show c4k P T = 0 by unfold c4k a0j; rw [hu]; rfl]; exact hB.lit _⟩
  ·rename_i k k' i hu
   split at h
   ·rename_i hw
    obtain ⟨rfl, hw⟩ := hw
    simp only [a1k, hu] at hk ⊢
    simp only [f5S, f6a] at h
    obtain ⟨rfl, _⟩ := h
    exact ⟨1, [(.int k', .i i)], rfl, ⟨⟨⟨i, rfl, hw⟩, .int k' (.i i)⟩, trivial⟩, by rw [show c4k P T = 0 by unfold c4k a0j; rw [hu]; rfl]; exact hB.lit _⟩
   ·cases h
  all_goals first
   | (rename_i hu; simp [b5W, hu] at hf; done)
   | skip
  ·rename_i x hu
   split at h
   ·rename_i hl
    simp only [a1k, hu] at hk ⊢
    simp only [f5S, f6a] at h
    obtain ⟨rfl, _⟩ := h
    exact ⟨1, [(.str, .s x.data.toList)], rfl, ⟨⟨⟨x.data.toList, rfl, by rw [Array.length_toList]; exact hl⟩, by have := a2e.str (P := P) (w := w) (S := Sw w) (.s x.data.toList); simpa [D.toS] using this⟩, trivial⟩, by rw [show c4k P T = 0 by unfold c4k a0j; rw [hu]; rfl]; exact hB.str _⟩
   ·cases h
  ·rename_i e hu
   simp only [a1k, hu] at hk ⊢
   simp only [f5S, f6a] at h
   obtain ⟨rfl, _⟩ := h
   exact ⟨1, [(.sl e, .l true [])], rfl, ⟨⟨⟨true, [], rfl, fun _ => rfl, Nat.zero_le _, fun x hx => by simp at hx⟩, .nil e _ rfl rfl⟩, trivial⟩, by rw [show c4k P T = 0 by unfold c4k a0j; rw [hu]; rfl]; exact hB.nil⟩
  ·rename_i e a len cap hu
   simp only [a1k, hu, List.all_cons, List.all_nil, Bool.and_true] at hk ⊢
   have hq := List.all_eq_true.1 hTs e (a1J.1 hk)
   simp only [f5U] at hq
   obtain ⟨⟨⟨q1, q2⟩, q3⟩, q4⟩ := hq
   dsimp only at h
   split at h
   ·rename_i hc
    obtain ⟨elems, he, h⟩ := Option.bind_eq_some_iff.1 h
    have hx := b2m he
    obtain ⟨rest, _, h⟩ := Option.map_eq_some_iff.1 h
    simp only [f6a] at h
    obtain ⟨rfl, _⟩ := h
    have hbk := d1T hB hx
    have hbs := hB.slice (elems.map (·.1)) (rest.map (·.1))
    by_cases h0 : len = 0
    ·subst h0
     exact ⟨1, [(.sl e, .l false [])], rfl, ⟨⟨⟨false, [], rfl, nofun, Nat.zero_le _, nofun⟩, .emp e _ a cap rfl rfl hc.2.2⟩, trivial⟩, by rw [show c4k P T = 0 by unfold c4k a0j; rw [hu]; rfl]; show a3k [] + 1 + 0 + 0 ≤ _; simp only [a3k]; omega⟩
    ·have q2 : a0d P e = (kinds P e).length := f5T q2
     have hsz : 0 < a0d P e := by
      rcases Nat.eq_zero_or_pos (a0d P e) with h | h
      ·rw [h] at q4; cases q4
      ·exact h
     have hel0 : ∀ i, ∃ p : Nat × D × (Nat → Value), i < len → c7K P (TyK P p.1) e p.2.1 ∧ (∀ (j : Nat) (k : CK), (kinds P e)[j]? = some k → w.cell? (a.add (i * a0d P e + j)) = some (p.2.2 j) ∧ a2e P w (Sw w) k (elD P e p.2.1 j) (p.2.2 j)) ∧ szD p.2.1 ≤ (((w.cells? 0 (a.add (i * P.cellsOf e)) (P.cellsOf e)).bind (DataW.trod enc P w 0 spare held fuel e)).map fun y => bk y.1).getD 0 := by
      intro i
      by_cases hi : i < len
      ·obtain ⟨y, _, hy⟩ := hx.get (List.getElem?_range hi)
       obtain ⟨cs, hcs, hd⟩ := Option.bind_eq_some_iff.1 hy
       obtain ⟨_, hl, hcell⟩ := World.cells?_some hcs
       obtain ⟨m, kds, k1, k2, k3⟩ := ih 12 e cs y.1 y.2 q1 q3 hd
       obtain ⟨x, x1, x2, x3⟩ := e0R q1 k1 k2
       refine ⟨(m, x, fun j => cs.getD j undef), fun _ => ⟨x1, fun j k hj => ?_, ?_⟩⟩
       case refine_2 =>
        rw [hy]
        simp only [f6b, Option.getD_some]
        rcases x3 with ⟨ha, rfl⟩ | ⟨ha, x3⟩
        ·unfold c4k at k3; rw [ha] at k3; exact k3
        ·unfold c4k at k3; rw [ha, x3] at k3; simpa [a3k] using k3
       obtain ⟨v, h1, h2⟩ := x2 j k hj
       have hjl := (f55.1 h1).1
       have := hcell j (by omega)
       rw [Addr.add_add, h1] at this
       have e1 : cs.getD j undef = v := by rw [f51, h1]; rfl
       simp only [e1]
       exact ⟨this, h2⟩
      ·exact ⟨(0, .i 0, fun _ => undef), fun h => absurd h hi⟩
     obtain ⟨g, hg⟩ := Classical.axiomOfChoice hel0
     obtain ⟨m, hm⟩ := b7z (Q := fun i m => c7K P (TyK P m) e (g i).2.1) (fun i m m' hmm h => h.mono fun k d => TyK.mono hmm) len fun i hi => ⟨_, (hg i hi).1⟩
     have hks : 0 < (kinds P e).length := by omega
     have hspot : a.spot = none := by
      have := ((hg 0 (by omega)).2.1 0 _ (f58 hks)).1
      rw [Nat.zero_mul] at this
      exact World.cell?_spot this
     have hadd : ∀ n, a.add n = ⟨a.block, a.off + n, none⟩ := fun n => by
      unfold Addr.add; split
      ·rename_i h; subst h; cases a; simp_all
      ·rfl
     have hlen : ((List.range len).map fun i => (g i).2.1).length = len := by simp
     refine ⟨m + 1, [(.sl e, .l false ((List.range len).map fun i => (g i).2.1))], rfl, ⟨⟨⟨false, _, rfl, nofun, by rw [hlen]; omega, ?_⟩, ?_⟩, trivial⟩, ?_⟩
     ·intro x hx
      obtain ⟨i, hi, rfl⟩ := List.mem_map.1 hx
      exact hm i (List.mem_range.1 hi)
     ·have ha : a = ⟨a.block, a.off, none⟩ := by cases a; simp_all
      rw [ha]
      have := a2e.sl (P := P) (w := w) (S := Sw w) e (.l false ((List.range len).map fun i => (g i).2.1)) a.block a.off cap (fun i j => (g i).2.2 j) rfl q2 (by simp only [D.items]; omega) hc.2.2
       (fun i hi j hj => by
        simp only [D.items, hlen] at hi
        have := ((hg i hi).2.1 j _ (f58 hj)).1
        rw [hadd, ← Nat.add_assoc] at this
        exact ⟨e5x this, this⟩)
       (fun i hi j k hk => by
        simp only [D.items, hlen] at hi
        have := ((hg i hi).2.1 j k hk).2
        simp only [D.items, f51, List.getElem?_map, List.getElem?_range hi]
        exact this)
      simpa only [D.items, hlen] using this
     ·have hs := b9p (f := fun i => (g i).2.1) (l := List.range len) fun i hi => (hg i (List.mem_range.1 hi)).2.2
      rw [hbk] at hs
      rw [show c4k P T = 0 by unfold c4k a0j; rw [hu]; rfl]
      show a3k _ + 1 + 0 + 0 ≤ _
      omega
   ·cases h
  ·rename_i cs _ _ fs hu
   split at h
   ·rename_i hl
    simp only [b5W, hu, f5U, List.all_eq_true] at hf
    simp only [a1k, hu] at hk ⊢
    obtain ⟨xs, hxs, he⟩ := Option.map_eq_some_iff.1 h
    simp only [f6a] at he
    obtain ⟨rfl, _⟩ := he
    have hx := b2m hxs
    have hbk := d1T hB hx
    have hba := hB.agg (xs.map (·.1))
    have hb : ∃ m, ∀ j, j < fs.toList.length → ∀ f, fs.toList[j]? = some f → ∃ l : List (CK × D), l.map Prod.fst = a1k P n f.type ∧ a0B (RT P w m) l ((cs.drop f.offset).take (a0d P f.type)) ∧ a3k (l.map Prod.snd) ≤ ((DataW.trod enc P w 0 spare held fuel f.type ((cs.drop f.offset).take (P.cellsOf f.type))).map fun y => bk y.1).getD 0 := by
     refine b7z (Q := fun j m => ∀ f, fs.toList[j]? = some f → ∃ l : List (CK × D), l.map Prod.fst = a1k P n f.type ∧ a0B (RT P w m) l ((cs.drop f.offset).take (a0d P f.type)) ∧ a3k (l.map Prod.snd) ≤ ((DataW.trod enc P w 0 spare held fuel f.type ((cs.drop f.offset).take (P.cellsOf f.type))).map fun y => bk y.1).getD 0) (fun j m m' hmm h f hf => ?_) _ fun j hj => ?_
     ·obtain ⟨l, h1, h2, h3⟩ := h f hf
      exact ⟨l, h1, h2.mono fun _ _ _ => RT.mono hmm, h3⟩
     ·have hjf := f58 hj
      obtain ⟨y, _, hy⟩ := hx.get hjf
      have hfm := List.mem_of_getElem? hjf
      have hff := hf.2 _ hfm
      have hkf : (a1k P n (fs.toList[j]).type).all (okS Ts) = true := by
       rw [List.all_eq_true] at hk ⊢
       exact fun k hkk => hk k (List.mem_flatMap.2 ⟨_, hfm, hkk⟩)
      obtain ⟨m, l, h1, h2, h3⟩ := ih n _ _ y.1 y.2 hff.1 hkf hy
      refine ⟨m, fun f hff => ?_⟩
      rw [hjf] at hff
      cases hff
      exact ⟨l, h1, h2, by rw [hy]; exact Nat.le_trans (Nat.le_add_right _ _) h3⟩
    obtain ⟨m, hb⟩ := hb
    have := b5q (P := P) (kds := fun f l => l.map Prod.fst = a1k P n f.type ∧ a3k (l.map Prod.snd) ≤ ((DataW.trod enc P w 0 spare held fuel f.type ((cs.drop f.offset).take (P.cellsOf f.type))).map fun y => bk y.1).getD 0) (R := RT P w m) hf.1 hl (fun f hfm => by
     obtain ⟨j, hj⟩ := List.getElem?_of_mem hfm
     obtain ⟨l, h1, h2, h3⟩ := hb j (f55.1 hj).1 f hj
     refine ⟨l, ⟨h1, h3⟩, h2, ?_⟩
     have : l.length = (l.map Prod.fst).length := by simp
     rw [this, h1, f5T (hf.2 f hfm).2])
    obtain ⟨ls, h1, h2⟩ := this
    have hfl := c61 (h1.mono fun f l _ h => h.2)
    rw [hbk] at hfl
    refine ⟨m, ls.flatten, ?_, by simpa using h2, by rw [show c4k P T = 1 by unfold c4k a0j; rw [hu]; rfl]; omega⟩
    rw [List.map_flatten]
    exact c5p (h1.mono fun f l _ h => h.1)
   ·cases h
  ·rename_i cs _ _ len e hu
   split at h
   ·rename_i hl
    simp only [b5W, hu, f5U] at hf
    simp only [a1k, hu] at hk ⊢
    obtain ⟨xs, hxs, he⟩ := Option.map_eq_some_iff.1 h
    simp only [f6a] at he
    obtain ⟨rfl, _⟩ := he
    have hx := b2m hxs
    have hbk := d1T hB hx
    have hba := hB.agg (xs.map (·.1))
    have e1 := hl.trans (f5T hf.1.1)
    have hb : ∃ m, ∀ i, i < len → ∃ l : List (CK × D), l.map Prod.fst = a1k P n e ∧ a0B (RT P w m) l ((cs.drop (i * a0d P e)).take (a0d P e)) ∧ a3k (l.map Prod.snd) ≤ ((DataW.trod enc P w 0 spare held fuel e ((cs.drop (i * P.cellsOf e)).take (P.cellsOf e))).map fun y => bk y.1).getD 0 := by
     refine b7z (Q := fun i m => ∃ l : List (CK × D), l.map Prod.fst = a1k P n e ∧ a0B (RT P w m) l ((cs.drop (i * a0d P e)).take (a0d P e)) ∧ a3k (l.map Prod.snd) ≤ ((DataW.trod enc P w 0 spare held fuel e ((cs.drop (i * P.cellsOf e)).take (P.cellsOf e))).map fun y => bk y.1).getD 0) (fun i m m' hmm ⟨l, h1, h2, h3⟩ => ⟨l, h1, h2.mono fun _ _ _ => RT.mono hmm, h3⟩) _ fun i hi => ?_
     obtain ⟨y, _, hy⟩ := hx.get (List.getElem?_range hi)
     obtain ⟨m, l, h1, h2, h3⟩ := ih n e _ y.1 y.2 hf.1.2 (by
      rw [List.all_eq_true] at hk ⊢
      refine fun k hkk => hk k ?_
      cases len with
      | zero => omega
      | succ len => rw [List.replicate_succ, List.flatten_cons]; simp [hkk]) hy
     exact ⟨m, l, h1, h2, by rw [hy]; exact Nat.le_trans (Nat.le_add_right _ _) h3⟩
    obtain ⟨m, hb⟩ := hb
    obtain ⟨l, h1, h2, h3⟩ := d9I (R := RT P w m) (ks := a1k P n e) (sz := a0d P e) len (Nat.le_of_eq e1.symm) hb
    rw [hbk] at h3
    refine ⟨m, l, h1, ?_, by rw [show c4k P T = 1 by unfold c4k a0j; rw [hu]; rfl]; omega⟩
    rw [← e1, List.take_length] at h2
    exact h2
   ·cases h
  ·cases h
def e9e (P : Program) (Ts : List TypeId) (T : TypeId) : Bool := b5W P 12 T && (kinds P T).all (okS Ts) && stB P T
theorem e3y {W : World} {env : Env} {S : a0Q} {base : Nat} (hB : c1A bk bkA) (hTs : f4f P Ts = true) {T : TypeId} {v : Value} {d : DataW H} {ps : List MemPlace} (hp : e9e P Ts T = true) (h : DataW.Trod enc P W 0 (fun _ => true) true T v d ps) (ho : Value.okWide P W .any base T v)
  (hk : a0O W (Sw W) W S) : ∃ m ds, b8x P m T ds ∧ a0G P env S W (f4d P T ds) v ∧ a3k ds ≤ bk d := by
 unfold e9e at hp
 simp only [f5U] at hp
 obtain ⟨⟨p1, p2⟩, _⟩ := hp
 obtain ⟨fuel, h⟩ := h
 obtain ⟨m, kds, k1, k2, k3⟩ := d1U hB hTs fuel 12 T _ d ps p1 p2 h
 have k1 : kds.map Prod.fst = kinds P T := k1
 refine ⟨m, kds.map Prod.snd, ?_, ?_, Nat.le_trans (Nat.le_add_right _ _) k3⟩
 ·unfold b8x
  rw [← k1]
  refine .of_get (by simp) fun j x y hx hy => ?_
  rw [List.getElem?_map] at hx hy
  obtain ⟨kd, h1, rfl⟩ := Option.map_eq_some_iff.1 hx
  rw [h1] at hy
  cases hy
  obtain ⟨v, _, hv⟩ := k2.get h1
  exact hv.1
 ·have hz := d5f (env := env) k2 hk
  rw [k1] at hz
  exact e0T p1 ho hz
theorem c62 {W : World} {env : Env} {S : a0Q} {base : Nat} (hB : c1A bk bkA) (hTs : f4f P Ts = true) (hk : a0O W (Sw W) W S) : ∀ {Tl : List TypeId} {vs : List Value} {ds : List (DataW H)} {ps : List MemPlace}, (∀ T ∈ Tl, e9e P Ts T = true) → DataW.TrodAll enc P W 0 (fun _ => true) true Tl vs ds ps →
  (∀ (j : Nat) t v, Tl[j]? = some t → vs[j]? = some v → Value.okWide P W .any base t v) → ∃ m dss, a0B (b8x P m) Tl dss ∧ a0B (a0G P env S W) (e0S P Tl dss) vs ∧ (dss.map a3k).sum ≤ bkA ds
 | [], vs, ds, ps, _, h, _ => by
  obtain ⟨rfl, rfl, rfl⟩ := ChangeShapes.trodAll_nil h
  exact ⟨0, [], trivial, trivial, by simp⟩
 | T :: Tl, vs, ds, ps, hp, h, ho => by
  obtain ⟨v, vs1, d, ds1, a, b, rfl, rfl, rfl, h1, h2⟩ := ChangeShapes.trodAll_cons h
  obtain ⟨m, x, q1, q2, q5⟩ := e3y (env := env) hB hTs (hp T (by simp)) h1 (ho 0 T v rfl rfl) hk
  obtain ⟨m', xs, q3, q4, q6⟩ := c62 hB hTs hk (fun T hT => hp T (by simp [hT])) h2 (fun j t v ht hv => ho (j + 1) t v (by simpa using ht) (by simpa using hv))
  exact ⟨max m m', x :: xs, ⟨q1.mono fun _ _ _ => TyK.mono (Nat.le_max_left _ _), q3.mono fun _ _ _ h => h.mono fun _ _ _ => TyK.mono (Nat.le_max_right _ _)⟩, ⟨q2, q4⟩, by rw [hB.consA, List.map_cons, List.sum_cons]; omega⟩
theorem d9J {W : World} {f : FuncId} {fn : Func} {s : ChangeSpec} {apart a0L handsOn again : Bool} {tb : TypeId} (hB : c1A bk bkA) (Ts : List TypeId) (hTs : f4f P Ts = true) (hl : laidOutB P = true) (hvars : s.vars = [])
  (hres : fn.resultTypes = #[tb]) (htb : P.underlying tb = some .bool) (hpar : fn.params.all (e9e P Ts) = true) (hs : ∀ l, l.length = fn.params.size → s.fn H l = { results := [.lit (.bool true)], args := l })
  {base : Nat} {args : Array Value} {ds gs : List (DataW H)} {before : List MemPlace} (hc : ∀ m dss, a0B (b8x P m) fn.params.toList dss → (dss.map a3k).sum ≤ bkA ds → a1I P f (e0S P fn.params.toList dss) [] ([.c (.b true)], []))
  (hgi : ∀ {M : a0Q}, (∀ b o, ¬ M b o) → GI P M W)
  (hok : ∀ (j : Nat) t v, fn.params[j]? = some t → args[j]? = some v → Value.okWide P W .any base t v)
  (hW : DataW.Whole enc P fn.params.toList s.vars apart W args.toList ds gs before) : Calls P f args W fun e W' => ∃ v, e = .returned v ∧ s.post enc P fn apart a0L handsOn again W args v W' := by
 have hpar' : ∀ T ∈ fn.params.toList, e9e P Ts T = true := by
  rw [Array.all_eq_true_iff_forall_mem] at hpar
  exact fun T hT => hpar T (by simpa using hT)
 let env : Env := fun _ => ⟨0, 0, none⟩
 have hkeep : a0O W (Sw W) W (Sof P (Sw W) (a5M P env []) W.heap.size env [] W) := fun b o v hS hc => ⟨⟨.inl hS, hS, fun k ob hg => by cases hg⟩, hc⟩
 obtain ⟨p, q, h1, _⟩ := id hW
 obtain ⟨m, dss, d1, d2, d3⟩ := c62 (env := env) hB hTs hkeep hpar' h1 (fun j t v ht hv => hok j t v (by simpa using ht) (by simpa using hv))
 exact e5M hl hvars hres htb (fun T hT => by
  have := hpar' T hT
  unfold e9e at this
  simp only [f5U] at this
  exact this.2) hs (hc m dss d1 d3) hgi d2 hW
end
end Go.AM

namespace Go.AM
open Go
section
variable {P : Program} {W : World}
def GAt (W : World) (g : Nat) (ps : List (Value → Prop)) : Prop := ∃ cur T fr, W.heap[g]? = some (.cells cur T fr) ∧ cur.size = ps.length ∧ ∀ (o : Nat) p v, ps[o]? = some p → cur[o]? = some v → p v
theorem f4J {a b c d : Nat} (ha : P.globalNamed "internal/bytealg.MaxLen" = some a) (hb : P.globalNamed "internal/strconv.uint64pow10" = some b) (hc : P.globalNamed "strconv.ErrSyntax" = some c) (hd : P.globalNamed "strconv.ErrRange" = some d)
  (h1 : GAt W a [c0h]) (h2 : GAt W b ((List.range 20).map fun i v => v = .int .u64 ((10 ^ i : Nat) : Int))) (h3 : GAt W c [c4B]) (h4 : GAt W d [c4B]) {M : a0Q} (hM : ∀ b o, ¬ M b o) : GI P M W := by
 intro x hx g hg
 refine ⟨hM g, ?_⟩
 simp only [d4B, f59, List.not_mem_nil, or_false] at hx
 rcases hx with rfl | rfl | rfl | rfl
 ·obtain rfl := Option.some.inj (ha.symm.trans hg); exact h1
 ·obtain rfl := Option.some.inj (hb.symm.trans hg); exact h2
 ·obtain rfl := Option.some.inj (hc.symm.trans hg); exact h3
 ·obtain rfl := Option.some.inj (hd.symm.trans hg); exact h4
theorem d1V {cur : Array Value} {p : Value → Prop} {v0 : Value} (h : cur = #[v0]) (hp : p v0) : ∀ (o : Nat) q v, ([p] : List (Value → Prop))[o]? = some q → cur[o]? = some v → q v := by
 intro o q v hq hv
 subst h
 cases o with
 | zero => simp at hq hv; subst hq hv; exact hp
 | succ o => simp at hv
theorem e8H {g t : Nat} {zero : Array Value} (hs : W.ShapedOpen P) (hg : g < P.globals.size) (hrow : (((begin P (fun _ _ => 0) default).world.heap[g]?).bind Obj.row?) = some (zero, t)) (hz : zero.size = 1) (hb : P.buildable t = true)
  (hct : P.cellTypes P.depth t = some [t]) (hu : P.underlying t = some (.int .i64)) : GAt W g [c0h] := by
 obtain ⟨cs, h1, h2, h3⟩ := hs.1 g zero t hg hrow
 obtain ⟨ts, q1, _, q2⟩ := h3 hb
 rw [hct] at q1
 obtain rfl := Option.some.inj q1
 have hsz : cs.size = 1 := h2.trans hz
 have hcl : 0 < cs.size := by omega
 obtain ⟨u, q3, q4⟩ := q2 0 cs[0] (Array.getElem?_eq_getElem hcl)
 obtain rfl : t = u := by simpa using q3
 have hv : c0h cs[0] := by
  unfold Cell.ok at q4
  rw [hu] at q4
  generalize cs[0] = v at q4 ⊢
  cases v with
  | int k' n => exact ⟨n, by rw [q4.1]⟩
  | _ => exact False.elim q4
 refine ⟨cs, t, _, h1, hsz, d1V (v0 := cs[0]) ?_ hv⟩
 apply Array.ext
 ·simpa using hsz
 ·intro i hi hi'; simp at hi'; subst hi'; rfl
theorem e8I {g : Nat} {name : String} {k : IntKind} {zs : List Int} (hg : P.globalNamed name = some g) (h : Lib.TabIs P W name k zs) {ps : List (Value → Prop)} (hl : ps.length = zs.length) (hp : ∀ (i : Nat) p z, ps[i]? = some p → zs[i]? = some z → p (.int k z)) : GAt W g ps := by
 unfold Lib.TabIs World.var? at h
 rw [hg] at h
 simp only [Option.bind_some] at h
 split at h
 ·rename_i cs T fr hh
  simp only [f5S] at h
  subst h
  refine ⟨_, T, fr, hh, by simp [hl], fun o p v q1 q2 => ?_⟩
  simp only [List.getElem?_toArray, List.getElem?_map, Option.map_eq_some_iff] at q2
  obtain ⟨z, q3, rfl⟩ := q2
  exact hp o p z q1 q3
 ·cases h
theorem c4l {x : String × DataW Unit} : ∀ {l : List (String × DataW Unit)} {ps : List MemPlace}, DataW.LaidVars P W l ps → x ∈ l →
  ∃ g t cs fuel p, P.globalNamed x.1 = some g ∧ (P.globals[g]?).map (·.type) = some t ∧ W.var? P x.1 = some cs ∧ DataW.trod (fun _ => ()) P W 0 (fun _ => true) false fuel t cs.toList = some (x.2, p)
 | (n, d) :: l, ps, h, hx => by
  obtain ⟨g, t, cs, fuel, p, q, h1, h2, h3, h4, h5, _⟩ := h
  rcases f59.1 hx with rfl | hx
  ·exact ⟨g, t, cs, fuel, p, h1, h2, h3, h4⟩
  ·exact c4l h5 hx
def e4T (P : Program) (t : TypeId) : Bool := match P.underlying t with
 | some (.interface _) => true
 | _ => false
theorem d9K {l : List (String × DataW Unit)} {name tn : String} {g t : Nat} {d : DataW Unit} (h : laidMet P l W) (hx : (name, DataW.iface tn d) ∈ l) (hg : P.globalNamed name = some g) (ht : (P.globals[g]?).map (·.type) = some t) (hi : e4T P t = true) : GAt W g [c4B] := by
 obtain ⟨ms, hu⟩ : ∃ ms, P.underlying t = some (.interface ms) := by
  unfold e4T at hi
  split at hi
  ·rename_i ms h; exact ⟨ms, h⟩
  ·cases hi
 obtain ⟨ps, hl, _⟩ := h
 obtain ⟨g', t', cs, fuel, p, q1, q2, q3, q4⟩ := c4l hl hx
 obtain rfl := Option.some.inj (hg.symm.trans q1)
 obtain rfl := Option.some.inj (ht.symm.trans q2)
 unfold World.var? at q3
 rw [hg] at q3
 simp only [Option.bind_some] at q3
 split at q3
 ·rename_i cs' T fr hh
  simp only [f5S] at q3
  subst q3
  cases fuel with
  | zero => cases q4
  | succ fuel =>
   unfold DataW.trod at q4
   rw [hu] at q4
   have hone : ∃ u v, cs'.toList = [.iface u v] := by
    generalize hcl : cs'.toList = cl at q4
    match cl, q4 with
    | [.iface u v], _ => exact ⟨u, v, rfl⟩
    | [.nilIface], q4 => simp at q4
   obtain ⟨u, v, hone⟩ := hone
   have : cs' = #[.iface u v] := by rw [← Array.toList_inj]; exact hone
   exact ⟨cs', T, fr, hh, by rw [this]; rfl, d1V this (.inr ⟨u, v, rfl⟩)⟩
 ·cases q3
end
end Go.AM

namespace Go.AM
open Go Go.RowKit
theorem a9D {α : Type} {k0 k : Nat} {x o : α} (h : get [(k0, x)] k = some o) : k = k0 ∧ o = x := by
 simp only [get, a0v] at h
 by_cases hk : k0 = k
 ·rw [cond_true (by simpa using hk)] at h; exact ⟨hk.symm, (Option.some.inj h).symm⟩
 ·rw [cond_false (by simpa using hk)] at h; cases h
section
variable {P : Program}
open Go.Sort in
end
end Go.AM

namespace Go.AM
open Go Go.RowKit
section
variable {P : Program}
end
end Go.AM

set_option maxHeartbeats 1000000
set_option maxRecDepth 100000
namespace Go.Proofs
open Go Go.Shelf Go.RowKit
variable {P : Program} {ρ : Ren}
end Go.Proofs

namespace Go.AM
open Go
end Go.AM

namespace Go.AM
open Go
section
variable {P : Program} {N n0 kb : Nat} {F : Nat → Prop} {B M0 : a0Q} {w0 : World} {e0 : b0H} {env : Env} {st : St} {a : Act} {w : World}
def e8J : Value → Value → Bool
 | .slice none 0 0, .slice none 0 0 => true
 | .nilIface, .nilIface => true
 | .pointer none, .pointer none => true
 | .nilFunc, .nilFunc => true
 | _, _ => false
theorem e3z {x y : Value} (h : e8J x y = true) : x = y := by
 unfold e8J at h
 split at h <;> first | rfl | cases h
def eqC : C → C → Bool
 | .u, .u => true
 | .i k n, .i k' n' => k == k' && n == n'
 | .b x, .b y => x == y
 | .k x, .k y => x == y
 | .s x, .s y => x == y
 | .sl e n xs, .sl e' n' ys => Nat.beq e e' && n == n' && e0N xs ys
 | .v x, .v y => e8J x y
 | .p k o, .p k' o' => Nat.beq k k' && Nat.beq o o'
 | .o k, .o k' => Nat.beq k k'
 | .m k, .m k' => Nat.beq k k'
 | .bs k n, .bs k' n' => Nat.beq k k' && Nat.beq n n'
 | .bx k n, .bx k' n' => Nat.beq k k' && Nat.beq n n'
 | _, _ => false
theorem e4U {x y : C} (h : eqC x y = true) : x = y := by
 unfold eqC at h
 split at h <;> (try simp only [f5U] at h)
 ·rfl
 ·rw [eq_of_beq h.1, eq_of_beq h.2]
 ·rw [eq_of_beq h]
 ·rw [eq_of_beq h]
 ·rw [eq_of_beq h]
 ·rw [f5T h.1.1, eq_of_beq h.1.2, b4t h.2]
 ·rw [e3z h]
 ·rw [f5T h.1, f5T h.2]
 ·rw [f5T h]
 ·rw [f5T h]
 ·rw [f5T h.1, f5T h.2]
 ·rw [f5T h.1, f5T h.2]
 ·cases h
def f3v : List C → List C → Bool
 | [], [] => true
 | x :: xs, y :: ys => eqC x y && f3v xs ys
 | _, _ => false
theorem c9i : ∀ {xs ys : List C}, f3v xs ys = true → xs = ys
 | [], [], _ => rfl
 | x :: xs, y :: ys, h => by simp only [f3v, f5U] at h; rw [e4U h.1, c9i h.2]
 | [], _ :: _, h => by cases h
 | _ :: _, [], h => by cases h
def f4K : V → V → Bool
 | .c x, .c y => eqC x y
 | .g xs, .g ys => f3v xs ys
 | _, _ => false
theorem e8K {x y : V} (h : f4K x y = true) : x = y := by
 unfold f4K at h
 split at h
 ·rw [e4U h]
 ·rw [c9i h]
 ·cases h
def f4g : Obj → Obj → Bool
 | .box xs, .box ys => f3v xs ys
 | .row e ex nl xs, .row e' ex' nl' ys => Nat.beq e e' && ex == ex' && nl == nl' && e0N xs ys
 | _, _ => false
theorem e8L {x y : Obj} (h : f4g x y = true) : x = y := by
 unfold f4g at h
 split at h
 ·rw [c9i h]
 ·simp only [f5U] at h
  rw [f5T h.1.1.1, eq_of_beq h.1.1.2, eq_of_beq h.1.2, b4t h.2]
 ·cases h
def f3w {α : Type} (f : α → α → Bool) : AL α → AL α → Bool
 | [], [] => true
 | (k, x) :: r, (k', y) :: s => Nat.beq k k' && f x y && f3w f r s
 | _, _ => false
theorem d9L {α : Type} {f : α → α → Bool} (hf : ∀ x y, f x y = true → x = y) : ∀ {x y : AL α}, f3w f x y = true → x = y
 | [], [], _ => rfl
 | (k, x) :: r, (k', y) :: s, h => by
  simp only [f3w, f5U] at h
  rw [f5T h.1.1, hf _ _ h.1.2, d9L hf h.2]
 | [], _ :: _, h => by cases h
 | _ :: _, [], h => by cases h
end
end Go.AM

set_option linter.unusedVariables false
namespace Go.AM
open Go Go.Sort Go.RowKit Go.Proofs

structure a8G {α : Type} (c : α → α → Int) : Prop where
 sym : ∀ x y, c x y < 0 ↔ 0 < c y x
 trans : ∀ x y z, c x y ≤ 0 → c y z ≤ 0 → c x z ≤ 0
theorem a8G.swo {α : Type} {c : α → α → Int} (h : a8G c) : SWO (ltOf c) := by
 have hl : ∀ x y, (ltOf c x y = true) ↔ c x y < 0 := fun x y => by unfold ltOf; simp
 have hf : ∀ x y, (ltOf c x y = false) ↔ c y x ≤ 0 := fun x y => by
  have := h.sym x y
  unfold ltOf; simp only [decide_eq_false_iff_not]; omega
 refine ⟨fun x => ?_, fun x y z h1 h2 => ?_, fun x y z h1 h2 => ?_⟩
 ·rw [hf]
  have := h.sym x x
  omega
 ·rw [hl] at *
  have a := h.sym x y
  have b := h.sym y z
  have d := h.sym x z
  have := h.trans y z x (by omega)
  have e := h.sym z x
  by_cases hz : c z x ≤ 0
  ·have := this hz; omega
  ·omega
 ·rw [hf] at *
  exact h.trans z y x h2 h1
theorem a1w {α β : Type} {c : β → β → Int} (h : a8G c) (f : α → β) : a8G fun x y => c (f x) (f y) := ⟨fun x y => h.sym _ _, fun x y z => h.trans _ _ _⟩
theorem b35 : a8G Lib.compareInt := by
 refine ⟨fun x y => ?_, fun x y z => ?_⟩ <;> unfold Lib.compareInt <;> repeat' split
 all_goals omega
theorem a43 : ∀ x y : List UInt8, Lib.compareBytes x y < 0 ↔ 0 < Lib.compareBytes y x
 | [], [] => by simp [Lib.compareBytes]
 | [], _ :: _ => by simp [Lib.compareBytes]
 | _ :: _, [] => by simp [Lib.compareBytes]
 | a :: at', b :: bs => by
  have ih := a43 at' bs
  simp only [Lib.compareBytes]
  have h1 : a < b ↔ a.toNat < b.toNat := UInt8.lt_iff_toNat_lt
  have h2 : b < a ↔ b.toNat < a.toNat := UInt8.lt_iff_toNat_lt
  by_cases p : a < b
  ·have q : ¬ b < a := by rw [h1] at p; rw [h2]; omega
   simp [p, q]
  ·by_cases q : b < a
   ·simp [p, q]
   ·simp only [p, q, if_false]; exact ih
theorem a6V : ∀ x y z : List UInt8, Lib.compareBytes x y ≤ 0 → Lib.compareBytes y z ≤ 0 → Lib.compareBytes x z ≤ 0
 | [], _, [], _, _ => by simp [Lib.compareBytes]
 | [], _, _ :: _, _, _ => by simp [Lib.compareBytes]
 | _ :: _, [], _, h, _ => by simp [Lib.compareBytes] at h
 | _ :: _, _ :: _, [], _, h => by simp [Lib.compareBytes] at h
 | a :: at', b :: bs, c :: cs, h1, h2 => by
  have ih := a6V at' bs cs
  have e1 : a < b ↔ a.toNat < b.toNat := UInt8.lt_iff_toNat_lt
  have e2 : b < a ↔ b.toNat < a.toNat := UInt8.lt_iff_toNat_lt
  have e3 : b < c ↔ b.toNat < c.toNat := UInt8.lt_iff_toNat_lt
  have e4 : c < b ↔ c.toNat < b.toNat := UInt8.lt_iff_toNat_lt
  have e5 : a < c ↔ a.toNat < c.toNat := UInt8.lt_iff_toNat_lt
  have e6 : c < a ↔ c.toNat < a.toNat := UInt8.lt_iff_toNat_lt
  simp only [Lib.compareBytes, e1, e2, e3, e4, e5, e6] at *
  by_cases p : a.toNat < c.toNat
  ·simp [p]
  ·by_cases q1 : a.toNat < b.toNat
   ·have : c.toNat < b.toNat := by omega
    have n : ¬ b.toNat < c.toNat := by omega
    simp [this, n] at h2
   ·by_cases q2 : b.toNat < a.toNat
    ·simp [q1, q2] at h1
    ·simp only [q1, q2, if_false] at h1
     by_cases r1 : b.toNat < c.toNat
     ·omega
     ·by_cases r2 : c.toNat < b.toNat
      ·simp [r1, r2] at h2
      ·simp only [r1, r2, if_false] at h2
       have : ¬ c.toNat < a.toNat := by omega
       simp only [p, this, if_false]
       exact ih h1 h2
theorem a6q : a8G Lib.compareBytes := ⟨a43, a6V⟩
def lex (a b : Int) : Int := if a = 0 then b else a
theorem a4f {α : Type} {c d : α → α → Int} (h : a8G c) (h' : a8G d) : a8G fun x y => lex (c x y) (d x y) := by
 refine ⟨fun x y => ?_, fun x y z h1 h2 => ?_⟩
 ·have a := h.sym x y
  have b := h.sym y x
  have e := h'.sym x y
  simp only [lex]
  split <;> split <;> omega
 ·have a := h.sym x y
  have a' := h.sym y x
  have b := h.sym y z
  have b' := h.sym z y
  have e := h.sym x z
  have e' := h.sym z x
  have t := h.trans x y z
  have t1 := h.trans y z x
  have t2 := h.trans z x y
  have u := h'.trans x y z
  simp only [lex] at *
  split at h1 <;> split at h2 <;> split <;> omega
theorem b0A {α : Type} : a8G fun (_ _ : α) => (0 : Int) := ⟨fun _ _ => by omega, fun _ _ _ _ _ => by omega⟩

abbrev a4g := List (Nat × Bool)
def vI : Value → Int
 | .int _ n => n
 | _ => 0
def vS : Value → List UInt8
 | .string s => s.data.toList
 | _ => []
def d3Z : a4g → List Value → List Value → Int
 | [], _, _ => 0
 | (j, s) :: r, x, y => lex (bif s then Lib.compareBytes (vS (x.getD j undef)) (vS (y.getD j undef)) else Lib.compareInt (vI (x.getD j undef)) (vI (y.getD j undef))) (d3Z r x y)
def d1W (P : Program) (e : TypeId) : a4g → D → D → Int
 | [], _, _ => 0
 | (j, s) :: r, x, y => lex (bif s then Lib.compareBytes (elD P e x j).toS (elD P e y j).toS else Lib.compareInt (elD P e x j).toI (elD P e y j).toI) (d1W P e r x y)
theorem b0B : ∀ os, a8G (d3Z os)
 | [] => b0A
 | (j, true) :: r => a4f (a1w a6q fun x : List Value => vS (x.getD j undef)) (b0B r)
 | (j, false) :: r => a4f (a1w b35 fun x : List Value => vI (x.getD j undef)) (b0B r)
theorem a7F {P : Program} {e : TypeId} : ∀ os, a8G (d1W P e os)
 | [] => b0A
 | (j, true) :: r => a4f (a1w a6q fun x => (elD P e x j).toS) (a7F r)
 | (j, false) :: r => a4f (a1w b35 fun x => (elD P e x j).toI) (a7F r)
noncomputable def c4m (P : Program) (e : TypeId) (os : a4g) (xs : List D) : List D := xs.mergeSort fun x y => !ltOf (d1W P e os) y x
def d9M (P : Program) (e : TypeId) (os : a4g) (xs : List D) : Prop := ∀ a ∈ xs, ∀ b ∈ xs, d1W P e os a b = 0 → a = b
open Classical in
noncomputable def d1X (P : Program) (e : TypeId) (os : a4g) (xs : List D) : Bool := decide (d9M P e os xs)
theorem b0C {P : Program} {e : TypeId} {os : a4g} {xs : List D} : d1X P e os xs = true ↔ d9M P e os xs := by unfold d1X; exact @decide_eq_true_iff _ (Classical.propDecidable _)

def kOk : CK → Value → Prop
 | .int k, v => ∃ n, v = .int k n
 | .bool, v => ∃ b, v = .bool b
 | .str, v => ∃ s, v = .string s
 | .sl _, v => ∃ p n c, v = .slice p n c
 | .oth, v => v = .nilFunc ∨ ∃ g, v = .func (.func g) #[] #[]
def f4L : CK → Value
 | .int k => .int k 0
 | .bool => .bool false
 | .str => .string ⟨#[]⟩
 | .sl _ => .slice none 0 0
 | .oth => .nilFunc
theorem e8M (k : CK) : kOk k (f4L k) := by cases k <;> first | exact ⟨_, rfl⟩ | exact ⟨_, _, _, rfl⟩ | exact .inl rfl
theorem d9N {k : CK} {v : Value} (h : kOk k v) : v.oneCell' = true := by
 cases k with
 | oth => rcases h with rfl | ⟨g, rfl⟩ <;> rfl
 | sl e => obtain ⟨p, n, c, rfl⟩ := h; rfl
 | _ => obtain ⟨n, rfl⟩ := h; rfl
theorem e8N {P : Program} {w : World} {S : a0Q} {k : CK} {d : D} {v : Value} (h : a2e P w S k d v) : kOk k v := by
 cases h with
 | oth d => unfold fnV; cases d.toB with
  | true => exact .inl rfl
  | false => exact .inr ⟨_, rfl⟩
 | int k d => exact ⟨_, rfl⟩
 | bool d => exact ⟨_, rfl⟩
 | str d => exact ⟨_, rfl⟩
 | nil e d => exact ⟨_, _, _, rfl⟩
 | emp e d => exact ⟨_, _, _, rfl⟩
 | sl e d => exact ⟨_, _, _, rfl⟩
abbrev Elt (ks : List CK) := { vs : List Value // a0B kOk ks vs }
theorem d1Y : ∀ ks : List CK, a0B kOk ks (ks.map f4L)
 | [] => trivial
 | k :: ks => ⟨e8M k, d1Y ks⟩
instance (ks : List CK) : Inhabited (Elt ks) := ⟨⟨ks.map f4L, d1Y ks⟩⟩
theorem a67 {α β : Type} {R : α → β → Prop} : ∀ {xs : List α} {ys : List β}, a0B R xs ys → ∀ y ∈ ys, ∃ x, R x y
 | [], [], _, y, hy => by cases hy
 | x :: xs, z :: ys, h, y, hy => by
  rcases f59.1 hy with rfl | hy
  ·exact ⟨x, h.1⟩
  ·exact a67 h.2 y hy
 | [], _ :: _, h, _, _ => h.elim
 | _ :: _, [], h, _, _ => h.elim

theorem d9O {α β : Type} {R : α → β → Prop} {l l' : List β} (hp : l'.Perm l) : ∀ {xs : List α}, a0B R xs l → ∃ ys : List α, ys.Perm xs ∧ a0B R ys l' := by
 induction hp with
 | nil => intro xs h; exact ⟨xs, .refl _, h⟩
 | @cons b l1 l2 _ ih =>
  intro xs h
  cases xs with
  | nil => exact h.elim
  | cons x xs =>
   obtain ⟨ys, h1, h2⟩ := ih h.2
   exact ⟨x :: ys, h1.cons x, h.1, h2⟩
 | swap a b l =>
  intro xs h
  match xs, h with
  | x :: y :: xs, h => exact ⟨y :: x :: xs, .swap x y xs, h.2.1, h.1, h.2.2⟩
 | trans _ _ ih1 ih2 =>
  intro xs h
  obtain ⟨ys, h1, h2⟩ := ih2 h
  obtain ⟨zs, h3, h4⟩ := ih1 h2
  exact ⟨zs, h3.trans h1, h4⟩

section
variable {P : Program}
def e8O (P : Program) (w : World) (S : a0Q) (e : TypeId) (x : D) (vs : List Value) : Prop := ∀ (j : Nat) (k : CK), (kinds P e)[j]? = some k → ∃ u, vs[j]? = some u ∧ a2e P w S k (elD P e x j) u
theorem d9P {w : World} {S : a0Q} {e : TypeId} {x y : D} {vs ws : List Value} (hx : e8O P w S e x vs) (hy : e8O P w S e y ws) : ∀ os : a4g, (∀ z ∈ os, (kinds P e)[z.1]? = some (bif z.2 then .str else .int .i64)) → d3Z os vs ws = d1W P e os x y
 | [], _ => rfl
 | (j, true) :: r, h => by
  have hk := h _ (List.mem_cons_self ..)
  obtain ⟨u, hu, ru⟩ := hx j _ hk
  obtain ⟨v, hv, rv⟩ := hy j _ hk
  simp only [d3Z, d1W, AM.cond_true rfl] at ru rv ⊢
  rw [d9P hx hy r fun z hz => h z (List.mem_cons_of_mem _ hz), f51, f51, hu, hv]
  generalize elD P e x j = a at ru
  generalize elD P e y j = b at rv
  cases ru
  cases rv
  rfl
 | (j, false) :: r, h => by
  have hk := h _ (List.mem_cons_self ..)
  obtain ⟨u, hu, ru⟩ := hx j _ hk
  obtain ⟨v, hv, rv⟩ := hy j _ hk
  simp only [d3Z, d1W, AM.cond_false rfl] at ru rv ⊢
  rw [d9P hx hy r fun z hz => h z (List.mem_cons_of_mem _ hz), f51, f51, hu, hv]
  generalize elD P e x j = a at ru
  generalize elD P e y j = b at rv
  cases ru
  cases rv
  rfl
theorem d9Q {α : Type} {Q : Nat → α → Prop} : ∀ n : Nat, (∀ i, i < n → ∃ x, Q i x) → ∃ l : List α, l.length = n ∧ ∀ (i : Nat) x, l[i]? = some x → Q i x
 | 0, _ => ⟨[], rfl, fun i x h => by simp at h⟩
 | n + 1, h => by
  obtain ⟨l, h1, h2⟩ := d9Q n fun i hi => h i (by omega)
  obtain ⟨x, hx⟩ := h n (by omega)
  refine ⟨l ++ [x], by simp [h1], fun i y hy => ?_⟩
  rcases Nat.lt_or_ge i n with hi | hi
  ·rw [List.getElem?_append_left (by omega)] at hy; exact h2 i y hy
  ·rw [List.getElem?_append_right (by omega), h1] at hy
   have : i - n = 0 := by
    rcases Nat.eq_zero_or_pos (i - n) with h | h
    ·exact h
    ·rw [List.getElem?_eq_none (by simp; omega)] at hy; cases hy
   rw [this] at hy
   simp only [List.getElem?_cons_zero, f5S] at hy
   subst hy
   have : i = n := by omega
   subst this
   exact hx
structure d1Z {ks : List CK} (co : a4g) (blk : Nat) (d : Array (Elt ks)) (w w' : World) : Prop where
 os : w'.os = w.os
 tape : w'.tape = w.tape
 output : w'.output = w.output
 size : w.heap.size ≤ w'.heap.size
 other : ∀ b, b < w.heap.size → b ≠ blk → w'.heap[b]? = w.heap[b]?
 row : ∃ d' : Array (Elt ks), PermIn 0 d.size d d' ∧ SortedIn (ltOf fun x y : Elt ks => d3Z co x.val y.val) 0 d.size d' ∧
  ∀ cur T fr, w.heap[blk]? = some (.cells cur T fr) → ∃ cur' : Array Value, w'.heap[blk]? = some (.cells cur' T fr) ∧ cur'.size = cur.size ∧ ∀ i, i < d.size → ∀ j, j < ks.length → i * ks.length + j < cur.size → cur'[i * ks.length + j]? = (d'[i]!).val[j]?
theorem d9R {f g : FuncId} {e : TypeId} {os : a4g} (hsz : a0d P e = (kinds P e).length) (hk0 : 0 < (kinds P e).length) (hos : ∀ z ∈ os, (kinds P e)[z.1]? = some (bif z.2 then .str else .int .i64))
  (hS : ∀ (blk cap : Nat) (d : Array (Elt (kinds P e))) (w : World), HoldsK (fun x : Elt (kinds P e) => x.val) (kinds P e).length w blk 0 d → blk < w.heap.size → d.size < 4611686018427387904 →
   Calls P f #[.slice (some ⟨blk, 0, none⟩) d.size cap, .func (.func g) #[] #[]] w fun en w' => en = .returned (.tuple #[]) ∧ d1Z os blk d w w')
  (h0 : ∀ (p : Option Addr) (cap : Nat) (w : World), Calls P f #[.slice p 0 cap, .func (.func g) #[] #[]] w fun en w' => en = .returned (.tuple #[]) ∧ w' = w)
  {nl : Bool} {xs : List D} (hx : d9M P e os xs) (hl : xs.length < 4611686018427387904) : a1I P f [.c (.o 0), .c (.f g [])] [(0, .row e true nl xs)] ([], [(0, .row e true nl (c4m P e os xs))]) := by
 intro B env w vs hpre hall
 obtain ⟨v1, v2, hv, r1, r2⟩ := c4j hall
 have hvs : vs = #[v1, v2] := by rw [← Array.toList_inj]; exact hv
 subst hvs
 have r1 : v1 = (env 0).hdr := r1
 have r2 : v2 = .func (.func g) #[] #[] := r2
 subst r1 r2
 have hob := hpre.rel.ob 0 _ rfl
 have hob0 := hob
 obtain ⟨_, ⟨hn, hxs, hhdr⟩ | ⟨hn, hbase, cap, cur, hhdr, hrow, h1, h2, h3, h4⟩⟩ := hob
 ·-- nil
  subst hn hxs
  rw [hhdr]
  have hs : c4m P e os [] = [] := by unfold c4m; simp
  rw [hs]
  refine (h0 none 0 w).mono ?_
  rintro en w' ⟨rfl, rfl⟩
  exact ⟨_, rfl, env, hpre.rel, ⟨#[], rfl, trivial⟩⟩
 subst hn
 obtain ⟨fr, hfr, hheap⟩ := hrow
 have hblk : (env 0).blk < w.heap.size := (f53.1 hheap).1
 generalize hS0 : Sof P B (a5M P env [(0, .row e true false xs)]) w.heap.size env [(0, .row e true false xs)] w = S at *
 obtain ⟨l, hl1, hl2⟩ : ∃ l : List (Elt (kinds P e)), l.length = xs.length ∧ ∀ (i : Nat) x, l[i]? = some x → (∀ j, j < (kinds P e).length → x.val[j]? = cur[i * (kinds P e).length + j]?) ∧ i < xs.length := by
  refine d9Q xs.length fun i hi => ?_
  have hc : ∀ (j : Nat) k, (kinds P e)[j]? = some k → ∃ u, cur[i * (kinds P e).length + j]? = some u ∧ kOk k u := fun j k hk => by
   obtain ⟨u, hu, hr⟩ := h4 i j k hi hk
   rw [hsz] at hu
   exact ⟨u, hu, e8N hr⟩
  have hv : ∀ j, j < (kinds P e).length → ((List.range (kinds P e).length).map fun j => cur.getD (i * (kinds P e).length + j) undef)[j]? = cur[i * (kinds P e).length + j]? := fun j hj => by
   obtain ⟨u, hu, _⟩ := hc j _ (f58 hj)
   rw [List.getElem?_map, List.getElem?_range hj]
   simp [f56, hu]
  refine ⟨⟨(List.range (kinds P e).length).map fun j => cur.getD (i * (kinds P e).length + j) undef, .of_get (by simp) fun j k v hk hv' => ?_⟩, hv, hi⟩
  have hj := (f55.1 hk).1
  rw [hv j hj] at hv'
  obtain ⟨u, hu, hr⟩ := hc j k hk
  rw [hu] at hv'
  cases hv'
  exact hr
 have hval : ∀ i, i < xs.length → ∀ j, j < (kinds P e).length → (l.toArray[i]!).val[j]? = cur[i * (kinds P e).length + j]? := fun i hi j hj => by
  have : l[i]? = some (l.toArray[i]!) := by
   rw [f58 (by omega), getElem!_pos l.toArray i (by simp; omega)]; simp
  exact (hl2 i _ this).1 j hj
 have hH : HoldsK (fun x : Elt (kinds P e) => x.val) (kinds P e).length w (env 0).blk 0 l.toArray := by
  intro t ht
  rw [size_flatK, List.size_toArray, hl1] at ht
  rw [get_flatK _ _ _ _ (by rw [List.size_toArray, hl1]; exact ht)]
  have hi : t / (kinds P e).length < xs.length := by rw [Nat.div_lt_iff_lt_mul hk0]; exact ht
  have hj : t % (kinds P e).length < (kinds P e).length := Nat.mod_lt _ hk0
  have he := hval _ hi _ hj
  rw [Nat.mul_comm, Nat.div_add_mod] at he
  obtain ⟨u, hu, _⟩ := h4 _ _ _ hi (f58 hj)
  rw [hsz, Nat.mul_comm, Nat.div_add_mod] at hu
  rw [hu] at he
  refine ⟨?_, ?_⟩
  ·rw [Nat.zero_add, a2r hheap hu]
   congr 1
   show u = (l.toArray[t / (kinds P e).length]!).val[t % (kinds P e).length]!
   rw [List.getElem!_eq_getElem?_getD, he]; rfl
  ·unfold World.frozen?
   simp only [hheap]
   have := (f53.1 hu).1
   rcases hfr with rfl | hfr
   ·simp
   ·simp; omega
 have hcs := hS (env 0).blk cap l.toArray w hH hblk (by rw [List.size_toArray, hl1]; exact hl)
 rw [List.size_toArray, hl1] at hcs
 rw [hhdr]
 refine hcs.mono ?_
 rintro en w' ⟨rfl, hp⟩
 obtain ⟨d', hperm, hsorted, hcells⟩ := hp.row
 rw [List.size_toArray, hl1] at hperm hsorted hcells
 obtain ⟨cur', c1, c2, c3⟩ := hcells cur e fr hheap
 have hsd : d'.size = xs.length := by rw [hperm.1, List.size_toArray, hl1]
 have hpm : d'.toList.Perm l := by
  have := hperm.2.2
  have e1 : d'.extract 0 xs.length = d' := by rw [← hsd]; exact Array.extract_size
  have e2 : l.toArray.extract 0 xs.length = l.toArray := by rw [← hl1, ← List.size_toArray]; exact Array.extract_size
  rw [e1, e2] at this
  simpa using this
 have hrel : a0B (fun (x : D) (el : Elt (kinds P e)) => e8O P w S e x el.val) xs l := by
  refine .of_get hl1.symm fun i x el hxi hel j k hk => ?_
  have hi := (f55.1 hxi).1
  have hj := (f55.1 hk).1
  obtain ⟨u, hu, hr⟩ := h4 i j k hi hk
  rw [hsz] at hu
  refine ⟨u, by rw [(hl2 i el hel).1 j hj, hu], ?_⟩
  rw [f51, hxi] at hr
  exact hr
 obtain ⟨ys, hys, hrel'⟩ := d9O hpm hrel
 have hysl : ys.length = xs.length := hys.length_eq
 have hcmp := (a7F (P := P) (e := e) os)
 have heq : ys = c4m P e os xs := by
  refine List.Perm.eq_of_pairwise (le := fun x y => (!ltOf (d1W P e os) y x) = true) ?_ ?_ ?_ (hys.trans (List.mergeSort_perm _ _).symm)
  ·intro a b ha hb g1 g2
   have ha := hys.mem_iff.1 ha
   have hb := (List.mergeSort_perm _ _).mem_iff.1 hb
   refine hx a ha b hb ?_
   have h := hcmp.sym a b
   have h' := hcmp.sym b a
   simp only [ltOf, Bool.not_eq_true', decide_eq_false_iff_not] at g1 g2
   omega
  ·rw [List.pairwise_iff_getElem]
   intro i j hi hj hij
   have hj' : j < d'.size := by omega
   have hi' : i < d'.size := by omega
   have := hsorted i j (Nat.zero_le _) hij (by omega)
   rw [getElem!_pos d' j hj', getElem!_pos d' i hi'] at this
   have a1 := hrel'.get2 (f58 hi) (y := d'[i]) (by simp [hi'])
   have a2 := hrel'.get2 (f58 hj) (y := d'[j]) (by simp [hj'])
   rw [Bool.not_eq_true']
   unfold ltOf at this ⊢
   rw [← d9P a2 a1 os hos]
   exact this
  ·refine List.pairwise_mergeSort ?_ ?_ _
   ·intro a b c g1 g2
    simp only [Bool.not_eq_true'] at g1 g2 ⊢
    exact hcmp.swo.ntrans c b a g2 g1
   ·intro a b
    have h := hcmp.sym a b
    simp only [ltOf, Bool.or_eq_true, Bool.not_eq_true', decide_eq_false_iff_not]
    omega
 subst heq
 have hM : ∀ o, a5M P env [(0, .row e true false xs)] (env 0).blk o := fun o => ⟨0, _, rfl, rfl, rfl, .inl rfl⟩
 have hk : a0O w S w' (Sof P B (a5M P env [(0, .row e true false xs)]) w.heap.size env [(0, .row e true false (c4m P e os xs))] w') := by
  intro b o v hSb hv
  rw [← hS0] at hSb
  obtain ⟨s1, s2, s3⟩ := hSb
  have hne : b ≠ (env 0).blk := fun hb => s3 0 _ rfl ⟨rfl, hb, .inl rfl⟩
  refine ⟨⟨s1, Nat.lt_of_lt_of_le s2 hp.size, fun key ob hg hm => ?_⟩, ?_⟩
  ·obtain ⟨rfl, rfl⟩ := a9D hg
   exact hne hm.2.1
  ·obtain ⟨c, T, fr', q1, q2⟩ := a7e hv
   exact a2r (by rw [hp.other b s2 hne]; exact q1) q2
 refine ⟨_, rfl, env, ⟨rfl, ?_, ?_, ?_, ?_, ?_, hpre.rel.bb, fun _ _ => rfl, hpre.rel.gi⟩, ⟨#[], rfl, trivial⟩⟩
 ·intro k o hg
  obtain ⟨rfl, rfl⟩ := a9D hg
  refine ⟨hsz, .inr ⟨rfl, hbase, cap, cur', by rw [hhdr, hysl], ⟨fr, by rw [c2]; exact hfr, c1⟩, by omega, h2, by rw [c2]; exact h3, fun i j k hi hj => ?_⟩⟩
  have hjl := (f55.1 hj).1
  have a1 := hrel'.get2 (f58 hi) (y := d'[i]'(by omega)) (by simp) j k hj
  obtain ⟨u, hu, hr⟩ := a1
  have hin : i * (kinds P e).length + j < cur.size := by
   obtain ⟨u', hu', _⟩ := h4 i j k (by omega) hj
   rw [hsz] at hu'
   exact (f53.1 hu').1
  refine ⟨u, ?_, ?_⟩
  ·rw [hsz, c3 i (by omega) j hjl hin, getElem!_pos d' i (by omega)]
   exact hu
  ·rw [f51, f58 hi]
   exact hr.mono hk
 ·intro k k' o o' hg hg' _ _ hne
  exact absurd ((a9D hg).1.trans (a9D hg').1.symm) hne
 ·intro k o b' x hg hm
  obtain ⟨rfl, rfl⟩ := a9D hg
  obtain ⟨_, rfl, _⟩ := hm
  exact .inl (hM x)
 ·intro k e' ex ys hg o _
  obtain ⟨rfl, _⟩ := a9D hg
  exact .inr (.inr (hM o))
 ·refine ⟨hp.os, hp.tape, hp.output, hp.size, ?_, ?_⟩
  ·intro b c T fr' hb
   by_cases hbb : b = (env 0).blk
   ·subst hbb
    rw [hheap] at hb
    cases hb
    exact ⟨cur', fr, c1, c2, fun o ho => absurd (hM o) ho, .inl rfl⟩
   ·exact ⟨c, fr', by rw [hp.other b (f53.1 hb).1 hbb]; exact hb, rfl, fun _ _ => rfl, .inl rfl⟩
  ·intro b ob hb hno
   by_cases hbb : b = (env 0).blk
   ·subst hbb; exact absurd (hM 0) (hno 0)
   ·rw [hp.other b (f53.1 hb).1 hbb]; exact hb
theorem c1B {ks : List CK} {os : a4g} {blk : Nat} {d d' : Array (Elt ks)} {w w' : World} {n : Nat} {bs : Array Go.Obj} (hk0 : 0 < ks.length) (hblk : blk < w.heap.size) (h1 : PermIn 0 d.size d d') (h2 : SortedIn (ltOf fun x y : Elt ks => d3Z os x.val y.val) 0 d.size d')
  (hw : w' = sortWorldK (fun x : Elt ks => x.val) ks.length w blk 0 n d' bs) : d1Z os blk d w w' := by
 subst hw
 have hsz : (putRowK (fun x : Elt ks => x.val) ks.length (Sort.ahead w n) blk 0 d').heap.size = w.heap.size := by
  unfold putRowK; rw [Sort.size_putRow]; rfl
 have hat : ∀ b, b < w.heap.size → (sortWorldK (fun x : Elt ks => x.val) ks.length w blk 0 n d' bs).heap[b]? = (putRowK (fun x : Elt ks => x.val) ks.length (Sort.ahead w n) blk 0 d').heap[b]? := fun b hb => by
  unfold sortWorldK grow
  exact Array.getElem?_append_left (by rw [hsz]; exact hb)
 refine ⟨rfl, rfl, rfl, ?_, fun b hb hne => ?_, d', h1, h2, fun cur T fr hc => ?_⟩
 ·unfold sortWorldK grow; rw [Array.size_append, hsz]; omega
 ·rw [hat b hb]
  unfold putRowK putRow mapBlock
  simp only [Array.getElem?_modify, Sort.ahead]
  rw [if_neg (Ne.symm hne)]
 ·refine ⟨putCells id 0 (flatK (fun x : Elt ks => x.val) ks.length d') cur, ?_, by simp [putCells], fun i hi j hj hin => ?_⟩
  ·rw [hat blk hblk]
   unfold putRowK putRow mapBlock
   simp only [Array.getElem?_modify, if_pos, Sort.ahead, hc, f6b, onCells]
  ·have hid : i < d'.size := by rw [h1.1]; exact hi
   have hlt : i * ks.length + j < d'.size * ks.length := by
    have := Nat.mul_le_mul_right ks.length (show i + 1 ≤ d'.size from hid)
    rw [Nat.add_mul, Nat.one_mul] at this
    omega
   unfold putCells
   rw [Array.getElem?_mapIdx, Array.getElem?_eq_getElem hin]
   simp only [f6b, Nat.zero_le, true_and, Nat.zero_add, Nat.sub_zero, size_flatK, id]
   rw [if_pos hlt, get_flatK _ _ _ _ hlt]
   have e1 : (i * ks.length + j) / ks.length = i := (blk_iff _ i _ hk0).1 ⟨by omega, by omega⟩
   have e2 : (i * ks.length + j) % ks.length = j := by rw [Nat.mod_eq_sub_div_mul, e1]; omega
   rw [e1, e2]
   have hvl : (d'[i]!).val.length = ks.length := (d'[i]!).property.length.symm
   rw [List.getElem!_eq_getElem?_getD, f58 (by omega)]
   rfl
def e0k (k k' : Nat) : AL Obj → Option (AL Obj)
 | [(j, .row e ex nl xs)] => bif Nat.beq j k then some [(k', .row e ex nl xs)] else none
 | (j, .box cs) :: r => bif !(Nat.beq j k) && !(Nat.beq j k') && cs.all (fun c => (a4I c).isEmpty) then (match e0k k k' r with | some r' => some ((j, .box cs) :: r') | none => none) else none
 | _ => none
def f4h (k k' : Nat) (r : Res) : Res :=
 match r.1, e0k k k' r.2 with
 | [.c (.o j)], some m => bif Nat.beq j k then ([.c (.o k')], m) else r
 | _, _ => r
def f0J (k k' : Nat) (alts : List (Bool × Res)) : List (Bool × Res) := alts.map fun x => (x.1, f4h k k' x.2)
theorem c63 {k k' : Nat} (hne : k ≠ k') : ∀ {m m' : AL Obj}, e0k k k' m = some m' →
  (∃ e ex nl xs, get m k = some (.row e ex nl xs) ∧ get m' k' = some (.row e ex nl xs)) ∧
  (∀ j ob, get m' j = some ob → j ≠ k' → get m j = some ob ∧ j ≠ k ∧ ∃ cs, ob = .box cs ∧ ∀ c ∈ cs, a4I c = []) ∧
  (∀ j ob, get m j = some ob → j ≠ k → get m' j = some ob ∧ j ≠ k')
 | [], m', h => by simp [e0k] at h
 | (j, .row e ex nl xs) :: [], m', h => by
  simp only [e0k, a0v] at h
  by_cases hj : j = k
  ·subst hj
   simp only [decide_true, AM.cond_true rfl, f5S] at h
   subst h
   refine ⟨⟨e, ex, nl, xs, by simp [get, a0v], by simp [get, a0v]⟩, fun i ob hg hi => ?_, fun i ob hg hi => ?_⟩
   ·exact absurd (a9D hg).1 hi
   ·exact absurd (a9D hg).1 hi
  ·simp [hj] at h
 | (j, .row e ex nl xs) :: y :: r, m', h => by simp [e0k] at h
 | (j, .map _ _ _) :: r, m', h => by simp [e0k] at h
 | (j, .tab _ _ _) :: r, m', h => by simp [e0k] at h
 | (j, .dat _ _) :: r, m', h => by simp [e0k] at h
 | (j, .box cs) :: r, m', h => by
  simp only [e0k, a0v] at h
  cases hc : !(decide (j = k)) && !(decide (j = k')) && cs.all (fun c => (a4I c).isEmpty) with
  | false => rw [hc] at h; cases h
  | true =>
   rw [hc] at h
   simp only [AM.cond_true rfl] at h
   split at h
   ·rename_i r' hr
    simp only [f5S] at h
    subst h
    simp only [f5U, Bool.not_eq_true', decide_eq_false_iff_not] at hc
    obtain ⟨⟨h1, h2⟩, h3⟩ := hc
    obtain ⟨⟨e, ex, nl, xs, g1, g2⟩, g3, g4⟩ := c63 hne hr
    have hcs : ∀ c ∈ cs, a4I c = [] := fun c hc => by
     have := List.all_eq_true.1 h3 c hc
     simpa using this
    refine ⟨⟨e, ex, nl, xs, by simp [get, a0v, h1, g1], by simp [get, a0v, h2, g2]⟩, fun i ob hg hi => ?_, fun i ob hg hi => ?_⟩
    ·simp only [get, a0v] at hg ⊢
     by_cases hji : j = i
     ·subst hji
      simp only [decide_true, AM.cond_true rfl, f5S] at hg ⊢
      exact ⟨hg, h1, cs, hg.symm, hcs⟩
     ·simp only [decide_eq_false hji, AM.cond_false rfl] at hg ⊢
      exact g3 i ob hg hi
    ·simp only [get, a0v] at hg ⊢
     by_cases hji : j = i
     ·subst hji
      simp only [decide_true, AM.cond_true rfl, f5S] at hg ⊢
      exact ⟨hg, h2⟩
     ·simp only [decide_eq_false hji, AM.cond_false rfl] at hg ⊢
      exact g4 i ob hg hi
   ·cases h
theorem d30 {f : FuncId} {args : List V} {mem : AL Obj} {r : Res} {k k' : Nat} (hne : k ≠ k') (hk' : mem.length ≤ k') (h : a1I P f args mem r) : a1I P f args mem (f4h k k' r) := by
 unfold f4h
 split
 case h_2 => exact h
 rename_i j m hr1 hr2
 cases hj : Nat.beq j k with
 | false => exact h
 | true =>
 have hj := f5T hj
 subst hj
 simp only [AM.cond_true rfl]
 obtain ⟨rs, m0⟩ := r
 simp only at hr1 hr2
 subst hr1
 obtain ⟨⟨e, ex, nl, xs, g1, g2⟩, g3, g4⟩ := c63 hne hr2
 intro B env w vs hpre hall
 refine (h B env w vs hpre hall).mono ?_
 rintro en w' ⟨v, he, env', M, hv⟩
 have hu : ∀ i, i ≠ k' → upd env' k' (env' j) i = env' i := fun i hi => by simp [upd, hi]
 have hu' : upd env' k' (env' j) k' = env' j := by simp [upd]
 have hsub : ∀ i ob, get m i = some ob → ∃ i0, get m0 i0 = some ob ∧ upd env' k' (env' j) i = env' i0 ∧ (i = k' → i0 = j) ∧ (i ≠ k' → i0 = i ∧ i ≠ j) := by
  intro i ob hg
  by_cases hi : i = k'
  ·subst hi
   rw [g2] at hg
   exact ⟨j, by rw [g1, hg], hu', fun _ => rfl, fun h => absurd rfl h⟩
  ·obtain ⟨q1, q2, _⟩ := g3 i ob hg hi
   exact ⟨i, q1, hu i hi, fun h => absurd h hi, fun _ => ⟨rfl, q2⟩⟩
 have hk : a0O w' (Sof P B (a5M P env mem) w.heap.size env' m0 w') w' (Sof P B (a5M P env mem) w.heap.size (upd env' k' (env' j)) m w') := by
  intro b o u hS hc
  refine ⟨⟨hS.1, hS.2.1, fun i ob hg hm => ?_⟩, hc⟩
  obtain ⟨i0, q1, q2, _⟩ := hsub i ob hg
  rw [q2] at hm
  exact hS.2.2 i0 ob q1 hm
 refine ⟨v, he, upd env' k' (env' j), ⟨M.hn0, ?_, ?_, ?_, ?_, M.ch, M.bb, ?_, M.gi⟩, ?_⟩
 ·intro i ob hg
  by_cases hi : i = k'
  ·subst hi
   rw [g2] at hg
   cases hg
   rw [hu']
   obtain ⟨o1, o2 | ⟨o2, o3, cap, cur, o4, o5, o6, o7, o8, o9⟩⟩ := M.ob j _ g1
   ·exact ⟨o1, .inl o2⟩
   ·exact ⟨o1, .inr ⟨o2, o3, cap, cur, o4, o5, o6, o7, o8, fun a b c d1 d2 => (let ⟨u, u1, u2⟩ := o9 a b c d1 d2; ⟨u, u1, u2.mono hk⟩)⟩⟩
  ·obtain ⟨q1, q2, cs, rfl, q4⟩ := g3 i ob hg hi
   rw [hu i hi]
   obtain ⟨cur, T, c1, c2, c3, c4⟩ := M.ob i _ q1
   exact ⟨cur, T, c1, c2, c3.mono fun x y hx => a0x.mono hk fun a ha => (by rw [q4 x hx] at ha; cases ha), c4⟩
 ·intro i i' o o' hg hg' hr hr' hii
  obtain ⟨a, a1, a2, a3, a4⟩ := hsub i o hg
  obtain ⟨a', b1, b2, b3, b4⟩ := hsub i' o' hg'
  rw [a2, b2]
  refine M.ds a a' o o' a1 b1 hr hr' ?_
  by_cases h1 : i = k'
  ·by_cases h2 : i' = k'
   ·exact absurd (h1.trans h2.symm) hii
   ·rw [a3 h1, (b4 h2).1]; exact fun h => (b4 h2).2 h.symm
  ·by_cases h2 : i' = k'
   ·rw [b3 h2, (a4 h1).1]; exact (a4 h1).2
   ·rw [(a4 h1).1, (b4 h2).1]; exact hii
 ·intro i o b x hg hm
  obtain ⟨a, a1, a2, _⟩ := hsub i o hg
  rw [a2] at hm
  exact M.mu a o b x a1 hm
 ·intro i e' ex' ys hg o ho
  obtain ⟨a, a1, a2, _⟩ := hsub i _ hg
  rw [a2]
  exact M.pr a e' ex' ys a1 o ho
 ·intro i hi
  rw [hu i (by omega)]
  exact M.fx i hi
 ·have hv : v = (env' j).hdr := hv
  show v = (upd env' k' (env' j) k').hdr
  rw [hu']
  exact hv
theorem d10 {k k' : Nat} : ∀ {alts : List (Bool × Res)} {x : Res}, a5f (f0J k k' alts) some = some x → ∃ y, a5f alts some = some y ∧ x = f4h k k' y
 | [], x, h => by cases h
 | (c, y) :: r, x, h => by
  simp only [f0J, List.map_cons, a5f] at h ⊢
  cases c with
  | true => simp only [AM.cond_true rfl, f5S] at h ⊢; exact ⟨y, rfl, h.symm⟩
  | false => simp only [AM.cond_false rfl] at h ⊢; exact d10 h
end
theorem Sg.fnR {P : Program} {cl : a0f} {kb f : Nat} (s : Sg P kb f) {sh : Sh} {A : List Lf → List (Bool × Res)} (k k' : Nat) (hne : Nat.beq k k' = false) (hkb : Nat.ble kb k' = true) (hP : a6B P) (hcl : a0b P cl) (h : ∀ L x, a5f (A L) some = some x → bd P cl s.h f sh L = some x) (hk : ∀ L, (a0p sh L).mem.length = kb := by intro L; rfl) : a0V P f sh fun L => f0J k k' (A L) :=
 a1h fun L x hx => (let ⟨y, h1, h2⟩ := d10 hx; h2 ▸ d30 (fun he => by rw [he, Nat.beq_refl] at hne; cases hne) (by rw [hk L]; exact f54 hkb) (a3p (n := 200) hP hcl s.ok (hk L) (h L y h1)))
def bdK (P : Program) (cl : a0f) (h : b0U) (kb : Nat) (f : FuncId) (sh : Sh) (L : List Lf) : Option Res :=
 match P.funcs[f]? with
 | none => none
 | some fn => match fn.body with
  | none => none
  | some c => a68 P cl h kb 200 c { tmps := params 0 (a5P (a0p sh L).tmps), mem := (a0p sh L).mem } fun e st => match e with
   | .exit _ => none
   | _ => c0g P fn h.rows kb st
theorem f0I {P : Program} {cl : a0f} {h : b0U} {f : FuncId} {sh : Sh} {L : List Lf} (kb : Nat) (hk : (a0p sh L).mem.length = kb) : bd P cl h f sh L = bdK P cl h kb f sh L := by
 subst hk
 rfl
end Go.AM

set_option linter.unusedVariables false
set_option linter.unusedSimpArgs false
set_option maxRecDepth 100000
namespace Go.Proofs.YtfkkcdapcgimlaaGreatDoor
open Go Go.AM
theorem a0e : a6B Tryz.prog := d5a (by kernel_rfl)
open Go.RowKit Go.Sort Go.Lib in
open Go.RowKit Go.Sort Go.Lib in
open Go.RowKit Go.Sort Go.Lib in
open Go.RowKit Go.Sort Go.Lib in
def Tryz.lays156_ren : Go.Shelf.Ren := ⟨fun | 156 => 142 | 165 => 168 | 166 => 169 | 169 => 170 | 240 => 195 | 241 => 196 | 276 => 218 | 277 => 219 | n => n, fun | 31 => 38 | 9 => 9 | 3 => 3 | 4 => 4 | 0 => 0 | 20 => 20 | 72 => 204 | 76 => 200 | 70 => 202 | 37 => 197 | 75 => 199 | 127 => 223 | 164 => 254 | 5 => 5 | 80 => 160 | n => n, fun | n => n⟩
theorem Tryz.lays156 : Go.Proofs.Lays.n156 Tryz.prog Tryz.lays156_ren := {
 mixed := by kernel_rfl
 f156 := Tryz.func142.trans (congrArg some (by kernel_rfl))
 f165 := Tryz.func168.trans (congrArg some (by kernel_rfl))
 f166 := Tryz.func169.trans (congrArg some (by kernel_rfl))
 f169 := Tryz.func170.trans (congrArg some (by kernel_rfl))
 f240 := Tryz.func195.trans (congrArg some (by kernel_rfl))
 f241 := Tryz.func196.trans (congrArg some (by kernel_rfl))
 f276 := Tryz.func218.trans (congrArg some (by kernel_rfl))
 f277 := Tryz.func219.trans (congrArg some (by kernel_rfl))
 t0 := Tryz.underlying0
 a0 := Tryz.isAgg0
 z0 := Tryz.sizeOf0
 v0 := Tryz.zeroValue0
 t3 := Tryz.underlying3
 a3 := Tryz.isAgg3
 z3 := Tryz.sizeOf3
 v3 := Tryz.zeroValue3
 t4 := Tryz.underlying4
 a4 := Tryz.isAgg4
 z4 := Tryz.sizeOf4
 v4 := Tryz.zeroValue4
 t9 := Tryz.underlying9
 a9 := Tryz.isAgg9
 z9 := Tryz.sizeOf9
 v9 := Tryz.zeroValue9
 t20 := Tryz.underlying20
 a20 := Tryz.isAgg20
 z20 := Tryz.sizeOf20
 v20 := Tryz.zeroValue20
 t31 := Tryz.underlying38
 a31 := Tryz.isAgg38
 z31 := Tryz.sizeOf38
 v31 := Tryz.zeroValue38
 t37 := Tryz.underlying197
 a37 := Tryz.isAgg197
 z37 := Tryz.sizeOf197
 v37 := Tryz.zeroValue197
 t70 := Tryz.underlying202
 a70 := Tryz.isAgg202
 z70 := Tryz.sizeOf202
 v70 := Tryz.zeroValue202
 t72 := Tryz.underlying204
 a72 := Tryz.isAgg204
 z72 := Tryz.sizeOf204
 v72 := Tryz.zeroValue204
 t75 := Tryz.underlying199
 a75 := Tryz.isAgg199
 z75 := Tryz.sizeOf199
 v75 := Tryz.zeroValue199
 t76 := Tryz.underlying200
 a76 := Tryz.isAgg200
 z76 := Tryz.sizeOf200
 v76 := Tryz.zeroValue200
 t127 := Tryz.underlying223
 a127 := Tryz.isAgg223
 z127 := Tryz.sizeOf223
 v127 := Tryz.zeroValue223
 t164 := Tryz.underlying254
 a164 := Tryz.isAgg254
 z164 := Tryz.sizeOf254
 v164 := Tryz.zeroValue254 }
theorem Tryz.Builder_Extra_156 : Builder.Extra Tryz.prog Tryz.lays156_ren := {
 sizeBuilder := by kernel_rfl
 liesBuilder := by kernel_rfl
 t5 := Tryz.underlying5
 a5 := Tryz.isAgg5
 z5 := Tryz.sizeOf5
 v5 := Tryz.zeroValue5
 infoByte := by kernel_rfl
 cellsByte := by kernel_rfl
 sizeByte := by kernel_rfl
 neB5 := by decide }
open Go.RowKit Go.Sort Go.Lib in
theorem Tryz.strings_Join_none (a : Option Addr) (c : Nat) (sep : ByteArray) (w : World) :
  Calls Tryz.prog 142 #[.slice a 0 c, .string sep] w fun e w' => e = .returned (.string ⟨#[]⟩) ∧ w' = w := Any.strings_Join_none Tryz.lays156 Tryz.Builder_Extra_156 a c sep w
open Go.RowKit Go.Sort Go.Lib in
theorem Tryz.strings_Join (bk o c : Nat) (xs : List ByteArray) (sep : ByteArray) (w : World) (hcells : ∀ (j : Nat) x, xs[j]? = some x → w.cell? ⟨bk, o + j, none⟩ = some (.string x)) (hbk : bk < w.heap.size) (hN : xs.length ≤ 140737488355328) (hcap : xs.length ≤ c) (hlen : (Lib.join (xs.map (·.data.toList)) sep.data.toList).length ≤ 140737488355328) :
  Calls Tryz.prog 142 #[.slice (some ⟨bk, o, none⟩) xs.length c, .string sep] w fun e w' => e = .returned (.string ⟨(Lib.join (xs.map (·.data.toList)) sep.data.toList).toArray⟩) ∧ Below w.heap.size w w' := Any.strings_Join Tryz.lays156 Tryz.Builder_Extra_156 bk o c xs sep w hcells hbk hN hcap hlen
end Go.Proofs.YtfkkcdapcgimlaaGreatDoor

set_option linter.unusedVariables false
set_option linter.unusedSimpArgs false
set_option maxRecDepth 100000
namespace Go.Proofs.YtfkkcdapcgimlaaGreatDoor
open Go Go.AM Go.Shelf Go.Sort Go.RowKit
def Tryz.sortRow_ren : Go.Shelf.Ren := ⟨fun | 6 => 102 | 15 => 82 | 14 => 147 | 28 => 125 | 29 => 126 | 20 => 175 | 21 => 176 | 22 => 177 | 23 => 178 | 24 => 179 | 25 => 180 | 26 => 181 | 27 => 182 | 46 => 207 | 47 => 158 | 48 => 159 | 49 => 208 | 50 => 209 | 57 => 230 | n => n, fun | 22 => 28 | 24 => 40 | 25 => 111 | 3 => 3 | 39 => 131 | 0 => 0 | 53 => 157 | 55 => 159 | 4 => 4 | 46 => 150 | 45 => 149 | 50 => 154 | 5 => 5 | 9 => 9 | 66 => 190 | 70 => 194 | 76 => 217 | 77 => 218 | n => n, fun | n => n⟩
theorem Tryz.sortRow : Go.Proofs.SlLaysF0.n6 Tryz.prog Tryz.sortRow_ren := {
 mixed := by kernel_rfl
 f6 := ⟨Tryz.f102.name, by decide, Tryz.func102.trans (congrArg some (by kernel_rfl))⟩
 f14 := ⟨Tryz.f147.name, by decide, Tryz.func147.trans (congrArg some (by kernel_rfl))⟩
 f15 := Tryz.func82.trans (congrArg some (by kernel_rfl))
 f20 := ⟨Tryz.f175.name, by decide, Tryz.func175.trans (congrArg some (by kernel_rfl))⟩
 f21 := ⟨Tryz.f176.name, by decide, Tryz.func176.trans (congrArg some (by kernel_rfl))⟩
 f22 := ⟨Tryz.f177.name, by decide, Tryz.func177.trans (congrArg some (by kernel_rfl))⟩
 f23 := ⟨Tryz.f178.name, by decide, Tryz.func178.trans (congrArg some (by kernel_rfl))⟩
 f24 := ⟨Tryz.f179.name, by decide, Tryz.func179.trans (congrArg some (by kernel_rfl))⟩
 f25 := ⟨Tryz.f180.name, by decide, Tryz.func180.trans (congrArg some (by kernel_rfl))⟩
 f26 := ⟨Tryz.f181.name, by decide, Tryz.func181.trans (congrArg some (by kernel_rfl))⟩
 f27 := ⟨Tryz.f182.name, by decide, Tryz.func182.trans (congrArg some (by kernel_rfl))⟩
 f28 := Tryz.func125.trans (congrArg some (by kernel_rfl))
 f29 := Tryz.func126.trans (congrArg some (by kernel_rfl))
 f46 := ⟨Tryz.f207.name, by decide, Tryz.func207.trans (congrArg some (by kernel_rfl))⟩
 f47 := Tryz.func158.trans (congrArg some (by kernel_rfl))
 f48 := Tryz.func159.trans (congrArg some (by kernel_rfl))
 f49 := ⟨Tryz.f208.name, by decide, Tryz.func208.trans (congrArg some (by kernel_rfl))⟩
 f50 := ⟨Tryz.f209.name, by decide, Tryz.func209.trans (congrArg some (by kernel_rfl))⟩
 f57 := ⟨Tryz.f230.name, by decide, Tryz.func230.trans (congrArg some (by kernel_rfl))⟩
 t0 := Tryz.underlying0
 a0 := Tryz.isAgg0
 z0 := Tryz.sizeOf0
 v0 := Tryz.zeroValue0
 t3 := Tryz.underlying3
 a3 := Tryz.isAgg3
 z3 := Tryz.sizeOf3
 v3 := Tryz.zeroValue3
 t4 := Tryz.underlying4
 a4 := Tryz.isAgg4
 z4 := Tryz.sizeOf4
 v4 := Tryz.zeroValue4
 t5 := Tryz.underlying5
 a5 := Tryz.isAgg5
 z5 := Tryz.sizeOf5
 v5 := Tryz.zeroValue5
 t9 := Tryz.underlying9
 a9 := Tryz.isAgg9
 z9 := Tryz.sizeOf9
 v9 := Tryz.zeroValue9
 t22 := Tryz.underlying28
 a22 := Tryz.isAgg28
 z22 := Tryz.sizeOf28
 v22 := Tryz.zeroValue28
 t25 := Tryz.underlying111
 a25 := Tryz.isAgg111
 z25 := Tryz.sizeOf111
 v25 := Tryz.zeroValue111
 t39 := Tryz.underlying131
 a39 := Tryz.isAgg131
 z39 := Tryz.sizeOf131
 v39 := Tryz.zeroValue131
 t45 := Tryz.underlying149
 a45 := Tryz.isAgg149
 z45 := Tryz.sizeOf149
 v45 := Tryz.zeroValue149
 t46 := Tryz.underlying150
 a46 := Tryz.isAgg150
 z46 := Tryz.sizeOf150
 v46 := Tryz.zeroValue150
 t50 := Tryz.underlying154
 a50 := Tryz.isAgg154
 z50 := Tryz.sizeOf154
 v50 := Tryz.zeroValue154
 t53 := Tryz.underlying157
 a53 := Tryz.isAgg157
 z53 := Tryz.sizeOf157
 v53 := Tryz.zeroValue157
 t55 := Tryz.underlying159
 a55 := Tryz.isAgg159
 z55 := Tryz.sizeOf159
 v55 := Tryz.zeroValue159
 t66 := Tryz.underlying190
 a66 := Tryz.isAgg190
 z66 := Tryz.sizeOf190
 v66 := Tryz.zeroValue190
 t70 := Tryz.underlying194
 a70 := Tryz.isAgg194
 z70 := Tryz.sizeOf194
 v70 := Tryz.zeroValue194
 t76 := Tryz.underlying217
 a76 := Tryz.isAgg217
 z76 := Tryz.sizeOf217
 v76 := Tryz.zeroValue217
 t77 := Tryz.underlying218
 a77 := Tryz.isAgg218
 z77 := Tryz.sizeOf218
 v77 := Tryz.zeroValue218 }
def Tryz.sortEarned_ren : Go.Shelf.Ren := ⟨fun | 6 => 68 | 15 => 82 | 14 => 105 | 28 => 125 | 29 => 126 | 20 => 148 | 21 => 149 | 22 => 150 | 23 => 151 | 24 => 152 | 25 => 153 | 26 => 154 | 27 => 155 | 46 => 183 | 47 => 158 | 48 => 159 | 49 => 184 | 50 => 185 | 57 => 210 | n => n, fun | 22 => 43 | 24 => 47 | 25 => 115 | 3 => 3 | 39 => 131 | 0 => 0 | 53 => 157 | 55 => 159 | 4 => 4 | 46 => 150 | 45 => 149 | 50 => 154 | 5 => 5 | 9 => 9 | 66 => 190 | 70 => 194 | 76 => 217 | 77 => 218 | n => n, fun | n => n⟩
theorem Tryz.sortEarned : Go.Proofs.SlLaysF0.n6 Tryz.prog Tryz.sortEarned_ren := {
 mixed := by kernel_rfl
 f6 := ⟨Tryz.f68.name, by decide, Tryz.func68.trans (congrArg some (by kernel_rfl))⟩
 f14 := ⟨Tryz.f105.name, by decide, Tryz.func105.trans (congrArg some (by kernel_rfl))⟩
 f15 := Tryz.func82.trans (congrArg some (by kernel_rfl))
 f20 := ⟨Tryz.f148.name, by decide, Tryz.func148.trans (congrArg some (by kernel_rfl))⟩
 f21 := ⟨Tryz.f149.name, by decide, Tryz.func149.trans (congrArg some (by kernel_rfl))⟩
 f22 := ⟨Tryz.f150.name, by decide, Tryz.func150.trans (congrArg some (by kernel_rfl))⟩
 f23 := ⟨Tryz.f151.name, by decide, Tryz.func151.trans (congrArg some (by kernel_rfl))⟩
 f24 := ⟨Tryz.f152.name, by decide, Tryz.func152.trans (congrArg some (by kernel_rfl))⟩
 f25 := ⟨Tryz.f153.name, by decide, Tryz.func153.trans (congrArg some (by kernel_rfl))⟩
 f26 := ⟨Tryz.f154.name, by decide, Tryz.func154.trans (congrArg some (by kernel_rfl))⟩
 f27 := ⟨Tryz.f155.name, by decide, Tryz.func155.trans (congrArg some (by kernel_rfl))⟩
 f28 := Tryz.func125.trans (congrArg some (by kernel_rfl))
 f29 := Tryz.func126.trans (congrArg some (by kernel_rfl))
 f46 := ⟨Tryz.f183.name, by decide, Tryz.func183.trans (congrArg some (by kernel_rfl))⟩
 f47 := Tryz.func158.trans (congrArg some (by kernel_rfl))
 f48 := Tryz.func159.trans (congrArg some (by kernel_rfl))
 f49 := ⟨Tryz.f184.name, by decide, Tryz.func184.trans (congrArg some (by kernel_rfl))⟩
 f50 := ⟨Tryz.f185.name, by decide, Tryz.func185.trans (congrArg some (by kernel_rfl))⟩
 f57 := ⟨Tryz.f210.name, by decide, Tryz.func210.trans (congrArg some (by kernel_rfl))⟩
 t0 := Tryz.underlying0
 a0 := Tryz.isAgg0
 z0 := Tryz.sizeOf0
 v0 := Tryz.zeroValue0
 t3 := Tryz.underlying3
 a3 := Tryz.isAgg3
 z3 := Tryz.sizeOf3
 v3 := Tryz.zeroValue3
 t4 := Tryz.underlying4
 a4 := Tryz.isAgg4
 z4 := Tryz.sizeOf4
 v4 := Tryz.zeroValue4
 t5 := Tryz.underlying5
 a5 := Tryz.isAgg5
 z5 := Tryz.sizeOf5
 v5 := Tryz.zeroValue5
 t9 := Tryz.underlying9
 a9 := Tryz.isAgg9
 z9 := Tryz.sizeOf9
 v9 := Tryz.zeroValue9
 t22 := Tryz.underlying43
 a22 := Tryz.isAgg43
 z22 := Tryz.sizeOf43
 v22 := Tryz.zeroValue43
 t25 := Tryz.underlying115
 a25 := Tryz.isAgg115
 z25 := Tryz.sizeOf115
 v25 := Tryz.zeroValue115
 t39 := Tryz.underlying131
 a39 := Tryz.isAgg131
 z39 := Tryz.sizeOf131
 v39 := Tryz.zeroValue131
 t45 := Tryz.underlying149
 a45 := Tryz.isAgg149
 z45 := Tryz.sizeOf149
 v45 := Tryz.zeroValue149
 t46 := Tryz.underlying150
 a46 := Tryz.isAgg150
 z46 := Tryz.sizeOf150
 v46 := Tryz.zeroValue150
 t50 := Tryz.underlying154
 a50 := Tryz.isAgg154
 z50 := Tryz.sizeOf154
 v50 := Tryz.zeroValue154
 t53 := Tryz.underlying157
 a53 := Tryz.isAgg157
 z53 := Tryz.sizeOf157
 v53 := Tryz.zeroValue157
 t55 := Tryz.underlying159
 a55 := Tryz.isAgg159
 z55 := Tryz.sizeOf159
 v55 := Tryz.zeroValue159
 t66 := Tryz.underlying190
 a66 := Tryz.isAgg190
 z66 := Tryz.sizeOf190
 v66 := Tryz.zeroValue190
 t70 := Tryz.underlying194
 a70 := Tryz.isAgg194
 z70 := Tryz.sizeOf194
 v70 := Tryz.zeroValue194
 t76 := Tryz.underlying217
 a76 := Tryz.isAgg217
 z76 := Tryz.sizeOf217
 v76 := Tryz.zeroValue217
 t77 := Tryz.underlying218
 a77 := Tryz.isAgg218
 z77 := Tryz.sizeOf218
 v77 := Tryz.zeroValue218 }
def Tryz.cmpInt_ren : Go.Shelf.Ren := ⟨fun | 5 => 48 | 7 => 83 | n => n, fun | 22 => 3 | 3 => 3 | 4 => 4 | n => n, fun | n => n⟩
theorem Tryz.cmpInt : Go.Proofs.SlLaysC2.n5 Tryz.prog Tryz.cmpInt_ren := {
 mixed := by kernel_rfl
 f5 := ⟨Tryz.f48.name, by decide, Tryz.func48.trans (congrArg some (by kernel_rfl))⟩
 f7 := ⟨Tryz.f83.name, by decide, Tryz.func83.trans (congrArg some (by kernel_rfl))⟩
 t3 := Tryz.underlying3
 a3 := Tryz.isAgg3
 z3 := Tryz.sizeOf3
 v3 := Tryz.zeroValue3
 t4 := Tryz.underlying4
 a4 := Tryz.isAgg4
 z4 := Tryz.sizeOf4
 v4 := Tryz.zeroValue4
 t22 := Tryz.underlying3
 a22 := Tryz.isAgg3
 z22 := Tryz.sizeOf3
 v22 := Tryz.zeroValue3 }
def Tryz.lays106_ren : Go.Shelf.Ren := ⟨fun | 106 => 49 | 213 => 84 | 265 => 127 | n => n, fun | 9 => 9 | 3 => 3 | n => n, fun | n => n⟩
theorem Tryz.lays106 : Go.Proofs.Lays.n106 Tryz.prog Tryz.lays106_ren := {
 mixed := by kernel_rfl
 f106 := Tryz.func49.trans (congrArg some (by kernel_rfl))
 f213 := Tryz.func84.trans (congrArg some (by kernel_rfl))
 f265 := Tryz.func127.trans (congrArg some (by kernel_rfl))
 t3 := Tryz.underlying3
 a3 := Tryz.isAgg3
 z3 := Tryz.sizeOf3
 v3 := Tryz.zeroValue3
 t9 := Tryz.underlying9
 a9 := Tryz.isAgg9
 z9 := Tryz.sizeOf9
 v9 := Tryz.zeroValue9 }
theorem e3A (b : Nat) (x y : Int) (w : World) (h0 : w.cell? ⟨b, 0, none⟩ = some (.int .i64 x)) (h1 : w.cell? ⟨b, 1, none⟩ = some (.int .i64 y)) :
  Calls Tryz.prog 47 #[.slice (some ⟨b, 0, none⟩) 2 2] w fun e w' => e = .returned (.int .i64 (lex x y)) ∧ w' = w := by
 have e1 : ∀ z u : Int, (z != 0) = true → lex z u = z := fun z u h => by unfold lex; rw [if_neg (by simpa using h)]
 have e2 : ∀ z u : Int, (z != 0) = false → lex z u = u := fun z u h => by unfold lex; rw [if_pos (by simpa using h)]
 generalize hl : lex x y = l
 go_enter Tryz.func47, Tryz.ntmps47
 go_wp2
 refine wp_loop_rounds 3 ?_
 rw [rounds_succ]
 go_wp2
 ·go_ret
  have : l = x := by rw [← hl, e1 _ _ ‹(x != 0) = true›]
  subst this
  exact ⟨rfl, rfl⟩
 rw [rounds_succ]
 go_wp2
 ·go_ret
  have : l = y := by rw [← hl, e2 _ _ ‹(x != 0) = false›]
  subst this
  exact ⟨rfl, rfl⟩
 rw [rounds_succ]
 go_wp2
 go_ret
 have : l = 0 := by rw [← hl, e2 _ _ ‹(x != 0) = false›]; simpa using ‹(y != 0) = false›
 subst this
 exact ⟨rfl, rfl⟩
theorem d31 (b : Nat) (x y z : Int) (w : World) (h0 : w.cell? ⟨b, 0, none⟩ = some (.int .i64 x)) (h1 : w.cell? ⟨b, 1, none⟩ = some (.int .i64 y)) (h2 : w.cell? ⟨b, 2, none⟩ = some (.int .i64 z)) :
  Calls Tryz.prog 47 #[.slice (some ⟨b, 0, none⟩) 3 3] w fun e w' => e = .returned (.int .i64 (lex x (lex y z))) ∧ w' = w := by
 have e1 : ∀ z u : Int, (z != 0) = true → lex z u = z := fun z u h => by unfold lex; rw [if_neg (by simpa using h)]
 have e2 : ∀ z u : Int, (z != 0) = false → lex z u = u := fun z u h => by unfold lex; rw [if_pos (by simpa using h)]
 generalize hl : lex x (lex y z) = l
 go_enter Tryz.func47, Tryz.ntmps47
 go_wp2
 refine wp_loop_rounds 4 ?_
 rw [rounds_succ]
 go_wp2
 ·go_ret
  have : l = x := by rw [← hl, e1 _ _ ‹(x != 0) = true›]
  subst this
  exact ⟨rfl, rfl⟩
 rw [rounds_succ]
 go_wp2
 ·go_ret
  have : l = y := by rw [← hl, e2 _ _ ‹(x != 0) = false›, e1 _ _ ‹(y != 0) = true›]
  subst this
  exact ⟨rfl, rfl⟩
 rw [rounds_succ]
 go_wp2
 ·go_ret
  have : l = z := by rw [← hl, e2 _ _ ‹(x != 0) = false›, e2 _ _ ‹(y != 0) = false›]
  subst this
  exact ⟨rfl, rfl⟩
 rw [rounds_succ]
 go_wp2
 go_ret
 have : l = 0 := by rw [← hl, e2 _ _ ‹(x != 0) = false›, e2 _ _ ‹(y != 0) = false›]; simpa using ‹(z != 0) = false›
 subst this
 exact ⟨rfl, rfl⟩
theorem c64 (W : World) (a b : Array Value) (S T : TypeId) : (∀ (j : Nat) v, a[j]? = some v → (World.drew ((W.alloc (.cells a S)).alloc (.cells b T))).cell? ⟨W.heap.size, j, none⟩ = some v) ∧ (∀ (j : Nat) v, b[j]? = some v → (World.drew ((W.alloc (.cells a S)).alloc (.cells b T))).cell? ⟨W.heap.size + 1, j, none⟩ = some v) := by
 refine ⟨fun j v h => ?_, fun j v h => ?_⟩
 ·have : (World.drew ((W.alloc (.cells a S)).alloc (.cells b T))).heap[W.heap.size]? = some (.cells a S) := by
   show ((W.heap.push _).push _)[W.heap.size]? = _
   simp [Array.getElem?_push]
  exact a2r this h
 ·have : (World.drew ((W.alloc (.cells a S)).alloc (.cells b T))).heap[W.heap.size + 1]? = some (.cells b T) := by
   show ((W.heap.push _).push _)[W.heap.size + 1]? = _
   rw [Array.getElem?_push, if_pos (by simp)]
  exact a2r this h
set_option maxHeartbeats 1000000 in
theorem f4M (x0 : ByteArray) (x1 : Int) (x2 : Int) (x3 : Int) (x4 : Int) (x5 : Int) (x6 : Int) (x7 : Value) (y0 : ByteArray) (y1 : Int) (y2 : Int) (y3 : Int) (y4 : Int) (y5 : Int) (y6 : Int) (y7 : Value) (W : World) :
  Calls Tryz.prog 66 #[.agg #[.string x0, .int .i64 x1, .int .i64 x2, .int .i64 x3, .int .i64 x4, .int .i64 x5, .int .i64 x6, x7], .agg #[.string y0, .int .i64 y1, .int .i64 y2, .int .i64 y3, .int .i64 y4, .int .i64 y5, .int .i64 y6, y7]] W fun e w' =>
   e = .returned (.int .i64 (lex (Lib.compareInt x2 y2) (Lib.compareBytes x0.data.toList y0.data.toList))) ∧ ∃ q os', w' = grow (W.drewN q) os' := by
 have c0 := fun W' => AnyG.cmp_Compare_int Tryz.cmpInt x2 y2 W'
 change ∀ W', Calls Tryz.prog 48 _ _ _ at c0
 have c1 := fun W' => Any.strings_Compare Tryz.lays106 x0 y0 W'
 change ∀ W', Calls Tryz.prog 49 _ _ _ at c1
 generalize Lib.compareInt x2 y2 = r0 at c0 ⊢
 generalize Lib.compareBytes x0.data.toList y0.data.toList = r1 at c1 ⊢
 go_enter Tryz.func66, Tryz.ntmps66
 go_wp2_with fail
 refine wp_region_still_tail 10 (by kernel_rfl) (by kernel_rfl) ?_
 simp only [List.take_succ_cons, List.take_zero, List.drop_succ_cons, List.drop_zero]
 change wpStill _ _ (World.drew ((W.alloc _).alloc _)) (fun a' => wpList _ _ _ _ a' (World.drew ((W.alloc _).alloc _))) _ _
 have hh := c64 W #[.string x0, .int .i64 x1, .int .i64 x2, .int .i64 x3, .int .i64 x4, .int .i64 x5, .int .i64 x6, x7] #[.string y0, .int .i64 y1, .int .i64 y2, .int .i64 y3, .int .i64 y4, .int .i64 y5, .int .i64 y6, y7] 40 40
 have hg : ∃ q os, World.drew ((W.alloc (.cells #[.string x0, .int .i64 x1, .int .i64 x2, .int .i64 x3, .int .i64 x4, .int .i64 x5, .int .i64 x6, x7] 40)).alloc (.cells #[.string y0, .int .i64 y1, .int .i64 y2, .int .i64 y3, .int .i64 y4, .int .i64 y5, .int .i64 y6, y7] 40)) = grow (W.drewN q) os := ⟨1, _, by rw [alloc_eq_grow, alloc_eq_grow, grow_grow]; rfl⟩
 generalize hW : World.drew ((W.alloc (.cells #[.string x0, .int .i64 x1, .int .i64 x2, .int .i64 x3, .int .i64 x4, .int .i64 x5, .int .i64 x6, x7] 40)).alloc (.cells #[.string y0, .int .i64 y1, .int .i64 y2, .int .i64 y3, .int .i64 y4, .int .i64 y5, .int .i64 y6, y7] 40)) = W2 at *
 have a2 := hh.1 2 _ rfl
 have b2 := hh.2 2 _ rfl
 have a0 := hh.1 0 _ rfl
 have b0 := hh.2 0 _ rfl
 still_step
 still_step
 still_step
 still_step
 still_call (c0 _)
 still_step
 still_step
 still_step
 still_step
 still_call (c1 _)
 refine wpStill_nil ?_
 clear hW hh
 have hb : ∀ v : Array Value, ∀ T, (W2.alloc (.cells v T)).heap[W2.heap.size]? = some (.cells v T) := fun v T => by
  show (W2.heap.push _)[W2.heap.size]? = _
  rw [Array.getElem?_push, if_pos rfl]
 have d0 : ∀ T, (W2.alloc (.cells #[.int .i64 r0, .int .i64 r1] T)).cell? ⟨W2.heap.size, 0, none⟩ = some (.int .i64 r0) := fun T => a2r (hb _ T) rfl
 have d1 : ∀ T, (W2.alloc (.cells #[.int .i64 r0, .int .i64 r1] T)).cell? ⟨W2.heap.size, 1, none⟩ = some (.int .i64 r1) := fun T => a2r (hb _ T) rfl
 have c := fun T => e3A W2.heap.size r0 r1 _ (d0 T) (d1 T)
 obtain ⟨q, os, hW2⟩ := hg
 have hend : ∀ T, ∃ q os', W2.alloc (.cells #[.int .i64 r0, .int .i64 r1] T) = grow (W.drewN q) os' := fun T => ⟨q, _, by rw [alloc_eq_grow, hW2, grow_grow]⟩
 clear hW2 hb d0 d1 a2 b2 a0 b0 c0 c1
 go_wp2_with (go_at_call 47; refine (c _).mono ?_; rintro e w' ⟨rfl, rfl⟩)
 go_ret
 exact ⟨rfl, hend _⟩
def a9E : a4g := [(2, false), (0, true)]
theorem c4n : kinds Tryz.prog 40 = [.str, .int .i64, .int .i64, .int .i64, .int .i64, .int .i64, .int .i64, .sl 9] := by kernel_rfl
theorem f3x (x y : Elt (kinds Tryz.prog 40)) (W : World) : Calls Tryz.prog 66 #[.agg x.val.toArray, .agg y.val.toArray] W fun e w' => e = .returned (.int .i64 (d3Z a9E x.val y.val)) ∧ ∃ q os', w' = grow (W.drewN q) os' := by
 obtain ⟨x, hx⟩ := x
 obtain ⟨y, hy⟩ := y
 rw [c4n] at hx hy
 simp only
 match x, hx with
 | [x0, x1, x2, x3, x4, x5, x6, x7], hx =>
 obtain ⟨hx0, hx1, hx2, hx3, hx4, hx5, hx6, hx7, _⟩ := hx
 obtain ⟨x0, rfl⟩ := hx0
 obtain ⟨x1, rfl⟩ := hx1
 obtain ⟨x2, rfl⟩ := hx2
 obtain ⟨x3, rfl⟩ := hx3
 obtain ⟨x4, rfl⟩ := hx4
 obtain ⟨x5, rfl⟩ := hx5
 obtain ⟨x6, rfl⟩ := hx6
 match y, hy with
 | [y0, y1, y2, y3, y4, y5, y6, y7], hy =>
 obtain ⟨hy0, hy1, hy2, hy3, hy4, hy5, hy6, hy7, _⟩ := hy
 obtain ⟨y0, rfl⟩ := hy0
 obtain ⟨y1, rfl⟩ := hy1
 obtain ⟨y2, rfl⟩ := hy2
 obtain ⟨y3, rfl⟩ := hy3
 obtain ⟨y4, rfl⟩ := hy4
 obtain ⟨y5, rfl⟩ := hy5
 obtain ⟨y6, rfl⟩ := hy6
 refine (f4M x0 x1 x2 x3 x4 x5 x6 x7 y0 y1 y2 y3 y4 y5 y6 y7 W).mono fun e w' h => ⟨?_, h.2⟩
 rw [h.1]
 simp only [a9E, d3Z, List.getD_cons_zero, List.getD_cons_succ, vI, vS, lex, f5W, f5X]
 (try rfl)
 repeat' split
 all_goals first | rfl | simp_all
noncomputable def a0C (xs : List D) : List D := c4m Tryz.prog 40 a9E xs
noncomputable def b0c (xs : List D) : Bool := d1X Tryz.prog 40 a9E xs && Nat.blt xs.length 4611686018427387904
noncomputable def c5S : Sh := { tmps := [(0, .c (.o 0)), (1, .c (.f 66 []))], mem := [(0, .row 40 true)] }
noncomputable def c2I (L : List Lf) : List (Bool × Res) := [(b0c (ll L 1), ([], [(0, .row 40 true (lb L 0) (a0C (ll L 1)))]))]
theorem d3d : a0V Tryz.prog 102 c5S c2I := by
 refine a1h fun L x hx => ?_
 show a1I Tryz.prog 102 [.c (.o 0), .c (.f 66 [])] [(0, .row 40 true (lb L 0) (ll L 1))] x
 unfold c2I at hx
 cases hc : b0c (ll L 1) with
 | false => rw [hc] at hx; cases hx
 | true =>
 rw [hc] at hx
 have hx : some (([], [(0, .row 40 true (lb L 0) (a0C (ll L 1)))]) : Res) = some x := hx
 simp only [f5S] at hx
 subst hx
 simp only [b0c, f5U] at hc
 have eg : ∀ args w, (callFunc 66 args).run Tryz.prog w = .ok (.enter 66 args) w := Go.Proofs.enters_of Tryz.func66 (by kernel_rfl) rfl
 refine d9R (g := 66) (os := a9E) (by kernel_rfl) (by rw [c4n]; decide) (fun z hz => by (simp only [a9E, f59, List.not_mem_nil, or_false] at hz; rcases hz with rfl | rfl <;> kernel_rfl)) (fun blk cap d w hH hb hs => ?_) (fun p cap w => ?_) (b0C.1 hc.1) (f54 hc.2)
 ·refine (Go.Proofs.AnyQ.slices_SortFunc Tryz.sortRow (kinds Tryz.prog 40).length Tryz.isAgg40 (by rw [c4n]; exact Tryz.sizeOf40) (fun x : Elt (kinds Tryz.prog 40) => x.val) (fun x => x.property.length.symm) (fun x v hv => (let ⟨_, h⟩ := a67 x.property v hv; d9N h)) (fun x y => d3Z a9E x.val y.val) (a1w (b0B a9E) _).swo 66 #[] blk 0 cap d w eg (fun m bs dk _ x y => f3x x y _) hH hb hs).mono ?_
  rintro e w' ⟨he, d', n, bs, h1, h2, hw⟩
  exact ⟨he, c1B (by rw [c4n]; decide) hb h1 h2 hw⟩
 ·exact Go.Proofs.AnyF.slices_SortFunc_none { Tryz.sortRow with } p cap _ w
set_option maxHeartbeats 1000000 in
theorem f4N (x0 : ByteArray) (x1 : ByteArray) (x2 : Int) (y0 : ByteArray) (y1 : ByteArray) (y2 : Int) (W : World) :
  Calls Tryz.prog 69 #[.agg #[.string x0, .string x1, .int .i64 x2], .agg #[.string y0, .string y1, .int .i64 y2]] W fun e w' =>
   e = .returned (.int .i64 (lex (Lib.compareInt x2 y2) (lex (Lib.compareBytes x1.data.toList y1.data.toList) (Lib.compareBytes x0.data.toList y0.data.toList)))) ∧ ∃ q os', w' = grow (W.drewN q) os' := by
 have c0 := fun W' => AnyG.cmp_Compare_int Tryz.cmpInt x2 y2 W'
 change ∀ W', Calls Tryz.prog 48 _ _ _ at c0
 have c1 := fun W' => Any.strings_Compare Tryz.lays106 x1 y1 W'
 change ∀ W', Calls Tryz.prog 49 _ _ _ at c1
 have c2 := fun W' => Any.strings_Compare Tryz.lays106 x0 y0 W'
 change ∀ W', Calls Tryz.prog 49 _ _ _ at c2
 generalize Lib.compareInt x2 y2 = r0 at c0 ⊢
 generalize Lib.compareBytes x1.data.toList y1.data.toList = r1 at c1 ⊢
 generalize Lib.compareBytes x0.data.toList y0.data.toList = r2 at c2 ⊢
 go_enter Tryz.func69, Tryz.ntmps69
 go_wp2_with fail
 refine wp_region_still_tail 15 (by kernel_rfl) (by kernel_rfl) ?_
 simp only [List.take_succ_cons, List.take_zero, List.drop_succ_cons, List.drop_zero]
 change wpStill _ _ (World.drew ((W.alloc _).alloc _)) (fun a' => wpList _ _ _ _ a' (World.drew ((W.alloc _).alloc _))) _ _
 have hh := c64 W #[.string x0, .string x1, .int .i64 x2] #[.string y0, .string y1, .int .i64 y2] 47 47
 have hg : ∃ q os, World.drew ((W.alloc (.cells #[.string x0, .string x1, .int .i64 x2] 47)).alloc (.cells #[.string y0, .string y1, .int .i64 y2] 47)) = grow (W.drewN q) os := ⟨1, _, by rw [alloc_eq_grow, alloc_eq_grow, grow_grow]; rfl⟩
 generalize hW : World.drew ((W.alloc (.cells #[.string x0, .string x1, .int .i64 x2] 47)).alloc (.cells #[.string y0, .string y1, .int .i64 y2] 47)) = W2 at *
 have a2 := hh.1 2 _ rfl
 have b2 := hh.2 2 _ rfl
 have a1 := hh.1 1 _ rfl
 have b1 := hh.2 1 _ rfl
 have a0 := hh.1 0 _ rfl
 have b0 := hh.2 0 _ rfl
 still_step
 still_step
 still_step
 still_step
 still_call (c0 _)
 still_step
 still_step
 still_step
 still_step
 still_call (c1 _)
 still_step
 still_step
 still_step
 still_step
 still_call (c2 _)
 refine wpStill_nil ?_
 clear hW hh
 have hb : ∀ v : Array Value, ∀ T, (W2.alloc (.cells v T)).heap[W2.heap.size]? = some (.cells v T) := fun v T => by
  show (W2.heap.push _)[W2.heap.size]? = _
  rw [Array.getElem?_push, if_pos rfl]
 have d0 : ∀ T, (W2.alloc (.cells #[.int .i64 r0, .int .i64 r1, .int .i64 r2] T)).cell? ⟨W2.heap.size, 0, none⟩ = some (.int .i64 r0) := fun T => a2r (hb _ T) rfl
 have d1 : ∀ T, (W2.alloc (.cells #[.int .i64 r0, .int .i64 r1, .int .i64 r2] T)).cell? ⟨W2.heap.size, 1, none⟩ = some (.int .i64 r1) := fun T => a2r (hb _ T) rfl
 have d2 : ∀ T, (W2.alloc (.cells #[.int .i64 r0, .int .i64 r1, .int .i64 r2] T)).cell? ⟨W2.heap.size, 2, none⟩ = some (.int .i64 r2) := fun T => a2r (hb _ T) rfl
 have c := fun T => d31 W2.heap.size r0 r1 r2 _ (d0 T) (d1 T) (d2 T)
 obtain ⟨q, os, hW2⟩ := hg
 have hend : ∀ T, ∃ q os', W2.alloc (.cells #[.int .i64 r0, .int .i64 r1, .int .i64 r2] T) = grow (W.drewN q) os' := fun T => ⟨q, _, by rw [alloc_eq_grow, hW2, grow_grow]⟩
 clear hW2 hb d0 d1 d2 a2 b2 a1 b1 a0 b0 c0 c1 c2
 go_wp2_with (go_at_call 47; refine (c _).mono ?_; rintro e w' ⟨rfl, rfl⟩)
 go_ret
 exact ⟨rfl, hend _⟩
def a3c : a4g := [(2, false), (1, true), (0, true)]
theorem c4o : kinds Tryz.prog 47 = [.str, .str, .int .i64] := by kernel_rfl
theorem f3y (x y : Elt (kinds Tryz.prog 47)) (W : World) : Calls Tryz.prog 69 #[.agg x.val.toArray, .agg y.val.toArray] W fun e w' => e = .returned (.int .i64 (d3Z a3c x.val y.val)) ∧ ∃ q os', w' = grow (W.drewN q) os' := by
 obtain ⟨x, hx⟩ := x
 obtain ⟨y, hy⟩ := y
 rw [c4o] at hx hy
 simp only
 match x, hx with
 | [x0, x1, x2], hx =>
 obtain ⟨hx0, hx1, hx2, _⟩ := hx
 obtain ⟨x0, rfl⟩ := hx0
 obtain ⟨x1, rfl⟩ := hx1
 obtain ⟨x2, rfl⟩ := hx2
 match y, hy with
 | [y0, y1, y2], hy =>
 obtain ⟨hy0, hy1, hy2, _⟩ := hy
 obtain ⟨y0, rfl⟩ := hy0
 obtain ⟨y1, rfl⟩ := hy1
 obtain ⟨y2, rfl⟩ := hy2
 refine (f4N x0 x1 x2 y0 y1 y2 W).mono fun e w' h => ⟨?_, h.2⟩
 rw [h.1]
 simp only [a3c, d3Z, List.getD_cons_zero, List.getD_cons_succ, vI, vS, lex, f5W, f5X]
 (try rfl)
 repeat' split
 all_goals first | rfl | simp_all
noncomputable def a1U (xs : List D) : List D := c4m Tryz.prog 47 a3c xs
noncomputable def a4z (xs : List D) : Bool := d1X Tryz.prog 47 a3c xs && Nat.blt xs.length 4611686018427387904
noncomputable def b5G : Sh := { tmps := [(0, .c (.o 0)), (1, .c (.f 69 []))], mem := [(0, .row 47 true)] }
noncomputable def b1S (L : List Lf) : List (Bool × Res) := [(a4z (ll L 1), ([], [(0, .row 47 true (lb L 0) (a1U (ll L 1)))]))]
theorem c3F : a0V Tryz.prog 68 b5G b1S := by
 refine a1h fun L x hx => ?_
 show a1I Tryz.prog 68 [.c (.o 0), .c (.f 69 [])] [(0, .row 47 true (lb L 0) (ll L 1))] x
 unfold b1S at hx
 cases hc : a4z (ll L 1) with
 | false => rw [hc] at hx; cases hx
 | true =>
 rw [hc] at hx
 have hx : some (([], [(0, .row 47 true (lb L 0) (a1U (ll L 1)))]) : Res) = some x := hx
 simp only [f5S] at hx
 subst hx
 simp only [a4z, f5U] at hc
 have eg : ∀ args w, (callFunc 69 args).run Tryz.prog w = .ok (.enter 69 args) w := Go.Proofs.enters_of Tryz.func69 (by kernel_rfl) rfl
 refine d9R (g := 69) (os := a3c) (by kernel_rfl) (by rw [c4o]; decide) (fun z hz => by (simp only [a3c, f59, List.not_mem_nil, or_false] at hz; rcases hz with rfl | rfl | rfl <;> kernel_rfl)) (fun blk cap d w hH hb hs => ?_) (fun p cap w => ?_) (b0C.1 hc.1) (f54 hc.2)
 ·refine (Go.Proofs.AnyQ.slices_SortFunc Tryz.sortEarned (kinds Tryz.prog 47).length Tryz.isAgg47 (by rw [c4o]; exact Tryz.sizeOf47) (fun x : Elt (kinds Tryz.prog 47) => x.val) (fun x => x.property.length.symm) (fun x v hv => (let ⟨_, h⟩ := a67 x.property v hv; d9N h)) (fun x y => d3Z a3c x.val y.val) (a1w (b0B a3c) _).swo 69 #[] blk 0 cap d w eg (fun m bs dk _ x y => f3y x y _) hH hb hs).mono ?_
  rintro e w' ⟨he, d', n, bs, h1, h2, hw⟩
  exact ⟨he, c1B (by rw [c4o]; decide) hb h1 h2 hw⟩
 ·exact Go.Proofs.AnyF.slices_SortFunc_none { Tryz.sortEarned with } p cap _ w
end Go.Proofs.YtfkkcdapcgimlaaGreatDoor

set_option linter.unusedVariables false
set_option linter.unusedSimpArgs false
set_option maxRecDepth 100000
namespace Go.Proofs.YtfkkcdapcgimlaaGreatDoor
open Go Go.AM
def f3z : List V → List V → Bool
 | [], [] => true
 | x :: xs, y :: ys => f4K x y && f3z xs ys
 | _, _ => false
theorem d9S : ∀ {xs ys : List V}, f3z xs ys = true → xs = ys
 | [], [], _ => rfl
 | x :: xs, y :: ys, h => by simp only [f3z, f5U] at h; rw [e8K h.1, d9S h.2]
 | [], _ :: _, h => by cases h
 | _ :: _, [], h => by cases h
def a01 (args0 : List V) (mem0 : AL AM.Obj) (r : Res) (args : List V) (mem : AL AM.Obj) : Option (List (Bool × Res)) := bif f3z args0 args && f3w f4g mem0 mem then some [(true, r)] else none
theorem a0A {f : FuncId} {args0 : List V} {mem0 : AL AM.Obj} {r : Res} (h : a1I Tryz.prog f args0 mem0 r) : ∀ args mem alts, a01 args0 mem0 r args mem = some alts → ∀ res, a5f alts some = some res → a1I Tryz.prog f args mem res := by
 intro args mem alts hs res hr
 unfold a01 at hs
 cases hb : f3z args0 args && f3w f4g mem0 mem with
 | false => rw [hb] at hs; cases hs
 | true =>
  rw [hb] at hs
  simp only [f5U] at hb
  have e1 := d9S hb.1
  have e2 := d9L (fun _ _ => e8L) hb.2
  subst e1 e2
  simp only [AM.cond_true rfl, f5S] at hs
  subst hs
  simp only [a5f, AM.cond_true rfl, f5S] at hr
  subst hr
  exact h
noncomputable def bk : f4a := fun _ => {}
noncomputable def K0 : a0f := ext 142 (d9H Tryz.prog) c14
theorem f3A : a0b Tryz.prog K0 := a0Y b8r (AM.enters_of (by kernel_rfl)) (e3x (fun a c sep w => Tryz.strings_Join_none a c sep w) fun bk o c xs sep w a1 a2 a3 a4 a5 => Tryz.strings_Join bk o c xs sep w a1 a2 a3 a4 a5)
noncomputable def a1 : List V := [.c (.p 0 0), .c (.s [40])]
noncomputable def m1 : AL AM.Obj := [(0, .box [.s [114, 117, 110, 32, 97, 110, 100, 32, 110, 111, 116, 32, 35, 120], .i .i64 0, .i .i64 0, .i .i64 (-1)])]
noncomputable def r1 : Res := ([.c (.b false)], [(0, .box [.s [114, 117, 110, 32, 97, 110, 100, 32, 110, 111, 116, 32, 35, 120], .i .i64 0, .i .i64 0, .i .i64 (-1)])])
theorem e9a : tow Tryz.prog bk K0 200 133 a1 m1 = some [(true, r1)] := by kernel_rfl
noncomputable def K1 : a0f := ext 133 (a01 a1 m1 r1) K0
theorem f3B : a0b Tryz.prog K1 := a0Y f3A (AM.enters_of (by kernel_rfl)) (a0A ((a1n a0e bk (fun _ => rfl) f3A 200 133 _ _ _ e9a).2 _ rfl))
noncomputable def a2 : List V := [.c (.p 0 0), .c (.s [35])]
noncomputable def m2 : AL AM.Obj := [(0, .box [.s [114, 117, 110, 32, 97, 110, 100, 32, 110, 111, 116, 32, 35, 120], .i .i64 0, .i .i64 0, .i .i64 (-1)])]
noncomputable def r2 : Res := ([.c (.b false)], [(0, .box [.s [114, 117, 110, 32, 97, 110, 100, 32, 110, 111, 116, 32, 35, 120], .i .i64 0, .i .i64 0, .i .i64 (-1)])])
theorem f5z : tow Tryz.prog bk K1 200 133 a2 m2 = some [(true, r2)] := by kernel_rfl
noncomputable def K2 : a0f := ext 133 (a01 a2 m2 r2) K1
theorem f3C : a0b Tryz.prog K2 := a0Y f3B (AM.enters_of (by kernel_rfl)) (a0A ((a1n a0e bk (fun _ => rfl) f3B 200 133 _ _ _ f5z).2 _ rfl))
noncomputable def a3 : List V := [.c (.p 0 0), .c (.s [110, 111, 116])]
noncomputable def m3 : AL AM.Obj := [(0, .box [.s [114, 117, 110, 32, 97, 110, 100, 32, 110, 111, 116, 32, 35, 120], .i .i64 0, .i .i64 0, .i .i64 (-1)])]
noncomputable def r3 : Res := ([.c (.b false)], [(0, .box [.s [114, 117, 110, 32, 97, 110, 100, 32, 110, 111, 116, 32, 35, 120], .i .i64 0, .i .i64 0, .i .i64 (-1)])])
theorem f5A : tow Tryz.prog bk K2 200 129 a3 m3 = some [(true, r3)] := by kernel_rfl
noncomputable def K3 : a0f := ext 129 (a01 a3 m3 r3) K2
theorem f3D : a0b Tryz.prog K3 := a0Y f3C (AM.enters_of (by kernel_rfl)) (a0A ((a1n a0e bk (fun _ => rfl) f3C 200 129 _ _ _ f5A).2 _ rfl))
noncomputable def a4 : List V := [.c (.p 0 0), .c (.s [97, 110, 121])]
noncomputable def m4 : AL AM.Obj := [(0, .box [.s [114, 117, 110, 32, 97, 110, 100, 32, 110, 111, 116, 32, 35, 120], .i .i64 0, .i .i64 0, .i .i64 (-1)])]
noncomputable def r4 : Res := ([.c (.b false)], [(0, .box [.s [114, 117, 110, 32, 97, 110, 100, 32, 110, 111, 116, 32, 35, 120], .i .i64 0, .i .i64 0, .i .i64 (-1)])])
theorem f5B : tow Tryz.prog bk K3 200 129 a4 m4 = some [(true, r4)] := by kernel_rfl
noncomputable def K4 : a0f := ext 129 (a01 a4 m4 r4) K3
theorem f3E : a0b Tryz.prog K4 := a0Y f3D (AM.enters_of (by kernel_rfl)) (a0A ((a1n a0e bk (fun _ => rfl) f3D 200 129 _ _ _ f5B).2 _ rfl))
noncomputable def a5 : List V := [.c (.p 0 0), .c (.s [110, 111, 110, 101])]
noncomputable def m5 : AL AM.Obj := [(0, .box [.s [114, 117, 110, 32, 97, 110, 100, 32, 110, 111, 116, 32, 35, 120], .i .i64 0, .i .i64 0, .i .i64 (-1)])]
noncomputable def r5 : Res := ([.c (.b false)], [(0, .box [.s [114, 117, 110, 32, 97, 110, 100, 32, 110, 111, 116, 32, 35, 120], .i .i64 0, .i .i64 0, .i .i64 (-1)])])
theorem f5C : tow Tryz.prog bk K4 200 129 a5 m5 = some [(true, r5)] := by kernel_rfl
noncomputable def K5 : a0f := ext 129 (a01 a5 m5 r5) K4
theorem f3F : a0b Tryz.prog K5 := a0Y f3E (AM.enters_of (by kernel_rfl)) (a0A ((a1n a0e bk (fun _ => rfl) f3E 200 129 _ _ _ f5C).2 _ rfl))
noncomputable def a6 : List V := [.c (.p 0 0), .c (.s [97, 108, 108])]
noncomputable def m6 : AL AM.Obj := [(0, .box [.s [114, 117, 110, 32, 97, 110, 100, 32, 110, 111, 116, 32, 35, 120], .i .i64 0, .i .i64 0, .i .i64 (-1)])]
noncomputable def r6 : Res := ([.c (.b false)], [(0, .box [.s [114, 117, 110, 32, 97, 110, 100, 32, 110, 111, 116, 32, 35, 120], .i .i64 0, .i .i64 0, .i .i64 (-1)])])
theorem f5D : tow Tryz.prog bk K5 200 129 a6 m6 = some [(true, r6)] := by kernel_rfl
noncomputable def K6 : a0f := ext 129 (a01 a6 m6 r6) K5
theorem f3G : a0b Tryz.prog K6 := a0Y f3F (AM.enters_of (by kernel_rfl)) (a0A ((a1n a0e bk (fun _ => rfl) f3F 200 129 _ _ _ f5D).2 _ rfl))
noncomputable def a7 : List V := [.c (.p 0 0), .c (.s [110, 97, 109, 101])]
noncomputable def m7 : AL AM.Obj := [(0, .box [.s [114, 117, 110, 32, 97, 110, 100, 32, 110, 111, 116, 32, 35, 120], .i .i64 0, .i .i64 0, .i .i64 (-1)])]
noncomputable def r7 : Res := ([.c (.b false)], [(0, .box [.s [114, 117, 110, 32, 97, 110, 100, 32, 110, 111, 116, 32, 35, 120], .i .i64 0, .i .i64 0, .i .i64 (-1)])])
theorem f5E : tow Tryz.prog bk K6 200 129 a7 m7 = some [(true, r7)] := by kernel_rfl
noncomputable def K7 : a0f := ext 129 (a01 a7 m7 r7) K6
theorem f3H : a0b Tryz.prog K7 := a0Y f3G (AM.enters_of (by kernel_rfl)) (a0A ((a1n a0e bk (fun _ => rfl) f3G 200 129 _ _ _ f5E).2 _ rfl))
noncomputable def a8 : List V := [.c (.p 0 0), .c (.sl 9 false [.s [], .s [114, 117, 110], .s [114, 105, 100, 101], .s [115, 119, 105, 109], .s [119, 97, 108, 107], .s [115, 107, 105]])]
noncomputable def m8 : AL AM.Obj := [(0, .box [.s [114, 117, 110, 32, 97, 110, 100, 32, 110, 111, 116, 32, 35, 120], .i .i64 0, .i .i64 0, .i .i64 (-1)])]
noncomputable def r8 : Res := ([.c (.i .i64 1)], [(0, .box [.s [114, 117, 110, 32, 97, 110, 100, 32, 110, 111, 116, 32, 35, 120], .i .i64 3, .i .i64 0, .i .i64 (-1)])])
theorem f5F : tow Tryz.prog bk K7 200 138 a8 m8 = some [(true, r8)] := by kernel_rfl
noncomputable def K8 : a0f := ext 138 (a01 a8 m8 r8) K7
theorem f3I : a0b Tryz.prog K8 := a0Y f3H (AM.enters_of (by kernel_rfl)) (a0A ((a1n a0e bk (fun _ => rfl) f3H 200 138 _ _ _ f5F).2 _ rfl))
noncomputable def a9 : List V := [.c (.p 0 0)]
noncomputable def m9 : AL AM.Obj := [(0, .box [.s [114, 117, 110, 32, 97, 110, 100, 32, 110, 111, 116, 32, 35, 120], .i .i64 0, .i .i64 0, .i .i64 (-1)])]
noncomputable def r9 : Res := ([.g [.i .i64 4, .i .i64 0, .i .i64 1, .i .i64 0, .s [], .sl 24 true []]], [(0, .box [.s [114, 117, 110, 32, 97, 110, 100, 32, 110, 111, 116, 32, 35, 120], .i .i64 3, .i .i64 0, .i .i64 (-1)])])
theorem f5G : tow Tryz.prog bk K8 200 91 a9 m9 = some [(true, r9)] := by kernel_rfl
noncomputable def K9 : a0f := ext 91 (a01 a9 m9 r9) K8
theorem f3J : a0b Tryz.prog K9 := a0Y f3I (AM.enters_of (by kernel_rfl)) (a0A ((a1n a0e bk (fun _ => rfl) f3I 200 91 _ _ _ f5G).2 _ rfl))
noncomputable def a10 : List V := [.c (.p 0 0), .c (.s [97, 110, 100])]
noncomputable def m10 : AL AM.Obj := [(0, .box [.s [114, 117, 110, 32, 97, 110, 100, 32, 110, 111, 116, 32, 35, 120], .i .i64 3, .i .i64 0, .i .i64 (-1)])]
noncomputable def r10 : Res := ([.c (.b true)], [(0, .box [.s [114, 117, 110, 32, 97, 110, 100, 32, 110, 111, 116, 32, 35, 120], .i .i64 7, .i .i64 0, .i .i64 (-1)])])
theorem f4O : tow Tryz.prog bk K9 200 129 a10 m10 = some [(true, r10)] := by kernel_rfl
noncomputable def K10 : a0f := ext 129 (a01 a10 m10 r10) K9
theorem e4V : a0b Tryz.prog K10 := a0Y f3J (AM.enters_of (by kernel_rfl)) (a0A ((a1n a0e bk (fun _ => rfl) f3J 200 129 _ _ _ f4O).2 _ rfl))
noncomputable def a11 : List V := [.c (.p 0 0), .c (.s [40])]
noncomputable def m11 : AL AM.Obj := [(0, .box [.s [114, 117, 110, 32, 97, 110, 100, 32, 110, 111, 116, 32, 35, 120], .i .i64 8, .i .i64 0, .i .i64 (-1)])]
noncomputable def r11 : Res := ([.c (.b false)], [(0, .box [.s [114, 117, 110, 32, 97, 110, 100, 32, 110, 111, 116, 32, 35, 120], .i .i64 8, .i .i64 0, .i .i64 (-1)])])
theorem f4P : tow Tryz.prog bk K10 200 133 a11 m11 = some [(true, r11)] := by kernel_rfl
noncomputable def K11 : a0f := ext 133 (a01 a11 m11 r11) K10
theorem e4W : a0b Tryz.prog K11 := a0Y e4V (AM.enters_of (by kernel_rfl)) (a0A ((a1n a0e bk (fun _ => rfl) e4V 200 133 _ _ _ f4P).2 _ rfl))
noncomputable def a12 : List V := [.c (.p 0 0), .c (.s [35])]
noncomputable def m12 : AL AM.Obj := [(0, .box [.s [114, 117, 110, 32, 97, 110, 100, 32, 110, 111, 116, 32, 35, 120], .i .i64 8, .i .i64 0, .i .i64 (-1)])]
noncomputable def r12 : Res := ([.c (.b false)], [(0, .box [.s [114, 117, 110, 32, 97, 110, 100, 32, 110, 111, 116, 32, 35, 120], .i .i64 8, .i .i64 0, .i .i64 (-1)])])
theorem f4Q : tow Tryz.prog bk K11 200 133 a12 m12 = some [(true, r12)] := by kernel_rfl
noncomputable def K12 : a0f := ext 133 (a01 a12 m12 r12) K11
theorem e4X : a0b Tryz.prog K12 := a0Y e4W (AM.enters_of (by kernel_rfl)) (a0A ((a1n a0e bk (fun _ => rfl) e4W 200 133 _ _ _ f4Q).2 _ rfl))
noncomputable def a13 : List V := [.c (.p 0 0), .c (.s [110, 111, 116])]
noncomputable def m13 : AL AM.Obj := [(0, .box [.s [114, 117, 110, 32, 97, 110, 100, 32, 110, 111, 116, 32, 35, 120], .i .i64 8, .i .i64 0, .i .i64 (-1)])]
noncomputable def r13 : Res := ([.c (.b true)], [(0, .box [.s [114, 117, 110, 32, 97, 110, 100, 32, 110, 111, 116, 32, 35, 120], .i .i64 11, .i .i64 0, .i .i64 (-1)])])
theorem f4R : tow Tryz.prog bk K12 200 129 a13 m13 = some [(true, r13)] := by kernel_rfl
noncomputable def K13 : a0f := ext 129 (a01 a13 m13 r13) K12
theorem e4Y : a0b Tryz.prog K13 := a0Y e4X (AM.enters_of (by kernel_rfl)) (a0A ((a1n a0e bk (fun _ => rfl) e4X 200 129 _ _ _ f4R).2 _ rfl))
noncomputable def a14 : List V := [.c (.p 0 0), .c (.s [40])]
noncomputable def m14 : AL AM.Obj := [(0, .box [.s [114, 117, 110, 32, 97, 110, 100, 32, 110, 111, 116, 32, 35, 120], .i .i64 12, .i .i64 1, .i .i64 (-1)])]
noncomputable def r14 : Res := ([.c (.b false)], [(0, .box [.s [114, 117, 110, 32, 97, 110, 100, 32, 110, 111, 116, 32, 35, 120], .i .i64 12, .i .i64 1, .i .i64 (-1)])])
theorem f4S : tow Tryz.prog bk K13 200 133 a14 m14 = some [(true, r14)] := by kernel_rfl
noncomputable def K14 : a0f := ext 133 (a01 a14 m14 r14) K13
theorem e4Z : a0b Tryz.prog K14 := a0Y e4Y (AM.enters_of (by kernel_rfl)) (a0A ((a1n a0e bk (fun _ => rfl) e4Y 200 133 _ _ _ f4S).2 _ rfl))
noncomputable def a15 : List V := [.c (.p 0 0), .c (.s [35])]
noncomputable def m15 : AL AM.Obj := [(0, .box [.s [114, 117, 110, 32, 97, 110, 100, 32, 110, 111, 116, 32, 35, 120], .i .i64 12, .i .i64 1, .i .i64 (-1)])]
noncomputable def r15 : Res := ([.c (.b true)], [(0, .box [.s [114, 117, 110, 32, 97, 110, 100, 32, 110, 111, 116, 32, 35, 120], .i .i64 13, .i .i64 1, .i .i64 (-1)])])
theorem f4T : tow Tryz.prog bk K14 200 133 a15 m15 = some [(true, r15)] := by kernel_rfl
noncomputable def K15 : a0f := ext 133 (a01 a15 m15 r15) K14
theorem e40 : a0b Tryz.prog K15 := a0Y e4Z (AM.enters_of (by kernel_rfl)) (a0A ((a1n a0e bk (fun _ => rfl) e4Z 200 133 _ _ _ f4T).2 _ rfl))
noncomputable def a16 : List V := [.c (.p 0 0)]
noncomputable def m16 : AL AM.Obj := [(0, .box [.s [114, 117, 110, 32, 97, 110, 100, 32, 110, 111, 116, 32, 35, 120], .i .i64 11, .i .i64 1, .i .i64 (-1)])]
noncomputable def r16 : Res := ([.g [.i .i64 5, .i .i64 0, .i .i64 0, .i .i64 0, .s [120], .sl 24 true []]], [(0, .box [.s [114, 117, 110, 32, 97, 110, 100, 32, 110, 111, 116, 32, 35, 120], .i .i64 14, .i .i64 1, .i .i64 (-1)])])
theorem f4U : tow Tryz.prog bk K15 200 91 a16 m16 = some [(true, r16)] := by kernel_rfl
noncomputable def K16 : a0f := ext 91 (a01 a16 m16 r16) K15
theorem e41 : a0b Tryz.prog K16 := a0Y e40 (AM.enters_of (by kernel_rfl)) (a0A ((a1n a0e bk (fun _ => rfl) e40 200 91 _ _ _ f4U).2 _ rfl))
noncomputable def a17 : List V := [.c (.p 0 0), .c (.i .i64 8), .c (.f 5091 [(0, 0)])]
noncomputable def m17 : AL AM.Obj := [(0, .box [.s [114, 117, 110, 32, 97, 110, 100, 32, 110, 111, 116, 32, 35, 120], .i .i64 11, .i .i64 0, .i .i64 (-1)])]
noncomputable def r17 : Res := ([.g [.i .i64 5, .i .i64 0, .i .i64 0, .i .i64 0, .s [120], .sl 24 true []]], [(0, .box [.s [114, 117, 110, 32, 97, 110, 100, 32, 110, 111, 116, 32, 35, 120], .i .i64 14, .i .i64 0, .i .i64 (-1)])])
theorem f4V : tow Tryz.prog bk K16 200 132 a17 m17 = some [(true, r17)] := by kernel_rfl
noncomputable def K17 : a0f := ext 132 (a01 a17 m17 r17) K16
theorem e42 : a0b Tryz.prog K17 := a0Y e41 (AM.enters_of (by kernel_rfl)) (a0A ((a1n a0e bk (fun _ => rfl) e41 200 132 _ _ _ f4V).2 _ rfl))
noncomputable def a18 : List V := [.c (.p 0 0), .c (.p 1 0)]
noncomputable def m18 : AL AM.Obj := [(0, .box [.p 2 0]), (1, .box [.i .i64 8]), (2, .box [.s [114, 117, 110, 32, 97, 110, 100, 32, 110, 111, 116, 32, 35, 120], .i .i64 11, .i .i64 0, .i .i64 (-1)])]
noncomputable def r18 : Res := ([.c (.sl 24 false [.a [.i 5, .i 0, .i 0, .i 0, .s [120], .l true []]])], [(0, .box [.p 2 0]), (1, .box [.i .i64 8]), (2, .box [.s [114, 117, 110, 32, 97, 110, 100, 32, 110, 111, 116, 32, 35, 120], .i .i64 14, .i .i64 0, .i .i64 (-1)])])
theorem f4W : tow Tryz.prog bk K17 200 131 a18 m18 = some [(true, r18)] := by kernel_rfl
noncomputable def K18 : a0f := ext 131 (a01 a18 m18 r18) K17
theorem e43 : a0b Tryz.prog K18 := a0Y e42 (AM.enters_of (by kernel_rfl)) (a0A ((a1n a0e bk (fun _ => rfl) e42 200 131 _ _ _ f4W).2 _ rfl))
noncomputable def a19 : List V := [.c (.p 0 0)]
noncomputable def m19 : AL AM.Obj := [(0, .box [.s [114, 117, 110, 32, 97, 110, 100, 32, 110, 111, 116, 32, 35, 120], .i .i64 7, .i .i64 0, .i .i64 (-1)])]
noncomputable def r19 : Res := ([.g [.i .i64 3, .i .i64 0, .i .i64 0, .i .i64 0, .s [], .sl 24 false [.a [.i 5, .i 0, .i 0, .i 0, .s [120], .l true []]]]], [(0, .box [.s [114, 117, 110, 32, 97, 110, 100, 32, 110, 111, 116, 32, 35, 120], .i .i64 14, .i .i64 0, .i .i64 (-1)])])
theorem f4X : tow Tryz.prog bk K18 200 91 a19 m19 = some [(true, r19)] := by kernel_rfl
noncomputable def K19 : a0f := ext 91 (a01 a19 m19 r19) K18
theorem e44 : a0b Tryz.prog K19 := a0Y e43 (AM.enters_of (by kernel_rfl)) (a0A ((a1n a0e bk (fun _ => rfl) e43 200 91 _ _ _ f4X).2 _ rfl))
noncomputable def a20 : List V := [.c (.p 0 0), .c (.s [97, 110, 100])]
noncomputable def m20 : AL AM.Obj := [(0, .box [.s [114, 117, 110, 32, 97, 110, 100, 32, 110, 111, 116, 32, 35, 120], .i .i64 14, .i .i64 0, .i .i64 (-1)])]
noncomputable def r20 : Res := ([.c (.b false)], [(0, .box [.s [114, 117, 110, 32, 97, 110, 100, 32, 110, 111, 116, 32, 35, 120], .i .i64 14, .i .i64 0, .i .i64 (-1)])])
theorem f4Y : tow Tryz.prog bk K19 200 129 a20 m20 = some [(true, r20)] := by kernel_rfl
noncomputable def K20 : a0f := ext 129 (a01 a20 m20 r20) K19
theorem e45 : a0b Tryz.prog K20 := a0Y e44 (AM.enters_of (by kernel_rfl)) (a0A ((a1n a0e bk (fun _ => rfl) e44 200 129 _ _ _ f4Y).2 _ rfl))
noncomputable def a21 : List V := [.c (.p 0 0), .c (.i .i64 1), .c (.s [97, 110, 100]), .c (.f 5091 [(0, 0)])]
noncomputable def m21 : AL AM.Obj := [(0, .box [.s [114, 117, 110, 32, 97, 110, 100, 32, 110, 111, 116, 32, 35, 120], .i .i64 0, .i .i64 0, .i .i64 (-1)])]
noncomputable def r21 : Res := ([.g [.i .i64 1, .i .i64 0, .i .i64 0, .i .i64 0, .s [], .sl 24 false [.a [.i 4, .i 0, .i 1, .i 0, .s [], .l true []], .a [.i 3, .i 0, .i 0, .i 0, .s [], .l false [.a [.i 5, .i 0, .i 0, .i 0, .s [120], .l true []]]]]]], [(0, .box [.s [114, 117, 110, 32, 97, 110, 100, 32, 110, 111, 116, 32, 35, 120], .i .i64 14, .i .i64 0, .i .i64 (-1)])])
theorem f4Z : tow Tryz.prog bk K20 200 89 a21 m21 = some [(true, r21)] := by kernel_rfl
noncomputable def K21 : a0f := ext 89 (a01 a21 m21 r21) K20
theorem e46 : a0b Tryz.prog K21 := a0Y e45 (AM.enters_of (by kernel_rfl)) (a0A ((a1n a0e bk (fun _ => rfl) e45 200 89 _ _ _ f4Z).2 _ rfl))
noncomputable def a22 : List V := [.c (.p 0 0)]
noncomputable def m22 : AL AM.Obj := [(0, .box [.p 1 0]), (1, .box [.s [114, 117, 110, 32, 97, 110, 100, 32, 110, 111, 116, 32, 35, 120], .i .i64 0, .i .i64 0, .i .i64 (-1)])]
noncomputable def r22 : Res := ([.g [.i .i64 1, .i .i64 0, .i .i64 0, .i .i64 0, .s [], .sl 24 false [.a [.i 4, .i 0, .i 1, .i 0, .s [], .l true []], .a [.i 3, .i 0, .i 0, .i 0, .s [], .l false [.a [.i 5, .i 0, .i 0, .i 0, .s [120], .l true []]]]]]], [(0, .box [.p 1 0]), (1, .box [.s [114, 117, 110, 32, 97, 110, 100, 32, 110, 111, 116, 32, 35, 120], .i .i64 14, .i .i64 0, .i .i64 (-1)])])
theorem f40 : tow Tryz.prog bk K21 200 90 a22 m22 = some [(true, r22)] := by kernel_rfl
noncomputable def K22 : a0f := ext 90 (a01 a22 m22 r22) K21
theorem e47 : a0b Tryz.prog K22 := a0Y e46 (AM.enters_of (by kernel_rfl)) (a0A ((a1n a0e bk (fun _ => rfl) e46 200 90 _ _ _ f40).2 _ rfl))
noncomputable def a23 : List V := [.c (.p 0 0), .c (.s [111, 114])]
noncomputable def m23 : AL AM.Obj := [(0, .box [.s [114, 117, 110, 32, 97, 110, 100, 32, 110, 111, 116, 32, 35, 120], .i .i64 14, .i .i64 0, .i .i64 (-1)])]
noncomputable def r23 : Res := ([.c (.b false)], [(0, .box [.s [114, 117, 110, 32, 97, 110, 100, 32, 110, 111, 116, 32, 35, 120], .i .i64 14, .i .i64 0, .i .i64 (-1)])])
theorem f41 : tow Tryz.prog bk K22 200 129 a23 m23 = some [(true, r23)] := by kernel_rfl
noncomputable def K23 : a0f := ext 129 (a01 a23 m23 r23) K22
theorem e48 : a0b Tryz.prog K23 := a0Y e47 (AM.enters_of (by kernel_rfl)) (a0A ((a1n a0e bk (fun _ => rfl) e47 200 129 _ _ _ f41).2 _ rfl))
noncomputable def a24 : List V := [.c (.p 0 0), .c (.i .i64 2), .c (.s [111, 114]), .c (.f 90 [(1, 0)])]
noncomputable def m24 : AL AM.Obj := [(0, .box [.s [114, 117, 110, 32, 97, 110, 100, 32, 110, 111, 116, 32, 35, 120], .i .i64 0, .i .i64 0, .i .i64 (-1)]), (1, .box [.p 0 0])]
noncomputable def r24 : Res := ([.g [.i .i64 1, .i .i64 0, .i .i64 0, .i .i64 0, .s [], .sl 24 false [.a [.i 4, .i 0, .i 1, .i 0, .s [], .l true []], .a [.i 3, .i 0, .i 0, .i 0, .s [], .l false [.a [.i 5, .i 0, .i 0, .i 0, .s [120], .l true []]]]]]], [(0, .box [.s [114, 117, 110, 32, 97, 110, 100, 32, 110, 111, 116, 32, 35, 120], .i .i64 14, .i .i64 0, .i .i64 (-1)]), (1, .box [.p 0 0])])
theorem f42 : tow Tryz.prog bk K23 200 89 a24 m24 = some [(true, r24)] := by kernel_rfl
noncomputable def K24 : a0f := ext 89 (a01 a24 m24 r24) K23
theorem e49 : a0b Tryz.prog K24 := a0Y e48 (AM.enters_of (by kernel_rfl)) (a0A ((a1n a0e bk (fun _ => rfl) e48 200 89 _ _ _ f42).2 _ rfl))
noncomputable def a25 : List V := [.g [.i .i64 4, .i .i64 0, .i .i64 1, .i .i64 0, .s [], .sl 24 true []], .c (.i .i64 1)]
noncomputable def m25 : AL AM.Obj := []
noncomputable def r25 : Res := ([.c (.i .i64 0)], [])
theorem f43 : tow Tryz.prog bk K24 200 55 a25 m25 = some [(true, r25)] := by kernel_rfl
noncomputable def K25 : a0f := ext 55 (a01 a25 m25 r25) K24
theorem e5a : a0b Tryz.prog K25 := a0Y e49 (AM.enters_of (by kernel_rfl)) (a0A ((a1n a0e bk (fun _ => rfl) e49 200 55 _ _ _ f43).2 _ rfl))
noncomputable def a26 : List V := [.g [.i .i64 5, .i .i64 0, .i .i64 0, .i .i64 0, .s [120], .sl 24 true []], .c (.i .i64 2)]
noncomputable def m26 : AL AM.Obj := []
noncomputable def r26 : Res := ([.c (.i .i64 0)], [])
theorem f44 : tow Tryz.prog bk K25 200 55 a26 m26 = some [(true, r26)] := by kernel_rfl
noncomputable def K26 : a0f := ext 55 (a01 a26 m26 r26) K25
theorem e5b : a0b Tryz.prog K26 := a0Y e5a (AM.enters_of (by kernel_rfl)) (a0A ((a1n a0e bk (fun _ => rfl) e5a 200 55 _ _ _ f44).2 _ rfl))
noncomputable def a27 : List V := [.g [.i .i64 3, .i .i64 0, .i .i64 0, .i .i64 0, .s [], .sl 24 false [.a [.i 5, .i 0, .i 0, .i 0, .s [120], .l true []]]], .c (.i .i64 1)]
noncomputable def m27 : AL AM.Obj := []
noncomputable def r27 : Res := ([.c (.i .i64 0)], [])
theorem f45 : tow Tryz.prog bk K26 200 55 a27 m27 = some [(true, r27)] := by kernel_rfl
noncomputable def K27 : a0f := ext 55 (a01 a27 m27 r27) K26
theorem e5c : a0b Tryz.prog K27 := a0Y e5b (AM.enters_of (by kernel_rfl)) (a0A ((a1n a0e bk (fun _ => rfl) e5b 200 55 _ _ _ f45).2 _ rfl))
noncomputable def a28 : List V := [.g [.i .i64 1, .i .i64 0, .i .i64 0, .i .i64 0, .s [], .sl 24 false [.a [.i 4, .i 0, .i 1, .i 0, .s [], .l true []], .a [.i 3, .i 0, .i 0, .i 0, .s [], .l false [.a [.i 5, .i 0, .i 0, .i 0, .s [120], .l true []]]]]], .c (.i .i64 0)]
noncomputable def m28 : AL AM.Obj := []
noncomputable def r28 : Res := ([.c (.i .i64 0)], [])
theorem f5a : tow Tryz.prog bk K27 200 55 a28 m28 = some [(true, r28)] := by kernel_rfl
noncomputable def K28 : a0f := ext 55 (a01 a28 m28 r28) K27
theorem e5d : a0b Tryz.prog K28 := a0Y e5c (AM.enters_of (by kernel_rfl)) (a0A ((a1n a0e bk (fun _ => rfl) e5c 200 55 _ _ _ f5a).2 _ rfl))
noncomputable def a29 : List V := [.g [.i .i64 1, .i .i64 0, .i .i64 0, .i .i64 0, .s [], .sl 24 false [.a [.i 4, .i 0, .i 1, .i 0, .s [], .l true []], .a [.i 3, .i 0, .i 0, .i 0, .s [], .l false [.a [.i 5, .i 0, .i 0, .i 0, .s [120], .l true []]]]]]]
noncomputable def m29 : AL AM.Obj := []
noncomputable def r29 : Res := ([.c (.i .i64 0)], [])
theorem f5b : tow Tryz.prog bk K28 200 27 a29 m29 = some [(true, r29)] := by kernel_rfl
noncomputable def K29 : a0f := ext 27 (a01 a29 m29 r29) K28
theorem e5e : a0b Tryz.prog K29 := a0Y e5d (AM.enters_of (by kernel_rfl)) (a0A ((a1n a0e bk (fun _ => rfl) e5d 200 27 _ _ _ f5b).2 _ rfl))
noncomputable def a30 : List V := [.c (.s [114, 117, 110, 32, 97, 110, 100, 32, 110, 111, 116, 32, 35, 120])]
noncomputable def m30 : AL AM.Obj := []
noncomputable def r30 : Res := ([.g [.i .i64 1, .i .i64 0, .i .i64 0, .i .i64 0, .s [], .sl 24 false [.a [.i 4, .i 0, .i 1, .i 0, .s [], .l true []], .a [.i 3, .i 0, .i 0, .i 0, .s [], .l false [.a [.i 5, .i 0, .i 0, .i 0, .s [120], .l true []]]]]], .c (.i .i64 0), .c (.i .i64 0)], [])
theorem f5c : tow Tryz.prog bk K29 200 33 a30 m30 = some [(true, r30)] := by kernel_rfl
noncomputable def K30 : a0f := ext 33 (a01 a30 m30 r30) K29
theorem e5f : a0b Tryz.prog K30 := a0Y e5e (AM.enters_of (by kernel_rfl)) (a0A ((a1n a0e bk (fun _ => rfl) e5e 200 33 _ _ _ f5c).2 _ rfl))
noncomputable def a31 : List V := [.g [.i .i64 1, .i .i64 0, .i .i64 0, .i .i64 0, .s [], .sl 24 false [.a [.i 4, .i 0, .i 1, .i 0, .s [], .l true []], .a [.i 3, .i 0, .i 0, .i 0, .s [], .l false [.a [.i 5, .i 0, .i 0, .i 0, .s [120], .l true []]]]]]]
noncomputable def m31 : AL AM.Obj := []
noncomputable def r31 : Res := ([.c (.s [114, 117, 110, 32, 97, 110, 100, 32, 110, 111, 116, 32, 35, 120]), .c (.i .i64 0)], [])
theorem f5d : tow Tryz.prog bk K30 200 34 a31 m31 = some [(true, r31)] := by kernel_rfl
noncomputable def K31 : a0f := ext 34 (a01 a31 m31 r31) K30
theorem f3K : a0b Tryz.prog K31 := a0Y e5f (AM.enters_of (by kernel_rfl)) (a0A ((a1n a0e bk (fun _ => rfl) e5f 200 34 _ _ _ f5d).2 _ rfl))
theorem e3B : tow Tryz.prog bk K31 200 12 [] [] = some [(true, ([.c (.b true)], []))] := by kernel_rfl
noncomputable def e4M : Sh := { tmps := [], mem := [] }
noncomputable def f3g (_ : List Lf) : List (Bool × Res) := [(true, ([.c (.b true)], []))]
theorem d9T : a1I Tryz.prog 12 [] [] ([.c (.b true)], []) := (a1n a0e bk (fun _ => rfl) f3K 200 12 [] [] _ e3B).2 _ rfl
theorem e8w : a0V Tryz.prog 12 e4M f3g := a1h fun L x hx => by
 have hx : some (([.c (.b true)], []) : Res) = some x := hx
 simp only [f5S] at hx
 subst hx
 exact d9T
end Go.Proofs.YtfkkcdapcgimlaaGreatDoor

set_option linter.unusedVariables false
set_option linter.unusedSimpArgs false
set_option maxRecDepth 100000
namespace Go.Proofs.YtfkkcdapcgimlaaGreatDoor
open Go Go.AM
def Tryz.lays144_ren : Go.Shelf.Ren := ⟨fun | 144 => 78 | 143 => 108 | 219 => 156 | 217 => 186 | 225 => 187 | 224 => 188 | 267 => 189 | 266 => 211 | 314 => 212 | n => n, fun | 9 => 9 | 4 => 4 | 3 => 3 | 5 => 5 | 46 => 131 | 146 => 246 | 51 => 157 | n => n, fun | 1 => 0 | n => n⟩
theorem Tryz.lays144 : Go.Proofs.Lays.n144 Tryz.prog Tryz.lays144_ren := {
 mixed := by kernel_rfl
 f143 := Tryz.func108.trans (congrArg some (by kernel_rfl))
 f144 := Tryz.func78.trans (congrArg some (by kernel_rfl))
 f217 := Tryz.func186.trans (congrArg some (by kernel_rfl))
 f219 := Tryz.func156.trans (congrArg some (by kernel_rfl))
 f224 := Tryz.func188.trans (congrArg some (by kernel_rfl))
 f225 := Tryz.func187.trans (congrArg some (by kernel_rfl))
 f266 := Tryz.func211.trans (congrArg some (by kernel_rfl))
 f267 := Tryz.func189.trans (congrArg some (by kernel_rfl))
 f314 := Tryz.func212.trans (congrArg some (by kernel_rfl))
 t3 := Tryz.underlying3
 a3 := Tryz.isAgg3
 z3 := Tryz.sizeOf3
 v3 := Tryz.zeroValue3
 t4 := Tryz.underlying4
 a4 := Tryz.isAgg4
 z4 := Tryz.sizeOf4
 v4 := Tryz.zeroValue4
 t5 := Tryz.underlying5
 a5 := Tryz.isAgg5
 z5 := Tryz.sizeOf5
 v5 := Tryz.zeroValue5
 t9 := Tryz.underlying9
 a9 := Tryz.isAgg9
 z9 := Tryz.sizeOf9
 v9 := Tryz.zeroValue9
 t46 := Tryz.underlying131
 a46 := Tryz.isAgg131
 z46 := Tryz.sizeOf131
 v46 := Tryz.zeroValue131
 t51 := Tryz.underlying157
 a51 := Tryz.isAgg157
 z51 := Tryz.sizeOf157
 v51 := Tryz.zeroValue157
 t146 := Tryz.underlying246
 a146 := Tryz.isAgg246
 z146 := Tryz.sizeOf246
 v146 := Tryz.zeroValue246
 g1 := by kernel_rfl }
open Go.RowKit Go.Lib in
open Go.RowKit Go.Lib in
noncomputable def c0F : Sh := { tmps := [(0, .c .s), (1, .c .s)], mem := [] }
noncomputable def b8A (L : List Lf) : List (Bool × Res) := [(Nat.blt (ls L 0).length 4294967281, ([.c (.b (Lib.contains (ls L 0) (ls L 1)))], []))]
theorem c7P : a0V Tryz.prog 78 c0F b8A := by
 refine a1h fun L x hx => ?_
 show a1I Tryz.prog 78 [.c (.s (ls L 0)), .c (.s (ls L 1))] [] x
 unfold b8A at hx
 cases hc : Nat.blt (ls L 0).length 4294967281 with
 | false => rw [hc] at hx; cases hx
 | true =>
 rw [hc] at hx
 have hx : some (([.c (.b (Lib.contains (ls L 0) (ls L 1)))], []) : Res) = some x := hx
 simp only [f5S] at hx
 subst hx
 have hlt : (ls L 0).length < 4294967281 := f54 hc
 refine b5L fun env S w vs hS hgi hall => ?_
 obtain ⟨v1, v2, hv, r1, r2⟩ := c4j hall
 have hvs : vs = #[v1, v2] := by rw [← Array.toList_inj]; exact hv
 subst hvs
 have r1 : v1 = .string ⟨(ls L 0).toArray⟩ := r1
 have r2 : v2 = .string ⟨(ls L 1).toArray⟩ := r2
 subst r1 r2
 obtain ⟨_, cur, T, fr, h1, h2, h3⟩ := hgi ("internal/bytealg.MaxLen", [c0h]) (by simp [d4B]) 0 (by kernel_rfl)
 have hcl : ∃ v, cur[0]? = some v := ⟨cur[0]'(by rw [h2]; exact Nat.zero_lt_one), Array.getElem?_eq_getElem _⟩
 obtain ⟨v, hv0⟩ := hcl
 obtain ⟨m, rfl⟩ := h3 0 c0h v rfl hv0
 exact (Any.strings_Contains Tryz.lays144 ⟨(ls L 0).toArray⟩ ⟨(ls L 1).toArray⟩ m w (by simpa [ByteArray.size] using hlt) (a2r h1 hv0)).mono fun e w' ⟨he, hw⟩ => ⟨_, he, hw ▸ RowKit.Below.refl _ _, fun S' => rfl⟩
end Go.Proofs.YtfkkcdapcgimlaaGreatDoor

