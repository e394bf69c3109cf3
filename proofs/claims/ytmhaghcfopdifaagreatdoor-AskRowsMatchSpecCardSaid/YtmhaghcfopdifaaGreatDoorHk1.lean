/- Proved: what strings.Contains answers, by its contract. -/
import Derived.Test.YtmhaghcfopdifaaGreatDoorAm3
import Derived.Below
import Derived.Lib.Join
import Derived.Lib.LaidTab
import Derived.LaidLaws
import Derived.Shelf.Strings.OnBuilder
import Derived.Test.YtmhaghcfopdifaaGreatDoorChecked
import Derived.KernelRfl
set_option linter.all false
set_option maxRecDepth 100000
namespace Go.AM
open Go
def tow (P : Program) (hb : Book) (base : Oracle) : Nat → Oracle
 | 0 => base
 | n + 1 => fun f args mem => match base f args mem with
  | some a => some a
  | none => (body P (tow P hb base n) (hb f) n f args mem).map fun r => [(true, r)]
theorem tow_ok {P : Program} {base : Oracle} (hP : ProgOk P) (hb : Book) (hlos : ∀ f, (hb f).los = []) (hbase : OracleOk P base) : ∀ n, OracleOk P (tow P hb base n)
 | 0 => hbase
 | n + 1 => by
  have ih := tow_ok hP hb hlos hbase n
  intro f args mem alts h
  unfold tow at h
  cases hbs : base f args mem with
  | some a =>
   rw [hbs] at h
   simp only [Option.some.injEq] at h
   subst h
   exact hbase f args mem a hbs
  | none =>
   rw [hbs] at h
   cases hb' : body P (tow P hb base n) (hb f) n f args mem with
   | none => rw [hb'] at h; cases h
   | some r =>
    rw [hb'] at h
    simp only [Option.map_some, Option.some.injEq] at h
    subst h
    have hal : AllCuts P (hb f).los mem.length f := by rw [hlos]; exact AllCuts.nil
    refine ⟨(body_sound hP ih (drawSound hP.mixed ih) hal.loops hb').2, fun res hr => ?_⟩
    have hr : some r = some res := hr
    simp only [Option.some.injEq] at hr
    subst hr
    exact callOk_of hP ih hal rfl hb'
end Go.AM

namespace Go.AM
open Go Go.RowKit
section
variable {P : Program}
theorem chg_below {M : Stab} {w w' : World} (h : Below w.heap.size w w') : Chg M w w' :=
 ⟨h.os, h.tape, h.output, h.size, fun b cur T fr hb => ⟨cur, fr, by rw [h.block b (Array.getElem?_eq_some_iff.1 hb).1]; exact hb, rfl, fun _ _ => rfl, .inl rfl⟩,
  fun b ob hb _ => by rw [h.block b (Array.getElem?_eq_some_iff.1 hb).1]; exact hb⟩
theorem callOk_below {f : FuncId} {args rs : List V} (h : ∀ (env : Env) (S : Stab) (w : World) (vs : Array Value), (∀ b o, S b o → b < w.heap.size) → GI P (fun _ _ => False) w → All2 (VRel P env S w) args vs.toList →
  Calls P f vs w fun e w' => ∃ v, e = .returned v ∧ Below w.heap.size w w' ∧ ∀ S', VRel P env S' w' (resultOf rs) v) : CallOk P f args [] (rs, []) := by
 intro B env w vs hpre hall
 refine (h env _ w vs (fun b o hS => hS.2.1) (hpre.rel.gi.step (Chg.refl _ w) fun b o hf => hf.elim) hall).mono fun e w' ⟨v, he, hb, hv⟩ => ⟨v, he, env, ⟨rfl, fun k o hg => (by cases hg), fun k k' o o' hg => (by cases hg), fun k o b x hg => (by cases hg), fun k e ex xs hg => (by cases hg), chg_below hb, hpre.rel.bb, fun _ _ => rfl, hpre.rel.gi⟩, hv _⟩
def joinSp (P : Program) (args : List V) (mem : AL Obj) : Option (List (Bool × Res)) :=
 match args, mem with
 | [.c (.sl e _ xs), .c (.s sep)], [] => (match kinds P e with
  | [.str] => bif isAggB P e || !(Nat.beq (sizeB P e) 1) then none else
    some [(Nat.ble xs.length 140737488355328 && Nat.ble (Lib.join (xs.map D.toS) sep).length 140737488355328, ([.c (.s (Lib.join (xs.map D.toS) sep))], []))]
  | _ => none)
 | _, _ => none
theorem all2_two {α β : Type} {R : α → β → Prop} {x y : α} {l : List β} (h : All2 R [x, y] l) : ∃ a b, l = [a, b] ∧ R x a ∧ R y b := by
 match l, h with
 | [a, b], ⟨h1, h2, _⟩ => exact ⟨a, b, rfl, h1, h2⟩
theorem join_law {f : FuncId} (h0 : ∀ (a : Option Addr) (c : Nat) (sep : ByteArray) (w : World), Calls P f #[.slice a 0 c, .string sep] w fun e w' => e = .returned (.string ⟨#[]⟩) ∧ w' = w)
  (h1 : ∀ (bk o c : Nat) (xs : List ByteArray) (sep : ByteArray) (w : World), (∀ (j : Nat) x, xs[j]? = some x → w.cell? ⟨bk, o + j, none⟩ = some (.string x)) → bk < w.heap.size → xs.length ≤ 140737488355328 → xs.length ≤ c →
   (Lib.join (xs.map (·.data.toList)) sep.data.toList).length ≤ 140737488355328 →
   Calls P f #[.slice (some ⟨bk, o, none⟩) xs.length c, .string sep] w fun e w' => e = .returned (.string ⟨(Lib.join (xs.map (·.data.toList)) sep.data.toList).toArray⟩) ∧ Below w.heap.size w w') :
  ∀ args mem alts, joinSp P args mem = some alts → ∀ res, altK alts some = some res → CallOk P f args mem res := by
 intro args mem alts ha res hr
 unfold joinSp at ha
 split at ha
 case h_2 => cases ha
 rename_i e nl xs sep
 split at ha
 case h_2 => cases ha
 rename_i hk
 cases hc : isAggB P e || !(Nat.beq (sizeB P e) 1) with
 | true => rw [hc] at ha; cases ha
 | false =>
 rw [hc] at ha
 simp only [Bool.or_eq_false_iff, Bool.not_eq_false'] at hc
 have hsz := Nat.eq_of_beq_eq_true hc.2
 simp only [AM.cond_false rfl, Option.some.injEq] at ha
 subst ha
 cases hcc : Nat.ble xs.length 140737488355328 && Nat.ble (Lib.join (xs.map D.toS) sep).length 140737488355328 with
 | false => rw [hcc] at hr; cases hr
 | true =>
 rw [hcc] at hr
 have hr : some (([.c (.s (Lib.join (xs.map D.toS) sep))], []) : Res) = some res := hr
 simp only [Option.some.injEq] at hr
 subst hr
 simp only [Bool.and_eq_true] at hcc
 have hn := Nat.le_of_ble_eq_true hcc.1
 have hl := Nat.le_of_ble_eq_true hcc.2
 refine callOk_below fun env S w vs hS _ hall => ?_
 obtain ⟨v1, v2, hv, r1, r2⟩ := all2_two hall
 have hvs : vs = #[v1, v2] := by rw [← Array.toList_inj]; exact hv
 subst hvs
 have r2 : v2 = .string ⟨sep.toArray⟩ := r2
 subst r2
 have r1 : RepD P w S (.sl e) (.l nl xs) v1 := r1
 have none0 : xs = [] → ∀ a c, v1 = .slice a 0 c → Calls P f #[v1, .string ⟨sep.toArray⟩] w fun e w' => ∃ v, e = .returned v ∧ Below w.heap.size w w' ∧ ∀ S', VRel P env S' w' (resultOf [.c (.s (Lib.join (xs.map D.toS) sep))]) v := by
  intro hx a c hv1
  subst hx hv1
  exact (h0 a c _ w).mono fun e w' ⟨he, hw⟩ => ⟨_, he, hw ▸ Below.refl _ _, fun S' => rfl⟩
 generalize hd : D.l nl xs = d at r1
 cases r1 with
 | nil e d q1 q2 => subst hd; exact none0 q2 _ _ rfl
 | emp e d a cap q1 q2 hm => subst hd; exact none0 q2 _ _ rfl
 | sl e d b off cap cv q1 q2 q3 hm q4 q5 =>
  subst hd
  simp only [D.items] at *
  by_cases hx : xs = []
  ·subst hx; exact none0 rfl _ _ rfl
  have hb : b < w.heap.size := by
   cases xs with
   | nil => exact absurd rfl hx
   | cons x r => exact hS _ _ (q4 0 (by simp) 0 (by rw [hk]; simp)).1
  have hcv : ∀ i, i < xs.length → cv i 0 = .string ⟨(xs.getD i (.i 0)).toS.toArray⟩ := by
   intro i hi
   have := q5 i hi 0 .str (by rw [hk]; rfl)
   unfold elD at this
   rw [hc.1] at this
   simp only [AM.cond_false rfl] at this
   generalize cv i 0 = u at this ⊢
   cases this; rfl
  have hlen : (xs.map fun x => (⟨x.toS.toArray⟩ : ByteArray)).length = xs.length := by simp
  have := h1 b off cap (xs.map fun x => ⟨x.toS.toArray⟩) ⟨sep.toArray⟩ w (fun j x hj => by
    rw [List.getElem?_map] at hj
    obtain ⟨d, hd, rfl⟩ := Option.map_eq_some_iff.1 hj
    have hjl := (List.getElem?_eq_some_iff.1 hd).1
    have h4 := (q4 j hjl 0 (by rw [hk]; simp)).2
    rw [hcv j hjl, hsz, Nat.mul_one, Nat.add_zero, List.getD_eq_getElem?_getD, hd] at h4
    exact h4) hb (by rw [hlen]; exact hn) (by rw [hlen]; exact q3)
  rw [hlen] at this
  have hmap : (xs.map fun x => (⟨x.toS.toArray⟩ : ByteArray)).map (·.data.toList) = xs.map D.toS := by
   rw [List.map_map]
   exact List.map_congr_left fun x _ => rfl
  rw [hmap] at this
  exact (this hl).mono fun e w' ⟨he, hw⟩ => ⟨_, he, hw, fun S' => rfl⟩
end
end Go.AM

namespace Go.AM
open Go
theorem TyEl.mono {P : Program} {T T' : CK → D → Prop} {e : TypeId} {x : D} (h : ∀ k d, T k d → T' k d) (hx : TyEl P T e x) : TyEl P T' e x := by
 unfold TyEl at hx ⊢
 split
 ·rename_i ha
  rw [if_pos ha] at hx
  obtain ⟨cs, h1, h2⟩ := hx
  exact ⟨cs, h1, h2.mono fun k d _ => h k d⟩
 ·rename_i ha
  rw [if_neg ha] at hx
  obtain ⟨k, h1, h2⟩ := hx
  exact ⟨k, h1, h k x h2⟩
theorem TyK.succ {P : Program} : ∀ {m : Nat} {k : CK} {d : D}, TyK P m k d → TyK P (m + 1) k d
 | 0, _, _, h => h.elim
 | m + 1, k, d, h => by
  cases k with
  | sl e =>
   obtain ⟨nl, xs, h1, h2, h3, h4⟩ := h
   exact ⟨nl, xs, h1, h2, h3, fun x hx => (h4 x hx).mono fun k d => TyK.succ⟩
  | _ => exact h
theorem TyK.mono {P : Program} {m m' : Nat} {k : CK} {d : D} (hm : m ≤ m') (h : TyK P m k d) : TyK P m' k d := by
 induction hm with
 | refl => exact h
 | step _ ih => exact ih.succ
def okS (Ts : List TypeId) : CK → Bool
 | .sl e => memB e Ts
 | .oth => false
 | _ => true
def okTs (P : Program) (Ts : List TypeId) : Bool := Ts.all fun e => flatB P 12 e && Nat.beq (sizeB P e) (kinds P e).length && (kinds P e).all (okS Ts) && !Nat.beq (sizeB P e) 0
section
variable {H : Type} {enc : TypeId × Value → H} {P : Program} {w : World} {spare : Nat → Bool} {held : Bool} {Ts : List TypeId}
theorem RT.mono {m m' : Nat} (hm : m ≤ m') {kd : CK × D} {v : Value} (h : RT P w m kd v) : RT P w m' kd v := ⟨h.1.mono hm, h.2⟩
theorem bound_lt {Q : Nat → Nat → Prop} (hmono : ∀ i m m', m ≤ m' → Q i m → Q i m') : ∀ n, (∀ i, i < n → ∃ m, Q i m) → ∃ m, ∀ i, i < n → Q i m
 | 0, _ => ⟨0, fun i hi => by omega⟩
 | n + 1, h => by
  obtain ⟨m, h1⟩ := bound_lt hmono n fun i hi => h i (by omega)
  obtain ⟨m', h2⟩ := h n (by omega)
  refine ⟨max m m', fun i hi => ?_⟩
  by_cases hin : i = n
  ·subst hin; exact hmono _ _ _ (Nat.le_max_right _ _) h2
  ·exact hmono _ _ _ (Nat.le_max_left _ _) (h1 i (by omega))
mutual
def szD : D → Nat
 | .l _ xs => szDs xs + 1
 | .a cs => szDs cs + 1
 | .s l => l.length + 1
 | .i _ => 1
 | .b _ => 1
def szDs : List D → Nat
 | [] => 0
 | x :: r => szD x + szDs r
end
theorem szDs_append : ∀ (xs ys : List D), szDs (xs ++ ys) = szDs xs + szDs ys
 | [], ys => by simp [szDs]
 | x :: xs, ys => by simp only [List.cons_append, szDs, szDs_append xs ys]; omega
theorem szDs_map_le {α : Type} {f : α → D} {c : α → Nat} : ∀ {l : List α}, (∀ i ∈ l, szD (f i) ≤ c i) → szDs (l.map f) ≤ (l.map c).sum
 | [], _ => by simp [szDs]
 | x :: l, h => by
  have h1 := h x (by simp)
  have h2 := szDs_map_le (l := l) fun i hi => h i (by simp [hi])
  simp only [List.map_cons, szDs, List.sum_cons]
  omega
structure BulkOk (bk : DataW H → Nat) (bkA : List (DataW H) → Nat) : Prop where
 lit : ∀ l, 1 ≤ bk (.lit l)
 str : ∀ l, l.length + 1 ≤ bk (.lit (.string l))
 nil : 1 ≤ bk .nil
 slice : ∀ e s, bkA e + 1 ≤ bk (.slice e s)
 agg : ∀ p, bkA p + 1 ≤ bk (.agg p)
 nilA : bkA [] = 0
 consA : ∀ d r, bkA (d :: r) = bk d + bkA r
theorem bkA_of {α : Type} {bk : DataW H → Nat} {bkA : List (DataW H) → Nat} (hB : BulkOk bk bkA) {F : α → Option (DataW H × List MemPlace)} : ∀ {l : List α} {ys : List (DataW H × List MemPlace)}, All2 (fun i y => F i = some y) l ys →
  (l.map fun i => ((F i).map fun y => bk y.1).getD 0).sum = bkA (ys.map (·.1))
 | [], [], _ => by simp [hB.nilA]
 | x :: l, y :: ys, ⟨h1, h2⟩ => by
  simp only [List.map_cons, List.sum_cons, h1, Option.map_some, Option.getD_some, hB.consA, bkA_of hB h2]
 | [], _ :: _, h => h.elim
 | _ :: _, [], h => h.elim
theorem szDs_flat {α : Type} {c : α → Nat} : ∀ {fs : List α} {ls : List (List (CK × D))}, All2 (fun f l => szDs (l.map Prod.snd) ≤ c f) fs ls → szDs (ls.flatten.map Prod.snd) ≤ (fs.map c).sum
 | [], [], _ => by simp [szDs]
 | f :: fs, l :: ls, ⟨h1, h2⟩ => by
  have := szDs_flat h2
  simp only [List.flatten_cons, List.map_append, szDs_append, List.map_cons, List.sum_cons]
  omega
 | [], _ :: _, h => h.elim
 | _ :: _, [], h => h.elim
theorem chunksS {R : CK × D → Value → Prop} {ks : List CK} {sz : Nat} {cs : List Value} {c : Nat → Nat} : ∀ (len : Nat), len * sz ≤ cs.length → (∀ i, i < len → ∃ l : List (CK × D), l.map Prod.fst = ks ∧ All2 R l ((cs.drop (i * sz)).take sz) ∧ szDs (l.map Prod.snd) ≤ c i) →
  ∃ l : List (CK × D), l.map Prod.fst = (List.replicate len ks).flatten ∧ All2 R l (cs.take (len * sz)) ∧ szDs (l.map Prod.snd) ≤ ((List.range len).map c).sum
 | 0, _, _ => ⟨[], by simp, by simp [All2], by simp [szDs]⟩
 | len + 1, hl, h => by
  rw [Nat.add_mul, Nat.one_mul] at hl
  obtain ⟨l, h1, h2, h5⟩ := chunksS len (by omega) fun i hi => h i (by omega)
  obtain ⟨l', h3, h4, h6⟩ := h len (by omega)
  refine ⟨l ++ l', ?_, ?_, ?_⟩
  ·rw [List.map_append, h1, h3, List.replicate_succ', List.flatten_append]; simp
  ·rw [Nat.add_mul, Nat.one_mul, List.take_add]
   exact h2.append h4
  ·rw [List.map_append, szDs_append, List.range_succ, List.map_append, List.sum_append]
   simp
   omega
variable {bk : DataW H → Nat} {bkA : List (DataW H) → Nat}
def aggN (P : Program) (T : TypeId) : Nat := bif isAggB P T then 1 else 0
def HR (enc : TypeId × Value → H) (P : Program) (w : World) (spare : Nat → Bool) (held : Bool) (Ts : List TypeId) (bk : DataW H → Nat) (fuel : Nat) : Prop := ∀ (n : Nat) (T : TypeId) (cs : List Value) (d : DataW H) (ps : List MemPlace), flatB P n T = true → (kindsOf P n T).all (okS Ts) = true → DataW.trod enc P w 0 spare held fuel T cs = some (d, ps) →
 ∃ m, ∃ kds : List (CK × D), kds.map Prod.fst = kindsOf P n T ∧ All2 (RT P w m) kds cs ∧ szDs (kds.map Prod.snd) + aggN P T ≤ bk d
theorem trod_rec (hB : BulkOk bk bkA) (hTs : okTs P Ts = true) : ∀ fuel, HR enc P w spare held Ts bk fuel
 | 0 => fun n T cs d ps _ _ h => by cases h
 | fuel + 1 => by
  have ih := trod_rec hB hTs fuel
  intro n T cs d ps hf hk h
  cases n with
  | zero => cases hf
  | succ n =>
  unfold DataW.trod at h
  split at h
  ·rename_i b hu
   simp only [kindsOf, hu] at hk ⊢
   simp only [Option.some.injEq, Prod.mk.injEq] at h
   obtain ⟨rfl, _⟩ := h
   exact ⟨1, [(.bool, .b b)], rfl, ⟨⟨⟨b, rfl⟩, .bool (.b b)⟩, trivial⟩, by rw [show aggN P T = 0 by unfold aggN isAggB; rw [hu]; rfl]; exact hB.lit _⟩
  ·rename_i k k' i hu
   split at h
   ·rename_i hw
    obtain ⟨rfl, hw⟩ := hw
    simp only [kindsOf, hu] at hk ⊢
    simp only [Option.some.injEq, Prod.mk.injEq] at h
    obtain ⟨rfl, _⟩ := h
    exact ⟨1, [(.int k', .i i)], rfl, ⟨⟨⟨i, rfl, hw⟩, .int k' (.i i)⟩, trivial⟩, by rw [show aggN P T = 0 by unfold aggN isAggB; rw [hu]; rfl]; exact hB.lit _⟩
   ·cases h
  all_goals first
   | (rename_i hu; simp [flatB, hu] at hf; done)
   | skip
  ·rename_i x hu
   split at h
   ·rename_i hl
    simp only [kindsOf, hu] at hk ⊢
    simp only [Option.some.injEq, Prod.mk.injEq] at h
    obtain ⟨rfl, _⟩ := h
    exact ⟨1, [(.str, .s x.data.toList)], rfl, ⟨⟨⟨x.data.toList, rfl, by rw [Array.length_toList]; exact hl⟩, by have := RepD.str (P := P) (w := w) (S := Sw w) (.s x.data.toList); simpa [D.toS] using this⟩, trivial⟩, by rw [show aggN P T = 0 by unfold aggN isAggB; rw [hu]; rfl]; exact hB.str _⟩
   ·cases h
  ·rename_i e hu
   simp only [kindsOf, hu] at hk ⊢
   simp only [Option.some.injEq, Prod.mk.injEq] at h
   obtain ⟨rfl, _⟩ := h
   exact ⟨1, [(.sl e, .l true [])], rfl, ⟨⟨⟨true, [], rfl, fun _ => rfl, Nat.zero_le _, fun x hx => by simp at hx⟩, .nil e _ rfl rfl⟩, trivial⟩, by rw [show aggN P T = 0 by unfold aggN isAggB; rw [hu]; rfl]; exact hB.nil⟩
  ·rename_i e a len cap hu
   simp only [kindsOf, hu, List.all_cons, List.all_nil, Bool.and_true] at hk ⊢
   have hq := List.all_eq_true.1 hTs e (memB_iff.1 hk)
   simp only [Bool.and_eq_true] at hq
   obtain ⟨⟨⟨q1, q2⟩, q3⟩, q4⟩ := hq
   dsimp only at h
   split at h
   ·rename_i hc
    obtain ⟨elems, he, h⟩ := Option.bind_eq_some_iff.1 h
    have hx := mapM_some he
    obtain ⟨rest, _, h⟩ := Option.map_eq_some_iff.1 h
    simp only [Prod.mk.injEq] at h
    obtain ⟨rfl, _⟩ := h
    have hbk := bkA_of hB hx
    have hbs := hB.slice (elems.map (·.1)) (rest.map (·.1))
    by_cases h0 : len = 0
    ·subst h0
     exact ⟨1, [(.sl e, .l false [])], rfl, ⟨⟨⟨false, [], rfl, nofun, Nat.zero_le _, nofun⟩, .emp e _ a cap rfl rfl hc.2.2⟩, trivial⟩, by rw [show aggN P T = 0 by unfold aggN isAggB; rw [hu]; rfl]; show szDs [] + 1 + 0 + 0 ≤ _; simp only [szDs]; omega⟩
    ·have q2 : sizeB P e = (kinds P e).length := Nat.eq_of_beq_eq_true q2
     have hsz : 0 < sizeB P e := by
      rcases Nat.eq_zero_or_pos (sizeB P e) with h | h
      ·rw [h] at q4; cases q4
      ·exact h
     have hel0 : ∀ i, ∃ p : Nat × D × (Nat → Value), i < len → TyEl P (TyK P p.1) e p.2.1 ∧ (∀ (j : Nat) (k : CK), (kinds P e)[j]? = some k → w.cell? (a.add (i * sizeB P e + j)) = some (p.2.2 j) ∧ RepD P w (Sw w) k (elD P e p.2.1 j) (p.2.2 j)) ∧ szD p.2.1 ≤ (((w.cells? 0 (a.add (i * P.cellsOf e)) (P.cellsOf e)).bind (DataW.trod enc P w 0 spare held fuel e)).map fun y => bk y.1).getD 0 := by
      intro i
      by_cases hi : i < len
      ·obtain ⟨y, _, hy⟩ := hx.get (List.getElem?_range hi)
       obtain ⟨cs, hcs, hd⟩ := Option.bind_eq_some_iff.1 hy
       obtain ⟨_, hl, hcell⟩ := World.cells?_some hcs
       obtain ⟨m, kds, k1, k2, k3⟩ := ih 12 e cs y.1 y.2 q1 q3 hd
       obtain ⟨x, x1, x2, x3⟩ := elem_rep q1 k1 k2
       refine ⟨(m, x, fun j => cs.getD j undef), fun _ => ⟨x1, fun j k hj => ?_, ?_⟩⟩
       case refine_2 =>
        rw [hy]
        simp only [Option.map_some, Option.getD_some]
        rcases x3 with ⟨ha, rfl⟩ | ⟨ha, x3⟩
        ·unfold aggN at k3; rw [ha] at k3; exact k3
        ·unfold aggN at k3; rw [ha, x3] at k3; simpa [szDs] using k3
       obtain ⟨v, h1, h2⟩ := x2 j k hj
       have hjl := (List.getElem?_eq_some_iff.1 h1).1
       have := hcell j (by omega)
       rw [Addr.add_add, h1] at this
       have e1 : cs.getD j undef = v := by rw [List.getD_eq_getElem?_getD, h1]; rfl
       simp only [e1]
       exact ⟨this, h2⟩
      ·exact ⟨(0, .i 0, fun _ => undef), fun h => absurd h hi⟩
     obtain ⟨g, hg⟩ := Classical.axiomOfChoice hel0
     obtain ⟨m, hm⟩ := bound_lt (Q := fun i m => TyEl P (TyK P m) e (g i).2.1) (fun i m m' hmm h => h.mono fun k d => TyK.mono hmm) len fun i hi => ⟨_, (hg i hi).1⟩
     have hks : 0 < (kinds P e).length := by omega
     have hspot : a.spot = none := by
      have := ((hg 0 (by omega)).2.1 0 _ (List.getElem?_eq_getElem hks)).1
      rw [Nat.zero_mul] at this
      exact World.cell?_spot this
     have hadd : ∀ n, a.add n = ⟨a.block, a.off + n, none⟩ := fun n => by
      unfold Addr.add; split
      ·rename_i h; subst h; cases a; simp_all
      ·rfl
     have hlen : ((List.range len).map fun i => (g i).2.1).length = len := by simp
     refine ⟨m + 1, [(.sl e, .l false ((List.range len).map fun i => (g i).2.1))], rfl, ⟨⟨⟨false, _, rfl, nofun, by rw [hlen]; omega, ?_⟩, ?_⟩, trivial⟩, ?_⟩
     ·intro x hx
      obtain ⟨i, hi, rfl⟩ := List.mem_map.1 hx
      exact hm i (List.mem_range.1 hi)
     ·have ha : a = ⟨a.block, a.off, none⟩ := by cases a; simp_all
      rw [ha]
      have := RepD.sl (P := P) (w := w) (S := Sw w) e (.l false ((List.range len).map fun i => (g i).2.1)) a.block a.off cap (fun i j => (g i).2.2 j) rfl q2 (by simp only [D.items]; omega) hc.2.2
       (fun i hi j hj => by
        simp only [D.items, hlen] at hi
        have := ((hg i hi).2.1 j _ (List.getElem?_eq_getElem hj)).1
        rw [hadd, ← Nat.add_assoc] at this
        exact ⟨cell_lt this, this⟩)
       (fun i hi j k hk => by
        simp only [D.items, hlen] at hi
        have := ((hg i hi).2.1 j k hk).2
        simp only [D.items, List.getD_eq_getElem?_getD, List.getElem?_map, List.getElem?_range hi]
        exact this)
      simpa only [D.items, hlen] using this
     ·have hs := szDs_map_le (f := fun i => (g i).2.1) (l := List.range len) fun i hi => (hg i (List.mem_range.1 hi)).2.2
      rw [hbk] at hs
      rw [show aggN P T = 0 by unfold aggN isAggB; rw [hu]; rfl]
      show szDs _ + 1 + 0 + 0 ≤ _
      omega
   ·cases h
  ·rename_i cs _ _ fs hu
   split at h
   ·rename_i hl
    simp only [flatB, hu, Bool.and_eq_true, List.all_eq_true] at hf
    simp only [kindsOf, hu] at hk ⊢
    obtain ⟨xs, hxs, he⟩ := Option.map_eq_some_iff.1 h
    simp only [Prod.mk.injEq] at he
    obtain ⟨rfl, _⟩ := he
    have hx := mapM_some hxs
    have hbk := bkA_of hB hx
    have hba := hB.agg (xs.map (·.1))
    have hb : ∃ m, ∀ j, j < fs.toList.length → ∀ f, fs.toList[j]? = some f → ∃ l : List (CK × D), l.map Prod.fst = kindsOf P n f.type ∧ All2 (RT P w m) l ((cs.drop f.offset).take (sizeB P f.type)) ∧ szDs (l.map Prod.snd) ≤ ((DataW.trod enc P w 0 spare held fuel f.type ((cs.drop f.offset).take (P.cellsOf f.type))).map fun y => bk y.1).getD 0 := by
     refine bound_lt (Q := fun j m => ∀ f, fs.toList[j]? = some f → ∃ l : List (CK × D), l.map Prod.fst = kindsOf P n f.type ∧ All2 (RT P w m) l ((cs.drop f.offset).take (sizeB P f.type)) ∧ szDs (l.map Prod.snd) ≤ ((DataW.trod enc P w 0 spare held fuel f.type ((cs.drop f.offset).take (P.cellsOf f.type))).map fun y => bk y.1).getD 0) (fun j m m' hmm h f hf => ?_) _ fun j hj => ?_
     ·obtain ⟨l, h1, h2, h3⟩ := h f hf
      exact ⟨l, h1, h2.mono fun _ _ _ => RT.mono hmm, h3⟩
     ·have hjf := List.getElem?_eq_getElem hj
      obtain ⟨y, _, hy⟩ := hx.get hjf
      have hfm := List.mem_of_getElem? hjf
      have hff := hf.2 _ hfm
      have hkf : (kindsOf P n (fs.toList[j]).type).all (okS Ts) = true := by
       rw [List.all_eq_true] at hk ⊢
       exact fun k hkk => hk k (List.mem_flatMap.2 ⟨_, hfm, hkk⟩)
      obtain ⟨m, l, h1, h2, h3⟩ := ih n _ _ y.1 y.2 hff.1 hkf hy
      refine ⟨m, fun f hff => ?_⟩
      rw [hjf] at hff
      cases hff
      exact ⟨l, h1, h2, by rw [hy]; exact Nat.le_trans (Nat.le_add_right _ _) h3⟩
    obtain ⟨m, hb⟩ := hb
    have := contig_split (P := P) (kds := fun f l => l.map Prod.fst = kindsOf P n f.type ∧ szDs (l.map Prod.snd) ≤ ((DataW.trod enc P w 0 spare held fuel f.type ((cs.drop f.offset).take (P.cellsOf f.type))).map fun y => bk y.1).getD 0) (R := RT P w m) hf.1 hl (fun f hfm => by
     obtain ⟨j, hj⟩ := List.getElem?_of_mem hfm
     obtain ⟨l, h1, h2, h3⟩ := hb j (List.getElem?_eq_some_iff.1 hj).1 f hj
     refine ⟨l, ⟨h1, h3⟩, h2, ?_⟩
     have : l.length = (l.map Prod.fst).length := by simp
     rw [this, h1, Nat.eq_of_beq_eq_true (hf.2 f hfm).2])
    obtain ⟨ls, h1, h2⟩ := this
    have hfl := szDs_flat (h1.mono fun f l _ h => h.2)
    rw [hbk] at hfl
    refine ⟨m, ls.flatten, ?_, by simpa using h2, by rw [show aggN P T = 1 by unfold aggN isAggB; rw [hu]; rfl]; omega⟩
    rw [List.map_flatten]
    exact all2_flat (h1.mono fun f l _ h => h.1)
   ·cases h
  ·rename_i cs _ _ len e hu
   split at h
   ·rename_i hl
    simp only [flatB, hu, Bool.and_eq_true] at hf
    simp only [kindsOf, hu] at hk ⊢
    obtain ⟨xs, hxs, he⟩ := Option.map_eq_some_iff.1 h
    simp only [Prod.mk.injEq] at he
    obtain ⟨rfl, _⟩ := he
    have hx := mapM_some hxs
    have hbk := bkA_of hB hx
    have hba := hB.agg (xs.map (·.1))
    have e1 := hl.trans (Nat.eq_of_beq_eq_true hf.1.1)
    have hb : ∃ m, ∀ i, i < len → ∃ l : List (CK × D), l.map Prod.fst = kindsOf P n e ∧ All2 (RT P w m) l ((cs.drop (i * sizeB P e)).take (sizeB P e)) ∧ szDs (l.map Prod.snd) ≤ ((DataW.trod enc P w 0 spare held fuel e ((cs.drop (i * P.cellsOf e)).take (P.cellsOf e))).map fun y => bk y.1).getD 0 := by
     refine bound_lt (Q := fun i m => ∃ l : List (CK × D), l.map Prod.fst = kindsOf P n e ∧ All2 (RT P w m) l ((cs.drop (i * sizeB P e)).take (sizeB P e)) ∧ szDs (l.map Prod.snd) ≤ ((DataW.trod enc P w 0 spare held fuel e ((cs.drop (i * P.cellsOf e)).take (P.cellsOf e))).map fun y => bk y.1).getD 0) (fun i m m' hmm ⟨l, h1, h2, h3⟩ => ⟨l, h1, h2.mono fun _ _ _ => RT.mono hmm, h3⟩) _ fun i hi => ?_
     obtain ⟨y, _, hy⟩ := hx.get (List.getElem?_range hi)
     obtain ⟨m, l, h1, h2, h3⟩ := ih n e _ y.1 y.2 hf.1.2 (by
      rw [List.all_eq_true] at hk ⊢
      refine fun k hkk => hk k ?_
      cases len with
      | zero => omega
      | succ len => rw [List.replicate_succ, List.flatten_cons]; simp [hkk]) hy
     exact ⟨m, l, h1, h2, by rw [hy]; exact Nat.le_trans (Nat.le_add_right _ _) h3⟩
    obtain ⟨m, hb⟩ := hb
    obtain ⟨l, h1, h2, h3⟩ := chunksS (R := RT P w m) (ks := kindsOf P n e) (sz := sizeB P e) len (Nat.le_of_eq e1.symm) hb
    rw [hbk] at h3
    refine ⟨m, l, h1, ?_, by rw [show aggN P T = 1 by unfold aggN isAggB; rw [hu]; rfl]; omega⟩
    rw [← e1, List.take_length] at h2
    exact h2
   ·cases h
  ·cases h
def parR (P : Program) (Ts : List TypeId) (T : TypeId) : Bool := flatB P 12 T && (kinds P T).all (okS Ts) && stB P T
theorem arg_relR {W : World} {env : Env} {S : Stab} {base : Nat} (hB : BulkOk bk bkA) (hTs : okTs P Ts = true) {T : TypeId} {v : Value} {d : DataW H} {ps : List MemPlace} (hp : parR P Ts T = true) (h : DataW.Trod enc P W 0 (fun _ => true) true T v d ps) (ho : Value.okWide P W .any base T v)
  (hk : Keeps W (Sw W) W S) : ∃ m ds, ArgOk P m T ds ∧ VRel P env S W (argV P T ds) v ∧ szDs ds ≤ bk d := by
 unfold parR at hp
 simp only [Bool.and_eq_true] at hp
 obtain ⟨⟨p1, p2⟩, _⟩ := hp
 obtain ⟨fuel, h⟩ := h
 obtain ⟨m, kds, k1, k2, k3⟩ := trod_rec hB hTs fuel 12 T _ d ps p1 p2 h
 have k1 : kds.map Prod.fst = kinds P T := k1
 refine ⟨m, kds.map Prod.snd, ?_, ?_, Nat.le_trans (Nat.le_add_right _ _) k3⟩
 ·unfold ArgOk
  rw [← k1]
  refine .of_get (by simp) fun j x y hx hy => ?_
  rw [List.getElem?_map] at hx hy
  obtain ⟨kd, h1, rfl⟩ := Option.map_eq_some_iff.1 hx
  rw [h1] at hy
  cases hy
  obtain ⟨v, _, hv⟩ := k2.get h1
  exact hv.1
 ·have hz := mkZ_rel (env := env) k2 hk
  rw [k1] at hz
  exact argV_rel p1 ho hz
theorem args_relR {W : World} {env : Env} {S : Stab} {base : Nat} (hB : BulkOk bk bkA) (hTs : okTs P Ts = true) (hk : Keeps W (Sw W) W S) : ∀ {Tl : List TypeId} {vs : List Value} {ds : List (DataW H)} {ps : List MemPlace}, (∀ T ∈ Tl, parR P Ts T = true) → DataW.TrodAll enc P W 0 (fun _ => true) true Tl vs ds ps →
  (∀ (j : Nat) t v, Tl[j]? = some t → vs[j]? = some v → Value.okWide P W .any base t v) → ∃ m dss, All2 (ArgOk P m) Tl dss ∧ All2 (VRel P env S W) (argVs P Tl dss) vs ∧ (dss.map szDs).sum ≤ bkA ds
 | [], vs, ds, ps, _, h, _ => by
  obtain ⟨rfl, rfl, rfl⟩ := ChangeShapes.trodAll_nil h
  exact ⟨0, [], trivial, trivial, by simp⟩
 | T :: Tl, vs, ds, ps, hp, h, ho => by
  obtain ⟨v, vs1, d, ds1, a, b, rfl, rfl, rfl, h1, h2⟩ := ChangeShapes.trodAll_cons h
  obtain ⟨m, x, q1, q2, q5⟩ := arg_relR (env := env) hB hTs (hp T (by simp)) h1 (ho 0 T v rfl rfl) hk
  obtain ⟨m', xs, q3, q4, q6⟩ := args_relR hB hTs hk (fun T hT => hp T (by simp [hT])) h2 (fun j t v ht hv => ho (j + 1) t v (by simpa using ht) (by simpa using hv))
  exact ⟨max m m', x :: xs, ⟨q1.mono fun _ _ _ => TyK.mono (Nat.le_max_left _ _), q3.mono fun _ _ _ h => h.mono fun _ _ _ => TyK.mono (Nat.le_max_right _ _)⟩, ⟨q2, q4⟩, by rw [hB.consA, List.map_cons, List.sum_cons]; omega⟩
theorem law_callR {W : World} {f : FuncId} {fn : Func} {s : ChangeSpec} {apart fresh handsOn again : Bool} {tb : TypeId} (hB : BulkOk bk bkA) (Ts : List TypeId) (hTs : okTs P Ts = true) (hl : laidOutB P = true) (hvars : s.vars = [])
  (hres : fn.resultTypes = #[tb]) (htb : P.underlying tb = some .bool) (hpar : fn.params.all (parR P Ts) = true) (hs : ∀ l, l.length = fn.params.size → s.fn H l = { results := [.lit (.bool true)], args := l })
  {base : Nat} {args : Array Value} {ds gs : List (DataW H)} {before : List MemPlace} (hc : ∀ m dss, All2 (ArgOk P m) fn.params.toList dss → (dss.map szDs).sum ≤ bkA ds → CallOk P f (argVs P fn.params.toList dss) [] ([.c (.b true)], []))
  (hgi : ∀ {M : Stab}, (∀ b o, ¬ M b o) → GI P M W)
  (hok : ∀ (j : Nat) t v, fn.params[j]? = some t → args[j]? = some v → Value.okWide P W .any base t v)
  (hW : DataW.Whole enc P fn.params.toList s.vars apart W args.toList ds gs before) : Calls P f args W fun e W' => ∃ v, e = .returned v ∧ s.post enc P fn apart fresh handsOn again W args v W' := by
 have hpar' : ∀ T ∈ fn.params.toList, parR P Ts T = true := by
  rw [Array.all_eq_true_iff_forall_mem] at hpar
  exact fun T hT => hpar T (by simpa using hT)
 let env : Env := fun _ => ⟨0, 0, none⟩
 have hkeep : Keeps W (Sw W) W (Sof P (Sw W) (Mut0 P env []) W.heap.size env [] W) := fun b o v hS hc => ⟨⟨.inl hS, hS, fun k ob hg => by cases hg⟩, hc⟩
 obtain ⟨p, q, h1, _⟩ := id hW
 obtain ⟨m, dss, d1, d2, d3⟩ := args_relR (env := env) hB hTs hkeep hpar' h1 (fun j t v ht hv => hok j t v (by simpa using ht) (by simpa using hv))
 exact law_end hl hvars hres htb (fun T hT => by
  have := hpar' T hT
  unfold parR at this
  simp only [Bool.and_eq_true] at this
  exact this.2) hs (hc m dss d1 d3) hgi d2 hW
end
end Go.AM

namespace Go.AM
open Go
section
variable {P : Program} {W : World}
def GAt (W : World) (g : Nat) (ps : List (Value → Prop)) : Prop := ∃ cur T fr, W.heap[g]? = some (.cells cur T fr) ∧ cur.size = ps.length ∧ ∀ (o : Nat) p v, ps[o]? = some p → cur[o]? = some v → p v
theorem gi_of {a b c d : Nat} (ha : P.globalNamed "internal/bytealg.MaxLen" = some a) (hb : P.globalNamed "internal/strconv.uint64pow10" = some b) (hc : P.globalNamed "strconv.ErrSyntax" = some c) (hd : P.globalNamed "strconv.ErrRange" = some d)
  (h1 : GAt W a [isIntV]) (h2 : GAt W b ((List.range 20).map fun i v => v = .int .u64 ((10 ^ i : Nat) : Int))) (h3 : GAt W c [isErrV]) (h4 : GAt W d [isErrV]) {M : Stab} (hM : ∀ b o, ¬ M b o) : GI P M W := by
 intro x hx g hg
 refine ⟨hM g, ?_⟩
 simp only [gspecs, List.mem_cons, List.not_mem_nil, or_false] at hx
 rcases hx with rfl | rfl | rfl | rfl
 ·obtain rfl := Option.some.inj (ha.symm.trans hg); exact h1
 ·obtain rfl := Option.some.inj (hb.symm.trans hg); exact h2
 ·obtain rfl := Option.some.inj (hc.symm.trans hg); exact h3
 ·obtain rfl := Option.some.inj (hd.symm.trans hg); exact h4
theorem one_cell {cur : Array Value} {p : Value → Prop} {v0 : Value} (h : cur = #[v0]) (hp : p v0) : ∀ (o : Nat) q v, ([p] : List (Value → Prop))[o]? = some q → cur[o]? = some v → q v := by
 intro o q v hq hv
 subst h
 cases o with
 | zero => simp at hq hv; subst hq hv; exact hp
 | succ o => simp at hv
theorem gat_int {g t : Nat} {zero : Array Value} (hs : W.ShapedOpen P) (hg : g < P.globals.size) (hrow : (((begin P (fun _ _ => 0) default).world.heap[g]?).bind Obj.row?) = some (zero, t)) (hz : zero.size = 1) (hb : P.buildable t = true)
  (hct : P.cellTypes P.depth t = some [t]) (hu : P.underlying t = some (.int .i64)) : GAt W g [isIntV] := by
 obtain ⟨cs, h1, h2, h3⟩ := hs.1 g zero t hg hrow
 obtain ⟨ts, q1, _, q2⟩ := h3 hb
 rw [hct] at q1
 obtain rfl := Option.some.inj q1
 have hsz : cs.size = 1 := h2.trans hz
 have hcl : 0 < cs.size := by omega
 obtain ⟨u, q3, q4⟩ := q2 0 cs[0] (Array.getElem?_eq_getElem hcl)
 obtain rfl : t = u := by simpa using q3
 have hv : isIntV cs[0] := by
  unfold Cell.ok at q4
  rw [hu] at q4
  generalize cs[0] = v at q4 ⊢
  cases v with
  | int k' n => exact ⟨n, by rw [q4.1]⟩
  | _ => exact False.elim q4
 refine ⟨cs, t, _, h1, hsz, one_cell (v0 := cs[0]) ?_ hv⟩
 apply Array.ext
 ·simpa using hsz
 ·intro i hi hi'; simp at hi'; subst hi'; rfl
theorem gat_tab {g : Nat} {name : String} {k : IntKind} {zs : List Int} (hg : P.globalNamed name = some g) (h : Lib.TabIs P W name k zs) {ps : List (Value → Prop)} (hl : ps.length = zs.length) (hp : ∀ (i : Nat) p z, ps[i]? = some p → zs[i]? = some z → p (.int k z)) : GAt W g ps := by
 unfold Lib.TabIs World.var? at h
 rw [hg] at h
 simp only [Option.bind_some] at h
 split at h
 ·rename_i cs T fr hh
  simp only [Option.some.injEq] at h
  subst h
  refine ⟨_, T, fr, hh, by simp [hl], fun o p v q1 q2 => ?_⟩
  simp only [List.getElem?_toArray, List.getElem?_map, Option.map_eq_some_iff] at q2
  obtain ⟨z, q3, rfl⟩ := q2
  exact hp o p z q1 q3
 ·cases h
theorem laid_get {x : String × DataW Unit} : ∀ {l : List (String × DataW Unit)} {ps : List MemPlace}, DataW.LaidVars P W l ps → x ∈ l →
  ∃ g t cs fuel p, P.globalNamed x.1 = some g ∧ (P.globals[g]?).map (·.type) = some t ∧ W.var? P x.1 = some cs ∧ DataW.trod (fun _ => ()) P W 0 (fun _ => true) false fuel t cs.toList = some (x.2, p)
 | (n, d) :: l, ps, h, hx => by
  obtain ⟨g, t, cs, fuel, p, q, h1, h2, h3, h4, h5, _⟩ := h
  rcases List.mem_cons.1 hx with rfl | hx
  ·exact ⟨g, t, cs, fuel, p, h1, h2, h3, h4⟩
  ·exact laid_get h5 hx
def ifaceB (P : Program) (t : TypeId) : Bool := match P.underlying t with
 | some (.interface _) => true
 | _ => false
theorem gat_err {l : List (String × DataW Unit)} {name tn : String} {g t : Nat} {d : DataW Unit} (h : laidMet P l W) (hx : (name, DataW.iface tn d) ∈ l) (hg : P.globalNamed name = some g) (ht : (P.globals[g]?).map (·.type) = some t) (hi : ifaceB P t = true) : GAt W g [isErrV] := by
 obtain ⟨ms, hu⟩ : ∃ ms, P.underlying t = some (.interface ms) := by
  unfold ifaceB at hi
  split at hi
  ·rename_i ms h; exact ⟨ms, h⟩
  ·cases hi
 obtain ⟨ps, hl, _⟩ := h
 obtain ⟨g', t', cs, fuel, p, q1, q2, q3, q4⟩ := laid_get hl hx
 obtain rfl := Option.some.inj (hg.symm.trans q1)
 obtain rfl := Option.some.inj (ht.symm.trans q2)
 unfold World.var? at q3
 rw [hg] at q3
 simp only [Option.bind_some] at q3
 split at q3
 ·rename_i cs' T fr hh
  simp only [Option.some.injEq] at q3
  subst q3
  cases fuel with
  | zero => cases q4
  | succ fuel =>
   unfold DataW.trod at q4
   rw [hu] at q4
   have hone : ∃ u v, cs'.toList = [.iface u v] := by
    generalize hcl : cs'.toList = cl at q4
    match cl, q4 with
    | [.iface u v], _ => exact ⟨u, v, rfl⟩
    | [.nilIface], q4 => simp at q4
   obtain ⟨u, v, hone⟩ := hone
   have : cs' = #[.iface u v] := by rw [← Array.toList_inj]; exact hone
   exact ⟨cs', T, fr, hh, by rw [this]; rfl, one_cell this (.inr ⟨u, v, rfl⟩)⟩
 ·cases q3
end
end Go.AM

set_option linter.unusedVariables false
set_option linter.unusedSimpArgs false
set_option maxRecDepth 100000
namespace Go.Proofs.YtmhaghcfopdifaaGreatDoor
open Go Go.AM
theorem progOk : ProgOk Tryz.prog := progOk_of (by kernel_rfl)
def Tryz.lays156_ren : Go.Shelf.Ren := ⟨fun | 156 => 98 | 165 => 190 | 166 => 191 | 169 => 192 | 240 => 265 | 241 => 266 | 276 => 303 | 277 => 304 | n => n, fun | 31 => 42 | 9 => 9 | 3 => 3 | 4 => 4 | 0 => 0 | 20 => 20 | 72 => 207 | 76 => 210 | 70 => 204 | 37 => 205 | 75 => 209 | 127 => 291 | 164 => 319 | 5 => 5 | 80 => 203 | n => n, fun | n => n⟩
theorem Tryz.lays156 : Go.Proofs.Lays.n156 Tryz.prog Tryz.lays156_ren := {
 mixed := by kernel_rfl
 f156 := Tryz.func98.trans (congrArg some (by kernel_rfl))
 f165 := Tryz.func190.trans (congrArg some (by kernel_rfl))
 f166 := Tryz.func191.trans (congrArg some (by kernel_rfl))
 f169 := Tryz.func192.trans (congrArg some (by kernel_rfl))
 f240 := Tryz.func265.trans (congrArg some (by kernel_rfl))
 f241 := Tryz.func266.trans (congrArg some (by kernel_rfl))
 f276 := Tryz.func303.trans (congrArg some (by kernel_rfl))
 f277 := Tryz.func304.trans (congrArg some (by kernel_rfl))
 t0 := Tryz.underlying0
 a0 := Tryz.isAgg0
 z0 := Tryz.sizeOf0
 v0 := Tryz.zeroValue0
 t3 := Tryz.underlying3
 a3 := Tryz.isAgg3
 z3 := Tryz.sizeOf3
 v3 := Tryz.zeroValue3
 t4 := Tryz.underlying4
 a4 := Tryz.isAgg4
 z4 := Tryz.sizeOf4
 v4 := Tryz.zeroValue4
 t9 := Tryz.underlying9
 a9 := Tryz.isAgg9
 z9 := Tryz.sizeOf9
 v9 := Tryz.zeroValue9
 t20 := Tryz.underlying20
 a20 := Tryz.isAgg20
 z20 := Tryz.sizeOf20
 v20 := Tryz.zeroValue20
 t31 := Tryz.underlying42
 a31 := Tryz.isAgg42
 z31 := Tryz.sizeOf42
 v31 := Tryz.zeroValue42
 t37 := Tryz.underlying205
 a37 := Tryz.isAgg205
 z37 := Tryz.sizeOf205
 v37 := Tryz.zeroValue205
 t70 := Tryz.underlying204
 a70 := Tryz.isAgg204
 z70 := Tryz.sizeOf204
 v70 := Tryz.zeroValue204
 t72 := Tryz.underlying207
 a72 := Tryz.isAgg207
 z72 := Tryz.sizeOf207
 v72 := Tryz.zeroValue207
 t75 := Tryz.underlying209
 a75 := Tryz.isAgg209
 z75 := Tryz.sizeOf209
 v75 := Tryz.zeroValue209
 t76 := Tryz.underlying210
 a76 := Tryz.isAgg210
 z76 := Tryz.sizeOf210
 v76 := Tryz.zeroValue210
 t127 := Tryz.underlying291
 a127 := Tryz.isAgg291
 z127 := Tryz.sizeOf291
 v127 := Tryz.zeroValue291
 t164 := Tryz.underlying319
 a164 := Tryz.isAgg319
 z164 := Tryz.sizeOf319
 v164 := Tryz.zeroValue319 }
theorem Tryz.Builder_Extra_156 : Builder.Extra Tryz.prog Tryz.lays156_ren := {
 sizeBuilder := by kernel_rfl
 liesBuilder := by kernel_rfl
 t5 := Tryz.underlying5
 a5 := Tryz.isAgg5
 z5 := Tryz.sizeOf5
 v5 := Tryz.zeroValue5
 infoByte := by kernel_rfl
 cellsByte := by kernel_rfl
 sizeByte := by kernel_rfl
 neB5 := by decide }
noncomputable def J0 : Oracle := ext 98 (joinSp Tryz.prog) noOracle
theorem J0_ok : OracleOk Tryz.prog J0 := ext_ok noOracle_ok (AM.enters_of (by kernel_rfl)) (join_law (fun a c sep w => Any.strings_Join_none Tryz.lays156 Tryz.Builder_Extra_156 a c sep w) fun bk o c xs sep w a1 a2 a3 a4 a5 => Any.strings_Join Tryz.lays156 Tryz.Builder_Extra_156 bk o c xs sep w a1 a2 a3 a4 a5)
noncomputable def bk : Book := fun _ => {}
noncomputable def R1 : Oracle := tow Tryz.prog bk J0 400
theorem R1_ok : OracleOk Tryz.prog R1 := tow_ok progOk bk (fun _ => rfl) J0_ok 400
theorem read_run : R1 18 [.c (.s [114, 117, 110, 32, 97, 110, 100, 32, 110, 111, 116, 32, 35, 120])] [] = some [(true, ([.g [.i .i64 1, .i .i64 0, .i .i64 0, .i .i64 0, .s [], .sl 24 false [.a [.i 4, .i 0, .i 1, .i 0, .s [], .l true []], .a [.i 3, .i 0, .i 0, .i 0, .s [], .l false [.a [.i 5, .i 0, .i 0, .i 0, .s [120], .l true []]]]]], .c (.i .i64 0), .c (.i .i64 0)], []))] := by kernel_rfl
noncomputable def readSh : Sh := { tmps := [(0, .c (.ks [114, 117, 110, 32, 97, 110, 100, 32, 110, 111, 116, 32, 35, 120]))], mem := [] }
noncomputable def readA (_ : List Lf) : List (Bool × Res) := [(true, ([.g [.i .i64 1, .i .i64 0, .i .i64 0, .i .i64 0, .s [], .sl 24 false [.a [.i 4, .i 0, .i 1, .i 0, .s [], .l true []], .a [.i 3, .i 0, .i 0, .i 0, .s [], .l false [.a [.i 5, .i 0, .i 0, .i 0, .s [120], .l true []]]]]], .c (.i .i64 0), .c (.i .i64 0)], []))]
theorem read_fn : FnOk Tryz.prog 18 readSh readA := spSh_law fun L x hx => by
 have hx : some (([.g [.i .i64 1, .i .i64 0, .i .i64 0, .i .i64 0, .s [], .sl 24 false [.a [.i 4, .i 0, .i 1, .i 0, .s [], .l true []], .a [.i 3, .i 0, .i 0, .i 0, .s [], .l false [.a [.i 5, .i 0, .i 0, .i 0, .s [120], .l true []]]]]], .c (.i .i64 0), .c (.i .i64 0)], []) : Res) = some x := hx
 simp only [Option.some.injEq] at hx
 subst hx
 exact (R1_ok 18 _ [] _ read_run).2 _ rfl
noncomputable def J1 : Oracle := ext 18 (spSh readSh readA) J0
theorem J1_ok : OracleOk Tryz.prog J1 := FnOk.to read_fn J0_ok
noncomputable def R0 : Oracle := tow Tryz.prog bk J1 400
theorem R0_ok : OracleOk Tryz.prog R0 := tow_ok progOk bk (fun _ => rfl) J1_ok 400
theorem told_run : R0 17 [] [] = some [(true, ([.c (.b true)], []))] := by kernel_rfl
noncomputable def toldSh : Sh := { tmps := [], mem := [] }
noncomputable def toldA (_ : List Lf) : List (Bool × Res) := [(true, ([.c (.b true)], []))]
theorem told_call : CallOk Tryz.prog 17 [] [] ([.c (.b true)], []) := (R0_ok 17 [] [] _ told_run).2 _ rfl
theorem told_fn : FnOk Tryz.prog 17 toldSh toldA := spSh_law fun L x hx => by
 have hx : some (([.c (.b true)], []) : Res) = some x := hx
 simp only [Option.some.injEq] at hx
 subst hx
 exact told_call
end Go.Proofs.YtmhaghcfopdifaaGreatDoor
