/- The abstract machine: a call as an operation. -/
import Derived.Test.YtefmjfcdgadggaaAm24
set_option linter.all false
namespace Go.AM
open Go

section
variable {P : Program} {N n0 kb : Nat} {F : Nat → Prop} {B M0 : Stab} {w0 : World} {e0 env : Env} {st : St} {a : Act} {w : World}
theorem run_callFunc {f : FuncId} {args : Array Value} (he : Enters P f) : (callFunc f args).run P w = .ok (.enter f args) w := by
  obtain ⟨fn, h1, h2, h3⟩ := he
  unfold callFunc
  simp only [Sem.run_bind, run_program, Result.andThen_ok, h1, h2, h3, Bool.false_eq_true, if_false, Sem.run_pure]
theorem dataC_sound {S : Stab} {mem : AL Obj} (hob : ∀ key o, get mem key = some o → ObjRel P env S w (env key) o) (hst : RowsStable P env S mem) {c : C} {v : Value} (h : CRel P env S w c v) : CRel P env S w (dataC mem c) v := by
  cases c with
  | o key =>
    simp only [dataC]
    split
    · rename_i e n xs hg
      have hv : v = (env key).hdr := h
      rw [hv]
      exact row_repD hob hst hg
    · exact h
  | _ => exact h
theorem dataV_sound {S : Stab} {mem : AL Obj} (hob : ∀ key o, get mem key = some o → ObjRel P env S w (env key) o) (hst : RowsStable P env S mem) {x : V} {v : Value} (h : VRel P env S w x v) : VRel P env S w (dataV mem x) v := by
  cases x with
  | c c => exact dataC_sound hob hst h
  | g xs =>
    obtain ⟨vs, h1, h2⟩ := h
    exact ⟨vs, h1, h2.mapl fun c u _ hcu => dataC_sound hob hst hcu⟩
  | _ => exact h
theorem newBase_le {n base key : Nat} {l : AL Obj} (h : key ∈ newKeys n base l) : base ≤ key := by
  obtain ⟨k, o, _, _, h3⟩ := mem_newKeys.1 h
  omega
theorem inRange_lt {base : Nat} : ∀ {l : List Nat}, inRange base l = true → ∀ k ∈ l, k < base + 10000
  | [], _, k, hk => by simp at hk
  | x :: l, h, k, hk => by
    simp only [inRange, Bool.and_eq_true] at h
    rcases List.mem_cons.1 hk with rfl | hk
    · exact Nat.le_of_ble_eq_true h.1
    · exact inRange_lt h.2 k hk
theorem kb_le_newBase (kb : Nat) (dst : Option Nat) : kb ≤ newBase kb dst := Nat.le_add_right _ _
theorem callOp_sound {R : Type} {cl : Oracle} (hcl : OracleOk P cl) {f : FuncId} {args : List V} {vs : Array Value} {o : Oper} {k : St → Option R} {r : R} {Q : Exit → Act → World → Prop} (hF : ∀ k, newBase kb o.dst ≤ k → k < newBase kb o.dst + 10000 → ¬ F k) (h : Rel P N n0 B M0 w0 F e0 env st a w) (hd : ∀ d, o.dst = some d → d < N)
    (hrun : Enters P f → (execOp a.eval o).run P w = .ok (.enter f vs) w)
    (hargs : ∀ mem, Rel P N n0 B M0 w0 F e0 env { st with mem } a w → All2 (VRel P env (Sof P B M0 n0 env mem w) w) args vs.toList)
    (hk : callOp P cl kb f args o st k = some r) : o.wp P a w (After P N n0 B M0 w0 F e0 k r) Q := by
  unfold callOp at hk
  split at hk
  · cases hk
  · rename_i fn hfn
    simp only at hk
    have hsh := Rel.share (args.flatMap rowsV) (mem := st.mem) h
    generalize hmem : shareKeys st.mem (args.flatMap rowsV) = mem at hk hsh
    split at hk
    · cases hk
    · rename_i acc hacc
      have hnd := collect_nodup (acc := []) trivial hacc
      split at hk
      · rename_i args' mem' hren hh
        cases hcall : cl f args' mem' with
        | none => rw [hcall] at hk; cases hk
        | some alts =>
          rw [hcall] at hk
          simp only at hk
          rw [altK_bind] at hk
          cases hres : altK alts some with
          | none => rw [hres] at hk; cases hk
          | some res =>
          rw [hres] at hk
          simp only [Option.bind_some] at hk
          obtain ⟨hent, hoks⟩ := hcl f args' mem' alts hcall
          have hok := hoks res hres
          obtain ⟨hpre, hkeep⟩ := call_pre hsh hnd hh
          have hall := (hargs mem hsh).mapl (R2 := VRel P env (Sof P B M0 n0 env mem w) w) fun x v _ hxv => dataV_sound hsh.ob hsh.rows hxv
          have hC := hok _ _ w vs hpre (renVs_sound hkeep hren hall)
          unfold Oper.wp
          rw [hrun hent, Oper.upon_enter]
          refine hC.mono fun e w' he => ?_
          obtain ⟨v, rfl, hp⟩ := he
          cases hcc : closedRes res && noClash res.2 (newKeys acc.length (newBase kb o.dst) res.2) acc 0 && inRange (newBase kb o.dst) (newKeys acc.length (newBase kb o.dst) res.2) with
          | false => rw [hcc] at hk; cases hk
          | true =>
            rw [hcc] at hk
            simp only [cond_true] at hk
            simp only [Bool.and_eq_true] at hcc
            split at hk
            · cases hk
            · rename_i mem2 hm2
              obtain ⟨env2, q1, q2⟩ := call_back hsh hnd hh hp (fun k hk => hF k (newBase_le hk) (inRange_lt hcc.2 k hk)) rfl hcc.1.1 hcc.1.2 hm2
              exact ⟨env2, _, q1.put hd (VRelA.of q2), hk⟩
      · cases hk
end
end Go.AM
