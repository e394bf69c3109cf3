/- The abstract machine: a law's arguments as data. -/
import Derived.Test.YtefmjfcdgadggaaAm35
import Derived.ProofKit
set_option linter.all false
namespace Go.AM
open Go

/-! ### Typed data -/
def TyEl (P : Program) (T : CK → D → Prop) (e : TypeId) (x : D) : Prop :=
  if isAggB P e = true then ∃ cs, x = .a cs ∧ All2 T (kinds P e) cs else ∃ k, kinds P e = [k] ∧ T k x
def TyK (P : Program) : Nat → CK → D → Prop
  | 0, _, _ => False
  | n + 1, k, d => match k with
    | .int k => ∃ i, d = .i i ∧ (Lit.int k i).wf = true
    | .bool => ∃ b, d = .b b
    | .str => ∃ s, d = .s s ∧ s.length ≤ maxLen
    | .sl e => ∃ nl xs, d = .l nl xs ∧ (nl = true → xs = []) ∧ xs.length ≤ maxLen ∧ ∀ x ∈ xs, TyEl P (TyK P n) e x
    | .oth => False
/-- The cells of a type lie one behind the other. -/
def contig (P : Program) : Nat → List Field → Nat → Bool
  | o, [], n => Nat.beq o n
  | o, f :: r, n => Nat.beq f.offset o && contig P (o + sizeB P f.type) r n
def flatB (P : Program) : Nat → TypeId → Bool
  | 0, _ => false
  | n + 1, T => match P.underlying T with
    | some (.int _) | some .bool | some .string | some (.slice _) => true
    | some (.struct fs) => contig P 0 fs.toList (sizeB P T) && fs.toList.all fun f => flatB P n f.type && Nat.beq (sizeB P f.type) (kindsOf P n f.type).length
    | some (.array len e) => Nat.beq (sizeB P T) (len * sizeB P e) && flatB P n e && Nat.beq (sizeB P e) (kindsOf P n e).length
    | _ => false
def okK (P : Program) : Nat → CK → Bool
  | 0, _ => false
  | m + 1, k => match k with
    | .sl e => flatB P 12 e && Nat.beq (sizeB P e) (kinds P e).length && (kinds P e).all (okK P m) && !Nat.beq (sizeB P e) 0
    | .oth => false
    | _ => true
end Go.AM
