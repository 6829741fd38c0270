/-
  The walk of json.form: may a value be, but for names that stand twice?
-/
import Derived.Test.YtghaoielnphhlaaGreatDoorM12
import Derived.Test.YtghaoielnphhlaaGreatDoorM00
namespace Go.Proofs.YtghaoielnphhlaaGreatDoor
open Go.RowKit

/-- A contract of a test over values, under the tables. -/
def FormSaysE (f : Nat) (F : Jsn → Bool) (j : Jsn) : Prop := ∀ (X : Nat → Prop) (w : World) (vn vl : Value), EnvU w → JV w X j vn vl → jbulk j ≤ 1000000 →
    Calls Tryz.prog f #[.agg #[.int .u8 j.kind, .string j.text, vn, vl]] w (ValEnd (F j) w)
end Go.Proofs.YtghaoielnphhlaaGreatDoor
