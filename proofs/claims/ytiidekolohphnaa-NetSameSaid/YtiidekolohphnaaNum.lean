/- Small functions of numbers alone. -/
import Derived.Test.YtiidekolohphnaaBase
namespace Go.Proofs.Ytiidekolohphnaa
open Go.RowKit

/-- low ≤ n ≤ high -/
def btw (n low high : Int) : Bool := decide (low ≤ n) && decide (n ≤ high)
def amtOk (a : Int) : Bool := btw a (-1152921504606846976) 1152921504606846976
def amtErr (a : Int) : Int := if amtOk a then 0 else 3

theorem between_any (a b c : Int) (w : World) : Calls Try.prog 77 #[.int .i64 a, .int .i64 b, .int .i64 c] w fun e w' => e = .returned (.bool (btw a b c)) ∧ w = w' := by
  go_enter Try.func77, Try.ntmps77
  go_wp2_with fail
  all_goals (go_ret; exact ⟨ret_bool (by grind [btw]), rfl⟩)
theorem party_any (a : Int) (w : World) : Calls Try.prog 100 #[.int .i64 a] w fun e w' => e = .returned (.bool (btw a 0 30)) ∧ w = w' := by
  go_enter Try.func100, Try.ntmps100
  go_wp2_with fail
  all_goals (go_ret; exact ⟨ret_bool (by grind [btw]), rfl⟩)
theorem mwithin_any (a b c : Int) (w : World) : Calls Try.prog 166 #[.int .i64 a, .int .i64 b, .int .i64 c] w fun e w' => e = .returned (.bool (btw a b c)) ∧ w = w' := by
  go_enter Try.func166, Try.ntmps166
  go_wp2_with fail
  all_goals (go_ret; exact ⟨ret_bool (by grind [btw]), rfl⟩)
theorem mcheck_any (a : Int) (w : World) : Calls Try.prog 134 #[.int .i64 a] w fun e w' => e = .returned (.int .i64 (amtErr a)) ∧ w = w' := by
  go_enter Try.func134, Try.ntmps134
  go_wp2_with (go_at_call 166; refine (mwithin_any _ _ _ _).mono ?_; rintro e w' ⟨rfl, rfl⟩)
  all_goals (go_ret; exact ⟨ret_int (by grind [amtErr, amtOk]), rfl⟩)
theorem amountCheck_any (a : Int) (w : World) : Calls Try.prog 98 #[.int .i64 a] w fun e w' => e = .returned (.int .i64 (amtErr a)) ∧ w = w' := by
  go_enter Try.func98, Try.ntmps98
  go_wp2_with (go_at_call 77; refine (between_any _ _ _ _).mono ?_; rintro e w' ⟨rfl, rfl⟩)
  all_goals (go_ret; exact ⟨ret_int (by grind [amtErr, amtOk]), rfl⟩)
end Go.Proofs.Ytiidekolohphnaa
