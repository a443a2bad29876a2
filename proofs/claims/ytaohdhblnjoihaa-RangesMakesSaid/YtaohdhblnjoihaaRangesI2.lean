/-
  The law RangesMakes: every case.
-/
import Derived.Test.YtaohdhblnjoihaaRangesI
namespace Go.Proofs.Ytaohdhblnjoihaa
open Go.RowKit
theorem makes_any (A : Option Addr) (c : Nat) (xs : List Rg) (x : Rg) (r leave : Int) (w : World) (hA : Rd (fun b => b < w.heap.size) w 3 Rg.cs A xs) (hl : xs.length ≤ maxLen) (hf : ∀ y ∈ xs, FitR y) (hx : FitR x) :
    Calls Try.prog 5 #[.slice A xs.length c, x.val, .int .i32 r, .int .i64 leave] w fun e w' => e = .returned (.bool true) ∧ Mod (fun _ => False) w w' := by
  by_cases h : 200 < xs.length
  · exact makes_many A c xs x r leave w hl h
  · by_cases he : errR xs = 0
    · exact makes_ok A c xs x r leave w hA (by omega) hf hx he
    · exact makes_err A c xs x r leave w hA (by omega) hf he
end Go.Proofs.Ytaohdhblnjoihaa
