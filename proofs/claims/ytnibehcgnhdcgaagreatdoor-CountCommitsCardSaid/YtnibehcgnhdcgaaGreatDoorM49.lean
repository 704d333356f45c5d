/- CountCommits: its walk joined. -/
import Derived.Test.YtnibehcgnhdcgaaGreatDoorM47
import Derived.Test.YtnibehcgnhdcgaaGreatDoorM48
import Derived.Test.YtnibehcgnhdcgaaGreatDoorM45
import Derived.Test.YtnibehcgnhdcgaaGreatDoorM35
import Derived.Test.YtnibehcgnhdcgaaGreatDoorM26
import Derived.Test.YtnibehcgnhdcgaaGreatDoorM44
import Derived.CellFam
import Derived.Deep.Cut
namespace Go.Proofs.YtnibehcgnhdcgaaGreatDoor
open Go.RowKit Go.Maps
theorem commits_go (n : Nat) (h1 : 64 ≤ n) (h2 : n ≤ 5000) (p : Option Addr) (len cap : Nat) (L : Nat → Int × Int) (M : Nat → Bool) (w : World) (hL : SetsBt w p len L M) :
    Calls Tryz.prog 5 #[.int .u32 n, .slice p len cap] w fun e w' => e = .returned (.bool true) ∧ Below w.heap.size w w' := (commits_part n h1 h2 p len cap L M w hL).go (commits_body n h1 h2 p len cap L M w hL) (commits_rest n h1 h2 p len cap L M w hL)
set_option maxRecDepth 100000 in
set_option maxHeartbeats 8000000 in
theorem commits_any (n : Nat) (p : Option Addr) (len cap : Nat) (L : Nat → Int × Int) (M : Nat → Bool) (w : World) (hL : SetsBt w p len L M) :
    Calls Tryz.prog 5 #[.int .u32 n, .slice p len cap] w fun e w' => e = .returned (.bool true) ∧ Below w.heap.size w w' := by
  by_cases h1 : 64 ≤ n
  · by_cases h2 : n ≤ 5000
    · exact commits_go n h1 h2 p len cap L M w hL
    · have h2' : ¬ (n : Int) ≤ 5000 := by omega
      have h3 : (5000 : Int) < n := by omega
      have h4 : ¬ (n : Int) < 64 := by omega
      clear hL
      go_enter Tryz.func5, Tryz.ntmps5
      go_wp2_with (first
        | (go_at_call 6; (with_reducible refine (head_any _).mono ?_); rintro e W11 ⟨rfl, hb11⟩))
      go_ret
      exact ⟨rfl, hb11⟩
  · have h4 : (n : Int) < 64 := by omega
    clear hL
    go_enter Tryz.func5, Tryz.ntmps5
    go_wp2_with (first
      | (go_at_call 6; (with_reducible refine (head_any _).mono ?_); rintro e W11 ⟨rfl, hb11⟩))
    go_ret
    exact ⟨rfl, hb11⟩
end Go.Proofs.YtnibehcgnhdcgaaGreatDoor
