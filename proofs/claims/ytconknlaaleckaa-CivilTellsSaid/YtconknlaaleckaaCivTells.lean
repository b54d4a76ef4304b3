/- The walk of civil's statement on what is told: leap years, last days, weekdays, times that may be. -/
import Derived.Test.YtconknlaaleckaaCivD
import Derived.Test.YtconknlaaleckaaCivLaws
import Derived.Test.YtconknlaaleckaaCivOpen
namespace Go.Proofs.Ytconknlaaleckaa
open Go.RowKit
open Go
set_option maxHeartbeats 400000 in
theorem tells_lo (y m n cy cm cd ch ci cs : Int) (w : World) (h : n < -1099511627776) :
    Calls Try.prog 4 #[.int .i64 y, .int .i64 m, .int .i64 n, .agg #[.int .i64 cy, .int .i64 cm, .int .i64 cd, .int .i64 ch, .int .i64 ci, .int .i64 cs]] w (LawTrue w) := by
  have h' : n ≤ 1099511627776 := by omega
  go_enter Try.func4, Try.ntmps4
  go_wp2_with (go_at_call 10; refine (wakes_any _).mono ?_; rintro e w2 ⟨rfl, hb2⟩)
  go_ret
  exact ⟨rfl, bn (bbox (Below.refl _ _) _) hb2⟩
set_option maxHeartbeats 400000 in
theorem tells_hi (y m n cy cm cd ch ci cs : Int) (w : World) (h : 1099511627776 < n) :
    Calls Try.prog 4 #[.int .i64 y, .int .i64 m, .int .i64 n, .agg #[.int .i64 cy, .int .i64 cm, .int .i64 cd, .int .i64 ch, .int .i64 ci, .int .i64 cs]] w (LawTrue w) := by
  go_enter Try.func4, Try.ntmps4
  go_wp2_with (go_at_call 10; refine (wakes_any _).mono ?_; rintro e w2 ⟨rfl, hb2⟩)
  go_ret
  exact ⟨rfl, bn (bbox (Below.refl _ _) _) hb2⟩
set_option maxRecDepth 100000 in
set_option maxHeartbeats 1000000 in
theorem tells_in (y m n cy cm cd ch ci cs : Int) (w : World) (bh : Is64 ch) (bi : Is64 ci) (bs : Is64 cs) (h1 : -1099511627776 ≤ n) (h2 : n ≤ 1099511627776) :
    Calls Try.prog 4 #[.int .i64 y, .int .i64 m, .int .i64 n, .agg #[.int .i64 cy, .int .i64 cm, .int .i64 cd, .int .i64 ch, .int .i64 ci, .int .i64 cs]] w (LawTrue w) := by
  have q0 := cell_regrown (w := w.alloc (.cells #[.int .i64 cy, .int .i64 cm, .int .i64 cd, .int .i64 ch, .int .i64 ci, .int .i64 cs] 31)) (a := ⟨w.heap.size, 0, none⟩) (v := .int .i64 cy) (by simp)
  have q1 := cell_regrown (w := w.alloc (.cells #[.int .i64 cy, .int .i64 cm, .int .i64 cd, .int .i64 ch, .int .i64 ci, .int .i64 cs] 31)) (a := ⟨w.heap.size, 1, none⟩) (v := .int .i64 cm) (by simp)
  have q2 := cell_regrown (w := w.alloc (.cells #[.int .i64 cy, .int .i64 cm, .int .i64 cd, .int .i64 ch, .int .i64 ci, .int .i64 cs] 31)) (a := ⟨w.heap.size, 2, none⟩) (v := .int .i64 cd) (by simp)
  have q3 := cell_regrown (w := w.alloc (.cells #[.int .i64 cy, .int .i64 cm, .int .i64 cd, .int .i64 ch, .int .i64 ci, .int .i64 cs] 31)) (a := ⟨w.heap.size, 3, none⟩) (v := .int .i64 ch) (by simp)
  have q4 := cell_regrown (w := w.alloc (.cells #[.int .i64 cy, .int .i64 cm, .int .i64 cd, .int .i64 ch, .int .i64 ci, .int .i64 cs] 31)) (a := ⟨w.heap.size, 4, none⟩) (v := .int .i64 ci) (by simp)
  have q5 := cell_regrown (w := w.alloc (.cells #[.int .i64 cy, .int .i64 cm, .int .i64 cd, .int .i64 ch, .int .i64 ci, .int .i64 cs] 31)) (a := ⟨w.heap.size, 5, none⟩) (v := .int .i64 cs) (by simp)
  have k0 := rgs (W := w.alloc (.cells #[.int .i64 cy, .int .i64 cm, .int .i64 cd, .int .i64 ch, .int .i64 ci, .int .i64 cs] 31)) fun w => leap_any y w
  have k1 := rgs (W := w.alloc (.cells #[.int .i64 cy, .int .i64 cm, .int .i64 cd, .int .i64 ch, .int .i64 ci, .int .i64 cs] 31)) fun w => rleap_any y w
  have k2 := rg (W := w.alloc (.cells #[.int .i64 cy, .int .i64 cm, .int .i64 cd, .int .i64 ch, .int .i64 ci, .int .i64 cs] 31)) fun w => last_any y m w
  have k3 := rgs (W := w.alloc (.cells #[.int .i64 cy, .int .i64 cm, .int .i64 cd, .int .i64 ch, .int .i64 ci, .int .i64 cs] 31)) fun w => rlast_any y m w
  have k4 := rgs (W := w.alloc (.cells #[.int .i64 cy, .int .i64 cm, .int .i64 cd, .int .i64 ch, .int .i64 ci, .int .i64 cs] 31)) fun w => wday_any n w
  have k5 := rgs (W := w.alloc (.cells #[.int .i64 cy, .int .i64 cm, .int .i64 cd, .int .i64 ch, .int .i64 ci, .int .i64 cs] 31)) fun w => rwday_any n w
  have k6 := rg (W := w.alloc (.cells #[.int .i64 cy, .int .i64 cm, .int .i64 cd, .int .i64 ch, .int .i64 ci, .int .i64 cs] 31)) fun w => may_any cy cm cd ch ci cs w bh bi bs
  have k7 := rg (W := w.alloc (.cells #[.int .i64 cy, .int .i64 cm, .int .i64 cd, .int .i64 ch, .int .i64 ci, .int .i64 cs] 31)) fun w => rmay_any cy cm cd ch ci cs w
  have k8 := rg (W := w.alloc (.cells #[.int .i64 cy, .int .i64 cm, .int .i64 cd, .int .i64 ch, .int .i64 ci, .int .i64 cs] 31)) fun w => wakes_any w
  clear bh bi bs
  go_enter Try.func4, Try.ntmps4
  go_wp2
  refine wp_region_quiet_below (by kernel_rfl) (by kernel_rfl) ?_
  repeat (quiet_step (first | (go_at_call 9; exact k0 _ _) | (go_at_call 14; exact k1 _ _) | (go_at_call 12; exact k2 _ _) | (go_at_call 15; exact k3 _ _) | (go_at_call 13; exact k4 _ _) | (go_at_call 16; exact k5 _ _) | (go_at_call 17; exact k6 _ _) | (go_at_call 18; exact k7 _ _) | (go_at_call 10; exact k8 _ _)))
  refine wpQuiet_nil ?_
  intro _ hw'
  obtain ⟨⟨dq, osq⟩, hw''⟩ := hw'
  subst hw''
  go_wp2
  go_ret
  exact ⟨rfl, bn (bbox (Below.refl _ _) _) (below_regrown _ dq osq)⟩
theorem civilTells_walk (y : Int) (_ : Is64 y) (m : Int) (_ : Is64 m) (n : Int) (_ : Is64 n) (cy cm cd ch ci cs : Int) (_ : Is64 cy) (_ : Is64 cm) (_ : Is64 cd) (bh : Is64 ch) (bi : Is64 ci) (bs : Is64 cs) (w : World) :
    Calls Try.prog 4 #[.int .i64 y, .int .i64 m, .int .i64 n, .agg #[.int .i64 cy, .int .i64 cm, .int .i64 cd, .int .i64 ch, .int .i64 ci, .int .i64 cs]] w (LawTrue w) := by
  by_cases h1 : n < -1099511627776
  · exact tells_lo y m n cy cm cd ch ci cs w h1
  · by_cases h2 : 1099511627776 < n
    · exact tells_hi y m n cy cm cd ch ci cs w h2
    · exact tells_in y m n cy cm cd ch ci cs w bh bi bs (by omega) (by omega)
end Go.Proofs.Ytconknlaaleckaa
