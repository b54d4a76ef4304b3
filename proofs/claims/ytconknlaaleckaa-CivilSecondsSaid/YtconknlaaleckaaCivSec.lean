/- The walk of civil's statement on seconds. -/
import Derived.Test.YtconknlaaleckaaCivD
import Derived.Test.YtconknlaaleckaaCivLaws
import Derived.Test.YtconknlaaleckaaCivOpen
namespace Go.Proofs.Ytconknlaaleckaa
open Go.RowKit
open Go
theorem civ_at (y m d h mi s n : Int) (w : World) (hm : Cv.mayB y m d h mi s = true) (e : Cv.secV y m d h mi s 0 = n) :
    Calls Try.prog 24 #[.int .i64 n] w fun e w' => e = .returned (.tuple #[.agg #[.int .i64 y, .int .i64 m, .int .i64 d, .int .i64 h, .int .i64 mi, .int .i64 s], .int .i64 0]) ∧ Below w.heap.size w w' := by
  subst e; exact civ_yes y m d h mi s w hm
theorem rciv_at (y m d h mi s n : Int) (w : World) (hm : Cv.mayB y m d h mi s = true) (e : Cv.secV y m d h mi s 0 = n) :
    Calls Try.prog 25 #[.int .i64 n] w fun e w' => e = .returned (.tuple #[.agg #[.int .i64 y, .int .i64 m, .int .i64 d, .int .i64 h, .int .i64 mi, .int .i64 s], .int .i64 0]) ∧ Below w.heap.size w w' := by
  subst e; exact rciv_yes y m d h mi s w hm
/-- The walk, whatever the four answers are, if the code's and the document's are the same. -/
theorem seconds_core (cy cm cd ch ci cs east n a e y m d h i s g : Int) (w : World)
    (c1 : ∀ w, Calls Try.prog 22 #[.agg #[.int .i64 cy, .int .i64 cm, .int .i64 cd, .int .i64 ch, .int .i64 ci, .int .i64 cs], .int .i64 east] w fun x w' => x = .returned (.tuple #[.int .i64 a, .int .i64 e]) ∧ Below w.heap.size w w')
    (c2 : ∀ w, Calls Try.prog 23 #[.agg #[.int .i64 cy, .int .i64 cm, .int .i64 cd, .int .i64 ch, .int .i64 ci, .int .i64 cs], .int .i64 east] w fun x w' => x = .returned (.tuple #[.int .i64 a, .int .i64 e]) ∧ Below w.heap.size w w')
    (c3 : ∀ w, Calls Try.prog 24 #[.int .i64 n] w fun x w' => x = .returned (.tuple #[.agg #[.int .i64 y, .int .i64 m, .int .i64 d, .int .i64 h, .int .i64 i, .int .i64 s], .int .i64 g]) ∧ Below w.heap.size w w')
    (c4 : ∀ w, Calls Try.prog 25 #[.int .i64 n] w fun x w' => x = .returned (.tuple #[.agg #[.int .i64 y, .int .i64 m, .int .i64 d, .int .i64 h, .int .i64 i, .int .i64 s], .int .i64 g]) ∧ Below w.heap.size w w') :
    Calls Try.prog 7 #[.agg #[.int .i64 cy, .int .i64 cm, .int .i64 cd, .int .i64 ch, .int .i64 ci, .int .i64 cs], .int .i64 east, .int .i64 n] w (LawTrue w) := by
  go_enter Try.func7, Try.ntmps7
  go_wp2_with fail
  refine (c1 _).mono ?_
  rintro x w1 ⟨rfl, hb1⟩
  obtain ⟨hc1, hf1⟩ := bcell hb1
  go_wp2_with fail
  refine (c2 _).mono ?_
  rintro x w2 ⟨rfl, hb2⟩
  go_wp2_with fail
  refine (c3 _).mono ?_
  rintro x w3 ⟨rfl, hb3⟩
  clear hc1 hf1
  go_wp2_with fail
  refine (c4 _).mono ?_
  rintro x w4 ⟨rfl, hb4⟩
  obtain ⟨hc4, hf4⟩ := bcell hb4
  have hz4 : w3.heap.size < w4.heap.size := by have := hb4.size; simp at this; omega
  go_wp2_with fail
  refine (wakes_any _).mono ?_
  rintro x w5 ⟨rfl, hb5⟩
  clear hc4 hf4
  go_wp2
  go_ret
  exact ⟨rfl, bn (bbox (Below.refl _ _) _) (bn hb1 (bn hb2 (bn hb3 (bn (bbox (Below.refl _ _) _) (bn hb4 (bn (bbox (Below.refl _ _) _) hb5))))))⟩
theorem civilSeconds_walk (cy cm cd ch ci cs : Int) (_ : Is64 cy) (_ : Is64 cm) (_ : Is64 cd) (bh : Is64 ch) (bi : Is64 ci) (bs : Is64 cs) (east : Int) (_ : Is64 east) (n : Int) (_ : Is64 n) (w : World) :
    Calls Try.prog 7 #[.agg #[.int .i64 cy, .int .i64 cm, .int .i64 cd, .int .i64 ch, .int .i64 ci, .int .i64 cs], .int .i64 east, .int .i64 n] w (LawTrue w) := by
  by_cases hn : n < -62135596800 ∨ 253402300799 < n
  · cases hk : Cv.secOk cy cm cd ch ci cs east
    · exact seconds_core cy cm cd ch ci cs east n _ _ _ _ _ _ _ _ _ w (fun w => sec_no cy cm cd ch ci cs east w bh bi bs hk) (fun w => rsec_no cy cm cd ch ci cs east w hk) (fun w => civ_no n w hn) (fun w => rciv_no n w hn)
    · exact seconds_core cy cm cd ch ci cs east n _ _ _ _ _ _ _ _ _ w (fun w => sec_yes cy cm cd ch ci cs east w bh bi bs hk) (fun w => rsec_yes cy cm cd ch ci cs east w hk) (fun w => civ_no n w hn) (fun w => rciv_no n w hn)
  · obtain ⟨y, m, d, hv, _, hm, hs⟩ := Cv.sec_split n (by omega) (by omega)
    cases hk : Cv.secOk cy cm cd ch ci cs east
    · exact seconds_core cy cm cd ch ci cs east n _ _ _ _ _ _ _ _ _ w (fun w => sec_no cy cm cd ch ci cs east w bh bi bs hk) (fun w => rsec_no cy cm cd ch ci cs east w hk) (fun w => civ_at _ _ _ _ _ _ n w hm hs) (fun w => rciv_at _ _ _ _ _ _ n w hm hs)
    · exact seconds_core cy cm cd ch ci cs east n _ _ _ _ _ _ _ _ _ w (fun w => sec_yes cy cm cd ch ci cs east w bh bi bs hk) (fun w => rsec_yes cy cm cd ch ci cs east w hk) (fun w => civ_at _ _ _ _ _ _ n w hm hs) (fun w => rciv_at _ _ _ _ _ _ n w hm hs)
end Go.Proofs.Ytconknlaaleckaa
