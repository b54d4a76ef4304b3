/- The walk of civil's statement on how seconds move. -/
import Derived.Test.YtconknlaaleckaaCivSec
namespace Go.Proofs.Ytconknlaaleckaa
open Go.RowKit
open Go
set_option maxRecDepth 100000 in
set_option maxHeartbeats 1000000 in
theorem moves_a1 (cy cm cd ch ci cs east n : Int) (w : World) (c1 : ∀ w, Calls Try.prog 22 #[.agg #[.int .i64 cy, .int .i64 cm, .int .i64 cd, .int .i64 ch, .int .i64 ci, .int .i64 cs], .int .i64 0] w fun x w' => x = .returned (.tuple #[.int .i64 0, .int .i64 2]) ∧ Below w.heap.size w w') (hn : n < -62135596800) :
    Calls Try.prog 8 #[.agg #[.int .i64 cy, .int .i64 cm, .int .i64 cd, .int .i64 ch, .int .i64 ci, .int .i64 cs], .int .i64 east, .int .i64 n] w (LawTrue w) := by
  have e1 := fun w => civ_no n w (Or.inl hn)
  go_enter Try.func8, Try.ntmps8
  go_wp2_with fail
  refine (c1 _).mono ?_
  rintro x w1 ⟨rfl, hw1⟩
  obtain ⟨hc0, hf0⟩ := bcell hw1
  have hz0 : w.heap.size < w1.heap.size := by have := hw1.size; simp at this; omega
  go_wp2_with fail
  refine (e1 _).mono ?_
  rintro x v1 ⟨rfl, hv1⟩
  clear hc0 hf0
  go_wp2_with fail
  refine (wakes_any _).mono ?_
  rintro x v4 ⟨rfl, hv4⟩
  go_wp2
  go_ret
  exact ⟨rfl, bn (bbox (Below.refl _ _) _) (bn hw1 (bn hv1 (bn (bbox (Below.refl _ _) _) hv4)))⟩
set_option maxRecDepth 100000 in
set_option maxHeartbeats 1000000 in
theorem moves_a2 (cy cm cd ch ci cs east n : Int) (w : World) (c1 : ∀ w, Calls Try.prog 22 #[.agg #[.int .i64 cy, .int .i64 cm, .int .i64 cd, .int .i64 ch, .int .i64 ci, .int .i64 cs], .int .i64 0] w fun x w' => x = .returned (.tuple #[.int .i64 0, .int .i64 2]) ∧ Below w.heap.size w w') (hn : 253402300799 < n) :
    Calls Try.prog 8 #[.agg #[.int .i64 cy, .int .i64 cm, .int .i64 cd, .int .i64 ch, .int .i64 ci, .int .i64 cs], .int .i64 east, .int .i64 n] w (LawTrue w) := by
  have e1 := fun w => civ_no n w (Or.inr hn)
  have hn2 : -62135596800 ≤ n := by omega
  go_enter Try.func8, Try.ntmps8
  go_wp2_with fail
  refine (c1 _).mono ?_
  rintro x w1 ⟨rfl, hw1⟩
  obtain ⟨hc0, hf0⟩ := bcell hw1
  have hz0 : w.heap.size < w1.heap.size := by have := hw1.size; simp at this; omega
  go_wp2_with fail
  refine (e1 _).mono ?_
  rintro x v1 ⟨rfl, hv1⟩
  clear hc0 hf0
  go_wp2_with fail
  refine (wakes_any _).mono ?_
  rintro x v4 ⟨rfl, hv4⟩
  go_wp2
  go_ret
  exact ⟨rfl, bn (bbox (Below.refl _ _) _) (bn hw1 (bn hv1 (bn (bbox (Below.refl _ _) _) hv4)))⟩
set_option maxRecDepth 100000 in
set_option maxHeartbeats 1000000 in
theorem moves_a3 (cy cm cd ch ci cs east n : Int) (w : World) (c1 : ∀ w, Calls Try.prog 22 #[.agg #[.int .i64 cy, .int .i64 cm, .int .i64 cd, .int .i64 ch, .int .i64 ci, .int .i64 cs], .int .i64 0] w fun x w' => x = .returned (.tuple #[.int .i64 0, .int .i64 2]) ∧ Below w.heap.size w w') (y m d h i s : Int) (bh : Is64 h) (bi : Is64 i) (bs : Is64 s) (hm : Cv.mayB y m d h i s = true) (hs : Cv.secV y m d h i s 0 = n) (hk : Cv.secOk y m d h i s 0 = true) :
    Calls Try.prog 8 #[.agg #[.int .i64 cy, .int .i64 cm, .int .i64 cd, .int .i64 ch, .int .i64 ci, .int .i64 cs], .int .i64 east, .int .i64 n] w (LawTrue w) := by
  have e1 := fun w => civ_at y m d h i s n w hm hs
  have e2 := fun w => sec_yes y m d h i s 0 w bh bi bs hk
  have e3 := fun w => may_any y m d h i s w bh bi bs
  rw [hs] at e2
  rw [hm] at e3
  clear hm hs hk bh bi bs
  go_enter Try.func8, Try.ntmps8
  go_wp2_with fail
  refine (c1 _).mono ?_
  rintro x w1 ⟨rfl, hw1⟩
  obtain ⟨hc0, hf0⟩ := bcell hw1
  have hz0 : w.heap.size < w1.heap.size := by have := hw1.size; simp at this; omega
  go_wp2_with fail
  refine (e1 _).mono ?_
  rintro x v1 ⟨rfl, hv1⟩
  clear hc0 hf0
  go_wp2_with fail
  refine (e2 _).mono ?_
  rintro x v2 ⟨rfl, hv2⟩
  obtain ⟨gc, gf⟩ := bcell hv2
  have gz : v1.heap.size < v2.heap.size := by have := hv2.size; simp at this; omega
  go_wp2_with fail
  refine (e3 _).mono ?_
  rintro x v3 ⟨rfl, hv3⟩
  clear gc gf
  go_wp2_with fail
  refine (wakes_any _).mono ?_
  rintro x v4 ⟨rfl, hv4⟩
  go_wp2
  go_ret
  exact ⟨rfl, bn (bbox (Below.refl _ _) _) (bn hw1 (bn hv1 (bn (bbox (Below.refl _ _) _) (bn hv2 (bn hv3 hv4)))))⟩
set_option maxRecDepth 100000 in
set_option maxHeartbeats 1000000 in
theorem moves_b1 (cy cm cd ch ci cs east n : Int) (w : World) (N : Int) (bN : -719162 ≤ N ∧ N ≤ 2932896) (bc : 0 ≤ ch ∧ ch ≤ 23 ∧ 0 ≤ ci ∧ ci ≤ 59 ∧ 0 ≤ cs ∧ cs ≤ 59)
    (c1 : ∀ w, Calls Try.prog 22 #[.agg #[.int .i64 cy, .int .i64 cm, .int .i64 cd, .int .i64 ch, .int .i64 ci, .int .i64 cs], .int .i64 0] w fun x w' => x = .returned (.tuple #[.int .i64 (N * 86400 + ch * 3600 + ci * 60 + cs), .int .i64 0]) ∧ Below w.heap.size w w')
    (c2 : ∀ w, Calls Try.prog 11 #[.int .i64 cy, .int .i64 cm, .int .i64 cd] w fun e w' => e = .returned (.tuple #[.int .i64 N, .int .i64 0]) ∧ Below w.heap.size w w')
    (c3 : ∀ w, Calls Try.prog 22 #[.agg #[.int .i64 cy, .int .i64 cm, .int .i64 cd, .int .i64 ch, .int .i64 ci, .int .i64 cs], .int .i64 east] w fun x w' => x = .returned (.tuple #[.int .i64 0, .int .i64 2]) ∧ Below w.heap.size w w') (hn : n < -62135596800) :
    Calls Try.prog 8 #[.agg #[.int .i64 cy, .int .i64 cm, .int .i64 cd, .int .i64 ch, .int .i64 ci, .int .i64 cs], .int .i64 east, .int .i64 n] w (LawTrue w) := by
  have e1 := fun w => civ_no n w (Or.inl hn)
  go_enter Try.func8, Try.ntmps8
  go_wp2_with fail
  refine (c1 _).mono ?_
  rintro x w1 ⟨rfl, hw1⟩
  obtain ⟨hc0, hf0⟩ := bcell hw1
  have hz0 : w.heap.size < w1.heap.size := by have := hw1.size; simp at this; omega
  go_wp2_with fail
  refine (c2 _).mono ?_
  rintro x w2 ⟨rfl, hw2⟩
  obtain ⟨hc1, hf1⟩ := bcell hw2
  have hz1 : w.heap.size < w2.heap.size := by have := hw2.size; omega
  go_wp2_with fail
  refine (c3 _).mono ?_
  rintro x w3 ⟨rfl, hw3⟩
  obtain ⟨hc2, hf2⟩ := bcell hw3
  have hz2 : w.heap.size < w3.heap.size := by have := hw3.size; omega
  go_wp2_with fail
  refine (e1 _).mono ?_
  rintro x v1 ⟨rfl, hv1⟩
  clear hc0 hf0 hc1 hf1 hc2 hf2
  go_wp2_with fail
  refine (wakes_any _).mono ?_
  rintro x v4 ⟨rfl, hv4⟩
  go_wp2
  go_ret
  exact ⟨rfl, bn (bbox (Below.refl _ _) _) (bn hw1 (bn hw2 (bn hw3 (bn hv1 (bn (bbox (Below.refl _ _) _) hv4)))))⟩
set_option maxRecDepth 100000 in
set_option maxHeartbeats 1000000 in
theorem moves_b2 (cy cm cd ch ci cs east n : Int) (w : World) (N : Int) (bN : -719162 ≤ N ∧ N ≤ 2932896) (bc : 0 ≤ ch ∧ ch ≤ 23 ∧ 0 ≤ ci ∧ ci ≤ 59 ∧ 0 ≤ cs ∧ cs ≤ 59)
    (c1 : ∀ w, Calls Try.prog 22 #[.agg #[.int .i64 cy, .int .i64 cm, .int .i64 cd, .int .i64 ch, .int .i64 ci, .int .i64 cs], .int .i64 0] w fun x w' => x = .returned (.tuple #[.int .i64 (N * 86400 + ch * 3600 + ci * 60 + cs), .int .i64 0]) ∧ Below w.heap.size w w')
    (c2 : ∀ w, Calls Try.prog 11 #[.int .i64 cy, .int .i64 cm, .int .i64 cd] w fun e w' => e = .returned (.tuple #[.int .i64 N, .int .i64 0]) ∧ Below w.heap.size w w')
    (c3 : ∀ w, Calls Try.prog 22 #[.agg #[.int .i64 cy, .int .i64 cm, .int .i64 cd, .int .i64 ch, .int .i64 ci, .int .i64 cs], .int .i64 east] w fun x w' => x = .returned (.tuple #[.int .i64 0, .int .i64 2]) ∧ Below w.heap.size w w') (hn : 253402300799 < n) :
    Calls Try.prog 8 #[.agg #[.int .i64 cy, .int .i64 cm, .int .i64 cd, .int .i64 ch, .int .i64 ci, .int .i64 cs], .int .i64 east, .int .i64 n] w (LawTrue w) := by
  have e1 := fun w => civ_no n w (Or.inr hn)
  have hn2 : -62135596800 ≤ n := by omega
  go_enter Try.func8, Try.ntmps8
  go_wp2_with fail
  refine (c1 _).mono ?_
  rintro x w1 ⟨rfl, hw1⟩
  obtain ⟨hc0, hf0⟩ := bcell hw1
  have hz0 : w.heap.size < w1.heap.size := by have := hw1.size; simp at this; omega
  go_wp2_with fail
  refine (c2 _).mono ?_
  rintro x w2 ⟨rfl, hw2⟩
  obtain ⟨hc1, hf1⟩ := bcell hw2
  have hz1 : w.heap.size < w2.heap.size := by have := hw2.size; omega
  go_wp2_with fail
  refine (c3 _).mono ?_
  rintro x w3 ⟨rfl, hw3⟩
  obtain ⟨hc2, hf2⟩ := bcell hw3
  have hz2 : w.heap.size < w3.heap.size := by have := hw3.size; omega
  go_wp2_with fail
  refine (e1 _).mono ?_
  rintro x v1 ⟨rfl, hv1⟩
  clear hc0 hf0 hc1 hf1 hc2 hf2
  go_wp2_with fail
  refine (wakes_any _).mono ?_
  rintro x v4 ⟨rfl, hv4⟩
  go_wp2
  go_ret
  exact ⟨rfl, bn (bbox (Below.refl _ _) _) (bn hw1 (bn hw2 (bn hw3 (bn hv1 (bn (bbox (Below.refl _ _) _) hv4)))))⟩
set_option maxRecDepth 100000 in
set_option maxHeartbeats 1000000 in
theorem moves_b3 (cy cm cd ch ci cs east n : Int) (w : World) (N : Int) (bN : -719162 ≤ N ∧ N ≤ 2932896) (bc : 0 ≤ ch ∧ ch ≤ 23 ∧ 0 ≤ ci ∧ ci ≤ 59 ∧ 0 ≤ cs ∧ cs ≤ 59)
    (c1 : ∀ w, Calls Try.prog 22 #[.agg #[.int .i64 cy, .int .i64 cm, .int .i64 cd, .int .i64 ch, .int .i64 ci, .int .i64 cs], .int .i64 0] w fun x w' => x = .returned (.tuple #[.int .i64 (N * 86400 + ch * 3600 + ci * 60 + cs), .int .i64 0]) ∧ Below w.heap.size w w')
    (c2 : ∀ w, Calls Try.prog 11 #[.int .i64 cy, .int .i64 cm, .int .i64 cd] w fun e w' => e = .returned (.tuple #[.int .i64 N, .int .i64 0]) ∧ Below w.heap.size w w')
    (c3 : ∀ w, Calls Try.prog 22 #[.agg #[.int .i64 cy, .int .i64 cm, .int .i64 cd, .int .i64 ch, .int .i64 ci, .int .i64 cs], .int .i64 east] w fun x w' => x = .returned (.tuple #[.int .i64 0, .int .i64 2]) ∧ Below w.heap.size w w') (y m d h i s : Int) (bh : Is64 h) (bi : Is64 i) (bs : Is64 s) (hm : Cv.mayB y m d h i s = true) (hs : Cv.secV y m d h i s 0 = n) (hk : Cv.secOk y m d h i s 0 = true) :
    Calls Try.prog 8 #[.agg #[.int .i64 cy, .int .i64 cm, .int .i64 cd, .int .i64 ch, .int .i64 ci, .int .i64 cs], .int .i64 east, .int .i64 n] w (LawTrue w) := by
  have e1 := fun w => civ_at y m d h i s n w hm hs
  have e2 := fun w => sec_yes y m d h i s 0 w bh bi bs hk
  have e3 := fun w => may_any y m d h i s w bh bi bs
  rw [hs] at e2
  rw [hm] at e3
  clear hm hs hk bh bi bs
  go_enter Try.func8, Try.ntmps8
  go_wp2_with fail
  refine (c1 _).mono ?_
  rintro x w1 ⟨rfl, hw1⟩
  obtain ⟨hc0, hf0⟩ := bcell hw1
  have hz0 : w.heap.size < w1.heap.size := by have := hw1.size; simp at this; omega
  go_wp2_with fail
  refine (c2 _).mono ?_
  rintro x w2 ⟨rfl, hw2⟩
  obtain ⟨hc1, hf1⟩ := bcell hw2
  have hz1 : w.heap.size < w2.heap.size := by have := hw2.size; omega
  go_wp2_with fail
  refine (c3 _).mono ?_
  rintro x w3 ⟨rfl, hw3⟩
  obtain ⟨hc2, hf2⟩ := bcell hw3
  have hz2 : w.heap.size < w3.heap.size := by have := hw3.size; omega
  go_wp2_with fail
  refine (e1 _).mono ?_
  rintro x v1 ⟨rfl, hv1⟩
  clear hc0 hf0 hc1 hf1 hc2 hf2
  go_wp2_with fail
  refine (e2 _).mono ?_
  rintro x v2 ⟨rfl, hv2⟩
  obtain ⟨gc, gf⟩ := bcell hv2
  have gz : v1.heap.size < v2.heap.size := by have := hv2.size; simp at this; omega
  go_wp2_with fail
  refine (e3 _).mono ?_
  rintro x v3 ⟨rfl, hv3⟩
  clear gc gf
  go_wp2_with fail
  refine (wakes_any _).mono ?_
  rintro x v4 ⟨rfl, hv4⟩
  go_wp2
  go_ret
  exact ⟨rfl, bn (bbox (Below.refl _ _) _) (bn hw1 (bn hw2 (bn hw3 (bn hv1 (bn (bbox (Below.refl _ _) _) (bn hv2 (bn hv3 hv4)))))))⟩
set_option maxRecDepth 100000 in
set_option maxHeartbeats 1000000 in
theorem moves_c1 (cy cm cd ch ci cs east n : Int) (w : World) (N : Int) (bN : -719162 ≤ N ∧ N ≤ 2932896) (bc : 0 ≤ ch ∧ ch ≤ 23 ∧ 0 ≤ ci ∧ ci ≤ 59 ∧ 0 ≤ cs ∧ cs ≤ 59) (be : -1439 ≤ east ∧ east ≤ 1439)
    (c1 : ∀ w, Calls Try.prog 22 #[.agg #[.int .i64 cy, .int .i64 cm, .int .i64 cd, .int .i64 ch, .int .i64 ci, .int .i64 cs], .int .i64 0] w fun x w' => x = .returned (.tuple #[.int .i64 (N * 86400 + ch * 3600 + ci * 60 + cs), .int .i64 0]) ∧ Below w.heap.size w w')
    (c2 : ∀ w, Calls Try.prog 11 #[.int .i64 cy, .int .i64 cm, .int .i64 cd] w fun e w' => e = .returned (.tuple #[.int .i64 N, .int .i64 0]) ∧ Below w.heap.size w w')
    (c3 : ∀ w, Calls Try.prog 22 #[.agg #[.int .i64 cy, .int .i64 cm, .int .i64 cd, .int .i64 ch, .int .i64 ci, .int .i64 cs], .int .i64 east] w fun x w' => x = .returned (.tuple #[.int .i64 (N * 86400 + ch * 3600 + ci * 60 + cs - 60 * east), .int .i64 0]) ∧ Below w.heap.size w w') (hn : n < -62135596800) :
    Calls Try.prog 8 #[.agg #[.int .i64 cy, .int .i64 cm, .int .i64 cd, .int .i64 ch, .int .i64 ci, .int .i64 cs], .int .i64 east, .int .i64 n] w (LawTrue w) := by
  have e1 := fun w => civ_no n w (Or.inl hn)
  go_enter Try.func8, Try.ntmps8
  go_wp2_with fail
  refine (c1 _).mono ?_
  rintro x w1 ⟨rfl, hw1⟩
  obtain ⟨hc0, hf0⟩ := bcell hw1
  have hz0 : w.heap.size < w1.heap.size := by have := hw1.size; simp at this; omega
  go_wp2_with fail
  refine (c2 _).mono ?_
  rintro x w2 ⟨rfl, hw2⟩
  obtain ⟨hc1, hf1⟩ := bcell hw2
  have hz1 : w.heap.size < w2.heap.size := by have := hw2.size; omega
  go_wp2_with fail
  refine (c3 _).mono ?_
  rintro x w3 ⟨rfl, hw3⟩
  obtain ⟨hc2, hf2⟩ := bcell hw3
  have hz2 : w.heap.size < w3.heap.size := by have := hw3.size; omega
  go_wp2_with fail
  refine (e1 _).mono ?_
  rintro x v1 ⟨rfl, hv1⟩
  clear hc0 hf0 hc1 hf1 hc2 hf2
  go_wp2_with fail
  refine (wakes_any _).mono ?_
  rintro x v4 ⟨rfl, hv4⟩
  go_wp2
  go_ret
  exact ⟨rfl, bn (bbox (Below.refl _ _) _) (bn hw1 (bn hw2 (bn hw3 (bn hv1 (bn (bbox (Below.refl _ _) _) hv4)))))⟩
set_option maxRecDepth 100000 in
set_option maxHeartbeats 1000000 in
theorem moves_c2 (cy cm cd ch ci cs east n : Int) (w : World) (N : Int) (bN : -719162 ≤ N ∧ N ≤ 2932896) (bc : 0 ≤ ch ∧ ch ≤ 23 ∧ 0 ≤ ci ∧ ci ≤ 59 ∧ 0 ≤ cs ∧ cs ≤ 59) (be : -1439 ≤ east ∧ east ≤ 1439)
    (c1 : ∀ w, Calls Try.prog 22 #[.agg #[.int .i64 cy, .int .i64 cm, .int .i64 cd, .int .i64 ch, .int .i64 ci, .int .i64 cs], .int .i64 0] w fun x w' => x = .returned (.tuple #[.int .i64 (N * 86400 + ch * 3600 + ci * 60 + cs), .int .i64 0]) ∧ Below w.heap.size w w')
    (c2 : ∀ w, Calls Try.prog 11 #[.int .i64 cy, .int .i64 cm, .int .i64 cd] w fun e w' => e = .returned (.tuple #[.int .i64 N, .int .i64 0]) ∧ Below w.heap.size w w')
    (c3 : ∀ w, Calls Try.prog 22 #[.agg #[.int .i64 cy, .int .i64 cm, .int .i64 cd, .int .i64 ch, .int .i64 ci, .int .i64 cs], .int .i64 east] w fun x w' => x = .returned (.tuple #[.int .i64 (N * 86400 + ch * 3600 + ci * 60 + cs - 60 * east), .int .i64 0]) ∧ Below w.heap.size w w') (hn : 253402300799 < n) :
    Calls Try.prog 8 #[.agg #[.int .i64 cy, .int .i64 cm, .int .i64 cd, .int .i64 ch, .int .i64 ci, .int .i64 cs], .int .i64 east, .int .i64 n] w (LawTrue w) := by
  have e1 := fun w => civ_no n w (Or.inr hn)
  have hn2 : -62135596800 ≤ n := by omega
  go_enter Try.func8, Try.ntmps8
  go_wp2_with fail
  refine (c1 _).mono ?_
  rintro x w1 ⟨rfl, hw1⟩
  obtain ⟨hc0, hf0⟩ := bcell hw1
  have hz0 : w.heap.size < w1.heap.size := by have := hw1.size; simp at this; omega
  go_wp2_with fail
  refine (c2 _).mono ?_
  rintro x w2 ⟨rfl, hw2⟩
  obtain ⟨hc1, hf1⟩ := bcell hw2
  have hz1 : w.heap.size < w2.heap.size := by have := hw2.size; omega
  go_wp2_with fail
  refine (c3 _).mono ?_
  rintro x w3 ⟨rfl, hw3⟩
  obtain ⟨hc2, hf2⟩ := bcell hw3
  have hz2 : w.heap.size < w3.heap.size := by have := hw3.size; omega
  go_wp2_with fail
  refine (e1 _).mono ?_
  rintro x v1 ⟨rfl, hv1⟩
  clear hc0 hf0 hc1 hf1 hc2 hf2
  go_wp2_with fail
  refine (wakes_any _).mono ?_
  rintro x v4 ⟨rfl, hv4⟩
  go_wp2
  go_ret
  exact ⟨rfl, bn (bbox (Below.refl _ _) _) (bn hw1 (bn hw2 (bn hw3 (bn hv1 (bn (bbox (Below.refl _ _) _) hv4)))))⟩
set_option maxRecDepth 100000 in
set_option maxHeartbeats 1000000 in
theorem moves_c3 (cy cm cd ch ci cs east n : Int) (w : World) (N : Int) (bN : -719162 ≤ N ∧ N ≤ 2932896) (bc : 0 ≤ ch ∧ ch ≤ 23 ∧ 0 ≤ ci ∧ ci ≤ 59 ∧ 0 ≤ cs ∧ cs ≤ 59) (be : -1439 ≤ east ∧ east ≤ 1439)
    (c1 : ∀ w, Calls Try.prog 22 #[.agg #[.int .i64 cy, .int .i64 cm, .int .i64 cd, .int .i64 ch, .int .i64 ci, .int .i64 cs], .int .i64 0] w fun x w' => x = .returned (.tuple #[.int .i64 (N * 86400 + ch * 3600 + ci * 60 + cs), .int .i64 0]) ∧ Below w.heap.size w w')
    (c2 : ∀ w, Calls Try.prog 11 #[.int .i64 cy, .int .i64 cm, .int .i64 cd] w fun e w' => e = .returned (.tuple #[.int .i64 N, .int .i64 0]) ∧ Below w.heap.size w w')
    (c3 : ∀ w, Calls Try.prog 22 #[.agg #[.int .i64 cy, .int .i64 cm, .int .i64 cd, .int .i64 ch, .int .i64 ci, .int .i64 cs], .int .i64 east] w fun x w' => x = .returned (.tuple #[.int .i64 (N * 86400 + ch * 3600 + ci * 60 + cs - 60 * east), .int .i64 0]) ∧ Below w.heap.size w w') (y m d h i s : Int) (bh : Is64 h) (bi : Is64 i) (bs : Is64 s) (hm : Cv.mayB y m d h i s = true) (hs : Cv.secV y m d h i s 0 = n) (hk : Cv.secOk y m d h i s 0 = true) :
    Calls Try.prog 8 #[.agg #[.int .i64 cy, .int .i64 cm, .int .i64 cd, .int .i64 ch, .int .i64 ci, .int .i64 cs], .int .i64 east, .int .i64 n] w (LawTrue w) := by
  have e1 := fun w => civ_at y m d h i s n w hm hs
  have e2 := fun w => sec_yes y m d h i s 0 w bh bi bs hk
  have e3 := fun w => may_any y m d h i s w bh bi bs
  rw [hs] at e2
  rw [hm] at e3
  clear hm hs hk bh bi bs
  go_enter Try.func8, Try.ntmps8
  go_wp2_with fail
  refine (c1 _).mono ?_
  rintro x w1 ⟨rfl, hw1⟩
  obtain ⟨hc0, hf0⟩ := bcell hw1
  have hz0 : w.heap.size < w1.heap.size := by have := hw1.size; simp at this; omega
  go_wp2_with fail
  refine (c2 _).mono ?_
  rintro x w2 ⟨rfl, hw2⟩
  obtain ⟨hc1, hf1⟩ := bcell hw2
  have hz1 : w.heap.size < w2.heap.size := by have := hw2.size; omega
  go_wp2_with fail
  refine (c3 _).mono ?_
  rintro x w3 ⟨rfl, hw3⟩
  obtain ⟨hc2, hf2⟩ := bcell hw3
  have hz2 : w.heap.size < w3.heap.size := by have := hw3.size; omega
  go_wp2_with fail
  refine (e1 _).mono ?_
  rintro x v1 ⟨rfl, hv1⟩
  clear hc0 hf0 hc1 hf1 hc2 hf2
  go_wp2_with fail
  refine (e2 _).mono ?_
  rintro x v2 ⟨rfl, hv2⟩
  obtain ⟨gc, gf⟩ := bcell hv2
  have gz : v1.heap.size < v2.heap.size := by have := hv2.size; simp at this; omega
  go_wp2_with fail
  refine (e3 _).mono ?_
  rintro x v3 ⟨rfl, hv3⟩
  clear gc gf
  go_wp2_with fail
  refine (wakes_any _).mono ?_
  rintro x v4 ⟨rfl, hv4⟩
  go_wp2
  go_ret
  exact ⟨rfl, bn (bbox (Below.refl _ _) _) (bn hw1 (bn hw2 (bn hw3 (bn hv1 (bn (bbox (Below.refl _ _) _) (bn hv2 (bn hv3 hv4)))))))⟩
theorem civilMoves_walk (cy cm cd ch ci cs : Int) (_ : Is64 cy) (_ : Is64 cm) (_ : Is64 cd) (bh : Is64 ch) (bi : Is64 ci) (bs : Is64 cs) (east : Int) (_ : Is64 east) (n : Int) (_ : Is64 n) (w : World) :
    Calls Try.prog 8 #[.agg #[.int .i64 cy, .int .i64 cm, .int .i64 cd, .int .i64 ch, .int .i64 ci, .int .i64 cs], .int .i64 east, .int .i64 n] w (LawTrue w) := by
  have second : n < -62135596800 ∨ 253402300799 < n ∨ ∃ y m d h i s : Int, Is64 h ∧ Is64 i ∧ Is64 s ∧ Cv.mayB y m d h i s = true ∧ Cv.secV y m d h i s 0 = n ∧ Cv.secOk y m d h i s 0 = true := by
    by_cases h1 : n < -62135596800
    · exact Or.inl h1
    · by_cases h2 : 253402300799 < n
      · exact Or.inr (Or.inl h2)
      · obtain ⟨y, m, d, hv, _, hm, hs⟩ := Cv.sec_split n (by omega) (by omega)
        refine Or.inr (Or.inr ⟨y, m, d, _, _, _, ?_, ?_, ?_, hm, hs, ?_⟩)
        · unfold Is64; omega
        · unfold Is64; omega
        · unfold Is64; omega
        · rw [Cv.secOk_iff, hs]; exact ⟨hm, by omega, by omega, by omega, by omega⟩
  cases hk : Cv.secOk cy cm cd ch ci cs 0
  · have c1 := fun w => sec_no cy cm cd ch ci cs 0 w bh bi bs hk
    rcases second with k | k | ⟨y, m, d, h, i, s, k1, k2, k3, k4, k5, k6⟩
    · exact moves_a1 cy cm cd ch ci cs east n w c1 k
    · exact moves_a2 cy cm cd ch ci cs east n w c1 k
    · exact moves_a3 cy cm cd ch ci cs east n w c1 y m d h i s k1 k2 k3 k4 k5 k6
  · have hk' := (Cv.secOk_iff _ _ _ _ _ _ _).1 hk
    have hm := (Cv.may_iff _ _ _ _ _ _).1 hk'.1
    have c1 := fun w => sec_yes cy cm cd ch ci cs 0 w bh bi bs hk
    rw [show Cv.secV cy cm cd ch ci cs 0 = Cv.num cy cm cd * 86400 + ch * 3600 + ci * 60 + cs from by unfold Cv.secV; omega] at c1
    have c2 := fun w => days_yes cy cm cd w hm.1
    have hN := Cv.num_bd hm.1
    cases he : Cv.secOk cy cm cd ch ci cs east
    · have c3 := fun w => sec_no cy cm cd ch ci cs east w bh bi bs he
      rcases second with k | k | ⟨y, m, d, h, i, s, k1, k2, k3, k4, k5, k6⟩
      · exact moves_b1 cy cm cd ch ci cs east n w _ hN hm.2 c1 c2 c3 k
      · exact moves_b2 cy cm cd ch ci cs east n w _ hN hm.2 c1 c2 c3 k
      · exact moves_b3 cy cm cd ch ci cs east n w _ hN hm.2 c1 c2 c3 y m d h i s k1 k2 k3 k4 k5 k6
    · have c3 := fun w => sec_yes cy cm cd ch ci cs east w bh bi bs he
      have he' := (Cv.secOk_iff _ _ _ _ _ _ _).1 he
      rw [show Cv.secV cy cm cd ch ci cs east = Cv.num cy cm cd * 86400 + ch * 3600 + ci * 60 + cs - 60 * east from by unfold Cv.secV; omega] at c3
      rcases second with k | k | ⟨y, m, d, h, i, s, k1, k2, k3, k4, k5, k6⟩
      · exact moves_c1 cy cm cd ch ci cs east n w _ hN hm.2 ⟨he'.2.1, he'.2.2.1⟩ c1 c2 c3 k
      · exact moves_c2 cy cm cd ch ci cs east n w _ hN hm.2 ⟨he'.2.1, he'.2.2.1⟩ c1 c2 c3 k
      · exact moves_c3 cy cm cd ch ci cs east n w _ hN hm.2 ⟨he'.2.1, he'.2.2.1⟩ c1 c2 c3 y m d h i s k1 k2 k3 k4 k5 k6
end Go.Proofs.Ytconknlaaleckaa
