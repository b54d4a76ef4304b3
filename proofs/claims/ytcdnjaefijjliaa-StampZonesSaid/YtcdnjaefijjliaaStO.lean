/- The walk of the document's Text. -/
import Derived.Test.YtcdnjaefijjliaaStN
namespace Go.Proofs.Ytcdnjaefijjliaa
open Go.RowKit
open Go
set_option linter.unusedVariables false
theorem put_c (n : Int) (z : Nat) (k : Int) (hk : k = z) (hn : 0 ≤ n) (hn2 : n ≤ 9999) (hz : z ≤ 4) (hz0 : 0 < z) (p : ByteArray) (hp : p = ⟨(Sm.putL n z).toArray⟩) (w : World) :
    Calls Try.prog 32 #[.int .i64 n, .int .i64 k] w (fun e w' => e = .returned (.string p) ∧ Below w.heap.size w w') := by
  subst hk; subst hp; exact rput_any n hn hn2 z hz hz0 w
theorem cell_keep {W w1 : World} {a : Addr} {v : Value} (h : W.cell? a = some v) (hb : Below W.heap.size W w1) : w1.cell? a = some v := (hb.cell (World.block_lt_of_cell? W a h)).trans h
set_option maxHeartbeats 2000000 in
theorem rtext_core (sec y m d h mi x : Int) (p0 p1 p2 p3 p4 p5 : ByteArray) (s0 : p0.size = 4) (s1 : p1.size = 2) (s2 : p2.size = 2) (s3 : p3.size = 2) (s4 : p4.size = 2) (s5 : p5.size = 2)
    (hC : ∀ w, Calls Try.prog 21 #[.int .i64 sec] w fun e w' => e = .returned (.tuple #[.agg #[.int .i64 y, .int .i64 m, .int .i64 d, .int .i64 h, .int .i64 mi, .int .i64 x], .int .i64 0]) ∧ Below w.heap.size w w')
    (P0 : ∀ w, Calls Try.prog 32 #[.int .i64 y, .int .i64 4] w (fun e w' => e = .returned (.string p0) ∧ Below w.heap.size w w'))
    (P1 : ∀ w, Calls Try.prog 32 #[.int .i64 m, .int .i64 2] w (fun e w' => e = .returned (.string p1) ∧ Below w.heap.size w w'))
    (P2 : ∀ w, Calls Try.prog 32 #[.int .i64 d, .int .i64 2] w (fun e w' => e = .returned (.string p2) ∧ Below w.heap.size w w'))
    (P3 : ∀ w, Calls Try.prog 32 #[.int .i64 h, .int .i64 2] w (fun e w' => e = .returned (.string p3) ∧ Below w.heap.size w w'))
    (P4 : ∀ w, Calls Try.prog 32 #[.int .i64 mi, .int .i64 2] w (fun e w' => e = .returned (.string p4) ∧ Below w.heap.size w w'))
    (P5 : ∀ w, Calls Try.prog 32 #[.int .i64 x, .int .i64 2] w (fun e w' => e = .returned (.string p5) ∧ Below w.heap.size w w')) (w : World) :
    Calls Try.prog 19 #[.int .i64 sec] w (fun e w' => e = .returned (.tuple #[.string (p0 ++ ⟨#[45]⟩ ++ p1 ++ ⟨#[45]⟩ ++ p2 ++ ⟨#[84]⟩ ++ p3 ++ ⟨#[58]⟩ ++ p4 ++ ⟨#[58]⟩ ++ p5 ++ ⟨#[90]⟩), .bool true]) ∧ Below w.heap.size w w') := by
  go_enter Try.func19, Try.ntmps19
  go_wp2_with fail
  refine (hC _).mono ?_
  rintro e w1 ⟨rfl, hb1⟩
  clear hC
  have hB : Below w.heap.size w (w1.alloc (.cells #[.int .i64 y, .int .i64 m, .int .i64 d, .int .i64 h, .int .i64 mi, .int .i64 x] 26)) := bbox hb1 _
  have hs : Six (w1.alloc (.cells #[.int .i64 y, .int .i64 m, .int .i64 d, .int .i64 h, .int .i64 mi, .int .i64 x] 26)) w1.heap.size (.int .i64 y) (.int .i64 m) (.int .i64 d) (.int .i64 h) (.int .i64 mi) (.int .i64 x) := ⟨by simp, by simp, by simp, by simp, by simp, by simp⟩
  clear hb1
  go_wp2_with fail
  generalize (w1.alloc (.cells #[.int .i64 y, .int .i64 m, .int .i64 d, .int .i64 h, .int .i64 mi, .int .i64 x] 26)) = W at *
  obtain ⟨q0, q1, q2, q3, q4, q5⟩ := hs
  go_region_held3 (fun w' => w'.cell? ⟨w1.heap.size, 0, none⟩ = some (.int .i64 y) ∧ w'.cell? ⟨w1.heap.size, 1, none⟩ = some (.int .i64 m) ∧ w'.cell? ⟨w1.heap.size, 2, none⟩ = some (.int .i64 d) ∧ w'.cell? ⟨w1.heap.size, 3, none⟩ = some (.int .i64 h) ∧ w'.cell? ⟨w1.heap.size, 4, none⟩ = some (.int .i64 mi) ∧ w'.cell? ⟨w1.heap.size, 5, none⟩ = some (.int .i64 x)) (simp [*]) (first | (go_at_call 32; (first | (with_reducible refine (P0 _).mono ?_) | (with_reducible refine (P1 _).mono ?_) | (with_reducible refine (P2 _).mono ?_) | (with_reducible refine (P3 _).mono ?_) | (with_reducible refine (P4 _).mono ?_) | (with_reducible refine (P5 _).mono ?_)); rintro e w' ⟨rfl, hb⟩; replace hB : Below w.heap.size w w' := (by first | exact bn hB hb | exact bn hB.drew hb); have k0 := cell_keep (a := ⟨w1.heap.size, 0, none⟩) (v := .int .i64 y) (by simp [*]) hb; have k1 := cell_keep (a := ⟨w1.heap.size, 1, none⟩) (v := .int .i64 m) (by simp [*]) hb; have k2 := cell_keep (a := ⟨w1.heap.size, 2, none⟩) (v := .int .i64 d) (by simp [*]) hb; have k3 := cell_keep (a := ⟨w1.heap.size, 3, none⟩) (v := .int .i64 h) (by simp [*]) hb; have k4 := cell_keep (a := ⟨w1.heap.size, 4, none⟩) (v := .int .i64 mi) (by simp [*]) hb; have k5 := cell_keep (a := ⟨w1.heap.size, 5, none⟩) (v := .int .i64 x) (by simp [*]) hb; clear hb))
  go_wp2_with fail
  go_ret2
  exact ⟨rfl, hB⟩
end Go.Proofs.Ytcdnjaefijjliaa
