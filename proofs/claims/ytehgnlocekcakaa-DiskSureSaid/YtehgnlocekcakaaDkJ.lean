/- The walks of the disk: no operations at all; operations that are too great; what the document says of a crash. -/
import Derived.Test.YtehgnlocekcakaaDkI
namespace Go.Proofs.Ytehgnlocekcakaa
open Go.RowKit
open Go
set_option maxHeartbeats 400000 in
theorem all_nil (d0 : Dm.Dk) (w : World) : Calls Try.prog 11 #[dv d0, .slice none 0 0] w (AllPost (Dm.allF d0 [] 0) w) := by
  obtain ⟨b0, s0, b1, s1, cp, left, down⟩ := d0
  show Calls Try.prog 11 #[.agg #[.string b0, .int .i64 s0, .string b1, .int .i64 s1, .int .i64 cp, .int .i64 left, .bool down], .slice none 0 0] w fun e w' => e = .returned (.tuple #[.agg #[.string b0, .int .i64 s0, .string b1, .int .i64 s1, .int .i64 cp, .int .i64 left, .bool down], .int .i64 0, .int .i64 0]) ∧ Below w.heap.size w w'
  go_enter Try.func11, Try.ntmps11
  go_wp2_with fail
  go_loop [13] (fun k => k = .int .i64 0) (fun _ => 0)
  case atStart => rfl
  case round =>
    obtain rfl := hrel
    go_wp2
    refine disk_ret3 (fn := Try.f11) (p := 4) (u := 5) (v := 6) rfl _ _ w (w.heap.size + 1) (.string b0) (.int .i64 s0) (.string b1) (.int .i64 s1) (.int .i64 cp) (.int .i64 left) (.bool down) (.int .i64 0) (.int .i64 0) rfl rfl rfl ?_ ?_ _ (fun hb => ⟨rfl, hb⟩)
    · exact ⟨by go_simp, by go_simp, by go_simp, by go_simp, by go_simp, by go_simp, by go_simp⟩
    · exact bbox (bbox (Below.refl _ _) _) _
theorem greatW_step {xs : List Dm.Wr} {x : Dm.Wr} {j : Nat} (h : xs[j]? = some x) (hx : 4096 < (x.b.size : Int)) : Dm.greatW xs = true := by
  unfold Dm.greatW
  have hm : x ∈ xs := List.mem_of_getElem? h
  have : (xs.any fun x => decide (4096 < (x.b.size : Int))) = true := List.any_eq_true.2 ⟨x, hm, by simpa using hx⟩
  rw [this]; simp
theorem greatW_no {xs : List Dm.Wr} (h : ¬ 100 < xs.length) (k : ∀ (i : Nat) (x : Dm.Wr), xs[i]? = some x → ¬ 4096 < (x.b.size : Int)) : Dm.greatW xs = false := by
  unfold Dm.greatW
  have : (xs.any fun x => decide (4096 < (x.b.size : Int))) = false := by
    rw [List.any_eq_false]
    intro x hx
    obtain ⟨i, hi⟩ := List.getElem?_of_mem hx
    simpa using k i x hi
  rw [this]; simpa using h
set_option maxHeartbeats 400000 in
theorem greatW_some (xs : List Dm.Wr) (b off cap : Nat) (w : World) (hx : WRow w b off xs) (hm : (xs.length : Int) ≤ 9223372036854775807) :
    Calls Try.prog 9 #[.slice (some ⟨b, off, none⟩) xs.length cap] w fun e w' => e = .returned (.bool (Dm.greatW xs)) ∧ w = w' := by
  have HX := Lib.hid hx
  clear hx
  generalize hn : xs.length = len at *
  have HN := Lib.hid hn
  clear hn
  by_cases h100 : 100 < len
  · have hg : Dm.greatW xs = true := by unfold Dm.greatW; rw [HN.out, decide_eq_true h100]; rfl
    have HG := Lib.hid hg
    clear hg
    go_enter Try.func9, Try.ntmps9
    go_wp2
    go_ret
    exact ⟨ret_bool HG.out.symm, rfl⟩
  · go_enter Try.func9, Try.ntmps9
    go_wp2_with fail
    go_loop [3] (fun k => ∃ j : Nat, j ≤ len ∧ k = .int .i64 j ∧ ∀ (i : Nat) (x : Dm.Wr), i < j → xs[i]? = some x → ¬ 4096 < (x.b.size : Int)) (fun k => len - (intOf k).toNat)
    case atStart => exact ⟨0, by omega, rfl, fun i x h => by omega⟩
    case round =>
      obtain ⟨j, hj, rfl, hr⟩ := hrel
      have HR := Lib.hid hr
      clear hr
      by_cases hlt : j < len
      · obtain ⟨x, hxi, x0, x1, x2, x3⟩ := HX.out j (by rw [HN.out]; exact hlt)
        have HXI := Lib.hid hxi
        clear hxi
        by_cases h4 : 4096 < (x.b.size : Int)
        · have HG := Lib.hid (greatW_step HXI.out h4)
          go_wp2
          go_ret
          exact ⟨ret_bool HG.out.symm, rfl⟩
        · have H4 := Lib.hid h4
          go_wp2
          go_round
          case rel =>
            refine ⟨j + 1, by omega, by go_num, fun i y hi hy => ?_⟩
            by_cases e : i = j
            · subst e; rw [HXI.out] at hy; rw [← Option.some.inj hy]; exact H4.out
            · exact HR.out i y (by omega) hy
          case measure => simp [intOf]; omega
      · have hg : Dm.greatW xs = false := greatW_no (by rw [HN.out]; exact h100) (fun i y hy => HR.out i y (by have := (List.getElem?_eq_some_iff.1 hy).1; rw [HN.out] at this; omega) hy)
        have HG := Lib.hid hg
        clear hg
        go_wp2
        go_ret
        exact ⟨ret_bool HG.out.symm, rfl⟩
set_option maxHeartbeats 400000 in
theorem greatW_nil (w : World) : Calls Try.prog 9 #[.slice none 0 0] w fun e w' => e = .returned (.bool false) ∧ w = w' := by
  go_enter Try.func9, Try.ntmps9
  go_wp2_with fail
  go_loop [3] (fun k => k = .int .i64 0) (fun _ => 0)
  case atStart => rfl
  case round =>
    obtain rfl := hrel
    go_wp2
    go_ret
    exact ⟨rfl, rfl⟩
def wak : List Dm.Wr := [⟨0, 0, ⟨#[97]⟩, 0⟩, ⟨1, 0, ⟨#[]⟩, 0⟩, ⟨0, 0, ⟨#[98, 99]⟩, 0⟩]
theorem wak_new : Dm.newF 9 = (⟨⟨#[]⟩, 0, ⟨#[]⟩, 0, 9, -1, false⟩, 0) := by kernel_rfl
theorem wak_all : Dm.allF ⟨⟨#[]⟩, 0, ⟨#[]⟩, 0, 9, -1, false⟩ wak 0 = (⟨⟨#[97, 98, 99]⟩, 1, ⟨#[]⟩, 0, 9, -1, false⟩, 3, 0) := by kernel_rfl
theorem wak_crash : Dm.crashF ⟨⟨#[97, 98, 99]⟩, 1, ⟨#[]⟩, 0, 9, -1, false⟩ 1 0 = (⟨⟨#[97, 98]⟩, 2, ⟨#[]⟩, 0, 9, -1, false⟩, 0) := by kernel_rfl
theorem wak_do : Dm.doF ⟨⟨#[97, 98, 99]⟩, 1, ⟨#[]⟩, 0, 9, -1, false⟩ ⟨0, 1, ⟨#[48, 49, 50, 51, 52, 53, 54, 55, 56, 57]⟩, 0⟩ = (Dm.zero, 31) := by kernel_rfl
theorem is_m1 : Is64 (-1) := by unfold Is64; omega
set_option maxHeartbeats 1000000 in
theorem wakes_any (w : World) : Calls Try.prog 10 #[] w fun e w' => e = .returned (.bool true) ∧ Below w.heap.size w w' := by
  have c1 : ∀ w, Calls Try.prog 14 #[.int .i64 9] w fun e w' => e = .returned (.tuple #[.agg #[.string ⟨#[]⟩, .int .i64 0, .string ⟨#[]⟩, .int .i64 0, .int .i64 9, .int .i64 (-1), .bool false], .int .i64 0]) ∧ Below w.heap.size w w' := fun w => by
    have := new_any 9 w; rw [wak_new] at this; exact this
  have c3 : ∀ w, Calls Try.prog 16 #[.agg #[.string ⟨#[97, 98, 99]⟩, .int .i64 1, .string ⟨#[]⟩, .int .i64 0, .int .i64 9, .int .i64 (-1), .bool false], .int .i64 1, .int .i64 0] w fun e w' => e = .returned (.tuple #[.agg #[.string ⟨#[97, 98]⟩, .int .i64 2, .string ⟨#[]⟩, .int .i64 0, .int .i64 9, .int .i64 (-1), .bool false], .int .i64 0]) ∧ Below w.heap.size w w' := fun w => by
    have := crash_any ⟨⟨#[97, 98, 99]⟩, 1, ⟨#[]⟩, 0, 9, -1, false⟩ 1 0 w; rw [wak_crash] at this; exact this
  have c4 : ∀ w, Calls Try.prog 15 #[.agg #[.string ⟨#[97, 98, 99]⟩, .int .i64 1, .string ⟨#[]⟩, .int .i64 0, .int .i64 9, .int .i64 (-1), .bool false], .agg #[.int .i8 0, .int .i64 1, .string ⟨#[48, 49, 50, 51, 52, 53, 54, 55, 56, 57]⟩, .int .i64 0]] w fun e w' => e = .returned (.tuple #[.agg #[.string ⟨#[]⟩, .int .i64 0, .string ⟨#[]⟩, .int .i64 0, .int .i64 0, .int .i64 0, .bool false], .int .i64 31]) ∧ Below w.heap.size w w' := fun w => by
    have := do_any ⟨⟨#[97, 98, 99]⟩, 1, ⟨#[]⟩, 0, 9, -1, false⟩ ⟨0, 1, ⟨#[48, 49, 50, 51, 52, 53, 54, 55, 56, 57]⟩, 0⟩ w is_m1 (by decide); rw [wak_do] at this; exact this
  have c2 : ∀ (b cap : Nat) w, WRow w b 0 wak → b < w.heap.size → Calls Try.prog 11 #[.agg #[.string ⟨#[]⟩, .int .i64 0, .string ⟨#[]⟩, .int .i64 0, .int .i64 9, .int .i64 (-1), .bool false], .slice (some ⟨b, 0, none⟩) 3 cap] w fun e w' => e = .returned (.tuple #[.agg #[.string ⟨#[97, 98, 99]⟩, .int .i64 1, .string ⟨#[]⟩, .int .i64 0, .int .i64 9, .int .i64 (-1), .bool false], .int .i64 3, .int .i64 0]) ∧ Below w.heap.size w w' := fun b cap w h hb => by
    have := all_some ⟨⟨#[]⟩, 0, ⟨#[]⟩, 0, 9, -1, false⟩ wak b 0 cap w is_m1 h hb (by decide) (by decide); rw [wak_all] at this; exact this
  go_enter Try.func10, Try.ntmps10
  go_wp2_with fail
  refine (c1 _).mono ?_
  rintro e w1 ⟨rfl, hb1⟩
  clear c1
  go_wp2_with fail
  refine (c2 _ _ _ (fun i hi => ?_) (by simp)).mono ?_
  · match i, hi with
    | 0, _ => exact ⟨_, rfl, by go_simp, by go_simp, by go_simp, by go_simp⟩
    | 1, _ => exact ⟨_, rfl, by go_simp, by go_simp, by go_simp, by go_simp⟩
    | 2, _ => exact ⟨_, rfl, by go_simp, by go_simp, by go_simp, by go_simp⟩
  rintro e w2 ⟨rfl, hb2⟩
  clear c2
  have hD2 : Seven w2 w1.heap.size (.string ⟨#[]⟩) (.int .i64 0) (.string ⟨#[]⟩) (.int .i64 0) (.int .i64 9) (.int .i64 (-1)) (.bool false) := Seven.below (W := _) ⟨by go_simp, by go_simp, by go_simp, by go_simp, by go_simp, by go_simp, by go_simp⟩ hb2 (by simp <;> omega)
  have hf2 : ∀ o, w2.frozen? ⟨w1.heap.size, o, none⟩ = false := fun o => (hb2.frozen (p := ⟨w1.heap.size, o, none⟩) (by simp <;> omega)).trans (by go_simp)
  have hz2 : w1.heap.size + 1 < w2.heap.size := by have := hb2.size; simp at this; omega
  have hz2' : w1.heap.size < w2.heap.size := by omega
  have hB2 : Below w.heap.size w w2 := bn hb1 (bn (bbox (bbox (Below.refl _ _) _) _) hb2)
  clear hb2
  obtain ⟨q0, q1, q2, q3, q4, q5, q6⟩ := id hD2
  go_wp2_with fail
  refine (c3 _).mono ?_
  rintro e w3 ⟨rfl, hb3⟩
  clear c3
  have hD3 : Seven w3 w1.heap.size (.string ⟨#[97, 98, 99]⟩) (.int .i64 1) (.string ⟨#[]⟩) (.int .i64 0) (.int .i64 9) (.int .i64 (-1)) (.bool false) := Seven.below (Seven.all hD2 _ _ _ _ _ _ _) hb3 (by simp <;> omega)
  have hz3 : w1.heap.size < w3.heap.size := by have := hb3.size; simp at this; omega
  have hB3 : Below w.heap.size w w3 := by
    refine bn ?_ hb3
    repeat (refine Below.setCell ?_ (by simp; exact hb1.size) _)
    exact hB2
  clear hb3 q0 q1 q2 q3 q4 q5 q6
  obtain ⟨q0, q1, q2, q3, q4, q5, q6⟩ := id hD3
  go_wp2_with fail
  refine (c4 _).mono ?_
  rintro e w4 ⟨rfl, hb4⟩
  clear c4
  have g0 : w4.cell? ⟨w3.heap.size, 0, none⟩ = some (.string ⟨#[97, 98]⟩) := (hb4.cell (p := ⟨w3.heap.size, 0, none⟩) (by simp <;> omega)).trans (by go_simp)
  have g1 : w4.cell? ⟨w3.heap.size, 1, none⟩ = some (.int .i64 2) := (hb4.cell (p := ⟨w3.heap.size, 1, none⟩) (by simp <;> omega)).trans (by go_simp)
  have hz4 : w3.heap.size < w4.heap.size := by have := hb4.size; simp at this; omega
  have hB4 : Below w.heap.size w w4 := bn (bbox hB3 _) hb4
  clear hb4 q0 q1 q2 q3 q4 q5 q6
  go_wp2
  go_ret
  exact ⟨rfl, bbox hB4 _⟩
end Go.Proofs.Ytehgnlocekcakaa
