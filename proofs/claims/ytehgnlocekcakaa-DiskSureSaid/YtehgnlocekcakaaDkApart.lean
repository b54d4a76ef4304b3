/- The walk of the disk's statement on operations on unlike zones. -/
import Derived.Test.YtehgnlocekcakaaDkJ
import Derived.Test.YtehgnlocekcakaaDkN
import Derived.Test.YtehgnlocekcakaaDkOpen
namespace Go.Proofs.Ytehgnlocekcakaa
open Go.RowKit
open Go
set_option linter.unusedVariables false
def LawTrue (w : World) (e : Ending) (w' : World) : Prop := e = .returned (.bool true) ∧ Below w.heap.size w w'
def Four (W : World) (b : Nat) (v0 v1 v2 v3 : Value) : Prop :=
  W.cell? ⟨b, 0, none⟩ = some v0 ∧ W.cell? ⟨b, 1, none⟩ = some v1 ∧ W.cell? ⟨b, 2, none⟩ = some v2 ∧ W.cell? ⟨b, 3, none⟩ = some v3
theorem Four.below {W W' : World} {b B : Nat} {v0 v1 v2 v3 : Value} (h : Four W b v0 v1 v2 v3) (hb : Below B W W') (hlt : b < B) : Four W' b v0 v1 v2 v3 :=
  ⟨(hb.cell (p := ⟨b, 0, none⟩) hlt).trans h.1, (hb.cell (p := ⟨b, 1, none⟩) hlt).trans h.2.1, (hb.cell (p := ⟨b, 2, none⟩) hlt).trans h.2.2.1, (hb.cell (p := ⟨b, 3, none⟩) hlt).trans h.2.2.2⟩
/-- The law's three boxes. -/
def Boxes (W : World) (B : Nat) (d : Dm.Dk) (v x : Dm.Wr) : Prop := DSeven W B d ∧ Four W (B + 1) (.int .i8 v.op) (.int .i64 v.zone) (.string v.b) (.int .i64 v.n) ∧ Four W (B + 1 + 1) (.int .i8 x.op) (.int .i64 x.zone) (.string x.b) (.int .i64 x.n) ∧ B + 1 + 1 < W.heap.size
theorem Boxes.below {W W' : World} {B : Nat} {d : Dm.Dk} {v x : Dm.Wr} (h : Boxes W B d v x) (hb : Below W.heap.size W W') : Boxes W' B d v x :=
  ⟨Seven.below h.1 hb (by have := h.2.2.2; omega), h.2.1.below hb (by have := h.2.2.2; omega), h.2.2.1.below hb h.2.2.2, Nat.lt_of_lt_of_le h.2.2.2 hb.size⟩
theorem cGreat (d : Dm.Dk) (g : Bool) (hg : Dm.greatB d = g) (w : World) : Calls Try.prog 8 #[dv d] w fun e w' => e = .returned (.bool g) ∧ Below w.heap.size w w' := by
  subst hg; exact great_any d w
theorem cGreatW (xs : List Dm.Wr) (g : Bool) (hg : Dm.greatW xs = g) (b off cap len : Nat) (hn : xs.length = len) (w : World) (hx : WRow w b off xs) (hm : (len : Int) ≤ 9223372036854775807) :
    Calls Try.prog 9 #[.slice (some ⟨b, off, none⟩) len cap] w fun e w' => e = .returned (.bool g) ∧ w = w' := by
  subst hg; subst hn; exact greatW_some xs b off cap w hx hm
theorem cDo (d : Dm.Dk) (x : Dm.Wr) (r : Dm.Dk × Int) (hr : Dm.doF d x = r) (hl : Is64 d.left) (hs : (x.b.size : Int) ≤ 9000000000000000000) (w : World) :
    Calls Try.prog 15 #[dv d, wv x] w fun e w' => e = .returned (.tuple #[dv r.1, .int .i64 r.2]) ∧ Below w.heap.size w w' := by
  subst hr; exact do_any d x w hl hs
theorem do_left64 {d : Dm.Dk} {x : Dm.Wr} {r : Dm.Dk × Int} (hr : Dm.doF d x = r) (hl : Is64 d.left) : Is64 r.1.left := by
  subst hr
  have := Dm.do_left d x
  unfold Is64 at *
  omega
theorem greatW_small {xs : List Dm.Wr} (h : Dm.greatW xs = false) {x : Dm.Wr} (hx : x ∈ xs) : (x.b.size : Int) ≤ 4096 := by
  unfold Dm.greatW at h
  simp only [Bool.or_eq_false_iff] at h
  have := List.any_eq_false.1 h.2 x hx
  simpa using this
set_option maxRecDepth 100000 in
set_option maxHeartbeats 1000000 in
theorem apart_great (b0 : ByteArray) (s0 : Int) (b1 : ByteArray) (s1 cap left : Int) (down : Bool) (vop vzone : Int) (vb : ByteArray) (vn : Int) (xop xzone : Int) (xb : ByteArray) (xn : Int) (w : World) (cG : ∀ w, Calls Try.prog 8 #[.agg #[.string b0, .int .i64 s0, .string b1, .int .i64 s1, .int .i64 cap, .int .i64 left, .bool down]] w fun e w' => e = .returned (.bool true) ∧ Below w.heap.size w w') :
    Calls Try.prog 5 #[.agg #[.string b0, .int .i64 s0, .string b1, .int .i64 s1, .int .i64 cap, .int .i64 left, .bool down], .agg #[.int .i8 vop, .int .i64 vzone, .string vb, .int .i64 vn], .agg #[.int .i8 xop, .int .i64 xzone, .string xb, .int .i64 xn]] w (LawTrue w) := by
  go_enter Try.func5, Try.ntmps5
  go_wp2_with fail
  refine (cG _).mono ?_
  rintro e w1 ⟨rfl, hb1⟩
  clear cG
  go_wp2_with fail
  refine (wakes_any _).mono ?_
  rintro e w9 ⟨rfl, hb9⟩
  go_wp2
  go_ret
  exact ⟨rfl, bn (bn (bbox (bbox (bbox (Below.refl _ _) _) _) _) hb1) hb9⟩
set_option maxRecDepth 100000 in
set_option maxHeartbeats 1000000 in
theorem apart_greatW (b0 : ByteArray) (s0 : Int) (b1 : ByteArray) (s1 cap left : Int) (down : Bool) (vop vzone : Int) (vb : ByteArray) (vn : Int) (xop xzone : Int) (xb : ByteArray) (xn : Int) (w : World) (cG : ∀ w, Calls Try.prog 8 #[.agg #[.string b0, .int .i64 s0, .string b1, .int .i64 s1, .int .i64 cap, .int .i64 left, .bool down]] w fun e w' => e = .returned (.bool false) ∧ Below w.heap.size w w') (hg : Dm.greatW [⟨vop, vzone, vb, vn⟩, ⟨xop, xzone, xb, xn⟩] = true) :
    Calls Try.prog 5 #[.agg #[.string b0, .int .i64 s0, .string b1, .int .i64 s1, .int .i64 cap, .int .i64 left, .bool down], .agg #[.int .i8 vop, .int .i64 vzone, .string vb, .int .i64 vn], .agg #[.int .i8 xop, .int .i64 xzone, .string xb, .int .i64 xn]] w (LawTrue w) := by
  have HG := Lib.hid hg
  clear hg
  go_enter Try.func5, Try.ntmps5
  go_wp2_with fail
  refine (cG _).mono ?_
  rintro e w1 ⟨rfl, hb1⟩
  clear cG
  have hm : Boxes w1 w.heap.size ⟨b0, s0, b1, s1, cap, left, down⟩ ⟨vop, vzone, vb, vn⟩ ⟨xop, xzone, xb, xn⟩ :=
    Boxes.below (W := _) ⟨⟨by go_simp, by go_simp, by go_simp, by go_simp, by go_simp, by go_simp, by go_simp⟩, ⟨by go_simp, by go_simp, by go_simp, by go_simp⟩, ⟨by go_simp, by go_simp, by go_simp, by go_simp⟩, by simp⟩ hb1
  have hB1 : Below w.heap.size w w1 := bn (bbox (bbox (bbox (Below.refl _ _) _) _) _) hb1
  clear hb1
  obtain ⟨⟨q0, q1, q2, q3, q4, q5, q6⟩, ⟨y0, y1, y2, y3⟩, ⟨x0, x1, x2, x3⟩, hz⟩ := id hm
  have hz0 : w.heap.size < w1.heap.size := by omega
  have hz1 : w.heap.size + 1 < w1.heap.size := by omega
  go_wp2_with fail
  refine (cGreatW [⟨vop, vzone, vb, vn⟩, ⟨xop, xzone, xb, xn⟩] true HG.out _ 0 _ 2 rfl _ (fun i hi => ?_) (by decide)).mono ?_
  · match i, hi with
    | 0, _ => exact ⟨_, rfl, by go_simp, by go_simp, by go_simp, by go_simp⟩
    | 1, _ => exact ⟨_, rfl, by go_simp, by go_simp, by go_simp, by go_simp⟩
  rintro e w2 ⟨rfl, rfl⟩
  go_wp2_with fail
  refine (wakes_any _).mono ?_
  rintro e w9 ⟨rfl, hb9⟩
  go_wp2
  go_ret
  exact ⟨rfl, bn (bbox hB1 _) hb9⟩
set_option maxRecDepth 100000 in
set_option maxHeartbeats 1000000 in
theorem apart_zone (b0 : ByteArray) (s0 : Int) (b1 : ByteArray) (s1 cap left : Int) (down : Bool) (vop vzone : Int) (vb : ByteArray) (vn : Int) (xop xzone : Int) (xb : ByteArray) (xn : Int) (w : World) (cG : ∀ w, Calls Try.prog 8 #[.agg #[.string b0, .int .i64 s0, .string b1, .int .i64 s1, .int .i64 cap, .int .i64 left, .bool down]] w fun e w' => e = .returned (.bool false) ∧ Below w.heap.size w w') (hg : Dm.greatW [⟨vop, vzone, vb, vn⟩, ⟨xop, xzone, xb, xn⟩] = false) (hzz : (vzone == xzone) = true) :
    Calls Try.prog 5 #[.agg #[.string b0, .int .i64 s0, .string b1, .int .i64 s1, .int .i64 cap, .int .i64 left, .bool down], .agg #[.int .i8 vop, .int .i64 vzone, .string vb, .int .i64 vn], .agg #[.int .i8 xop, .int .i64 xzone, .string xb, .int .i64 xn]] w (LawTrue w) := by
  have HG := Lib.hid hg
  clear hg
  go_enter Try.func5, Try.ntmps5
  go_wp2_with fail
  refine (cG _).mono ?_
  rintro e w1 ⟨rfl, hb1⟩
  clear cG
  have hm : Boxes w1 w.heap.size ⟨b0, s0, b1, s1, cap, left, down⟩ ⟨vop, vzone, vb, vn⟩ ⟨xop, xzone, xb, xn⟩ :=
    Boxes.below (W := _) ⟨⟨by go_simp, by go_simp, by go_simp, by go_simp, by go_simp, by go_simp, by go_simp⟩, ⟨by go_simp, by go_simp, by go_simp, by go_simp⟩, ⟨by go_simp, by go_simp, by go_simp, by go_simp⟩, by simp⟩ hb1
  have hB1 : Below w.heap.size w w1 := bn (bbox (bbox (bbox (Below.refl _ _) _) _) _) hb1
  clear hb1
  obtain ⟨⟨q0, q1, q2, q3, q4, q5, q6⟩, ⟨y0, y1, y2, y3⟩, ⟨x0, x1, x2, x3⟩, hz⟩ := id hm
  have hz0 : w.heap.size < w1.heap.size := by omega
  have hz1 : w.heap.size + 1 < w1.heap.size := by omega
  go_wp2_with fail
  refine (cGreatW [⟨vop, vzone, vb, vn⟩, ⟨xop, xzone, xb, xn⟩] false HG.out _ 0 _ 2 rfl _ (fun i hi => ?_) (by decide)).mono ?_
  · match i, hi with
    | 0, _ => exact ⟨_, rfl, by go_simp, by go_simp, by go_simp, by go_simp⟩
    | 1, _ => exact ⟨_, rfl, by go_simp, by go_simp, by go_simp, by go_simp⟩
  rintro e w2 ⟨rfl, rfl⟩
  go_wp2_with fail
  refine (wakes_any _).mono ?_
  rintro e w9 ⟨rfl, hb9⟩
  go_wp2
  go_ret
  exact ⟨rfl, bn (bbox hB1 _) hb9⟩
set_option maxRecDepth 100000 in
set_option maxHeartbeats 1000000 in
theorem apart_left (b0 : ByteArray) (s0 : Int) (b1 : ByteArray) (s1 cap left : Int) (down : Bool) (vop vzone : Int) (vb : ByteArray) (vn : Int) (xop xzone : Int) (xb : ByteArray) (xn : Int) (w : World) (cG : ∀ w, Calls Try.prog 8 #[.agg #[.string b0, .int .i64 s0, .string b1, .int .i64 s1, .int .i64 cap, .int .i64 left, .bool down]] w fun e w' => e = .returned (.bool false) ∧ Below w.heap.size w w') (hg : Dm.greatW [⟨vop, vzone, vb, vn⟩, ⟨xop, xzone, xb, xn⟩] = false) (hzz : (vzone == xzone) = false) (hl : 0 ≤ left) :
    Calls Try.prog 5 #[.agg #[.string b0, .int .i64 s0, .string b1, .int .i64 s1, .int .i64 cap, .int .i64 left, .bool down], .agg #[.int .i8 vop, .int .i64 vzone, .string vb, .int .i64 vn], .agg #[.int .i8 xop, .int .i64 xzone, .string xb, .int .i64 xn]] w (LawTrue w) := by
  have HG := Lib.hid hg
  clear hg
  go_enter Try.func5, Try.ntmps5
  go_wp2_with fail
  refine (cG _).mono ?_
  rintro e w1 ⟨rfl, hb1⟩
  clear cG
  have hm : Boxes w1 w.heap.size ⟨b0, s0, b1, s1, cap, left, down⟩ ⟨vop, vzone, vb, vn⟩ ⟨xop, xzone, xb, xn⟩ :=
    Boxes.below (W := _) ⟨⟨by go_simp, by go_simp, by go_simp, by go_simp, by go_simp, by go_simp, by go_simp⟩, ⟨by go_simp, by go_simp, by go_simp, by go_simp⟩, ⟨by go_simp, by go_simp, by go_simp, by go_simp⟩, by simp⟩ hb1
  have hB1 : Below w.heap.size w w1 := bn (bbox (bbox (bbox (Below.refl _ _) _) _) _) hb1
  clear hb1
  obtain ⟨⟨q0, q1, q2, q3, q4, q5, q6⟩, ⟨y0, y1, y2, y3⟩, ⟨x0, x1, x2, x3⟩, hz⟩ := id hm
  have hz0 : w.heap.size < w1.heap.size := by omega
  have hz1 : w.heap.size + 1 < w1.heap.size := by omega
  go_wp2_with fail
  refine (cGreatW [⟨vop, vzone, vb, vn⟩, ⟨xop, xzone, xb, xn⟩] false HG.out _ 0 _ 2 rfl _ (fun i hi => ?_) (by decide)).mono ?_
  · match i, hi with
    | 0, _ => exact ⟨_, rfl, by go_simp, by go_simp, by go_simp, by go_simp⟩
    | 1, _ => exact ⟨_, rfl, by go_simp, by go_simp, by go_simp, by go_simp⟩
  rintro e w2 ⟨rfl, rfl⟩
  go_wp2_with fail
  refine (wakes_any _).mono ?_
  rintro e w9 ⟨rfl, hb9⟩
  go_wp2
  go_ret
  exact ⟨rfl, bn (bbox hB1 _) hb9⟩
set_option maxRecDepth 100000 in
set_option maxHeartbeats 1000000 in
theorem apart_errA (b0 : ByteArray) (s0 : Int) (b1 : ByteArray) (s1 cap left : Int) (down : Bool) (vop vzone : Int) (vb : ByteArray) (vn : Int) (xop xzone : Int) (xb : ByteArray) (xn : Int) (w : World) (cG : ∀ w, Calls Try.prog 8 #[.agg #[.string b0, .int .i64 s0, .string b1, .int .i64 s1, .int .i64 cap, .int .i64 left, .bool down]] w fun e w' => e = .returned (.bool false) ∧ Below w.heap.size w w') (hg : Dm.greatW [⟨vop, vzone, vb, vn⟩, ⟨xop, xzone, xb, xn⟩] = false) (hzz : (vzone == xzone) = false) (hl : left < 0) (ab0 : ByteArray) (as0 : Int) (ab1 : ByteArray) (as1 acap aleft : Int) (adown : Bool) (ak : Int) (bb0 : ByteArray) (bs0 : Int) (bb1 : ByteArray) (bs1 bcap bleft : Int) (bdown : Bool) (bk : Int)
    (cA : ∀ w, Calls Try.prog 15 #[.agg #[.string b0, .int .i64 s0, .string b1, .int .i64 s1, .int .i64 cap, .int .i64 left, .bool down], .agg #[.int .i8 vop, .int .i64 vzone, .string vb, .int .i64 vn]] w fun e w' => e = .returned (.tuple #[.agg #[.string ab0, .int .i64 as0, .string ab1, .int .i64 as1, .int .i64 acap, .int .i64 aleft, .bool adown], .int .i64 ak]) ∧ Below w.heap.size w w')
    (cB : ∀ w, Calls Try.prog 15 #[.agg #[.string b0, .int .i64 s0, .string b1, .int .i64 s1, .int .i64 cap, .int .i64 left, .bool down], .agg #[.int .i8 xop, .int .i64 xzone, .string xb, .int .i64 xn]] w fun e w' => e = .returned (.tuple #[.agg #[.string bb0, .int .i64 bs0, .string bb1, .int .i64 bs1, .int .i64 bcap, .int .i64 bleft, .bool bdown], .int .i64 bk]) ∧ Below w.heap.size w w') (hk : (ak == 0) = false) :
    Calls Try.prog 5 #[.agg #[.string b0, .int .i64 s0, .string b1, .int .i64 s1, .int .i64 cap, .int .i64 left, .bool down], .agg #[.int .i8 vop, .int .i64 vzone, .string vb, .int .i64 vn], .agg #[.int .i8 xop, .int .i64 xzone, .string xb, .int .i64 xn]] w (LawTrue w) := by
  have HG := Lib.hid hg
  clear hg
  go_enter Try.func5, Try.ntmps5
  go_wp2_with fail
  refine (cG _).mono ?_
  rintro e w1 ⟨rfl, hb1⟩
  clear cG
  have hm : Boxes w1 w.heap.size ⟨b0, s0, b1, s1, cap, left, down⟩ ⟨vop, vzone, vb, vn⟩ ⟨xop, xzone, xb, xn⟩ :=
    Boxes.below (W := _) ⟨⟨by go_simp, by go_simp, by go_simp, by go_simp, by go_simp, by go_simp, by go_simp⟩, ⟨by go_simp, by go_simp, by go_simp, by go_simp⟩, ⟨by go_simp, by go_simp, by go_simp, by go_simp⟩, by simp⟩ hb1
  have hB1 : Below w.heap.size w w1 := bn (bbox (bbox (bbox (Below.refl _ _) _) _) _) hb1
  clear hb1
  obtain ⟨⟨q0, q1, q2, q3, q4, q5, q6⟩, ⟨y0, y1, y2, y3⟩, ⟨x0, x1, x2, x3⟩, hz⟩ := id hm
  have hz0 : w.heap.size < w1.heap.size := by omega
  have hz1 : w.heap.size + 1 < w1.heap.size := by omega
  go_wp2_with fail
  refine (cGreatW [⟨vop, vzone, vb, vn⟩, ⟨xop, xzone, xb, xn⟩] false HG.out _ 0 _ 2 rfl _ (fun i hi => ?_) (by decide)).mono ?_
  · match i, hi with
    | 0, _ => exact ⟨_, rfl, by go_simp, by go_simp, by go_simp, by go_simp⟩
    | 1, _ => exact ⟨_, rfl, by go_simp, by go_simp, by go_simp, by go_simp⟩
  rintro e w2 ⟨rfl, rfl⟩
  have hmx : Boxes (w1.alloc (.cells #[.int .i8 vop, .int .i64 vzone, .string vb, .int .i64 vn, .int .i8 xop, .int .i64 xzone, .string xb, .int .i64 xn] 42)) w.heap.size ⟨b0, s0, b1, s1, cap, left, down⟩ ⟨vop, vzone, vb, vn⟩ ⟨xop, xzone, xb, xn⟩ := hm.below (bbox (Below.refl _ _) _)
  go_wp2_with fail
  refine (cA _).mono ?_
  rintro e w2 ⟨rfl, hb2⟩
  clear cA
  have hm2 := hmx.below hb2
  have hB2 : Below w.heap.size w w2 := bn (bbox hB1 _) hb2
  clear hb2 hmx hm q0 q1 q2 q3 q4 q5 q6 x0 x1 x2 x3 y0 y1 y2 y3 hz hz0 hz1
  obtain ⟨⟨q0, q1, q2, q3, q4, q5, q6⟩, ⟨y0, y1, y2, y3⟩, ⟨x0, x1, x2, x3⟩, hz⟩ := id hm2
  have hz0 : w.heap.size < w2.heap.size := by omega
  have hz1 : w.heap.size + 1 < w2.heap.size := by omega
  have ha2 : Seven (w2.alloc (.cells #[.string ab0, .int .i64 as0, .string ab1, .int .i64 as1, .int .i64 acap, .int .i64 aleft, .bool adown] 26)) w2.heap.size (.string ab0) (.int .i64 as0) (.string ab1) (.int .i64 as1) (.int .i64 acap) (.int .i64 aleft) (.bool adown) := ⟨by simp, by simp, by simp, by simp, by simp, by simp, by simp⟩
  have hma : Boxes (w2.alloc (.cells #[.string ab0, .int .i64 as0, .string ab1, .int .i64 as1, .int .i64 acap, .int .i64 aleft, .bool adown] 26)) w.heap.size ⟨b0, s0, b1, s1, cap, left, down⟩ ⟨vop, vzone, vb, vn⟩ ⟨xop, xzone, xb, xn⟩ := hm2.below (bbox (Below.refl _ _) _)
  go_wp2_with fail
  refine (cB _).mono ?_
  rintro e w3 ⟨rfl, hb3⟩
  clear cB
  have hm3 := hma.below hb3
  have hB3 : Below w.heap.size w w3 := bn (bbox hB2 _) hb3
  have ha3 : Seven w3 w2.heap.size (.string ab0) (.int .i64 as0) (.string ab1) (.int .i64 as1) (.int .i64 acap) (.int .i64 aleft) (.bool adown) := Seven.below ha2 hb3 (by simp)
  have hs3 : w2.heap.size < w3.heap.size := by have := hb3.size; simp at this; omega
  clear hb3 hma hm2 ha2 q0 q1 q2 q3 q4 q5 q6 x0 x1 x2 x3 y0 y1 y2 y3 hz hz0 hz1
  clear hm3 ha3
  go_wp2_with fail
  refine (wakes_any _).mono ?_
  rintro e w9 ⟨rfl, hb9⟩
  go_wp2
  go_ret
  exact ⟨rfl, bn (bbox hB3 _) hb9⟩
set_option maxRecDepth 100000 in
set_option maxHeartbeats 1000000 in
theorem apart_errB (b0 : ByteArray) (s0 : Int) (b1 : ByteArray) (s1 cap left : Int) (down : Bool) (vop vzone : Int) (vb : ByteArray) (vn : Int) (xop xzone : Int) (xb : ByteArray) (xn : Int) (w : World) (cG : ∀ w, Calls Try.prog 8 #[.agg #[.string b0, .int .i64 s0, .string b1, .int .i64 s1, .int .i64 cap, .int .i64 left, .bool down]] w fun e w' => e = .returned (.bool false) ∧ Below w.heap.size w w') (hg : Dm.greatW [⟨vop, vzone, vb, vn⟩, ⟨xop, xzone, xb, xn⟩] = false) (hzz : (vzone == xzone) = false) (hl : left < 0) (ab0 : ByteArray) (as0 : Int) (ab1 : ByteArray) (as1 acap aleft : Int) (adown : Bool)  (bb0 : ByteArray) (bs0 : Int) (bb1 : ByteArray) (bs1 bcap bleft : Int) (bdown : Bool) (bk : Int)
    (cA : ∀ w, Calls Try.prog 15 #[.agg #[.string b0, .int .i64 s0, .string b1, .int .i64 s1, .int .i64 cap, .int .i64 left, .bool down], .agg #[.int .i8 vop, .int .i64 vzone, .string vb, .int .i64 vn]] w fun e w' => e = .returned (.tuple #[.agg #[.string ab0, .int .i64 as0, .string ab1, .int .i64 as1, .int .i64 acap, .int .i64 aleft, .bool adown], .int .i64 0]) ∧ Below w.heap.size w w')
    (cB : ∀ w, Calls Try.prog 15 #[.agg #[.string b0, .int .i64 s0, .string b1, .int .i64 s1, .int .i64 cap, .int .i64 left, .bool down], .agg #[.int .i8 xop, .int .i64 xzone, .string xb, .int .i64 xn]] w fun e w' => e = .returned (.tuple #[.agg #[.string bb0, .int .i64 bs0, .string bb1, .int .i64 bs1, .int .i64 bcap, .int .i64 bleft, .bool bdown], .int .i64 bk]) ∧ Below w.heap.size w w') (hk2 : (bk == 0) = false) :
    Calls Try.prog 5 #[.agg #[.string b0, .int .i64 s0, .string b1, .int .i64 s1, .int .i64 cap, .int .i64 left, .bool down], .agg #[.int .i8 vop, .int .i64 vzone, .string vb, .int .i64 vn], .agg #[.int .i8 xop, .int .i64 xzone, .string xb, .int .i64 xn]] w (LawTrue w) := by
  have HG := Lib.hid hg
  clear hg
  go_enter Try.func5, Try.ntmps5
  go_wp2_with fail
  refine (cG _).mono ?_
  rintro e w1 ⟨rfl, hb1⟩
  clear cG
  have hm : Boxes w1 w.heap.size ⟨b0, s0, b1, s1, cap, left, down⟩ ⟨vop, vzone, vb, vn⟩ ⟨xop, xzone, xb, xn⟩ :=
    Boxes.below (W := _) ⟨⟨by go_simp, by go_simp, by go_simp, by go_simp, by go_simp, by go_simp, by go_simp⟩, ⟨by go_simp, by go_simp, by go_simp, by go_simp⟩, ⟨by go_simp, by go_simp, by go_simp, by go_simp⟩, by simp⟩ hb1
  have hB1 : Below w.heap.size w w1 := bn (bbox (bbox (bbox (Below.refl _ _) _) _) _) hb1
  clear hb1
  obtain ⟨⟨q0, q1, q2, q3, q4, q5, q6⟩, ⟨y0, y1, y2, y3⟩, ⟨x0, x1, x2, x3⟩, hz⟩ := id hm
  have hz0 : w.heap.size < w1.heap.size := by omega
  have hz1 : w.heap.size + 1 < w1.heap.size := by omega
  go_wp2_with fail
  refine (cGreatW [⟨vop, vzone, vb, vn⟩, ⟨xop, xzone, xb, xn⟩] false HG.out _ 0 _ 2 rfl _ (fun i hi => ?_) (by decide)).mono ?_
  · match i, hi with
    | 0, _ => exact ⟨_, rfl, by go_simp, by go_simp, by go_simp, by go_simp⟩
    | 1, _ => exact ⟨_, rfl, by go_simp, by go_simp, by go_simp, by go_simp⟩
  rintro e w2 ⟨rfl, rfl⟩
  have hmx : Boxes (w1.alloc (.cells #[.int .i8 vop, .int .i64 vzone, .string vb, .int .i64 vn, .int .i8 xop, .int .i64 xzone, .string xb, .int .i64 xn] 42)) w.heap.size ⟨b0, s0, b1, s1, cap, left, down⟩ ⟨vop, vzone, vb, vn⟩ ⟨xop, xzone, xb, xn⟩ := hm.below (bbox (Below.refl _ _) _)
  go_wp2_with fail
  refine (cA _).mono ?_
  rintro e w2 ⟨rfl, hb2⟩
  clear cA
  have hm2 := hmx.below hb2
  have hB2 : Below w.heap.size w w2 := bn (bbox hB1 _) hb2
  clear hb2 hmx hm q0 q1 q2 q3 q4 q5 q6 x0 x1 x2 x3 y0 y1 y2 y3 hz hz0 hz1
  obtain ⟨⟨q0, q1, q2, q3, q4, q5, q6⟩, ⟨y0, y1, y2, y3⟩, ⟨x0, x1, x2, x3⟩, hz⟩ := id hm2
  have hz0 : w.heap.size < w2.heap.size := by omega
  have hz1 : w.heap.size + 1 < w2.heap.size := by omega
  have ha2 : Seven (w2.alloc (.cells #[.string ab0, .int .i64 as0, .string ab1, .int .i64 as1, .int .i64 acap, .int .i64 aleft, .bool adown] 26)) w2.heap.size (.string ab0) (.int .i64 as0) (.string ab1) (.int .i64 as1) (.int .i64 acap) (.int .i64 aleft) (.bool adown) := ⟨by simp, by simp, by simp, by simp, by simp, by simp, by simp⟩
  have hma : Boxes (w2.alloc (.cells #[.string ab0, .int .i64 as0, .string ab1, .int .i64 as1, .int .i64 acap, .int .i64 aleft, .bool adown] 26)) w.heap.size ⟨b0, s0, b1, s1, cap, left, down⟩ ⟨vop, vzone, vb, vn⟩ ⟨xop, xzone, xb, xn⟩ := hm2.below (bbox (Below.refl _ _) _)
  go_wp2_with fail
  refine (cB _).mono ?_
  rintro e w3 ⟨rfl, hb3⟩
  clear cB
  have hm3 := hma.below hb3
  have hB3 : Below w.heap.size w w3 := bn (bbox hB2 _) hb3
  have ha3 : Seven w3 w2.heap.size (.string ab0) (.int .i64 as0) (.string ab1) (.int .i64 as1) (.int .i64 acap) (.int .i64 aleft) (.bool adown) := Seven.below ha2 hb3 (by simp)
  have hs3 : w2.heap.size < w3.heap.size := by have := hb3.size; simp at this; omega
  clear hb3 hma hm2 ha2 q0 q1 q2 q3 q4 q5 q6 x0 x1 x2 x3 y0 y1 y2 y3 hz hz0 hz1
  clear hm3 ha3
  go_wp2_with fail
  refine (wakes_any _).mono ?_
  rintro e w9 ⟨rfl, hb9⟩
  go_wp2
  go_ret
  exact ⟨rfl, bn (bbox hB3 _) hb9⟩
set_option maxRecDepth 100000 in
set_option maxHeartbeats 1000000 in
theorem apart_main (b0 : ByteArray) (s0 : Int) (b1 : ByteArray) (s1 cap left : Int) (down : Bool) (vop vzone : Int) (vb : ByteArray) (vn : Int) (xop xzone : Int) (xb : ByteArray) (xn : Int) (w : World) (cG : ∀ w, Calls Try.prog 8 #[.agg #[.string b0, .int .i64 s0, .string b1, .int .i64 s1, .int .i64 cap, .int .i64 left, .bool down]] w fun e w' => e = .returned (.bool false) ∧ Below w.heap.size w w') (hg : Dm.greatW [⟨vop, vzone, vb, vn⟩, ⟨xop, xzone, xb, xn⟩] = false) (hzz : (vzone == xzone) = false) (hl : left < 0) (ab0 : ByteArray) (as0 : Int) (ab1 : ByteArray) (as1 acap aleft : Int) (adown : Bool)  (bb0 : ByteArray) (bs0 : Int) (bb1 : ByteArray) (bs1 bcap bleft : Int) (bdown : Bool) 
    (cA : ∀ w, Calls Try.prog 15 #[.agg #[.string b0, .int .i64 s0, .string b1, .int .i64 s1, .int .i64 cap, .int .i64 left, .bool down], .agg #[.int .i8 vop, .int .i64 vzone, .string vb, .int .i64 vn]] w fun e w' => e = .returned (.tuple #[.agg #[.string ab0, .int .i64 as0, .string ab1, .int .i64 as1, .int .i64 acap, .int .i64 aleft, .bool adown], .int .i64 0]) ∧ Below w.heap.size w w')
    (cB : ∀ w, Calls Try.prog 15 #[.agg #[.string b0, .int .i64 s0, .string b1, .int .i64 s1, .int .i64 cap, .int .i64 left, .bool down], .agg #[.int .i8 xop, .int .i64 xzone, .string xb, .int .i64 xn]] w fun e w' => e = .returned (.tuple #[.agg #[.string bb0, .int .i64 bs0, .string bb1, .int .i64 bs1, .int .i64 bcap, .int .i64 bleft, .bool bdown], .int .i64 0]) ∧ Below w.heap.size w w') (rb0 : ByteArray) (rs0 : Int) (rb1 : ByteArray) (rs1 rcap rleft : Int) (rdown : Bool)
    (cX : ∀ w, Calls Try.prog 15 #[.agg #[.string ab0, .int .i64 as0, .string ab1, .int .i64 as1, .int .i64 acap, .int .i64 aleft, .bool adown], .agg #[.int .i8 xop, .int .i64 xzone, .string xb, .int .i64 xn]] w fun e w' => e = .returned (.tuple #[.agg #[.string rb0, .int .i64 rs0, .string rb1, .int .i64 rs1, .int .i64 rcap, .int .i64 rleft, .bool rdown], .int .i64 0]) ∧ Below w.heap.size w w')
    (cY : ∀ w, Calls Try.prog 15 #[.agg #[.string bb0, .int .i64 bs0, .string bb1, .int .i64 bs1, .int .i64 bcap, .int .i64 bleft, .bool bdown], .agg #[.int .i8 vop, .int .i64 vzone, .string vb, .int .i64 vn]] w fun e w' => e = .returned (.tuple #[.agg #[.string rb0, .int .i64 rs0, .string rb1, .int .i64 rs1, .int .i64 rcap, .int .i64 rleft, .bool rdown], .int .i64 0]) ∧ Below w.heap.size w w')
    (cS : ∀ w, Calls Try.prog 18 #[.agg #[.string rb0, .int .i64 rs0, .string rb1, .int .i64 rs1, .int .i64 rcap, .int .i64 rleft, .bool rdown], .agg #[.string rb0, .int .i64 rs0, .string rb1, .int .i64 rs1, .int .i64 rcap, .int .i64 rleft, .bool rdown]] w fun e w' => e = .returned (.bool true) ∧ Below w.heap.size w w') :
    Calls Try.prog 5 #[.agg #[.string b0, .int .i64 s0, .string b1, .int .i64 s1, .int .i64 cap, .int .i64 left, .bool down], .agg #[.int .i8 vop, .int .i64 vzone, .string vb, .int .i64 vn], .agg #[.int .i8 xop, .int .i64 xzone, .string xb, .int .i64 xn]] w (LawTrue w) := by
  have HG := Lib.hid hg
  clear hg
  go_enter Try.func5, Try.ntmps5
  go_wp2_with fail
  refine (cG _).mono ?_
  rintro e w1 ⟨rfl, hb1⟩
  clear cG
  have hm : Boxes w1 w.heap.size ⟨b0, s0, b1, s1, cap, left, down⟩ ⟨vop, vzone, vb, vn⟩ ⟨xop, xzone, xb, xn⟩ :=
    Boxes.below (W := _) ⟨⟨by go_simp, by go_simp, by go_simp, by go_simp, by go_simp, by go_simp, by go_simp⟩, ⟨by go_simp, by go_simp, by go_simp, by go_simp⟩, ⟨by go_simp, by go_simp, by go_simp, by go_simp⟩, by simp⟩ hb1
  have hB1 : Below w.heap.size w w1 := bn (bbox (bbox (bbox (Below.refl _ _) _) _) _) hb1
  clear hb1
  obtain ⟨⟨q0, q1, q2, q3, q4, q5, q6⟩, ⟨y0, y1, y2, y3⟩, ⟨x0, x1, x2, x3⟩, hz⟩ := id hm
  have hz0 : w.heap.size < w1.heap.size := by omega
  have hz1 : w.heap.size + 1 < w1.heap.size := by omega
  go_wp2_with fail
  refine (cGreatW [⟨vop, vzone, vb, vn⟩, ⟨xop, xzone, xb, xn⟩] false HG.out _ 0 _ 2 rfl _ (fun i hi => ?_) (by decide)).mono ?_
  · match i, hi with
    | 0, _ => exact ⟨_, rfl, by go_simp, by go_simp, by go_simp, by go_simp⟩
    | 1, _ => exact ⟨_, rfl, by go_simp, by go_simp, by go_simp, by go_simp⟩
  rintro e w2 ⟨rfl, rfl⟩
  have hmx : Boxes (w1.alloc (.cells #[.int .i8 vop, .int .i64 vzone, .string vb, .int .i64 vn, .int .i8 xop, .int .i64 xzone, .string xb, .int .i64 xn] 42)) w.heap.size ⟨b0, s0, b1, s1, cap, left, down⟩ ⟨vop, vzone, vb, vn⟩ ⟨xop, xzone, xb, xn⟩ := hm.below (bbox (Below.refl _ _) _)
  go_wp2_with fail
  refine (cA _).mono ?_
  rintro e w2 ⟨rfl, hb2⟩
  clear cA
  have hm2 := hmx.below hb2
  have hB2 : Below w.heap.size w w2 := bn (bbox hB1 _) hb2
  clear hb2 hmx hm q0 q1 q2 q3 q4 q5 q6 x0 x1 x2 x3 y0 y1 y2 y3 hz hz0 hz1
  obtain ⟨⟨q0, q1, q2, q3, q4, q5, q6⟩, ⟨y0, y1, y2, y3⟩, ⟨x0, x1, x2, x3⟩, hz⟩ := id hm2
  have hz0 : w.heap.size < w2.heap.size := by omega
  have hz1 : w.heap.size + 1 < w2.heap.size := by omega
  have ha2 : Seven (w2.alloc (.cells #[.string ab0, .int .i64 as0, .string ab1, .int .i64 as1, .int .i64 acap, .int .i64 aleft, .bool adown] 26)) w2.heap.size (.string ab0) (.int .i64 as0) (.string ab1) (.int .i64 as1) (.int .i64 acap) (.int .i64 aleft) (.bool adown) := ⟨by simp, by simp, by simp, by simp, by simp, by simp, by simp⟩
  have hma : Boxes (w2.alloc (.cells #[.string ab0, .int .i64 as0, .string ab1, .int .i64 as1, .int .i64 acap, .int .i64 aleft, .bool adown] 26)) w.heap.size ⟨b0, s0, b1, s1, cap, left, down⟩ ⟨vop, vzone, vb, vn⟩ ⟨xop, xzone, xb, xn⟩ := hm2.below (bbox (Below.refl _ _) _)
  go_wp2_with fail
  refine (cB _).mono ?_
  rintro e w3 ⟨rfl, hb3⟩
  clear cB
  have hm3 := hma.below hb3
  have hB3 : Below w.heap.size w w3 := bn (bbox hB2 _) hb3
  have ha3 : Seven w3 w2.heap.size (.string ab0) (.int .i64 as0) (.string ab1) (.int .i64 as1) (.int .i64 acap) (.int .i64 aleft) (.bool adown) := Seven.below ha2 hb3 (by simp)
  have hs3 : w2.heap.size < w3.heap.size := by have := hb3.size; simp at this; omega
  clear hb3 hma hm2 ha2 q0 q1 q2 q3 q4 q5 q6 x0 x1 x2 x3 y0 y1 y2 y3 hz hz0 hz1
  obtain ⟨_, ⟨y0, y1, y2, y3⟩, ⟨x0, x1, x2, x3⟩, hz⟩ := id hm3
  obtain ⟨q0, q1, q2, q3, q4, q5, q6⟩ := id ha3
  have hz1 : w.heap.size + 1 < w3.heap.size := by omega
  have hbx : Seven (w3.alloc (.cells #[.string bb0, .int .i64 bs0, .string bb1, .int .i64 bs1, .int .i64 bcap, .int .i64 bleft, .bool bdown] 26)) w3.heap.size (.string bb0) (.int .i64 bs0) (.string bb1) (.int .i64 bs1) (.int .i64 bcap) (.int .i64 bleft) (.bool bdown) := ⟨by simp, by simp, by simp, by simp, by simp, by simp, by simp⟩
  have hmb : Boxes (w3.alloc (.cells #[.string bb0, .int .i64 bs0, .string bb1, .int .i64 bs1, .int .i64 bcap, .int .i64 bleft, .bool bdown] 26)) w.heap.size ⟨b0, s0, b1, s1, cap, left, down⟩ ⟨vop, vzone, vb, vn⟩ ⟨xop, xzone, xb, xn⟩ := hm3.below (bbox (Below.refl _ _) _)
  go_wp2_with fail
  refine (cX _).mono ?_
  rintro e w4 ⟨rfl, hb4⟩
  clear cX
  have hm4 := hmb.below hb4
  have hB4 : Below w.heap.size w w4 := bn (bbox hB3 _) hb4
  have hb4' : Seven w4 w3.heap.size (.string bb0) (.int .i64 bs0) (.string bb1) (.int .i64 bs1) (.int .i64 bcap) (.int .i64 bleft) (.bool bdown) := Seven.below hbx hb4 (by simp)
  have hs4 : w3.heap.size < w4.heap.size := by have := hb4.size; simp at this; omega
  clear hb4 hmb hm3 ha3 hbx q0 q1 q2 q3 q4 q5 q6 x0 x1 x2 x3 y0 y1 y2 y3 hz hz1 hs3
  obtain ⟨_, ⟨y0, y1, y2, y3⟩, ⟨x0, x1, x2, x3⟩, hz⟩ := id hm4
  obtain ⟨q0, q1, q2, q3, q4, q5, q6⟩ := id hb4'
  have hz1 : w.heap.size + 1 < w4.heap.size := by omega
  have hrx : Seven (w4.alloc (.cells #[.string rb0, .int .i64 rs0, .string rb1, .int .i64 rs1, .int .i64 rcap, .int .i64 rleft, .bool rdown] 26)) w4.heap.size (.string rb0) (.int .i64 rs0) (.string rb1) (.int .i64 rs1) (.int .i64 rcap) (.int .i64 rleft) (.bool rdown) := ⟨by simp, by simp, by simp, by simp, by simp, by simp, by simp⟩
  go_wp2_with fail
  refine (cY _).mono ?_
  rintro e w5 ⟨rfl, hb5⟩
  clear cY
  have hB5 : Below w.heap.size w w5 := bn (bbox hB4 _) hb5
  have hr5 : Seven w5 w4.heap.size (.string rb0) (.int .i64 rs0) (.string rb1) (.int .i64 rs1) (.int .i64 rcap) (.int .i64 rleft) (.bool rdown) := Seven.below hrx hb5 (by simp)
  have hs5 : w4.heap.size < w5.heap.size := by have := hb5.size; simp at this; omega
  clear hb5 hm4 hb4' hrx q0 q1 q2 q3 q4 q5 q6 x0 x1 x2 x3 y0 y1 y2 y3 hz hz1 hs4
  obtain ⟨q0, q1, q2, q3, q4, q5, q6⟩ := hr5
  go_wp2_with fail
  refine (cS _).mono ?_
  rintro e w6 ⟨rfl, hb6⟩
  clear cS q0 q1 q2 q3 q4 q5 q6
  go_wp2_with fail
  refine (wakes_any _).mono ?_
  rintro e w9 ⟨rfl, hb9⟩
  go_wp2
  go_ret
  exact ⟨rfl, bn (bn (bbox hB5 _) hb6) hb9⟩
theorem diskApart_walk (d : Dm.Dk) (hl : Is64 d.left) (v x : Dm.Wr) (w : World) : Calls Try.prog 5 #[dv d, wv v, wv x] w (LawTrue w) := by
  cases hgd : Dm.greatB d
  · have cG := fun w => cGreat d false hgd w
    cases hgw : Dm.greatW [v, x]
    · have sv : (v.b.size : Int) ≤ 9000000000000000000 := by have := greatW_small hgw (x := v) (by simp); omega
      have sx : (x.b.size : Int) ≤ 9000000000000000000 := by have := greatW_small hgw (x := x) (by simp); omega
      by_cases hz : v.zone = x.zone
      · exact apart_zone d.b0 d.s0 d.b1 d.s1 d.cap d.left d.down v.op v.zone v.b v.n x.op x.zone x.b x.n w cG hgw (by simpa using hz)
      · have hz' : (v.zone == x.zone) = false := by simpa using hz
        by_cases h0 : 0 ≤ d.left
        · exact apart_left d.b0 d.s0 d.b1 d.s1 d.cap d.left d.down v.op v.zone v.b v.n x.op x.zone x.b x.n w cG hgw hz' h0
        · obtain ⟨⟨a, ak⟩, ha⟩ : ∃ r, Dm.doF d v = r := ⟨_, rfl⟩
          obtain ⟨⟨b, bk⟩, hb⟩ : ∃ r, Dm.doF d x = r := ⟨_, rfl⟩
          have cA := fun w => cDo d v (a, ak) ha hl sv w
          have cB := fun w => cDo d x (b, bk) hb hl sx w
          by_cases ka : ak = 0
          · subst ka
            by_cases kb : bk = 0
            · subst kb
              obtain ⟨r, h1, h2⟩ := Dm.apart_law d v x a b hz (by omega) ha hb
              have cX := fun w => cDo a x (r, 0) h1 (do_left64 ha hl) sx w
              have cY := fun w => cDo b v (r, 0) h2 (do_left64 hb hl) sv w
              have cS : ∀ w, Calls Try.prog 18 #[dv r, dv r] w fun e w' => e = .returned (.bool true) ∧ Below w.heap.size w w' := fun w => by
                have := same_any r r w; rw [sameB_refl] at this; exact this
              exact apart_main d.b0 d.s0 d.b1 d.s1 d.cap d.left d.down v.op v.zone v.b v.n x.op x.zone x.b x.n w cG hgw hz' (by omega) a.b0 a.s0 a.b1 a.s1 a.cap a.left a.down b.b0 b.s0 b.b1 b.s1 b.cap b.left b.down cA cB r.b0 r.s0 r.b1 r.s1 r.cap r.left r.down cX cY cS
            · exact apart_errB d.b0 d.s0 d.b1 d.s1 d.cap d.left d.down v.op v.zone v.b v.n x.op x.zone x.b x.n w cG hgw hz' (by omega) a.b0 a.s0 a.b1 a.s1 a.cap a.left a.down b.b0 b.s0 b.b1 b.s1 b.cap b.left b.down bk cA cB (by simpa using kb)
          · exact apart_errA d.b0 d.s0 d.b1 d.s1 d.cap d.left d.down v.op v.zone v.b v.n x.op x.zone x.b x.n w cG hgw hz' (by omega) a.b0 a.s0 a.b1 a.s1 a.cap a.left a.down ak b.b0 b.s0 b.b1 b.s1 b.cap b.left b.down bk cA cB (by simpa using ka)
    · exact apart_greatW d.b0 d.s0 d.b1 d.s1 d.cap d.left d.down v.op v.zone v.b v.n x.op x.zone x.b x.n w cG hgw
  · exact apart_great d.b0 d.s0 d.b1 d.s1 d.cap d.left d.down v.op v.zone v.b v.n x.op x.zone x.b x.n w (fun w => cGreat d true hgd w)
end Go.Proofs.Ytehgnlocekcakaa
