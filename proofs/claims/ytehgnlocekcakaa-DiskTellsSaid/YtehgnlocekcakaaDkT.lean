/- The walk of the disk's statement that it tells what the document tells. -/
import Derived.Test.YtehgnlocekcakaaDkRe
import Derived.Test.YtehgnlocekcakaaDkRg
import Derived.Test.YtehgnlocekcakaaDkApart
namespace Go.Proofs.Ytehgnlocekcakaa
open Go.RowKit
open Go
set_option linter.unusedVariables false
/-- The law's three boxes. -/
def TBoxes (W : World) (B : Nat) (d o : Dm.Dk) (x : Dm.Wr) : Prop := DSeven W B d ∧ DSeven W (B + 1) o ∧ Four W (B + 1 + 1) (.int .i8 x.op) (.int .i64 x.zone) (.string x.b) (.int .i64 x.n) ∧ B + 1 + 1 < W.heap.size
theorem TBoxes.below {W W' : World} {B : Nat} {d o : Dm.Dk} {x : Dm.Wr} (h : TBoxes W B d o x) (hb : Below W.heap.size W W') : TBoxes W' B d o x :=
  ⟨Seven.below h.1 hb (by have := h.2.2.2; omega), Seven.below h.2.1 hb (by have := h.2.2.2; omega), h.2.2.1.below hb h.2.2.2, Nat.lt_of_lt_of_le h.2.2.2 hb.size⟩
def Ub (W : World) (X : Nat) (d : Dm.Dk) : Prop := DSeven W X d ∧ (∀ o, W.frozen? ⟨X, o, none⟩ = false) ∧ X < W.heap.size
theorem Ub.below {W W' : World} {X : Nat} {d : Dm.Dk} (h : Ub W X d) (hb : Below W.heap.size W W') : Ub W' X d :=
  ⟨Seven.below h.1 hb h.2.2, fun o => (hb.frozen (p := ⟨X, o, none⟩) h.2.2).trans (h.2.1 o), Nat.lt_of_lt_of_le h.2.2 hb.size⟩
abbrev put7 (W : World) (X : Nat) (d : Dm.Dk) : World :=
  (((((((W.setCell ⟨X, 0, none⟩ (.string d.b0)).setCell ⟨X, 1, none⟩ (.int .i64 d.s0)).setCell ⟨X, 2, none⟩ (.string d.b1)).setCell ⟨X, 3, none⟩ (.int .i64 d.s1)).setCell ⟨X, 4, none⟩ (.int .i64 d.cap)).setCell ⟨X, 5, none⟩ (.int .i64 d.left)).setCell ⟨X, 6, none⟩ (.bool d.down))
theorem Ub.put {W : World} {X : Nat} {d : Dm.Dk} (h : Ub W X d) (e : Dm.Dk) : Ub (put7 W X e) X e :=
  ⟨Seven.all h.1 _ _ _ _ _ _ _, fun o => by simpa using h.2.1 o, by simpa using h.2.2⟩
theorem Ub.putFar {W : World} {X Y : Nat} {d : Dm.Dk} (h : Ub W Y d) (hne : X ≠ Y) (e : Dm.Dk) : Ub (put7 W X e) Y d :=
  ⟨Seven.far (Seven.far (Seven.far (Seven.far (Seven.far (Seven.far (Seven.far h.1 hne _) hne _) hne _) hne _) hne _) hne _) hne _, fun o => by simpa using h.2.1 o, by simpa using h.2.2⟩
theorem Four.far {W : World} {b c o : Nat} {v0 v1 v2 v3 : Value} (h : Four W b v0 v1 v2 v3) (hne : c ≠ b) (x : Value) : Four (W.setCell ⟨c, o, none⟩ x) b v0 v1 v2 v3 :=
  ⟨(World.cell?_setCell_other _ _ _ _ (fun e => hne (congrArg Addr.block e))).trans h.1, (World.cell?_setCell_other _ _ _ _ (fun e => hne (congrArg Addr.block e))).trans h.2.1, (World.cell?_setCell_other _ _ _ _ (fun e => hne (congrArg Addr.block e))).trans h.2.2.1, (World.cell?_setCell_other _ _ _ _ (fun e => hne (congrArg Addr.block e))).trans h.2.2.2⟩
theorem TBoxes.put {W : World} {X B : Nat} {d o : Dm.Dk} {x : Dm.Wr} (h : TBoxes W B d o x) (hlt : B + 1 + 1 < X) (e : Dm.Dk) : TBoxes (put7 W X e) B d o x := by
  have n0 : X ≠ B := by omega
  have n1 : X ≠ B + 1 := by omega
  have n2 : X ≠ B + 1 + 1 := by omega
  exact ⟨Seven.far (Seven.far (Seven.far (Seven.far (Seven.far (Seven.far (Seven.far h.1 n0 _) n0 _) n0 _) n0 _) n0 _) n0 _) n0 _,
    Seven.far (Seven.far (Seven.far (Seven.far (Seven.far (Seven.far (Seven.far h.2.1 n1 _) n1 _) n1 _) n1 _) n1 _) n1 _) n1 _,
    Four.far (Four.far (Four.far (Four.far (Four.far (Four.far (Four.far h.2.2.1 n2 _) n2 _) n2 _) n2 _) n2 _) n2 _) n2 _, by simpa using h.2.2.2⟩
theorem bput {B : Nat} {w W : World} {X : Nat} (h : Below B w W) (hlt : B ≤ X) (e : Dm.Dk) : Below B w (put7 W X e) :=
  ((((((h.setCell hlt _).setCell hlt _).setCell hlt _).setCell hlt _).setCell hlt _).setCell hlt _).setCell hlt _
theorem cSame (d o : Dm.Dk) (g : Bool) (hg : sameB d o = g) (w : World) : Calls Try.prog 13 #[dv d, dv o] w fun e w' => e = .returned (.bool g) ∧ Below w.heap.size w w' := by
  subst hg; exact rsame_any d o w
set_option maxRecDepth 100000 in
set_option maxHeartbeats 1000000 in
theorem tells_g1 (db0 : ByteArray) (ds0 : Int) (db1 : ByteArray) (ds1 dcap dleft : Int) (ddown : Bool) (ob0 : ByteArray) (os0 : Int) (ob1 : ByteArray) (os1 ocap oleft : Int) (odown : Bool) (xop xzone : Int) (xb : ByteArray) (xn n a b : Int) (w : World) (cG : ∀ w', Calls Try.prog 8 #[.agg #[.string db0, .int .i64 ds0, .string db1, .int .i64 ds1, .int .i64 dcap, .int .i64 dleft, .bool ddown]] w' fun e w'' => e = .returned (.bool true) ∧ Below w'.heap.size w' w'') :
    Calls Try.prog 7 #[.agg #[.string db0, .int .i64 ds0, .string db1, .int .i64 ds1, .int .i64 dcap, .int .i64 dleft, .bool ddown], .agg #[.string ob0, .int .i64 os0, .string ob1, .int .i64 os1, .int .i64 ocap, .int .i64 oleft, .bool odown], .agg #[.int .i8 xop, .int .i64 xzone, .string xb, .int .i64 xn], .int .i64 n, .int .i64 a, .int .i64 b] w (LawTrue w) := by
  go_enter Try.func7, Try.ntmps7
  go_wp2_with fail
  refine (cG _).mono ?_
  rintro e w1 ⟨rfl, hb1⟩
  have hm : TBoxes w1 w.heap.size ⟨db0, ds0, db1, ds1, dcap, dleft, ddown⟩ ⟨ob0, os0, ob1, os1, ocap, oleft, odown⟩ ⟨xop, xzone, xb, xn⟩ :=
    TBoxes.below (W := _) ⟨⟨by go_simp, by go_simp, by go_simp, by go_simp, by go_simp, by go_simp, by go_simp⟩, ⟨by go_simp, by go_simp, by go_simp, by go_simp, by go_simp, by go_simp, by go_simp⟩, ⟨by go_simp, by go_simp, by go_simp, by go_simp⟩, by simp⟩ hb1
  have hB1 : Below w.heap.size w w1 := bn (bbox (bbox (bbox (Below.refl _ _) _) _) _) hb1
  clear hb1 cG
  clear hm
  go_wp2_with fail
  refine (wakes_any _).mono ?_
  rintro e w9 ⟨rfl, hb9⟩
  go_wp2
  go_ret
  exact ⟨rfl, bn hB1 hb9⟩
set_option maxRecDepth 100000 in
set_option maxHeartbeats 1000000 in
theorem tells_g2 (db0 : ByteArray) (ds0 : Int) (db1 : ByteArray) (ds1 dcap dleft : Int) (ddown : Bool) (ob0 : ByteArray) (os0 : Int) (ob1 : ByteArray) (os1 ocap oleft : Int) (odown : Bool) (xop xzone : Int) (xb : ByteArray) (xn n a b : Int) (w : World) (cG : ∀ w', Calls Try.prog 8 #[.agg #[.string db0, .int .i64 ds0, .string db1, .int .i64 ds1, .int .i64 dcap, .int .i64 dleft, .bool ddown]] w' fun e w'' => e = .returned (.bool false) ∧ Below w'.heap.size w' w'') (cH : ∀ w', Calls Try.prog 8 #[.agg #[.string ob0, .int .i64 os0, .string ob1, .int .i64 os1, .int .i64 ocap, .int .i64 oleft, .bool odown]] w' fun e w'' => e = .returned (.bool true) ∧ Below w'.heap.size w' w'') :
    Calls Try.prog 7 #[.agg #[.string db0, .int .i64 ds0, .string db1, .int .i64 ds1, .int .i64 dcap, .int .i64 dleft, .bool ddown], .agg #[.string ob0, .int .i64 os0, .string ob1, .int .i64 os1, .int .i64 ocap, .int .i64 oleft, .bool odown], .agg #[.int .i8 xop, .int .i64 xzone, .string xb, .int .i64 xn], .int .i64 n, .int .i64 a, .int .i64 b] w (LawTrue w) := by
  have CH := Lib.hid cH
  clear cH
  go_enter Try.func7, Try.ntmps7
  go_wp2_with fail
  refine (cG _).mono ?_
  rintro e w1 ⟨rfl, hb1⟩
  have hm : TBoxes w1 w.heap.size ⟨db0, ds0, db1, ds1, dcap, dleft, ddown⟩ ⟨ob0, os0, ob1, os1, ocap, oleft, odown⟩ ⟨xop, xzone, xb, xn⟩ :=
    TBoxes.below (W := _) ⟨⟨by go_simp, by go_simp, by go_simp, by go_simp, by go_simp, by go_simp, by go_simp⟩, ⟨by go_simp, by go_simp, by go_simp, by go_simp, by go_simp, by go_simp, by go_simp⟩, ⟨by go_simp, by go_simp, by go_simp, by go_simp⟩, by simp⟩ hb1
  have hB1 : Below w.heap.size w w1 := bn (bbox (bbox (bbox (Below.refl _ _) _) _) _) hb1
  clear hb1 cG
  obtain ⟨⟨p0, p1, p2, p3, p4, p5, p6⟩, ⟨q0, q1, q2, q3, q4, q5, q6⟩, ⟨y0, y1, y2, y3⟩, hz⟩ := id hm
  have hz0 : w.heap.size < w1.heap.size := by omega
  have hz1 : w.heap.size + 1 < w1.heap.size := by omega
  have cH := CH.out
  go_wp2_with fail
  refine (cH _).mono ?_
  rintro e w2 ⟨rfl, hb2⟩
  clear p0 p1 p2 p3 p4 p5 p6 q0 q1 q2 q3 q4 q5 q6 y0 y1 y2 y3 hz hz0 hz1
  have hm := hm.below hb2
  have hB2 : Below w.heap.size w w2 := bn hB1 hb2
  clear hb2 cH hB1
  clear hm
  go_wp2_with fail
  refine (wakes_any _).mono ?_
  rintro e w9 ⟨rfl, hb9⟩
  go_wp2
  go_ret
  exact ⟨rfl, bn hB2 hb9⟩
set_option maxRecDepth 100000 in
set_option maxHeartbeats 1000000 in
theorem tells_g3 (db0 : ByteArray) (ds0 : Int) (db1 : ByteArray) (ds1 dcap dleft : Int) (ddown : Bool) (ob0 : ByteArray) (os0 : Int) (ob1 : ByteArray) (os1 ocap oleft : Int) (odown : Bool) (xop xzone : Int) (xb : ByteArray) (xn n a b : Int) (w : World) (cG : ∀ w', Calls Try.prog 8 #[.agg #[.string db0, .int .i64 ds0, .string db1, .int .i64 ds1, .int .i64 dcap, .int .i64 dleft, .bool ddown]] w' fun e w'' => e = .returned (.bool false) ∧ Below w'.heap.size w' w'') (cH : ∀ w', Calls Try.prog 8 #[.agg #[.string ob0, .int .i64 os0, .string ob1, .int .i64 os1, .int .i64 ocap, .int .i64 oleft, .bool odown]] w' fun e w'' => e = .returned (.bool false) ∧ Below w'.heap.size w' w'') (hg : Dm.greatW [⟨xop, xzone, xb, xn⟩] = true) :
    Calls Try.prog 7 #[.agg #[.string db0, .int .i64 ds0, .string db1, .int .i64 ds1, .int .i64 dcap, .int .i64 dleft, .bool ddown], .agg #[.string ob0, .int .i64 os0, .string ob1, .int .i64 os1, .int .i64 ocap, .int .i64 oleft, .bool odown], .agg #[.int .i8 xop, .int .i64 xzone, .string xb, .int .i64 xn], .int .i64 n, .int .i64 a, .int .i64 b] w (LawTrue w) := by
  have CH := Lib.hid cH
  clear cH
  have HG := Lib.hid hg
  clear hg
  go_enter Try.func7, Try.ntmps7
  go_wp2_with fail
  refine (cG _).mono ?_
  rintro e w1 ⟨rfl, hb1⟩
  have hm : TBoxes w1 w.heap.size ⟨db0, ds0, db1, ds1, dcap, dleft, ddown⟩ ⟨ob0, os0, ob1, os1, ocap, oleft, odown⟩ ⟨xop, xzone, xb, xn⟩ :=
    TBoxes.below (W := _) ⟨⟨by go_simp, by go_simp, by go_simp, by go_simp, by go_simp, by go_simp, by go_simp⟩, ⟨by go_simp, by go_simp, by go_simp, by go_simp, by go_simp, by go_simp, by go_simp⟩, ⟨by go_simp, by go_simp, by go_simp, by go_simp⟩, by simp⟩ hb1
  have hB1 : Below w.heap.size w w1 := bn (bbox (bbox (bbox (Below.refl _ _) _) _) _) hb1
  clear hb1 cG
  obtain ⟨⟨p0, p1, p2, p3, p4, p5, p6⟩, ⟨q0, q1, q2, q3, q4, q5, q6⟩, ⟨y0, y1, y2, y3⟩, hz⟩ := id hm
  have hz0 : w.heap.size < w1.heap.size := by omega
  have hz1 : w.heap.size + 1 < w1.heap.size := by omega
  have cH := CH.out
  go_wp2_with fail
  refine (cH _).mono ?_
  rintro e w2 ⟨rfl, hb2⟩
  clear p0 p1 p2 p3 p4 p5 p6 q0 q1 q2 q3 q4 q5 q6 y0 y1 y2 y3 hz hz0 hz1
  have hm := hm.below hb2
  have hB2 : Below w.heap.size w w2 := bn hB1 hb2
  clear hb2 cH hB1
  obtain ⟨⟨p0, p1, p2, p3, p4, p5, p6⟩, ⟨q0, q1, q2, q3, q4, q5, q6⟩, ⟨y0, y1, y2, y3⟩, hz⟩ := id hm
  have hz0 : w.heap.size < w2.heap.size := by omega
  have hz1 : w.heap.size + 1 < w2.heap.size := by omega
  go_wp2_with fail
  refine (cGreatW [⟨xop, xzone, xb, xn⟩] true HG.out _ 0 _ 1 rfl _ (fun i hi => ?_) (by decide)).mono ?_
  · match i, hi with
    | 0, _ => exact ⟨_, rfl, by go_simp, by go_simp, by go_simp, by go_simp⟩
  rintro e w3 ⟨rfl, rfl⟩
  clear p0 p1 p2 p3 p4 p5 p6 q0 q1 q2 q3 q4 q5 q6 y0 y1 y2 y3 hz hz0 hz1
  clear hm
  go_wp2_with fail
  refine (wakes_any _).mono ?_
  rintro e w9 ⟨rfl, hb9⟩
  go_wp2
  go_ret
  exact ⟨rfl, bn (bbox hB2 _) hb9⟩
set_option maxRecDepth 100000 in
set_option maxHeartbeats 4000000 in
theorem tells_main (db0 : ByteArray) (ds0 : Int) (db1 : ByteArray) (ds1 dcap dleft : Int) (ddown : Bool) (ob0 : ByteArray) (os0 : Int) (ob1 : ByteArray) (os1 ocap oleft : Int) (odown : Bool) (xop xzone : Int) (xb : ByteArray) (xn n a b : Int) (w : World) (cG : ∀ w', Calls Try.prog 8 #[.agg #[.string db0, .int .i64 ds0, .string db1, .int .i64 ds1, .int .i64 dcap, .int .i64 dleft, .bool ddown]] w' fun e w'' => e = .returned (.bool false) ∧ Below w'.heap.size w' w'') (cH : ∀ w', Calls Try.prog 8 #[.agg #[.string ob0, .int .i64 os0, .string ob1, .int .i64 os1, .int .i64 ocap, .int .i64 oleft, .bool odown]] w' fun e w'' => e = .returned (.bool false) ∧ Below w'.heap.size w' w'') (hg : Dm.greatW [⟨xop, xzone, xb, xn⟩] = false) 
    (gb0 : ByteArray) (gs0 : Int) (gb1 : ByteArray) (gs1 gcap gleft : Int) (gdown : Bool) (gk : Int)
    (cg1 : ∀ w', Calls Try.prog 15 #[.agg #[.string db0, .int .i64 ds0, .string db1, .int .i64 ds1, .int .i64 dcap, .int .i64 dleft, .bool ddown], .agg #[.int .i8 xop, .int .i64 xzone, .string xb, .int .i64 xn]] w' fun e w'' => e = .returned (.tuple #[.agg #[.string gb0, .int .i64 gs0, .string gb1, .int .i64 gs1, .int .i64 gcap, .int .i64 gleft, .bool gdown], .int .i64 gk]) ∧ Below w'.heap.size w' w'')
    (cg2 : ∀ w', Calls Try.prog 20 #[.agg #[.string db0, .int .i64 ds0, .string db1, .int .i64 ds1, .int .i64 dcap, .int .i64 dleft, .bool ddown], .agg #[.int .i8 xop, .int .i64 xzone, .string xb, .int .i64 xn]] w' fun e w'' => e = .returned (.tuple #[.agg #[.string gb0, .int .i64 gs0, .string gb1, .int .i64 gs1, .int .i64 gcap, .int .i64 gleft, .bool gdown], .int .i64 gk]) ∧ Below w'.heap.size w' w'')
    (cg3 : ∀ w', Calls Try.prog 13 #[.agg #[.string gb0, .int .i64 gs0, .string gb1, .int .i64 gs1, .int .i64 gcap, .int .i64 gleft, .bool gdown], .agg #[.string gb0, .int .i64 gs0, .string gb1, .int .i64 gs1, .int .i64 gcap, .int .i64 gleft, .bool gdown]] w' fun e w'' => e = .returned (.bool true) ∧ Below w'.heap.size w' w'')
    (hb0 : ByteArray) (hs0 : Int) (hb1 : ByteArray) (hs1 hcap hleft : Int) (hdown : Bool) (hk : Int)
    (ch1 : ∀ w', Calls Try.prog 19 #[.agg #[.string db0, .int .i64 ds0, .string db1, .int .i64 ds1, .int .i64 dcap, .int .i64 dleft, .bool ddown], .int .i64 n] w' fun e w'' => e = .returned (.tuple #[.agg #[.string hb0, .int .i64 hs0, .string hb1, .int .i64 hs1, .int .i64 hcap, .int .i64 hleft, .bool hdown], .int .i64 hk]) ∧ Below w'.heap.size w' w'')
    (ch2 : ∀ w', Calls Try.prog 21 #[.agg #[.string db0, .int .i64 ds0, .string db1, .int .i64 ds1, .int .i64 dcap, .int .i64 dleft, .bool ddown], .int .i64 n] w' fun e w'' => e = .returned (.tuple #[.agg #[.string hb0, .int .i64 hs0, .string hb1, .int .i64 hs1, .int .i64 hcap, .int .i64 hleft, .bool hdown], .int .i64 hk]) ∧ Below w'.heap.size w' w'')
    (ch3 : ∀ w', Calls Try.prog 13 #[.agg #[.string hb0, .int .i64 hs0, .string hb1, .int .i64 hs1, .int .i64 hcap, .int .i64 hleft, .bool hdown], .agg #[.string hb0, .int .i64 hs0, .string hb1, .int .i64 hs1, .int .i64 hcap, .int .i64 hleft, .bool hdown]] w' fun e w'' => e = .returned (.bool true) ∧ Below w'.heap.size w' w'')
    (ib0 : ByteArray) (is0 : Int) (ib1 : ByteArray) (is1 icap ileft : Int) (idown : Bool) (ik : Int)
    (ci1 : ∀ w', Calls Try.prog 16 #[.agg #[.string db0, .int .i64 ds0, .string db1, .int .i64 ds1, .int .i64 dcap, .int .i64 dleft, .bool ddown], .int .i64 a, .int .i64 b] w' fun e w'' => e = .returned (.tuple #[.agg #[.string ib0, .int .i64 is0, .string ib1, .int .i64 is1, .int .i64 icap, .int .i64 ileft, .bool idown], .int .i64 ik]) ∧ Below w'.heap.size w' w'')
    (ci2 : ∀ w', Calls Try.prog 22 #[.agg #[.string db0, .int .i64 ds0, .string db1, .int .i64 ds1, .int .i64 dcap, .int .i64 dleft, .bool ddown], .int .i64 a, .int .i64 b] w' fun e w'' => e = .returned (.tuple #[.agg #[.string ib0, .int .i64 is0, .string ib1, .int .i64 is1, .int .i64 icap, .int .i64 ileft, .bool idown], .int .i64 ik]) ∧ Below w'.heap.size w' w'')
    (ci3 : ∀ w', Calls Try.prog 13 #[.agg #[.string ib0, .int .i64 is0, .string ib1, .int .i64 is1, .int .i64 icap, .int .i64 ileft, .bool idown], .agg #[.string ib0, .int .i64 is0, .string ib1, .int .i64 is1, .int .i64 icap, .int .i64 ileft, .bool idown]] w' fun e w'' => e = .returned (.bool true) ∧ Below w'.heap.size w' w'')
    (jb0 : ByteArray) (js0 : Int) (jb1 : ByteArray) (js1 jcap jleft : Int) (jdown : Bool) (jk : Int)
    (cj1 : ∀ w', Calls Try.prog 14 #[.int .i64 n] w' fun e w'' => e = .returned (.tuple #[.agg #[.string jb0, .int .i64 js0, .string jb1, .int .i64 js1, .int .i64 jcap, .int .i64 jleft, .bool jdown], .int .i64 jk]) ∧ Below w'.heap.size w' w'')
    (cj2 : ∀ w', Calls Try.prog 23 #[.int .i64 n] w' fun e w'' => e = .returned (.tuple #[.agg #[.string jb0, .int .i64 js0, .string jb1, .int .i64 js1, .int .i64 jcap, .int .i64 jleft, .bool jdown], .int .i64 jk]) ∧ Below w'.heap.size w' w'')
    (cj3 : ∀ w', Calls Try.prog 13 #[.agg #[.string jb0, .int .i64 js0, .string jb1, .int .i64 js1, .int .i64 jcap, .int .i64 jleft, .bool jdown], .agg #[.string jb0, .int .i64 js0, .string jb1, .int .i64 js1, .int .i64 jcap, .int .i64 jleft, .bool jdown]] w' fun e w'' => e = .returned (.bool true) ∧ Below w'.heap.size w' w'')
    (kk : Int) (cC1 : ∀ w', Calls Try.prog 17 #[.agg #[.string db0, .int .i64 ds0, .string db1, .int .i64 ds1, .int .i64 dcap, .int .i64 dleft, .bool ddown]] w' fun e w'' => e = .returned (.int .i64 kk) ∧ Below w'.heap.size w' w'') (cC2 : ∀ w', Calls Try.prog 24 #[.agg #[.string db0, .int .i64 ds0, .string db1, .int .i64 ds1, .int .i64 dcap, .int .i64 dleft, .bool ddown]] w' fun e w'' => e = .returned (.int .i64 kk) ∧ Below w'.heap.size w' w'')
    (ss : Bool) (cS1 : ∀ w', Calls Try.prog 18 #[.agg #[.string db0, .int .i64 ds0, .string db1, .int .i64 ds1, .int .i64 dcap, .int .i64 dleft, .bool ddown], .agg #[.string ob0, .int .i64 os0, .string ob1, .int .i64 os1, .int .i64 ocap, .int .i64 oleft, .bool odown]] w' fun e w'' => e = .returned (.bool ss) ∧ Below w'.heap.size w' w'') (cS2 : ∀ w', Calls Try.prog 13 #[.agg #[.string db0, .int .i64 ds0, .string db1, .int .i64 ds1, .int .i64 dcap, .int .i64 dleft, .bool ddown], .agg #[.string ob0, .int .i64 os0, .string ob1, .int .i64 os1, .int .i64 ocap, .int .i64 oleft, .bool odown]] w' fun e w'' => e = .returned (.bool ss) ∧ Below w'.heap.size w' w'') :
    Calls Try.prog 7 #[.agg #[.string db0, .int .i64 ds0, .string db1, .int .i64 ds1, .int .i64 dcap, .int .i64 dleft, .bool ddown], .agg #[.string ob0, .int .i64 os0, .string ob1, .int .i64 os1, .int .i64 ocap, .int .i64 oleft, .bool odown], .agg #[.int .i8 xop, .int .i64 xzone, .string xb, .int .i64 xn], .int .i64 n, .int .i64 a, .int .i64 b] w (LawTrue w) := by
  have CH := Lib.hid cH
  clear cH
  have HG := Lib.hid hg
  clear hg
  have CG1x := Lib.hid cg1
  clear cg1
  have CG2x := Lib.hid cg2
  clear cg2
  have CG3x := Lib.hid cg3
  clear cg3
  have CH1x := Lib.hid ch1
  clear ch1
  have CH2x := Lib.hid ch2
  clear ch2
  have CH3x := Lib.hid ch3
  clear ch3
  have CI1x := Lib.hid ci1
  clear ci1
  have CI2x := Lib.hid ci2
  clear ci2
  have CI3x := Lib.hid ci3
  clear ci3
  have CJ1x := Lib.hid cj1
  clear cj1
  have CJ2x := Lib.hid cj2
  clear cj2
  have CJ3x := Lib.hid cj3
  clear cj3
  have CC1x := Lib.hid cC1
  clear cC1
  have CC2x := Lib.hid cC2
  clear cC2
  have CS1x := Lib.hid cS1
  clear cS1
  have CS2x := Lib.hid cS2
  clear cS2
  go_enter Try.func7, Try.ntmps7
  go_wp2_with fail
  refine (cG _).mono ?_
  rintro e w1 ⟨rfl, hb1⟩
  have hm : TBoxes w1 w.heap.size ⟨db0, ds0, db1, ds1, dcap, dleft, ddown⟩ ⟨ob0, os0, ob1, os1, ocap, oleft, odown⟩ ⟨xop, xzone, xb, xn⟩ :=
    TBoxes.below (W := _) ⟨⟨by go_simp, by go_simp, by go_simp, by go_simp, by go_simp, by go_simp, by go_simp⟩, ⟨by go_simp, by go_simp, by go_simp, by go_simp, by go_simp, by go_simp, by go_simp⟩, ⟨by go_simp, by go_simp, by go_simp, by go_simp⟩, by simp⟩ hb1
  have hB1 : Below w.heap.size w w1 := bn (bbox (bbox (bbox (Below.refl _ _) _) _) _) hb1
  clear hb1 cG
  obtain ⟨⟨p0, p1, p2, p3, p4, p5, p6⟩, ⟨q0, q1, q2, q3, q4, q5, q6⟩, ⟨y0, y1, y2, y3⟩, hz⟩ := id hm
  have hz0 : w.heap.size < w1.heap.size := by omega
  have hz1 : w.heap.size + 1 < w1.heap.size := by omega
  have cH := CH.out
  go_wp2_with fail
  refine (cH _).mono ?_
  rintro e w2 ⟨rfl, hb2⟩
  clear p0 p1 p2 p3 p4 p5 p6 q0 q1 q2 q3 q4 q5 q6 y0 y1 y2 y3 hz hz0 hz1
  have hm := hm.below hb2
  have hB2 : Below w.heap.size w w2 := bn hB1 hb2
  clear hb2 cH hB1
  obtain ⟨⟨p0, p1, p2, p3, p4, p5, p6⟩, ⟨q0, q1, q2, q3, q4, q5, q6⟩, ⟨y0, y1, y2, y3⟩, hz⟩ := id hm
  have hz0 : w.heap.size < w2.heap.size := by omega
  have hz1 : w.heap.size + 1 < w2.heap.size := by omega
  go_wp2_with fail
  refine (cGreatW [⟨xop, xzone, xb, xn⟩] false HG.out _ 0 _ 1 rfl _ (fun i hi => ?_) (by decide)).mono ?_
  · match i, hi with
    | 0, _ => exact ⟨_, rfl, by go_simp, by go_simp, by go_simp, by go_simp⟩
  rintro e w3 ⟨rfl, rfl⟩
  have hmx := hm.below (bbox (Below.refl w2.heap.size _) (.cells #[.int .i8 xop, .int .i64 xzone, .string xb, .int .i64 xn] 42))
  go_wp2_with fail
  have c := CG1x.out
  refine (c _).mono ?_
  rintro e w3 ⟨rfl, hb3⟩
  clear c
  clear p0 p1 p2 p3 p4 p5 p6 q0 q1 q2 q3 q4 q5 q6 y0 y1 y2 y3 hz hz0 hz1
  have hm := hmx.below hb3
  have hB3 : Below w.heap.size w w3 := bn (bbox hB2 _) hb3
  clear hb3 hB2 hmx CG1x HG CH
  obtain ⟨⟨p0, p1, p2, p3, p4, p5, p6⟩, ⟨q0, q1, q2, q3, q4, q5, q6⟩, ⟨y0, y1, y2, y3⟩, hz⟩ := id hm
  have hz0 : w.heap.size < w3.heap.size := by omega
  have hz1 : w.heap.size + 1 < w3.heap.size := by omega
  go_wp2_with fail
  have hu : Ub (w3.alloc (.cells #[.string gb0, .int .i64 gs0, .string gb1, .int .i64 gs1, .int .i64 gcap, .int .i64 gleft, .bool gdown] 26)) w3.heap.size ⟨gb0, gs0, gb1, gs1, gcap, gleft, gdown⟩ := ⟨⟨by simp, by simp, by simp, by simp, by simp, by simp, by simp⟩, fun o => by simp, by simp⟩
  have hmx := hm.below (bbox (Below.refl w3.heap.size _) (.cells #[.string gb0, .int .i64 gs0, .string gb1, .int .i64 gs1, .int .i64 gcap, .int .i64 gleft, .bool gdown] 26))
  have hzz := hz
  have c := CG2x.out
  refine (c _).mono ?_
  rintro e w4 ⟨rfl, hb4⟩
  clear c
  clear p0 p1 p2 p3 p4 p5 p6 q0 q1 q2 q3 q4 q5 q6 y0 y1 y2 y3 hz hz0 hz1
  have hm := hmx.below hb4
  have hu := hu.below hb4
  have hB4 : Below w.heap.size w w4 := bn (bbox hB3 _) hb4
  clear hb4 hB3 hmx CG2x
  have hBX : w.heap.size + 1 + 1 < w3.heap.size := hzz
  generalize hX : w3.heap.size = X at *
  clear hX hzz
  obtain ⟨⟨p0, p1, p2, p3, p4, p5, p6⟩, ⟨q0, q1, q2, q3, q4, q5, q6⟩, ⟨y0, y1, y2, y3⟩, hz⟩ := id hm
  have hz0 : w.heap.size < w4.heap.size := by omega
  have hz1 : w.heap.size + 1 < w4.heap.size := by omega
  obtain ⟨⟨x0, x1, x2, x3, x4, x5, x6⟩, hf, hx⟩ := id hu
  go_wp2_with fail
  have hv : Ub (w4.alloc (.cells #[.string gb0, .int .i64 gs0, .string gb1, .int .i64 gs1, .int .i64 gcap, .int .i64 gleft, .bool gdown] 26)) w4.heap.size ⟨gb0, gs0, gb1, gs1, gcap, gleft, gdown⟩ := ⟨⟨by simp, by simp, by simp, by simp, by simp, by simp, by simp⟩, fun o => by simp, by simp⟩
  have hmx := hm.below (bbox (Below.refl w4.heap.size _) (.cells #[.string gb0, .int .i64 gs0, .string gb1, .int .i64 gs1, .int .i64 gcap, .int .i64 gleft, .bool gdown] 26))
  have hux := hu.below (bbox (Below.refl w4.heap.size _) (.cells #[.string gb0, .int .i64 gs0, .string gb1, .int .i64 gs1, .int .i64 gcap, .int .i64 gleft, .bool gdown] 26))
  have c := CG3x.out
  refine (c _).mono ?_
  rintro e w5 ⟨rfl, hb5⟩
  have hXY : X < w4.heap.size := hx
  clear c x0 x1 x2 x3 x4 x5 x6 hf hx
  clear p0 p1 p2 p3 p4 p5 p6 q0 q1 q2 q3 q4 q5 q6 y0 y1 y2 y3 hz hz0 hz1
  have hm := hmx.below hb5
  have hu := hux.below hb5
  have hv := hv.below hb5
  have hB5 : Below w.heap.size w w5 := bn (bbox hB4 _) hb5
  clear hb5 hB4 hmx hux CG3x
  generalize hY : w4.heap.size = Y at *
  clear hY
  obtain ⟨⟨p0, p1, p2, p3, p4, p5, p6⟩, ⟨q0, q1, q2, q3, q4, q5, q6⟩, ⟨y0, y1, y2, y3⟩, hz⟩ := id hm
  have hz0 : w.heap.size < w5.heap.size := by omega
  have hz1 : w.heap.size + 1 < w5.heap.size := by omega
  obtain ⟨⟨x0, x1, x2, x3, x4, x5, x6⟩, hf, hx⟩ := id hu
  obtain ⟨⟨z0, z1, z2, z3, z4, z5, z6⟩, hg, hy⟩ := id hv
  go_wp2_with fail
  have c := CH1x.out
  refine (c _).mono ?_
  rintro e w6 ⟨rfl, hb6⟩
  clear c
  clear x0 x1 x2 x3 x4 x5 x6 hf hx z0 z1 z2 z3 z4 z5 z6 hg hy
  clear p0 p1 p2 p3 p4 p5 p6 q0 q1 q2 q3 q4 q5 q6 y0 y1 y2 y3 hz hz0 hz1
  have hm := hm.below hb6
  have hu := hu.below hb6
  have hv := hv.below hb6
  have hB6 : Below w.heap.size w w6 := bn hB5 hb6
  clear hb6 hB5 CH1x
  obtain ⟨⟨p0, p1, p2, p3, p4, p5, p6⟩, ⟨q0, q1, q2, q3, q4, q5, q6⟩, ⟨y0, y1, y2, y3⟩, hz⟩ := id hm
  have hz0 : w.heap.size < w6.heap.size := by omega
  have hz1 : w.heap.size + 1 < w6.heap.size := by omega
  obtain ⟨⟨x0, x1, x2, x3, x4, x5, x6⟩, hf, hx⟩ := id hu
  obtain ⟨⟨z0, z1, z2, z3, z4, z5, z6⟩, hg, hy⟩ := id hv
  go_wp2_with fail
  have c := CH2x.out
  refine (c _).mono ?_
  rintro e w7 ⟨rfl, hb7⟩
  clear c
  clear x0 x1 x2 x3 x4 x5 x6 hf hx z0 z1 z2 z3 z4 z5 z6 hg hy
  clear p0 p1 p2 p3 p4 p5 p6 q0 q1 q2 q3 q4 q5 q6 y0 y1 y2 y3 hz hz0 hz1
  have hm := (hm.put hBX ⟨hb0, hs0, hb1, hs1, hcap, hleft, hdown⟩).below hb7
  have hu := (hu.put ⟨hb0, hs0, hb1, hs1, hcap, hleft, hdown⟩).below hb7
  have hv := (hv.putFar (Nat.ne_of_lt hXY) ⟨hb0, hs0, hb1, hs1, hcap, hleft, hdown⟩).below hb7
  have hB7 : Below w.heap.size w w7 := bn (bput hB6 (by omega) ⟨hb0, hs0, hb1, hs1, hcap, hleft, hdown⟩) hb7
  clear hb7 hB6 CH2x
  obtain ⟨⟨p0, p1, p2, p3, p4, p5, p6⟩, ⟨q0, q1, q2, q3, q4, q5, q6⟩, ⟨y0, y1, y2, y3⟩, hz⟩ := id hm
  have hz0 : w.heap.size < w7.heap.size := by omega
  have hz1 : w.heap.size + 1 < w7.heap.size := by omega
  obtain ⟨⟨x0, x1, x2, x3, x4, x5, x6⟩, hf, hx⟩ := id hu
  obtain ⟨⟨z0, z1, z2, z3, z4, z5, z6⟩, hg, hy⟩ := id hv
  go_wp2_with fail
  have c := CH3x.out
  refine (c _).mono ?_
  rintro e w8 ⟨rfl, hb8⟩
  clear c
  clear x0 x1 x2 x3 x4 x5 x6 hf hx z0 z1 z2 z3 z4 z5 z6 hg hy
  clear p0 p1 p2 p3 p4 p5 p6 q0 q1 q2 q3 q4 q5 q6 y0 y1 y2 y3 hz hz0 hz1
  have hm := (hm.put (Nat.lt_trans hBX hXY) ⟨hb0, hs0, hb1, hs1, hcap, hleft, hdown⟩).below hb8
  have hu := (hu.putFar (Nat.ne_of_gt hXY) ⟨hb0, hs0, hb1, hs1, hcap, hleft, hdown⟩).below hb8
  have hv := (hv.put ⟨hb0, hs0, hb1, hs1, hcap, hleft, hdown⟩).below hb8
  have hB8 : Below w.heap.size w w8 := bn (bput hB7 (by omega) ⟨hb0, hs0, hb1, hs1, hcap, hleft, hdown⟩) hb8
  clear hb8 hB7 CH3x
  obtain ⟨⟨p0, p1, p2, p3, p4, p5, p6⟩, ⟨q0, q1, q2, q3, q4, q5, q6⟩, ⟨y0, y1, y2, y3⟩, hz⟩ := id hm
  have hz0 : w.heap.size < w8.heap.size := by omega
  have hz1 : w.heap.size + 1 < w8.heap.size := by omega
  obtain ⟨⟨x0, x1, x2, x3, x4, x5, x6⟩, hf, hx⟩ := id hu
  obtain ⟨⟨z0, z1, z2, z3, z4, z5, z6⟩, hg, hy⟩ := id hv
  go_wp2_with fail
  have c := CI1x.out
  refine (c _).mono ?_
  rintro e w9 ⟨rfl, hb9⟩
  clear c
  clear x0 x1 x2 x3 x4 x5 x6 hf hx z0 z1 z2 z3 z4 z5 z6 hg hy
  clear p0 p1 p2 p3 p4 p5 p6 q0 q1 q2 q3 q4 q5 q6 y0 y1 y2 y3 hz hz0 hz1
  have hm := hm.below hb9
  have hu := hu.below hb9
  have hv := hv.below hb9
  have hB9 : Below w.heap.size w w9 := bn hB8 hb9
  clear hb9 hB8 CI1x
  obtain ⟨⟨p0, p1, p2, p3, p4, p5, p6⟩, ⟨q0, q1, q2, q3, q4, q5, q6⟩, ⟨y0, y1, y2, y3⟩, hz⟩ := id hm
  have hz0 : w.heap.size < w9.heap.size := by omega
  have hz1 : w.heap.size + 1 < w9.heap.size := by omega
  obtain ⟨⟨x0, x1, x2, x3, x4, x5, x6⟩, hf, hx⟩ := id hu
  obtain ⟨⟨z0, z1, z2, z3, z4, z5, z6⟩, hg, hy⟩ := id hv
  go_wp2_with fail
  have c := CI2x.out
  refine (c _).mono ?_
  rintro e w10 ⟨rfl, hb10⟩
  clear c
  clear x0 x1 x2 x3 x4 x5 x6 hf hx z0 z1 z2 z3 z4 z5 z6 hg hy
  clear p0 p1 p2 p3 p4 p5 p6 q0 q1 q2 q3 q4 q5 q6 y0 y1 y2 y3 hz hz0 hz1
  have hm := (hm.put hBX ⟨ib0, is0, ib1, is1, icap, ileft, idown⟩).below hb10
  have hu := (hu.put ⟨ib0, is0, ib1, is1, icap, ileft, idown⟩).below hb10
  have hv := (hv.putFar (Nat.ne_of_lt hXY) ⟨ib0, is0, ib1, is1, icap, ileft, idown⟩).below hb10
  have hB10 : Below w.heap.size w w10 := bn (bput hB9 (by omega) ⟨ib0, is0, ib1, is1, icap, ileft, idown⟩) hb10
  clear hb10 hB9 CI2x
  obtain ⟨⟨p0, p1, p2, p3, p4, p5, p6⟩, ⟨q0, q1, q2, q3, q4, q5, q6⟩, ⟨y0, y1, y2, y3⟩, hz⟩ := id hm
  have hz0 : w.heap.size < w10.heap.size := by omega
  have hz1 : w.heap.size + 1 < w10.heap.size := by omega
  obtain ⟨⟨x0, x1, x2, x3, x4, x5, x6⟩, hf, hx⟩ := id hu
  obtain ⟨⟨z0, z1, z2, z3, z4, z5, z6⟩, hg, hy⟩ := id hv
  go_wp2_with fail
  have c := CI3x.out
  refine (c _).mono ?_
  rintro e w11 ⟨rfl, hb11⟩
  clear c
  clear x0 x1 x2 x3 x4 x5 x6 hf hx z0 z1 z2 z3 z4 z5 z6 hg hy
  clear p0 p1 p2 p3 p4 p5 p6 q0 q1 q2 q3 q4 q5 q6 y0 y1 y2 y3 hz hz0 hz1
  have hm := (hm.put (Nat.lt_trans hBX hXY) ⟨ib0, is0, ib1, is1, icap, ileft, idown⟩).below hb11
  have hu := (hu.putFar (Nat.ne_of_gt hXY) ⟨ib0, is0, ib1, is1, icap, ileft, idown⟩).below hb11
  have hv := (hv.put ⟨ib0, is0, ib1, is1, icap, ileft, idown⟩).below hb11
  have hB11 : Below w.heap.size w w11 := bn (bput hB10 (by omega) ⟨ib0, is0, ib1, is1, icap, ileft, idown⟩) hb11
  clear hb11 hB10 CI3x
  obtain ⟨⟨p0, p1, p2, p3, p4, p5, p6⟩, ⟨q0, q1, q2, q3, q4, q5, q6⟩, ⟨y0, y1, y2, y3⟩, hz⟩ := id hm
  have hz0 : w.heap.size < w11.heap.size := by omega
  have hz1 : w.heap.size + 1 < w11.heap.size := by omega
  obtain ⟨⟨x0, x1, x2, x3, x4, x5, x6⟩, hf, hx⟩ := id hu
  obtain ⟨⟨z0, z1, z2, z3, z4, z5, z6⟩, hg, hy⟩ := id hv
  go_wp2_with fail
  have c := CJ1x.out
  refine (c _).mono ?_
  rintro e w12 ⟨rfl, hb12⟩
  clear c
  clear x0 x1 x2 x3 x4 x5 x6 hf hx z0 z1 z2 z3 z4 z5 z6 hg hy
  clear p0 p1 p2 p3 p4 p5 p6 q0 q1 q2 q3 q4 q5 q6 y0 y1 y2 y3 hz hz0 hz1
  have hm := hm.below hb12
  have hu := hu.below hb12
  have hv := hv.below hb12
  have hB12 : Below w.heap.size w w12 := bn hB11 hb12
  clear hb12 hB11 CJ1x
  obtain ⟨⟨p0, p1, p2, p3, p4, p5, p6⟩, ⟨q0, q1, q2, q3, q4, q5, q6⟩, ⟨y0, y1, y2, y3⟩, hz⟩ := id hm
  have hz0 : w.heap.size < w12.heap.size := by omega
  have hz1 : w.heap.size + 1 < w12.heap.size := by omega
  obtain ⟨⟨x0, x1, x2, x3, x4, x5, x6⟩, hf, hx⟩ := id hu
  obtain ⟨⟨z0, z1, z2, z3, z4, z5, z6⟩, hg, hy⟩ := id hv
  go_wp2_with fail
  have c := CJ2x.out
  refine (c _).mono ?_
  rintro e w13 ⟨rfl, hb13⟩
  clear c
  clear x0 x1 x2 x3 x4 x5 x6 hf hx z0 z1 z2 z3 z4 z5 z6 hg hy
  clear p0 p1 p2 p3 p4 p5 p6 q0 q1 q2 q3 q4 q5 q6 y0 y1 y2 y3 hz hz0 hz1
  have hm := (hm.put hBX ⟨jb0, js0, jb1, js1, jcap, jleft, jdown⟩).below hb13
  have hu := (hu.put ⟨jb0, js0, jb1, js1, jcap, jleft, jdown⟩).below hb13
  have hv := (hv.putFar (Nat.ne_of_lt hXY) ⟨jb0, js0, jb1, js1, jcap, jleft, jdown⟩).below hb13
  have hB13 : Below w.heap.size w w13 := bn (bput hB12 (by omega) ⟨jb0, js0, jb1, js1, jcap, jleft, jdown⟩) hb13
  clear hb13 hB12 CJ2x
  obtain ⟨⟨p0, p1, p2, p3, p4, p5, p6⟩, ⟨q0, q1, q2, q3, q4, q5, q6⟩, ⟨y0, y1, y2, y3⟩, hz⟩ := id hm
  have hz0 : w.heap.size < w13.heap.size := by omega
  have hz1 : w.heap.size + 1 < w13.heap.size := by omega
  obtain ⟨⟨x0, x1, x2, x3, x4, x5, x6⟩, hf, hx⟩ := id hu
  obtain ⟨⟨z0, z1, z2, z3, z4, z5, z6⟩, hg, hy⟩ := id hv
  go_wp2_with fail
  clear x0 x1 x2 x3 x4 x5 x6 hf hx z0 z1 z2 z3 z4 z5 z6 hg hy
  clear p0 p1 p2 p3 p4 p5 p6 q0 q1 q2 q3 q4 q5 q6 y0 y1 y2 y3 hz hz0 hz1
  have hm := hm.put (Nat.lt_trans hBX hXY) ⟨jb0, js0, jb1, js1, jcap, jleft, jdown⟩
  have hu := hu.putFar (Nat.ne_of_gt hXY) ⟨jb0, js0, jb1, js1, jcap, jleft, jdown⟩
  have hv := hv.put ⟨jb0, js0, jb1, js1, jcap, jleft, jdown⟩
  have hB := bput hB13 (X := Y) (by omega) ⟨jb0, js0, jb1, js1, jcap, jleft, jdown⟩
  dsimp only [put7] at hm hu hv hB
  generalize hW : (((((((w13.setCell ⟨Y, 0, none⟩ (.string jb0)).setCell ⟨Y, 1, none⟩ (.int .i64 js0)).setCell ⟨Y, 2, none⟩ (.string jb1)).setCell ⟨Y, 3, none⟩ (.int .i64 js1)).setCell ⟨Y, 4, none⟩ (.int .i64 jcap)).setCell ⟨Y, 5, none⟩ (.int .i64 jleft)).setCell ⟨Y, 6, none⟩ (.bool jdown)) = W0 at *
  clear hW hB13
  obtain ⟨⟨p0, p1, p2, p3, p4, p5, p6⟩, ⟨q0, q1, q2, q3, q4, q5, q6⟩, ⟨y0, y1, y2, y3⟩, hz⟩ := id hm
  have hz0 : w.heap.size < W0.heap.size := by omega
  have hz1 : w.heap.size + 1 < W0.heap.size := by omega
  obtain ⟨⟨x0, x1, x2, x3, x4, x5, x6⟩, hf, hx⟩ := id hu
  obtain ⟨⟨z0, z1, z2, z3, z4, z5, z6⟩, hg, hy⟩ := id hv
  have p0 := cell_regrown p0
  have p1 := cell_regrown p1
  have p2 := cell_regrown p2
  have p3 := cell_regrown p3
  have p4 := cell_regrown p4
  have p5 := cell_regrown p5
  have p6 := cell_regrown p6
  have q0 := cell_regrown q0
  have q1 := cell_regrown q1
  have q2 := cell_regrown q2
  have q3 := cell_regrown q3
  have q4 := cell_regrown q4
  have q5 := cell_regrown q5
  have q6 := cell_regrown q6
  have x0 := cell_regrown x0
  have x1 := cell_regrown x1
  have x2 := cell_regrown x2
  have x3 := cell_regrown x3
  have x4 := cell_regrown x4
  have x5 := cell_regrown x5
  have x6 := cell_regrown x6
  have z0 := cell_regrown z0
  have z1 := cell_regrown z1
  have z2 := cell_regrown z2
  have z3 := cell_regrown z3
  have z4 := cell_regrown z4
  have z5 := cell_regrown z5
  have z6 := cell_regrown z6
  have k0 := rg (W := W0) CJ3x.out
  have k1 := rg (W := W0) CC1x.out
  have k2 := rg (W := W0) CC2x.out
  have k3 := rg (W := W0) CS1x.out
  have k4 := rg (W := W0) CS2x.out
  have k8 := rg (W := W0) fun w => wakes_any w
  clear CJ3x CC1x CC2x CS1x CS2x hm hu hv hf hg hx hy y0 y1 y2 y3 hz hz0 hz1
  refine wp_region_quiet_below (by kernel_rfl) (by kernel_rfl) ?_
  repeat (quiet_step (first | (go_at_call 13; first | with_reducible exact k0 _ _ | exact k4 _ _) | (go_at_call 17; exact k1 _ _) | (go_at_call 24; exact k2 _ _) | (go_at_call 18; exact k3 _ _) | (go_at_call 10; exact k8 _ _)))
  refine wpQuiet_nil ?_
  intro _ hw'
  obtain ⟨⟨dq, osq⟩, hw''⟩ := hw'
  subst hw''
  go_wp2
  go_ret
  exact ⟨rfl, bn hB (below_regrown _ dq osq)⟩


theorem chk (d : Dm.Dk) : ∃ k : Int, (∀ w, Calls Try.prog 17 #[dv d] w fun e w' => e = .returned (.int .i64 k) ∧ Below w.heap.size w w') ∧ (∀ w, Calls Try.prog 24 #[dv d] w fun e w' => e = .returned (.int .i64 k) ∧ Below w.heap.size w w') := by
  by_cases h : Dm.okB d = true
  · exact ⟨0, fun w => check_yes d.b0 d.s0 d.b1 d.s1 d.cap d.left d.down w ((ok_iff _).1 h), fun w => rcheck_yes d.b0 d.s0 d.b1 d.s1 d.cap d.left d.down w ((ok_iff _).1 h)⟩
  · exact ⟨2, fun w => check_no d.b0 d.s0 d.b1 d.s1 d.cap d.left d.down w (fun k => h ((ok_iff _).2 k)), fun w => rcheck_no d.b0 d.s0 d.b1 d.s1 d.cap d.left d.down w (fun k => h ((ok_iff _).2 k))⟩
theorem diskTells_walk (d : Dm.Dk) (hl : Is64 d.left) (o : Dm.Dk) (ho : Is64 o.left) (x : Dm.Wr) (n : Int) (_ : Is64 n) (a : Int) (_ : Is64 a) (b : Int) (_ : Is64 b) (w : World) : Calls Try.prog 7 #[dv d, dv o, wv x, .int .i64 n, .int .i64 a, .int .i64 b] w (LawTrue w) := by
  cases hgd : Dm.greatB d
  · have cG := fun w => cGreat d false hgd w
    cases hgo : Dm.greatB o
    · have cH := fun w => cGreat o false hgo w
      cases hgw : Dm.greatW [x]
      · have sx : (x.b.size : Int) ≤ 9000000000000000000 := by have := greatW_small hgw (x := x) (by simp); omega
        have S : ∀ r : Dm.Dk, ∀ w, Calls Try.prog 13 #[dv r, dv r] w fun e w' => e = .returned (.bool true) ∧ Below w.heap.size w w' := fun r w => by
          have := rsame_any r r w; rw [sameB_refl] at this; exact this
        obtain ⟨kk, c1, c2⟩ := chk d
        exact tells_main d.b0 d.s0 d.b1 d.s1 d.cap d.left d.down o.b0 o.s0 o.b1 o.s1 o.cap o.left o.down x.op x.zone x.b x.n n a b w cG cH hgw
          (Dm.doF d x).1.b0 (Dm.doF d x).1.s0 (Dm.doF d x).1.b1 (Dm.doF d x).1.s1 (Dm.doF d x).1.cap (Dm.doF d x).1.left (Dm.doF d x).1.down (Dm.doF d x).2 (fun w => do_any d x w hl sx) (fun w => rdo_any d x w hl sx) (S _)
          (Dm.armF d n).1.b0 (Dm.armF d n).1.s0 (Dm.armF d n).1.b1 (Dm.armF d n).1.s1 (Dm.armF d n).1.cap (Dm.armF d n).1.left (Dm.armF d n).1.down (Dm.armF d n).2 (fun w => arm_any d n w) (fun w => rarm_any d n w) (S _)
          (Dm.crashF d a b).1.b0 (Dm.crashF d a b).1.s0 (Dm.crashF d a b).1.b1 (Dm.crashF d a b).1.s1 (Dm.crashF d a b).1.cap (Dm.crashF d a b).1.left (Dm.crashF d a b).1.down (Dm.crashF d a b).2 (fun w => crash_any d a b w) (fun w => rcrash_any d a b w) (S _)
          (Dm.newF n).1.b0 (Dm.newF n).1.s0 (Dm.newF n).1.b1 (Dm.newF n).1.s1 (Dm.newF n).1.cap (Dm.newF n).1.left (Dm.newF n).1.down (Dm.newF n).2 (fun w => new_any n w) (fun w => rnew_any n w) (S _)
          kk c1 c2 (sameB d o) (fun w => same_any d o w) (fun w => rsame_any d o w)
      · exact tells_g3 d.b0 d.s0 d.b1 d.s1 d.cap d.left d.down o.b0 o.s0 o.b1 o.s1 o.cap o.left o.down x.op x.zone x.b x.n n a b w cG cH hgw
    · exact tells_g2 d.b0 d.s0 d.b1 d.s1 d.cap d.left d.down o.b0 o.s0 o.b1 o.s1 o.cap o.left o.down x.op x.zone x.b x.n n a b w cG (fun w => cGreat o true hgo w)
  · exact tells_g1 d.b0 d.s0 d.b1 d.s1 d.cap d.left d.down o.b0 o.s0 o.b1 o.s1 o.cap o.left o.down x.op x.zone x.b x.n n a b w (fun w => cGreat d true hgd w)
end Go.Proofs.Ytehgnlocekcakaa
