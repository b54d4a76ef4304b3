/- What a letter's reader holds on its way, and its steps. The walk of Parse on five words. -/
import Derived.Test.YtbhafhbaldddiaaGreatDoorZMb
import Derived.Test.YtbhafhbaldddiaaGreatDoorZC
namespace Go.Proofs.YtbhafhbaldddiaaGreatDoor
open Go.RowKit
open Go
set_option linter.unusedVariables false
/-- A letter in L, its words in g; the world from w0 on. -/
def Pl (w0 W : World) (L g : Nat) (rest : Value) (l : List ByteArray) (bad : Bool) : Prop :=
  LT W L rest bad ∧ (∀ k s, l[k]? = some s → W.cell? ⟨g, k, none⟩ = some (.string s)) ∧ g < L ∧ w0.heap.size ≤ g ∧ Below w0.heap.size w0 W
theorem Pl.go {w0 W W' : World} {L g : Nat} {r r' : Value} {l : List ByteArray} {b b' : Bool} (h : Pl w0 W L g r l b) (hg : W.grownBy W' (some L)) (hl : LT W' L r' b') : Pl w0 W' L g r' l b' := by
  obtain ⟨h1, h2, h3, h4, h5⟩ := h
  have hL := h1.2.2.2.2
  exact ⟨hl, fun k s hk => (gb_cell hg (a := ⟨g, k, none⟩) (by show g < _; omega) (fun e => absurd (Option.some.inj e) (by show ¬ g = L; omega))).trans (h2 k s hk), h3, h4, h5.trans (gb_below hg _ (by omega) (by omega))⟩
theorem Pl.quiet {w0 W W' : World} {L g : Nat} {r : Value} {l : List ByteArray} {b : Bool} (h : Pl w0 W L g r l b) (hb : Below W.heap.size W W') : Pl w0 W' L g r l b :=
  h.go (gb_of_below hb _) (h.1.far (gb_of_below hb none) (by simp))
theorem Pl.setc {w0 W : World} {L g : Nat} {r : Value} {l : List ByteArray} {b : Bool} (h : Pl w0 W L g r l b) {c : Nat} (hc : L < c) (k : Nat) (v : Value) : Pl w0 (W.setCell ⟨c, k, none⟩ v) L g r l b := by
  obtain ⟨h1, h2, h3, h4, h5⟩ := h
  exact ⟨h1.far (gb_set W ⟨c, k, none⟩ v) (fun e => absurd (Option.some.inj e) (by show ¬ L = c; omega)), fun k' s hk => (World.cell?_setCell_other _ _ _ _ (fun e => absurd (congrArg Addr.block e) (by show ¬ _ = _; simp only; omega))).trans (h2 k' s hk), h3, h4, Below.setCell h5 (by show _ ≤ c; omega) _⟩
theorem Pl.kb {w0 W : World} {L g : Nat} {r : Value} {l : List ByteArray} {b : Bool} (h : Pl w0 W L g r l b) : W.cell? ⟨L, 1, none⟩ = some (.bool b) := h.1.2.1
/-- And a date in c. -/
def Ps (w0 W : World) (L g c : Nat) (rest : Value) (l : List ByteArray) (bad : Bool) (v0 v1 v2 v3 v4 v5 : Value) : Prop :=
  Pl w0 W L g rest l bad ∧ Six W c v0 v1 v2 v3 v4 v5 ∧ (∀ k : Nat, k < 6 → W.frozen? ⟨c, k, none⟩ = false) ∧ L < c ∧ c < W.heap.size
theorem Six.far {W W' : World} {c : Nat} {v0 v1 v2 v3 v4 v5 : Value} {row : Option Nat} (h : Six W c v0 v1 v2 v3 v4 v5) (hg : W.grownBy W' row) (hc : c < W.heap.size) (hne : some c ≠ row) : Six W' c v0 v1 v2 v3 v4 v5 :=
  ⟨(gb_cell hg hc hne).trans h.1, (gb_cell hg hc hne).trans h.2.1, (gb_cell hg hc hne).trans h.2.2.1, (gb_cell hg hc hne).trans h.2.2.2.1, (gb_cell hg hc hne).trans h.2.2.2.2.1, (gb_cell hg hc hne).trans h.2.2.2.2.2⟩
theorem Ps.go {w0 W W' : World} {L g c : Nat} {r r' : Value} {l : List ByteArray} {b b' : Bool} {v0 v1 v2 v3 v4 v5 : Value} (h : Ps w0 W L g c r l b v0 v1 v2 v3 v4 v5) (hg : W.grownBy W' (some L)) (hl : LT W' L r' b') : Ps w0 W' L g c r' l b' v0 v1 v2 v3 v4 v5 := by
  obtain ⟨h1, h2, h3, h4, h5⟩ := h
  have hne : some c ≠ some L := fun e => absurd (Option.some.inj e) (by omega)
  exact ⟨h1.go hg hl, h2.far hg h5 hne, fun k hk => (gb_frozen hg h5 hne).trans (h3 k hk), h4, Nat.lt_of_lt_of_le h5 hg.size⟩
theorem Ps.quiet {w0 W W' : World} {L g c : Nat} {r : Value} {l : List ByteArray} {b : Bool} {v0 v1 v2 v3 v4 v5 : Value} (h : Ps w0 W L g c r l b v0 v1 v2 v3 v4 v5) (hb : Below W.heap.size W W') : Ps w0 W' L g c r l b v0 v1 v2 v3 v4 v5 :=
  h.go (gb_of_below hb _) (h.1.1.far (gb_of_below hb none) (by simp))
theorem Ps.set {w0 W : World} {L g c : Nat} {r : Value} {l : List ByteArray} {b : Bool} {v0 v1 v2 v3 v4 v5 u0 u1 u2 u3 u4 u5 : Value} (h : Ps w0 W L g c r l b v0 v1 v2 v3 v4 v5) (k : Nat) (x : Value) (h6 : Six (W.setCell ⟨c, k, none⟩ x) c u0 u1 u2 u3 u4 u5) : Ps w0 (W.setCell ⟨c, k, none⟩ x) L g c r l b u0 u1 u2 u3 u4 u5 :=
  ⟨h.1.setc h.2.2.2.1 k x, h6, fun k' hk => by rw [World.frozen?_setCell]; exact h.2.2.1 k' hk, h.2.2.2.1, by simpa using h.2.2.2.2⟩
theorem Ps.s0 {w0 W : World} {L g c : Nat} {r : Value} {l : List ByteArray} {b : Bool} {v0 v1 v2 v3 v4 v5 : Value} (h : Ps w0 W L g c r l b v0 v1 v2 v3 v4 v5) (x : Value) : Ps w0 (W.setCell ⟨c, 0, none⟩ x) L g c r l b x v1 v2 v3 v4 v5 := h.set 0 x (h.2.1.s0 x)
theorem Ps.s1 {w0 W : World} {L g c : Nat} {r : Value} {l : List ByteArray} {b : Bool} {v0 v1 v2 v3 v4 v5 : Value} (h : Ps w0 W L g c r l b v0 v1 v2 v3 v4 v5) (x : Value) : Ps w0 (W.setCell ⟨c, 1, none⟩ x) L g c r l b v0 x v2 v3 v4 v5 := h.set 1 x (h.2.1.s1 x)
theorem Ps.s2 {w0 W : World} {L g c : Nat} {r : Value} {l : List ByteArray} {b : Bool} {v0 v1 v2 v3 v4 v5 : Value} (h : Ps w0 W L g c r l b v0 v1 v2 v3 v4 v5) (x : Value) : Ps w0 (W.setCell ⟨c, 2, none⟩ x) L g c r l b v0 v1 x v3 v4 v5 := h.set 2 x (h.2.1.s2 x)
theorem Ps.s3 {w0 W : World} {L g c : Nat} {r : Value} {l : List ByteArray} {b : Bool} {v0 v1 v2 v3 v4 v5 : Value} (h : Ps w0 W L g c r l b v0 v1 v2 v3 v4 v5) (x : Value) : Ps w0 (W.setCell ⟨c, 3, none⟩ x) L g c r l b v0 v1 v2 x v4 v5 := h.set 3 x (h.2.1.s3 x)
theorem Ps.s4 {w0 W : World} {L g c : Nat} {r : Value} {l : List ByteArray} {b : Bool} {v0 v1 v2 v3 v4 v5 : Value} (h : Ps w0 W L g c r l b v0 v1 v2 v3 v4 v5) (x : Value) : Ps w0 (W.setCell ⟨c, 4, none⟩ x) L g c r l b v0 v1 v2 v3 x v5 := h.set 4 x (h.2.1.s4 x)
theorem Ps.s5 {w0 W : World} {L g c : Nat} {r : Value} {l : List ByteArray} {b : Bool} {v0 v1 v2 v3 v4 v5 : Value} (h : Ps w0 W L g c r l b v0 v1 v2 v3 v4 v5) (x : Value) : Ps w0 (W.setCell ⟨c, 5, none⟩ x) L g c r l b v0 v1 v2 v3 v4 x := h.set 5 x (h.2.1.s5 x)
theorem Ps.fz {w0 W : World} {L g c : Nat} {r : Value} {l : List ByteArray} {b : Bool} {v0 v1 v2 v3 v4 v5 : Value} (h : Ps w0 W L g c r l b v0 v1 v2 v3 v4 v5) : W.frozen? ⟨c, 0, none⟩ = false ∧ W.frozen? ⟨c, 1, none⟩ = false ∧ W.frozen? ⟨c, 2, none⟩ = false ∧ W.frozen? ⟨c, 3, none⟩ = false ∧ W.frozen? ⟨c, 4, none⟩ = false ∧ W.frozen? ⟨c, 5, none⟩ = false :=
  ⟨h.2.2.1 0 (by omega), h.2.2.1 1 (by omega), h.2.2.1 2 (by omega), h.2.2.1 3 (by omega), h.2.2.1 4 (by omega), h.2.2.1 5 (by omega)⟩
theorem Pl.made (w : World) (l : List ByteArray) (n : Nat) (t t' : Nat) (b : Bool) (hn : n = l.length) : Pl w ((w.alloc (.cells ((l.map Value.string).toArray) t)).alloc (.cells #[.slice (some ⟨w.heap.size, 0, none⟩) n n, .bool b] t')) (w.heap.size + 1) w.heap.size (.slice (some ⟨w.heap.size, 0, none⟩) n n) l b := by
  refine ⟨⟨by go_simp, by go_simp, by go_simp, by go_simp, by simp⟩, fun k s hk => ?_, by omega, Nat.le_refl _, ((Below.refl _ _).alloc (Nat.le_refl _) _).alloc (by simp) _⟩
  have hk2 : k < l.length := (List.getElem?_eq_some_iff.1 hk).1
  have e : ((l.map Value.string).toArray)[k]? = some (.string s) := by simp [hk]
  generalize (l.map Value.string).toArray = A at e ⊢
  clear hk hk2
  go_simp
theorem Ps.made {w0 W : World} {L g : Nat} {r : Value} {l : List ByteArray} {b : Bool} (h : Pl w0 W L g r l b) (t : Nat) (v0 v1 v2 v3 v4 v5 : Value) : Ps w0 (W.alloc (.cells #[v0, v1, v2, v3, v4, v5] t)) L g W.heap.size r l b v0 v1 v2 v3 v4 v5 := by
  have hb := (Below.refl W.heap.size W).alloc (Nat.le_refl _) (.cells #[v0, v1, v2, v3, v4, v5] t)
  refine ⟨h.quiet hb, ⟨by go_simp, by go_simp, by go_simp, by go_simp, by go_simp, by go_simp⟩, fun k _ => by go_simp, h.1.2.2.2.2, by simp⟩
def PlPost (v : Value) (w0 : World) (L g : Nat) (rest : Value) (l : List ByteArray) (bad : Bool) (e : Ending) (W' : World) : Prop := e = .returned v ∧ Pl w0 W' L g rest l bad
def PsPost (v : Value) (w0 : World) (L g c : Nat) (rest : Value) (l : List ByteArray) (bad : Bool) (v0 v1 v2 v3 v4 v5 : Value) (e : Ending) (W' : World) : Prop := e = .returned v ∧ Ps w0 W' L g c rest l bad v0 v1 v2 v3 v4 v5
section
variable {w0 W : World} {L g c : Nat} {r : Value} {l : List ByteArray} {b : Bool} {v0 v1 v2 v3 v4 v5 : Value}
theorem Pl.next {i k : Nat} {s : ByteArray} (i' k' : Nat) (h : Pl w0 W L g (.slice (some ⟨g, i, none⟩) k k) l b) (hs : l[i]? = some s) (hi : i' = i + 1) (hk : k = k' + 1) (h1 : 1 ≤ k') (hm : i + k ≤ 1000000) :
    Calls Tryz.prog 78 #[.pointer (some ⟨L, 0, none⟩)] W (PlPost (.string s) w0 L g (.slice (some ⟨g, i', none⟩) k' k') l b) := by
  have h2 := h.1
  have e1 : k = i + k - i := by omega
  have e2 : k' = i + k - (i + 1) := by omega
  subst hi
  rw [e2]
  refine (next_any W L g i (i + k) b s (by omega) hm (by rw [← e1]; exact h2) (h.2.1 i s hs)).mono ?_
  rintro e W' ⟨rfl, hl, hg⟩
  exact ⟨rfl, h.go hg hl⟩
theorem Ps.next {i k : Nat} {s : ByteArray} (i' k' : Nat) (h : Ps w0 W L g c (.slice (some ⟨g, i, none⟩) k k) l b v0 v1 v2 v3 v4 v5) (hs : l[i]? = some s) (hi : i' = i + 1) (hk : k = k' + 1) (h1 : 1 ≤ k') (hm : i + k ≤ 1000000) :
    Calls Tryz.prog 78 #[.pointer (some ⟨L, 0, none⟩)] W (PsPost (.string s) w0 L g c (.slice (some ⟨g, i', none⟩) k' k') l b v0 v1 v2 v3 v4 v5) := by
  have h2 := h.1.1
  have e1 : k = i + k - i := by omega
  have e2 : k' = i + k - (i + 1) := by omega
  subst hi
  rw [e2]
  refine (next_any W L g i (i + k) b s (by omega) hm (by rw [← e1]; exact h2) (h.1.2.1 i s hs)).mono ?_
  rintro e W' ⟨rfl, hl, hg⟩
  exact ⟨rfl, h.go hg hl⟩
theorem Ps.last {i : Nat} {s : ByteArray} (h : Ps w0 W L g c (.slice (some ⟨g, i, none⟩) 1 1) l b v0 v1 v2 v3 v4 v5) (hs : l[i]? = some s) :
    Calls Tryz.prog 78 #[.pointer (some ⟨L, 0, none⟩)] W (PsPost (.string s) w0 L g c (.slice (some ⟨g, i, none⟩) 0 0) l b v0 v1 v2 v3 v4 v5) := by
  refine (next_last W L g i b s h.1.1 (h.1.2.1 i s hs)).mono ?_
  rintro e W' ⟨rfl, hl, hg⟩
  exact ⟨rfl, h.go hg hl⟩
theorem Pl.take (h : Pl w0 W L g r l b) (n : Int) (ok : Bool) : Calls Tryz.prog 80 #[.pointer (some ⟨L, 0, none⟩), .int .i64 n, .bool ok] W (PlPost (.int .i64 n) w0 L g r l (b || !ok)) := by
  refine (take_any W L r b ok n h.1).mono ?_
  rintro e W' ⟨rfl, hl, hg⟩
  exact ⟨rfl, h.go hg hl⟩
theorem Ps.take (h : Ps w0 W L g c r l b v0 v1 v2 v3 v4 v5) (n : Int) (ok : Bool) : Calls Tryz.prog 80 #[.pointer (some ⟨L, 0, none⟩), .int .i64 n, .bool ok] W (PsPost (.int .i64 n) w0 L g c r l (b || !ok) v0 v1 v2 v3 v4 v5) := by
  refine (take_any W L r b ok n h.1.1).mono ?_
  rintro e W' ⟨rfl, hl, hg⟩
  exact ⟨rfl, h.go hg hl⟩
theorem Ps.clock (h : Ps w0 W L g c r l b v0 v1 v2 v3 v4 v5) (s : ByteArray) (hs : s.size ≤ 100000) : Calls Tryz.prog 84 #[.pointer (some ⟨L, 0, none⟩), .string s] W (PsPost (.tuple #[.int .i64 (ckV s).1, .int .i64 (ckV s).2.1, .int .i64 (ckV s).2.2]) w0 L g c r l (b || !Ml.hmsB s) v0 v1 v2 v3 v4 v5) := by
  refine (clock_any s hs W L r b h.1.1).mono ?_
  rintro e W' ⟨rfl, hl, hg⟩
  exact ⟨rfl, h.go hg hl⟩
theorem Pl.day (h : Pl w0 W L g r l b) (s : ByteArray) (hs : s.size ≤ 1000000) : Calls Tryz.prog 81 #[.string s] W (PlPost (.tuple #[.int .i64 ((Ml.dayF s).getD 0), .bool (Ml.dayF s).isSome]) w0 L g r l b) := by
  refine (day_any s hs W).mono ?_
  rintro e W' ⟨rfl, hb⟩
  exact ⟨rfl, h.quiet hb⟩
theorem Ps.month (h : Ps w0 W L g c r l b v0 v1 v2 v3 v4 v5) (s : ByteArray) (hs : s.size ≤ 1000000) : Calls Tryz.prog 83 #[.string s] W (PsPost (.tuple #[.int .i64 ((Ml.monF s).getD 0), .bool (Ml.monF s).isSome]) w0 L g c r l b v0 v1 v2 v3 v4 v5) := by
  refine (month_any s hs W).mono ?_
  rintro e W' ⟨rfl, hb⟩
  exact ⟨rfl, h.quiet hb⟩
theorem Ps.zone (h : Ps w0 W L g c r l b v0 v1 v2 v3 v4 v5) (s : ByteArray) (hs : s.size ≤ 100000) : Calls Tryz.prog 85 #[.string s] W (PsPost (.tuple #[.int .i64 ((Ml.zneF s).getD 0), .bool (Ml.zneF s).isSome]) w0 L g c r l b v0 v1 v2 v3 v4 v5) := by
  refine (zone_any s hs W).mono ?_
  rintro e W' ⟨rfl, hb⟩
  exact ⟨rfl, h.quiet hb⟩
end
end Go.Proofs.YtbhafhbaldddiaaGreatDoor
namespace Go.Proofs.YtbhafhbaldddiaaGreatDoor
open Go.RowKit
open Go
set_option linter.unusedVariables false
theorem is64 {x : Int} (h1 : -1000000 ≤ x) (h2 : x ≤ 1000000) : Is64 x := by unfold Is64; omega
def errT (v : Int) (n : Int) : Value := .tuple #[.int .i64 v, .int .i64 n]
def ErrPost (o : Option Int) (k : Int) (w : World) (e : Ending) (w' : World) : Prop := e = .returned (.tuple #[.int .i64 (o.getD 0), .int .i64 (if o.isSome then 0 else k)]) ∧ Below w.heap.size w w'
def lenN (s : ByteArray) : Nat := if s.size ≤ 1 then 1 else 2
theorem lenN_is (s : ByteArray) : min (max (s.size : Int) 1) 2 = (lenN s : Int) := by unfold lenN; split <;> omega
set_option maxRecDepth 100000 in
set_option maxHeartbeats 8000000 in
theorem p5_a (s d m y c z : ByteArray) (hs : s.size ≤ 100000) (hd : d.size ≤ 100000) (hm : m.size ≤ 100000) (hy : y.size ≤ 100000) (hc : c.size ≤ 100000) (hz : z.size ≤ 100000) (hw : (Ml.sp 32 s.data.toList).map Ml.mk = [d, m, y, c, z]) (w : World)
    (B : Bool) (hB : (((((false || !Ml.digO d (lenN d)) || !(Ml.monF m).isSome) || !Ml.digO y 4) || !Ml.hmsB c) || !(Ml.zneF z).isSome) = B)
    (hsec : Cv.secOk (Ml.digV y 4) ((Ml.monF m).getD 0) (Ml.digV d (lenN d)) (ckV c).1 (ckV c).2.1 (ckV c).2.2 ((Ml.zneF z).getD 0) = false) :
    Calls Tryz.prog 31 #[.string s] w (ErrPost none 70 w) := by
  have C := fun w => split_any s 32 hs w
  unfold SplitPost at C
  have hlen : (Ml.sp 32 s.data.toList).length = 5 := by have := congrArg List.length hw; simpa using this
  rw [hlen, hw] at C
  clear hlen hw
  have D1 := fun w => digits_any d (lenN d) (by unfold lenN; split <;> omega) hd w
  have D2 : ∀ w, Calls Tryz.prog 82 #[.string y, .int .i64 4] w (DigPost y 4 w) := fun w => digits_any y 4 (by omega) hy w
  unfold DigPost at D1 D2
  have cb := ck_bd c
  have S := fun w => sec_no (Ml.digV y 4) ((Ml.monF m).getD 0) (Ml.digV d (lenN d)) (ckV c).1 (ckV c).2.1 (ckV c).2.2 ((Ml.zneF z).getD 0) w (is64 (by omega) (by omega)) (is64 (by omega) (by omega)) (is64 (by omega) (by omega)) hsec
  clear hsec cb
  have HB := Lib.hid hB
  have hln := lenN_is d
  clear hB
  go_enter Tryz.func31, Tryz.ntmps31
  go_wp2_with fail
  refine (C _).mono ?_
  rintro e w1 ⟨rfl, hw1⟩
  have hmf : ∀ (fn : Fn) (first cap : Array Value) (w : World), (Instr.makeFunc fn first cap).run Tryz.prog w = .ok (.func fn first cap) w := fun _ _ _ _ => rfl
  go_wp2_with fail
  have hp := Pl.made w [d, m, y, c, z] 5 9 82 false rfl
  simp only [List.map_cons, List.map_nil] at hp
  clear hw1 C
  obtain ⟨gd, gm, gy, gc, gz⟩ : [d, m, y, c, z][0]? = some d ∧ [d, m, y, c, z][1]? = some m ∧ [d, m, y, c, z][2]? = some y ∧ [d, m, y, c, z][3]? = some c ∧ [d, m, y, c, z][4]? = some z := ⟨rfl, rfl, rfl, rfl, rfl⟩
  go_wp2_with (first | (go_at_call 78; (first | ((with_reducible refine (Pl.next 1 4 (s := d) hp gd (by omega) (by omega) (by omega) (by omega)).mono ?_); rintro e w' ⟨rfl, hp'⟩; clear hp; have hp := hp'; clear hp') | ((with_reducible refine (Ps.next 2 3 (s := m) (hp.s2 _) gm (by omega) (by omega) (by omega) (by omega)).mono ?_); rintro e w' ⟨rfl, hp'⟩; clear hp; have hp := hp'; clear hp'; clear c0 c1 c2 c3 c4 c5 f0 f1 f2 f3 f4 f5) | ((with_reducible refine (Ps.next 3 2 (s := y) (hp.s1 _) gy (by omega) (by omega) (by omega) (by omega)).mono ?_); rintro e w' ⟨rfl, hp'⟩; clear hp; have hp := hp'; clear hp'; clear c0 c1 c2 c3 c4 c5 f0 f1 f2 f3 f4 f5) | ((with_reducible refine (Ps.next 4 1 (s := c) (hp.s0 _) gc (by omega) (by omega) (by omega) (by omega)).mono ?_); rintro e w' ⟨rfl, hp'⟩; clear hp; have hp := hp'; clear hp'; clear c0 c1 c2 c3 c4 c5 f0 f1 f2 f3 f4 f5) | ((with_reducible refine (Ps.last (s := z) (((hp.s3 _).s4 _).s5 _) gz).mono ?_); rintro e w' ⟨rfl, hp'⟩; clear hp; have hp := hp'; clear hp'; clear c0 c1 c2 c3 c4 c5 f0 f1 f2 f3 f4 f5))) | (go_at_call 82; (first | (with_reducible refine (D1 _).mono ?_) | (with_reducible refine (D2 _).mono ?_)); rintro e w' ⟨rfl, rfl⟩) | (go_at_call 80; (first | ((with_reducible refine (Ps.take hp _ _).mono ?_); rintro e w' ⟨rfl, hp'⟩; clear hp; have hp := hp'; clear hp'; (try clear c0 c1 c2 c3 c4 c5 f0 f1 f2 f3 f4 f5); obtain ⟨c0, c1, c2, c3, c4, c5⟩ := hp.2.1; obtain ⟨f0, f1, f2, f3, f4, f5⟩ := hp.fz) | ((with_reducible refine (Ps.take (Ps.made hp _ _ _ _ _ _ _) _ _).mono ?_); rintro e w' ⟨rfl, hp'⟩; clear hp; have hp := hp'; clear hp'; (try clear c0 c1 c2 c3 c4 c5 f0 f1 f2 f3 f4 f5); obtain ⟨c0, c1, c2, c3, c4, c5⟩ := hp.2.1; obtain ⟨f0, f1, f2, f3, f4, f5⟩ := hp.fz))) | (go_at_call 83; (with_reducible refine (Ps.month hp m (by omega)).mono ?_); rintro e w' ⟨rfl, hp'⟩; clear hp; have hp := hp'; clear hp') | (go_at_call 84; (with_reducible refine (Ps.clock hp c hc).mono ?_); rintro e w' ⟨rfl, hp'⟩; clear hp; have hp := hp'; clear hp'; (try clear c0 c1 c2 c3 c4 c5 f0 f1 f2 f3 f4 f5); obtain ⟨c0, c1, c2, c3, c4, c5⟩ := hp.2.1; obtain ⟨f0, f1, f2, f3, f4, f5⟩ := hp.fz) | (go_at_call 85; (with_reducible refine (Ps.zone hp z hz).mono ?_); rintro e w' ⟨rfl, hp'⟩; clear hp; have hp := hp'; clear hp') | (go_at_call 26; (with_reducible refine (S _).mono ?_); rintro e w' ⟨rfl, hbs⟩; have hp' := hp.quiet hbs; clear hp; have hp := hp'; clear hp'; clear hbs; (try clear c0 c1 c2 c3 c4 c5 f0 f1 f2 f3 f4 f5); obtain ⟨c0, c1, c2, c3, c4, c5⟩ := hp.2.1; obtain ⟨f0, f1, f2, f3, f4, f5⟩ := hp.fz; have kb := hp.1.kb; rw [HB.out] at kb))
  all_goals go_ret2
  all_goals exact ⟨rfl, hp.1.2.2.2.2⟩
set_option maxRecDepth 100000 in
set_option maxHeartbeats 8000000 in
theorem p5_b (s d m y c z : ByteArray) (hs : s.size ≤ 100000) (hd : d.size ≤ 100000) (hm : m.size ≤ 100000) (hy : y.size ≤ 100000) (hc : c.size ≤ 100000) (hz : z.size ≤ 100000) (hw : (Ml.sp 32 s.data.toList).map Ml.mk = [d, m, y, c, z]) (w : World)
    (B : Bool) (hB : (((((false || !Ml.digO d (lenN d)) || !(Ml.monF m).isSome) || !Ml.digO y 4) || !Ml.hmsB c) || !(Ml.zneF z).isSome) = B)
    (hsec : Cv.secOk (Ml.digV y 4) ((Ml.monF m).getD 0) (Ml.digV d (lenN d)) (ckV c).1 (ckV c).2.1 (ckV c).2.2 ((Ml.zneF z).getD 0) = true) (o : Option Int) (ho : (if B then none else some (Cv.secV (Ml.digV y 4) ((Ml.monF m).getD 0) (Ml.digV d (lenN d)) (ckV c).1 (ckV c).2.1 (ckV c).2.2 ((Ml.zneF z).getD 0))) = o) :
    Calls Tryz.prog 31 #[.string s] w (ErrPost o 70 w) := by
  have C := fun w => split_any s 32 hs w
  unfold SplitPost at C
  have hlen : (Ml.sp 32 s.data.toList).length = 5 := by have := congrArg List.length hw; simpa using this
  rw [hlen, hw] at C
  clear hlen hw
  have D1 := fun w => digits_any d (lenN d) (by unfold lenN; split <;> omega) hd w
  have D2 : ∀ w, Calls Tryz.prog 82 #[.string y, .int .i64 4] w (DigPost y 4 w) := fun w => digits_any y 4 (by omega) hy w
  unfold DigPost at D1 D2
  have cb := ck_bd c
  have S := fun w => sec_yes (Ml.digV y 4) ((Ml.monF m).getD 0) (Ml.digV d (lenN d)) (ckV c).1 (ckV c).2.1 (ckV c).2.2 ((Ml.zneF z).getD 0) w (is64 (by omega) (by omega)) (is64 (by omega) (by omega)) (is64 (by omega) (by omega)) hsec
  have hv := ((Cv.may_iff _ _ _ _ _ _).1 ((Cv.secOk_iff _ _ _ _ _ _ _).1 hsec).1).1
  have DY := fun w => days_yes (Ml.digV y 4) ((Ml.monF m).getD 0) (Ml.digV d (lenN d)) w hv
  clear hsec cb hv
  have HB := Lib.hid hB
  have hln := lenN_is d
  clear hB
  go_enter Tryz.func31, Tryz.ntmps31
  go_wp2_with fail
  refine (C _).mono ?_
  rintro e w1 ⟨rfl, hw1⟩
  have hmf : ∀ (fn : Fn) (first cap : Array Value) (w : World), (Instr.makeFunc fn first cap).run Tryz.prog w = .ok (.func fn first cap) w := fun _ _ _ _ => rfl
  go_wp2_with fail
  have hp := Pl.made w [d, m, y, c, z] 5 9 82 false rfl
  simp only [List.map_cons, List.map_nil] at hp
  clear hw1 C
  obtain ⟨gd, gm, gy, gc, gz⟩ : [d, m, y, c, z][0]? = some d ∧ [d, m, y, c, z][1]? = some m ∧ [d, m, y, c, z][2]? = some y ∧ [d, m, y, c, z][3]? = some c ∧ [d, m, y, c, z][4]? = some z := ⟨rfl, rfl, rfl, rfl, rfl⟩
  cases B
  all_goals
    have HO := Lib.hid ho
    clear ho
  all_goals
    go_wp2_with (first | (go_at_call 78; (first | ((with_reducible refine (Pl.next 1 4 (s := d) hp gd (by omega) (by omega) (by omega) (by omega)).mono ?_); rintro e w' ⟨rfl, hp'⟩; clear hp; have hp := hp'; clear hp') | ((with_reducible refine (Ps.next 2 3 (s := m) (hp.s2 _) gm (by omega) (by omega) (by omega) (by omega)).mono ?_); rintro e w' ⟨rfl, hp'⟩; clear hp; have hp := hp'; clear hp'; clear c0 c1 c2 c3 c4 c5 f0 f1 f2 f3 f4 f5) | ((with_reducible refine (Ps.next 3 2 (s := y) (hp.s1 _) gy (by omega) (by omega) (by omega) (by omega)).mono ?_); rintro e w' ⟨rfl, hp'⟩; clear hp; have hp := hp'; clear hp'; clear c0 c1 c2 c3 c4 c5 f0 f1 f2 f3 f4 f5) | ((with_reducible refine (Ps.next 4 1 (s := c) (hp.s0 _) gc (by omega) (by omega) (by omega) (by omega)).mono ?_); rintro e w' ⟨rfl, hp'⟩; clear hp; have hp := hp'; clear hp'; clear c0 c1 c2 c3 c4 c5 f0 f1 f2 f3 f4 f5) | ((with_reducible refine (Ps.last (s := z) (((hp.s3 _).s4 _).s5 _) gz).mono ?_); rintro e w' ⟨rfl, hp'⟩; clear hp; have hp := hp'; clear hp'; clear c0 c1 c2 c3 c4 c5 f0 f1 f2 f3 f4 f5))) | (go_at_call 82; (first | (with_reducible refine (D1 _).mono ?_) | (with_reducible refine (D2 _).mono ?_)); rintro e w' ⟨rfl, rfl⟩) | (go_at_call 80; (first | ((with_reducible refine (Ps.take hp _ _).mono ?_); rintro e w' ⟨rfl, hp'⟩; clear hp; have hp := hp'; clear hp'; (try clear c0 c1 c2 c3 c4 c5 f0 f1 f2 f3 f4 f5); obtain ⟨c0, c1, c2, c3, c4, c5⟩ := hp.2.1; obtain ⟨f0, f1, f2, f3, f4, f5⟩ := hp.fz) | ((with_reducible refine (Ps.take (Ps.made hp _ _ _ _ _ _ _) _ _).mono ?_); rintro e w' ⟨rfl, hp'⟩; clear hp; have hp := hp'; clear hp'; (try clear c0 c1 c2 c3 c4 c5 f0 f1 f2 f3 f4 f5); obtain ⟨c0, c1, c2, c3, c4, c5⟩ := hp.2.1; obtain ⟨f0, f1, f2, f3, f4, f5⟩ := hp.fz))) | (go_at_call 83; (with_reducible refine (Ps.month hp m (by omega)).mono ?_); rintro e w' ⟨rfl, hp'⟩; clear hp; have hp := hp'; clear hp') | (go_at_call 84; (with_reducible refine (Ps.clock hp c hc).mono ?_); rintro e w' ⟨rfl, hp'⟩; clear hp; have hp := hp'; clear hp'; (try clear c0 c1 c2 c3 c4 c5 f0 f1 f2 f3 f4 f5); obtain ⟨c0, c1, c2, c3, c4, c5⟩ := hp.2.1; obtain ⟨f0, f1, f2, f3, f4, f5⟩ := hp.fz) | (go_at_call 85; (with_reducible refine (Ps.zone hp z hz).mono ?_); rintro e w' ⟨rfl, hp'⟩; clear hp; have hp := hp'; clear hp') | (go_at_call 26; (with_reducible refine (S _).mono ?_); rintro e w' ⟨rfl, hbs⟩; have hp' := hp.quiet hbs; clear hp; have hp := hp'; clear hp'; clear hbs; (try clear c0 c1 c2 c3 c4 c5 f0 f1 f2 f3 f4 f5); obtain ⟨c0, c1, c2, c3, c4, c5⟩ := hp.2.1; obtain ⟨f0, f1, f2, f3, f4, f5⟩ := hp.fz; have kb := hp.1.kb; rw [HB.out] at kb) | (go_at_call 86; (with_reducible refine (DY _).mono ?_); rintro e w' ⟨rfl, hbs⟩; have hp' := hp.quiet hbs; clear hp; have hp := hp'; clear hp' hbs))
    go_ret2
    obtain rfl := HO.out
    exact ⟨rfl, hp.1.2.2.2.2⟩
end Go.Proofs.YtbhafhbaldddiaaGreatDoor
