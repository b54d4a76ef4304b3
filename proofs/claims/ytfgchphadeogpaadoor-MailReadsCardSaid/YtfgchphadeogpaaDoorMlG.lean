/- The walk of Parse on five words. -/
import Derived.Test.YtfgchphadeogpaaDoorMlF
namespace Go.Proofs.YtfgchphadeogpaaDoor
open Go.RowKit
open Go
set_option linter.unusedVariables false
theorem is64 {x : Int} (h1 : -1000000 ≤ x) (h2 : x ≤ 1000000) : Is64 x := by unfold Is64; omega
def errT (v : Int) (n : Int) : Value := .tuple #[.int .i64 v, .int .i64 n]
def ErrPost (o : Option Int) (k : Int) (w : World) (e : Ending) (w' : World) : Prop := e = .returned (.tuple #[.int .i64 (o.getD 0), .int .i64 (if o.isSome then 0 else k)]) ∧ Below w.heap.size w w'
def lenN (s : ByteArray) : Nat := if s.size ≤ 1 then 1 else 2
theorem lenN_is (s : ByteArray) : min (max (s.size : Int) 1) 2 = (lenN s : Int) := by unfold lenN; split <;> omega
set_option maxRecDepth 100000 in
set_option maxHeartbeats 8000000 in
theorem p5_a (s d m y c z : ByteArray) (hs : s.size ≤ 100000) (hd : d.size ≤ 100000) (hm : m.size ≤ 100000) (hy : y.size ≤ 100000) (hc : c.size ≤ 100000) (hz : z.size ≤ 100000) (hw : (Ml.sp 32 s.data.toList).map Ml.mk = [d, m, y, c, z]) (w : World)
    (B : Bool) (hB : (((((false || !Ml.digO d (lenN d)) || !(Ml.monF m).isSome) || !Ml.digO y 4) || !Ml.hmsB c) || !(Ml.zneF z).isSome) = B)
    (hsec : Cv.secOk (Ml.digV y 4) ((Ml.monF m).getD 0) (Ml.digV d (lenN d)) (ckV c).1 (ckV c).2.1 (ckV c).2.2 ((Ml.zneF z).getD 0) = false) :
    Calls Tryd.prog 9 #[.string s] w (ErrPost none 70 w) := by
  have C := fun w => split_any s 32 hs w
  unfold SplitPost at C
  have hlen : (Ml.sp 32 s.data.toList).length = 5 := by have := congrArg List.length hw; simpa using this
  rw [hlen, hw] at C
  clear hlen hw
  have D1 := fun w => digits_any d (lenN d) (by unfold lenN; split <;> omega) hd w
  have D2 : ∀ w, Calls Tryd.prog 23 #[.string y, .int .i64 4] w (DigPost y 4 w) := fun w => digits_any y 4 (by omega) hy w
  unfold DigPost at D1 D2
  have cb := ck_bd c
  have S := fun w => sec_no (Ml.digV y 4) ((Ml.monF m).getD 0) (Ml.digV d (lenN d)) (ckV c).1 (ckV c).2.1 (ckV c).2.2 ((Ml.zneF z).getD 0) w (is64 (by omega) (by omega)) (is64 (by omega) (by omega)) (is64 (by omega) (by omega)) hsec
  clear hsec cb
  have HB := Lib.hid hB
  have hln := lenN_is d
  clear hB
  go_enter Tryd.func9, Tryd.ntmps9
  go_wp2_with fail
  refine (C _).mono ?_
  rintro e w1 ⟨rfl, hw1⟩
  have hmf : ∀ (fn : Fn) (first cap : Array Value) (w : World), (Instr.makeFunc fn first cap).run Tryd.prog w = .ok (.func fn first cap) w := fun _ _ _ _ => rfl
  go_wp2_with fail
  have hp := Pl.made w [d, m, y, c, z] 5 9 38 false rfl
  simp only [List.map_cons, List.map_nil] at hp
  clear hw1 C
  obtain ⟨gd, gm, gy, gc, gz⟩ : [d, m, y, c, z][0]? = some d ∧ [d, m, y, c, z][1]? = some m ∧ [d, m, y, c, z][2]? = some y ∧ [d, m, y, c, z][3]? = some c ∧ [d, m, y, c, z][4]? = some z := ⟨rfl, rfl, rfl, rfl, rfl⟩
  go_wp2_with (first | (go_at_call 20; (first | ((with_reducible refine (Pl.next 1 4 (s := d) hp gd (by omega) (by omega) (by omega) (by omega)).mono ?_); rintro e w' ⟨rfl, hp'⟩; clear hp; have hp := hp'; clear hp') | ((with_reducible refine (Ps.next 2 3 (s := m) (hp.s2 _) gm (by omega) (by omega) (by omega) (by omega)).mono ?_); rintro e w' ⟨rfl, hp'⟩; clear hp; have hp := hp'; clear hp'; clear c0 c1 c2 c3 c4 c5 f0 f1 f2 f3 f4 f5) | ((with_reducible refine (Ps.next 3 2 (s := y) (hp.s1 _) gy (by omega) (by omega) (by omega) (by omega)).mono ?_); rintro e w' ⟨rfl, hp'⟩; clear hp; have hp := hp'; clear hp'; clear c0 c1 c2 c3 c4 c5 f0 f1 f2 f3 f4 f5) | ((with_reducible refine (Ps.next 4 1 (s := c) (hp.s0 _) gc (by omega) (by omega) (by omega) (by omega)).mono ?_); rintro e w' ⟨rfl, hp'⟩; clear hp; have hp := hp'; clear hp'; clear c0 c1 c2 c3 c4 c5 f0 f1 f2 f3 f4 f5) | ((with_reducible refine (Ps.last (s := z) (((hp.s3 _).s4 _).s5 _) gz).mono ?_); rintro e w' ⟨rfl, hp'⟩; clear hp; have hp := hp'; clear hp'; clear c0 c1 c2 c3 c4 c5 f0 f1 f2 f3 f4 f5))) | (go_at_call 23; (first | (with_reducible refine (D1 _).mono ?_) | (with_reducible refine (D2 _).mono ?_)); rintro e w' ⟨rfl, rfl⟩) | (go_at_call 22; (first | ((with_reducible refine (Ps.take hp _ _).mono ?_); rintro e w' ⟨rfl, hp'⟩; clear hp; have hp := hp'; clear hp'; (try clear c0 c1 c2 c3 c4 c5 f0 f1 f2 f3 f4 f5); obtain ⟨c0, c1, c2, c3, c4, c5⟩ := hp.2.1; obtain ⟨f0, f1, f2, f3, f4, f5⟩ := hp.fz) | ((with_reducible refine (Ps.take (Ps.made hp _ _ _ _ _ _ _) _ _).mono ?_); rintro e w' ⟨rfl, hp'⟩; clear hp; have hp := hp'; clear hp'; (try clear c0 c1 c2 c3 c4 c5 f0 f1 f2 f3 f4 f5); obtain ⟨c0, c1, c2, c3, c4, c5⟩ := hp.2.1; obtain ⟨f0, f1, f2, f3, f4, f5⟩ := hp.fz))) | (go_at_call 11; (with_reducible refine (Ps.month hp m (by omega)).mono ?_); rintro e w' ⟨rfl, hp'⟩; clear hp; have hp := hp'; clear hp') | (go_at_call 24; (with_reducible refine (Ps.clock hp c hc).mono ?_); rintro e w' ⟨rfl, hp'⟩; clear hp; have hp := hp'; clear hp'; (try clear c0 c1 c2 c3 c4 c5 f0 f1 f2 f3 f4 f5); obtain ⟨c0, c1, c2, c3, c4, c5⟩ := hp.2.1; obtain ⟨f0, f1, f2, f3, f4, f5⟩ := hp.fz) | (go_at_call 15; (with_reducible refine (Ps.zone hp z hz).mono ?_); rintro e w' ⟨rfl, hp'⟩; clear hp; have hp := hp'; clear hp') | (go_at_call 25; (with_reducible refine (S _).mono ?_); rintro e w' ⟨rfl, hbs⟩; have hp' := hp.quiet hbs; clear hp; have hp := hp'; clear hp'; clear hbs; (try clear c0 c1 c2 c3 c4 c5 f0 f1 f2 f3 f4 f5); obtain ⟨c0, c1, c2, c3, c4, c5⟩ := hp.2.1; obtain ⟨f0, f1, f2, f3, f4, f5⟩ := hp.fz; have kb := hp.1.kb; rw [HB.out] at kb))
  all_goals go_ret2
  all_goals exact ⟨rfl, hp.1.2.2.2.2⟩
set_option maxRecDepth 100000 in
set_option maxHeartbeats 8000000 in
theorem p5_b (s d m y c z : ByteArray) (hs : s.size ≤ 100000) (hd : d.size ≤ 100000) (hm : m.size ≤ 100000) (hy : y.size ≤ 100000) (hc : c.size ≤ 100000) (hz : z.size ≤ 100000) (hw : (Ml.sp 32 s.data.toList).map Ml.mk = [d, m, y, c, z]) (w : World)
    (B : Bool) (hB : (((((false || !Ml.digO d (lenN d)) || !(Ml.monF m).isSome) || !Ml.digO y 4) || !Ml.hmsB c) || !(Ml.zneF z).isSome) = B)
    (hsec : Cv.secOk (Ml.digV y 4) ((Ml.monF m).getD 0) (Ml.digV d (lenN d)) (ckV c).1 (ckV c).2.1 (ckV c).2.2 ((Ml.zneF z).getD 0) = true) (o : Option Int) (ho : (if B then none else some (Cv.secV (Ml.digV y 4) ((Ml.monF m).getD 0) (Ml.digV d (lenN d)) (ckV c).1 (ckV c).2.1 (ckV c).2.2 ((Ml.zneF z).getD 0))) = o) :
    Calls Tryd.prog 9 #[.string s] w (ErrPost o 70 w) := by
  have C := fun w => split_any s 32 hs w
  unfold SplitPost at C
  have hlen : (Ml.sp 32 s.data.toList).length = 5 := by have := congrArg List.length hw; simpa using this
  rw [hlen, hw] at C
  clear hlen hw
  have D1 := fun w => digits_any d (lenN d) (by unfold lenN; split <;> omega) hd w
  have D2 : ∀ w, Calls Tryd.prog 23 #[.string y, .int .i64 4] w (DigPost y 4 w) := fun w => digits_any y 4 (by omega) hy w
  unfold DigPost at D1 D2
  have cb := ck_bd c
  have S := fun w => sec_yes (Ml.digV y 4) ((Ml.monF m).getD 0) (Ml.digV d (lenN d)) (ckV c).1 (ckV c).2.1 (ckV c).2.2 ((Ml.zneF z).getD 0) w (is64 (by omega) (by omega)) (is64 (by omega) (by omega)) (is64 (by omega) (by omega)) hsec
  have hv := ((Cv.may_iff _ _ _ _ _ _).1 ((Cv.secOk_iff _ _ _ _ _ _ _).1 hsec).1).1
  have DY := fun w => days_yes (Ml.digV y 4) ((Ml.monF m).getD 0) (Ml.digV d (lenN d)) w hv
  clear hsec cb hv
  have HB := Lib.hid hB
  have hln := lenN_is d
  clear hB
  go_enter Tryd.func9, Tryd.ntmps9
  go_wp2_with fail
  refine (C _).mono ?_
  rintro e w1 ⟨rfl, hw1⟩
  have hmf : ∀ (fn : Fn) (first cap : Array Value) (w : World), (Instr.makeFunc fn first cap).run Tryd.prog w = .ok (.func fn first cap) w := fun _ _ _ _ => rfl
  go_wp2_with fail
  have hp := Pl.made w [d, m, y, c, z] 5 9 38 false rfl
  simp only [List.map_cons, List.map_nil] at hp
  clear hw1 C
  obtain ⟨gd, gm, gy, gc, gz⟩ : [d, m, y, c, z][0]? = some d ∧ [d, m, y, c, z][1]? = some m ∧ [d, m, y, c, z][2]? = some y ∧ [d, m, y, c, z][3]? = some c ∧ [d, m, y, c, z][4]? = some z := ⟨rfl, rfl, rfl, rfl, rfl⟩
  cases B
  all_goals
    have HO := Lib.hid ho
    clear ho
  all_goals
    go_wp2_with (first | (go_at_call 20; (first | ((with_reducible refine (Pl.next 1 4 (s := d) hp gd (by omega) (by omega) (by omega) (by omega)).mono ?_); rintro e w' ⟨rfl, hp'⟩; clear hp; have hp := hp'; clear hp') | ((with_reducible refine (Ps.next 2 3 (s := m) (hp.s2 _) gm (by omega) (by omega) (by omega) (by omega)).mono ?_); rintro e w' ⟨rfl, hp'⟩; clear hp; have hp := hp'; clear hp'; clear c0 c1 c2 c3 c4 c5 f0 f1 f2 f3 f4 f5) | ((with_reducible refine (Ps.next 3 2 (s := y) (hp.s1 _) gy (by omega) (by omega) (by omega) (by omega)).mono ?_); rintro e w' ⟨rfl, hp'⟩; clear hp; have hp := hp'; clear hp'; clear c0 c1 c2 c3 c4 c5 f0 f1 f2 f3 f4 f5) | ((with_reducible refine (Ps.next 4 1 (s := c) (hp.s0 _) gc (by omega) (by omega) (by omega) (by omega)).mono ?_); rintro e w' ⟨rfl, hp'⟩; clear hp; have hp := hp'; clear hp'; clear c0 c1 c2 c3 c4 c5 f0 f1 f2 f3 f4 f5) | ((with_reducible refine (Ps.last (s := z) (((hp.s3 _).s4 _).s5 _) gz).mono ?_); rintro e w' ⟨rfl, hp'⟩; clear hp; have hp := hp'; clear hp'; clear c0 c1 c2 c3 c4 c5 f0 f1 f2 f3 f4 f5))) | (go_at_call 23; (first | (with_reducible refine (D1 _).mono ?_) | (with_reducible refine (D2 _).mono ?_)); rintro e w' ⟨rfl, rfl⟩) | (go_at_call 22; (first | ((with_reducible refine (Ps.take hp _ _).mono ?_); rintro e w' ⟨rfl, hp'⟩; clear hp; have hp := hp'; clear hp'; (try clear c0 c1 c2 c3 c4 c5 f0 f1 f2 f3 f4 f5); obtain ⟨c0, c1, c2, c3, c4, c5⟩ := hp.2.1; obtain ⟨f0, f1, f2, f3, f4, f5⟩ := hp.fz) | ((with_reducible refine (Ps.take (Ps.made hp _ _ _ _ _ _ _) _ _).mono ?_); rintro e w' ⟨rfl, hp'⟩; clear hp; have hp := hp'; clear hp'; (try clear c0 c1 c2 c3 c4 c5 f0 f1 f2 f3 f4 f5); obtain ⟨c0, c1, c2, c3, c4, c5⟩ := hp.2.1; obtain ⟨f0, f1, f2, f3, f4, f5⟩ := hp.fz))) | (go_at_call 11; (with_reducible refine (Ps.month hp m (by omega)).mono ?_); rintro e w' ⟨rfl, hp'⟩; clear hp; have hp := hp'; clear hp') | (go_at_call 24; (with_reducible refine (Ps.clock hp c hc).mono ?_); rintro e w' ⟨rfl, hp'⟩; clear hp; have hp := hp'; clear hp'; (try clear c0 c1 c2 c3 c4 c5 f0 f1 f2 f3 f4 f5); obtain ⟨c0, c1, c2, c3, c4, c5⟩ := hp.2.1; obtain ⟨f0, f1, f2, f3, f4, f5⟩ := hp.fz) | (go_at_call 15; (with_reducible refine (Ps.zone hp z hz).mono ?_); rintro e w' ⟨rfl, hp'⟩; clear hp; have hp := hp'; clear hp') | (go_at_call 25; (with_reducible refine (S _).mono ?_); rintro e w' ⟨rfl, hbs⟩; have hp' := hp.quiet hbs; clear hp; have hp := hp'; clear hp'; clear hbs; (try clear c0 c1 c2 c3 c4 c5 f0 f1 f2 f3 f4 f5); obtain ⟨c0, c1, c2, c3, c4, c5⟩ := hp.2.1; obtain ⟨f0, f1, f2, f3, f4, f5⟩ := hp.fz; have kb := hp.1.kb; rw [HB.out] at kb) | (go_at_call 26; (with_reducible refine (DY _).mono ?_); rintro e w' ⟨rfl, hbs⟩; have hp' := hp.quiet hbs; clear hp; have hp := hp'; clear hp' hbs))
    go_ret2
    obtain rfl := HO.out
    exact ⟨rfl, hp.1.2.2.2.2⟩
end Go.Proofs.YtfgchphadeogpaaDoor
