/- The walk of Parse on six words. -/
import Derived.Test.YtbhafhbaldddiaaGreatDoorZMc
namespace Go.Proofs.YtbhafhbaldddiaaGreatDoor
open Go.RowKit
open Go
set_option linter.unusedVariables false
theorem Pl.setbad {w0 W : World} {L g : Nat} {r : Value} {l : List ByteArray} {b : Bool} (h : Pl w0 W L g r l b) (x : Bool) : Pl w0 (W.setCell ⟨L, 1, none⟩ (.bool x)) L g r l x := by
  obtain ⟨k0, k1, f0, f1, hL⟩ := h.1
  exact h.go (gb_set W ⟨L, 1, none⟩ _) ⟨by go_simp, by go_simp, by rw [World.frozen?_setCell]; exact f0, by rw [World.frozen?_setCell]; exact f1, by simpa using hL⟩
set_option maxRecDepth 100000 in
set_option maxHeartbeats 8000000 in
theorem p6_a (s a d m y c z q : ByteArray) (ok : Bool) (hs : s.size ≤ 100000) (hq : q.size ≤ 1000000) (CS : ∀ w, Calls Tryz.prog 79 #[.string a, .string ⟨#[44]⟩] w fun e w' => e = .returned (.tuple #[.string q, .bool ok]) ∧ w' = w) (hd : d.size ≤ 100000) (hm : m.size ≤ 100000) (hy : y.size ≤ 100000) (hc : c.size ≤ 100000) (hz : z.size ≤ 100000) (hw : (Ml.sp 32 s.data.toList).map Ml.mk = [a, d, m, y, c, z]) (w : World)
    (B : Bool) (hB : (((((((!ok) || !(Ml.dayF q).isSome) || !Ml.digO d (lenN d)) || !(Ml.monF m).isSome) || !Ml.digO y 4) || !Ml.hmsB c) || !(Ml.zneF z).isSome) = B)
    (hsec : Cv.secOk (Ml.digV y 4) ((Ml.monF m).getD 0) (Ml.digV d (lenN d)) (ckV c).1 (ckV c).2.1 (ckV c).2.2 ((Ml.zneF z).getD 0) = false) :
    Calls Tryz.prog 31 #[.string s] w (ErrPost none 70 w) := by
  have C := fun w => split_any s 32 hs w
  unfold SplitPost at C
  have hlen : (Ml.sp 32 s.data.toList).length = 6 := by have := congrArg List.length hw; simpa using this
  rw [hlen, hw] at C
  clear hlen hw
  have D1 := fun w => digits_any d (lenN d) (by unfold lenN; split <;> omega) hd w
  have D2 : ∀ w, Calls Tryz.prog 82 #[.string y, .int .i64 4] w (DigPost y 4 w) := fun w => digits_any y 4 (by omega) hy w
  unfold DigPost at D1 D2
  have cb := ck_bd c
  have S := fun w => sec_no (Ml.digV y 4) ((Ml.monF m).getD 0) (Ml.digV d (lenN d)) (ckV c).1 (ckV c).2.1 (ckV c).2.2 ((Ml.zneF z).getD 0) w (is64 (by omega) (by omega)) (is64 (by omega) (by omega)) (is64 (by omega) (by omega)) hsec
  clear hsec cb
  have HB := Lib.hid hB
  have hln := lenN_is d
  clear hB
  go_enter Tryz.func31, Tryz.ntmps31
  go_wp2_with fail
  refine (C _).mono ?_
  rintro e w1 ⟨rfl, hw1⟩
  have hmf : ∀ (fn : Fn) (first cap : Array Value) (w : World), (Instr.makeFunc fn first cap).run Tryz.prog w = .ok (.func fn first cap) w := fun _ _ _ _ => rfl
  go_wp2_with fail
  have hp := Pl.made w [a, d, m, y, c, z] 6 9 82 false rfl
  simp only [List.map_cons, List.map_nil] at hp
  clear hw1 C
  obtain ⟨ga, gd, gm, gy, gc, gz⟩ : [a, d, m, y, c, z][0]? = some a ∧ [a, d, m, y, c, z][1]? = some d ∧ [a, d, m, y, c, z][2]? = some m ∧ [a, d, m, y, c, z][3]? = some y ∧ [a, d, m, y, c, z][4]? = some c ∧ [a, d, m, y, c, z][5]? = some z := ⟨rfl, rfl, rfl, rfl, rfl, rfl⟩
  go_wp2_with (first | (go_at_call 78; (first | ((with_reducible refine (Pl.next 1 5 (s := a) hp ga (by omega) (by omega) (by omega) (by omega)).mono ?_); rintro e w' ⟨rfl, hp'⟩; clear hp; have hp := hp'; clear hp'; (try clear kl0 kl1 fl0 fl1); obtain ⟨kl0, kl1, fl0, fl1, -⟩ := hp.1) | ((with_reducible refine (Pl.next 2 4 (s := d) hp gd (by omega) (by omega) (by omega) (by omega)).mono ?_); rintro e w' ⟨rfl, hp'⟩; clear hp; have hp := hp'; clear hp') | ((with_reducible refine (Ps.next 3 3 (s := m) (hp.s2 _) gm (by omega) (by omega) (by omega) (by omega)).mono ?_); rintro e w' ⟨rfl, hp'⟩; clear hp; have hp := hp'; clear hp'; clear c0 c1 c2 c3 c4 c5 f0 f1 f2 f3 f4 f5) | ((with_reducible refine (Ps.next 4 2 (s := y) (hp.s1 _) gy (by omega) (by omega) (by omega) (by omega)).mono ?_); rintro e w' ⟨rfl, hp'⟩; clear hp; have hp := hp'; clear hp'; clear c0 c1 c2 c3 c4 c5 f0 f1 f2 f3 f4 f5) | ((with_reducible refine (Ps.next 5 1 (s := c) (hp.s0 _) gc (by omega) (by omega) (by omega) (by omega)).mono ?_); rintro e w' ⟨rfl, hp'⟩; clear hp; have hp := hp'; clear hp'; clear c0 c1 c2 c3 c4 c5 f0 f1 f2 f3 f4 f5) | ((with_reducible refine (Ps.last (s := z) (((hp.s3 _).s4 _).s5 _) gz).mono ?_); rintro e w' ⟨rfl, hp'⟩; clear hp; have hp := hp'; clear hp'; clear c0 c1 c2 c3 c4 c5 f0 f1 f2 f3 f4 f5))) | (go_at_call 82; (first | (with_reducible refine (D1 _).mono ?_) | (with_reducible refine (D2 _).mono ?_)); rintro e w' ⟨rfl, rfl⟩) | (go_at_call 80; (first | ((with_reducible refine (Ps.take hp _ _).mono ?_); rintro e w' ⟨rfl, hp'⟩; clear hp; have hp := hp'; clear hp'; (try clear c0 c1 c2 c3 c4 c5 f0 f1 f2 f3 f4 f5); obtain ⟨c0, c1, c2, c3, c4, c5⟩ := hp.2.1; obtain ⟨f0, f1, f2, f3, f4, f5⟩ := hp.fz) | ((with_reducible refine (Ps.take (Ps.made hp _ _ _ _ _ _ _) _ _).mono ?_); rintro e w' ⟨rfl, hp'⟩; clear hp; have hp := hp'; clear hp'; (try clear c0 c1 c2 c3 c4 c5 f0 f1 f2 f3 f4 f5); obtain ⟨c0, c1, c2, c3, c4, c5⟩ := hp.2.1; obtain ⟨f0, f1, f2, f3, f4, f5⟩ := hp.fz) | ((with_reducible refine (Pl.take hp _ _).mono ?_); rintro e w' ⟨rfl, hp'⟩; clear hp; have hp := hp'; clear hp'; (try clear kl0 kl1 fl0 fl1); obtain ⟨kl0, kl1, fl0, fl1, -⟩ := hp.1))) | (go_at_call 83; (with_reducible refine (Ps.month hp m (by omega)).mono ?_); rintro e w' ⟨rfl, hp'⟩; clear hp; have hp := hp'; clear hp') | (go_at_call 84; (with_reducible refine (Ps.clock hp c hc).mono ?_); rintro e w' ⟨rfl, hp'⟩; clear hp; have hp := hp'; clear hp'; (try clear c0 c1 c2 c3 c4 c5 f0 f1 f2 f3 f4 f5); obtain ⟨c0, c1, c2, c3, c4, c5⟩ := hp.2.1; obtain ⟨f0, f1, f2, f3, f4, f5⟩ := hp.fz) | (go_at_call 85; (with_reducible refine (Ps.zone hp z hz).mono ?_); rintro e w' ⟨rfl, hp'⟩; clear hp; have hp := hp'; clear hp') | (go_at_call 26; (with_reducible refine (S _).mono ?_); rintro e w' ⟨rfl, hbs⟩; have hp' := hp.quiet hbs; clear hp; have hp := hp'; clear hp'; clear hbs; (try clear c0 c1 c2 c3 c4 c5 f0 f1 f2 f3 f4 f5); obtain ⟨c0, c1, c2, c3, c4, c5⟩ := hp.2.1; obtain ⟨f0, f1, f2, f3, f4, f5⟩ := hp.fz; have kb := hp.1.kb; rw [HB.out] at kb) | (go_at_call 79; (with_reducible refine (CS _).mono ?_); rintro e w' ⟨rfl, rfl⟩) | (go_at_call 81; (with_reducible refine (Pl.day (hp.setbad _) q hq).mono ?_); rintro e w' ⟨rfl, hp'⟩; clear hp; have hp := hp'; clear hp'; (try clear kl0 kl1 fl0 fl1); obtain ⟨kl0, kl1, fl0, fl1, -⟩ := hp.1))
  all_goals go_ret2
  all_goals exact ⟨rfl, hp.1.2.2.2.2⟩
set_option maxRecDepth 100000 in
set_option maxHeartbeats 8000000 in
theorem p6_b (s a d m y c z q : ByteArray) (ok : Bool) (hs : s.size ≤ 100000) (hq : q.size ≤ 1000000) (CS : ∀ w, Calls Tryz.prog 79 #[.string a, .string ⟨#[44]⟩] w fun e w' => e = .returned (.tuple #[.string q, .bool ok]) ∧ w' = w) (hd : d.size ≤ 100000) (hm : m.size ≤ 100000) (hy : y.size ≤ 100000) (hc : c.size ≤ 100000) (hz : z.size ≤ 100000) (hw : (Ml.sp 32 s.data.toList).map Ml.mk = [a, d, m, y, c, z]) (w : World)
    (hB : (((((((!ok) || !(Ml.dayF q).isSome) || !Ml.digO d (lenN d)) || !(Ml.monF m).isSome) || !Ml.digO y 4) || !Ml.hmsB c) || !(Ml.zneF z).isSome) = true)
    (hsec : Cv.secOk (Ml.digV y 4) ((Ml.monF m).getD 0) (Ml.digV d (lenN d)) (ckV c).1 (ckV c).2.1 (ckV c).2.2 ((Ml.zneF z).getD 0) = true) :
    Calls Tryz.prog 31 #[.string s] w (ErrPost none 70 w) := by
  have C := fun w => split_any s 32 hs w
  unfold SplitPost at C
  have hlen : (Ml.sp 32 s.data.toList).length = 6 := by have := congrArg List.length hw; simpa using this
  rw [hlen, hw] at C
  clear hlen hw
  have D1 := fun w => digits_any d (lenN d) (by unfold lenN; split <;> omega) hd w
  have D2 : ∀ w, Calls Tryz.prog 82 #[.string y, .int .i64 4] w (DigPost y 4 w) := fun w => digits_any y 4 (by omega) hy w
  unfold DigPost at D1 D2
  have cb := ck_bd c
  have S := fun w => sec_yes (Ml.digV y 4) ((Ml.monF m).getD 0) (Ml.digV d (lenN d)) (ckV c).1 (ckV c).2.1 (ckV c).2.2 ((Ml.zneF z).getD 0) w (is64 (by omega) (by omega)) (is64 (by omega) (by omega)) (is64 (by omega) (by omega)) hsec
  have hv := ((Cv.may_iff _ _ _ _ _ _).1 ((Cv.secOk_iff _ _ _ _ _ _ _).1 hsec).1).1
  have DY := fun w => days_yes (Ml.digV y 4) ((Ml.monF m).getD 0) (Ml.digV d (lenN d)) w hv
  clear hsec cb hv
  have HB := Lib.hid hB
  have hln := lenN_is d
  clear hB
  go_enter Tryz.func31, Tryz.ntmps31
  go_wp2_with fail
  refine (C _).mono ?_
  rintro e w1 ⟨rfl, hw1⟩
  have hmf : ∀ (fn : Fn) (first cap : Array Value) (w : World), (Instr.makeFunc fn first cap).run Tryz.prog w = .ok (.func fn first cap) w := fun _ _ _ _ => rfl
  go_wp2_with fail
  have hp := Pl.made w [a, d, m, y, c, z] 6 9 82 false rfl
  simp only [List.map_cons, List.map_nil] at hp
  clear hw1 C
  obtain ⟨ga, gd, gm, gy, gc, gz⟩ : [a, d, m, y, c, z][0]? = some a ∧ [a, d, m, y, c, z][1]? = some d ∧ [a, d, m, y, c, z][2]? = some m ∧ [a, d, m, y, c, z][3]? = some y ∧ [a, d, m, y, c, z][4]? = some c ∧ [a, d, m, y, c, z][5]? = some z := ⟨rfl, rfl, rfl, rfl, rfl, rfl⟩
  go_wp2_with (first | (go_at_call 78; (first | ((with_reducible refine (Pl.next 1 5 (s := a) hp ga (by omega) (by omega) (by omega) (by omega)).mono ?_); rintro e w' ⟨rfl, hp'⟩; clear hp; have hp := hp'; clear hp'; (try clear kl0 kl1 fl0 fl1); obtain ⟨kl0, kl1, fl0, fl1, -⟩ := hp.1) | ((with_reducible refine (Pl.next 2 4 (s := d) hp gd (by omega) (by omega) (by omega) (by omega)).mono ?_); rintro e w' ⟨rfl, hp'⟩; clear hp; have hp := hp'; clear hp') | ((with_reducible refine (Ps.next 3 3 (s := m) (hp.s2 _) gm (by omega) (by omega) (by omega) (by omega)).mono ?_); rintro e w' ⟨rfl, hp'⟩; clear hp; have hp := hp'; clear hp'; clear c0 c1 c2 c3 c4 c5 f0 f1 f2 f3 f4 f5) | ((with_reducible refine (Ps.next 4 2 (s := y) (hp.s1 _) gy (by omega) (by omega) (by omega) (by omega)).mono ?_); rintro e w' ⟨rfl, hp'⟩; clear hp; have hp := hp'; clear hp'; clear c0 c1 c2 c3 c4 c5 f0 f1 f2 f3 f4 f5) | ((with_reducible refine (Ps.next 5 1 (s := c) (hp.s0 _) gc (by omega) (by omega) (by omega) (by omega)).mono ?_); rintro e w' ⟨rfl, hp'⟩; clear hp; have hp := hp'; clear hp'; clear c0 c1 c2 c3 c4 c5 f0 f1 f2 f3 f4 f5) | ((with_reducible refine (Ps.last (s := z) (((hp.s3 _).s4 _).s5 _) gz).mono ?_); rintro e w' ⟨rfl, hp'⟩; clear hp; have hp := hp'; clear hp'; clear c0 c1 c2 c3 c4 c5 f0 f1 f2 f3 f4 f5))) | (go_at_call 82; (first | (with_reducible refine (D1 _).mono ?_) | (with_reducible refine (D2 _).mono ?_)); rintro e w' ⟨rfl, rfl⟩) | (go_at_call 80; (first | ((with_reducible refine (Ps.take hp _ _).mono ?_); rintro e w' ⟨rfl, hp'⟩; clear hp; have hp := hp'; clear hp'; (try clear c0 c1 c2 c3 c4 c5 f0 f1 f2 f3 f4 f5); obtain ⟨c0, c1, c2, c3, c4, c5⟩ := hp.2.1; obtain ⟨f0, f1, f2, f3, f4, f5⟩ := hp.fz) | ((with_reducible refine (Ps.take (Ps.made hp _ _ _ _ _ _ _) _ _).mono ?_); rintro e w' ⟨rfl, hp'⟩; clear hp; have hp := hp'; clear hp'; (try clear c0 c1 c2 c3 c4 c5 f0 f1 f2 f3 f4 f5); obtain ⟨c0, c1, c2, c3, c4, c5⟩ := hp.2.1; obtain ⟨f0, f1, f2, f3, f4, f5⟩ := hp.fz) | ((with_reducible refine (Pl.take hp _ _).mono ?_); rintro e w' ⟨rfl, hp'⟩; clear hp; have hp := hp'; clear hp'; (try clear kl0 kl1 fl0 fl1); obtain ⟨kl0, kl1, fl0, fl1, -⟩ := hp.1))) | (go_at_call 83; (with_reducible refine (Ps.month hp m (by omega)).mono ?_); rintro e w' ⟨rfl, hp'⟩; clear hp; have hp := hp'; clear hp') | (go_at_call 84; (with_reducible refine (Ps.clock hp c hc).mono ?_); rintro e w' ⟨rfl, hp'⟩; clear hp; have hp := hp'; clear hp'; (try clear c0 c1 c2 c3 c4 c5 f0 f1 f2 f3 f4 f5); obtain ⟨c0, c1, c2, c3, c4, c5⟩ := hp.2.1; obtain ⟨f0, f1, f2, f3, f4, f5⟩ := hp.fz) | (go_at_call 85; (with_reducible refine (Ps.zone hp z hz).mono ?_); rintro e w' ⟨rfl, hp'⟩; clear hp; have hp := hp'; clear hp') | (go_at_call 26; (with_reducible refine (S _).mono ?_); rintro e w' ⟨rfl, hbs⟩; have hp' := hp.quiet hbs; clear hp; have hp := hp'; clear hp'; clear hbs; (try clear c0 c1 c2 c3 c4 c5 f0 f1 f2 f3 f4 f5); obtain ⟨c0, c1, c2, c3, c4, c5⟩ := hp.2.1; obtain ⟨f0, f1, f2, f3, f4, f5⟩ := hp.fz; have kb := hp.1.kb; rw [HB.out] at kb) | (go_at_call 79; (with_reducible refine (CS _).mono ?_); rintro e w' ⟨rfl, rfl⟩) | (go_at_call 81; (with_reducible refine (Pl.day (hp.setbad _) q hq).mono ?_); rintro e w' ⟨rfl, hp'⟩; clear hp; have hp := hp'; clear hp'; (try clear kl0 kl1 fl0 fl1); obtain ⟨kl0, kl1, fl0, fl1, -⟩ := hp.1))
  go_ret2
  exact ⟨rfl, hp.1.2.2.2.2⟩
set_option maxRecDepth 100000 in
set_option maxHeartbeats 8000000 in
theorem p6_c (s a d m y c z q : ByteArray) (ok : Bool) (hs : s.size ≤ 100000) (hq : q.size ≤ 1000000) (CS : ∀ w, Calls Tryz.prog 79 #[.string a, .string ⟨#[44]⟩] w fun e w' => e = .returned (.tuple #[.string q, .bool ok]) ∧ w' = w) (hd : d.size ≤ 100000) (hm : m.size ≤ 100000) (hy : y.size ≤ 100000) (hc : c.size ≤ 100000) (hz : z.size ≤ 100000) (hw : (Ml.sp 32 s.data.toList).map Ml.mk = [a, d, m, y, c, z]) (w : World)
    (hB : (((((((!ok) || !(Ml.dayF q).isSome) || !Ml.digO d (lenN d)) || !(Ml.monF m).isSome) || !Ml.digO y 4) || !Ml.hmsB c) || !(Ml.zneF z).isSome) = false)
    (hsec : Cv.secOk (Ml.digV y 4) ((Ml.monF m).getD 0) (Ml.digV d (lenN d)) (ckV c).1 (ckV c).2.1 (ckV c).2.2 ((Ml.zneF z).getD 0) = true) (k : Int) (hk : Ml.dayF q = some k) (o : Option Int) (ho : (if Cv.wday (Cv.num (Ml.digV y 4) ((Ml.monF m).getD 0) (Ml.digV d (lenN d))) = k then some (Cv.secV (Ml.digV y 4) ((Ml.monF m).getD 0) (Ml.digV d (lenN d)) (ckV c).1 (ckV c).2.1 (ckV c).2.2 ((Ml.zneF z).getD 0)) else none) = o) :
    Calls Tryz.prog 31 #[.string s] w (ErrPost o 70 w) := by
  have C := fun w => split_any s 32 hs w
  unfold SplitPost at C
  have hlen : (Ml.sp 32 s.data.toList).length = 6 := by have := congrArg List.length hw; simpa using this
  rw [hlen, hw] at C
  clear hlen hw
  have D1 := fun w => digits_any d (lenN d) (by unfold lenN; split <;> omega) hd w
  have D2 : ∀ w, Calls Tryz.prog 82 #[.string y, .int .i64 4] w (DigPost y 4 w) := fun w => digits_any y 4 (by omega) hy w
  unfold DigPost at D1 D2
  have cb := ck_bd c
  have S := fun w => sec_yes (Ml.digV y 4) ((Ml.monF m).getD 0) (Ml.digV d (lenN d)) (ckV c).1 (ckV c).2.1 (ckV c).2.2 ((Ml.zneF z).getD 0) w (is64 (by omega) (by omega)) (is64 (by omega) (by omega)) (is64 (by omega) (by omega)) hsec
  have hv := ((Cv.may_iff _ _ _ _ _ _).1 ((Cv.secOk_iff _ _ _ _ _ _ _).1 hsec).1).1
  have DY := fun w => days_yes (Ml.digV y 4) ((Ml.monF m).getD 0) (Ml.digV d (lenN d)) w hv
  clear hsec cb hv
  have HB := Lib.hid hB
  have hln := lenN_is d
  clear hB
  go_enter Tryz.func31, Tryz.ntmps31
  go_wp2_with fail
  refine (C _).mono ?_
  rintro e w1 ⟨rfl, hw1⟩
  have hmf : ∀ (fn : Fn) (first cap : Array Value) (w : World), (Instr.makeFunc fn first cap).run Tryz.prog w = .ok (.func fn first cap) w := fun _ _ _ _ => rfl
  go_wp2_with fail
  have hp := Pl.made w [a, d, m, y, c, z] 6 9 82 false rfl
  simp only [List.map_cons, List.map_nil] at hp
  clear hw1 C
  obtain ⟨ga, gd, gm, gy, gc, gz⟩ : [a, d, m, y, c, z][0]? = some a ∧ [a, d, m, y, c, z][1]? = some d ∧ [a, d, m, y, c, z][2]? = some m ∧ [a, d, m, y, c, z][3]? = some y ∧ [a, d, m, y, c, z][4]? = some c ∧ [a, d, m, y, c, z][5]? = some z := ⟨rfl, rfl, rfl, rfl, rfl, rfl⟩
  have PD : ∀ {w0 W : World} {L g : Nat} {r : Value} {l : List ByteArray} {b : Bool} (h : Pl w0 W L g r l b) (s : ByteArray) (hs : s = q), Calls Tryz.prog 81 #[.string s] W (PlPost (.tuple #[.int .i64 k, .bool (Ml.dayF q).isSome]) w0 L g r l b) := fun {w0 W L g r l b} h s hs => by
    subst hs
    have := Pl.day h s hq
    rw [hk, Option.getD_some] at this
    rw [hk]
    exact this
  have WD := fun w => wday_any (Cv.num (Ml.digV y 4) ((Ml.monF m).getD 0) (Ml.digV d (lenN d))) w
  have hk0 := (Ml.day_size hk).2.1
  clear hk
  generalize Cv.wday (Cv.num (Ml.digV y 4) ((Ml.monF m).getD 0) (Ml.digV d (lenN d))) = wk at WD ho
  have HO := Lib.hid ho
  clear ho
  by_cases hwk : wk = k
  · subst hwk
    have HK := True.intro
    go_wp2_with (first | (go_at_call 78; (first | ((with_reducible refine (Pl.next 1 5 (s := a) hp ga (by omega) (by omega) (by omega) (by omega)).mono ?_); rintro e w' ⟨rfl, hp'⟩; clear hp; have hp := hp'; clear hp'; (try clear kl0 kl1 fl0 fl1); obtain ⟨kl0, kl1, fl0, fl1, -⟩ := hp.1) | ((with_reducible refine (Pl.next 2 4 (s := d) hp gd (by omega) (by omega) (by omega) (by omega)).mono ?_); rintro e w' ⟨rfl, hp'⟩; clear hp; have hp := hp'; clear hp') | ((with_reducible refine (Ps.next 3 3 (s := m) (hp.s2 _) gm (by omega) (by omega) (by omega) (by omega)).mono ?_); rintro e w' ⟨rfl, hp'⟩; clear hp; have hp := hp'; clear hp'; clear c0 c1 c2 c3 c4 c5 f0 f1 f2 f3 f4 f5) | ((with_reducible refine (Ps.next 4 2 (s := y) (hp.s1 _) gy (by omega) (by omega) (by omega) (by omega)).mono ?_); rintro e w' ⟨rfl, hp'⟩; clear hp; have hp := hp'; clear hp'; clear c0 c1 c2 c3 c4 c5 f0 f1 f2 f3 f4 f5) | ((with_reducible refine (Ps.next 5 1 (s := c) (hp.s0 _) gc (by omega) (by omega) (by omega) (by omega)).mono ?_); rintro e w' ⟨rfl, hp'⟩; clear hp; have hp := hp'; clear hp'; clear c0 c1 c2 c3 c4 c5 f0 f1 f2 f3 f4 f5) | ((with_reducible refine (Ps.last (s := z) (((hp.s3 _).s4 _).s5 _) gz).mono ?_); rintro e w' ⟨rfl, hp'⟩; clear hp; have hp := hp'; clear hp'; clear c0 c1 c2 c3 c4 c5 f0 f1 f2 f3 f4 f5))) | (go_at_call 82; (first | (with_reducible refine (D1 _).mono ?_) | (with_reducible refine (D2 _).mono ?_)); rintro e w' ⟨rfl, rfl⟩) | (go_at_call 80; (first | ((with_reducible refine (Ps.take hp _ _).mono ?_); rintro e w' ⟨rfl, hp'⟩; clear hp; have hp := hp'; clear hp'; (try clear c0 c1 c2 c3 c4 c5 f0 f1 f2 f3 f4 f5); obtain ⟨c0, c1, c2, c3, c4, c5⟩ := hp.2.1; obtain ⟨f0, f1, f2, f3, f4, f5⟩ := hp.fz) | ((with_reducible refine (Ps.take (Ps.made hp _ _ _ _ _ _ _) _ _).mono ?_); rintro e w' ⟨rfl, hp'⟩; clear hp; have hp := hp'; clear hp'; (try clear c0 c1 c2 c3 c4 c5 f0 f1 f2 f3 f4 f5); obtain ⟨c0, c1, c2, c3, c4, c5⟩ := hp.2.1; obtain ⟨f0, f1, f2, f3, f4, f5⟩ := hp.fz) | ((with_reducible refine (Pl.take hp _ _).mono ?_); rintro e w' ⟨rfl, hp'⟩; clear hp; have hp := hp'; clear hp'; (try clear kl0 kl1 fl0 fl1); obtain ⟨kl0, kl1, fl0, fl1, -⟩ := hp.1))) | (go_at_call 83; (with_reducible refine (Ps.month hp m (by omega)).mono ?_); rintro e w' ⟨rfl, hp'⟩; clear hp; have hp := hp'; clear hp') | (go_at_call 84; (with_reducible refine (Ps.clock hp c hc).mono ?_); rintro e w' ⟨rfl, hp'⟩; clear hp; have hp := hp'; clear hp'; (try clear c0 c1 c2 c3 c4 c5 f0 f1 f2 f3 f4 f5); obtain ⟨c0, c1, c2, c3, c4, c5⟩ := hp.2.1; obtain ⟨f0, f1, f2, f3, f4, f5⟩ := hp.fz) | (go_at_call 85; (with_reducible refine (Ps.zone hp z hz).mono ?_); rintro e w' ⟨rfl, hp'⟩; clear hp; have hp := hp'; clear hp') | (go_at_call 26; (with_reducible refine (S _).mono ?_); rintro e w' ⟨rfl, hbs⟩; have hp' := hp.quiet hbs; clear hp; have hp := hp'; clear hp'; clear hbs; (try clear c0 c1 c2 c3 c4 c5 f0 f1 f2 f3 f4 f5); obtain ⟨c0, c1, c2, c3, c4, c5⟩ := hp.2.1; obtain ⟨f0, f1, f2, f3, f4, f5⟩ := hp.fz; have kb := hp.1.kb; rw [HB.out] at kb) | (go_at_call 79; (with_reducible refine (CS _).mono ?_); rintro e w' ⟨rfl, rfl⟩) | (go_at_call 81; (with_reducible refine (PD (hp.setbad _) q rfl).mono ?_); rintro e w' ⟨rfl, hp'⟩; clear hp; have hp := hp'; clear hp'; (try clear kl0 kl1 fl0 fl1); obtain ⟨kl0, kl1, fl0, fl1, -⟩ := hp.1) | (go_at_call 86; (with_reducible refine (DY _).mono ?_); rintro e w' ⟨rfl, hbs⟩; have hp' := hp.quiet hbs; clear hp; have hp := hp'; clear hp' hbs) | (go_at_call 87; (with_reducible refine (WD _).mono ?_); rintro e w' ⟨rfl, rfl⟩))
    go_ret2
    have hO := HO.out
    simp only [if_true] at hO
    subst hO
    exact ⟨rfl, hp.1.2.2.2.2⟩
  · have hwk2 : ((wk : Int) != k) = true := by simp [hwk]
    have hwk3 : ((wk : Int) == k) = false := by simp [hwk]
    have HK := Lib.hid hwk
    clear hwk
    go_wp2_with (first | (go_at_call 78; (first | ((with_reducible refine (Pl.next 1 5 (s := a) hp ga (by omega) (by omega) (by omega) (by omega)).mono ?_); rintro e w' ⟨rfl, hp'⟩; clear hp; have hp := hp'; clear hp'; (try clear kl0 kl1 fl0 fl1); obtain ⟨kl0, kl1, fl0, fl1, -⟩ := hp.1) | ((with_reducible refine (Pl.next 2 4 (s := d) hp gd (by omega) (by omega) (by omega) (by omega)).mono ?_); rintro e w' ⟨rfl, hp'⟩; clear hp; have hp := hp'; clear hp') | ((with_reducible refine (Ps.next 3 3 (s := m) (hp.s2 _) gm (by omega) (by omega) (by omega) (by omega)).mono ?_); rintro e w' ⟨rfl, hp'⟩; clear hp; have hp := hp'; clear hp'; clear c0 c1 c2 c3 c4 c5 f0 f1 f2 f3 f4 f5) | ((with_reducible refine (Ps.next 4 2 (s := y) (hp.s1 _) gy (by omega) (by omega) (by omega) (by omega)).mono ?_); rintro e w' ⟨rfl, hp'⟩; clear hp; have hp := hp'; clear hp'; clear c0 c1 c2 c3 c4 c5 f0 f1 f2 f3 f4 f5) | ((with_reducible refine (Ps.next 5 1 (s := c) (hp.s0 _) gc (by omega) (by omega) (by omega) (by omega)).mono ?_); rintro e w' ⟨rfl, hp'⟩; clear hp; have hp := hp'; clear hp'; clear c0 c1 c2 c3 c4 c5 f0 f1 f2 f3 f4 f5) | ((with_reducible refine (Ps.last (s := z) (((hp.s3 _).s4 _).s5 _) gz).mono ?_); rintro e w' ⟨rfl, hp'⟩; clear hp; have hp := hp'; clear hp'; clear c0 c1 c2 c3 c4 c5 f0 f1 f2 f3 f4 f5))) | (go_at_call 82; (first | (with_reducible refine (D1 _).mono ?_) | (with_reducible refine (D2 _).mono ?_)); rintro e w' ⟨rfl, rfl⟩) | (go_at_call 80; (first | ((with_reducible refine (Ps.take hp _ _).mono ?_); rintro e w' ⟨rfl, hp'⟩; clear hp; have hp := hp'; clear hp'; (try clear c0 c1 c2 c3 c4 c5 f0 f1 f2 f3 f4 f5); obtain ⟨c0, c1, c2, c3, c4, c5⟩ := hp.2.1; obtain ⟨f0, f1, f2, f3, f4, f5⟩ := hp.fz) | ((with_reducible refine (Ps.take (Ps.made hp _ _ _ _ _ _ _) _ _).mono ?_); rintro e w' ⟨rfl, hp'⟩; clear hp; have hp := hp'; clear hp'; (try clear c0 c1 c2 c3 c4 c5 f0 f1 f2 f3 f4 f5); obtain ⟨c0, c1, c2, c3, c4, c5⟩ := hp.2.1; obtain ⟨f0, f1, f2, f3, f4, f5⟩ := hp.fz) | ((with_reducible refine (Pl.take hp _ _).mono ?_); rintro e w' ⟨rfl, hp'⟩; clear hp; have hp := hp'; clear hp'; (try clear kl0 kl1 fl0 fl1); obtain ⟨kl0, kl1, fl0, fl1, -⟩ := hp.1))) | (go_at_call 83; (with_reducible refine (Ps.month hp m (by omega)).mono ?_); rintro e w' ⟨rfl, hp'⟩; clear hp; have hp := hp'; clear hp') | (go_at_call 84; (with_reducible refine (Ps.clock hp c hc).mono ?_); rintro e w' ⟨rfl, hp'⟩; clear hp; have hp := hp'; clear hp'; (try clear c0 c1 c2 c3 c4 c5 f0 f1 f2 f3 f4 f5); obtain ⟨c0, c1, c2, c3, c4, c5⟩ := hp.2.1; obtain ⟨f0, f1, f2, f3, f4, f5⟩ := hp.fz) | (go_at_call 85; (with_reducible refine (Ps.zone hp z hz).mono ?_); rintro e w' ⟨rfl, hp'⟩; clear hp; have hp := hp'; clear hp') | (go_at_call 26; (with_reducible refine (S _).mono ?_); rintro e w' ⟨rfl, hbs⟩; have hp' := hp.quiet hbs; clear hp; have hp := hp'; clear hp'; clear hbs; (try clear c0 c1 c2 c3 c4 c5 f0 f1 f2 f3 f4 f5); obtain ⟨c0, c1, c2, c3, c4, c5⟩ := hp.2.1; obtain ⟨f0, f1, f2, f3, f4, f5⟩ := hp.fz; have kb := hp.1.kb; rw [HB.out] at kb) | (go_at_call 79; (with_reducible refine (CS _).mono ?_); rintro e w' ⟨rfl, rfl⟩) | (go_at_call 81; (with_reducible refine (PD (hp.setbad _) q rfl).mono ?_); rintro e w' ⟨rfl, hp'⟩; clear hp; have hp := hp'; clear hp'; (try clear kl0 kl1 fl0 fl1); obtain ⟨kl0, kl1, fl0, fl1, -⟩ := hp.1) | (go_at_call 86; (with_reducible refine (DY _).mono ?_); rintro e w' ⟨rfl, hbs⟩; have hp' := hp.quiet hbs; clear hp; have hp := hp'; clear hp' hbs) | (go_at_call 87; (with_reducible refine (WD _).mono ?_); rintro e w' ⟨rfl, rfl⟩))
    go_ret2
    have hO := HO.out
    rw [if_neg HK.out] at hO
    subst hO
    exact ⟨rfl, hp.1.2.2.2.2⟩
end Go.Proofs.YtbhafhbaldddiaaGreatDoor
