/- The walk of the stamp's statement on places ahead and behind. -/
import Derived.Test.YtcdnjaefijjliaaStR
namespace Go.Proofs.Ytcdnjaefijjliaa
open Go.RowKit
open Go
set_option linter.unusedVariables false
set_option maxHeartbeats 1000000 in
theorem pair_any (n : Int) (h0 : 0 ≤ n) (h1 : n ≤ 99) (w : World) : Calls Try.prog 20 #[.int .i64 n] w (fun e w' => e = .returned (.string ⟨#[Sm.c (n / 10), Sm.c n]⟩) ∧ Below w.heap.size w w') := by
  have t1 : n.tmod 10 = n % 10 := Int.tmod_eq_emod_of_nonneg h0
  have t2 : n.tdiv 10 = n / 10 := Int.tdiv_eq_ediv_of_nonneg h0
  have u1 : IntKind.u8.wrap (48 + n / 10) = 48 + n / 10 := by simp [IntKind.wrap, IntKind.bits, IntKind.signed]; omega
  have u2 : IntKind.u8.wrap (48 + n % 10) = 48 + n % 10 := by simp [IntKind.wrap, IntKind.bits, IntKind.signed]; omega
  have hback := run_convert_bytes_back (P := Try.prog) (w.alloc (.cells #[.int .u8 (48 + n / 10), .int .u8 (48 + n % 10)] 5)) 50 9 5 ⟨w.heap.size, 0, none⟩ 2 [Sm.c (n / 10), Sm.c n] Try.underlying50 Try.underlying5 Try.underlying9 (fun j hj => by
    rw [Go.WideShapes.add_plain, Nat.zero_add]
    have hj' : j < 2 := hj
    match j, hj' with
    | 0, _ =>
      have := Sm.c_nat (n / 10)
      have e : n / 10 % 10 = n / 10 := by omega
      rw [e] at this
      simp [this]
    | 1, _ =>
      have := Sm.c_nat n
      simp [this])
  have hlen : ([Sm.c (n / 10), Sm.c n] : List UInt8).length = 2 := rfl
  rw [hlen] at hback
  go_enter Try.func20, Try.ntmps20
  go_wp2_with fail
  go_ret
  exact ⟨rfl, bbox (Below.refl _ _) _⟩
set_option maxRecDepth 100000 in
set_option maxHeartbeats 2000000 in
theorem zones_east {w : World} (sec h m : Int) (b0 : 0 ≤ h) (b1 : h ≤ 23) (b2 : 0 ≤ m) (b3 : m ≤ 59) (r0 : -62135596800 ≤ sec) (r1 : sec ≤ 253402300799) (t p q : ByteArray) (ht : t.size = 20) (hp : p.size = 2) (hq : q.size = 2) (a e : Int) (is : Bool)
    (c1 : ∀ w, Calls Try.prog 18 #[.int .i64 sec] w (TexPost (t, true) w))
    (c2 : ∀ w, Calls Try.prog 20 #[.int .i64 h] w (fun e w' => e = .returned (.string p) ∧ Below w.heap.size w w'))
    (c3 : ∀ w, Calls Try.prog 20 #[.int .i64 m] w (fun e w' => e = .returned (.string q) ∧ Below w.heap.size w w'))
    (c4 : ∀ w, Calls Try.prog 10 #[.string (t.extract 0 19 ++ ⟨#[43]⟩ ++ (p ++ ⟨#[58]⟩ ++ q))] w (ZonPost (a, is) w))
    (c5 : ∀ w, Calls Try.prog 14 #[.string (⟨#[43]⟩ ++ (p ++ ⟨#[58]⟩ ++ q))] w (ZonPost (e, true) w))
    (he : e * 60 = ((h * 60 + m) * 60)) (hin : (-62135596800 ≤ sec - ((h * 60 + m) * 60) ∧ sec - ((h * 60 + m) * 60) ≤ 253402300799) → is = true ∧ a = sec - ((h * 60 + m) * 60)) (hout : ¬ (-62135596800 ≤ sec - ((h * 60 + m) * 60) ∧ sec - ((h * 60 + m) * 60) ≤ 253402300799) → is = false) :
    Calls Try.prog 6 #[.int .i64 sec, .int .i64 h, .int .i64 m, .bool false] w (LawTrue w) := by
  have ht' : (t.size : Int) = 20 := by omega
  have n0 : ¬ h < 0 := by omega
  have n1 : ¬ 23 < h := by omega
  have n2 : ¬ m < 0 := by omega
  have n3 : ¬ 59 < m := by omega
  have HE := Lib.hid he
  have HI := Lib.hid hin
  have HO := Lib.hid hout
  clear he hin hout
  have hx : (t.extract 0 19).size = 19 := by rw [Sm.size_extract]; omega
  go_enter Try.func6, Try.ntmps6
  go_wp2_with fail
  refine (c1 _).mono ?_
  rintro e1 w1 ⟨rfl, hb1⟩
  clear c1
  go_wp2_with fail
  refine (c2 _).mono ?_
  rintro e1 w2 ⟨rfl, hb2⟩
  clear c2
  go_wp2_with fail
  refine (c3 _).mono ?_
  rintro e1 w3 ⟨rfl, hb3⟩
  clear c3
  have hB3 := bn (bn hb1 hb2) hb3
  clear hb1 hb2 hb3
  go_wp2_with fail
  refine (c4 _).mono ?_
  rintro e1 w4 ⟨rfl, hb4⟩
  clear c4
  have hB4 := bn hB3 hb4
  clear hb4 hB3
  by_cases g : -62135596800 ≤ sec - ((h * 60 + m) * 60) ∧ sec - ((h * 60 + m) * 60) ≤ 253402300799
  · obtain ⟨rfl, rfl⟩ := HI.out g
    have he := HE.out
    obtain ⟨g0, g1⟩ := g
    go_wp2_with fail
    refine (c5 _).mono ?_
    rintro e1 w5 ⟨rfl, hb5⟩
    go_wp2_with fail
    refine (wakes_any _).mono ?_
    rintro e1 w6 ⟨rfl, hb6⟩
    go_wp2_with fail
    go_ret
    exact ⟨rfl, bn (bn hB4 hb5) hb6⟩
  · obtain rfl := HO.out g
    have g' : sec - ((h * 60 + m) * 60) < -62135596800 ∨ (-62135596800 ≤ sec - ((h * 60 + m) * 60) ∧ 253402300799 < sec - ((h * 60 + m) * 60)) := by omega
    clear g HE HI HO c5
    rcases g' with g | ⟨g, g2⟩
    · go_wp2_with fail
      all_goals
        refine (wakes_any _).mono ?_
        rintro e1 w6 ⟨rfl, hb6⟩
        go_wp2_with fail
        go_ret
        exact ⟨rfl, bn hB4 hb6⟩
    · go_wp2_with fail
      all_goals
        refine (wakes_any _).mono ?_
        rintro e1 w6 ⟨rfl, hb6⟩
        go_wp2_with fail
        go_ret
        exact ⟨rfl, bn hB4 hb6⟩
set_option maxRecDepth 100000 in
set_option maxHeartbeats 2000000 in
theorem zones_west {w : World} (sec h m : Int) (b0 : 0 ≤ h) (b1 : h ≤ 23) (b2 : 0 ≤ m) (b3 : m ≤ 59) (r0 : -62135596800 ≤ sec) (r1 : sec ≤ 253402300799) (t p q : ByteArray) (ht : t.size = 20) (hp : p.size = 2) (hq : q.size = 2) (a e : Int) (is : Bool)
    (c1 : ∀ w, Calls Try.prog 18 #[.int .i64 sec] w (TexPost (t, true) w))
    (c2 : ∀ w, Calls Try.prog 20 #[.int .i64 h] w (fun e w' => e = .returned (.string p) ∧ Below w.heap.size w w'))
    (c3 : ∀ w, Calls Try.prog 20 #[.int .i64 m] w (fun e w' => e = .returned (.string q) ∧ Below w.heap.size w w'))
    (c4 : ∀ w, Calls Try.prog 10 #[.string (t.extract 0 19 ++ ⟨#[45]⟩ ++ (p ++ ⟨#[58]⟩ ++ q))] w (ZonPost (a, is) w))
    (c5 : ∀ w, Calls Try.prog 14 #[.string (⟨#[45]⟩ ++ (p ++ ⟨#[58]⟩ ++ q))] w (ZonPost (e, true) w))
    (he : e * 60 = (-((h * 60 + m) * 60))) (hin : (-62135596800 ≤ sec - (-((h * 60 + m) * 60)) ∧ sec - (-((h * 60 + m) * 60)) ≤ 253402300799) → is = true ∧ a = sec - (-((h * 60 + m) * 60))) (hout : ¬ (-62135596800 ≤ sec - (-((h * 60 + m) * 60)) ∧ sec - (-((h * 60 + m) * 60)) ≤ 253402300799) → is = false) :
    Calls Try.prog 6 #[.int .i64 sec, .int .i64 h, .int .i64 m, .bool true] w (LawTrue w) := by
  have ht' : (t.size : Int) = 20 := by omega
  have n0 : ¬ h < 0 := by omega
  have n1 : ¬ 23 < h := by omega
  have n2 : ¬ m < 0 := by omega
  have n3 : ¬ 59 < m := by omega
  have HE := Lib.hid he
  have HI := Lib.hid hin
  have HO := Lib.hid hout
  clear he hin hout
  have hx : (t.extract 0 19).size = 19 := by rw [Sm.size_extract]; omega
  go_enter Try.func6, Try.ntmps6
  go_wp2_with fail
  refine (c1 _).mono ?_
  rintro e1 w1 ⟨rfl, hb1⟩
  clear c1
  go_wp2_with fail
  refine (c2 _).mono ?_
  rintro e1 w2 ⟨rfl, hb2⟩
  clear c2
  go_wp2_with fail
  refine (c3 _).mono ?_
  rintro e1 w3 ⟨rfl, hb3⟩
  clear c3
  have hB3 := bn (bn hb1 hb2) hb3
  clear hb1 hb2 hb3
  go_wp2_with fail
  refine (c4 _).mono ?_
  rintro e1 w4 ⟨rfl, hb4⟩
  clear c4
  have hB4 := bn hB3 hb4
  clear hb4 hB3
  by_cases g : -62135596800 ≤ sec - (-((h * 60 + m) * 60)) ∧ sec - (-((h * 60 + m) * 60)) ≤ 253402300799
  · obtain ⟨rfl, rfl⟩ := HI.out g
    have he := HE.out
    obtain ⟨g0, g1⟩ := g
    go_wp2_with fail
    refine (c5 _).mono ?_
    rintro e1 w5 ⟨rfl, hb5⟩
    go_wp2_with fail
    refine (wakes_any _).mono ?_
    rintro e1 w6 ⟨rfl, hb6⟩
    go_wp2_with fail
    go_ret
    exact ⟨rfl, bn (bn hB4 hb5) hb6⟩
  · obtain rfl := HO.out g
    have g' : sec - (-((h * 60 + m) * 60)) < -62135596800 ∨ (-62135596800 ≤ sec - (-((h * 60 + m) * 60)) ∧ 253402300799 < sec - (-((h * 60 + m) * 60))) := by omega
    clear g HE HI HO c5
    rcases g' with g | ⟨g, g2⟩
    · go_wp2_with fail
      all_goals
        refine (wakes_any _).mono ?_
        rintro e1 w6 ⟨rfl, hb6⟩
        go_wp2_with fail
        go_ret
        exact ⟨rfl, bn hB4 hb6⟩
    · go_wp2_with fail
      all_goals
        refine (wakes_any _).mono ?_
        rintro e1 w6 ⟨rfl, hb6⟩
        go_wp2_with fail
        go_ret
        exact ⟨rfl, bn hB4 hb6⟩
theorem two_text (h m : Int) : ((ByteArray.mk #[Sm.c (h / 10), Sm.c h]) ++ ⟨#[58]⟩ ++ ⟨#[Sm.c (m / 10), Sm.c m]⟩) = ⟨#[Sm.c (h / 10), Sm.c h, 58, Sm.c (m / 10), Sm.c m]⟩ := by
  apply ByteArray.ext
  simp [ByteArray.data_append]
theorem sign_text (s : UInt8) (h m : Int) : ((ByteArray.mk #[s]) ++ ((ByteArray.mk #[Sm.c (h / 10), Sm.c h]) ++ ⟨#[58]⟩ ++ ⟨#[Sm.c (m / 10), Sm.c m]⟩)) = Sm.zoneB s h m := by
  rw [two_text]
  apply ByteArray.ext
  simp [ByteArray.data_append, Sm.zoneB]
theorem app_assoc (a b c : ByteArray) : a ++ b ++ c = a ++ (b ++ c) := by
  apply ByteArray.ext
  simp [ByteArray.data_append]
set_option maxRecDepth 100000 in
set_option maxHeartbeats 1000000 in
theorem zones_off {w : World} (sec h m : Int) (west : Bool) (t : ByteArray) (ok : Bool) (hr : ok = false ∨ h < 0 ∨ 23 < h ∨ m < 0 ∨ 59 < m)
    (c1 : ∀ w, Calls Try.prog 18 #[.int .i64 sec] w (TexPost (t, ok) w)) :
    Calls Try.prog 6 #[.int .i64 sec, .int .i64 h, .int .i64 m, .bool west] w (LawTrue w) := by
  have hr' : ok = false ∨ (ok = true ∧ h < 0) ∨ (ok = true ∧ ¬ h < 0 ∧ 23 < h) ∨ (ok = true ∧ ¬ h < 0 ∧ ¬ 23 < h ∧ m < 0) ∨ (ok = true ∧ ¬ h < 0 ∧ ¬ 23 < h ∧ ¬ m < 0 ∧ 59 < m) := by
    cases ok
    · exact Or.inl rfl
    · have : h < 0 ∨ 23 < h ∨ m < 0 ∨ 59 < m := by simpa using hr
      right
      by_cases g0 : h < 0
      · exact Or.inl ⟨rfl, g0⟩
      by_cases g1 : 23 < h
      · exact Or.inr (Or.inl ⟨rfl, g0, g1⟩)
      by_cases g2 : m < 0
      · exact Or.inr (Or.inr (Or.inl ⟨rfl, g0, g1, g2⟩))
      exact Or.inr (Or.inr (Or.inr ⟨rfl, g0, g1, g2, by omega⟩))
  clear hr
  rcases hr' with rfl | ⟨rfl, g0⟩ | ⟨rfl, g0, g1⟩ | ⟨rfl, g0, g1, g2⟩ | ⟨rfl, g0, g1, g2, g3⟩
  all_goals
    go_enter Try.func6, Try.ntmps6
    go_wp2_with fail
    refine (c1 _).mono ?_
    rintro e1 w1 ⟨rfl, hb1⟩
    go_wp2_with fail
    refine (wakes_any _).mono ?_
    rintro e1 w2 ⟨rfl, hb2⟩
    go_wp2_with fail
    go_ret
    exact ⟨rfl, bn hb1 hb2⟩
theorem stampZones_walk {w : World} (sec : Int) (_ : Is64 sec) (h : Int) (_ : Is64 h) (m : Int) (_ : Is64 m) (west : Bool) : Calls Try.prog 6 #[.int .i64 sec, .int .i64 h, .int .i64 m, .bool west] w (LawTrue w) := by
  obtain ⟨r, hr⟩ := text_exists sec
  have c1 := fun w => text_any sec r hr w
  by_cases hoff : r.2 = false ∨ h < 0 ∨ 23 < h ∨ m < 0 ∨ 59 < m
  · exact zones_off sec h m west r.1 r.2 hoff c1
  · rcases hr with ⟨_, rfl⟩ | ⟨y, mo, d, hh, mi, x, hm, rfl, rfl⟩
    · exact absurd (Or.inl rfl) hoff
    · have b : 0 ≤ h ∧ h ≤ 23 ∧ 0 ≤ m ∧ m ≤ 59 := by simp at hoff; omega
      obtain ⟨b0, b1, b2, b3⟩ := b
      have rg := Sm.sec_rng hm
      have key : ∀ (s : UInt8) (hs : s = 43 ∨ s = 45) (w : World), Calls Try.prog 10 #[.string ((Sm.textB y mo d hh mi x).extract 0 19 ++ ⟨#[s]⟩ ++ ((ByteArray.mk #[Sm.c (h / 10), Sm.c h]) ++ ⟨#[58]⟩ ++ ⟨#[Sm.c (m / 10), Sm.c m]⟩))] w (ZonPost (Sm.secR y mo d hh mi x (if s = 45 then -(h * 60 + m) else h * 60 + m)) w) := fun s hs w => by
        have e : (Sm.textB y mo d hh mi x).extract 0 19 ++ ⟨#[s]⟩ ++ ((ByteArray.mk #[Sm.c (h / 10), Sm.c h]) ++ ⟨#[58]⟩ ++ ⟨#[Sm.c (m / 10), Sm.c m]⟩) = (Sm.textB y mo d hh mi x).extract 0 19 ++ Sm.zoneB s h m := by rw [app_assoc, sign_text]
        rw [e]
        have := stamp_any ((Sm.textB y mo d hh mi x).extract 0 19 ++ Sm.zoneB s h m) (by rw [Sm.size_app, Sm.cut_size]; show 19 + 6 ≤ 1000; omega) w
        rw [Sm.full_zone hm _ (Sm.zoneB_0 s hs h m), Sm.zone_read s hs h m ⟨b0, b1⟩ ⟨b2, b3⟩] at this
        simpa using this
      have keyZ : ∀ (s : UInt8) (hs : s = 43 ∨ s = 45) (w : World), Calls Try.prog 14 #[.string ((ByteArray.mk #[s]) ++ ((ByteArray.mk #[Sm.c (h / 10), Sm.c h]) ++ ⟨#[58]⟩ ++ ⟨#[Sm.c (m / 10), Sm.c m]⟩))] w (ZonPost (if s = 45 then -(h * 60 + m) else h * 60 + m, true) w) := fun s hs w => by
        rw [sign_text]
        have := zone_any (Sm.zoneB s h m) w
        rw [Sm.zone_read s hs h m ⟨b0, b1⟩ ⟨b2, b3⟩] at this
        exact this
      cases west
      · have k := key 43 (Or.inl rfl)
        have kz := keyZ 43 (Or.inl rfl)
        rw [if_neg (by decide)] at k kz
        rw [Sm.secR_east hm _ (by omega)] at k
        by_cases q : -62135596800 ≤ Cv.secV y mo d hh mi x 0 - (h * 60 + m) * 60 ∧ Cv.secV y mo d hh mi x 0 - (h * 60 + m) * 60 ≤ 253402300799
        · rw [if_pos q] at k
          exact zones_east _ h m b0 b1 b2 b3 rg.1 rg.2 (Sm.textB y mo d hh mi x) _ _ rfl rfl rfl _ _ _ c1 (fun w => pair_any h b0 (by omega) w) (fun w => pair_any m b2 (by omega) w) k kz rfl (fun _ => ⟨rfl, rfl⟩) (fun g => absurd q g)
        · rw [if_neg q] at k
          exact zones_east _ h m b0 b1 b2 b3 rg.1 rg.2 (Sm.textB y mo d hh mi x) _ _ rfl rfl rfl _ _ _ c1 (fun w => pair_any h b0 (by omega) w) (fun w => pair_any m b2 (by omega) w) k kz rfl (fun g => absurd g q) (fun _ => rfl)
      · have k := key 45 (Or.inr rfl)
        have kz := keyZ 45 (Or.inr rfl)
        rw [if_pos rfl] at k kz
        rw [Sm.secR_east hm _ (by omega)] at k
        by_cases q : -62135596800 ≤ Cv.secV y mo d hh mi x 0 - -(h * 60 + m) * 60 ∧ Cv.secV y mo d hh mi x 0 - -(h * 60 + m) * 60 ≤ 253402300799
        · rw [if_pos q] at k
          exact zones_west _ h m b0 b1 b2 b3 rg.1 rg.2 (Sm.textB y mo d hh mi x) _ _ rfl rfl rfl _ _ _ c1 (fun w => pair_any h b0 (by omega) w) (fun w => pair_any m b2 (by omega) w) k kz (by omega) (fun _ => ⟨rfl, by omega⟩) (fun g => absurd ⟨by omega, by omega⟩ g)
        · rw [if_neg q] at k
          exact zones_west _ h m b0 b1 b2 b3 rg.1 rg.2 (Sm.textB y mo d hh mi x) _ _ rfl rfl rfl _ _ _ c1 (fun w => pair_any h b0 (by omega) w) (fun w => pair_any m b2 (by omega) w) k kz (by omega) (fun g => absurd ⟨by omega, by omega⟩ q) (fun _ => rfl)
end Go.Proofs.Ytcdnjaefijjliaa
