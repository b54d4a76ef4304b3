/- The walks of cardingref02: what stands at a byte of a text, Next, Scalars, Valid. The walks of cardingref02: Next, Scalars, Valid. The walks of cardingref02: Is, Len, Put, Text. -/
import Derived.Test.YthepfbkbfkhcaaaGreatUtG
import Derived.Test.YthepfbkbfkhcaaaGreatOsN
namespace Go.Proofs.YthepfbkbfkhcaaaGreat
open Go.RowKit Go.Shelf
open Go
set_option linter.unusedVariables false
set_option maxRecDepth 100000
def rleadV : Option (Nat × Nat × Nat × Nat) → Value
  | none => .tuple #[.int .i64 (-1), .int .u8 0, .int .u8 0]
  | some (0, _, _, _) => .tuple #[.int .i64 0, .int .u8 0, .int .u8 0]
  | some (k + 1, _, lo, hi) => .tuple #[.int .i64 ((k + 1 : Nat) : Int), .int .u8 (lo : Int), .int .u8 (hi : Int)]
def RLeadPost (o : Option (Nat × Nat × Nat × Nat)) (w : World) (e : Ending) (w' : World) : Prop := e = .returned (rleadV o) ∧ w = w'
set_option maxHeartbeats 4000000 in
theorem rlead_any (c : Nat) (hc : c < 256) (w : World) : Calls Tryz.prog 61 #[.int .u8 (c : Int)] w (RLeadPost (Ut.lead c) w) := by
  by_cases q0 : c < 128
  · have e : Ut.lead c = some (0, c, 128, 191) := by unfold Ut.lead; rw [if_pos (by omega)]
    rw [e]
    clear e
    have c128 : (c : Int) < 128 := by omega
    have c194 : ¬ (194 : Int) ≤ (c : Int) := by omega
    have c224 : (c : Int) < 224 := by omega
    have e224 : ((c : Int) == 224) = false := by simp; omega
    have e237 : ((c : Int) == 237) = false := by simp; omega
    have g224 : ¬ (224 : Int) < (c : Int) := by omega
    have c240 : (c : Int) < 240 := by omega
    have e240 : ((c : Int) == 240) = false := by simp; omega
    have g240 : ¬ (240 : Int) < (c : Int) := by omega
    have c244 : (c : Int) < 244 := by omega
    have e244 : ((c : Int) == 244) = false := by simp; omega
    go_enter Tryz.func61, Tryz.ntmps61
    go_wp2_with fail
    exact bodyPost_ret (v := rleadV (some (0, c, 128, 191))) (by simp [results, rleadV, Tryz.f61, go_sem]) rfl ⟨rfl, rfl⟩
  by_cases q1 : c < 194
  · have e : Ut.lead c = none := by unfold Ut.lead; rw [if_neg (by omega), if_pos (by omega)]
    rw [e]
    clear e
    have c128 : ¬ (c : Int) < 128 := by omega
    have c194 : ¬ (194 : Int) ≤ (c : Int) := by omega
    have c224 : (c : Int) < 224 := by omega
    have e224 : ((c : Int) == 224) = false := by simp; omega
    have e237 : ((c : Int) == 237) = false := by simp; omega
    have g224 : ¬ (224 : Int) < (c : Int) := by omega
    have c240 : (c : Int) < 240 := by omega
    have e240 : ((c : Int) == 240) = false := by simp; omega
    have g240 : ¬ (240 : Int) < (c : Int) := by omega
    have c244 : (c : Int) < 244 := by omega
    have e244 : ((c : Int) == 244) = false := by simp; omega
    go_enter Tryz.func61, Tryz.ntmps61
    go_wp2_with fail
    exact bodyPost_ret (v := rleadV (none)) (by simp [results, rleadV, Tryz.f61, go_sem]) rfl ⟨rfl, rfl⟩
  by_cases q2 : c < 224
  · have e : Ut.lead c = some (1, c % 32, 128, 191) := by unfold Ut.lead; rw [if_neg (by omega), if_neg (by omega), if_pos (by omega)]
    rw [e]
    clear e
    have c128 : ¬ (c : Int) < 128 := by omega
    have c194 : (194 : Int) ≤ (c : Int) := by omega
    have c224 : (c : Int) < 224 := by omega
    have e224 : ((c : Int) == 224) = false := by simp; omega
    have e237 : ((c : Int) == 237) = false := by simp; omega
    have g224 : ¬ (224 : Int) < (c : Int) := by omega
    have c240 : (c : Int) < 240 := by omega
    have e240 : ((c : Int) == 240) = false := by simp; omega
    have g240 : ¬ (240 : Int) < (c : Int) := by omega
    have c244 : (c : Int) < 244 := by omega
    have e244 : ((c : Int) == 244) = false := by simp; omega
    go_enter Tryz.func61, Tryz.ntmps61
    go_wp2_with fail
    exact bodyPost_ret (v := rleadV (some (1, c % 32, 128, 191))) (by simp [results, rleadV, Tryz.f61, go_sem]) rfl ⟨rfl, rfl⟩
  by_cases q3 : c = 224
  · have e : Ut.lead c = some (2, c % 16, 160, 191) := by unfold Ut.lead; rw [if_neg (by omega), if_neg (by omega), if_neg (by omega), if_pos (by omega), if_pos (by omega), if_neg (by omega)]
    rw [e]
    clear e
    have c128 : ¬ (c : Int) < 128 := by omega
    have c194 : (194 : Int) ≤ (c : Int) := by omega
    have c224 : ¬ (c : Int) < 224 := by omega
    have e224 : ((c : Int) == 224) = true := by simp; omega
    have e237 : ((c : Int) == 237) = false := by simp; omega
    have g224 : ¬ (224 : Int) < (c : Int) := by omega
    have c240 : (c : Int) < 240 := by omega
    have e240 : ((c : Int) == 240) = false := by simp; omega
    have g240 : ¬ (240 : Int) < (c : Int) := by omega
    have c244 : (c : Int) < 244 := by omega
    have e244 : ((c : Int) == 244) = false := by simp; omega
    go_enter Tryz.func61, Tryz.ntmps61
    go_wp2_with fail
    exact bodyPost_ret (v := rleadV (some (2, c % 16, 160, 191))) (by simp [results, rleadV, Tryz.f61, go_sem]) rfl ⟨rfl, rfl⟩
  by_cases q4 : c = 237
  · have e : Ut.lead c = some (2, c % 16, 128, 159) := by unfold Ut.lead; rw [if_neg (by omega), if_neg (by omega), if_neg (by omega), if_pos (by omega), if_neg (by omega), if_pos (by omega)]
    rw [e]
    clear e
    have c128 : ¬ (c : Int) < 128 := by omega
    have c194 : (194 : Int) ≤ (c : Int) := by omega
    have c224 : ¬ (c : Int) < 224 := by omega
    have e224 : ((c : Int) == 224) = false := by simp; omega
    have e237 : ((c : Int) == 237) = true := by simp; omega
    have g224 : (224 : Int) < (c : Int) := by omega
    have c240 : (c : Int) < 240 := by omega
    have e240 : ((c : Int) == 240) = false := by simp; omega
    have g240 : ¬ (240 : Int) < (c : Int) := by omega
    have c244 : (c : Int) < 244 := by omega
    have e244 : ((c : Int) == 244) = false := by simp; omega
    go_enter Tryz.func61, Tryz.ntmps61
    go_wp2_with fail
    exact bodyPost_ret (v := rleadV (some (2, c % 16, 128, 159))) (by simp [results, rleadV, Tryz.f61, go_sem]) rfl ⟨rfl, rfl⟩
  by_cases q5 : c < 240
  · have e : Ut.lead c = some (2, c % 16, 128, 191) := by unfold Ut.lead; rw [if_neg (by omega), if_neg (by omega), if_neg (by omega), if_pos (by omega), if_neg (by omega), if_neg (by omega)]
    rw [e]
    clear e
    have c128 : ¬ (c : Int) < 128 := by omega
    have c194 : (194 : Int) ≤ (c : Int) := by omega
    have c224 : ¬ (c : Int) < 224 := by omega
    have e224 : ((c : Int) == 224) = false := by simp; omega
    have e237 : ((c : Int) == 237) = false := by simp; omega
    have g224 : (224 : Int) < (c : Int) := by omega
    have c240 : (c : Int) < 240 := by omega
    have e240 : ((c : Int) == 240) = false := by simp; omega
    have g240 : ¬ (240 : Int) < (c : Int) := by omega
    have c244 : (c : Int) < 244 := by omega
    have e244 : ((c : Int) == 244) = false := by simp; omega
    go_enter Tryz.func61, Tryz.ntmps61
    go_wp2_with fail
    exact bodyPost_ret (v := rleadV (some (2, c % 16, 128, 191))) (by simp [results, rleadV, Tryz.f61, go_sem]) rfl ⟨rfl, rfl⟩
  by_cases q6 : c = 240
  · have e : Ut.lead c = some (3, c % 8, 144, 191) := by unfold Ut.lead; rw [if_neg (by omega), if_neg (by omega), if_neg (by omega), if_neg (by omega), if_pos (by omega), if_neg (by omega)]
    rw [e]
    clear e
    have c128 : ¬ (c : Int) < 128 := by omega
    have c194 : (194 : Int) ≤ (c : Int) := by omega
    have c224 : ¬ (c : Int) < 224 := by omega
    have e224 : ((c : Int) == 224) = false := by simp; omega
    have e237 : ((c : Int) == 237) = false := by simp; omega
    have g224 : (224 : Int) < (c : Int) := by omega
    have c240 : ¬ (c : Int) < 240 := by omega
    have e240 : ((c : Int) == 240) = true := by simp; omega
    have g240 : ¬ (240 : Int) < (c : Int) := by omega
    have c244 : (c : Int) < 244 := by omega
    have e244 : ((c : Int) == 244) = false := by simp; omega
    go_enter Tryz.func61, Tryz.ntmps61
    go_wp2_with fail
    exact bodyPost_ret (v := rleadV (some (3, c % 8, 144, 191))) (by simp [results, rleadV, Tryz.f61, go_sem]) rfl ⟨rfl, rfl⟩
  by_cases q7 : c < 244
  · have e : Ut.lead c = some (3, c % 8, 128, 191) := by unfold Ut.lead; rw [if_neg (by omega), if_neg (by omega), if_neg (by omega), if_neg (by omega), if_neg (by omega), if_neg (by omega)]
    rw [e]
    clear e
    have c128 : ¬ (c : Int) < 128 := by omega
    have c194 : (194 : Int) ≤ (c : Int) := by omega
    have c224 : ¬ (c : Int) < 224 := by omega
    have e224 : ((c : Int) == 224) = false := by simp; omega
    have e237 : ((c : Int) == 237) = false := by simp; omega
    have g224 : (224 : Int) < (c : Int) := by omega
    have c240 : ¬ (c : Int) < 240 := by omega
    have e240 : ((c : Int) == 240) = false := by simp; omega
    have g240 : (240 : Int) < (c : Int) := by omega
    have c244 : (c : Int) < 244 := by omega
    have e244 : ((c : Int) == 244) = false := by simp; omega
    go_enter Tryz.func61, Tryz.ntmps61
    go_wp2_with fail
    exact bodyPost_ret (v := rleadV (some (3, c % 8, 128, 191))) (by simp [results, rleadV, Tryz.f61, go_sem]) rfl ⟨rfl, rfl⟩
  by_cases q8 : c = 244
  · have e : Ut.lead c = some (3, c % 8, 128, 143) := by unfold Ut.lead; rw [if_neg (by omega), if_neg (by omega), if_neg (by omega), if_neg (by omega), if_neg (by omega), if_pos (by omega)]
    rw [e]
    clear e
    have c128 : ¬ (c : Int) < 128 := by omega
    have c194 : (194 : Int) ≤ (c : Int) := by omega
    have c224 : ¬ (c : Int) < 224 := by omega
    have e224 : ((c : Int) == 224) = false := by simp; omega
    have e237 : ((c : Int) == 237) = false := by simp; omega
    have g224 : (224 : Int) < (c : Int) := by omega
    have c240 : ¬ (c : Int) < 240 := by omega
    have e240 : ((c : Int) == 240) = false := by simp; omega
    have g240 : (240 : Int) < (c : Int) := by omega
    have c244 : ¬ (c : Int) < 244 := by omega
    have e244 : ((c : Int) == 244) = true := by simp; omega
    go_enter Tryz.func61, Tryz.ntmps61
    go_wp2_with fail
    exact bodyPost_ret (v := rleadV (some (3, c % 8, 128, 143))) (by simp [results, rleadV, Tryz.f61, go_sem]) rfl ⟨rfl, rfl⟩
  have e : Ut.lead c = none := by unfold Ut.lead; rw [if_neg (by omega), if_pos (by omega)]
  rw [e]
  clear e
  have c128 : ¬ (c : Int) < 128 := by omega
  have c194 : (194 : Int) ≤ (c : Int) := by omega
  have c224 : ¬ (c : Int) < 224 := by omega
  have e224 : ((c : Int) == 224) = false := by simp; omega
  have e237 : ((c : Int) == 237) = false := by simp; omega
  have g224 : (224 : Int) < (c : Int) := by omega
  have c240 : ¬ (c : Int) < 240 := by omega
  have e240 : ((c : Int) == 240) = false := by simp; omega
  have g240 : (240 : Int) < (c : Int) := by omega
  have c244 : ¬ (c : Int) < 244 := by omega
  have e244 : ((c : Int) == 244) = false := by simp; omega
  go_enter Tryz.func61, Tryz.ntmps61
  go_wp2_with fail
  exact bodyPost_ret (v := rleadV (none)) (by simp [results, rleadV, Tryz.f61, go_sem]) rfl ⟨rfl, rfl⟩
def rpartV (p : Int × Nat) : Value := if p.1 < 0 then .tuple #[.int .i64 0, .int .i64 (p.2 : Int), .bool false] else .tuple #[.int .i64 p.1, .int .i64 (p.2 : Int), .bool true]
theorem rpartV_bad (m : Nat) : rpartV (-1, m) = .tuple #[.int .i64 0, .int .i64 (m : Int), .bool false] := rfl
theorem rpartV_good (x m : Nat) : rpartV ((x : Int), m) = .tuple #[.int .i64 (x : Int), .int .i64 (m : Int), .bool true] := by unfold rpartV; rw [if_neg (by show ¬ (x : Int) < 0; omega)]
def RPartPost (p : Int × Nat) (w : World) (e : Ending) (w' : World) : Prop := e = .returned (rpartV p) ∧ w = w'
theorem lead_kinds {c k r lo hi : Nat} (h : Ut.lead c = some (k, r, lo, hi)) : k = 0 ∧ r = c % 128 ∨ k = 1 ∧ r = c % 32 ∨ k = 2 ∧ r = c % 16 ∨ k = 3 ∧ r = c % 8 := by
  unfold Ut.lead at h
  repeat' split at h
  all_goals first | (cases h; done) | skip
  all_goals
    injection h with h
    injection h with h1 h
    injection h with h2 h
    injection h with h3 h4
    omega
theorem i64_and127 (x : Int) (h0 : 0 ≤ x) (h1 : x < 256) : bits .and .i64 x 127 = x % 128 := bits_mask .i64 63 (by decide) wraps_i64 7 (by decide) x h0 (by omega)
def mskN (k : Nat) : Int := if k = 0 then 127 else if k = 1 then 31 else if k = 2 then 15 else 7
theorem lead_mask {c k r lo hi : Nat} (hc : c < 256) (h : Ut.lead c = some (k, r, lo, hi)) : bits .and .i64 (c : Int) (mskN k) = (r : Int) := by
  rcases lead_kinds h with ⟨rfl, rfl⟩ | ⟨rfl, rfl⟩ | ⟨rfl, rfl⟩ | ⟨rfl, rfl⟩
  · have := i64_and127 (c : Int) (by omega) (by omega); exact this
  · have := i64_and31 (c : Int) (by omega) (by omega); exact this
  · have := i64_and15 (c : Int) (by omega) (by omega); exact this
  · have := i64_and7 (c : Int) (by omega) (by omega); exact this
theorem rleadV_pos {k r lo hi : Nat} (h : 0 < k) : rleadV (some (k, r, lo, hi)) = .tuple #[.int .i64 (k : Int), .int .u8 (lo : Int), .int .u8 (hi : Int)] := by
  cases k with
  | zero => omega
  | succ k => rfl
theorem rleadV_zero {r lo hi : Nat} : rleadV (some (0, r, lo, hi)) = .tuple #[.int .i64 0, .int .u8 0, .int .u8 0] := rfl
theorem rleadV_none : rleadV none = .tuple #[.int .i64 (-1), .int .u8 0, .int .u8 0] := rfl
set_option maxHeartbeats 4000000 in
theorem rpart_any (s : ByteArray) (hs : s.size ≤ 1000000) (a : Nat) (ha : a < s.size) (w : World) : Calls Tryz.prog 45 #[.string s, .int .i64 (a : Int)] w (RPartPost (Ut.piece ((Ut.bsL s).drop a)) w) := by
  have C := rlead_any
  have hidx : ((s[a]'ha).toNat : Int) = (Sm.B s a : Int) := by rw [Sm.B_at s a ha]
  have hc := Sm.B_lt s a
  have hp : Ut.piece ((Ut.bsL s).drop a) = (match Ut.lead (Sm.B s a) with | none => (-1, 1) | some (k, r, lo, hi) => Ut.cont k r lo hi 1 ((Ut.bsL s).drop (a + 1))) := by rw [Ut.bsL_drop s a ha]; rfl
  rw [hp]
  clear hp
  generalize Sm.B s a = c at *
  obtain ⟨o, ho⟩ : ∃ o, Ut.lead c = o := ⟨_, rfl⟩
  have HO := Lib.hid ho
  rw [ho]
  have D := fun w => C c hc w
  clear C
  rw [ho] at D
  clear ho
  have ai : (a : Int) < (s.size : Int) := by omega
  cases o with
  | none =>
    unfold RLeadPost at D
    rw [rleadV_none] at D
    go_enter Tryz.func45, Tryz.ntmps45
    go_wp2_with (go_at_call 61; refine (D _).mono ?_; rintro e w1 ⟨rfl, rfl⟩)
    try rw [Exit.noGoto_ret]
    exact bodyPost_ret (v := rpartV (-1, 1)) (by rw [rpartV_bad]; simp [results, Tryz.f45, go_sem]) rfl ⟨rfl, rfl⟩
  | some q =>
    obtain ⟨k, r, lo, hi⟩ := q
    obtain ⟨hb, hlo, hhi, hk⟩ := Ut.bd_lead HO.out
    have hmk := lead_mask hc HO.out
    clear HO
    show Calls _ _ _ _ (RPartPost (Ut.cont k r lo hi 1 ((Ut.bsL s).drop (a + 1))) w)
    unfold RLeadPost at D
    by_cases hk0 : k = 0
    · subst hk0
      rw [rleadV_zero] at D
      have he : Ut.cont 0 r lo hi 1 ((Ut.bsL s).drop (a + 1)) = ((r : Int), 1) := rfl
      rw [he]
      have hm1 : bits .and .i64 (c : Int) 127 = (r : Int) := hmk
      clear he hb hmk
      go_enter Tryz.func45, Tryz.ntmps45
      go_wp2_with (go_at_call 61; refine (D _).mono ?_; rintro e w1 ⟨rfl, rfl⟩)
      go_loop [8, 9, 11, 12] (fun _ _ rv iv => rv = .int .i64 (r : Int) ∧ iv = .int .i64 1) (fun _ _ _ _ => 0)
      case atStart => exact ⟨rfl, rfl⟩
      case round =>
        obtain ⟨rfl, rfl⟩ := hrel
        go_wp2_with fail
        try rw [Exit.noGoto_ret]
        exact bodyPost_ret (v := rpartV ((r : Int), 1)) (by rw [rpartV_good]; simp [results, Tryz.f45, go_sem]) rfl ⟨rfl, rfl⟩
    · rw [rleadV_pos (by omega)] at D
      obtain ⟨target, ht⟩ : ∃ t, Ut.cont k r lo hi 1 ((Ut.bsL s).drop (a + 1)) = t := ⟨_, rfl⟩
      rw [ht]
      have HT := Lib.hid ht
      have HB := Lib.hid hb
      clear ht hb
      have i0 : ¬ ((k : Int) < 0) := by omega
      have i00 : (0 : Int) < (k : Int) := by omega
      have hkk : k = 1 ∨ k = 2 ∨ k = 3 := by omega
      rcases hkk with rfl | rfl | rfl
      · have hm1 : bits .and .i64 (c : Int) 31 = (r : Int) := hmk
        have D1 : ∀ w : World, Calls Tryz.prog 61 #[.int .u8 (c : Int)] w (fun e w' => e = .returned (.tuple #[.int .i64 1, .int .u8 (lo : Int), .int .u8 (hi : Int)]) ∧ w = w') := D
        clear hmk D
        go_enter Tryz.func45, Tryz.ntmps45
        go_wp2_with (go_at_call 61; refine (D1 _).mono ?_; rintro e w1 ⟨rfl, rfl⟩)
        go_loop [8, 9, 11, 12] (fun lv hv rv nv => ∃ j m x l h : Nat, j + m = 1 + 1 ∧ 1 ≤ m ∧ rv = .int .i64 (x : Int) ∧ nv = .int .i64 (m : Int) ∧ lv = .int .u8 (l : Int) ∧ hv = .int .u8 (h : Int) ∧ Hid (Ut.bd j x) ∧ l < 256 ∧ h < 256 ∧ Hid (Ut.cont j x l h m ((Ut.bsL s).drop (a + m)) = target)) (fun _ _ _ nv => 1 + 1 - (intOf nv).toNat)
        case atStart => exact ⟨1, 1, r, lo, hi, by omega, by omega, rfl, rfl, rfl, rfl, HB, hlo, hhi, HT⟩
        case round =>
          obtain ⟨j, m, x, l, h, hjm, hm2, rfl, rfl, rfl, rfl, HB2, hl2, hh2, HT2⟩ := hrel
          clear HT HB
          have hw1 : IntKind.i64.wrap ((a : Int) + (m : Int)) = (a : Int) + (m : Int) := by rw [IntKind.wrap_i64]; omega
          cases j with
          | zero =>
            have i1 : ¬ ((m : Int) ≤ 1) := by omega
            have he : target = ((x : Int), m) := HT2.out.symm
            obtain rfl : m = 1 + 1 := by omega
            go_wp2_with fail
            try rw [Exit.noGoto_ret]
            exact bodyPost_ret (v := rpartV ((x : Int), 1 + 1)) (by rw [rpartV_good]; simp [results, Tryz.f45, go_sem]) rfl ⟨rfl, rfl⟩
          | succ j =>
            have i1 : (m : Int) ≤ 1 := by omega
            by_cases hend : s.size ≤ a + m
            · have i2 : (s.size : Int) ≤ (a : Int) + (m : Int) := by omega
              have he : target = (-1, m) := by
                rw [← HT2.out, List.drop_eq_nil_of_le (by rw [Ut.bsL_len]; exact hend)]
                rfl
              go_wp2_with fail
              try rw [Exit.noGoto_ret]
              exact bodyPost_ret (v := rpartV (-1, m)) (by rw [rpartV_bad]; simp [results, Tryz.f45, go_sem]) rfl ⟨rfl, rfl⟩
            · have hlt : a + m < s.size := by omega
              have i2 : ¬ (s.size : Int) ≤ (a : Int) + (m : Int) := by omega
              have i22 : (a : Int) + (m : Int) < (s.size : Int) := by omega
              have hidx2 : ((s[a + m]'hlt).toNat : Int) = (Sm.B s (a + m) : Int) := by rw [Sm.B_at s (a + m) hlt]
              have hnat : ((a : Int) + (m : Int)).toNat = a + m := by omega
              have hd := Ut.bsL_drop s (a + m) hlt
              have hc2 := Sm.B_lt s (a + m)
              generalize Sm.B s (a + m) = d at *
              have HD := Lib.hid hd
              clear hd
              by_cases q1 : d < l
              · have i3 : (d : Int) < (l : Int) := by omega
                have he : target = (-1, m) := by
                  rw [← HT2.out, HD.out]
                  show (if l ≤ d ∧ d ≤ h then _ else _) = _
                  rw [if_neg (by omega)]
                go_wp2_with fail
                try rw [Exit.noGoto_ret]
                exact bodyPost_ret (v := rpartV (-1, m)) (by rw [rpartV_bad]; simp [results, Tryz.f45, go_sem]) rfl ⟨rfl, rfl⟩
              · by_cases q2 : h < d
                · have i3 : ¬ (d : Int) < (l : Int) := by omega
                  have i4 : (h : Int) < (d : Int) := by omega
                  have he : target = (-1, m) := by
                    rw [← HT2.out, HD.out]
                    show (if l ≤ d ∧ d ≤ h then _ else _) = _
                    rw [if_neg (by omega)]
                  go_wp2_with fail
                  try rw [Exit.noGoto_ret]
                  exact bodyPost_ret (v := rpartV (-1, m)) (by rw [rpartV_bad]; simp [results, Tryz.f45, go_sem]) rfl ⟨rfl, rfl⟩
                · have i3 : ¬ (d : Int) < (l : Int) := by omega
                  have i4 : ¬ (h : Int) < (d : Int) := by omega
                  have i5 := u8_and63 (x := (d : Int)) (by omega) (by omega)
                  have hx : x < 262144 := by have := HB2.out; unfold Ut.bd at this; omega
                  have i6 := i64_or6 (x : Int) ((d : Int) % 64) (by omega) (by omega) (by omega) (by omega)
                  have HB3 : Hid (Ut.bd j (x * 64 + d % 64)) := Lib.hid (Ut.bd_step HB2.out)
                  have HT3 : Hid (Ut.cont j (x * 64 + d % 64) 128 191 (m + 1) ((Ut.bsL s).drop (a + (m + 1))) = target) := by
                    apply Lib.hid
                    rw [← HT2.out, HD.out, Ut.cont_one (by omega) (by omega)]
                    rfl
                  go_wp2_with fail
                  go_round
                  case rel => exact ⟨j, m + 1, x * 64 + d % 64, 128, 191, by omega, by omega, by go_num, by go_num, rfl, rfl, HB3, by omega, by omega, HT3⟩
                  case measure => simp [intOf]; omega
      · have hm1 : bits .and .i64 (c : Int) 15 = (r : Int) := hmk
        have D1 : ∀ w : World, Calls Tryz.prog 61 #[.int .u8 (c : Int)] w (fun e w' => e = .returned (.tuple #[.int .i64 2, .int .u8 (lo : Int), .int .u8 (hi : Int)]) ∧ w = w') := D
        clear hmk D
        go_enter Tryz.func45, Tryz.ntmps45
        go_wp2_with (go_at_call 61; refine (D1 _).mono ?_; rintro e w1 ⟨rfl, rfl⟩)
        go_loop [8, 9, 11, 12] (fun lv hv rv nv => ∃ j m x l h : Nat, j + m = 2 + 1 ∧ 1 ≤ m ∧ rv = .int .i64 (x : Int) ∧ nv = .int .i64 (m : Int) ∧ lv = .int .u8 (l : Int) ∧ hv = .int .u8 (h : Int) ∧ Hid (Ut.bd j x) ∧ l < 256 ∧ h < 256 ∧ Hid (Ut.cont j x l h m ((Ut.bsL s).drop (a + m)) = target)) (fun _ _ _ nv => 2 + 1 - (intOf nv).toNat)
        case atStart => exact ⟨2, 1, r, lo, hi, by omega, by omega, rfl, rfl, rfl, rfl, HB, hlo, hhi, HT⟩
        case round =>
          obtain ⟨j, m, x, l, h, hjm, hm2, rfl, rfl, rfl, rfl, HB2, hl2, hh2, HT2⟩ := hrel
          clear HT HB
          have hw1 : IntKind.i64.wrap ((a : Int) + (m : Int)) = (a : Int) + (m : Int) := by rw [IntKind.wrap_i64]; omega
          cases j with
          | zero =>
            have i1 : ¬ ((m : Int) ≤ 2) := by omega
            have he : target = ((x : Int), m) := HT2.out.symm
            obtain rfl : m = 2 + 1 := by omega
            go_wp2_with fail
            try rw [Exit.noGoto_ret]
            exact bodyPost_ret (v := rpartV ((x : Int), 2 + 1)) (by rw [rpartV_good]; simp [results, Tryz.f45, go_sem]) rfl ⟨rfl, rfl⟩
          | succ j =>
            have i1 : (m : Int) ≤ 2 := by omega
            by_cases hend : s.size ≤ a + m
            · have i2 : (s.size : Int) ≤ (a : Int) + (m : Int) := by omega
              have he : target = (-1, m) := by
                rw [← HT2.out, List.drop_eq_nil_of_le (by rw [Ut.bsL_len]; exact hend)]
                rfl
              go_wp2_with fail
              try rw [Exit.noGoto_ret]
              exact bodyPost_ret (v := rpartV (-1, m)) (by rw [rpartV_bad]; simp [results, Tryz.f45, go_sem]) rfl ⟨rfl, rfl⟩
            · have hlt : a + m < s.size := by omega
              have i2 : ¬ (s.size : Int) ≤ (a : Int) + (m : Int) := by omega
              have i22 : (a : Int) + (m : Int) < (s.size : Int) := by omega
              have hidx2 : ((s[a + m]'hlt).toNat : Int) = (Sm.B s (a + m) : Int) := by rw [Sm.B_at s (a + m) hlt]
              have hnat : ((a : Int) + (m : Int)).toNat = a + m := by omega
              have hd := Ut.bsL_drop s (a + m) hlt
              have hc2 := Sm.B_lt s (a + m)
              generalize Sm.B s (a + m) = d at *
              have HD := Lib.hid hd
              clear hd
              by_cases q1 : d < l
              · have i3 : (d : Int) < (l : Int) := by omega
                have he : target = (-1, m) := by
                  rw [← HT2.out, HD.out]
                  show (if l ≤ d ∧ d ≤ h then _ else _) = _
                  rw [if_neg (by omega)]
                go_wp2_with fail
                try rw [Exit.noGoto_ret]
                exact bodyPost_ret (v := rpartV (-1, m)) (by rw [rpartV_bad]; simp [results, Tryz.f45, go_sem]) rfl ⟨rfl, rfl⟩
              · by_cases q2 : h < d
                · have i3 : ¬ (d : Int) < (l : Int) := by omega
                  have i4 : (h : Int) < (d : Int) := by omega
                  have he : target = (-1, m) := by
                    rw [← HT2.out, HD.out]
                    show (if l ≤ d ∧ d ≤ h then _ else _) = _
                    rw [if_neg (by omega)]
                  go_wp2_with fail
                  try rw [Exit.noGoto_ret]
                  exact bodyPost_ret (v := rpartV (-1, m)) (by rw [rpartV_bad]; simp [results, Tryz.f45, go_sem]) rfl ⟨rfl, rfl⟩
                · have i3 : ¬ (d : Int) < (l : Int) := by omega
                  have i4 : ¬ (h : Int) < (d : Int) := by omega
                  have i5 := u8_and63 (x := (d : Int)) (by omega) (by omega)
                  have hx : x < 262144 := by have := HB2.out; unfold Ut.bd at this; omega
                  have i6 := i64_or6 (x : Int) ((d : Int) % 64) (by omega) (by omega) (by omega) (by omega)
                  have HB3 : Hid (Ut.bd j (x * 64 + d % 64)) := Lib.hid (Ut.bd_step HB2.out)
                  have HT3 : Hid (Ut.cont j (x * 64 + d % 64) 128 191 (m + 1) ((Ut.bsL s).drop (a + (m + 1))) = target) := by
                    apply Lib.hid
                    rw [← HT2.out, HD.out, Ut.cont_one (by omega) (by omega)]
                    rfl
                  go_wp2_with fail
                  go_round
                  case rel => exact ⟨j, m + 1, x * 64 + d % 64, 128, 191, by omega, by omega, by go_num, by go_num, rfl, rfl, HB3, by omega, by omega, HT3⟩
                  case measure => simp [intOf]; omega
      · have hm1 : bits .and .i64 (c : Int) 7 = (r : Int) := hmk
        have D1 : ∀ w : World, Calls Tryz.prog 61 #[.int .u8 (c : Int)] w (fun e w' => e = .returned (.tuple #[.int .i64 3, .int .u8 (lo : Int), .int .u8 (hi : Int)]) ∧ w = w') := D
        clear hmk D
        go_enter Tryz.func45, Tryz.ntmps45
        go_wp2_with (go_at_call 61; refine (D1 _).mono ?_; rintro e w1 ⟨rfl, rfl⟩)
        go_loop [8, 9, 11, 12] (fun lv hv rv nv => ∃ j m x l h : Nat, j + m = 3 + 1 ∧ 1 ≤ m ∧ rv = .int .i64 (x : Int) ∧ nv = .int .i64 (m : Int) ∧ lv = .int .u8 (l : Int) ∧ hv = .int .u8 (h : Int) ∧ Hid (Ut.bd j x) ∧ l < 256 ∧ h < 256 ∧ Hid (Ut.cont j x l h m ((Ut.bsL s).drop (a + m)) = target)) (fun _ _ _ nv => 3 + 1 - (intOf nv).toNat)
        case atStart => exact ⟨3, 1, r, lo, hi, by omega, by omega, rfl, rfl, rfl, rfl, HB, hlo, hhi, HT⟩
        case round =>
          obtain ⟨j, m, x, l, h, hjm, hm2, rfl, rfl, rfl, rfl, HB2, hl2, hh2, HT2⟩ := hrel
          clear HT HB
          have hw1 : IntKind.i64.wrap ((a : Int) + (m : Int)) = (a : Int) + (m : Int) := by rw [IntKind.wrap_i64]; omega
          cases j with
          | zero =>
            have i1 : ¬ ((m : Int) ≤ 3) := by omega
            have he : target = ((x : Int), m) := HT2.out.symm
            obtain rfl : m = 3 + 1 := by omega
            go_wp2_with fail
            try rw [Exit.noGoto_ret]
            exact bodyPost_ret (v := rpartV ((x : Int), 3 + 1)) (by rw [rpartV_good]; simp [results, Tryz.f45, go_sem]) rfl ⟨rfl, rfl⟩
          | succ j =>
            have i1 : (m : Int) ≤ 3 := by omega
            by_cases hend : s.size ≤ a + m
            · have i2 : (s.size : Int) ≤ (a : Int) + (m : Int) := by omega
              have he : target = (-1, m) := by
                rw [← HT2.out, List.drop_eq_nil_of_le (by rw [Ut.bsL_len]; exact hend)]
                rfl
              go_wp2_with fail
              try rw [Exit.noGoto_ret]
              exact bodyPost_ret (v := rpartV (-1, m)) (by rw [rpartV_bad]; simp [results, Tryz.f45, go_sem]) rfl ⟨rfl, rfl⟩
            · have hlt : a + m < s.size := by omega
              have i2 : ¬ (s.size : Int) ≤ (a : Int) + (m : Int) := by omega
              have i22 : (a : Int) + (m : Int) < (s.size : Int) := by omega
              have hidx2 : ((s[a + m]'hlt).toNat : Int) = (Sm.B s (a + m) : Int) := by rw [Sm.B_at s (a + m) hlt]
              have hnat : ((a : Int) + (m : Int)).toNat = a + m := by omega
              have hd := Ut.bsL_drop s (a + m) hlt
              have hc2 := Sm.B_lt s (a + m)
              generalize Sm.B s (a + m) = d at *
              have HD := Lib.hid hd
              clear hd
              by_cases q1 : d < l
              · have i3 : (d : Int) < (l : Int) := by omega
                have he : target = (-1, m) := by
                  rw [← HT2.out, HD.out]
                  show (if l ≤ d ∧ d ≤ h then _ else _) = _
                  rw [if_neg (by omega)]
                go_wp2_with fail
                try rw [Exit.noGoto_ret]
                exact bodyPost_ret (v := rpartV (-1, m)) (by rw [rpartV_bad]; simp [results, Tryz.f45, go_sem]) rfl ⟨rfl, rfl⟩
              · by_cases q2 : h < d
                · have i3 : ¬ (d : Int) < (l : Int) := by omega
                  have i4 : (h : Int) < (d : Int) := by omega
                  have he : target = (-1, m) := by
                    rw [← HT2.out, HD.out]
                    show (if l ≤ d ∧ d ≤ h then _ else _) = _
                    rw [if_neg (by omega)]
                  go_wp2_with fail
                  try rw [Exit.noGoto_ret]
                  exact bodyPost_ret (v := rpartV (-1, m)) (by rw [rpartV_bad]; simp [results, Tryz.f45, go_sem]) rfl ⟨rfl, rfl⟩
                · have i3 : ¬ (d : Int) < (l : Int) := by omega
                  have i4 : ¬ (h : Int) < (d : Int) := by omega
                  have i5 := u8_and63 (x := (d : Int)) (by omega) (by omega)
                  have hx : x < 262144 := by have := HB2.out; unfold Ut.bd at this; omega
                  have i6 := i64_or6 (x : Int) ((d : Int) % 64) (by omega) (by omega) (by omega) (by omega)
                  have HB3 : Hid (Ut.bd j (x * 64 + d % 64)) := Lib.hid (Ut.bd_step HB2.out)
                  have HT3 : Hid (Ut.cont j (x * 64 + d % 64) 128 191 (m + 1) ((Ut.bsL s).drop (a + (m + 1))) = target) := by
                    apply Lib.hid
                    rw [← HT2.out, HD.out, Ut.cont_one (by omega) (by omega)]
                    rfl
                  go_wp2_with fail
                  go_round
                  case rel => exact ⟨j, m + 1, x * 64 + d % 64, 128, 191, by omega, by omega, by go_num, by go_num, rfl, rfl, HB3, by omega, by omega, HT3⟩
                  case measure => simp [intOf]; omega
end Go.Proofs.YthepfbkbfkhcaaaGreat
namespace Ut
theorem scal_bad {s : ByteArray} {a : Nat} (h : a < s.size) (hp : (piece ((bsL s).drop a)).1 < 0) : scal ((bsL s).drop a) = none := by
  rw [bsL_drop s a h] at hp ⊢
  rw [scal_cons, if_pos hp]
theorem scal_good {s : ByteArray} {a : Nat} (h : a < s.size) (hp : ¬ (piece ((bsL s).drop a)).1 < 0) : scal ((bsL s).drop a) = (scal ((bsL s).drop (a + (piece ((bsL s).drop a)).2))).map ((piece ((bsL s).drop a)).1 :: ·) := by
  have e : (bsL s).drop (a + (piece ((bsL s).drop a)).2) = ((bsL s).drop a).drop (piece ((bsL s).drop a)).2 := by rw [List.drop_drop]
  rw [e]
  rw [bsL_drop s a h] at hp ⊢
  rw [scal_cons, if_neg hp]
theorem piece_wid {s : ByteArray} {a : Nat} (h : a < s.size) : 1 ≤ (piece ((bsL s).drop a)).2 ∧ a + (piece ((bsL s).drop a)).2 ≤ s.size := by
  have e := bsL_drop s a h
  have hw := piece_width (Sm.B s a) ((bsL s).drop (a + 1))
  rw [← e] at hw
  rw [List.length_drop, bsL_len] at hw
  omega
end Ut
namespace Go.Proofs.YthepfbkbfkhcaaaGreat
open Go.RowKit Go.Shelf
open Go
set_option linter.unusedVariables false
set_option maxRecDepth 100000
def rnextV (p : Int × Nat) : Value := if p.1 < 0 then .tuple #[.int .i64 0, .int .i64 0, .bool false] else .tuple #[.int .i64 p.1, .int .i64 (p.2 : Int), .bool true]
def RNextPost (p : Int × Nat) (w : World) (e : Ending) (w' : World) : Prop := e = .returned (rnextV p) ∧ w = w'
theorem rnext_any (s : ByteArray) (hs : s.size ≤ 1000000) (a : Nat) (ha : a < s.size) (w : World) : Calls Tryz.prog 34 #[.string s, .int .i64 (a : Int)] w (RNextPost (Ut.piece ((Ut.bsL s).drop a)) w) := by
  have C := rpart_any s hs a ha
  generalize Ut.piece ((Ut.bsL s).drop a) = p at *
  obtain ⟨x, m⟩ := p
  have i1 : ¬ (a : Int) < 0 := by omega
  have i2 : ¬ (s.size : Int) ≤ (a : Int) := by omega
  by_cases hx : x < 0
  · have e1 : rpartV (x, m) = .tuple #[.int .i64 0, .int .i64 (m : Int), .bool false] := by unfold rpartV; rw [if_pos hx]
    have e2 : rnextV (x, m) = .tuple #[.int .i64 0, .int .i64 0, .bool false] := by unfold rnextV; rw [if_pos hx]
    unfold RPartPost at C
    unfold RNextPost
    rw [e1] at C
    rw [e2]
    clear e1 e2
    go_enter Tryz.func34, Tryz.ntmps34
    go_wp2_with (go_at_call 45; refine (C _).mono ?_; rintro e w1 ⟨rfl, rfl⟩)
    exact bodyPost_ret (v := .tuple #[.int .i64 0, .int .i64 0, .bool false]) (by simp [results, Tryz.f34, go_sem]) rfl ⟨rfl, rfl⟩
  · have e1 : rpartV (x, m) = .tuple #[.int .i64 x, .int .i64 (m : Int), .bool true] := by unfold rpartV; rw [if_neg hx]
    have e2 : rnextV (x, m) = .tuple #[.int .i64 x, .int .i64 (m : Int), .bool true] := by unfold rnextV; rw [if_neg hx]
    unfold RPartPost at C
    unfold RNextPost
    rw [e1] at C
    rw [e2]
    clear e1 e2
    go_enter Tryz.func34, Tryz.ntmps34
    go_wp2_with (go_at_call 45; refine (C _).mono ?_; rintro e w1 ⟨rfl, rfl⟩)
    exact bodyPost_ret (v := .tuple #[.int .i64 x, .int .i64 (m : Int), .bool true]) (by simp [results, Tryz.f34, go_sem]) rfl ⟨rfl, rfl⟩
def ScOut (T : Option (List Int)) (w : World) (e : Ending) (W' : World) : Prop := (match T with | some L => ∃ v, e = .returned (.tuple #[v, .bool true]) ∧ OwnL W' w.heap.size v L | none => e = .returned (.tuple #[.slice none 0 0, .bool false])) ∧ Below w.heap.size w W'
set_option maxHeartbeats 4000000 in
theorem rscalars_any (s : ByteArray) (hs : s.size ≤ 100000) (w : World) : Calls Tryz.prog 44 #[.string s] w (ScPost (Ut.bsL s) w) := by
  have C := rnext_any s (by omega)
  obtain ⟨i0, hi, hz0, hz1, hz2⟩ := info_parts infoI
  obtain ⟨T, hT⟩ : ∃ T, Ut.scal (Ut.bsL s) = T := ⟨_, rfl⟩
  have HT := Lib.hid hT
  have hsc : ∀ D : List Int, D = [] → Hid (T = (Ut.scal ((Ut.bsL s).drop 0)).map (D ++ ·)) := fun D e => Lib.hid (by
    subst e
    rw [← HT.out, List.drop_zero]
    cases Ut.scal (Ut.bsL s) <;> rfl)
  have hgoal : ∀ e W', ScOut T w e W' → ScPost (Ut.bsL s) w e W' := fun e W' h => by
    unfold ScPost
    rw [HT.out]
    exact h
  refine Calls.mono ?_ hgoal
  clear hgoal hT
  go_enter Tryz.func44, Tryz.ntmps44
  go_wp2_with fail
  go_loopw [4, 5] (fun v k wr => ∃ (a m : Nat) (D : List Int) (pv : Option Addr) (cv : Nat), v = .slice pv m cv ∧ k = .int .i64 (a : Int) ∧ a ≤ s.size ∧ m ≤ a ∧ Hid (m = D.length) ∧ Hid (wr.ownsRow w.heap.size 3 1 (.slice pv m cv) m (D.map encI)) ∧ Hid (T = (Ut.scal ((Ut.bsL s).drop a)).map (D ++ ·)) ∧ Hid (Below w.heap.size w wr)) (fun _ k _ => s.size - (intOf k).toNat)
  case atStart => exact ⟨0, 0, [], none, 0, rfl, rfl, by omega, by omega, Lib.hid rfl, Lib.hid (World.ownsRow_nil _ _ _ _), hsc [] rfl, Lib.hid (Below.refl _ _)⟩
  case round =>
    obtain ⟨a, m, D, pv, cv, rfl, rfl, ha, hm, HM, HO, HS, HB⟩ := hrel
    clear hsc HT
    by_cases hlt : a < s.size
    · have ai : (a : Int) < (s.size : Int) := by omega
      have c1 := C a hlt
      have hbad := Ut.scal_bad hlt
      have hgood := Ut.scal_good hlt
      have hwid := Ut.piece_wid hlt
      clear C
      generalize Ut.piece ((Ut.bsL s).drop a) = p at *
      obtain ⟨x, n⟩ := p
      unfold RNextPost at c1
      by_cases hx : x < 0
      · have e2 : rnextV (x, n) = .tuple #[.int .i64 0, .int .i64 0, .bool false] := by unfold rnextV; rw [if_pos hx]
        rw [e2] at c1
        have hTn : Hid (T = none) := Lib.hid (by rw [HS.out, hbad hx]; rfl)
        clear e2 hbad hgood HS
        go_wp2_with (go_at_call 34; refine (c1 _).mono ?_; rintro e w1 ⟨rfl, rfl⟩)
        go_ret2
        rw [hTn.out]
        exact ⟨rfl, HB.out⟩
      · have e2 : rnextV (x, n) = .tuple #[.int .i64 x, .int .i64 (n : Int), .bool true] := by unfold rnextV; rw [if_neg hx]
        rw [e2] at c1
        have hTn : Hid (T = (Ut.scal ((Ut.bsL s).drop (a + n))).map ((D ++ [x]) ++ ·)) := Lib.hid (by
          rw [HS.out, hgood hx]
          simp only
          cases Ut.scal ((Ut.bsL s).drop (a + n)) with
          | none => rfl
          | some L => simp)
        have hwid1 : 1 ≤ n := hwid.1
        have hwid2 : a + n ≤ s.size := hwid.2
        have hwr : IntKind.i64.wrap ((a : Int) + (n : Int)) = (a : Int) + (n : Int) := by rw [IntKind.wrap_i64]; omega
        have b1 : m + 1 ≤ maxLen := by unfold maxLen; omega
        have b2 : (m + 1) * 8 ≤ 140737488355328 := by omega
        have hws : w.heap.size ≤ wr.heap.size := HB.out.size
        have hob : ∀ q, (Value.slice pv m cv).ownBlock = some q → w.heap.size ≤ q := fun q e => ((row_shape HO.out).2 q e).1
        have HOB := Lib.hid hob
        clear e2 hbad hgood HS hwid hob
        go_wp2_with (first | (go_at_call 34; refine (c1 _).mono ?_; rintro e w1 ⟨rfl, rfl⟩) | (at_builtin; refine wpList_append_own _ rfl _ _ 49 rfl w.heap.size 3 i0 (.int .i64 0) 1 8 Tryz.underlying49 hi hz0 hz1 hz2 rfl (by decide) (.slice pv m cv) m (D.map encI) rfl (row_kept HO.out (World.grownBy_alloc _ _ none) (fun r e => by cases e)) ⟨wr.heap.size, 0, none⟩ 1 1 [.int .i64 x] rfl rfl (cell_one_new _ _ _) (by simp [Value.oneCell']) b1 b2 (by simp; omega) ?_; intro v' w4 hown' hgrow hnil; clear hnil; obtain ⟨g', cap', rfl, hgb', hcp', hsh⟩ := row_pos hown' (Nat.succ_pos _); have HOW := Lib.hid hown'; have HG := Lib.hid hgrow; clear hown' hgrow hsh))
        go_roundw
        case rel =>
          refine ⟨a + n, _, D ++ [x], _, _, rfl, by go_num, hwid2, by omega, Lib.hid ?_, Lib.hid ?_, hTn, Lib.hid ((HB.out.grown (World.grownBy_alloc wr (.cells #[.int .i64 x] 3) none) hws (fun r e => by cases e)).grown HG.out (by simp; omega) (fun r e => by have := HOB.out r e; omega))⟩
          · rw [List.length_append, HM.out]; rfl
          · rw [List.map_append]
            exact HOW.out
        case measure => simp [intOf]; omega
    · obtain rfl : a = s.size := by omega
      have ho := HO.out
      have hTs : Hid (T = some D) := Lib.hid (by
        rw [HS.out, List.drop_eq_nil_of_le (by rw [Ut.bsL_len]; exact Nat.le_refl _)]
        show some (D ++ []) = _
        rw [List.append_nil])
      rw [HM.out] at ho
      have HO2 := Lib.hid ho
      clear ho HO HS
      have q1 : ¬ (s.size : Int) < (s.size : Int) := by omega
      go_wp2_with fail
      go_ret2
      rw [hTs.out]
      exact ⟨⟨_, rfl, by rw [HM.out]; exact HO2.out⟩, HB.out⟩
theorem rvalid_any (s : ByteArray) (hs : s.size ≤ 100000) (w : World) : Calls Tryz.prog 33 #[.string s] w (fun e w' => e = .returned (.bool (Ut.scal (Ut.bsL s)).isSome) ∧ Below w.heap.size w w') := by
  have C := rscalars_any s hs w
  unfold ScPost at C
  cases h : Ut.scal (Ut.bsL s) with
  | none =>
    rw [h] at C
    go_enter Tryz.func33, Tryz.ntmps33
    go_wp2_with (go_at_call 44; refine C.mono ?_; rintro e w1 ⟨rfl, hb⟩)
    go_ret
    exact ⟨rfl, hb⟩
  | some L =>
    rw [h] at C
    go_enter Tryz.func33, Tryz.ntmps33
    go_wp2_with (go_at_call 44; refine C.mono ?_; rintro e w1 ⟨⟨v, rfl, ho⟩, hb⟩)
    go_ret
    exact ⟨rfl, hb⟩
theorem row_cells {W : World} {p : Option Addr} {c : Nat} {L : List Int} (h : RowP W p c L) : ∃ g o, ∀ j (h : j < L.length), p = some ⟨g, o, none⟩ ∧ W.cell? ⟨g, o + j, none⟩ = some (.int .i64 L[j]) := by
  obtain ⟨g, o, hgo⟩ := rowP_at h 0
  refine ⟨g, o, fun j hj => ?_⟩
  rcases hgo with ⟨e, _⟩ | ⟨e, hI, hl⟩
  · subst e; exact absurd hj (Nat.not_lt_zero _)
  · exact ⟨e, hI.2 j _ (List.getElem?_eq_getElem hj)⟩
end Go.Proofs.YthepfbkbfkhcaaaGreat
namespace Go.Proofs.YthepfbkbfkhcaaaGreat
open Go.RowKit Go.Shelf
open Go
set_option linter.unusedVariables false
set_option maxRecDepth 100000
theorem ruis_any (r : Int) (w : World) : Calls Tryz.prog 100 #[.int .i64 r] w fun e w' => e = .returned (.bool (decide (Ut.isSc r))) ∧ w = w' := by
  by_cases h1 : 0 ≤ r
  · by_cases h2 : r ≤ 1114111
    · by_cases h3 : r < 55296
      · have e : decide (Ut.isSc r) = true := decide_eq_true ⟨h1, h2, Or.inl h3⟩
        rw [e]
        clear e
        go_enter Tryz.func100, Tryz.ntmps100
        go_wp2
        go_ret
        exact ⟨rfl, rfl⟩
      · by_cases h4 : 57343 < r
        · have e : decide (Ut.isSc r) = true := decide_eq_true ⟨h1, h2, Or.inr h4⟩
          rw [e]
          clear e
          go_enter Tryz.func100, Tryz.ntmps100
          go_wp2
          go_ret
          exact ⟨rfl, rfl⟩
        · have e : decide (Ut.isSc r) = false := decide_eq_false (fun k => by obtain ⟨_, _, k⟩ := k; omega)
          rw [e]
          clear e
          go_enter Tryz.func100, Tryz.ntmps100
          go_wp2
          go_ret
          exact ⟨rfl, rfl⟩
    · have e : decide (Ut.isSc r) = false := decide_eq_false (fun k => by obtain ⟨_, _, k⟩ := k; omega)
      rw [e]
      have h2' : decide (r ≤ 1114111) = false := decide_eq_false h2
      clear e
      go_enter Tryz.func100, Tryz.ntmps100
      go_wp2
      go_ret
      exact ⟨rfl, rfl⟩
  · have e : decide (Ut.isSc r) = false := decide_eq_false (fun k => by obtain ⟨_, _, k⟩ := k; omega)
    rw [e]
    have h1' : decide (0 ≤ r) = false := decide_eq_false h1
    clear e
    go_enter Tryz.func100, Tryz.ntmps100
    go_wp2
    go_ret
    exact ⟨rfl, rfl⟩
theorem rulen_any (r : Int) (w : World) : Calls Tryz.prog 89 #[.int .i64 r] w fun e w' => e = .returned (.int .i64 (Ut.lenI r)) ∧ w = w' := by
  have C := ruis_any r
  by_cases hs : Ut.isSc r
  · rw [decide_eq_true hs] at C
    obtain ⟨n, hn⟩ : ∃ n : Nat, r = (n : Int) := Ut.sc_nat hs
    have e : Ut.lenI r = ((Ut.enc n).length : Int) := by unfold Ut.lenI; rw [if_pos hs, hn]; rfl
    rw [e]
    clear e hs
    by_cases q1 : n < 128
    · have e : ((Ut.enc n).length : Int) = 1 := by unfold Ut.enc; rw [if_pos q1]; rfl
      rw [e]
      have i1 : r < 128 := by omega
      clear e q1 hn
      go_enter Tryz.func89, Tryz.ntmps89
      go_wp2_with (go_at_call 100; refine (C _).mono ?_; rintro e w' ⟨rfl, rfl⟩)
      go_ret
      exact ⟨rfl, rfl⟩
    · have i1 : ¬ r < 128 := by omega
      by_cases q2 : n < 2048
      · have e : ((Ut.enc n).length : Int) = 2 := by rw [Ut.enc_two q1 q2]; rfl
        rw [e]
        have i2 : r < 2048 := by omega
        clear e q1 q2 hn
        go_enter Tryz.func89, Tryz.ntmps89
        go_wp2_with (go_at_call 100; refine (C _).mono ?_; rintro e w' ⟨rfl, rfl⟩)
        go_ret
        exact ⟨rfl, rfl⟩
      · have i2 : ¬ r < 2048 := by omega
        by_cases q3 : n < 65536
        · have e : ((Ut.enc n).length : Int) = 3 := by rw [Ut.enc_three q1 q2 q3]; rfl
          rw [e]
          have i3 : r < 65536 := by omega
          clear e q3 q2 q1 hn
          go_enter Tryz.func89, Tryz.ntmps89
          go_wp2_with (go_at_call 100; refine (C _).mono ?_; rintro e w' ⟨rfl, rfl⟩)
          go_ret
          exact ⟨rfl, rfl⟩
        · have e : ((Ut.enc n).length : Int) = 4 := by rw [Ut.enc_four q1 q2 q3]; rfl
          rw [e]
          have i3 : ¬ r < 65536 := by omega
          clear e q3 q2 q1 hn
          go_enter Tryz.func89, Tryz.ntmps89
          go_wp2_with (go_at_call 100; refine (C _).mono ?_; rintro e w' ⟨rfl, rfl⟩)
          go_ret
          exact ⟨rfl, rfl⟩
  · rw [decide_eq_false hs] at C
    have e : Ut.lenI r = 0 := by unfold Ut.lenI; rw [if_neg hs]
    rw [e]
    clear e hs
    go_enter Tryz.func89, Tryz.ntmps89
    go_wp2_with (go_at_call 100; refine (C _).mono ?_; rintro e w' ⟨rfl, rfl⟩)
    go_ret
    exact ⟨rfl, rfl⟩
theorem cells_conv (w : World) (l : List Nat) (h : ∀ b ∈ l, b < 256) : (convert 29 9 (.slice (some ⟨w.heap.size, 0, none⟩) l.length l.length)).run Tryz.prog (w.alloc (.cells (l.map fun b : Nat => Value.int .u8 (b : Int)).toArray 5)) = .ok (.string (Ut.mk l)) (w.alloc (.cells (l.map fun b : Nat => Value.int .u8 (b : Int)).toArray 5)) := by
  have := run_convert_bytes_back (P := Tryz.prog) (w.alloc (.cells (l.map fun b : Nat => Value.int .u8 (b : Int)).toArray 5)) 29 9 5 ⟨w.heap.size, 0, none⟩ l.length (l.map UInt8.ofNat) Tryz.underlying29 Tryz.underlying5 Tryz.underlying9 (fun j hj => by
    have hj2 : j < l.length := by simpa using hj
    rw [Go.WideShapes.add_plain, Nat.zero_add, World.cell?_alloc_mark]
    have hb := h _ (List.getElem_mem hj2)
    simp only [List.getElem_map]
    rw [List.getElem?_toArray, List.getElem?_map, List.getElem?_eq_getElem hj2, UInt8.toNat_ofNat', Nat.mod_eq_of_lt hb]
    rfl)
  rw [List.length_map] at this
  exact this
theorem r_or192 (y : Int) (h0 : 0 ≤ y) (h1 : y < 32) : bits .or .i64 192 y = 192 + y := bits_join .i64 63 (by decide) wraps_i64 5 192 y (by omega) (by omega) (by omega) h0 (by omega) (by omega)
theorem r_or224 (y : Int) (h0 : 0 ≤ y) (h1 : y < 16) : bits .or .i64 224 y = 224 + y := bits_join .i64 63 (by decide) wraps_i64 4 224 y (by omega) (by omega) (by omega) h0 (by omega) (by omega)
theorem r_or240 (y : Int) (h0 : 0 ≤ y) (h1 : y < 8) : bits .or .i64 240 y = 240 + y := bits_join .i64 63 (by decide) wraps_i64 3 240 y (by omega) (by omega) (by omega) h0 (by omega) (by omega)
theorem r_or128 (y : Int) (h0 : 0 ≤ y) (h1 : y < 64) : bits .or .i64 128 y = 128 + y := bits_join .i64 63 (by decide) wraps_i64 6 128 y (by omega) (by omega) (by omega) h0 (by omega) (by omega)
theorem r_and63 (x : Int) (h0 : 0 ≤ x) (h1 : x < 2 ^ 63) : bits .and .i64 x 63 = x % 64 := bits_mask .i64 63 (by decide) wraps_i64 6 (by decide) x h0 h1
theorem r_tail (x : Nat) (hx : x < 2 ^ 40) : bits .or .i64 128 (bits .and .i64 (x : Int) 63) = ((128 + x % 64 : Nat) : Int) := by
  rw [r_and63 _ (by omega) (by omega), r_or128 _ (by omega) (by omega)]
  omega
set_option maxHeartbeats 4000000 in
theorem rput_any (r : Int) (w : World) : Calls Tryz.prog 72 #[.int .i64 r] w (UPutPost r w) := by
  have C := rulen_any r
  by_cases hs : Ut.isSc r
  · obtain ⟨n, rfl⟩ : ∃ n : Nat, r = (n : Int) := Ut.sc_nat hs
    have e : Ut.lenI (n : Int) = ((Ut.enc n).length : Int) := by unfold Ut.lenI; rw [if_pos hs]; rfl
    have ev : putV (n : Int) = .tuple #[.string (Ut.mk (Ut.enc n)), .bool true] := by unfold putV; rw [if_pos hs]; rfl
    have hby := Ut.enc_bytes hs
    rw [e] at C
    unfold UPutPost
    rw [ev]
    have hr := hs.2.1
    clear e ev hs
    by_cases q1 : n < 128
    · have e1 : Ut.enc n = [n] := by unfold Ut.enc; rw [if_pos q1]
      rw [e1] at C ⊢
      have C1 : ∀ w : World, Calls Tryz.prog 89 #[.int .i64 (n : Int)] w (fun e w' => e = .returned (.int .i64 1) ∧ w = w') := C
      have hw1 : IntKind.u8.wrap (n : Int) = (n : Int) := by rw [IntKind.wrap_u8]; omega
      have hone := fun w => one_cell w n (by omega)
      clear C e1 hby
      go_enter Tryz.func72, Tryz.ntmps72
      go_wp2_with (go_at_call 89; refine (C1 _).mono ?_; rintro e w1 ⟨rfl, rfl⟩)
      go_ret2
      exact ⟨rfl, bbox (Below.refl _ _) _⟩
    · by_cases q2 : n < 2048
      · have e1 := Ut.enc_two q1 q2
        rw [e1] at C hby ⊢
        have C1 : ∀ w : World, Calls Tryz.prog 89 #[.int .i64 (n : Int)] w (fun e w' => e = .returned (.int .i64 2) ∧ w = w') := C
        have hcv := fun w => cells_conv w _ hby
        have t1 : bits .or .i64 192 ((n : Int) / 64) = ((192 + n / 64 : Nat) : Int) := by rw [r_or192 _ (by omega) (by omega)]; omega
        have t2 := r_tail n (by omega)
        have b1 : 192 + n / 64 < 256 := by omega
        have b2 : 128 + n % 64 < 256 := by omega
        clear C e1 hby
        generalize 192 + n / 64 = x1 at *
        generalize 128 + n % 64 = x2 at *
        have u1 : IntKind.u8.wrap (x1 : Int) = (x1 : Int) := by rw [IntKind.wrap_u8]; omega
        have u2 : IntKind.u8.wrap (x2 : Int) = (x2 : Int) := by rw [IntKind.wrap_u8]; omega
        have hcv2 : ∀ w : World, (convert 29 9 (.slice (some ⟨w.heap.size, 0, none⟩) 2 2)).run Tryz.prog (w.alloc (.cells #[.int .u8 (x1 : Int), .int .u8 (x2 : Int)] 5)) = .ok (.string (Ut.mk [x1, x2])) (w.alloc (.cells #[.int .u8 (x1 : Int), .int .u8 (x2 : Int)] 5)) := hcv
        clear hcv
        go_enter Tryz.func72, Tryz.ntmps72
        go_wp2_with (go_at_call 89; refine (C1 _).mono ?_; rintro e w1 ⟨rfl, rfl⟩)
        go_ret2
        exact ⟨rfl, bbox (Below.refl _ _) _⟩
      · by_cases q3 : n < 65536
        · have e1 := Ut.enc_three q1 q2 q3
          rw [e1] at C hby ⊢
          have C1 : ∀ w : World, Calls Tryz.prog 89 #[.int .i64 (n : Int)] w (fun e w' => e = .returned (.int .i64 3) ∧ w = w') := C
          have hcv := fun w => cells_conv w _ hby
          have t1 : bits .or .i64 224 ((n : Int) / 4096) = ((224 + n / 4096 : Nat) : Int) := by rw [r_or224 _ (by omega) (by omega)]; omega
          have t2 : bits .or .i64 128 (bits .and .i64 ((n : Int) / 64) 63) = ((128 + n / 64 % 64 : Nat) : Int) := r_tail (n / 64) (by omega)
          have t3 := r_tail n (by omega)
          have b1 : 224 + n / 4096 < 256 := by omega
          have b2 : 128 + n / 64 % 64 < 256 := by omega
          have b3 : 128 + n % 64 < 256 := by omega
          clear C e1 hby
          generalize 224 + n / 4096 = x1 at *
          generalize 128 + n / 64 % 64 = x2 at *
          generalize 128 + n % 64 = x3 at *
          have u1 : IntKind.u8.wrap (x1 : Int) = (x1 : Int) := by rw [IntKind.wrap_u8]; omega
          have u2 : IntKind.u8.wrap (x2 : Int) = (x2 : Int) := by rw [IntKind.wrap_u8]; omega
          have u3 : IntKind.u8.wrap (x3 : Int) = (x3 : Int) := by rw [IntKind.wrap_u8]; omega
          have hcv2 : ∀ w : World, (convert 29 9 (.slice (some ⟨w.heap.size, 0, none⟩) 3 3)).run Tryz.prog (w.alloc (.cells #[.int .u8 (x1 : Int), .int .u8 (x2 : Int), .int .u8 (x3 : Int)] 5)) = .ok (.string (Ut.mk [x1, x2, x3])) (w.alloc (.cells #[.int .u8 (x1 : Int), .int .u8 (x2 : Int), .int .u8 (x3 : Int)] 5)) := hcv
          clear hcv
          go_enter Tryz.func72, Tryz.ntmps72
          go_wp2_with (go_at_call 89; refine (C1 _).mono ?_; rintro e w1 ⟨rfl, rfl⟩)
          go_ret2
          exact ⟨rfl, bbox (Below.refl _ _) _⟩
        · have e1 := Ut.enc_four q1 q2 q3
          rw [e1] at C hby ⊢
          have C1 : ∀ w : World, Calls Tryz.prog 89 #[.int .i64 (n : Int)] w (fun e w' => e = .returned (.int .i64 4) ∧ w = w') := C
          have hcv := fun w => cells_conv w _ hby
          have t1 : bits .or .i64 240 ((n : Int) / 262144) = ((240 + n / 262144 : Nat) : Int) := by rw [r_or240 _ (by omega) (by omega)]; omega
          have t2 : bits .or .i64 128 (bits .and .i64 ((n : Int) / 4096) 63) = ((128 + n / 4096 % 64 : Nat) : Int) := r_tail (n / 4096) (by omega)
          have t3 : bits .or .i64 128 (bits .and .i64 ((n : Int) / 64) 63) = ((128 + n / 64 % 64 : Nat) : Int) := r_tail (n / 64) (by omega)
          have t4 := r_tail n (by omega)
          have b1 : 240 + n / 262144 < 256 := by omega
          have b2 : 128 + n / 4096 % 64 < 256 := by omega
          have b3 : 128 + n / 64 % 64 < 256 := by omega
          have b4 : 128 + n % 64 < 256 := by omega
          clear C e1 hby
          generalize 240 + n / 262144 = x1 at *
          generalize 128 + n / 4096 % 64 = x2 at *
          generalize 128 + n / 64 % 64 = x3 at *
          generalize 128 + n % 64 = x4 at *
          have u1 : IntKind.u8.wrap (x1 : Int) = (x1 : Int) := by rw [IntKind.wrap_u8]; omega
          have u2 : IntKind.u8.wrap (x2 : Int) = (x2 : Int) := by rw [IntKind.wrap_u8]; omega
          have u3 : IntKind.u8.wrap (x3 : Int) = (x3 : Int) := by rw [IntKind.wrap_u8]; omega
          have u4 : IntKind.u8.wrap (x4 : Int) = (x4 : Int) := by rw [IntKind.wrap_u8]; omega
          have hcv2 : ∀ w : World, (convert 29 9 (.slice (some ⟨w.heap.size, 0, none⟩) 4 4)).run Tryz.prog (w.alloc (.cells #[.int .u8 (x1 : Int), .int .u8 (x2 : Int), .int .u8 (x3 : Int), .int .u8 (x4 : Int)] 5)) = .ok (.string (Ut.mk [x1, x2, x3, x4])) (w.alloc (.cells #[.int .u8 (x1 : Int), .int .u8 (x2 : Int), .int .u8 (x3 : Int), .int .u8 (x4 : Int)] 5)) := hcv
          clear hcv
          go_enter Tryz.func72, Tryz.ntmps72
          go_wp2_with (go_at_call 89; refine (C1 _).mono ?_; rintro e w1 ⟨rfl, rfl⟩)
          go_ret2
          exact ⟨rfl, bbox (Below.refl _ _) _⟩
  · have e : Ut.lenI r = 0 := by unfold Ut.lenI; rw [if_neg hs]
    have ev : putV r = .tuple #[.string ⟨#[]⟩, .bool false] := by unfold putV; rw [if_neg hs]
    rw [e] at C
    unfold UPutPost
    rw [ev]
    clear e ev hs
    go_enter Tryz.func72, Tryz.ntmps72
    go_wp2_with (go_at_call 89; refine (C _).mono ?_; rintro e w1 ⟨rfl, rfl⟩)
    go_ret2
    exact ⟨rfl, Below.refl _ _⟩
set_option maxHeartbeats 4000000 in
theorem rtext_any (p : Option Addr) (c : Nat) (L : List Int) (w : World) (hrp : RowP w p c L) (hL : L.length ≤ 100000) (hA : Ut.AllSc L) :
    Calls Tryz.prog 52 #[.slice p L.length c] w fun e w' => e = .returned (.tuple #[.string (Ut.mk (Ut.text L)), .bool true]) ∧ Below w.heap.size w w' := by
  have C := rput_any
  obtain ⟨g, o, hgo⟩ := rowP_at hrp 0
  have hcell : ∀ j (h : j < L.length), p = some ⟨g, o, none⟩ ∧ w.cell? ⟨g, o + j, none⟩ = some (.int .i64 L[j]) ∧ g < w.heap.size := fun j h => by
    rcases hgo with ⟨e, _⟩ | ⟨e, hI, hl⟩
    · subst e; exact absurd h (Nat.not_lt_zero _)
    · exact ⟨e, hI.2 j _ (List.getElem?_eq_getElem h), hl⟩
  have hlc := hrp.1
  have HC := Lib.hid hcell
  have HA := Lib.hid hA
  obtain ⟨n, hn⟩ : ∃ n, L.length = n := ⟨_, rfl⟩
  rw [hn] at hlc hL ⊢
  have HN := Lib.hid hn
  obtain ⟨i0, hi, hz0, hz1, hz2⟩ := info_parts infoU
  clear hcell hgo hrp hA hn
  go_enter Tryz.func52, Tryz.ntmps52
  go_wp2_with fail
  go_loopw [4, 5] (fun v k wr => ∃ j : Nat, j ≤ n ∧ k = .int .i64 (j : Int) ∧ Hid (OB w.heap.size v (Ut.mk (Ut.text (L.take j))) w wr)) (fun _ k _ => n - (intOf k).toNat)
  case atStart => exact ⟨0, Nat.zero_le _, rfl, Lib.hid OB.nil⟩
  case round =>
    obtain ⟨j, hj, rfl, HO⟩ := hrel
    by_cases hlt : j < n
    · have hjl : j < L.length := by rw [HN.out]; exact hlt
      obtain ⟨hp, hc, hg⟩ := HC.out j hjl
      have hc2 := (HO.out.2.1.cell (p := ⟨g, o + j, none⟩) hg).trans hc
      have htk := text_take hjl
      have hsc := HA.out _ (List.getElem_mem hjl)
      have hlen := (Ut.text_len (L.take j)).2
      rw [List.length_take, HN.out] at hlen
      have hv : putV L[j] = .tuple #[.string (Ut.mk (Ut.encI L[j])), .bool true] := by unfold putV; rw [if_pos hsc]
      have c1 := C L[j] wr
      unfold UPutPost at c1
      rw [hv] at c1
      have hsz : (Ut.mk (Ut.encI L[j])).size ≤ 4 := by rw [Ut.mk_size]; exact (Ut.enc_len _).2
      have hsz2 : (Ut.mk (Ut.text (L.take j))).size ≤ 400000 := by rw [Ut.mk_size]; omega
      have HT := Lib.hid htk
      have ji : (j : Int) < (n : Int) := by omega
      have j0 : (0 : Int) ≤ (j : Int) := by omega
      clear hc hv htk hsc hlen C
      subst hp
      generalize L[j] = x at *
      generalize Ut.mk (Ut.encI x) = t at *
      generalize hs : Ut.mk (Ut.text (L.take j)) = s at *
      obtain ⟨pv, cv, rfl⟩ := HO.out.shape
      go_wp2_with (first | (go_at_call 72; refine c1.mono ?_; rintro e w1 ⟨rfl, hb1⟩; have hO1 := HO.out.below hb1; have HO1 := Lib.hid hO1; clear hO1 hb1 c1 hc2) | (at_builtin; refine Lib.wpList_append_text rfl _ _ 29 9 rfl w.heap.size 5 i0 Tryz.underlying29 Tryz.underlying9 hi hz0 hz1 hz2 (.slice pv s.size cv) s.size (Lib.strCells s) rfl w HO1.out t rfl (by omega) ?_; intro v' w2 hown; have HO2 := Lib.hid (OB.app hown); clear hown))
      go_roundw
      case rel => exact ⟨j + 1, by omega, by go_num, by rw [HT.out]; exact HO2⟩
      case measure => simp [intOf]; omega
    · obtain rfl : j = n := by omega
      have hv := HO.out.conv
      have hb := HO.out.2.1
      rw [← HN.out, List.take_length] at hv
      clear HO HC HA
      go_wp2_with fail
      go_ret2
      exact ⟨rfl, hb⟩
end Go.Proofs.YthepfbkbfkhcaaaGreat
