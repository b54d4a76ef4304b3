/- The walks of utf8: what stands at a byte. The walks of utf8: what stands at a byte of a text. -/
import Derived.Test.YthepfbkbfkhcaaaGreatUt
import Derived.Test.YthepfbkbfkhcaaaGreatSm
import Derived.Test.YthepfbkbfkhcaaaGreatMap
import Derived.Laws.BitsLemmas
import Derived.Laws.IdiomStrings
import Derived.WalkMore
namespace Go.Proofs.YthepfbkbfkhcaaaGreat
open Go.RowKit
open Go
set_option linter.unusedVariables false
def folV : Option (Nat × Nat × Nat × Nat) → Value
  | some (k, r, lo, hi) => .tuple #[.int .i64 (k : Int), .int .i64 (r : Int), .int .u8 (lo : Int), .int .u8 (hi : Int)]
  | none => .tuple #[.int .i64 (-1), .int .i64 0, .int .u8 128, .int .u8 191]
def FolPost (o : Option (Nat × Nat × Nat × Nat)) (w : World) (e : Ending) (w' : World) : Prop := e = .returned (folV o) ∧ w = w'
theorem wraps_i64 (n : Int) (h0 : 0 ≤ n) (h1 : n < 2 ^ 63) : IntKind.i64.wrap n = n := by rw [IntKind.wrap_i64]; omega
theorem i64_mask (i m : Nat) (hi : i ≤ 63) (hm : (m : Int) = 2 ^ i - 1) (x : Int) (h0 : 0 ≤ x) (h1 : x < 2 ^ 63) : bits .and .i64 x (m : Int) = x % (2 ^ i : Int) := by
  rw [hm]; exact bits_mask .i64 63 (by decide) wraps_i64 i hi x h0 h1
theorem i64_and31 (x : Int) (h0 : 0 ≤ x) (h1 : x < 256) : bits .and .i64 x 31 = x % 32 := bits_mask .i64 63 (by decide) wraps_i64 5 (by decide) x h0 (by omega)
theorem i64_and15 (x : Int) (h0 : 0 ≤ x) (h1 : x < 256) : bits .and .i64 x 15 = x % 16 := bits_mask .i64 63 (by decide) wraps_i64 4 (by decide) x h0 (by omega)
theorem i64_and7 (x : Int) (h0 : 0 ≤ x) (h1 : x < 256) : bits .and .i64 x 7 = x % 8 := bits_mask .i64 63 (by decide) wraps_i64 3 (by decide) x h0 (by omega)
set_option maxHeartbeats 4000000 in
theorem follow_any (c : Nat) (hc : c < 256) (w : World) : Calls Tryz.prog 93 #[.int .u8 (c : Int)] w (FolPost (Ut.lead c) w) := by
  by_cases q1 : c < 128
  · have e : Ut.lead c = some (0, c, 128, 191) := by unfold Ut.lead; rw [if_pos q1]
    rw [e]
    have i1 : (c : Int) < 128 := by omega
    clear e
    go_enter Tryz.func93, Tryz.ntmps93
    go_wp2_with fail
    exact bodyPost_ret (v := folV (some (0, c, 128, 191))) (by simp [results, folV, Tryz.f93, go_sem]) rfl ⟨rfl, rfl⟩
  · have i1 : ¬ (c : Int) < 128 := by omega
    by_cases q2 : c < 194
    · have e : Ut.lead c = none := by unfold Ut.lead; rw [if_neg q1, if_pos (Or.inl q2)]
      rw [e]
      have i2 : (c : Int) < 194 := by omega
      clear e
      go_enter Tryz.func93, Tryz.ntmps93
      go_wp2_with fail
      exact bodyPost_ret (v := folV none) (by simp [results, folV, Tryz.f93, go_sem]) rfl ⟨rfl, rfl⟩
    · have i2 : ¬ (c : Int) < 194 := by omega
      by_cases q3 : 244 < c
      · have e : Ut.lead c = none := by unfold Ut.lead; rw [if_neg q1, if_pos (Or.inr q3)]
        rw [e]
        have i3 : (244 : Int) < (c : Int) := by omega
        clear e
        go_enter Tryz.func93, Tryz.ntmps93
        go_wp2_with fail
        exact bodyPost_ret (v := folV none) (by simp [results, folV, Tryz.f93, go_sem]) rfl ⟨rfl, rfl⟩
      · have i3 : ¬ (244 : Int) < (c : Int) := by omega
        by_cases q4 : c < 224
        · have e : Ut.lead c = some (1, c % 32, 128, 191) := by unfold Ut.lead; rw [if_neg q1, if_neg (by omega), if_pos q4]
          rw [e]
          have i4 : (c : Int) < 224 := by omega
          clear e
          have i8 := i64_and31 (c : Int) (by omega) (by omega)
          go_enter Tryz.func93, Tryz.ntmps93
          go_wp2_with fail
          exact bodyPost_ret (v := folV (some (1, c % 32, 128, 191))) (by simp [results, folV, Tryz.f93, go_sem]) rfl ⟨rfl, rfl⟩
        · have i4 : ¬ (c : Int) < 224 := by omega
          by_cases q5 : c < 240
          · have i5 : (c : Int) < 240 := by omega
            by_cases q6 : c = 224
            · subst q6
              rw [show Ut.lead 224 = some (2, 0, 160, 191) from rfl]
              clear i1 i2 i3 i4 i5
              have i8 : bits .and .i64 224 15 = 0 := by rw [i64_and15 224 (by omega) (by omega)]; rfl
              go_enter Tryz.func93, Tryz.ntmps93
              go_wp2_with fail
              exact bodyPost_ret (v := folV (some (2, 0, 160, 191))) (by simp [results, folV, Tryz.f93, go_sem, i8]) rfl ⟨rfl, rfl⟩
            · by_cases q7 : c = 237
              · subst q7
                rw [show Ut.lead 237 = some (2, 13, 128, 159) from rfl]
                clear i1 i2 i3 i4 i5
                have i8 : bits .and .i64 237 15 = 13 := by rw [i64_and15 237 (by omega) (by omega)]; rfl
                go_enter Tryz.func93, Tryz.ntmps93
                go_wp2_with fail
                exact bodyPost_ret (v := folV (some (2, 13, 128, 159))) (by simp [results, folV, Tryz.f93, go_sem, i8]) rfl ⟨rfl, rfl⟩
              · have e : Ut.lead c = some (2, c % 16, 128, 191) := by unfold Ut.lead; rw [if_neg q1, if_neg (by omega), if_neg q4, if_pos q5, if_neg q6, if_neg q7]
                rw [e]
                have i6 : ((c : Int) == 224) = false := by simp; omega
                have i7 : ((c : Int) == 237) = false := by simp; omega
                clear e
                have i8 := i64_and15 (c : Int) (by omega) (by omega)
                go_enter Tryz.func93, Tryz.ntmps93
                go_wp2_with fail
                exact bodyPost_ret (v := folV (some (2, c % 16, 128, 191))) (by simp [results, folV, Tryz.f93, go_sem]) rfl ⟨rfl, rfl⟩
          · have i5 : ¬ (c : Int) < 240 := by omega
            by_cases q6 : c = 240
            · subst q6
              rw [show Ut.lead 240 = some (3, 0, 144, 191) from rfl]
              clear i1 i2 i3 i4 i5
              have i8 : bits .and .i64 240 7 = 0 := by rw [i64_and7 240 (by omega) (by omega)]; rfl
              go_enter Tryz.func93, Tryz.ntmps93
              go_wp2_with fail
              exact bodyPost_ret (v := folV (some (3, 0, 144, 191))) (by simp [results, folV, Tryz.f93, go_sem, i8]) rfl ⟨rfl, rfl⟩
            · by_cases q7 : c = 244
              · subst q7
                rw [show Ut.lead 244 = some (3, 4, 128, 143) from rfl]
                clear i1 i2 i3 i4 i5
                have i8 : bits .and .i64 244 7 = 4 := by rw [i64_and7 244 (by omega) (by omega)]; rfl
                go_enter Tryz.func93, Tryz.ntmps93
                go_wp2_with fail
                exact bodyPost_ret (v := folV (some (3, 4, 128, 143))) (by simp [results, folV, Tryz.f93, go_sem, i8]) rfl ⟨rfl, rfl⟩
              · have e : Ut.lead c = some (3, c % 8, 128, 191) := by unfold Ut.lead; rw [if_neg q1, if_neg (by omega), if_neg q4, if_neg q5, if_neg q6, if_neg q7]
                rw [e]
                have i6 : ((c : Int) == 240) = false := by simp; omega
                have i7 : ((c : Int) == 244) = false := by simp; omega
                clear e
                have i8 := i64_and7 (c : Int) (by omega) (by omega)
                go_enter Tryz.func93, Tryz.ntmps93
                go_wp2_with fail
                exact bodyPost_ret (v := folV (some (3, c % 8, 128, 191))) (by simp [results, folV, Tryz.f93, go_sem]) rfl ⟨rfl, rfl⟩
end Go.Proofs.YthepfbkbfkhcaaaGreat
namespace Ut
/-- A text's bytes as numbers. -/
def bsL (s : ByteArray) : List Nat := s.data.toList.map UInt8.toNat
theorem bsL_len (s : ByteArray) : (bsL s).length = s.size := by unfold bsL; simp
theorem bsL_get (s : ByteArray) (i : Nat) (h : i < s.size) : (bsL s)[i]? = some (Sm.B s i) := by
  have h' : i < s.data.size := h
  unfold bsL Sm.B
  rw [List.getElem?_map, Array.getElem?_toList, Array.getElem?_eq_getElem h']
  rfl
theorem bsL_drop (s : ByteArray) (i : Nat) (h : i < s.size) : (bsL s).drop i = Sm.B s i :: (bsL s).drop (i + 1) := by
  have h1 : i < (bsL s).length := by rw [bsL_len]; exact h
  rw [List.drop_eq_getElem_cons h1]
  congr 1
  have := bsL_get s i h
  rw [List.getElem?_eq_getElem h1] at this
  exact Option.some.inj this
theorem bsL_lt (s : ByteArray) : ∀ b ∈ bsL s, b < 256 := by
  intro b hb
  unfold bsL at hb
  obtain ⟨x, _, rfl⟩ := List.mem_map.1 hb
  exact UInt8.toNat_lt x
theorem bsL_inj {s t : ByteArray} (h : bsL s = bsL t) : s = t := by
  apply ByteArray.ext
  apply Array.toList_inj.1
  unfold bsL at h
  exact List.map_inj_right (fun a b e => UInt8.toNat_inj.1 e) |>.1 h
def bd (k r : Nat) : Prop := k = 0 ∧ r < 16777216 ∨ k = 1 ∧ r < 262144 ∨ k = 2 ∧ r < 4096 ∨ k = 3 ∧ r < 64
theorem bd_step {k r c : Nat} (h : bd (k + 1) r) : bd k (r * 64 + c % 64) := by
  unfold bd at *
  omega
theorem bd_lead {c k r lo hi : Nat} (h : lead c = some (k, r, lo, hi)) : bd k r ∧ lo < 256 ∧ hi < 256 ∧ k ≤ 3 := by
  unfold lead at h
  unfold bd
  repeat' split at h
  all_goals first | (cases h; done) | skip
  all_goals
    injection h with h
    injection h with h1 h
    injection h with h2 h
    injection h with h3 h4
    omega
end Ut
namespace Go.Proofs.YthepfbkbfkhcaaaGreat
open Go.RowKit
open Go
set_option linter.unusedVariables false
theorem i64_or6 (x y : Int) (hx0 : 0 ≤ x) (hx1 : x < 1000000000000) (h0 : 0 ≤ y) (h1 : y < 64) : bits .or .i64 (x * 64) y = x * 64 + y :=
  bits_join .i64 63 (by decide) wraps_i64 6 (x * 64) y (by omega) (by omega) (by omega) h0 (by omega) (by omega)
def pieceV (p : Int × Nat) : Value := .tuple #[.int .i64 p.1, .int .i64 (p.2 : Int)]
def PiecePost (p : Int × Nat) (w : World) (e : Ending) (w' : World) : Prop := e = .returned (pieceV p) ∧ w = w'
set_option maxHeartbeats 4000000 in
theorem piece_any (s : ByteArray) (hs : s.size ≤ 1000000) (a : Nat) (ha : a < s.size) (w : World) : Calls Tryz.prog 81 #[.string s, .int .i64 (a : Int)] w (PiecePost (Ut.piece ((Ut.bsL s).drop a)) w) := by
  have C := follow_any
  have hidx : ((s[a]'ha).toNat : Int) = (Sm.B s a : Int) := by rw [Sm.B_at s a ha]
  have hc := Sm.B_lt s a
  have hp : Ut.piece ((Ut.bsL s).drop a) = (match Ut.lead (Sm.B s a) with | none => (-1, 1) | some (k, r, lo, hi) => Ut.cont k r lo hi 1 ((Ut.bsL s).drop (a + 1))) := by rw [Ut.bsL_drop s a ha]; rfl
  rw [hp]
  clear hp
  generalize Sm.B s a = c at *
  obtain ⟨o, ho⟩ : ∃ o, Ut.lead c = o := ⟨_, rfl⟩
  have HO := Lib.hid ho
  rw [ho]
  have D := fun w => C c hc w
  clear C
  rw [ho] at D
  clear ho
  have ai : (a : Int) < (s.size : Int) := by omega
  cases o with
  | none =>
    go_enter Tryz.func81, Tryz.ntmps81
    go_wp2
    go_step3
    go_wp2_with (go_at_call 93; refine (D _).mono ?_; rintro e w1 ⟨rfl, rfl⟩; unfold folV)
    rw [Exit.noGoto_ret]
    exact bodyPost_ret (v := pieceV (-1, 1)) (by simp [results, pieceV, Tryz.f81, go_sem]) rfl ⟨rfl, rfl⟩
  | some q =>
    obtain ⟨k, r, lo, hi⟩ := q
    obtain ⟨hb, hlo, hhi, hk⟩ := Ut.bd_lead HO.out
    clear HO
    show Calls _ _ _ _ (PiecePost (Ut.cont k r lo hi 1 ((Ut.bsL s).drop (a + 1))) w)
    obtain ⟨target, ht⟩ : ∃ t, Ut.cont k r lo hi 1 ((Ut.bsL s).drop (a + 1)) = t := ⟨_, rfl⟩
    rw [ht]
    have HT := Lib.hid ht
    have HB := Lib.hid hb
    clear ht hb
    go_enter Tryz.func81, Tryz.ntmps81
    have i0 : ¬ ((k : Int) < 0) := by omega
    go_wp2
    go_step3
    go_wp2_with (go_at_call 93; refine (D _).mono ?_; rintro e w1 ⟨rfl, rfl⟩; unfold folV)
    go_step3
    go_wp2_with fail
    go_loop [4, 5, 7, 8, 9] (fun rv nv lv hv _ => ∃ j m x l h : Nat, j + m = k + 1 ∧ 1 ≤ m ∧ rv = .int .i64 (x : Int) ∧ nv = .int .i64 (m : Int) ∧ lv = .int .u8 (l : Int) ∧ hv = .int .u8 (h : Int) ∧ Hid (Ut.bd j x) ∧ l < 256 ∧ h < 256 ∧ Hid (Ut.cont j x l h m ((Ut.bsL s).drop (a + m)) = target)) (fun _ nv _ _ _ => k + 1 - (intOf nv).toNat)
    case atStart => exact ⟨k, 1, r, lo, hi, by omega, by omega, rfl, rfl, rfl, rfl, HB, hlo, hhi, HT⟩
    case round =>
      obtain ⟨j, m, x, l, h, hjm, hm1, rfl, rfl, rfl, rfl, HB2, hl2, hh2, HT2⟩ := hrel
      clear HT HB
      have hw1 : IntKind.i64.wrap ((a : Int) + (m : Int)) = (a : Int) + (m : Int) := by rw [IntKind.wrap_i64]; omega
      cases j with
      | zero =>
        have i1 : ¬ ((m : Int) ≤ (k : Int)) := by omega
        have he : target = ((x : Int), m) := HT2.out.symm
        have hx : x < 16777216 := by have := HB2.out; unfold Ut.bd at this; omega
        go_wp2_with fail
        try rw [Exit.noGoto_ret]
        exact bodyPost_ret (v := pieceV ((x : Int), m)) (by simp [results, pieceV, Tryz.f81, go_sem]) rfl ⟨rfl, rfl⟩
      | succ j =>
        have i1 : (m : Int) ≤ (k : Int) := by omega
        by_cases hend : s.size ≤ a + m
        · have i2 : (s.size : Int) ≤ (a : Int) + (m : Int) := by omega
          have he : target = (-1, m) := by
            rw [← HT2.out, List.drop_eq_nil_of_le (by rw [Ut.bsL_len]; exact hend)]
            rfl
          go_wp2_with fail
          try rw [Exit.noGoto_ret]
          exact bodyPost_ret (v := pieceV (-1, m)) (by simp [results, pieceV, Tryz.f81, go_sem]) rfl ⟨rfl, rfl⟩
        · have hlt : a + m < s.size := by omega
          have i2 : (a : Int) + (m : Int) < (s.size : Int) := by omega
          have hidx2 : ((s[a + m]'hlt).toNat : Int) = (Sm.B s (a + m) : Int) := by rw [Sm.B_at s (a + m) hlt]
          have hnat : ((a : Int) + (m : Int)).toNat = a + m := by omega
          have hd := Ut.bsL_drop s (a + m) hlt
          have hc2 := Sm.B_lt s (a + m)
          generalize Sm.B s (a + m) = d at *
          have HD := Lib.hid hd
          clear hd
          by_cases q1 : d < l
          · have i3 : (d : Int) < (l : Int) := by omega
            have he : target = (-1, m) := by
              rw [← HT2.out, HD.out]
              show (if l ≤ d ∧ d ≤ h then _ else _) = _
              rw [if_neg (by omega)]
            go_wp2_with fail
            try rw [Exit.noGoto_ret]
            exact bodyPost_ret (v := pieceV (-1, m)) (by simp [results, pieceV, Tryz.f81, go_sem]) rfl ⟨rfl, rfl⟩
          · by_cases q2 : h < d
            · have i3 : (h : Int) < (d : Int) := by omega
              have he : target = (-1, m) := by
                rw [← HT2.out, HD.out]
                show (if l ≤ d ∧ d ≤ h then _ else _) = _
                rw [if_neg (by omega)]
              go_wp2_with fail
              try rw [Exit.noGoto_ret]
              exact bodyPost_ret (v := pieceV (-1, m)) (by simp [results, pieceV, Tryz.f81, go_sem]) rfl ⟨rfl, rfl⟩
            · have i3 : ¬ (d : Int) < (l : Int) := by omega
              have i4 : ¬ (h : Int) < (d : Int) := by omega
              have i5 := u8_and63 (x := (d : Int)) (by omega) (by omega)
              have hx : x < 262144 := by have := HB2.out; unfold Ut.bd at this; omega
              have i6 := i64_or6 (x : Int) ((d : Int) % 64) (by omega) (by omega) (by omega) (by omega)
              have HB3 : Hid (Ut.bd j (x * 64 + d % 64)) := Lib.hid (Ut.bd_step HB2.out)
              have HT3 : Hid (Ut.cont j (x * 64 + d % 64) 128 191 (m + 1) ((Ut.bsL s).drop (a + (m + 1))) = target) := by
                apply Lib.hid
                rw [← HT2.out, HD.out, Ut.cont_one (by omega) (by omega)]
                rfl
              go_wp2_with fail
              go_round
              case rel => exact ⟨j, m + 1, x * 64 + d % 64, 128, 191, by omega, by omega, by go_num, by go_num, rfl, rfl, HB3, by omega, by omega, HT3⟩
              case measure => simp [intOf]; omega
end Go.Proofs.YthepfbkbfkhcaaaGreat
