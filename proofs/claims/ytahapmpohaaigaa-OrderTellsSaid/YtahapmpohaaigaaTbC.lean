/- The walks of the tables' flip, doubles, table. -/
import Derived.Test.YtahapmpohaaigaaTbB
namespace Go.Proofs.Ytahapmpohaaigaa
open Go.RowKit
open Go.Maps (Keyed int_keyed keyOf_int_mk keyOf_int_inv)
open Go
set_option linter.unusedVariables false
set_option maxRecDepth 100000
theorem okP_pair {a b : Int} (h : okP (pairV a b) = true) : (Lit.int .i64 a).wf = true ∧ (Lit.int .i64 b).wf = true := by
  have : ((Lit.int .i64 a).wf && (Lit.int .i64 b).wf) = true := h
  rw [Bool.and_eq_true] at this
  exact this
theorem okI_inv {v : Value} (h : okI v = true) : ∃ a : Int, v = .int .i64 a := by
  unfold okI at h
  split at h
  · exact ⟨_, rfl⟩
  · cases h
theorem okI_wf {a : Int} (h : okI (.int .i64 a) = true) : (Lit.int .i64 a).wf = true := h
theorem okP_inv {v : Value} (h : okP v = true) : ∃ p : Int × Int, v = pairV p.1 p.2 := by
  unfold okP at h
  split at h
  · rename_i cs
    split at h
    · rename_i x y e
      rw [Bool.and_eq_true] at h
      obtain ⟨a, rfl⟩ := okI_inv h.1
      obtain ⟨b, rfl⟩ := okI_inv h.2
      refine ⟨(a, b), ?_⟩
      unfold pairV
      congr 1
      apply Array.ext'
      exact e
    · cases h
  · cases h
theorem pairV_inj {a b c d : Int} (h : pairV a b = pairV c d) : a = c ∧ b = d := by
  unfold pairV at h
  simpa using h
theorem key_int {a : Int} (h : (Lit.int .i64 a).wf = true) : keyOf Try.prog 3 (.int .i64 a) = some (.int .i64 a) := keyOf_int_mk Try.underlying3 h
/-- What flip makes of a map in which no value stands twice. -/
def Flipped (f g : Value → Option Value) (left : Value → Prop) : Prop := ∀ v k, g v = some k ↔ f k = some v ∧ ¬ left k
theorem flip_step {f g : Value → Option Value} {left : Value → Prop} (hinj : ∀ k k' v, f k = some v → f k' = some v → k = k') (h : Flipped f g left) {k0 v0 : Value} (hf : f k0 = some v0) : Flipped f (updF g v0 k0) (fun z => left z ∧ z ≠ k0) := by
  intro v k
  by_cases e : v = v0
  · subst e
    rw [updF_same]
    constructor
    · intro h1
      cases h1
      exact ⟨hf, fun h2 => h2.2 rfl⟩
    · rintro ⟨h1, _⟩
      rw [hinj k k0 v h1 hf]
  · rw [updF_other e, h v k]
    constructor
    · rintro ⟨h1, h2⟩
      exact ⟨h1, fun h3 => h2 h3.1⟩
    · rintro ⟨h1, h2⟩
      refine ⟨h1, fun h3 => h2 ⟨h3, fun h4 => e ?_⟩⟩
      subst h4
      rw [hf] at h1
      cases h1
      rfl
def FlipPost (n : Nat) (f : Value → Option Value) (w : World) (e : Ending) (w' : World) : Prop := ∃ b2 g, e = .returned (.map (some b2)) ∧ w.heap.size ≤ b2 ∧ MapF Try.prog 3 okP w' b2 n g ∧ (∀ v k, g v = some k ↔ f k = some v) ∧ Below w.heap.size w w'
def DblPost (w : World) (e : Ending) (w' : World) : Prop := ∃ b g, e = .returned (.map (some b)) ∧ w.heap.size ≤ b ∧ MapF Try.prog 3 okI w' b 5 g ∧ (∀ r, g (.int .i64 r) = (Tb.dblT r).map fun a => .int .i64 a) ∧ Below w.heap.size w w'
set_option maxHeartbeats 1000000 in
theorem flip_any (b n : Nat) (f : Value → Option Value) (w : World) (hn : n ≤ 100000) (hinj : ∀ k k' v, f k = some v → f k' = some v → k = k') (hread : ∀ k v, f k = some v → ∃ kl, keyOf Try.prog 64 k = some kl)
    (hsm : ∀ k v, f k = some v → ∃ x y : Int, k = pairV x y ∧ okP k = true) (h : MapF Try.prog 64 okI w b n f) :
    Calls Try.prog 49 #[.map (some b)] w (FlipPost n f w) := by
  have hmm := @run_makeMap Try.prog
  have hbl := h.lt
  have HI := Lib.hid hinj
  have HR := Lib.hid hread
  have HS := Lib.hid hsm
  clear hinj hread hsm
  go_enter Try.func49, Try.ntmps49
  go_wp2_with (at_range; refine wpList_range_f _ rfl _ 66 rfl 64 3 kp Try.underlying66 okI b n f rfl (h.alloc _) ?_; intro w1 cnt hrg hcn hg1 hs1)
  have hz : (w.alloc (Obj.map #[] 0)).heap.size = w.heap.size + 1 := by simp
  rw [hz] at hrg hs1 ⊢
  have hB : Below w.heap.size w w1 := ((Below.refl _ _).alloc (Nat.le_refl _) _).grown hg1 (by omega) (fun k e => nomatch e)
  have hout : MapF Try.prog 3 okP w1 w.heap.size 0 (fun _ => none) := (MapF.made _ _ _ w).kept hg1 (by simp)
  go_frame
  go_loopw [4] (fun _ wr => ∃ left cnt m g, RangeF Try.prog 64 okI wr b (w.heap.size + 1) n f left cnt ∧ MapF Try.prog 3 okP wr w.heap.size m g ∧ m + cnt ≤ n ∧ Flipped f g left ∧ Below w.heap.size w wr) (fun _ wr => wr.rangeLeft b (w.heap.size + 1))
  case atStart => exact ⟨_, cnt, 0, _, hrg, hout, by omega, fun v k => ⟨(fun h => nomatch h), fun h => absurd (show f k ≠ none from by rw [h.1]; simp) h.2⟩, hB⟩
  case round =>
    clear hrg hout hB hg1 hs1 hz h
    obtain ⟨left, cnt2, m, g, hrg, hout, hcn2, hfl, hB⟩ := hrel
    have hne := hrg.ne
    have hcm : wr.rangeLeft b (w.heap.size + 1) = cnt2 := hrg.left_eq
    have HCM := Lib.hid hcm
    clear hcm
    have hrl := hrg.rlt
    have hol := hout.lt
    go_wp2_with (at_next; refine wpList_next_f _ rfl _ rfl 64 kp okI (fun p : Int × Int => Value.agg #[.int .i64 p.1, .int .i64 p.2]) (fun c : Int => Value.int .i64 c) (fun _ _ hk => pair_key hk) (fun _ hv => okI_inv hv) b (w.heap.size + 1) n f left cnt2 rfl hrg ?_ ?_)
    · intro hc0 hl0
      go_wp2
      go_ret
      refine ⟨w.heap.size, g, rfl, Nat.le_refl _, hout.mono (by omega), fun v k => ?_, hB⟩
      rw [hfl v k]
      constructor
      · exact fun h => h.1
      · intro h
        obtain ⟨kl, hk⟩ := HR.out k v h
        exact ⟨h, hl0 k kl hk⟩
    · intro x y c kl w2 cnt3 hkx hlx hok hfx hrg2 hlt hg2 hs2 hen
      have hout2 : MapF Try.prog 3 okP w2 w.heap.size m g := hout.kept hg2 (fun e => absurd (Option.some.inj e) (by omega))
      have hB2 : Below w.heap.size w w2 := hB.trans (gb_below hg2 _ (by omega) (by omega))
      have hnew := flip_step HI.out hfl hfx
      have hwf := okI_wf hok
      obtain ⟨_, _, hpe, hpo⟩ := HS.out _ _ hfx
      clear hpe hfl hB hout hrg hlx hfx
      have HN := Lib.hid hnew
      clear hnew
      go_wp2_with (at_mapUpdate; refine wpList_store_f _ rfl _ _ _ 67 rfl 3 64 ki Try.underlying67 okP w.heap.size m _ rfl (hout2.alloc _) (by unfold maxLen; omega) _ _ _ rfl rfl (key_int hwf) hpo ?_; intro w3 hout3 hturn3)
      have hg3 := hturn3.grown
      have hga := World.grownBy_alloc w2 (.cells #[.int .i64 x, .int .i64 y] 64) none
      have hrg3 := (hrg2.kept hga (by simp) (by simp)).kept hg3 (fun e => absurd (Option.some.inj e) (by omega)) (fun e => absurd (Option.some.inj e) (by omega))
      go_frame
      go_roundw
      case rel => exact ⟨_, cnt3, m + 1, _, hrg3, hout3, by omega, HN.out, (hB2.alloc (by omega) _).trans (gb_below hg3 _ (Nat.le_refl _) (by simp; omega))⟩
      case measure =>
        rw [hrg3.left_eq, HCM.out]
        omega
theorem dbl_is (r : Int) : (updF (updF (updF (updF (updF (fun _ => none) (.int .i64 832) (.int .i64 768)) (.int .i64 833) (.int .i64 769)) (.int .i64 8486) (.int .i64 937)) (.int .i64 8490) (.int .i64 75)) (.int .i64 8491) (.int .i64 197)) (.int .i64 r) = (Tb.dblT r).map fun a => .int .i64 a := by
  have e : Tb.dblT r = if r = 832 then some 768 else if r = 833 then some 769 else if r = 8486 then some 937 else if r = 8490 then some 75 else if r = 8491 then some 197 else none := by
    unfold Tb.dblT Tb.dbl
    simp only [List.find?_cons, List.find?_nil]
    repeat' split
    all_goals first | rfl | (simp_all; done) | (simp_all; omega)
  rw [e]
  unfold updF
  simp only [Value.int.injEq, true_and]
  repeat' split
  all_goals first | rfl | omega
theorem dbl_any (w : World) : Calls Try.prog 46 #[] w (DblPost w) := by
  have hmm := @run_makeMap Try.prog
  have hm := MapF.made Try.prog 3 okI w
  have hB : Below w.heap.size w (w.alloc (.map #[] 0)) := (Below.refl _ _).alloc (Nat.le_refl _) _
  have hz : w.heap.size ≤ (w.alloc (.map #[] 0)).heap.size := by simp
  go_enter Try.func46, Try.ntmps46
  go_wp2_with (refine wpList_insert_f _ rfl _ _ _ 72 rfl 3 3 ki Try.underlying72 okI w.heap.size _ _ rfl hm (by unfold maxLen; omega) _ _ _ rfl rfl (key_int (wf_small (by omega) (by omega))) (okI_small (by omega) (by omega)) ?_; clear hm; intro w2 hm hturn2; replace hB := hB.trans (gb_below hturn2.grown w.heap.size (Nat.le_refl _) hz); replace hz := Nat.le_trans hz hturn2.grown.size; clear hturn2)
  go_ret
  refine ⟨_, _, rfl, Nat.le_refl _, hm, fun r => ?_, hB⟩
  exact dbl_is r

def wideB (l : List Int) : Bool := l.all fun x => decide (0 ≤ x) && decide (x ≤ 100000)
theorem wide_at {l : List Int} (h : wideB l = true) (i : Nat) (hi : i < l.length) : 0 ≤ l[i]?.getD 0 ∧ l[i]?.getD 0 ≤ 100000 := by
  unfold wideB at h
  have := List.all_eq_true.1 h l[i] (List.getElem_mem hi)
  simp only [Bool.and_eq_true, decide_eq_true_eq] at this
  simpa [List.getElem?_eq_getElem hi] using this
noncomputable def up (p : Int × Int × Int) (f : Value → Option Value) : Value → Option Value := updF f (pairV p.1 p.2.1) (.int .i64 p.2.2)
noncomputable def FF (l : List (Int × Int × Int)) : Value → Option Value := l.foldr up fun _ => none
def rowL (m : Int) (rs ws : List Int) : Nat → List (Int × Int × Int)
  | 0 => []
  | i + 1 => (rs[i]?.getD 0, m, ws[i]?.getD 0) :: rowL m rs ws i
theorem rowF_L (l : List (Int × Int × Int)) (m : Int) (rs ws : List Int) : ∀ i, rowF (FF l) m rs ws i = FF (rowL m rs ws i ++ l)
  | 0 => rfl
  | i + 1 => by
    show updF (rowF (FF l) m rs ws i) _ _ = _
    rw [rowF_L l m rs ws i]
    rfl
theorem row_in (b n : Nat) (l : List (Int × Int × Int)) (m : Int) (s : ByteArray) (rs ws : List Int) (L : Array Value) (T : TypeId) (W : World) (hL : L = (ws.map fun x => Value.int .i64 x).toArray) (hd : decB s rs = true) (hl : rs.length = ws.length) (hls : ws.length ≤ 100)
    (hm0 : 0 ≤ m) (hm1 : m ≤ 100000) (hr : wideB rs = true) (hws : wideB ws = true) (hn : n ≤ 100000) (h : MapF Try.prog 64 okI W b n (FF l)) :
    Calls Try.prog 48 #[.map (some b), .int .i64 m, .string s, .slice (some ⟨W.heap.size, 0, none⟩) ws.length ws.length] (W.alloc (.cells L T)) fun e w' => e = .returned (.tuple #[]) ∧ MapF Try.prog 64 okI w' b (n + rs.length) (FF (rowL m rs ws rs.length ++ l)) ∧ W.grownBy w' (some b) := by
  refine (row_any b n W.heap.size (FF l) m s rs ws _ hd hl hls hm0 hm1 (wide_at hr) (wide_at hws) (fun i hi => ?_) (by simp) (by have := h.lt; omega) hn (h.alloc _)).mono ?_
  · rw [World.cell?_alloc_mark, hL]
    simp [hi]
  · rintro e w' ⟨rfl, h1, h2⟩
    rw [rowF_L] at h1
    exact ⟨rfl, h1, gb_same ((World.grownBy_alloc W _ none).but _) h2⟩
theorem FF_iff : ∀ {l : List (Int × Int × Int)}, l.Pairwise (fun p q => (p.1, p.2.1) ≠ (q.1, q.2.1)) → ∀ k v, FF l k = some v ↔ ∃ p ∈ l, k = pairV p.1 p.2.1 ∧ v = .int .i64 p.2.2
  | [], _, k, v => by simp [FF]
  | p :: l, h, k, v => by
    obtain ⟨h1, h2⟩ := List.pairwise_cons.1 h
    have ih := FF_iff h2 k v
    show updF (FF l) _ _ k = some v ↔ _
    by_cases e : k = pairV p.1 p.2.1
    · subst e
      rw [updF_same]
      constructor
      · intro e
        cases e
        exact ⟨p, List.mem_cons_self, rfl, rfl⟩
      · rintro ⟨q, hq, e1, e2⟩
        rcases List.mem_cons.1 hq with rfl | hq
        · rw [e2]
        · obtain ⟨a, b⟩ := pairV_inj e1
          exact absurd (by rw [a, b]) (h1 q hq)
    · rw [updF_other e, ih]
      constructor
      · rintro ⟨q, hq, r⟩
        exact ⟨q, List.mem_cons_of_mem _ hq, r⟩
      · rintro ⟨q, hq, e1, e2⟩
        rcases List.mem_cons.1 hq with rfl | hq
        · exact absurd e1 e
        · exact ⟨q, hq, e1, e2⟩
def apartB : List (Int × Int × Int) → Bool
  | [] => true
  | p :: l => (l.all fun q => p.1 != q.1 || p.2.1 != q.2.1) && apartB l
theorem apart_of : ∀ {l : List (Int × Int × Int)}, apartB l = true → l.Pairwise (fun p q => (p.1, p.2.1) ≠ (q.1, q.2.1))
  | [], _ => List.Pairwise.nil
  | p :: l, h => by
    unfold apartB at h
    rw [Bool.and_eq_true, List.all_eq_true] at h
    refine List.pairwise_cons.2 ⟨fun q hq e => ?_, apart_of h.2⟩
    have := h.1 q hq
    simp at e
    simp [e.1, e.2] at this
theorem tbl_apart : apartB Tb.tbl.reverse = true := by kernel_rfl
theorem FF_tbl (k v : Value) : FF Tb.tbl.reverse k = some v ↔ ∃ p ∈ Tb.tbl, k = pairV p.1 p.2.1 ∧ v = .int .i64 p.2.2 := by
  rw [FF_iff (apart_of tbl_apart)]
  simp only [List.mem_reverse]
theorem tbl_once : (Tb.tbl.all fun p => Tb.tbl.all fun q => (p.1 != q.1 || p.2.1 != q.2.1 || p == q) && (p.2.2 != q.2.2 || p == q)) = true := by kernel_rfl
theorem tbl_uniq {p q : Int × Int × Int} (hp : p ∈ Tb.tbl) (hq : q ∈ Tb.tbl) : (p.1 = q.1 → p.2.1 = q.2.1 → p = q) ∧ (p.2.2 = q.2.2 → p = q) := by
  have h := List.all_eq_true.1 (List.all_eq_true.1 tbl_once p hp) q hq
  simp only [Bool.and_eq_true, Bool.or_eq_true, bne_iff_ne, beq_iff_eq] at h
  obtain ⟨h1, h2⟩ := h
  exact ⟨fun e1 e2 => h1.resolve_left (fun k => k.elim (fun k => k e1) (fun k => k e2)), fun e => h2.resolve_left (fun k => k e)⟩
theorem tbl_small : (Tb.tbl.all fun p => decide (0 ≤ p.1 ∧ p.1 ≤ 100000 ∧ 0 ≤ p.2.1 ∧ p.2.1 ≤ 100000 ∧ 0 ≤ p.2.2 ∧ p.2.2 ≤ 100000)) = true := by kernel_rfl
theorem tbl_bd {p : Int × Int × Int} (hp : p ∈ Tb.tbl) : 0 ≤ p.1 ∧ p.1 ≤ 100000 ∧ 0 ≤ p.2.1 ∧ p.2.1 ≤ 100000 ∧ 0 ≤ p.2.2 ∧ p.2.2 ≤ 100000 := of_decide_eq_true (List.all_eq_true.1 tbl_small p hp)
theorem FF_pair (a b : Int) : FF Tb.tbl.reverse (pairV a b) = (Tb.lookP a b).map fun x => .int .i64 x := by
  rw [← Tb.tbl_whole]
  cases h : Tb.tbl.find? (fun p => p.1 == a && p.2.1 == b) with
  | none =>
    have h1 := List.find?_eq_none.1 h
    cases h2 : FF Tb.tbl.reverse (pairV a b) with
    | none => rfl
    | some v =>
      obtain ⟨p, hp, e, _⟩ := (FF_tbl _ _).1 h2
      obtain ⟨rfl, rfl⟩ := pairV_inj e
      exact absurd (by simp) (h1 p hp)
  | some p =>
    have h1 := List.mem_of_find?_eq_some h
    have h2 := List.find?_some h
    simp only [Bool.and_eq_true, beq_iff_eq] at h2
    exact (FF_tbl _ _).2 ⟨p, h1, by rw [h2.1, h2.2], rfl⟩
theorem GG_int {g : Value → Option Value} (hg : ∀ v k, g v = some k ↔ FF Tb.tbl.reverse k = some v) (r : Int) : g (.int .i64 r) = (Tb.madeT r).map fun p => pairV p.1 p.2 := by
  unfold Tb.madeT
  cases h : Tb.tbl.find? (fun p => p.2.2 == r) with
  | none =>
    have h1 := List.find?_eq_none.1 h
    cases h2 : g (.int .i64 r) with
    | none => rfl
    | some v =>
      obtain ⟨p, hp, _, e⟩ := (FF_tbl _ _).1 ((hg _ _).1 h2)
      simp at e
      exact absurd (by simp [e]) (h1 p hp)
  | some p =>
    have h1 := List.mem_of_find?_eq_some h
    have h2 := List.find?_some h
    simp only [beq_iff_eq] at h2
    exact (hg _ _).2 ((FF_tbl _ _).2 ⟨p, h1, rfl, by rw [h2]⟩)
def TablePost (w : World) (e : Ending) (w' : World) : Prop := ∃ b1 b2 f g, e = .returned (.agg #[.map (some b1), .map (some b2)]) ∧ w.heap.size ≤ b1 ∧ w.heap.size ≤ b2 ∧ MapF Try.prog 64 okI w' b1 100 f ∧ MapF Try.prog 3 okP w' b2 100 g ∧
  (∀ a b, f (pairV a b) = (Tb.lookP a b).map fun x => .int .i64 x) ∧ (∀ r, g (.int .i64 r) = (Tb.madeT r).map fun p => pairV p.1 p.2) ∧ Below w.heap.size w w'
set_option maxHeartbeats 4000000 in
theorem table_any (w : World) : Calls Try.prog 45 #[] w (TablePost w) := by
  have hmm := @run_makeMap Try.prog
  go_enter Try.func45, Try.ntmps45
  go_wp2_with fail
  have hm := MapF.made Try.prog 64 okI (w.alloc (.cells #[.map none, .map none] 69))
  have hz : (w.alloc (Obj.cells #[.map none, .map none] 69)).heap.size = w.heap.size + 1 := by simp
  rw [hz] at hm
  have hgr := gb_refl ((w.alloc (Obj.cells #[.map none, .map none] 69)).alloc (Obj.map #[] 0)) (some (w.heap.size + 1))
  have hW : Below w.heap.size w ((w.alloc (Obj.cells #[.map none, .map none] 69)).alloc (Obj.map #[] 0)) := bbox (bbox (Below.refl _ _) _) _
  have hZ : ((w.alloc (Obj.cells #[.map none, .map none] 69)).alloc (Obj.map #[] 0)).heap.size = w.heap.size + 1 + 1 := by simp
  have hc0 : ((w.alloc (Obj.cells #[.map none, .map none] 69)).alloc (Obj.map #[] 0)).heap[w.heap.size]? = some (.cells #[.map none, .map none] 69 (0, 0)) := ((MapKept.heap_alloc _ _).2 _ (by simp)).trans (MapKept.heap_alloc w _).1
  rw [← hZ]
  generalize ((w.alloc (Obj.cells #[.map none, .map none] 69)).alloc (Obj.map #[] 0)) = W0 at *
  clear hz hmm
  have hf0 : MapF Try.prog 64 okI W0 (w.heap.size + 1) 0 (FF []) := hm
  clear hm
  have hm := hf0
  clear hf0
  refine (row_in _ _ _ 768 ⟨#[65, 69, 73, 79, 85, 97, 101, 105, 111, 117]⟩ [65, 69, 73, 79, 85, 97, 101, 105, 111, 117] [192, 200, 204, 210, 217, 224, 232, 236, 242, 249] _ _ _ rfl (by kernel_rfl) rfl (by decide) (by omega) (by omega) (by kernel_rfl) (by kernel_rfl) (by decide) hm).mono ?_
  clear hm
  rintro e w1 ⟨rfl, hm, hg'⟩
  replace hgr := gb_same hgr hg'
  clear hg'
  go_wp2_with fail
  refine (row_in _ _ _ 769 ⟨#[65, 69, 73, 79, 85, 89, 97, 101, 105, 111, 117, 121, 195, 170, 195, 188]⟩ [65, 69, 73, 79, 85, 89, 97, 101, 105, 111, 117, 121, 234, 252] [193, 201, 205, 211, 218, 221, 225, 233, 237, 243, 250, 253, 7871, 472] _ _ _ rfl (by kernel_rfl) rfl (by decide) (by omega) (by omega) (by kernel_rfl) (by kernel_rfl) (by decide) hm).mono ?_
  clear hm
  rintro e w2 ⟨rfl, hm, hg'⟩
  replace hgr := gb_same hgr hg'
  clear hg'
  go_wp2_with fail
  refine (row_in _ _ _ 770 ⟨#[65, 69, 73, 79, 85, 97, 101, 105, 111, 117, 225, 186, 185]⟩ [65, 69, 73, 79, 85, 97, 101, 105, 111, 117, 7865] [194, 202, 206, 212, 219, 226, 234, 238, 244, 251, 7879] _ _ _ rfl (by kernel_rfl) rfl (by decide) (by omega) (by omega) (by kernel_rfl) (by kernel_rfl) (by decide) hm).mono ?_
  clear hm
  rintro e w3 ⟨rfl, hm, hg'⟩
  replace hgr := gb_same hgr hg'
  clear hg'
  go_wp2_with fail
  refine (row_in _ _ _ 771 ⟨#[65, 78, 79, 97, 110, 111]⟩ [65, 78, 79, 97, 110, 111] [195, 209, 213, 227, 241, 245] _ _ _ rfl (by kernel_rfl) rfl (by decide) (by omega) (by omega) (by kernel_rfl) (by kernel_rfl) (by decide) hm).mono ?_
  clear hm
  rintro e w4 ⟨rfl, hm, hg'⟩
  replace hgr := gb_same hgr hg'
  clear hg'
  go_wp2_with fail
  refine (row_in _ _ _ 772 ⟨#[195, 188]⟩ [252] [470] _ _ _ rfl (by kernel_rfl) rfl (by decide) (by omega) (by omega) (by kernel_rfl) (by kernel_rfl) (by decide) hm).mono ?_
  clear hm
  rintro e w5 ⟨rfl, hm, hg'⟩
  replace hgr := gb_same hgr hg'
  clear hg'
  go_wp2_with fail
  refine (row_in _ _ _ 774 ⟨#[208, 152, 208, 184]⟩ [1048, 1080] [1049, 1081] _ _ _ rfl (by kernel_rfl) rfl (by decide) (by omega) (by omega) (by kernel_rfl) (by kernel_rfl) (by decide) hm).mono ?_
  clear hm
  rintro e w6 ⟨rfl, hm, hg'⟩
  replace hgr := gb_same hgr hg'
  clear hg'
  go_wp2_with fail
  refine (row_in _ _ _ 776 ⟨#[65, 69, 73, 79, 85, 97, 101, 105, 111, 117, 121, 208, 149, 208, 181]⟩ [65, 69, 73, 79, 85, 97, 101, 105, 111, 117, 121, 1045, 1077] [196, 203, 207, 214, 220, 228, 235, 239, 246, 252, 255, 1025, 1105] _ _ _ rfl (by kernel_rfl) rfl (by decide) (by omega) (by omega) (by kernel_rfl) (by kernel_rfl) (by decide) hm).mono ?_
  clear hm
  rintro e w7 ⟨rfl, hm, hg'⟩
  replace hgr := gb_same hgr hg'
  clear hg'
  go_wp2_with fail
  refine (row_in _ _ _ 778 ⟨#[65, 97]⟩ [65, 97] [197, 229] _ _ _ rfl (by kernel_rfl) rfl (by decide) (by omega) (by omega) (by kernel_rfl) (by kernel_rfl) (by decide) hm).mono ?_
  clear hm
  rintro e w8 ⟨rfl, hm, hg'⟩
  replace hgr := gb_same hgr hg'
  clear hg'
  go_wp2_with fail
  refine (row_in _ _ _ 780 ⟨#[67, 83, 90, 99, 115, 122]⟩ [67, 83, 90, 99, 115, 122] [268, 352, 381, 269, 353, 382] _ _ _ rfl (by kernel_rfl) rfl (by decide) (by omega) (by omega) (by kernel_rfl) (by kernel_rfl) (by decide) hm).mono ?_
  clear hm
  rintro e w9 ⟨rfl, hm, hg'⟩
  replace hgr := gb_same hgr hg'
  clear hg'
  go_wp2_with fail
  refine (row_in _ _ _ 803 ⟨#[101]⟩ [101] [7865] _ _ _ rfl (by kernel_rfl) rfl (by decide) (by omega) (by omega) (by kernel_rfl) (by kernel_rfl) (by decide) hm).mono ?_
  clear hm
  rintro e w10 ⟨rfl, hm, hg'⟩
  replace hgr := gb_same hgr hg'
  clear hg'
  go_wp2_with fail
  refine (row_in _ _ _ 807 ⟨#[67, 99]⟩ [67, 99] [199, 231] _ _ _ rfl (by kernel_rfl) rfl (by decide) (by omega) (by omega) (by kernel_rfl) (by kernel_rfl) (by decide) hm).mono ?_
  clear hm
  rintro e w11 ⟨rfl, hm, hg'⟩
  replace hgr := gb_same hgr hg'
  clear hg'
  go_wp2_with fail
  have hm2 : MapF Try.prog 64 okI w11 (w.heap.size + 1) 100 (FF Tb.tbl.reverse) := (hm.congr fun key kl _ => congrFun (congrArg FF (show _ = Tb.tbl.reverse by kernel_rfl)) key).mono (by decide)
  clear hm
  have hm := hm2
  clear hm2
  have hb11 : w11.heap[w.heap.size]? = some (.cells #[.map none, .map none] 69 (0, 0)) := (hgr.block _ (by omega) (fun e => absurd (Option.some.inj e) (by omega))).trans hc0
  have hs11 := hgr.size
  have hB11 : Below w.heap.size w w11 := hW.trans (gb_below hgr _ (by omega) (by omega))
  refine (flip_any (w.heap.size + 1) 100 (FF Tb.tbl.reverse) w11 (by omega) (fun k k' v h1 h2 => ?_) (fun k v h1 => ?_) (fun k v h1 => ?_) hm).mono ?_
  · obtain ⟨p, hp, rfl, rfl⟩ := (FF_tbl _ _).1 h1
    obtain ⟨q, hq, rfl, e⟩ := (FF_tbl _ _).1 h2
    simp at e
    rw [(tbl_uniq hp hq).2 e]
  · obtain ⟨p, hp, rfl, rfl⟩ := (FF_tbl _ _).1 h1
    have := tbl_bd hp
    exact key_pair _ _ (wf_small (by omega) (by omega)) (wf_small (by omega) (by omega))
  · obtain ⟨p, hp, rfl, rfl⟩ := (FF_tbl _ _).1 h1
    have := tbl_bd hp
    refine ⟨_, _, rfl, ?_⟩
    show (okI _ && okI _) = true
    rw [okI_small (by omega) (by omega), okI_small (by omega) (by omega)]
    rfl
  · rintro e w12 ⟨b2, g, rfl, hb2, hmg, hg, hB12⟩
    have hm12 := hm.below hB12 hm.lt
    have hb12 : w12.heap[w.heap.size]? = some (.cells #[.map none, .map none] 69 (0, 0)) := (hB12.block _ (by omega)).trans hb11
    have hBB : Below w.heap.size w w12 := bn hB11 hB12
    have hs12 := hB12.size
    have k0 : w12.cell? ⟨w.heap.size, 0, none⟩ = some (.map none) := by simp [World.cell?, hb12]
    have k1 : w12.cell? ⟨w.heap.size, 1, none⟩ = some (.map none) := by simp [World.cell?, hb12]
    have f0 : w12.frozen? ⟨w.heap.size, 0, none⟩ = false := by simp [World.frozen?, hb12]
    have f1 : w12.frozen? ⟨w.heap.size, 1, none⟩ = false := by simp [World.frozen?, hb12]
    clear hB11 hB12 hm hgr hW hc0 hb11 hb12
    go_wp2_with fail
    refine bodyPost_ret (v := .agg #[.map (some (w.heap.size + 1)), .map (some b2)]) ?_ rfl ?_
    · have q0 := World.cell?_setCell_same (w := w12) (a := ⟨w.heap.size, 0, none⟩) (.map (some (w.heap.size + 1))) k0
      have q1 : ((w12.setCell ⟨w.heap.size, 0, none⟩ (.map (some (w.heap.size + 1)))).setCell ⟨w.heap.size, 1, none⟩ (.map (some b2))).cell? ⟨w.heap.size, 1, none⟩ = some (.map (some b2)) := by go_simp
      simp [results, Try.results45, go_sem, q0, q1]
    · refine ⟨w.heap.size + 1, b2, _, g, rfl, by omega, by omega, ?_, ?_, FF_pair, GG_int hg, ?_⟩
      · exact (hm12.setCell (by simp) _).setCell (by simp) _
      · exact (hmg.setCell (by simp; omega) _).setCell (by simp; omega) _
      · exact (hBB.setCell (Nat.le_refl _) _).setCell (Nat.le_refl _) _
end Go.Proofs.Ytahapmpohaaigaa
