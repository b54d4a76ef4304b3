/- The document's liberal taker: its plain law, its state in the heap. The walks of the taker's small steps: digit, letter, next, maybe, must, number. -/
import Derived.Test.YtbhafhbaldddiaaGreatDoorZLb
import Derived.Test.YtbhafhbaldddiaaGreatDoorZLc
namespace Lb
open Go
def yrV (r : R) : Int := if (nx r).length = 2 then (if nmV 2 2 r < 50 then 2000 + nmV 2 2 r else 1900 + nmV 2 2 r) else nmV 4 4 r
def yrR (r : R) : R := if (nx r).length = 2 then nmR 2 2 r else nmR 4 4 r
def moT (r : R) : R := if monF (nx r) = 0 then mkBad r else tl r
def dzO (sg : Int) (r : R) : R :=
  if (nx r).length = 4 then znF sg ((nmV 4 4 r) / 100) ((nmV 4 4 r) % 100) (nmR 4 4 r)
  else if mbB [58] (nmR 2 2 r) = true then znF sg (nmV 2 2 r) (nmV 2 2 (tl (nmR 2 2 r))) (nmR 2 2 (tl (nmR 2 2 r)))
  else znF sg (nmV 2 2 r) 0 (nmR 2 2 r)
def dzR (r : R) : R :=
  if r.l = [] then r
  else if nx r = [43] then dzO 1 (tl r)
  else if nx r = [45] then dzO (-1) (tl r)
  else tl (sE ((hrF (nx r)).1 * 60) (orB (!(hrF (nx r)).2) r))
def dckz (r : R) : R := if clB r = true then dzR (clR r) else r
def dsnd0 (r : R) : R := mbR [45] (moR (mbR [45] (nmD (wkR r))))
def dsnd (r : R) : R := sY (yrV (dsnd0 r)) (yrR (dsnd0 r))
def dform (k : Nat) (l : List Wd) : R := dckz (match k with | 0 => fst (start l) | 1 => dsnd (start l) | _ => thd (start l))
/-- Alike, or both bad. -/
def Eqv (a b : R) : Prop := a = b ∨ (a.bad = true ∧ b.bad = true)
theorem Eqv.res {a b : R} (h : Eqv a b) : resR a = resR b := by
  rcases h with rfl | ⟨h1, h2⟩
  · rfl
  · simp [resR, okR, h1, h2]
theorem dgW_two {lo hi : Nat} {w : Wd} (h : dgW lo hi w = true) : lo ≤ w.length ∧ w.length ≤ hi := ⟨(dgW_len h).1, (dgW_len h).2.1⟩
theorem nmR_other {lo hi : Nat} {r : R} (h : (nx r).length < lo ∨ hi < (nx r).length) : nmR lo hi r = mkBad r := by
  unfold nmR dgs
  rw [if_neg]
  intro h1
  have := dgW_two h1
  omega
theorem nm_bad {lo hi : Nat} {r : R} (h : dgs lo hi r = false) : nmR lo hi r = mkBad r ∧ nmV lo hi r = 0 := by
  unfold nmR nmV
  rw [h]
  exact ⟨rfl, rfl⟩
theorem dz_eqv (sg : Int) (r : R) : Eqv (dzO sg r) (znO sg r) := by
  unfold dzO znO
  by_cases h4 : (nx r).length = 4
  · rw [if_pos h4]
    cases hd : dgs 4 4 r with
    | true =>
      rw [if_pos rfl]
      left
      unfold nmR
      rw [if_pos hd]
    | false =>
      right
      rw [if_neg (show ¬ (false = true) by decide), (nm_bad hd).1, nmR_other (lo := 2) (hi := 2) (r := r) (Or.inr (by omega))]
      refine ⟨rfl, ?_⟩
      split
      · unfold nmR
        split <;> rfl
      · rfl
  · have hd : dgs 4 4 r = false := by
      cases hd : dgs 4 4 r with
      | false => rfl
      | true => have := dgW_two (show dgW 4 4 (nx r) = true from hd); omega
    rw [if_neg h4, hd, if_neg (show ¬ (false = true) by decide)]
    exact Or.inl rfl
theorem bad_nm {lo hi : Nat} {r : R} (h : r.bad = true) : (nmR lo hi r).bad = true := by
  unfold nmR
  split
  · exact h
  · rfl
theorem bad_mb {u : Wd} {r : R} (h : r.bad = true) : (mbR u r).bad = true := by
  unfold mbR
  split <;> exact h
theorem bad_mu {u : Wd} {r : R} (h : r.bad = true) : (muR u r).bad = true := by
  unfold muR
  split
  · exact h
  · rfl
theorem bad_cl {r : R} (h : r.bad = true) : (clR r).bad = true := by
  have h1 : (cl1 r).bad = true := bad_nm (lo := 1) (hi := 2) h
  have h2 : (cl2 r).bad = true := bad_mu h1
  have h3 : (cl3 r).bad = true := bad_nm (lo := 2) (hi := 2) h2
  have h4 : (cl4 (tl (cl3 r))).bad = true := bad_nm (lo := 2) (hi := 2) (r := tl (cl3 r)) h3
  unfold clR
  split
  · split
    · split
      · exact bad_nm (r := tl (cl4 (tl (cl3 r)))) h4
      · exact h4
    · exact h3
  · exact h
theorem bad_znF {sg a b : Int} {r : R} (h : r.bad = true) : (znF sg a b r).bad = true := by
  show (r.bad || _) = true
  rw [h]
  rfl
theorem bad_znO {sg : Int} {r : R} (h : r.bad = true) : (znO sg r).bad = true := by
  unfold znO
  split
  · exact bad_znF (r := tl r) h
  · split
    · exact bad_znF (bad_nm (r := tl (nmR 2 2 r)) (bad_nm h))
    · exact bad_znF (bad_nm h)
theorem bad_dzO {sg : Int} {r : R} (h : r.bad = true) : (dzO sg r).bad = true := by
  unfold dzO
  split
  · exact bad_znF (bad_nm h)
  · split
    · exact bad_znF (bad_nm (r := tl (nmR 2 2 r)) (bad_nm h))
    · exact bad_znF (bad_nm h)
theorem bad_zn {r : R} (h : r.bad = true) : (znR r).bad = true := by
  unfold znR
  split
  · exact h
  · split
    · exact bad_znO (r := tl r) h
    · split
      · exact bad_znO (r := tl r) h
      · show (r.bad || _) = true
        rw [h]
        rfl
theorem bad_dz {r : R} (h : r.bad = true) : (dzR r).bad = true := by
  unfold dzR
  split
  · exact h
  · split
    · exact bad_dzO (r := tl r) h
    · split
      · exact bad_dzO (r := tl r) h
      · show (r.bad || _) = true
        rw [h]
        rfl
theorem bad_ckz {r : R} (h : r.bad = true) : (ckz r).bad = true := by
  unfold ckz
  split
  · exact bad_zn (bad_cl h)
  · exact h
theorem bad_dckz {r : R} (h : r.bad = true) : (dckz r).bad = true := by
  unfold dckz
  split
  · exact bad_dz (bad_cl h)
  · exact h
theorem ckz_eqv (r : R) : Eqv (dckz r) (ckz r) := by
  unfold dckz ckz
  split
  · unfold dzR znR
    split
    · exact Or.inl rfl
    · split
      · exact dz_eqv _ _
      · split
        · exact dz_eqv _ _
        · exact Or.inl rfl
  · exact Or.inl rfl
theorem Eqv.ckz {a b : R} (h : Eqv a b) : Eqv (dckz a) (ckz b) := by
  rcases h with rfl | ⟨h1, h2⟩
  · exact ckz_eqv a
  · exact Or.inr ⟨bad_dckz h1, bad_ckz h2⟩
theorem snd_eqv (r : R) : Eqv (dsnd r) (snd r) := by
  show Eqv (sY (yrV (dsnd0 r)) (yrR (dsnd0 r))) (nmS (dsnd0 r))
  generalize dsnd0 r = q
  unfold nmS yrV yrR
  by_cases h2 : (nx q).length = 2
  · rw [if_pos h2, if_pos h2]
    cases hd : dgs 2 2 q with
    | true =>
      rw [if_pos rfl]
      left
      congr 1
      split <;> split <;> first | rfl | omega
    | false =>
      rw [if_neg (show ¬ (false = true) by decide), (nm_bad hd).1]
      right
      refine ⟨rfl, ?_⟩
      show (nmR 4 4 q).bad = true
      rw [nmR_other (Or.inl (by omega))]
      rfl
  · have hd : dgs 2 2 q = false := by
      cases hd : dgs 2 2 q with
      | false => rfl
      | true => have := dgW_two (show dgW 2 2 (nx q) = true from hd); omega
    rw [if_neg h2, if_neg h2, hd, if_neg (show ¬ (false = true) by decide)]
    exact Or.inl rfl
theorem form_eqv (k : Nat) (l : List Wd) : resR (dform k l) = resR (form k l) := by
  unfold dform form
  apply Eqv.res
  apply Eqv.ckz
  match k with
  | 0 => exact Or.inl rfl
  | 1 => exact snd_eqv _
  | n + 2 => exact Or.inl rfl
end Lb
namespace Go.Proofs.YtbhafhbaldddiaaGreatDoor
open Go.RowKit
open Go
open Lb (R Wd)
set_option linter.unusedVariables false
def tcells (v : Value) (a : Nat) (r : R) : Nat → Value
  | 0 => v
  | 1 => .int .i64 (a : Int)
  | 2 => .bool r.bad
  | 3 => .int .i64 r.y
  | 4 => .int .i64 r.mo
  | 5 => .int .i64 r.d
  | 6 => .int .i64 r.h
  | 7 => .int .i64 r.mi
  | 8 => .int .i64 r.s
  | _ => .int .i64 r.east
theorem tens {P : Nat → Prop} (h0 : P 0) (h1 : P 1) (h2 : P 2) (h3 : P 3) (h4 : P 4) (h5 : P 5) (h6 : P 6) (h7 : P 7) (h8 : P 8) (h9 : P 9) : ∀ k, k < 10 → P k
  | 0, _ => h0
  | 1, _ => h1
  | 2, _ => h2
  | 3, _ => h3
  | 4, _ => h4
  | 5, _ => h5
  | 6, _ => h6
  | 7, _ => h7
  | 8, _ => h8
  | 9, _ => h9
  | n + 10, h => absurd h (by omega)
/-- A taker in the block B; what it has yet to take is r's. -/
def Tk (w0 W : World) (B : Nat) (L : List Wd) (r : R) : Prop :=
  (∃ p c a, (∀ k, k < 10 → W.cell? ⟨B, k, none⟩ = some (tcells (.slice p L.length c) a r k)) ∧ PRow W B (.slice p L.length c) L ∧ a ≤ L.length ∧ r.l = L.drop a) ∧ (∀ k, k < 10 → W.frozen? ⟨B, k, none⟩ = false) ∧ B < W.heap.size ∧ w0.heap.size ≤ B ∧ Below w0.heap.size w0 W ∧ PSz L ∧ (∀ p ∈ L, Lb.Piece p)
def TkPost (v : Value) (w0 : World) (B : Nat) (L : List Wd) (r : R) (e : Ending) (W' : World) : Prop := e = .returned v ∧ Tk w0 W' B L r
section
variable {w0 W : World} {B : Nat} {L : List Wd} {r : R}
theorem Tk.psz (h : Tk w0 W B L r) : PSz r.l := by
  obtain ⟨⟨p, c, a, _, _, ha, hl⟩, _, _, _, _, hs, _⟩ := h
  rw [hl]
  exact ⟨by have := hs.1; simp; omega, fun s hm => hs.2 s (List.mem_of_mem_drop hm)⟩
theorem Tk.piece (h : Tk w0 W B L r) (hl : r.l ≠ []) : Lb.Piece (Lb.nx r) := by
  obtain ⟨⟨p, c, a, _, _, ha, hd⟩, _, _, _, _, hs, hp⟩ := h
  cases e : r.l with
  | nil => exact absurd e hl
  | cons x t =>
    have : Lb.nx r = x := by unfold Lb.nx; rw [e]; rfl
    rw [this]
    exact hp x (List.mem_of_mem_drop (by rw [← hd, e]; simp))
theorem Tk.quiet {W' : World} (h : Tk w0 W B L r) (hb : Below W.heap.size W W') : Tk w0 W' B L r := by
  obtain ⟨⟨p, c, a, hv, hp, ha, hl⟩, hf, hB, h0, hw, hs⟩ := h
  refine ⟨⟨p, c, a, fun k hk => (hb.cell (p := ⟨B, k, none⟩) hB).trans (hv k hk), hp.far fun a ha => hb.cell (Nat.lt_trans ha hB), ha, hl⟩, fun k hk => ?_, Nat.lt_of_lt_of_le hB hb.size, h0, hw.trans (hb.mono (by omega)), hs⟩
  have := gb_frozen (lgb_of_below hb none) (a := ⟨B, k, none⟩) hB (by simp)
  exact this.trans (hf k hk)
/-- A store into the taker's block. -/
theorem Tk.put (h : Tk w0 W B L r) (j : Nat) (x : Value) (r' : R) (hj : j < 10) (h1 : ∀ v a, a ≤ L.length → r.l = L.drop a → (W.cell? ⟨B, 1, none⟩ = some (.int .i64 (a : Int))) → ∃ a', a' ≤ L.length ∧ r'.l = L.drop a' ∧ ∀ k, k < 10 → tcells v a' r' k = if k = j then x else tcells v a r k) : Tk w0 (W.setCell ⟨B, j, none⟩ x) B L r' := by
  obtain ⟨⟨p, c, a, hv, hp, ha, hl⟩, hf, hB, h0, hw, hs⟩ := h
  obtain ⟨a', ha', hl', hc⟩ := h1 (.slice p L.length c) a ha hl (hv 1 (by omega))
  refine ⟨⟨p, c, a', fun k hk => ?_, hp.far fun a ha => World.cell?_setCell_other _ _ _ _ (fun e => absurd (congrArg Addr.block e) (by show ¬ B = _; omega)), ha', hl'⟩, fun k hk => by rw [World.frozen?_setCell]; exact hf k hk, by simpa using hB, h0, Below.setCell hw (by show _ ≤ B; omega) _, hs⟩
  by_cases e : k = j
  · subst e
    rw [World.cell?_setCell_same _ _ _ (hv _ hk), hc k hk, if_pos rfl]
  · rw [World.cell?_setCell_other _ _ _ _ (by intro q; injection q with _ q; omega), hv k hk, hc k hk, if_neg e]
theorem Tk.bad1 (h : Tk w0 W B L r) (b : Bool) : Tk w0 (W.setCell ⟨B, 2, none⟩ (.bool b)) B L { r with bad := b } := h.put 2 _ _ (by omega) (fun v a ha hl _ => ⟨a, ha, hl, tens rfl rfl rfl rfl rfl rfl rfl rfl rfl rfl⟩)
theorem Tk.mkBad (h : Tk w0 W B L r) : Tk w0 (W.setCell ⟨B, 2, none⟩ (.bool true)) B L (Lb.mkBad r) := h.bad1 true
theorem Tk.sY (h : Tk w0 W B L r) (n : Int) : Tk w0 (W.setCell ⟨B, 3, none⟩ (.int .i64 n)) B L (Lb.sY n r) := h.put 3 _ _ (by omega) (fun v a ha hl _ => ⟨a, ha, hl, tens rfl rfl rfl rfl rfl rfl rfl rfl rfl rfl⟩)
theorem Tk.sMo (h : Tk w0 W B L r) (n : Int) : Tk w0 (W.setCell ⟨B, 4, none⟩ (.int .i64 n)) B L (Lb.sMo n r) := h.put 4 _ _ (by omega) (fun v a ha hl _ => ⟨a, ha, hl, tens rfl rfl rfl rfl rfl rfl rfl rfl rfl rfl⟩)
theorem Tk.sD (h : Tk w0 W B L r) (n : Int) : Tk w0 (W.setCell ⟨B, 5, none⟩ (.int .i64 n)) B L (Lb.sD n r) := h.put 5 _ _ (by omega) (fun v a ha hl _ => ⟨a, ha, hl, tens rfl rfl rfl rfl rfl rfl rfl rfl rfl rfl⟩)
theorem Tk.sH (h : Tk w0 W B L r) (n : Int) : Tk w0 (W.setCell ⟨B, 6, none⟩ (.int .i64 n)) B L (Lb.sH n r) := h.put 6 _ _ (by omega) (fun v a ha hl _ => ⟨a, ha, hl, tens rfl rfl rfl rfl rfl rfl rfl rfl rfl rfl⟩)
theorem Tk.sMi (h : Tk w0 W B L r) (n : Int) : Tk w0 (W.setCell ⟨B, 7, none⟩ (.int .i64 n)) B L (Lb.sMi n r) := h.put 7 _ _ (by omega) (fun v a ha hl _ => ⟨a, ha, hl, tens rfl rfl rfl rfl rfl rfl rfl rfl rfl rfl⟩)
theorem Tk.sS (h : Tk w0 W B L r) (n : Int) : Tk w0 (W.setCell ⟨B, 8, none⟩ (.int .i64 n)) B L (Lb.sS n r) := h.put 8 _ _ (by omega) (fun v a ha hl _ => ⟨a, ha, hl, tens rfl rfl rfl rfl rfl rfl rfl rfl rfl rfl⟩)
theorem Tk.sE (h : Tk w0 W B L r) (n : Int) : Tk w0 (W.setCell ⟨B, 9, none⟩ (.int .i64 n)) B L (Lb.sE n r) := h.put 9 _ _ (by omega) (fun v a ha hl _ => ⟨a, ha, hl, tens rfl rfl rfl rfl rfl rfl rfl rfl rfl rfl⟩)
theorem Tk.open_ (h : Tk w0 W B L r) : ∃ (p : Option Addr) (c a : Nat), (W.cell? ⟨B, 0, none⟩ = some (.slice p L.length c) ∧ L.length ≤ c) ∧ (W.cell? ⟨B, 1, none⟩ = some (.int .i64 (a : Int)) ∧ a ≤ L.length ∧ r.l = L.drop a) ∧ (W.cell? ⟨B, 2, none⟩ = some (.bool r.bad) ∧ W.cell? ⟨B, 3, none⟩ = some (.int .i64 r.y) ∧ W.cell? ⟨B, 4, none⟩ = some (.int .i64 r.mo) ∧ W.cell? ⟨B, 5, none⟩ = some (.int .i64 r.d) ∧ W.cell? ⟨B, 6, none⟩ = some (.int .i64 r.h) ∧ W.cell? ⟨B, 7, none⟩ = some (.int .i64 r.mi) ∧ W.cell? ⟨B, 8, none⟩ = some (.int .i64 r.s) ∧ W.cell? ⟨B, 9, none⟩ = some (.int .i64 r.east)) ∧
    (W.frozen? ⟨B, 0, none⟩ = false ∧ W.frozen? ⟨B, 1, none⟩ = false ∧ W.frozen? ⟨B, 2, none⟩ = false ∧ W.frozen? ⟨B, 3, none⟩ = false ∧ W.frozen? ⟨B, 4, none⟩ = false ∧ W.frozen? ⟨B, 5, none⟩ = false ∧ W.frozen? ⟨B, 6, none⟩ = false ∧ W.frozen? ⟨B, 7, none⟩ = false ∧ W.frozen? ⟨B, 8, none⟩ = false ∧ W.frozen? ⟨B, 9, none⟩ = false) := by
  obtain ⟨⟨p, c, a, hv, hp, ha, hl⟩, hf, _⟩ := h
  obtain ⟨p', c', e, hc, hr⟩ := hp
  injection e with _ _ e3
  subst e3
  exact ⟨p, c, a, ⟨hv 0 (by omega), hc⟩, ⟨hv 1 (by omega), ha, hl⟩, ⟨hv 2 (by omega), hv 3 (by omega), hv 4 (by omega), hv 5 (by omega), hv 6 (by omega), hv 7 (by omega), hv 8 (by omega), hv 9 (by omega)⟩, hf 0 (by omega), hf 1 (by omega), hf 2 (by omega), hf 3 (by omega), hf 4 (by omega), hf 5 (by omega), hf 6 (by omega), hf 7 (by omega), hf 8 (by omega), hf 9 (by omega)⟩
/-- A taker that has a piece: where it is, and the taker behind it. -/
theorem Tk.head_ (h : Tk w0 W B L r) (hl : r.l ≠ []) : ∃ (g i n c a : Nat), W.cell? ⟨B, 0, none⟩ = some (.slice (some ⟨g, i, none⟩) n c) ∧ W.cell? ⟨B, 1, none⟩ = some (.int .i64 (a : Int)) ∧ a < n ∧ n ≤ c ∧ n ≤ 100000 ∧ W.cell? ⟨g, i + a, none⟩ = some (.string (Ml.mk (Lb.nx r))) ∧ W.frozen? ⟨B, 1, none⟩ = false ∧ Hid (Tk w0 (W.setCell ⟨B, 1, none⟩ (.int .i64 ((a : Int) + 1))) B L (Lb.tl r)) := by
  have h0 := h
  obtain ⟨⟨p, c, a, hv, hp, ha, hd⟩, hf, hB, h1, hw, hs, _⟩ := h
  obtain ⟨p', c', e, hc, hr⟩ := hp
  injection e with e1 _ e3
  subst e1; subst e3
  have hlt : a < L.length := by
    rcases Nat.lt_or_ge a L.length with h | h
    · exact h
    · exact absurd (hd.trans (List.drop_eq_nil_of_le h)) hl
  have hL : L ≠ [] := fun e => by rw [e] at hlt; exact absurd hlt (Nat.not_lt_zero _)
  obtain ⟨g, i, rfl, hg, hsx⟩ := hr hL
  have hx : Lb.nx r = L[a] := by
    unfold Lb.nx
    rw [hd, List.drop_eq_getElem_cons hlt]
    rfl
  refine ⟨g, i, L.length, c, a, hv 0 (by omega), hv 1 (by omega), hlt, hc, hs.1, ?_, hf 1 (by omega), Lib.hid (h0.put 1 _ _ (by omega) (fun v a' ha' hd' hc' => ?_))⟩
  · rw [hx]
    exact hsx a _ (List.getElem?_eq_getElem hlt)
  · have hv1 : W.cell? ⟨B, 1, none⟩ = some (.int .i64 (a : Int)) := hv 1 (by omega)
    rw [hv1] at hc'
    injection hc' with hc'
    injection hc' with _ hc'
    obtain rfl : a = a' := by omega
    refine ⟨a + 1, hlt, ?_, tens rfl (by show Value.int .i64 ((a + 1 : Nat) : Int) = .int .i64 ((a : Int) + 1); rfl) rfl rfl rfl rfl rfl rfl rfl rfl⟩
    show r.l.tail = _
    rw [hd, List.tail_drop]
end
end Go.Proofs.YtbhafhbaldddiaaGreatDoor
namespace Go.Proofs.YtbhafhbaldddiaaGreatDoor
open Go.RowKit
open Go
open Lb (R Wd)
set_option linter.unusedVariables false
theorem srt_is1 (c : UInt8) : (Lb.srt c == 1) = decide (48 ≤ c.toNat ∧ c.toNat ≤ 57) := Lb.all_bytes (p := fun c => (Lb.srt c == 1) = decide (48 ≤ c.toNat ∧ c.toNat ≤ 57)) (by decide +kernel) c
theorem srt_is2 (c : UInt8) : (Lb.srt c == 2) = decide ((97 ≤ c.toNat ∧ c.toNat ≤ 122) ∨ (65 ≤ c.toNat ∧ c.toNat ≤ 90)) := Lb.all_bytes (p := fun c => (Lb.srt c == 2) = decide ((97 ≤ c.toNat ∧ c.toNat ≤ 122) ∨ (65 ≤ c.toNat ∧ c.toNat ≤ 90))) (by decide +kernel) c
theorem tdigit_any (c : UInt8) (w : World) : Calls Tryz.prog 36 #[.int .u8 (c.toNat : Int)] w (fun e w' => e = .returned (.bool (Lb.srt c == 1)) ∧ w' = w) := by
  have h : c.toNat < 256 := UInt8.toNat_lt c
  rw [srt_is1]
  generalize c.toNat = n at h
  obtain ⟨b, hb⟩ : ∃ b, decide (48 ≤ n ∧ n ≤ 57) = b := ⟨_, rfl⟩
  rw [hb]
  by_cases h1 : 48 ≤ n
  · have l1 : (48 : Int) ≤ (n : Int) := by omega
    by_cases h2 : n ≤ 57
    · have l2 : (n : Int) ≤ 57 := by omega
      rw [decide_eq_true ⟨h1, h2⟩] at hb
      subst hb
      go_enter Tryz.func36, Tryz.ntmps36
      go_wp2
      go_ret
      exact ⟨rfl, rfl⟩
    · have l2 : ¬ (n : Int) ≤ 57 := by omega
      rw [decide_eq_false (fun k => h2 k.2)] at hb
      subst hb
      go_enter Tryz.func36, Tryz.ntmps36
      go_wp2
      go_ret
      exact ⟨rfl, rfl⟩
  · have l1 : ¬ (48 : Int) ≤ (n : Int) := by omega
    rw [decide_eq_false (fun k => h1 k.1)] at hb
    subst hb
    go_enter Tryz.func36, Tryz.ntmps36
    go_wp2
    go_ret
    exact ⟨rfl, rfl⟩
theorem tletter_any (c : UInt8) (w : World) : Calls Tryz.prog 37 #[.int .u8 (c.toNat : Int)] w (fun e w' => e = .returned (.bool (Lb.srt c == 2)) ∧ w' = w) := by
  have h : c.toNat < 256 := UInt8.toNat_lt c
  rw [srt_is2]
  generalize c.toNat = n at h
  obtain ⟨b, hb⟩ : ∃ b, decide ((97 ≤ n ∧ n ≤ 122) ∨ (65 ≤ n ∧ n ≤ 90)) = b := ⟨_, rfl⟩
  rw [hb]
  by_cases h1 : (97 : Int) ≤ n <;> by_cases h2 : (n : Int) ≤ 122 <;> by_cases h3 : (65 : Int) ≤ n <;> by_cases h4 : (n : Int) ≤ 90 <;> try (exfalso; omega)
  all_goals
    first
    | (rw [decide_eq_true (by omega)] at hb)
    | (rw [decide_eq_false (by omega)] at hb)
    subst hb
    go_enter Tryz.func37, Tryz.ntmps37
    go_wp2
    go_ret
    exact ⟨rfl, rfl⟩
section
variable {w0 W : World} {B : Nat} {L : List Wd} {r : R}
set_option maxHeartbeats 1000000 in
theorem Tk.next (h : Tk w0 W B L r) : Calls Tryz.prog 69 #[.pointer (some ⟨B, 0, none⟩)] W (TkPost (.string (Ml.mk (Lb.nx r))) w0 B L r) := by
  have H := Lib.hid h
  unfold TkPost
  by_cases hl : r.l = []
  · obtain ⟨p, c, a, ⟨k0, hc⟩, ⟨k1, ha, hd⟩, -⟩ := h.open_
    have hx : Lb.nx r = [] := by unfold Lb.nx; rw [hl]; rfl
    rw [hx]
    have hz : a = L.length := by
      rw [hl] at hd
      have := congrArg List.length hd
      simp at this
      omega
    rw [← hz] at k0
    have l1 : (a : Int) ≤ (a : Int) := Int.le_refl _
    clear hd hx hl ha hc hz h
    go_enter Tryz.func69, Tryz.ntmps69
    go_wp2_with fail
    go_quiet (fail)
    go_wp2_with fail
    go_ret
    exact ⟨rfl, H.out.quiet (below_drewN (Below.refl _ _) _)⟩
  · obtain ⟨g, i, n, c, a, k0, k1, hlt, hc, hn, kx, -, -⟩ := h.head_ hl
    have l1 : ¬ (n : Int) ≤ (a : Int) := by omega
    have l2 : (a : Int) < (n : Int) := by omega
    clear hl h
    go_enter Tryz.func69, Tryz.ntmps69
    go_wp2_with fail
    go_quiet (fail)
    go_wp2_with fail
    go_quiet (fail)
    go_wp2_with fail
    go_ret
    exact ⟨rfl, H.out.quiet (below_drewN (below_drewN (Below.refl _ _) _) _)⟩
set_option maxHeartbeats 1000000 in
theorem Tk.maybe (h : Tk w0 W B L r) (u : Wd) (hu : u ≠ []) (hu2 : u.length ≤ 100) : Calls Tryz.prog 68 #[.pointer (some ⟨B, 0, none⟩), .string (Ml.mk u)] W (TkPost (.bool (Lb.mbB u r)) w0 B L (Lb.mbR u r)) := by
  have hn := h.next
  have hs := h.psz.nx
  unfold TkPost
  by_cases hx : Lb.nx r = u
  · have e1 : Lb.mbB u r = true := by unfold Lb.mbB; simp [hx]
    have e2 : Lb.mbR u r = Lb.tl r := by unfold Lb.mbR; rw [if_pos hx]
    rw [e1, e2]
    rw [hx] at hn
    clear e1 e2 h
    have hl : r.l ≠ [] := fun e => hu (by rw [← hx]; unfold Lb.nx; rw [e]; rfl)
    have HL := Lib.hid hl
    clear hl hs hu hx
    have hsz : (Ml.mk u).size = u.length := rfl
    generalize Ml.mk u = T at hn hsz
    generalize u.length = n at hsz hu2
    go_enter Tryz.func68, Tryz.ntmps68
    go_wp2_with (go_at_call 69; refine hn.mono ?_; rintro e w1 ⟨rfl, h1⟩; obtain ⟨g, i, n', c, a, k0, k1, hlt, hc, hn', kx, f1, H⟩ := h1.head_ HL.out; clear h1)
    go_ret
    exact ⟨rfl, H.out⟩
  · have e1 : Lb.mbB u r = false := by unfold Lb.mbB; simp [hx]
    have e2 : Lb.mbR u r = r := by unfold Lb.mbR; rw [if_neg hx]
    rw [e1, e2]
    have hne := lmk_ne hx
    have h1 : (Ml.mk (Lb.nx r)).size = (Lb.nx r).length := rfl
    have h2 : (Ml.mk u).size = u.length := rfl
    clear e1 e2 h hx
    generalize Ml.mk (Lb.nx r) = T at hn hne h1
    generalize Ml.mk u = U at hne h2
    generalize (Lb.nx r).length = n at h1 hs
    generalize u.length = m at h2 hu2
    go_enter Tryz.func68, Tryz.ntmps68
    go_wp2_with (go_at_call 69; refine hn.mono ?_; rintro e w1 ⟨rfl, h1⟩; have H := Lib.hid h1; clear h1)
    go_ret
    exact ⟨rfl, H.out⟩
set_option maxHeartbeats 1000000 in
theorem Tk.must (h : Tk w0 W B L r) (u : Wd) (hu : u ≠ []) (hu2 : u.length ≤ 100) : Calls Tryz.prog 67 #[.pointer (some ⟨B, 0, none⟩), .string (Ml.mk u)] W (TkPost (.tuple #[]) w0 B L (Lb.muR u r)) := by
  have hm := h.maybe u hu hu2
  unfold TkPost
  by_cases hx : Lb.nx r = u
  · have e1 : Lb.mbB u r = true := by unfold Lb.mbB; simp [hx]
    have e2 : Lb.mbR u r = Lb.tl r := by unfold Lb.mbR; rw [if_pos hx]
    have e3 : Lb.muR u r = Lb.tl r := by unfold Lb.muR; rw [if_pos hx]
    rw [e1, e2] at hm
    rw [e3]
    clear e1 e2 e3 h hx
    generalize Ml.mk u = T at hm
    go_enter Tryz.func67, Tryz.ntmps67
    go_wp2_with (go_at_call 68; refine hm.mono ?_; rintro e w1 ⟨rfl, h1⟩; have H := Lib.hid h1; clear h1)
    go_end0
    exact ⟨rfl, H.out⟩
  · have e1 : Lb.mbB u r = false := by unfold Lb.mbB; simp [hx]
    have e2 : Lb.mbR u r = r := by unfold Lb.mbR; rw [if_neg hx]
    have e3 : Lb.muR u r = Lb.mkBad r := by unfold Lb.muR; rw [if_neg hx]
    rw [e1, e2] at hm
    rw [e3]
    clear e1 e2 e3 h hx
    generalize Ml.mk u = T at hm
    go_enter Tryz.func67, Tryz.ntmps67
    go_wp2_with (go_at_call 68; refine hm.mono ?_; rintro e w1 ⟨rfl, h1⟩; obtain ⟨_, _, _, -, -, ⟨k2, -⟩, -, -, f2, -⟩ := h1.open_; have H := Lib.hid h1.mkBad; clear h1)
    go_end0
    exact ⟨rfl, H.out⟩
/-- A piece that begins with a digit holds digits alone. -/
theorem piece_dig {c : UInt8} {q : Wd} (h : Lb.Piece (c :: q)) (hc : Lb.srt c = 1) : ∀ d ∈ c :: q, 48 ≤ d.toNat ∧ d.toNat ≤ 57 := by
  obtain ⟨⟨c', q', e, h1, _⟩, _⟩ := h
  injection e with e1 e2
  subst e1; subst e2
  have hk : ∀ d : UInt8, Lb.srt d = 1 → 48 ≤ d.toNat ∧ d.toNat ≤ 57 := fun d hd => by
    have := srt_is1 d
    rw [hd] at this
    exact of_decide_eq_true this.symm
  intro d hd
  rcases List.mem_cons.1 hd with rfl | hd
  · exact hk _ hc
  · exact hk _ ((h1 d hd).trans hc)
theorem u8_sub48 (n : Nat) (h0 : 48 ≤ n) (h1 : n ≤ 57) : (n : Int) - 48 = ((n % 16 : Nat) : Int) := by omega
set_option maxHeartbeats 2000000 in
theorem Tk.number (h : Tk w0 W B L r) (lo hi : Nat) (hlo : 1 ≤ lo) (hhi : hi ≤ 1048576) : Calls Tryz.prog 66 #[.pointer (some ⟨B, 0, none⟩), .int .i64 (lo : Int), .int .i64 (hi : Int)] W (TkPost (.int .i64 (Lb.nmV lo hi r)) w0 B L (Lb.nmR lo hi r)) := by
  have hn := h.next
  have hs := h.psz.nx
  have hp := h.piece
  clear h
  unfold TkPost Lb.nmV Lb.nmR
  obtain ⟨b, hb⟩ : ∃ b, Lb.dgs lo hi r = b := ⟨_, rfl⟩
  rw [hb]
  have hb' : Lb.dgW lo hi (Lb.nx r) = b := hb
  clear hb
  obtain ⟨S, hS⟩ : ∃ S, Lb.nx r = S := ⟨_, rfl⟩
  rw [hS] at hn hs hp hb' ⊢
  cases S with
  | nil =>
    have hz : (Ml.mk []).size = 0 := rfl
    have hd : Lb.dgW lo hi [] = false := rfl
    rw [hd] at hb'
    subst hb'
    rw [if_neg (by decide), if_neg (by decide)]
    clear hd hS hp
    generalize Ml.mk [] = T at hn hz
    have l1 : (0 : Int) < (lo : Int) := by omega
    go_enter Tryz.func66, Tryz.ntmps66
    go_wp2_with (go_at_call 69; refine hn.mono ?_; rintro e w1 ⟨rfl, h1⟩; obtain ⟨_, _, _, -, -, ⟨k2, -⟩, -, -, f2, -⟩ := h1.open_; have H := Lib.hid h1.mkBad; clear h1)
    go_ret
    exact ⟨rfl, H.out⟩
  | cons c q =>
    have hl : r.l ≠ [] := fun e => by
      unfold Lb.nx at hS
      rw [e] at hS
      cases hS
    have hsz : (Ml.mk (c :: q)).size = q.length + 1 := rfl
    have hix : ∀ h, (((Ml.mk (c :: q))[0]'h).toNat : Int) = (c.toNat : Int) := fun h => rfl
    have hsr := tdigit_any c
    have hq : q.length ≤ 100000 := by simp at hs; omega
    replace hb' : (decide (lo ≤ q.length + 1) && decide (q.length + 1 ≤ hi) && (Lb.srt c == 1)) = b := hb'
    replace hp := hp hl
    have HL := Lib.hid hl
    have HS := Lib.hid hS
    clear hl hs hS
    by_cases l1 : (q.length : Int) + 1 < (lo : Int)
    · have e : b = false := by rw [← hb', decide_eq_false (p := lo ≤ q.length + 1) (by omega)]; rfl
      subst e
      clear hb' hp hix hsr
      rw [if_neg (by decide), if_neg (by decide)]
      generalize Ml.mk (c :: q) = T at hn hsz
      generalize q.length = n at hsz hq l1
      go_enter Tryz.func66, Tryz.ntmps66
      go_wp2_with (go_at_call 69; refine hn.mono ?_; rintro e w1 ⟨rfl, h1⟩; obtain ⟨_, _, _, -, -, ⟨k2, -⟩, -, -, f2, -⟩ := h1.open_; have H := Lib.hid h1.mkBad; clear h1)
      go_ret
      exact ⟨rfl, H.out⟩
    by_cases l2 : (hi : Int) < (q.length : Int) + 1
    · have e : b = false := by rw [← hb', decide_eq_false (p := q.length + 1 ≤ hi) (by omega), Bool.and_false]; rfl
      subst e
      clear hb' hp hix hsr
      rw [if_neg (by decide), if_neg (by decide)]
      generalize Ml.mk (c :: q) = T at hn hsz
      generalize q.length = n at hsz hq l1 l2
      go_enter Tryz.func66, Tryz.ntmps66
      go_wp2_with (go_at_call 69; refine hn.mono ?_; rintro e w1 ⟨rfl, h1⟩; obtain ⟨_, _, _, -, -, ⟨k2, -⟩, -, -, f2, -⟩ := h1.open_; have H := Lib.hid h1.mkBad; clear h1)
      go_ret
      exact ⟨rfl, H.out⟩
    rw [decide_eq_true (p := lo ≤ q.length + 1) (by omega), decide_eq_true (p := q.length + 1 ≤ hi) (by omega), Bool.true_and, Bool.true_and] at hb'
    rw [hb'] at hsr
    cases b
    · clear hb' hp
      rw [if_neg (by decide), if_neg (by decide)]
      generalize Ml.mk (c :: q) = T at hn hsz hix
      generalize q.length = n at hsz hq l1 l2
      generalize (c.toNat : Int) = cn at hsr hix
      go_enter Tryz.func66, Tryz.ntmps66
      go_wp2_with (first | (go_at_call 69; refine hn.mono ?_; rintro e w1 ⟨rfl, h1⟩; obtain ⟨_, _, _, -, -, ⟨k2, -⟩, -, -, f2, -⟩ := h1.open_; have H := Lib.hid h1.mkBad; clear h1) | (go_at_call 36; refine (hsr _).mono ?_; rintro e w2 ⟨rfl, rfl⟩))
      go_ret
      exact ⟨rfl, H.out⟩
    · have hdg := piece_dig hp (by simpa using hb')
      rw [if_pos rfl, if_pos rfl]
      clear hb' hp
      obtain ⟨x, hx⟩ : ∃ x, c :: q = x := ⟨_, rfl⟩
      obtain ⟨z, hz⟩ : ∃ z, x.length = z := ⟨_, rfl⟩
      rw [hx] at hn hsz hix hdg ⊢
      have hz2 : q.length + 1 = z := by rw [← hz, ← hx]; rfl
      rw [hz2] at hsz
      have hz3 : (q.length : Int) + 1 = (z : Int) := by omega
      rw [hz3] at l1 l2
      have hzq : z ≤ 100001 := by omega
      have hz0 : 0 < z := by omega
      obtain ⟨v, hv⟩ : ∃ v, Lb.numL 0 x = v := ⟨_, rfl⟩
      rw [hv]
      have hby : ∀ (j : Nat) (hj : j < (Ml.mk x).size), (((Ml.mk x)[j]'hj).toNat : Int) = ((x.getD j 0).toNat : Int) := fun j hj => by
        have hj' : j < x.length := hj
        rw [List.getD_eq_getElem?_getD, List.getElem?_eq_getElem hj']
        rfl
      have HBY := Lib.hid hby
      have HDG := Lib.hid hdg
      have HV := Lib.hid hv
      have HZ := Lib.hid hz
      clear hx hz2 hz3 hv hq hby hdg hz
      generalize Ml.mk x = T at *
      generalize (c.toNat : Int) = cn at hsr hix
      go_enter Tryz.func66, Tryz.ntmps66
      go_wp2_with (first | (go_at_call 69; refine hn.mono ?_; rintro e w1 ⟨rfl, h1⟩; obtain ⟨g, i, n', c', a, k0, k1, hlt, hc, hn', kx, f1, H⟩ := h1.head_ HL.out; clear h1) | (go_at_call 36; refine (hsr _).mono ?_; rintro e w2 ⟨rfl, rfl⟩))
      clear k0 k1 kx f1 hc hn' hlt hn hsr hix
      go_loop [8, 9] (fun v k => ∃ j : Nat, j ≤ z ∧ v = .int .i64 (Lb.numL 0 (x.take j)) ∧ k = .int .i64 j) (fun _ k => z - (intOf k).toNat)
      case atStart => exact ⟨0, by omega, rfl, rfl⟩
      case round =>
        obtain ⟨j, hj, rfl, rfl⟩ := hrel
        by_cases hlt : j < z
        · have hlt' : j < x.length := by rw [HZ.out]; exact hlt
          have hst := numL_step x j hlt'
          have hb := HBY.out j (by rw [hsz]; exact hlt)
          obtain ⟨d0, d1⟩ := HDG.out (x.getD j 0) (by rw [List.getD_eq_getElem?_getD, List.getElem?_eq_getElem hlt']; exact List.getElem_mem hlt')
          have l3 : (j : Int) < z := by omega
          generalize (x.getD j 0).toNat = cn at hst hb d0 d1
          have hb2 : ∀ h : j < T.size, (T[j].toNat : Int) = (cn : Int) := fun _ => hb
          have hs1 := u8_sub48 cn d0 d1
          obtain ⟨a, ha⟩ : ∃ a, Lb.numL 0 (x.take j) = a := ⟨_, rfl⟩
          rw [ha] at hst
          rw [ha]
          have HST := Lib.hid hst
          clear hst ha hb hlt'
          go_wp2
          go_round
          case rel => exact ⟨j + 1, by omega, by rw [HST.out, ← lw64, ← lw64, show ((cn % 16 : Nat) : Int) = (cn : Int) % 16 by omega], by go_num⟩
          case measure => simp [intOf]; omega
        · obtain rfl : j = z := by omega
          have hv : Lb.numL 0 (x.take j) = v := by rw [← HV.out, ← HZ.out, List.take_length]
          rw [hv]
          clear hv
          go_wp2
          go_ret
          exact ⟨rfl, H.out⟩
end
end Go.Proofs.YtbhafhbaldddiaaGreatDoor
