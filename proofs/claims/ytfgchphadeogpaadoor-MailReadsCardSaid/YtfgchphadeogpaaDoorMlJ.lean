/- The walks of two and Text. -/
import Derived.Test.YtfgchphadeogpaaDoorMlI
import Derived.Test.YtfgchphadeogpaaDoorMlPc
namespace Go.Proofs.YtfgchphadeogpaaDoor
open Go.RowKit
open Go
set_option linter.unusedVariables false
theorem two_cells (w : World) (n : Int) : (convert 71 9 (.slice (some ⟨w.heap.size, 0, none⟩) 2 2)).run Tryd.prog (w.alloc (.cells #[.int .u8 (48 + n / 10 % 10), .int .u8 (48 + n % 10)] 5)) = .ok (.string ⟨#[Sm.c (n / 10), Sm.c n]⟩) (w.alloc (.cells #[.int .u8 (48 + n / 10 % 10), .int .u8 (48 + n % 10)] 5)) :=
  run_convert_bytes_back (P := Tryd.prog) (w.alloc (.cells #[.int .u8 (48 + n / 10 % 10), .int .u8 (48 + n % 10)] 5)) 71 9 5 ⟨w.heap.size, 0, none⟩ 2 [Sm.c (n / 10), Sm.c n] Tryd.underlying71 Tryd.underlying5 Tryd.underlying9 (fun j hj => by
    rw [Go.WideShapes.add_plain, Nat.zero_add]
    have hj' : j < 2 := hj
    match j, hj' with
    | 0, _ =>
      have := Sm.c_nat (n / 10)
      simp [this]
    | 1, _ =>
      have := Sm.c_nat n
      simp [this])
set_option maxHeartbeats 1000000 in
theorem two_any (n : Int) (h0 : 0 ≤ n) (h1 : n ≤ 9999) (w : World) : Calls Tryd.prog 40 #[.int .i64 n] w (StrPost (Ml.two n) w) := by
  have e1 : n.tdiv 10 = n / 10 := Int.tdiv_eq_ediv_of_nonneg h0
  have e2 : (n / 10).tmod 10 = n / 10 % 10 := Int.tmod_eq_emod_of_nonneg (by omega)
  have e3 : n.tmod 10 = n % 10 := Int.tmod_eq_emod_of_nonneg h0
  have hback := two_cells w n
  go_enter Tryd.func40, Tryd.ntmps40
  go_wp2_with fail
  go_ret
  exact ⟨rfl, bbox (Below.refl _ _) _⟩
set_option maxHeartbeats 1000000 in
theorem rtwo_any (n : Int) (h0 : 0 ≤ n) (h1 : n ≤ 99) (w : World) : Calls Tryd.prog 43 #[.int .i64 n] w (StrPost (Ml.two n) w) := by
  have e1 : n.tdiv 10 = n / 10 % 10 := by rw [Int.tdiv_eq_ediv_of_nonneg h0]; omega
  have e3 : n.tmod 10 = n % 10 := Int.tmod_eq_emod_of_nonneg h0
  have hback := two_cells w n
  go_enter Tryd.func43, Tryd.ntmps43
  go_wp2_with fail
  go_ret
  exact ⟨rfl, bbox (Below.refl _ _) _⟩
/-- A map of names. -/
def Nmd (N : List ByteArray) (first : Int) (w : World) (b : Nat) : Prop := ∃ f, MapF Tryd.prog 9 okI w b N.length f ∧ ∀ s, f (.string s) = (Ml.nmF N first s).map fun k => .int .i64 k
theorem named_any {N : List ByteArray} {first : Int} {b : Nat} {w : World} (h : Nmd N first w b) (k : Int) (nm : ByteArray) (h1 : Ml.nmF N first nm = some k) (h2 : ∀ s, Ml.nmF N first s = some k → s = nm) (hsz : nm.size ≤ 1000) : Calls Tryd.prog 39 #[.map (some b), .int .i64 k] w (StrPost nm w) := by
  obtain ⟨f, hm, hf⟩ := h
  refine name_any b _ f k nm w hm ?_ ?_ hsz
  · rw [hf, h1]
    rfl
  · intro s hs
    rw [hf] at hs
    apply h2
    cases hn : Ml.nmF N first s with
    | none => rw [hn] at hs; cases hs
    | some x =>
      rw [hn] at hs
      cases hs
      rfl
theorem dname_any {b : Nat} {w : World} (h : Nmd Ml.dys 0 w b) (k : Int) (h0 : 0 ≤ k) (h1 : k ≤ 6) : Calls Tryd.prog 39 #[.map (some b), .int .i64 k] w (StrPost (Ml.dyN k) w) :=
  named_any h k _ (Ml.dy_is h0 h1).1 (fun s hs => Ml.dy_one hs) (by rw [(Ml.dy_is h0 h1).2]; omega)
theorem mname_any {b : Nat} {w : World} (h : Nmd Ml.mths 1 w b) (k : Int) (h0 : 1 ≤ k) (h1 : k ≤ 12) : Calls Tryd.prog 39 #[.map (some b), .int .i64 k] w (StrPost (Ml.moN k) w) :=
  named_any h k _ (Ml.mo_is h0 h1).1 (fun s hs => Ml.mo_one hs) (by rw [(Ml.mo_is h0 h1).2]; omega)
def MapPost (N : List ByteArray) (first : Int) (w : World) (e : Ending) (w' : World) : Prop := ∃ b, e = .returned (.map (some b)) ∧ Nmd N first w' b ∧ Below w.heap.size w w'
theorem days_map (w : World) : Calls Tryd.prog 37 #[] w (MapPost Ml.dys 0 w) := (days_any w).mono fun e w' h => by
  obtain ⟨b, f, h1, _, h3, h4, h5⟩ := h
  exact ⟨b, h1, ⟨f, h3, h4⟩, h5⟩
theorem months_map (w : World) : Calls Tryd.prog 35 #[] w (MapPost Ml.mths 1 w) := (months_any w).mono fun e w' h => by
  obtain ⟨b, f, h1, _, h3, h4, h5⟩ := h
  exact ⟨b, h1, ⟨f, h3, h4⟩, h5⟩
end Go.Proofs.YtfgchphadeogpaaDoor
