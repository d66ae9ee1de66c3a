/- slices.Grow of an empty row: an empty row with room. By hand: it looks at a row's capacity. -/
import Derived.Test.YtfnjdegejgocfaaGrow84
import Derived.WalkKit
import Derived.Lib.Hide
import Derived.Lib.AppendZerosOnto
set_option linter.unusedVariables false
set_option linter.unusedSimpArgs false
namespace Go.Proofs.Ytfnjdegejgocfaa.Rf
open Go Go.RowKit

theorem grow_same83 (n : Int) (ao : Option Addr) (cap : Nat) (w : World) (h0 : 0 ≤ n) (hn : n ≤ 9223372036854775807) (hc : (cap : Int) ≤ 9223372036854775807) (h : n ≤ cap) :
    Calls Try.prog 83 #[.slice ao 0 cap, .int .i64 n] w fun e w' => e = .returned (.slice ao 0 cap) ∧ w' = w := by
  have h1 : ¬ 0 < n - cap := by omega
  go_enter Try.func83, Try.ntmps83
  go_wp2
  go_ret
  exact ⟨rfl, rfl⟩

set_option maxRecDepth 100000 in
theorem grow_nil83 (n : Int) (w : World) (h0 : 0 < n) (hn : n ≤ 1000000) (v : Value) (w1 : World) (ao : Option Addr) (c2 : Nat) (hc2 : 0 < c2)
    (happ : ∀ ty, (Builtin.append_ #[55, 3] ty #[.slice ao 0 0, .int .i64 n]).run Try.prog w = .ok (.slice (some ⟨w.heap.size, 0, none⟩) n.toNat c2) w1) :
    Calls Try.prog 83 #[.slice ao 0 0, .int .i64 n] w fun e w' => e = .returned (.slice (some ⟨w.heap.size, 0, none⟩) 0 c2) ∧ w' = w1 := by
  have H := Lib.hid happ
  clear happ
  go_enter Try.func83, Try.ntmps83
  go_wp2_with (at_builtin; refine wpList_append_run _ rfl _ _ 55 3 rfl (.slice ao 0 0) (.int .i64 n) rfl rfl _ _ H.out ?_)
  go_ret
  exact ⟨rfl, rfl⟩

set_option maxRecDepth 100000 in
theorem grow_cap83 (n : Int) (w : World) (cap : Nat) (h0 : (cap : Int) < n) (hc : 0 < cap) (hn : n ≤ 1000000) (v : Value) (w1 : World) (b off : Nat) (c2 : Nat) (hc2 : 0 < c2)
    (happ : ∀ ty, (Builtin.append_ #[55, 3] ty #[.slice (some ⟨b, off, none⟩) cap cap, .int .i64 (n - cap)]).run Try.prog w = .ok (.slice (some ⟨w.heap.size, 0, none⟩) n.toNat c2) w1) :
    Calls Try.prog 83 #[.slice (some ⟨b, off, none⟩) 0 cap, .int .i64 n] w fun e w' => e = .returned (.slice (some ⟨w.heap.size, 0, none⟩) 0 c2) ∧ w' = w1 := by
  have hcz : cap ≠ 0 := by omega
  have H := Lib.hid happ
  clear happ
  go_enter Try.func83, Try.ntmps83
  go_wp2_with (at_builtin; refine wpList_append_run _ rfl _ _ 55 3 rfl (.slice (some ⟨b, off, none⟩) cap cap) (.int .i64 (n - cap)) ?_ rfl _ _ H.out ?_)
  · simp [Act.eval, hcz, Addr.add]
  · go_ret
    exact ⟨rfl, rfl⟩

/-- What it computes, where it is asked so. -/
noncomputable def p83 (n : Nat) (x : List (Bool × Int) × (Int × Unit)) : Option ((List (Bool × Int) × Unit) × Unit) := if x.1 = [] ∧ 0 ≤ x.2.1 ∧ x.2.1 ≤ 1000000 then some (([], ()), ()) else none
theorem plain83 : Plain Try.prog 83 := ⟨_, Try.func83, by kernel_rfl, by kernel_rfl⟩
theorem ok83 (N : Nat) : FnOk Try.prog 83 ⟨[(.sl (.st (.pair .bool (.int .i64))), .own .ro), (.int .i64, .ro)], [(.sl (.st (.pair .bool (.int .i64))), .own .ro)], [], [], p83 N⟩ := by
  rintro ⟨xs, n0, u⟩ r hd F w S vs hargs hSF hF hS
  obtain ⟨n, hnn⟩ : ∃ n : Int, n = n0 := ⟨n0, rfl⟩
  subst hnn
  have hd2 : p83 N (xs, n, u) = some r := hd
  clear hd
  unfold p83 at hd2
  split at hd2
  case isFalse => cases hd2
  rename_i hc
  obtain ⟨hx, h0, hn⟩ := hc
  simp only at hx h0 hn
  subst hx
  injection hd2 with hd2
  subst hd2
  obtain ⟨v1, vs1, cs1, S1, S2, rfl, hr1, hv1, ⟨v2, vs2, cs2, S3, S4, rfl, hr2, hv2, h3, _⟩, s1, s2, d⟩ := hargs
  cases h3
  obtain ⟨rfl, hv2⟩ : v2 = .int .i64 n ∧ True := by
    obtain ⟨e, _⟩ := vr_int hr2 hv2
    exact ⟨e, trivial⟩
  have hr0 := hr1
  obtain ⟨ao, cap, rfl, hle, hcm, hor⟩ := hr1
  have hv1e : v1 = .slice ao 0 cap := by simp [VR, Ty.agg] at hv1; exact hv1.1.symm
  subst hv1e
  have hcm' : (cap : Int) ≤ 9223372036854775807 := by unfold maxLen at hcm; omega
  have hlt1 : ∀ k, S1 k → k < w.heap.size := fun k hk => hS k (s1 k hk)
  obtain ⟨i, z, hi, hi1, hi2, hi3, hi4⟩ := (k105).info
  have hz : z.cells.size = 2 := by rw [← Array.length_toList, hi4]; rfl
  have hsz1 : i.size = 2 := hi1
  have hby : i.bytes = 16 := hi2
  -- behind the growing
  have fin : ∀ (w1 : World) (c2 : Nat) (arr : Array Value), w1 = w.drew.alloc (.cells arr 105) → c2 * 2 ≤ arr.size → c2 ≤ maxLen → FnPost ⟨[(.sl (.st (.pair .bool (.int .i64))), .own .ro), (.int .i64, .ro)], [(.sl (.st (.pair .bool (.int .i64))), .own .ro)], [], [], p83 N⟩ (([], ()), ()) F w S [.slice ao 0 cap, .int .i64 n] (.returned (.slice (some ⟨w.heap.size, 0, none⟩) 0 c2)) w1 := by
    rintro w1 c2 arr rfl hc2 hm
    refine ⟨[.slice (some ⟨w.heap.size, 0, none⟩) 0 c2], F, fun k => k = w.heap.size, BSet.none, rfl, ⟨_, [], [.slice (some ⟨w.heap.size, 0, none⟩) 0 c2], fun k => k = w.heap.size, BSet.none, rfl, ?_, by simp [VR, Ty.agg, Value.oneCell'], rfl, Sub.refl _, fun _ h => h.elim, fun _ _ h => h.elim⟩, rfl, fun _ _ h => h.elim, ?_, Sub.refl _, ?_, fun k hk _ _ => hk, ?_⟩
    · exact ⟨_, c2, rfl, Nat.zero_le _, hm, .inr ⟨w.heap.size, 0, arr, Mark.free _ 105, rfl, alloc_new w.drew _, by simpa [Ty.width] using hc2, rfl, BSet.none, by simp [RepL], fun _ h => h.elim, fun h => h⟩⟩
    · exact ⟨rfl, rfl, rfl, by rw [alloc_size]; exact Nat.le_succ _, fun k hk _ => alloc_old w.drew _ hk⟩
    · intro k hk; rw [alloc_size]; exact Nat.lt_succ_of_lt (hF k hk)
    · rintro k (hk | hk)
      · subst hk
        exact ⟨by rw [alloc_size]; exact Nat.lt_succ_self _, fun hf => Nat.lt_irrefl _ (hF _ hf), fun h => absurd h (Nat.lt_irrefl _)⟩
      · exact hk.elim
  by_cases hle2 : n ≤ cap
  · refine (grow_same83 n ao cap w h0 (by omega) hcm' hle2).mono fun e w' he => ?_
    obtain ⟨rfl, rfl⟩ := he
    refine ⟨[.slice ao 0 cap], F, S1, BSet.none, rfl, ⟨_, [], [.slice ao 0 cap], S1, BSet.none, rfl, hr0, by simp [VR, Ty.agg, Value.oneCell'], rfl, Sub.refl _, fun _ h => h.elim, fun _ _ h => h.elim⟩, rfl, fun _ _ h => h.elim, ⟨rfl, rfl, rfl, Nat.le_refl _, fun _ _ _ => rfl⟩, Sub.refl _, hF, fun k hk _ _ => hk, ?_⟩
    rintro k (hk | hk)
    · exact ⟨hlt1 k hk, fun hf => hSF k (s1 k hk) hf, fun _ => s1 k hk⟩
    · exact hk.elim
  · have hlt : (cap : Int) < n := by omega
    obtain ⟨k, rfl⟩ : ∃ k : Nat, n = k := ⟨n.toNat, by omega⟩
    have hg := grownCap_ge w k cap 105
    have hg2 := grownCap_le_maxLen w k cap 105 (by unfold maxLen; omega)
    rcases Nat.eq_zero_or_pos cap with hz0 | hp
    · subst hz0
      have hrun : ∀ ty, (Builtin.append_ #[55, 3] ty #[.slice ao 0 0, .int .i64 (k : Int)]).run Try.prog w = .ok (.slice (some ⟨w.heap.size, 0, none⟩) k (grownCap w k 0 105)) _ := fun ty => by
        have := Lib.run_append_grow_zeros (P := Try.prog) w 55 3 ty 105 i z .i64 .i64 Try.underlying55 Try.underlying3 hi hi3 ao 0 0 [] (by
          cases ao with
          | none => simp [Builtin.firstCells]
          | some ad => exact run_firstCells_some w.drew i.size 0 ad 0 0 [] (by simp) (fun j v hj => by simp at hj)) k (by omega) (by omega) (by omega) (by omega) (by rw [hby]; omega) (by rw [Nat.zero_add, hby]; exact growslice_fits (by omega) (by omega))
        rw [Nat.zero_add] at this
        exact this
      refine (grow_nil83 (k : Int) w (by omega) (by omega) default _ ao (grownCap w k 0 105) (by omega) (by simpa using hrun)).mono fun e w' he => ?_
      obtain ⟨rfl, rfl⟩ := he
      refine fin _ _ _ rfl ?_ hg2
      simp only [Array.size_append, zeros_size, hz, List.size_toArray, List.length_nil]
      omega
    · rcases hor with h | ⟨b, off, c, e, rfl, hb, hcs, hSb, S0, hr, t1, n1⟩
      · omega
      simp only [Ty.width] at hcs
      have hat : ∀ j v, ((c.toList.drop off).take (cap * 2))[j]? = some v → w.drew.cell? ((⟨b, off, none⟩ : Addr).add j) = some v := by
        intro j v hj
        rw [List.getElem?_take] at hj
        split at hj
        · rw [List.getElem?_drop] at hj
          rw [Addr.add_lit]
          have hb' : w.drew.heap[b]? = some (.cells c e.t (e.a, e.b)) := hb
          simp [World.cell?, hb']
          simpa using hj
        · cases hj
      have hol : ((c.toList.drop off).take (cap * 2)).length = cap * 2 := by simp; omega
      have hrun : ∀ ty, (Builtin.append_ #[55, 3] ty #[.slice (some ⟨b, off, none⟩) cap cap, .int .i64 ((k : Int) - cap)]).run Try.prog w = .ok (.slice (some ⟨w.heap.size, 0, none⟩) k (grownCap w k cap 105)) _ := fun ty => by
        have := Lib.run_append_grow_zeros (P := Try.prog) w 55 3 ty 105 i z .i64 .i64 Try.underlying55 Try.underlying3 hi hi3 (some ⟨b, off, none⟩) cap cap ((c.toList.drop off).take (cap * 2)) (by
          rw [hsz1]
          exact run_firstCells_some w.drew 2 cap ⟨b, off, none⟩ cap cap _ (by rw [hol]) hat) (k - cap) (by omega) (by omega) (by omega) (by omega) (by rw [hby]; omega) (by rw [show cap + (k - cap) = k by omega, hby]; exact growslice_fits (by omega) (by omega))
        rw [show cap + (k - cap) = k by omega, show ((k - cap : Nat) : Int) = (k : Int) - cap by omega] at this
        exact this
      refine (grow_cap83 (k : Int) w cap hlt hp (by omega) default _ b off (grownCap w k cap 105) (by omega) (by simpa using hrun)).mono fun e' w' he => ?_
      obtain ⟨rfl, rfl⟩ := he
      refine fin _ _ _ rfl ?_ hg2
      simp only [Array.size_append, zeros_size, hz, List.size_toArray, hol]
      omega
end Go.Proofs.Ytfnjdegejgocfaa.Rf
