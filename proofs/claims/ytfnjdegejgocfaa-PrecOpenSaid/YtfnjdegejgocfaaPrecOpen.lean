/- PrecOpen: without levels all is open; levels turned round turn the decisions. The plain law. -/
import Derived.Test.YtfnjdegejgocfaaPrec
set_option linter.unusedVariables false
set_option linter.unusedSimpArgs false
namespace Go.Proofs.Ytfnjdegejgocfaa.Rf
open Go

/-- No rule stands in two levels. -/
def Uni (ls : List Lvl) : Prop := ∀ i k (hi : i < ls.length) (hk : k < ls.length), k < i → ∀ r, r ∈ ls[i].2 → r ∈ ls[k].2 → False

theorem lev_none {r : Int} : ∀ {ls : List Lvl} {i : Nat}, (∀ l ∈ ls, r ∉ l.2) → lev r ls i = (0, 0) := by
  intro ls
  induction ls with
  | nil => intro i _; rfl
  | cons l ls ih => intro i h; rw [lev, if_neg (h l (by simp))]; exact ih (fun l' hl => h l' (by simp [hl]))
theorem lev_some {r : Int} : ∀ {ls : List Lvl} {i j : Nat} (hj : j < ls.length), r ∈ ls[j].2 → (∀ k (hk : k < ls.length), k < j → r ∉ ls[k].2) → lev r ls i = (((i + j + 1 : Nat) : Int), ls[j].1) := by
  intro ls
  induction ls with
  | nil => intro i j hj; simp at hj
  | cons l ls ih =>
    intro i j hj hr hn
    cases j with
    | zero =>
      simp at hr
      rw [lev, if_pos hr]; simp
    | succ j =>
      have h0 : r ∉ l.2 := hn 0 (by simp) (by omega)
      rw [lev, if_neg h0]
      have := ih (i := i + 1) (j := j) (by simpa using hj) (by simpa using hr) (fun k hk hkj => hn (k + 1) (by simpa using hk) (by omega))
      rw [this]
      simp
      omega

def flip (N : Nat) (p : Int × Int) : Int × Int := if p.1 = 0 then (0, 0) else ((N : Int) + 1 - p.1, p.2)

theorem lev_rev {ls : List Lvl} (hu : Uni ls) (r : Int) : lev r ls.reverse 0 = flip ls.length (lev r ls 0) ∧ 0 ≤ (lev r ls 0).1 ∧ (lev r ls 0).1 ≤ ls.length ∧ ((lev r ls 0).1 = 0 → lev r ls 0 = (0, 0)) := by
  by_cases h : ∃ j, ∃ hj : j < ls.length, r ∈ ls[j].2
  · obtain ⟨j, hj, hr⟩ := h
    have h1 := lev_some (i := 0) hj hr (fun k hk hkj hm => hu j k hj hk hkj r hr hm)
    have hj2 : ls.length - 1 - j < ls.reverse.length := by simp; omega
    have e : ls.reverse[ls.length - 1 - j] = ls[j] := by
      rw [List.getElem_reverse]; congr 1; omega
    have h2 := lev_some (r := r) (ls := ls.reverse) (i := 0) (j := ls.length - 1 - j) hj2 (by rw [e]; exact hr) (fun k hk hkj hm => by
      simp at hk
      rw [List.getElem_reverse] at hm
      exact hu (ls.length - 1 - k) j (by omega) hj (by omega) r hm hr)
    rw [h1, h2, e]
    refine ⟨?_, by simp; omega, by simp; omega, fun h => by simp at h; omega⟩
    unfold flip
    simp only
    rw [if_neg (by omega)]
    congr 1
    omega
  · have hn : ∀ l ∈ ls, r ∉ l.2 := fun l hl hr => by
      obtain ⟨j, hj⟩ := List.mem_iff_getElem.1 hl
      obtain ⟨hj, e⟩ := hj
      exact h ⟨j, hj, by rw [e]; exact hr⟩
    rw [lev_none hn, lev_none (fun l hl => hn l (by simpa using hl))]
    simp [flip]

/-- What a strength keeps to. -/
def Str (N : Nat) (p : Int × Int) : Prop := 0 ≤ p.1 ∧ p.1 ≤ N ∧ (p.1 = 0 → p = (0, 0))

theorem fold_rev {ls : List Lvl} (hu : Uni ls) : ∀ (body : List (Bool × Int)) (acc : Int × Int), Str ls.length acc → body.foldl (stronger ls.reverse) (flip ls.length acc) = flip ls.length (body.foldl (stronger ls) acc) ∧ Str ls.length (body.foldl (stronger ls) acc) := by
  intro body
  induction body with
  | nil => intro acc h; exact ⟨rfl, h⟩
  | cons s body ih =>
    intro acc h
    obtain ⟨e, h1, h2, h3⟩ := lev_rev hu s.2
    have hs : stronger ls.reverse (flip ls.length acc) s = flip ls.length (stronger ls acc s) ∧ Str ls.length (stronger ls acc s) := by
      unfold stronger
      by_cases hb : s.1 = true
      · rw [if_pos hb, if_pos hb]; exact ⟨rfl, h⟩
      · rw [if_neg hb, if_neg hb]
        simp only [e]
        by_cases hp : 0 < (lev s.2 ls 0).1
        · have : 0 < (flip ls.length (lev s.2 ls 0)).1 := by unfold flip; rw [if_neg (by omega)]; simp only; omega
          rw [if_pos hp, if_pos this]
          exact ⟨rfl, h1, h2, h3⟩
        · have h0 : (lev s.2 ls 0).1 = 0 := by omega
          have : ¬ 0 < (flip ls.length (lev s.2 ls 0)).1 := by unfold flip; rw [if_pos h0]; simp
          rw [if_neg hp, if_neg this]
          exact ⟨rfl, h⟩
    rw [List.foldl_cons, List.foldl_cons, hs.1]
    exact ih _ hs.2

def turned (g : Grm) : Grm := (g.1, (g.2.1, (g.2.2.1, (g.2.2.2.1.reverse, g.2.2.2.2))))
theorem ofp_rev {g : Grm} (hu : Uni g.2.2.2.1) (n : Int) : ofp (turned g) n = flip g.2.2.2.1.length (ofp g n) ∧ Str g.2.2.2.1.length (ofp g n) := by
  have z : Str g.2.2.2.1.length (0, 0) := ⟨by simp, by simp, fun _ => rfl⟩
  have fz : flip g.2.2.2.1.length (0, 0) = (0, 0) := by simp [flip]
  unfold ofp turned
  simp only
  by_cases h : n < 0 ∨ (g.2.2.1.length : Int) ≤ n
  · rw [if_pos h, if_pos h, fz]; exact ⟨rfl, z⟩
  · rw [if_neg h, if_neg h]
    cases hp : g.2.2.1[n.toNat]? with
    | none => simp only; rw [fz]; exact ⟨rfl, z⟩
    | some p =>
      simp only
      by_cases hq : 0 ≤ p.2.2.2.2.1
      · rw [if_pos hq, if_pos hq]
        obtain ⟨e, h1⟩ := lev_rev hu p.2.2.2.2.1
        exact ⟨e, h1⟩
      · rw [if_neg hq, if_neg hq]
        have := fold_rev hu p.2.2.1 (0, 0) z
        rw [fz] at this
        exact this

theorem dec_flip {N : Nat} {a b : Int × Int} (ha : Str N a) (hb : Str N b) :
    ((a.1 = 0 ∨ b.1 = 0 ∨ a.1 = b.1) → dec a b = dec (flip N a) (flip N b)) ∧ (¬ (a.1 = 0 ∨ b.1 = 0 ∨ a.1 = b.1) → dec a b + dec (flip N a) (flip N b) = 1) := by
  obtain ⟨a1, a2, a3⟩ := ha
  obtain ⟨b1, b2, b3⟩ := hb
  by_cases h1 : a.1 = 0
  · constructor
    · intro _; simp [dec, flip, h1]
    · intro h; exact absurd (.inl h1) h
  by_cases h2 : b.1 = 0
  · constructor
    · intro _; simp [dec, flip, h2]
    · intro h; exact absurd (.inr (.inl h2)) h
  have fa : flip N a = ((N : Int) + 1 - a.1, a.2) := by unfold flip; rw [if_neg h1]
  have fb : flip N b = ((N : Int) + 1 - b.1, b.2) := by unfold flip; rw [if_neg h2]
  rw [fa, fb]
  unfold dec
  simp only
  constructor
  · intro h
    have h3 : a.1 = b.1 := by omega
    rw [h3]
    repeat' split
    all_goals omega
  · intro h
    repeat' split
    all_goals omega
theorem dec_range (a b : Int × Int) : 0 ≤ dec a b ∧ dec a b ≤ 3 := by
  unfold dec
  repeat' split
  all_goals omega

/-- The rules of a level. -/
def rl (ls : List Lvl) (i : Nat) : List Int := match ls[i]? with | some l => l.2 | none => []
def Dup (ls : List Lvl) : Prop := ∃ i, i < ls.length ∧ ∃ k, k < i ∧ ∃ n, n < (rl ls i).length ∧ ∃ m, m < (rl ls k).length ∧ (rl ls i)[n]? = (rl ls k)[m]?
theorem uni_of {ls : List Lvl} (h : ¬ Dup ls) : Uni ls := by
  intro i k hi hk hki r h1 h2
  obtain ⟨n, hn, e1⟩ := List.mem_iff_getElem.1 h1
  obtain ⟨m, hm, e2⟩ := List.mem_iff_getElem.1 h2
  refine h ⟨i, hi, k, hki, n, by simpa [rl, hi] using hn, m, by simpa [rl, hk] using hm, ?_⟩
  simp [rl, hi, hk, List.getElem?_eq_getElem hn, List.getElem?_eq_getElem hm, e1, e2]

theorem p3_true (g : Grm) (prod token : Int) (hg : GOk g) : p3 N0 (g, (prod, (token, ()))) = some ((true, ()), ()) := by
  unfold p3
  simp only [p12_eq, p13_eq g hg, callB_some, bif_eq, Bool.not_true, Bool.false_eq_true, if_false]
  cases hf : few g
  · simp
  have h20 : g.2.2.2.1.length ≤ 20 := by simp [few] at hf; omega
  simp only [Bool.not_true, Bool.false_eq_true, if_false]
  have w0 : IntKind.wrap .i64 ((g.2.2.2.1.length : Int) - 1) = (g.2.2.2.1.length : Int) - 1 := wrap_in (by omega) (by omega)
  rw [w0]
  let D : Nat → List Lvl := fun j => (g.2.2.2.1.drop j).reverse
  have hD : ∀ i (hi : i < g.2.2.2.1.length), D i = D (i + 1) ++ [g.2.2.2.1[i]] := fun i hi => by
    show (g.2.2.2.1.drop i).reverse = (g.2.2.2.1.drop (i + 1)).reverse ++ _
    rw [List.drop_eq_getElem_cons hi, List.reverse_cons]
  have hDl : ∀ i, (D i).length ≤ 20 := fun i => by
    show ((g.2.2.2.1.drop i).reverse).length ≤ 20
    rw [List.length_reverse, List.length_drop]; omega
  have hD0 : D g.2.2.2.1.length = [] := by show (g.2.2.2.1.drop _).reverse = []; simp
  have key := loop_down (body := ?_) (R := (Bool × Unit) × Unit) (fun j : Nat => ((((g.1, (g.2.1, (g.2.2.1, (D j, g.2.2.2.2)))) : Grm), ()), ((j : Int) - 1, ()))) (fun j => some ((true, ()), ())) g.2.2.2.1.length ?_ N0 g.2.2.2.1.length (Nat.le_refl _) (by have := N0_lt hg.ls; omega)
  · rw [hD0] at key
    exact key
  intro j hj k hk
  rcases j with _ | i
  · have c0 : ¬ (0 : Int) ≤ ((0 : Nat) : Int) - 1 := by omega
    have hx : GOk (g.1, (g.2.1, (g.2.2.1, (([] : List Lvl), g.2.2.2.2)))) := ⟨by simp, by simp, hg.ps, hg.pb, hg.rs, hg.so⟩
    have hy : GOk (turned g) := ⟨by simpa [turned] using hg.ls, fun l hl => hg.lr l (by simpa [turned] using hl), hg.ps, hg.pb, hg.rs, hg.so⟩
    have ed : (g.1, (g.2.1, (g.2.2.1, (D 0, g.2.2.2.2)))) = turned g := by simp [turned, D]
    simp only [c0, decide_false, Bool.false_eq_true, if_false, p14_eq _ _ _ hx, callB_some, ed, p15_eq g prod hg, p16_eq g token hg.ls hg.lr, p14_eq g prod token hg, p14_eq (turned g) prod token hy, joinB_eq]
    have d3 : dec (ofp (g.1, (g.2.1, (g.2.2.1, (([] : List Lvl), g.2.2.2.2)))) prod) (lev token [] 0) = 3 := by simp [dec, lev]
    simp only [d3, decide_true, Bool.not_true, Bool.false_eq_true, if_false]
    have rlg : ∀ i (hi : i < g.2.2.2.1.length), rl g.2.2.2.1 i = g.2.2.2.1[i].2 := fun i hi => by simp [rl, hi]
    have fin : ¬ Dup g.2.2.2.1 → ((if (ofp g prod).1 = 0 ∨ (lev token g.2.2.2.1 0).1 = 0 ∨ (ofp g prod).1 = (lev token g.2.2.2.1 0).1 then decide (dec (ofp g prod) (lev token g.2.2.2.1 0) = dec (ofp (turned g) prod) (lev token (turned g).2.2.2.1 0)) else decide (dec (ofp g prod) (lev token g.2.2.2.1 0) + dec (ofp (turned g) prod) (lev token (turned g).2.2.2.1 0) = 1)) = true) := fun hd => by
      have hu := uni_of hd
      obtain ⟨e1, s1⟩ := ofp_rev hu prod
      obtain ⟨e2, s2⟩ := lev_rev hu token
      have h := dec_flip s1 s2
      rw [e1, show (turned g).2.2.2.1 = g.2.2.2.1.reverse from rfl, e2]
      split
      · rename_i h1; simp [h.1 h1]
      · rename_i h1; simp [h.2 h1]
    have mx : maxLen = 9223372036854775807 := rfl
    refine loop_any2 (fun i => ∃ k, k < i ∧ ∃ n, n < (rl g.2.2.2.1 i).length ∧ ∃ m, m < (rl g.2.2.2.1 k).length ∧ (rl g.2.2.2.1 i)[n]? = (rl g.2.2.2.1 k)[m]?) g.2.2.2.1.length _ (fun j => ((), ((j : Int), ()))) (fun i hi k1 => ?_) (fun hno k1 => ?_) N0 (by have := N0_lt hg.ls; omega)
    · have c1 : (i : Int) < (g.2.2.2.1.length : Int) := by omega
      simp only [c1, decide_true, if_true]
      refine loop_any (fun k => ∃ n, n < (rl g.2.2.2.1 i).length ∧ ∃ m, m < (rl g.2.2.2.1 k).length ∧ (rl g.2.2.2.1 i)[n]? = (rl g.2.2.2.1 k)[m]?) i _ _ (fun j => ((), ((j : Int), ()))) (fun k hk k2 => ?_) (fun k2 => by simp only [Int.lt_irrefl, decide_false, Bool.false_eq_true, if_false, wrap_succ hi hg.ls]) N0 (by unfold N0; omega)
      have c2 : (k : Int) < (i : Int) := by omega
      have hkl : k < g.2.2.2.1.length := by omega
      have rli := rlg i hi
      have rlk := rlg k hkl
      have li := hg.lr _ (List.getElem_mem hi)
      have lk := hg.lr _ (List.getElem_mem hkl)
      simp only [c2, decide_true, if_true, rli, rlk]
      refine loop_any (fun n => ∃ m, m < g.2.2.2.1[k].2.length ∧ g.2.2.2.1[i].2[n]? = g.2.2.2.1[k].2[m]?) g.2.2.2.1[i].2.length _ _ (fun j => ((), ((j : Int), ()))) (fun n hn k3 => ?_) (fun k3 => by simp only [Int.natCast_nonneg, if_true, Int.toNat_natCast, List.getElem?_eq_getElem hi, Int.lt_irrefl, decide_false, Bool.false_eq_true, if_false, wrap_succ hk (show i ≤ maxLen by omega)]) N0 (by have := N0_lt li; omega)
      have c3 : (n : Int) < (g.2.2.2.1[i].2.length : Int) := by omega
      simp only [Int.natCast_nonneg, if_true, Int.toNat_natCast, List.getElem?_eq_getElem hi, c3, decide_true]
      refine loop_any (fun m => g.2.2.2.1[i].2[n]? = g.2.2.2.1[k].2[m]?) g.2.2.2.1[k].2.length _ _ (fun j => ((), ((j : Int), ()))) (fun m hm k4 => ?_) (fun k4 => by simp only [Int.natCast_nonneg, if_true, Int.toNat_natCast, List.getElem?_eq_getElem hkl, Int.lt_irrefl, decide_false, Bool.false_eq_true, if_false, wrap_succ hn li]) N0 (by have := N0_lt lk; omega)
      have c4 : (m : Int) < (g.2.2.2.1[k].2.length : Int) := by omega
      simp only [Int.natCast_nonneg, if_true, Int.toNat_natCast, List.getElem?_eq_getElem hkl, List.getElem?_eq_getElem hi, List.getElem?_eq_getElem hn, List.getElem?_eq_getElem hm, c4, decide_true, wrap_succ hm lk, Option.some.injEq]
      constructor
      · intro e; simp [e]
      · intro e; simp [e]
    · have fin := fin hno
      simp only [Int.lt_irrefl, decide_false, Bool.false_eq_true, if_false]
      have dr := dec_range (ofp g prod) (lev token g.2.2.2.1 0)
      have dr2 := dec_range (ofp (turned g) prod) (lev token (turned g).2.2.2.1 0)
      have w3 : IntKind.wrap .i64 (dec (ofp g prod) (lev token g.2.2.2.1 0) + dec (ofp (turned g) prod) (lev token (turned g).2.2.2.1 0)) = dec (ofp g prod) (lev token g.2.2.2.1 0) + dec (ofp (turned g) prod) (lev token (turned g).2.2.2.1 0) := wrap_in (by omega) (by omega)
      rw [w3]
      by_cases h1 : (ofp g prod).1 = 0
      · simp only [h1, true_or, if_true] at fin
        simp only [h1, decide_true, if_true, fin]
      · by_cases h2 : (lev token g.2.2.2.1 0).1 = 0
        · simp only [h1, h2, true_or, or_true, if_true] at fin
          simp only [h1, h2, decide_true, decide_false, Bool.false_eq_true, if_false, if_true, fin]
        · by_cases h3 : (ofp g prod).1 = (lev token g.2.2.2.1 0).1
          · simp only [h1, h2, h3, true_or, or_true, if_true] at fin
            simp only [h1, h2, h3, decide_true, decide_false, Bool.false_eq_true, if_false, if_true, fin]
          · simp only [h1, h2, h3, or_self, if_false] at fin
            simp only [h1, h2, h3, decide_false, Bool.false_eq_true, if_false, fin]
  · have hk := hk i rfl
    have hi : i < g.2.2.2.1.length := by omega
    have e0 : ((i + 1 : Nat) : Int) - 1 = (i : Int) := by omega
    have w1 : IntKind.wrap .i64 ((i : Int) - 1) = (i : Int) - 1 := wrap_in (by omega) (by omega)
    have b1 : (List.length (D (i + 1)) + 1) * 32 ≤ 140737488355328 := by have := hDl (i + 1); omega
    have b2 : List.length (D (i + 1)) + 1 ≤ 9223372036854775807 := by have := hDl (i + 1); omega
    simp only [e0, Int.natCast_nonneg, decide_true, if_true, Int.toNat_natCast, List.getElem?_eq_getElem hi, List.length_cons, List.length_nil, Nat.zero_add, b1, b2, w1, ← hD i hi]
    exact hk
end Go.Proofs.Ytfnjdegejgocfaa.Rf
