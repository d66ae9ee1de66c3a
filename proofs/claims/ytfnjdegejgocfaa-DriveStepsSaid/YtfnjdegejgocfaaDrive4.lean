/- The machine's steps on a sound table. -/
import Derived.Test.YtfnjdegejgocfaaDrive3
set_option linter.unusedVariables false
set_option linter.unusedSimpArgs false
namespace Go.Proofs.Ytfnjdegejgocfaa.Rf
open Go

theorem Chk.state {t : Tb} {tokens sorts s : Int} (c : Chk t tokens sorts) (h0 : 0 ≤ s) (h1 : s < (t.1.length : Int)) : ∃ r g, t.1[s.toNat]? = some r ∧ t.2.1[s.toNat]? = some g ∧ (r.length : Int) = tokens + 1 ∧ (g.length : Int) = sorts ∧ r.all (okA t) = true ∧ g.all (okG t) = true := by
  have a1 : s.toNat < t.1.length := by omega
  have a2 : s.toNat < t.2.1.length := by have := c.g; omega
  refine ⟨_, _, List.getElem?_eq_getElem a1, List.getElem?_eq_getElem a2, ?_⟩
  exact Classical.byContradiction fun h => c.st ⟨s.toNat, a1, (stBad_iff a1 a2).2 h⟩
theorem Chk.prod {t : Tb} {tokens sorts p : Int} (c : Chk t tokens sorts) (h0 : 0 ≤ p) (h1 : p < (t.2.2.1.length : Int)) : ∃ s n, t.2.2.1[p.toNat]? = some s ∧ t.2.2.2[p.toNat]? = some n ∧ 0 ≤ s ∧ s < sorts ∧ 0 ≤ n ∧ n ≤ 12 := by
  have a1 : p.toNat < t.2.2.1.length := by omega
  have a2 : p.toNat < t.2.2.2.length := by have := c.l; omega
  refine ⟨_, _, List.getElem?_eq_getElem a1, List.getElem?_eq_getElem a2, ?_⟩
  exact Classical.byContradiction fun h => c.pr ⟨p.toNat, a1, (prBad_iff a1 a2).2 h⟩

def top (st : List Int) : Int := st.getD (st.length - 1) 0
theorem top_get {st : List Int} (h : st ≠ []) : st[st.length - 1]? = some (top st) := by
  have : st.length - 1 < st.length := by
    have := List.length_pos_iff.2 h; omega
  unfold top
  rw [List.getElem?_eq_getElem this, List.getD_eq_getElem?_getD, List.getElem?_eq_getElem this]; rfl
theorem top_snoc (st : List Int) (x : Int) : top (st ++ [x]) = x := by
  unfold top; simp [List.getD_eq_getElem?_getD]
/-- A stack of states. -/
structure VS (t : Tb) (st : List Int) : Prop where
  ne : st ≠ []
  ok : ∀ s ∈ st, 0 ≤ s ∧ s < (t.1.length : Int)
theorem VS.top {t : Tb} {st : List Int} (h : VS t st) : 0 ≤ top st ∧ Rf.top st < (t.1.length : Int) := h.ok _ (List.mem_of_getElem? (top_get h.ne))
theorem VS.snoc {t : Tb} {st : List Int} {x : Int} (h : ∀ s ∈ st, 0 ≤ s ∧ s < (t.1.length : Int)) (h0 : 0 ≤ x) (h1 : x < (t.1.length : Int)) : VS t (st ++ [x]) := by
  refine ⟨by simp, fun s hs => ?_⟩
  rcases List.mem_append.1 hs with hs | hs
  · exact h s hs
  · simp at hs; rw [hs]; exact ⟨h0, h1⟩

theorem p54_eq (t : Tb) (st : List Int) (d : Bool) (h : st ≠ []) (hl : st.length ≤ maxLen) : p54 N0 (some (t, (st, d)), ()) = some ((top st, ()), ()) := by
  unfold p54
  have hp := List.length_pos_iff.2 h
  have e0 : (0 : Int) ≤ (st.length : Int) - 1 := by omega
  have e1 : ((st.length : Int) - 1).toNat = st.length - 1 := by omega
  simp only [wrap_pred hl, e0, if_true, e1, top_get h]

def act (t : Tb) (s tok : Int) : Int × Int := if 0 ≤ tok then ((t.1[s.toNat]?.getD [])[tok.toNat]?).getD (0, 0) else (0, 0)
theorem p77_eq (t : Tb) (s tok : Int) (h0 : 0 ≤ s) (h1 : s < (t.1.length : Int)) : p77 N0 (t, (s, (tok, ()))) = some ((act t s tok, ()), ()) := by
  unfold p77 act
  have a1 : s.toNat < t.1.length := by omega
  have b0 : ¬ s < 0 := by omega
  have b1 : ¬ (t.1.length : Int) ≤ s := by omega
  simp only [joinB_eq, bif_eq, decide_eq_true_eq, b0, b1, if_false, h0, if_true, List.getElem?_eq_getElem a1, Option.getD_some]
  generalize t.1[s.toNat] = r
  by_cases c0 : tok < 0
  · have : ¬ 0 ≤ tok := by omega
    simp [c0, this]
  · have c0' : 0 ≤ tok := by omega
    by_cases c1 : (r.length : Int) ≤ tok
    · have : r[tok.toNat]? = none := List.getElem?_eq_none (by omega)
      simp [c0, c0', c1, this]
    · have c2 : tok.toNat < r.length := by omega
      simp [c0, c0', c1, List.getElem?_eq_getElem c2]
theorem act_cases {t : Tb} {tokens sorts s : Int} (c : Chk t tokens sorts) (h0 : 0 ≤ s) (h1 : s < (t.1.length : Int)) (tok : Int) : okA t (act t s tok) = true := by
  obtain ⟨r, g, e1, _, _, _, e2, _⟩ := c.state h0 h1
  unfold act
  split
  · rw [e1]
    simp only [Option.getD_some]
    cases hr : r[tok.toNat]? with
    | none => rfl
    | some a => exact List.all_eq_true.1 e2 _ (List.mem_of_getElem? hr)
  · rfl

def goto (t : Tb) (s x : Int) : Int := ((t.2.1[s.toNat]?.getD [])[x.toNat]?).getD 0
theorem goto_ok {t : Tb} {tokens sorts s x : Int} (c : Chk t tokens sorts) (h0 : 0 ≤ s) (h1 : s < (t.1.length : Int)) (x0 : 0 ≤ x) (x1 : x < sorts) :
    ∃ g, t.2.1[s.toNat]? = some g ∧ (g.length : Int) = sorts ∧ g[x.toNat]? = some (goto t s x) ∧ -1 ≤ goto t s x ∧ goto t s x < (t.1.length : Int) := by
  obtain ⟨r, g, _, e1, _, e2, _, e3⟩ := c.state h0 h1
  have hx : x.toNat < g.length := by omega
  have hg : goto t s x = g[x.toNat] := by unfold goto; rw [e1]; simp [List.getElem?_eq_getElem hx]
  have := List.all_eq_true.1 e3 _ (List.getElem_mem hx)
  simp only [okG, Bool.and_eq_true, decide_eq_true_eq] at this
  exact ⟨g, e1, e2, by rw [hg, List.getElem?_eq_getElem hx], by rw [hg]; exact this.1, by rw [hg]; exact this.2⟩
theorem p86_eq {t : Tb} {tokens sorts s x : Int} (c : Chk t tokens sorts) (h0 : 0 ≤ s) (h1 : s < (t.1.length : Int)) (x0 : 0 ≤ x) (x1 : x < sorts) : p86 N0 (t, (s, (x, ()))) = some ((goto t s x, ()), ()) := by
  obtain ⟨g, e1, e2, e3, _⟩ := goto_ok c h0 h1 x0 x1
  unfold p86
  have b0 : ¬ s < 0 := by omega
  have b1 : ¬ (t.2.1.length : Int) ≤ s := by rw [c.g]; omega
  have b2 : ¬ x < 0 := by omega
  have b3 : ¬ (g.length : Int) ≤ x := by omega
  simp only [joinB_eq, bif_eq, decide_eq_true_eq, b0, b1, b2, if_false, h0, if_true, e1, b3, e3, x0]

/-- A production is done: the stack after it. -/
def red (t : Tb) (st : List Int) (p : Int) : Option (List Int) :=
  if (st.length : Int) - (t.2.2.2[p.toNat]?).getD 0 < 1 then none
  else if goto t (st.getD ((st.length : Int) - (t.2.2.2[p.toNat]?).getD 0 - 1).toNat 0) ((t.2.2.1[p.toNat]?).getD 0) < 0 then none
  else some (st.take ((st.length : Int) - (t.2.2.2[p.toNat]?).getD 0).toNat ++ [goto t (st.getD ((st.length : Int) - (t.2.2.2[p.toNat]?).getD 0 - 1).toNat 0) ((t.2.2.1[p.toNat]?).getD 0)])

theorem p78_eq {t : Tb} {tokens sorts p : Int} (c : Chk t tokens sorts) {st : List Int} (hv : VS t st) (hl : st.length ≤ 10000000) (d : Bool) (h0 : 0 ≤ p) (h1 : p < (t.2.2.1.length : Int)) :
    p78 N0 ((t, (st, d)), (p, ())) = match red t st p with | none => some ((23, ()), ((t, (st, d)), ())) | some st' => some ((0, ()), ((t, (st', d)), ())) := by
  obtain ⟨s, n, e1, e2, s0, s1, n0, n1⟩ := c.prod h0 h1
  unfold p78 red
  have w1 : IntKind.wrap .i64 ((st.length : Int) - n) = (st.length : Int) - n := wrap_in (by omega) (by omega)
  have w2 : IntKind.wrap .i64 ((st.length : Int) - n - 1) = (st.length : Int) - n - 1 := wrap_in (by omega) (by omega)
  simp only [h0, if_true, e2, e1, w1, w2, bif_eq, decide_eq_true_eq, Option.getD_some]
  by_cases h2 : (st.length : Int) - n < 1
  · simp only [h2, if_true]
  have h3 : (0 : Int) ≤ (st.length : Int) - n - 1 := by omega
  have h4 : ((st.length : Int) - n - 1).toNat < st.length := by omega
  have h5 := hv.ok _ (List.getElem_mem h4)
  have h6 : st.getD ((st.length : Int) - n - 1).toNat 0 = st[((st.length : Int) - n - 1).toNat] := by rw [List.getD_eq_getElem?_getD, List.getElem?_eq_getElem h4]; rfl
  simp only [h2, if_false, h3, if_true, List.getElem?_eq_getElem h4, h6]
  rw [p86_eq c h5.1 h5.2 s0 s1]
  obtain ⟨_, _, _, _, _, g1⟩ := goto_ok c h5.1 h5.2 s0 s1
  simp only [callB_some]
  generalize goto t st[((st.length : Int) - n - 1).toNat] s = to
  by_cases h7 : to < 0
  · simp only [h7, if_true]
  · have h8 : (0 : Int) ≤ 0 ∧ 0 ≤ (st.length : Int) - n ∧ (st.length : Int) - n ≤ (st.length : Int) := by omega
    have h9 : cutL st 0 ((st.length : Int) - n) = st.take ((st.length : Int) - n).toNat := by unfold cutL; simp
    simp only [h7, if_false, h8, and_self, if_true, h9, List.length_take, List.length_cons, List.length_nil]
    rw [if_pos (by omega), if_pos (by omega)]
theorem red_ok {t : Tb} {tokens sorts p : Int} (c : Chk t tokens sorts) {st st' : List Int} (hv : VS t st) (h0 : 0 ≤ p) (h1 : p < (t.2.2.1.length : Int)) (h : red t st p = some st') : VS t st' ∧ st'.length ≤ st.length + 1 := by
  obtain ⟨s, n, e1, e2, s0, s1, n0, n1⟩ := c.prod h0 h1
  unfold red at h
  simp only [e1, e2, Option.getD_some] at h
  split at h
  · cases h
  rename_i h2
  have h4 : ((st.length : Int) - n - 1).toNat < st.length := by omega
  have h5 := hv.ok _ (List.getElem_mem h4)
  have h6 : st.getD ((st.length : Int) - n - 1).toNat 0 = st[((st.length : Int) - n - 1).toNat] := by rw [List.getD_eq_getElem?_getD, List.getElem?_eq_getElem h4]; rfl
  rw [h6] at h
  obtain ⟨_, _, _, _, _, g1⟩ := goto_ok c h5.1 h5.2 s0 s1
  split at h
  · cases h
  rename_i h7
  injection h with h
  rw [← h]
  refine ⟨VS.snoc (fun s hs => hv.ok s (List.mem_of_mem_take hs)) (by omega) g1, ?_⟩
  simp only [List.length_append, List.length_take, List.length_cons, List.length_nil]
  omega
end Go.Proofs.Ytfnjdegejgocfaa.Rf
