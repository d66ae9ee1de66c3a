/- strings.Index, Cut, Count by the kit's contracts, as functions on lists of numbers; explode is not asked. By hand. -/
import Derived.Test.YtgonfcjdhbjkcaaDoorShelf
import Derived.Test.YtgonfcjdhbjkcaaDoorTab
set_option linter.unusedVariables false
set_option linter.unusedSimpArgs false
namespace Go.Proofs.YtgonfcjdhbjkcaaDoor.Rf
open Go Go.RowKit

/-- Where a row begins in another one; -1. -/
def idxI : List Int → List Int → Int
  | [], sub => if sub.isEmpty then 0 else -1
  | b :: l, sub => if sub.isPrefixOf (b :: l) then 0 else if idxI l sub = -1 then -1 else idxI l sub + 1
def cutI (s sep : List Int) : List Int × (List Int × Bool) :=
  if 0 ≤ idxI s sep then (s.take (idxI s sep).toNat, (s.drop ((idxI s sep).toNat + sep.length), true)) else (s, ([], false))
def countF (sub : List Int) : Nat → List Int → Nat
  | 0, _ => 0
  | k + 1, s => if idxI s sub = -1 then 0 else 1 + countF sub k (s.drop ((idxI s sub).toNat + sub.length))
def countI (s sub : List Int) : Nat := countF sub (s.length + 1) s

abbrev bI (l : List UInt8) : List Int := l.map fun b => (b.toNat : Int)
theorem bI_inj {a b : UInt8} : ((a.toNat : Int) == (b.toNat : Int)) = (a == b) := by
  by_cases h : a = b
  · subst h
    rw [beq_self_eq_true, beq_self_eq_true]
  · have : ¬ a.toNat = b.toNat := fun e => h (UInt8.toNat_inj.1 e)
    have h2 : ¬ (a.toNat : Int) = (b.toNat : Int) := by omega
    rw [beq_eq_false_iff_ne.2 h, beq_eq_false_iff_ne.2 h2]
theorem prefix_bI : ∀ (s l : List UInt8), (bI s).isPrefixOf (bI l) = s.isPrefixOf l := by
  intro s
  induction s with
  | nil => intro l; simp [bI]
  | cons a s ih =>
    intro l
    cases l with
    | nil => rfl
    | cons b l =>
      have := ih l
      simp only [bI, List.map_cons, List.isPrefixOf_cons_cons] at this ⊢
      rw [bI_inj, this]
theorem idx_bI : ∀ (l sub : List UInt8), idxI (bI l) (bI sub) = Lib.index l sub := by
  intro l sub
  induction l with
  | nil => cases sub <;> simp [idxI, bI, Lib.index]
  | cons b l ih =>
    have hp := prefix_bI sub (b :: l)
    simp only [bI, List.map_cons] at hp ih ⊢
    simp only [idxI, Lib.index, hp, ih, beq_iff_eq]
theorem cut_bI (s sep : List UInt8) : cutI (bI s) (bI sep) = (bI (Lib.cut s sep).1, (bI (Lib.cut s sep).2.1, (Lib.cut s sep).2.2)) := by
  unfold cutI Lib.cut
  rw [idx_bI]
  split
  · simp [bI, List.map_take, List.map_drop]
  · rfl
theorem countF_bI (sub : List UInt8) : ∀ (k : Nat) (s : List UInt8), countF (bI sub) k (bI s) = Lib.countFrom sub k s := by
  intro k
  induction k with
  | zero => intro s; rfl
  | succ k ih =>
    intro s
    simp only [countF, Lib.countFrom, idx_bI, beq_iff_eq]
    have : (bI s).drop ((Lib.index s sub).toNat + (bI sub).length) = bI (s.drop ((Lib.index s sub).toNat + sub.length)) := by simp [bI, List.map_drop]
    rw [this, ih]
theorem count_bI (s sub : List UInt8) : countI (bI s) (bI sub) = Lib.count s sub := by
  unfold countI Lib.count
  rw [countF_bI]; simp [bI]

noncomputable def p72 (n : Nat) (x : List Int × (List Int × Unit)) : Option ((Int × Unit) × Unit) := if x.1.length < 4294967281 then some ((idxI x.1 x.2.1, ()), ()) else none
noncomputable def p42 (n : Nat) (x : List Int × (List Int × Unit)) : Option ((List Int × (List Int × (Bool × Unit))) × Unit) := if x.1.length < 4294967281 then some (((cutI x.1 x.2.1).1, ((cutI x.1 x.2.1).2.1, ((cutI x.1 x.2.1).2.2, ()))), ()) else none
noncomputable def p71 (n : Nat) (x : List Int × (List Int × Unit)) : Option ((Int × Unit) × Unit) := if x.1.length < 4294967281 ∧ 1 ≤ x.2.1.length then some ((((countI x.1 x.2.1 : Nat) : Int), ()), ()) else none
noncomputable def p70 (n : Nat) (x : List Int × (Int × Unit)) : Option ((List (List Int) × Unit) × Unit) := none

theorem plain72 : Plain Tryd.prog 72 := ⟨_, Tryd.func72, by kernel_rfl, by kernel_rfl⟩
theorem plain42 : Plain Tryd.prog 42 := ⟨_, Tryd.func42, by kernel_rfl, by kernel_rfl⟩
theorem plain71 : Plain Tryd.prog 71 := ⟨_, Tryd.func71, by kernel_rfl, by kernel_rfl⟩
theorem plain70 : Plain Tryd.prog 70 := ⟨_, Tryd.func70, by kernel_rfl, by kernel_rfl⟩
theorem ok70 (n : Nat) : FnOk Tryd.prog 70 ⟨[(.str, .ro), (.int .i64, .ro)], [(.sl .str, .ro)], [], [], p70 n⟩ := fun x r h => by cases h

/-- What comes back is values alone, and nothing is written. -/
theorem post_vals {c : Callee} {r : (tupT c.rs).T × (tupT c.ms).T} {F : BSet} {w w' : World} {S : BSet} {vs : List Value} {v : Value} (ws : List Value) (hv : v = retV ws) (hw : ∃ n, w' = w.drewN n) (hF : ∀ k, F k → k < w.heap.size) (ha : Args F w' c.rs r.1 ws BSet.none) (hm : c.ms = []) (hmi : c.mi = []) : FnPost c r F w S vs (.returned v) w' := by
  obtain ⟨n, rfl⟩ := hw
  refine ⟨ws, F, BSet.none, BSet.none, hv, ha, ?_, fun _ h => h.elim, ⟨rfl, rfl, rfl, Nat.le_refl _, fun _ _ _ => rfl⟩, Sub.refl _, hF, fun k hk _ _ => hk, fun k hk => (hk.elim id id).elim⟩
  rw [hmi]
  obtain ⟨ps, rs, mi, ms, den⟩ := c
  simp only at hm
  subst hm
  exact rfl
theorem sb_bI (u : ByteArray) : sbytes u = bI u.data.toList := rfl
theorem sb_len (u : ByteArray) : (sbytes u).length = u.size := by rw [sbytes, List.length_map]; exact Array.length_toList
theorem two_strs {F : BSet} {w : World} {x : List Int × (List Int × Unit)} {vs : List Value} {S : BSet} (h : Args F w [(.str, .ro), (.str, .ro)] x vs S) : ∃ u v : ByteArray, vs = [.string u, .string v] ∧ x.1 = sbytes u ∧ x.2.1 = sbytes v ∧ u.size ≤ maxLen ∧ v.size ≤ maxLen := by
  obtain ⟨v1, vs1, cs1, S1, S2, rfl, ⟨u, rfl, e1, h1⟩, hv1, ⟨v2, vs2, cs2, S3, S4, rfl, ⟨u2, rfl, e2, h2⟩, hv2, h3, _⟩, _⟩ := h
  cases h3
  simp only [VR, Ty.agg, Bool.false_eq_true, if_false, List.cons.injEq, and_true] at hv1 hv2
  obtain ⟨rfl, _⟩ := hv1
  obtain ⟨rfl, _⟩ := hv2
  exact ⟨u, u2, rfl, e1, e2, h1, h2⟩
theorem rep_int {F : BSet} {w : World} {S : BSet} {n : Int} (h : inK .i64 n) : Args F w [(.int .i64, .ro)] (n, ()) [.int .i64 n] S := ⟨_, [], [.int .i64 n], BSet.none, BSet.none, rfl, ⟨rfl, h⟩, by simp [VR, Ty.agg, Value.oneCell'], rfl, fun _ h => h.elim, fun _ h => h.elim, fun _ h => h.elim⟩
theorem idx_in (s sub : List UInt8) (h : s.length < 4294967281) : inK .i64 (Lib.index s sub) := by
  have h1 := Lib.index_ge s sub
  have h2 : Lib.index s sub ≤ s.length := by
    clear h h1
    induction s with
    | nil => unfold Lib.index; split <;> simp
    | cons b l ih =>
      unfold Lib.index
      have h1 := Lib.index_ge l sub
      split
      · simp only [List.length_cons]; omega
      · split
        · simp only [List.length_cons]; omega
        · simp only [List.length_cons]; omega
  simp only [inK, kLo, kHi]
  omega
theorem ok72 (n : Nat) : FnOk Tryd.prog 72 ⟨[(.str, .ro), (.str, .ro)], [(.int .i64, .ro)], [], [], p72 n⟩ := by
  intro x r hx F w S vs hargs hSF hF hS hG
  obtain ⟨u, v, rfl, e1, e2, h1, h2⟩ := two_strs hargs
  obtain ⟨_, m, hm⟩ := hG 0 (by decide)
  have hx : p72 n x = some r := hx
  unfold p72 at hx
  rw [e1, e2, sb_len] at hx
  split at hx
  case isFalse => cases hx
  rename_i hs
  injection hx with hx
  subst hx
  refine (Tryd.strings_Index u v m w hs hm).mono fun e w' he => ?_
  obtain ⟨rfl, rfl⟩ := he
  refine post_vals [_] rfl ⟨0, rfl⟩ hF ?_ rfl rfl
  rw [sb_bI, sb_bI, idx_bI]
  exact rep_int (idx_in _ _ (by simpa using hs))
theorem count_le (sub : List UInt8) : ∀ (k : Nat) (s : List UInt8), Lib.countFrom sub k s ≤ k := by
  intro k
  induction k with
  | zero => intro s; exact Nat.le_refl _
  | succ k ih =>
    intro s
    simp only [Lib.countFrom]
    split
    · omega
    · have := ih (s.drop ((Lib.index s sub).toNat + sub.length)); omega
theorem ok71 (n : Nat) : FnOk Tryd.prog 71 ⟨[(.str, .ro), (.str, .ro)], [(.int .i64, .ro)], [], [], p71 n⟩ := by
  intro x r hx F w S vs hargs hSF hF hS hG
  obtain ⟨u, v, rfl, e1, e2, h1, h2⟩ := two_strs hargs
  obtain ⟨_, m, hm⟩ := hG 0 (by decide)
  have hx : p71 n x = some r := hx
  unfold p71 at hx
  rw [e1, e2, sb_len, sb_len] at hx
  split at hx
  case isFalse => cases hx
  rename_i hs
  injection hx with hx
  subst hx
  refine (Tryd.strings_Count_any u v m w hs.1 hm hs.2).mono fun e w' he => ?_
  obtain ⟨rfl, rfl⟩ := he
  refine post_vals [_] rfl ⟨0, rfl⟩ hF ?_ rfl rfl
  rw [sb_bI, sb_bI, count_bI]
  have hc := count_le v.data.toList (u.data.toList.length + 1) u.data.toList
  have hu : u.data.toList.length = u.size := by simp
  exact rep_int (by simp only [inK, kLo, kHi, Lib.count]; omega)
theorem rep_str {F : BSet} {w : World} {S : BSet} (l : List UInt8) (h : l.length ≤ maxLen) : Rep F w .str .ro (bI l) [.string ⟨l.toArray⟩] S := ⟨⟨l.toArray⟩, rfl, rfl, by show l.toArray.size ≤ maxLen; rw [List.size_toArray]; exact h⟩
theorem ok42 (n : Nat) : FnOk Tryd.prog 42 ⟨[(.str, .ro), (.str, .ro)], [(.str, .ro), (.str, .ro), (.bool, .ro)], [], [], p42 n⟩ := by
  intro x r hx F w S vs hargs hSF hF hS hG
  obtain ⟨u, v, rfl, e1, e2, h1, h2⟩ := two_strs hargs
  obtain ⟨_, m, hm⟩ := hG 0 (by decide)
  have hx : p42 n x = some r := hx
  unfold p42 at hx
  rw [e1, e2, sb_len] at hx
  split at hx
  case isFalse => cases hx
  rename_i hs
  injection hx with hx
  subst hx
  refine (Tryd.strings_Cut u v m w hs hm).mono fun e w' he => ?_
  obtain ⟨rfl, hw⟩ := he
  refine post_vals [.string ⟨(Lib.cut u.data.toList v.data.toList).1.toArray⟩, .string ⟨(Lib.cut u.data.toList v.data.toList).2.1.toArray⟩, .bool (Lib.cut u.data.toList v.data.toList).2.2] rfl hw hF ?_ rfl rfl
  have hu : u.data.toList.length = u.size := by simp
  have l1 : (Lib.cut u.data.toList v.data.toList).1.length ≤ maxLen := by
    unfold Lib.cut; split
    · simp only [List.length_take]; omega
    · simp only; omega
  have l2 : (Lib.cut u.data.toList v.data.toList).2.1.length ≤ maxLen := by
    unfold Lib.cut; split
    · simp only [List.length_drop]; omega
    · simp
  rw [sb_bI, sb_bI, cut_bI]
  exact ⟨_, _, [.string ⟨(Lib.cut u.data.toList v.data.toList).1.toArray⟩], BSet.none, BSet.none, rfl, rep_str _ l1, by simp [VR, Ty.agg, Value.oneCell'], ⟨_, _, [.string ⟨(Lib.cut u.data.toList v.data.toList).2.1.toArray⟩], BSet.none, BSet.none, rfl, rep_str _ l2, by simp [VR, Ty.agg, Value.oneCell'], ⟨_, [], [.bool (Lib.cut u.data.toList v.data.toList).2.2], BSet.none, BSet.none, rfl, rfl, by simp [VR, Ty.agg, Value.oneCell'], rfl, fun _ h => h.elim, fun _ h => h.elim, fun _ h => h.elim⟩, fun _ h => h.elim, fun _ h => h.elim, fun _ h => h.elim⟩, fun _ h => h.elim, fun _ h => h.elim, fun _ h => h.elim⟩
end Go.Proofs.YtgonfcjdhbjkcaaDoor.Rf
