/- Layer 13: new variables, new rows, append. -/
import Derived.Test.YtgonfcjdhbjkcaaDoorRa
import Derived.Deep.Upon
import Derived.Laws.AppendOwn
import Derived.Laws.Append
import Derived.Conc.LoneSelectN
import Derived.Laws.BytesArg
import Derived.ChangeKeysEq
import Derived.Laws.StructEq
import Derived.Laws.IdiomStrings
import Derived.Laws.Pointers
import Derived.Laws.Cover3
import Derived.Lib.SliceRun
import Derived.WalkSpells
set_option linter.unusedVariables false
set_option linter.unusedSimpArgs false
namespace Go.Proofs.YtgonfcjdhbjkcaaDoor.Rf
open Go

theorem alloc_old (w : World) (o : Obj) {k : Nat} (h : k < w.heap.size) : (w.alloc o).heap[k]? = w.heap[k]? := by
  show (w.heap.push o)[k]? = _
  rw [Array.getElem?_push, if_neg (by omega)]
theorem alloc_new (w : World) (o : Obj) : (w.alloc o).heap[w.heap.size]? = some o := by
  show (w.heap.push o)[w.heap.size]? = _
  rw [Array.getElem?_push, if_pos rfl]
theorem alloc_size (w : World) (o : Obj) : (w.alloc o).heap.size = w.heap.size + 1 := Array.size_push _

section
variable {P : Program} {B : Base} {F : BSet} {Sg : Nat → BSet} {cg : Nat → List Value} {σ : St} {a : Act} {w : World}

theorem root_ok (h : InvG B F Sg cg σ a w) {l : Nat} {b : Lab} (hl : σ.L l = some b) {v : Value} (hv : VR b.t (cg l) v) : EntOk F w σ.L σ.U cg (.hdr l b.v [] ⟨b.t, b.x⟩) v := by
  refine ⟨h.used l b hl, fun b' hb' => ?_⟩
  rw [hl] at hb'
  injection hb' with hb'
  subst hb'
  refine ⟨Nat.le_refl _, fun _ => hv, fun _ => ⟨by cases b.t <;> rfl, get?_nil _ _, fun ds s hr => ?_⟩⟩
  rw [resolve_nil] at hr
  injection hr with hr
  injection hr with hr _
  subst hr
  have : atT b.t [] = b.t := by cases b.t <;> rfl
  rw [this]
  exact hv

/-- A box in new memory. -/
theorem InvG.newBox (h : InvG B F Sg cg σ a w) {t : Ty} {m : Md} {x : t.T} {cs : Array Value} {e : TypeId} {S0 : BSet} (hrep : Rep F w t m x cs.toList S0) {d : Nat} (hU : σ.U d = false) (L' : Nat → Option Lab) (hL : ∀ j, j ≠ d → L' j = none ∨ L' j = σ.L j)
    (hS0 : ∀ k, S0 k → ∃ l2 b2, σ.L l2 = some b2 ∧ L' l2 = none ∧ Sg l2 k) :
    InvG B F (fun j => if j = d then (fun k => S0 k ∨ k = w.heap.size) else Sg j) (fun j => if j = d then [.pointer (some ⟨w.heap.size, 0, none⟩)] else cg j)
      { σ with L := upd L' d (some ⟨0, .box t, .own m, x⟩), U := fun j => Nat.beq j d || σ.U j } a (w.alloc (.cells cs e)) := by
  have hlt : ∀ k, S0 k → k < w.heap.size := fun k hk => by obtain ⟨l2, b2, h1, h2, h3⟩ := hS0 k hk; exact h.lt l2 b2 h1 k h3
  refine h.addLab (w' := w.alloc (.cells cs e)) rfl rfl rfl (by rw [alloc_size]; omega) (l := d) (b := ⟨0, .box t, .own m, x⟩) hU (upd L' d (some ⟨0, .box t, .own m, x⟩)) (fun k hk _ => alloc_old _ _ hk) ?_ (upd_same _ _ _) (fun j hj => by rw [upd_ne _ _ hj]; exact hL j hj) (fun k hk => ?_)
  · refine ⟨w.heap.size, cs, Mark.free _ e, rfl, alloc_new _ _, .inr rfl, S0, rep_frame (Sub.refl _) (fun k hk => alloc_old _ _ (h.fl k hk)) _ _ _ _ _ _ hrep (Sub.refl _) (fun k hk => alloc_old _ _ (hlt k hk)), fun k hk => .inl hk, fun hk => Nat.lt_irrefl _ (hlt _ hk)⟩
  · rcases hk with hk | rfl
    · obtain ⟨l2, b2, h1, h2, h3⟩ := hS0 k hk
      refine ⟨fun j bj hj hbj hs => ?_, fun hf => h.disF l2 b2 h1 k h3 hf, by rw [alloc_size]; exact Nat.lt_succ_of_lt (hlt k hk), h.may l2 b2 h1 k h3⟩
      rw [upd_ne _ _ hj] at hbj
      have hbj' : σ.L j = some bj := by
        rcases hL j hj with e | e
        · rw [e] at hbj; cases hbj
        · rw [← e]; exact hbj
      by_cases e : l2 = j
      · subst e; rw [h2] at hbj; cases hbj
      · exact h.dis l2 j b2 bj e h1 hbj' k h3 hs
    · refine ⟨fun j bj hj hbj hs => ?_, fun hf => Nat.lt_irrefl _ (h.fl _ hf), by rw [alloc_size]; exact Nat.lt_succ_self _, fun hlt => ?_⟩
      · rw [upd_ne _ _ hj] at hbj
        have hbj' : σ.L j = some bj := by
          rcases hL j hj with e | e
          · rw [e] at hbj; cases hbj
          · rw [← e]; exact hbj
        exact Nat.lt_irrefl _ (h.lt j bj hbj' _ hs)
      · have := h.fr.size; omega

/-- Are the two operands of an append fit: what is known of the first. -/
structure Dst (F : BSet) (w : World) (te : Ty) (me : Md) (x : List te.T) (v : Value) (S : BSet) : Prop where
  rep : Rep F w (.sl te) (.own me) x [v] S
/-- What the second operand of an append yields. -/
structure Srcs (P : Program) (F : BSet) (w : World) (te : Ty) (me : Md) (tx : TypeId) (x : List te.T) (v : Value) (S : BSet) : Prop where
  src : ∃ news, Src P te.width tx v x.length news w ∧ RepL (Rep F w te me) x news S

theorem append_core (hFl : ∀ k, F k → k < w.heap.size) {t tx ty e : TypeId} {d : TD} (hd : TOk P e d) (ht : P.underlying t = some (.slice e)) {me : Md} {x1 x2 : List d.ty.T} {v1 v2 : Value} {S1 S2 : BSet} (h1 : Rep F w (.sl d.ty) (.own me) x1 [v1] S1) {news : List Value} (hs : Src P d.ty.width tx v2 x2.length news w) (hr2 : RepL (Rep F w d.ty me) x2 news S2)
    (hdis : Dis S1 S2) (hd1 : Dis S1 F) (hl1 : ∀ k, S1 k → k < w.heap.size) (hl2 : ∀ k, S2 k → k < w.heap.size) (hbytes : (x1.length + x2.length) * d.bytes ≤ 140737488355328) (h63 : x1.length + x2.length ≤ maxLen) :
    ∃ v' w', (Builtin.append_ #[t, tx] ty #[v1, v2]).run P w = .ok v' w' ∧ w'.os = w.os ∧ w'.tape = w.tape ∧ w'.output = w.output ∧ w.heap.size ≤ w'.heap.size ∧ (∀ k, k < w.heap.size → ¬ S1 k → w'.heap[k]? = w.heap[k]?) ∧
      Rep F w' (.sl d.ty) (.own me) (x1 ++ x2) [v'] (fun k => S1 k ∨ S2 k ∨ (w.heap.size ≤ k ∧ k < w'.heap.size)) := by
  obtain ⟨i, z, hi, hi1, hi2, hi3, hi4⟩ := hd.info
  obtain ⟨ao, cap, hv1, hle, hcm, hown⟩ := h1
  injection hv1 with hv1 _
  subst hv1
  have hW := fun y c S (h : Rep F w d.ty me y c S) => rep_width F w d.ty me y c S h
  have hnl := RepL.len hW hr2
  -- growing
  have grow : cap < x1.length + x2.length → (∃ olds S0, (Builtin.firstCells d.ty.width x1.length (.slice ao x1.length cap)).run P w.drew = .ok olds.toArray w.drew ∧ RepL (Rep F w d.ty me) x1 olds S0 ∧ Sub S0 S1) → 
      ∃ v' w', (Builtin.append_ #[t, tx] ty #[.slice ao x1.length cap, v2]).run P w = .ok v' w' ∧ w'.os = w.os ∧ w'.tape = w.tape ∧ w'.output = w.output ∧ w.heap.size ≤ w'.heap.size ∧ (∀ k, k < w.heap.size → ¬ S1 k → w'.heap[k]? = w.heap[k]?) ∧
      Rep F w' (.sl d.ty) (.own me) (x1 ++ x2) [v'] (fun k => S1 k ∨ S2 k ∨ (w.heap.size ≤ k ∧ k < w'.heap.size)) := by
    rintro hg ⟨olds, S0, hold, hro, hs0⟩
    have hol := RepL.len hW hro
    have hrun := run_append_grow_src (P := P) w t tx ty e i z ht hi hi3 ao x1.length cap olds (by rw [hi1]; exact hold) v2 x2.length news (by rw [hi1]; exact hs) hg (by simp only [maxLen] at h63; omega) (by rw [hi2]; exact growslice_fits hg hbytes)
    refine ⟨_, _, hrun, rfl, rfl, rfl, by rw [alloc_size]; exact Nat.le_succ _, fun k hk _ => alloc_old w.drew _ hk, ?_⟩
    have hcap := grownCap_ge w (x1.length + x2.length) cap e
    have hcap2 := grownCap_le_maxLen w (x1.length + x2.length) cap e h63
    have hzs : z.cells.size = d.ty.width := by
      rw [← Array.length_toList, hi4]
      exact hd.zlen
    have hfr : ∀ {x : List d.ty.T} {cs : List Value} {S : BSet}, RepL (Rep F w d.ty me) x cs S → (∀ k, S k → k < w.heap.size) → RepL (Rep F (w.drew.alloc (.cells ((olds ++ news).toArray ++ Builtin.zeroCells z.cells (grownCap w (x1.length + x2.length) cap e - (x1.length + x2.length))) e)) d.ty me) x cs S := by
      intro x cs S hx hlt
      exact RepL.imp (fun y _ c T hT hr => rep_frame (w := w) (Sub.refl _) (fun k hk => alloc_old w.drew _ (hFl k hk)) _ _ _ _ _ _ hr (Sub.refl _) (fun k hk => alloc_old w.drew _ (hlt k (hT k hk)))) hx
    have hl0 : ∀ k, S0 k → k < w.heap.size := fun k hk => hl1 k (hs0 k hk)
    refine ⟨some ⟨w.heap.size, 0, none⟩, grownCap w (x1.length + x2.length) cap e, by rw [List.length_append], by rw [List.length_append]; exact hcap, hcap2, .inr ⟨w.heap.size, 0, _, Mark.free _ e, rfl, alloc_new w.drew _, ?_, .inr (.inr ⟨Nat.le_refl _, by rw [alloc_size]; exact Nat.lt_succ_self _⟩), S0.or S2, ?_, ?_, ?_⟩⟩
    · simp only [Nat.zero_add, Array.size_append, List.size_toArray, List.length_append, size_zeroCells, hzs, hol, hnl]
      rw [← Nat.add_mul, ← Nat.add_mul]
      rw [show x1.length + x2.length + (grownCap w (x1.length + x2.length) cap e - (x1.length + x2.length)) = grownCap w (x1.length + x2.length) cap e by omega]
      exact Nat.le_refl _
    · have e1 : ((((olds ++ news).toArray ++ Builtin.zeroCells z.cells (grownCap w (x1.length + x2.length) cap e - (x1.length + x2.length))).toList.drop 0).take ((x1 ++ x2).length * d.ty.width)) = olds ++ news := by
        simp only [List.drop_zero, Array.toList_append]
        rw [List.length_append, Nat.add_mul, ← hol, ← hnl, ← List.length_append]
        exact take_width rfl
      rw [e1]
      exact RepL.append (hfr hro hl0) (hfr hr2 hl2) (hdis.mono hs0 (Sub.refl _))
    · exact fun k hk => hk.elim (fun h => .inl (hs0 k h)) (fun h => .inr (.inl h))
    · exact fun hk => hk.elim (fun h => Nat.lt_irrefl _ (hl0 _ h)) (fun h => Nat.lt_irrefl _ (hl2 _ h))
  rcases hown with rfl | ⟨b, off, c, e', rfl, hb, hc, hS, S0, hr, s1, n1⟩
  · have hx0 : x1 = [] := List.eq_nil_of_length_eq_zero (by omega)
    subst hx0
    rcases Nat.eq_zero_or_pos x2.length with h0 | hp
    · have hx2 : x2 = [] := List.eq_nil_of_length_eq_zero h0
      subst hx2
      have hn0 : news = [] := by simpa [RepL] using hr2
      subst hn0
      refine ⟨_, w, run_append_nothing w t tx ty e i ht hi ao 0 0 (Nat.le_refl _) v2 (by rw [hi1]; exact hs), rfl, rfl, rfl, Nat.le_refl _, fun _ _ _ => rfl, ?_⟩
      exact ⟨ao, 0, rfl, Nat.le_refl _, by simp [maxLen], .inl rfl⟩
    · refine grow (by simp; omega) ⟨[], BSet.none, ?_, rfl, fun _ h => h.elim⟩
      cases ao with
      | none => simp [Builtin.firstCells]
      | some ad => exact run_firstCells_some w.drew d.ty.width 0 ad 0 0 [] (by simp) (fun j v hj => by simp at hj)
  · have hol := RepL.len hW hr
    have hclen : off + x1.length * d.ty.width ≤ c.toList.length := by
      rw [Array.length_toList]
      exact Nat.le_trans (Nat.add_le_add_left (Nat.mul_le_mul_right _ hle) _) hc
    by_cases hroom : x1.length + x2.length ≤ cap
    · -- in place
      have hfit : off + x1.length * d.ty.width + news.length ≤ c.size := by
        rw [hnl]
        have : (x1.length + x2.length) * d.ty.width ≤ cap * d.ty.width := Nat.mul_le_mul_right _ hroom
        rw [Nat.add_mul] at this
        omega
      have hrun := run_append_room_src (P := P) w t tx ty e i ht hi b off x1.length cap v2 x2.length news (by rw [hi1]; exact hs) hroom
        (fun j hj => by rw [hi1]; simp [World.cell?, hb]; omega) (fun j hj => Mark.frz (e := e') hb rfl (by show off + x1.length * i.size + j < c.size; rw [hi1]; omega))
      rw [hi1] at hrun
      obtain ⟨u1, ⟨c', u2, u3⟩, u4, u5, u6, u7⟩ := setCells_heap b news (off + x1.length * d.ty.width) w c e'.t (e'.a, e'.b) hb hfit
      have hFb : ∀ k, F k → k ≠ b := fun k hk e => hd1 b hS (e ▸ hk)
      have hfr : ∀ {x : List d.ty.T} {cs : List Value} {S : BSet}, RepL (Rep F w d.ty me) x cs S → ¬ S b → RepL (Rep F (w.setCells b (off + x1.length * d.ty.width) news) d.ty me) x cs S := by
        intro x cs S hx hnb
        exact RepL.imp (fun y _ c T hT hr => rep_frame (Sub.refl _) (fun k hk => u1 k (hFb k hk)) _ _ _ _ _ _ hr (Sub.refl _) (fun k hk => u1 k (fun e => hnb (hT _ (e ▸ hk))))) hx
      have n2 : ¬ S2 b := fun h => hdis b hS h
      have hcsz : c'.size ≤ c.size := by
        have : c'.toList.length = c.toList.length := by
          rw [u3]
          simp only [List.length_append, List.length_take, List.length_drop, Array.length_toList]
          omega
        simpa using Nat.le_of_eq this
      refine ⟨_, _, hrun, u5, u6, u7, by rw [u4]; exact Nat.le_refl _, fun k _ hn => u1 k (fun e => hn (e ▸ hS)), some ⟨b, off, none⟩, cap, by rw [List.length_append], by rw [List.length_append]; exact hroom, hcm, .inr ⟨b, off, c', e'.to hcsz, rfl, u2, ?_, .inl hS, S0.or S2, ?_, ?_, ?_⟩⟩
      · have : c'.toList.length = c.toList.length := by
          rw [u3]
          simp only [List.length_append, List.length_take, List.length_drop, Array.length_toList]
          omega
        simp only [Array.length_toList] at this
        rw [this]; exact hc
      · have e1 : (c'.toList.drop off).take ((x1 ++ x2).length * d.ty.width) = (c.toList.drop off).take (x1.length * d.ty.width) ++ news := by
          rw [u3, List.append_assoc, List.drop_append_of_le_length (by rw [List.length_take]; omega)]
          rw [List.length_append, Nat.add_mul]
          have e2 : ((c.toList.take (off + x1.length * d.ty.width)).drop off) = (c.toList.drop off).take (x1.length * d.ty.width) := by
            rw [List.drop_take]; congr 1; omega
          rw [e2]
          have e3 : ((c.toList.drop off).take (x1.length * d.ty.width)).length = x1.length * d.ty.width := by rw [List.length_take, List.length_drop]; omega
          rw [← List.append_assoc]
          exact take_width (by rw [List.length_append, e3, hnl])
        rw [e1]
        exact RepL.append (hfr hr n1) (hfr hr2 n2) (hdis.mono s1 (Sub.refl _))
      · exact fun k hk => hk.elim (fun h => .inl (s1 k h)) (fun h => .inr (.inl h))
      · exact fun hk => hk.elim n1 n2
    · refine grow (by omega) ⟨_, S0, ?_, hr, s1⟩
      have hat : ∀ j v, ((c.toList.drop off).take (x1.length * d.ty.width))[j]? = some v → w.drew.cell? ((⟨b, off, none⟩ : Addr).add j) = some v := by
        intro j v hj
        rw [List.getElem?_take] at hj
        split at hj
        · rw [List.getElem?_drop] at hj
          rw [Addr.add_lit]
          have hb' : w.drew.heap[b]? = some (.cells c e'.t (e'.a, e'.b)) := hb
          simp [World.cell?, hb']
          simpa using hj
        · cases hj
      exact run_firstCells_some w.drew d.ty.width x1.length ⟨b, off, none⟩ x1.length cap _ hol hat
end
end Go.Proofs.YtgonfcjdhbjkcaaDoor.Rf
/- Layer 14: the machine's operations that make memory: variables, boxes, rows, append. -/
set_option linter.unusedVariables false
set_option linter.unusedSimpArgs false
namespace Go.Proofs.YtgonfcjdhbjkcaaDoor.Rf
open Go

def isSeq (d : TD) : Bool := match d.kd with | .slice _ => true | .str => true | _ => false
theorem isSeq_ok {P : Program} {t : TypeId} {d : TD} (hd : TOk P t d) (h : isSeq d = true) : (∃ e', P.underlying t = some (.slice e')) ∨ P.underlying t = some .string := by
  have := hd.desc
  unfold isSeq at h
  split at h
  · rename_i e hk; rw [hk] at this; exact .inl ⟨e, this⟩
  · rename_i hk; rw [hk] at this; exact .inr this.1
  · cases h

/-- What the second operand of an append yields: the elements, what they own, which label goes. -/
def srcK {R : Type} (σ : St) (str : Bool) (te : Ty) (e : Ent0) (K : List te.T → Md → Option Nat → Option R) : Option R :=
  match e with
  | .val .str s => bif str then (if h : Ty.int .u8 = te then K (h ▸ (s : List (Ty.int .u8).T)) .ro none else none) else none
  | .val (.sl t) xs => bif str then none else (if h : t = te then K (h ▸ xs) .ro none else none)
  | .hdr l2 _ [] _ => bif str then none else match σ.L l2 with
    | some ⟨_, .sl t, .own me2, xs⟩ => if h : t = te then K (h ▸ xs) me2 (some l2) else none
    | _ => none
  | .hdr l2 n2 (s :: π2) c2 => bif str then none else hcur σ (.hdr l2 n2 (s :: π2) c2) fun _ _ _ c => match c with
    | ⟨.sl t, xs⟩ => bif t.flat then (if h : t = te then K (h ▸ xs) .ro none else none) else none
    | _ => none
  | .cst v => bif str then none else asT (.cst v) (.sl te) fun xs => K xs .ro none
  | _ => none

section
variable {P : Program} {B : Base} {F : BSet} {Sg : Nat → BSet} {cg : Nat → List Value} {σ : St} {a : Act} {w : World}

theorem rep_bytes (l : List UInt8) : RepL (Rep F w (.int .u8) .ro) (l.map fun b => (b.toNat : Int)) (l.map fun b => Value.int .u8 b.toNat) BSet.none := by
  induction l with
  | nil => rfl
  | cons b l ih =>
    refine ⟨[.int .u8 b.toNat], _, BSet.none, BSet.none, rfl, ⟨rfl, ?_⟩, ih, Sub.refl _, Sub.refl _, fun _ h => h.elim⟩
    have := b.toNat_lt
    simp [inK, kLo, kHi]
    omega

theorem src_row {te : Ty} {m : Md} {tx : TypeId} (hk : ∃ e', P.underlying tx = some (.slice e')) {x : List te.T} {news : List Value} {S : BSet} {ao : Option Addr} {cap : Nat} (hr : RepL (Rep F w te m) x news S)
    (hat : 0 < x.length → ∃ ad, ao = some ad ∧ At w ad news) : Src P te.width tx (.slice ao x.length cap) x.length news w := by
  obtain ⟨e', hk⟩ := hk
  have hnl := RepL.len (fun y c S h => rep_width F w te m y c S h) hr
  cases ao with
  | none =>
    have hx : x = [] := by
      cases x with
      | nil => rfl
      | cons y ys => obtain ⟨ad, h, _⟩ := hat (by simp); cases h
    subst hx
    have hn : news = [] := by simpa [RepL] using hr
    subst hn
    exact Src.ofNil w hk cap
  | some ad =>
    refine Src.ofSlice w hk ad x.length cap news hnl (fun j u hj => ?_) (repL_one (fun y c S h => rep_one te m y c S h) hr)
    rcases Nat.eq_zero_or_pos x.length with h0 | hp
    · rw [h0, Nat.zero_mul] at hnl
      rw [List.eq_nil_of_length_eq_zero hnl] at hj
      simp at hj
    · obtain ⟨ad', e1, hat'⟩ := hat hp
      injection e1 with e1
      subst e1
      exact hat' j u hj

theorem own_row {te : Ty} {me : Md} {x : List te.T} {cs : List Value} {S : BSet} (h : Rep F w (.sl te) (.own me) x cs S) {v : Value} (hv : VR (.sl te) cs v) : ∃ ao cap news S', v = .slice ao x.length cap ∧ RepL (Rep F w te me) x news S' ∧ Sub S' S ∧ (0 < x.length → ∃ ad, ao = some ad ∧ At w ad news) := by
  obtain ⟨ao, cap, rfl, h1, h2, h3⟩ := h
  simp [VR, Ty.agg] at hv
  rcases h3 with rfl | ⟨b, off, c, e, rfl, hb, hc, hS, S1, hr, s1, n1⟩
  · have hx : x = [] := List.eq_nil_of_length_eq_zero (by omega)
    subst hx
    exact ⟨ao, 0, [], BSet.none, hv.1.symm, rfl, fun _ h => h.elim, fun h => by simp at h⟩
  · refine ⟨_, cap, _, S1, hv.1.symm, hr, s1, fun _ => ⟨_, rfl, ?_⟩⟩
    intro j v hj
    rw [List.getElem?_take] at hj
    split at hj
    · rw [List.getElem?_drop] at hj
      rw [Addr.add_lit]
      simp [World.cell?, hb]
      simpa using hj
    · cases hj

theorem repL_flat {te : Ty} (hf : te.flat = true) {m m' : Md} {x : List te.T} {cs : List Value} {S S' : BSet} (h : RepL (Rep F w te m) x cs S) : RepL (Rep F w te m') x cs S' := by
  induction x generalizing cs S S' with
  | nil => exact h
  | cons y ys ih =>
    obtain ⟨c1, c2, S1, S2, rfl, h1, h2, _⟩ := h
    exact ⟨c1, c2, BSet.none, BSet.none, rfl, rep_flat te hf _ _ _ _ _ _ h1, ih h2, fun _ h => h.elim, fun _ h => h.elim, fun _ h => h.elim⟩

theorem any_row {te : Ty} {m : Md} (hf : te.flat = true) {x : List te.T} {cs : List Value} {S : BSet} (h : Rep F w (.sl te) m x cs S) {v : Value} (hv : VR (.sl te) cs v) : ∃ ao cap news, v = .slice ao x.length cap ∧ RepL (Rep F w te .ro) x news BSet.none ∧ (0 < x.length → ∃ ad, ao = some ad ∧ At w ad news) := by
  cases m with
  | own me =>
    obtain ⟨ao, cap, news, S', h1, h2, _, h4⟩ := own_row h hv
    exact ⟨ao, cap, news, h1, repL_flat hf h2, h4⟩
  | ro =>
    obtain ⟨ao, cap, h1, h2, h3, h4⟩ := ro_row h hv
    rcases Nat.eq_zero_or_pos x.length with h0 | hp
    · have hx : x = [] := List.eq_nil_of_length_eq_zero h0
      subst hx
      exact ⟨ao, cap, [], h1, rfl, fun h => by simp at h⟩
    · obtain ⟨ad, e1, _, ds, hat, hr⟩ := h4 hp
      exact ⟨ao, cap, ds, h1, hr, fun _ => ⟨ad, e1, hat⟩⟩
  | pr _ _ =>
    obtain ⟨ao, cap, h1, h2, h3, h4⟩ := ro_row h hv
    rcases Nat.eq_zero_or_pos x.length with h0 | hp
    · have hx : x = [] := List.eq_nil_of_length_eq_zero h0
      subst hx
      exact ⟨ao, cap, [], h1, rfl, fun h => by simp at h⟩
    · obtain ⟨ad, e1, _, ds, hat, hr⟩ := h4 hp
      exact ⟨ao, cap, ds, h1, hr, fun _ => ⟨ad, e1, hat⟩⟩

theorem srcK_ok (h : InvG B F Sg cg σ a w) {R : Type} {tx : TypeId} {str : Bool} (hseq : bif str then P.underlying tx = some .string else ∃ e', P.underlying tx = some (.slice e')) {te : Ty} {e : Ent0} {K : List te.T → Md → Option Nat → Option R} {r : R} (hk : srcK σ str te e K = some r) {v : Value} (he : EntOk F w σ.L σ.U cg e v) :
    ∃ x m lo news S2, K x m lo = some r ∧ Src P te.width tx v x.length news w ∧ RepL (Rep F w te m) x news S2 ∧
      (lo = none → S2 = BSet.none) ∧ (∀ l2, lo = some l2 → ∃ b2, σ.L l2 = some b2 ∧ Sub S2 (Sg l2)) := by
  unfold srcK at hk
  split at hk
  · rename_i s
    cases str
    · cases hk
    simp only [cond_true] at hk
    split at hk
    · rename_i ht
      subst ht
      obtain ⟨u, rfl, rfl, hu⟩ := val_str he
      refine ⟨_, _, _, byteCells u, BSet.none, hk, ?_, rep_bytes _, fun _ => rfl, (fun _ h => by cases h)⟩
      have := Src.ofString (P := P) w (tx := tx) hseq u
      have e1 : List.length (sbytes u) = u.size := sbytes_length u
      rw [e1]
      exact this
    · cases hk
  · rename_i t xs
    cases str
    · simp only [cond_false] at hk hseq
      split at hk
      · rename_i ht
        subst ht
        obtain ⟨cs, hr, hv⟩ := he
        obtain ⟨ao, cap, rfl, h2, h3, h4⟩ := ro_row hr hv
        rcases Nat.eq_zero_or_pos (List.length xs) with h0 | hp
        · have hx : xs = [] := List.eq_nil_of_length_eq_zero h0
          subst hx
          exact ⟨_, _, _, [], BSet.none, hk, src_row (F := F) (m := .ro) hseq (S := BSet.none) rfl (fun h => by simp at h), rfl, fun _ => rfl, (fun _ h => by cases h)⟩
        · obtain ⟨ad, e1, _, ds, hat, hr⟩ := h4 hp
          exact ⟨_, _, _, ds, BSet.none, hk, src_row hseq hr (fun _ => ⟨ad, e1, hat⟩), hr, fun _ => rfl, (fun _ h => by cases h)⟩
      · cases hk
    · cases hk
  · rename_i l2 n2 c2
    cases str
    · simp only [cond_false] at hk hseq
      split at hk
      · rename_i v2 t me2 xs hl2
        split at hk
        · rename_i ht
          subst ht
          have hv := (he.2 _ hl2).2.1 rfl
          obtain ⟨ao, cap, news, S', rfl, hr, hs, hat⟩ := own_row (h.lab l2 _ hl2) hv
          exact ⟨_, _, _, news, S', hk, src_row hseq hr hat, hr, (fun h => by cases h), (fun l h => by injection h with h; subst h; exact ⟨_, hl2, hs⟩)⟩
        · cases hk
      · cases hk
    · cases hk
  · rename_i l2 n2 s2 π2 c2
    cases str
    · simp only [cond_false] at hk hseq
      obtain ⟨l, b, π, c, hl, hk, hg, ho, ds, s, S', hr, hrep, hsub, hfoc, hv⟩ := hcur_ok h hk he
      split at hk
      · rename_i t xs
        cases hf : t.flat
        · rw [hf] at hk; cases hk
        rw [hf] at hk
        simp only [cond_true] at hk
        split at hk
        · rename_i ht
          subst ht
          obtain ⟨ao, cap, news, rfl, hr2, hat⟩ := any_row hf hrep hv
          exact ⟨_, _, _, news, BSet.none, hk, src_row hseq hr2 hat, hr2, fun _ => rfl, (fun _ h => by cases h)⟩
        · cases hk
      · cases hk
    · cases hk
  · rename_i u
    cases str
    · simp only [cond_false] at hk hseq
      obtain ⟨x, cs, hk, hr, hv⟩ := asT_ok hk he
      obtain ⟨ao, cap, rfl, h2, h3, h4⟩ := ro_row hr hv
      rcases Nat.eq_zero_or_pos (List.length x) with h0 | hp
      · have hx : x = [] := List.eq_nil_of_length_eq_zero h0
        subst hx
        exact ⟨_, _, _, [], BSet.none, hk, src_row (F := F) (m := .ro) hseq (S := BSet.none) rfl (fun h => by simp at h), rfl, fun _ => rfl, (fun _ h => by cases h)⟩
      · obtain ⟨ad, e1, _, ds, hat, hr⟩ := h4 hp
        exact ⟨_, _, _, ds, BSet.none, hk, src_row hseq hr (fun _ => ⟨ad, e1, hat⟩), hr, fun _ => rfl, (fun _ h => by cases h)⟩
    · cases hk
  · cases hk
end
end Go.Proofs.YtgonfcjdhbjkcaaDoor.Rf
/- Layer 15: variables, boxes and append as steps of the machine. -/
set_option linter.unusedVariables false
set_option linter.unusedSimpArgs false
namespace Go.Proofs.YtgonfcjdhbjkcaaDoor.Rf
open Go

/-- Only one slot's entry is another. -/
def EF (σ σ' : St) (d : Nat) : Prop := ∀ j, j ≠ d → σ'.E j = σ.E j
/-- A new label at a slot. -/
def St.mk' (σ : St) (L : Nat → Option Lab) (l d : Nat) (b : Lab) : St :=
  { E := upd σ.E d (some (.one (.hdr l b.v [] ⟨b.t, b.x⟩))), L := upd L l (some b), U := fun j => Nat.beq j l || σ.U j }

theorem ef_mk {σ : St} {L : Nat → Option Lab} {l d : Nat} {b : Lab} : EF σ (σ.mk' L l d b) d := fun _ h => upd_ne _ _ h

def xAlloc {R : Type} (d : TD) (σ : St) (dst : Nat) (K : St → Option R) : Option R :=
  bif σ.U (dst * 8) then none else match rdC d.ty d.zero with
    | some z => K (σ.mk' σ.L (dst * 8) dst ⟨0, .box d.ty, .own (zM d.ty), z⟩)
    | none => none

def xBox {R : Type} (d : TD) (σ : St) (dst : Nat) (e : Ent0) (K : St → Option R) : Option R :=
  bif σ.U (dst * 8) then none else match e with
    | .hdr l2 _ [] _ => match σ.L l2 with
      | some b2 => bif decide (b2.t = d.ty) then K (σ.mk' (upd σ.L l2 none) (dst * 8) dst ⟨0, .box b2.t, .own b2.m, b2.x⟩) else none
      | none => none
    | e => asT e d.ty fun y => K (σ.mk' σ.L (dst * 8) dst ⟨0, .box d.ty, .own (valM e d.ty), y⟩)

section
variable {P : Program} {B : Base} {F : BSet} {Sg : Nat → BSet} {cg : Nat → List Value} {σ : St} {a : Act} {w : World}

theorem InvG.box_put (h : InvG B F Sg cg σ a w) {t : Ty} {m : Md} {x : t.T} {cs : Array Value} {e : TypeId} {S0 : BSet} (hrep : Rep F w t m x cs.toList S0) {l dst : Nat} (hU : σ.U l = false) (hd : dst < B.N) (L' : Nat → Option Lab) (hL : ∀ j, j ≠ l → L' j = none ∨ L' j = σ.L j)
    (hS0 : ∀ k, S0 k → ∃ l2 b2, σ.L l2 = some b2 ∧ L' l2 = none ∧ Sg l2 k) :
    ∃ Sg' cg', InvG B F Sg' cg' (σ.mk' L' l dst ⟨0, .box t, .own m, x⟩) (a.put (some dst) (.pointer (some ⟨w.heap.size, 0, none⟩))) (w.alloc (.cells cs e)) := by
  have i1 := h.newBox hrep hU L' hL hS0 (e := e)
  exact ⟨_, _, i1.putT hd (e := .one (.hdr l 0 [] ⟨.box t, x⟩)) (root_ok i1 (l := l) (b := ⟨0, .box t, .own m, x⟩) (upd_same _ _ _) (by simp [VR, Ty.agg, Value.oneCell']))⟩

theorem run_alloc {t : TypeId} {d : TD} (hd : TOk P t d) : ∃ z : Value, z.cells.toList = d.zero ∧ (Instr.alloc t true (.tuple #[])).run P w = .ok (.pointer (some ⟨w.heap.size, 0, none⟩)) (w.alloc (.cells z.cells t)) := by
  obtain ⟨i, z, hi, hi1, hi2, hi3, hi4⟩ := hd.info
  exact ⟨z, hi4, by simp [Instr.alloc, zeroValue, typeInfo, hi, hi3, newVar, newRow]⟩
theorem run_box {t : TypeId} {v : Value} : (Instr.box t v).run P w = .ok (.pointer (some ⟨w.heap.size, 0, none⟩)) (w.alloc (.cells v.cells t)) := by
  simp [Instr.box, newVar, newRow]

theorem xAlloc_ok (h : InvG B F Sg cg σ a w) {R : Type} {t : TypeId} {d : TD} (hd : TOk P t d) {dst : Nat} (hN : dst < B.N) {K : St → Option R} {r : R} (hk : xAlloc d σ dst K = some r) :
    ∃ σ' v w' Sg' cg', K σ' = some r ∧ (Instr.alloc t true (.tuple #[])).run P w = .ok v w' ∧ InvG B F Sg' cg' σ' (a.put (some dst) v) w' ∧ EF σ σ' dst := by
  unfold xAlloc at hk
  cases hU : σ.U (dst * 8)
  · rw [hU] at hk
    simp only [cond_false] at hk
    cases hz : rdC d.ty d.zero with
    | none => rw [hz] at hk; cases hk
    | some z =>
      rw [hz] at hk
      simp only at hk
      obtain ⟨zv, hzv, hrun⟩ := run_alloc (w := w) hd
      obtain ⟨Sg', cg', hi⟩ := h.box_put (t := d.ty) (m := zM d.ty) (x := z) (cs := zv.cells) (e := t) (S0 := BSet.none) (by rw [hzv]; exact rdC_ok _ _ _ _ (okM_zM _) hz) hU hN σ.L (fun _ _ => .inr rfl) (fun _ h => h.elim)
      exact ⟨_, _, _, _, _, hk, hrun, hi, ef_mk⟩
  · rw [hU] at hk; cases hk

theorem xBox_ok (h : InvG B F Sg cg σ a w) {R : Type} {t : TypeId} {d : TD} (hd : TOk P t d) {dst : Nat} (hN : dst < B.N) {e : Ent0} {K : St → Option R} {r : R} (hk : xBox d σ dst e K = some r) {u : Value} (he : EntOk F w σ.L σ.U cg e u) :
    ∃ σ' v w' Sg' cg', K σ' = some r ∧ (Instr.box t u).run P w = .ok v w' ∧ InvG B F Sg' cg' σ' (a.put (some dst) v) w' ∧ EF σ σ' dst := by
  unfold xBox at hk
  cases hU : σ.U (dst * 8)
  · rw [hU] at hk
    simp only [cond_false] at hk
    split at hk
    · rename_i l2 n2 c2
      cases hl2 : σ.L l2 with
      | none => rw [hl2] at hk; cases hk
      | some b2 =>
        rw [hl2] at hk
        simp only at hk
        cases hud : decide (b2.t = d.ty)
        · rw [hud] at hk; cases hk
        rw [hud] at hk
        simp only [cond_true] at hk
        have hv := (he.2 b2 hl2).2.1 rfl
        have hne : dst * 8 ≠ l2 := fun e => by rw [e, h.used l2 b2 hl2] at hU; cases hU
        obtain ⟨Sg', cg', hi⟩ := h.box_put (t := b2.t) (m := b2.m) (x := b2.x) (cs := u.cells) (e := t) (S0 := Sg l2) (by rw [hv.cells]; exact h.lab l2 b2 hl2) hU hN (upd σ.L l2 none)
          (fun j _ => by
            by_cases e : j = l2
            · subst e; rw [upd_same]; exact .inl rfl
            · rw [upd_ne _ _ e]; exact .inr rfl) (fun k hk => ⟨l2, b2, hl2, upd_same _ _ _, hk⟩)
        exact ⟨_, _, _, _, _, hk, run_box, hi, ef_mk⟩
    · obtain ⟨y, cs, hk, hr, hv⟩ := asT_okM hk he
      obtain ⟨Sg', cg', hi⟩ := h.box_put (t := d.ty) (m := valM e d.ty) (x := y) (cs := u.cells) (e := t) (S0 := BSet.none) (by rw [hv.cells]; exact hr) hU hN σ.L (fun _ _ => .inr rfl) (fun _ h => h.elim)
      exact ⟨_, _, _, _, _, hk, run_box, hi, ef_mk⟩
  · rw [hU] at hk; cases hk

/-! ### append -/
def mdFit (t : Ty) (m me : Md) : Bool := t.flat || decide (m = me)
theorem repL_fit {te : Ty} {m me : Md} (hf : mdFit te m me = true) {x : List te.T} {cs : List Value} {S : BSet} (h : RepL (Rep F w te m) x cs S) : RepL (Rep F w te me) x cs S := by
  unfold mdFit at hf
  simp only [Bool.or_eq_true, decide_eq_true_eq] at hf
  rcases hf with hf | rfl
  · exact repL_flat hf h
  · exact h

def goneL (L : Nat → Option Lab) : Option Nat → Nat → Option Lab
  | some l => upd L l none
  | none => L
theorem goneL_cases (L : Nat → Option Lab) (o : Option Nat) (j : Nat) : goneL L o j = none ∨ goneL L o j = L j := by
  cases o with
  | none => exact .inr rfl
  | some l =>
    by_cases e : j = l
    · subst e; exact .inl (upd_same _ _ _)
    · exact .inr (upd_ne _ _ e)

/-- append onto a root (or nil): d is the element's type; lk: the new label. -/
def xApp {R : Type} (d : TD) (σ : St) (str : Bool) (lk dst : Nat) (e1 e2 : Ent0) (K : St → Option R) : Option R :=
  bif σ.U lk then none else
  srcK σ str d.ty e2 fun x2 m2 lo =>
  match e1 with
  | .hdr l1 _ [] _ => match σ.L l1 with
    | some ⟨_, .sl t, .own me, x1⟩ => if h : t = d.ty then
        (bif mdFit d.ty m2 me && !(decide (lo = some l1)) then
          (if ((h ▸ x1 : List d.ty.T).length + x2.length) * d.bytes ≤ 140737488355328 then (if (h ▸ x1 : List d.ty.T).length + x2.length ≤ 9223372036854775807 then K (σ.mk' (goneL (upd σ.L l1 none) lo) lk dst ⟨0, .sl d.ty, .own me, (h ▸ x1 : List d.ty.T) ++ x2⟩) else none) else none) else none) else none
    | _ => none
  | .cst v => asT (.cst v) (.sl d.ty) fun x1 =>
      if (List.length x1 + x2.length) * d.bytes ≤ 140737488355328 then (if List.length x1 + x2.length ≤ 9223372036854775807 then K (σ.mk' (goneL σ.L lo) lk dst ⟨0, .sl d.ty, .own m2, List.append x1 x2⟩) else none) else none
  | _ => none

theorem xApp_ok (h : InvG B F Sg cg σ a w) {R : Type} {t tx ty e : TypeId} {d : TD} (hd : TOk P e d) (ht : P.underlying t = some (.slice e)) {str : Bool} (hseq : bif str then P.underlying tx = some .string else ∃ e', P.underlying tx = some (.slice e')) {lk dst : Nat} (hN : dst < B.N) {e1 e2 : Ent0} {K : St → Option R} {r : R} (hk : xApp d σ str lk dst e1 e2 K = some r)
    {u1 u2 : Value} (he1 : EntOk F w σ.L σ.U cg e1 u1) (he2 : EntOk F w σ.L σ.U cg e2 u2) :
    ∃ σ' v w' Sg' cg', K σ' = some r ∧ (Builtin.append_ #[t, tx] ty #[u1, u2]).run P w = .ok v w' ∧ InvG B F Sg' cg' σ' (a.put (some dst) v) w' ∧ EF σ σ' dst := by
  unfold xApp at hk
  cases hU : σ.U lk
  · rw [hU] at hk
    simp only [cond_false] at hk
    obtain ⟨x2, m2, lo, news, S2, hk, hsrc, hr2, hS2n, hS2s⟩ := srcK_ok h hseq hk he2
    have hl2 : ∀ k, S2 k → k < w.heap.size ∧ ¬ F k ∧ ∃ l2 b2, lo = some l2 ∧ σ.L l2 = some b2 ∧ Sg l2 k := by
      intro k hk2
      cases hlo : lo with
      | none => rw [hS2n hlo] at hk2; exact hk2.elim
      | some l2 =>
        obtain ⟨b2, h1, h2⟩ := hS2s l2 hlo
        exact ⟨h.lt l2 b2 h1 k (h2 k hk2), fun hf => h.disF l2 b2 h1 k (h2 k hk2) hf, l2, b2, rfl, h1, h2 k hk2⟩
    -- the common end
    have fin : ∀ (me : Md) (x1 : List d.ty.T) (S1 : BSet) (L1 : Nat → Option Lab), Rep F w (.sl d.ty) (.own me) x1 [u1] S1 → RepL (Rep F w d.ty me) x2 news S2 → Dis S1 S2 → (∀ k, S1 k → ∃ l1 b1, σ.L l1 = some b1 ∧ L1 l1 = none ∧ Sg l1 k) → (∀ k, S2 k → ∃ l1 b1, σ.L l1 = some b1 ∧ L1 l1 = none ∧ Sg l1 k) →
        (∀ j, L1 j = none ∨ L1 j = σ.L j) → (x1.length + x2.length) * d.bytes ≤ 140737488355328 → x1.length + x2.length ≤ 9223372036854775807 →
        ∃ v w' Sg' cg', (Builtin.append_ #[t, tx] ty #[u1, u2]).run P w = .ok v w' ∧ InvG B F Sg' cg' (σ.mk' L1 lk dst ⟨0, .sl d.ty, .own me, x1 ++ x2⟩) (a.put (some dst) v) w' := by
      intro me x1 S1 L1 hrep hr2 hdis hS1 hS2 hL1 hby h63
      have hd1 : Dis S1 F := fun k hk hf => by obtain ⟨l1, b1, h1, _, h3⟩ := hS1 k hk; exact h.disF l1 b1 h1 k h3 hf
      have hlt1 : ∀ k, S1 k → k < w.heap.size := fun k hk => by obtain ⟨l1, b1, h1, _, h3⟩ := hS1 k hk; exact h.lt l1 b1 h1 k h3
      obtain ⟨v, w', hrun, c1, c2, c3, c4, c5, c6⟩ := append_core (ty := ty) h.fl hd ht hrep hsrc hr2 hdis hd1 hlt1 (fun k hk => (hl2 k hk).1) hby (by simp only [maxLen]; omega)
      have i1 := h.addLab (w' := w') c1 c2 c3 c4 (l := lk) (b := ⟨0, .sl d.ty, .own me, x1 ++ x2⟩) hU (upd L1 lk (some ⟨0, .sl d.ty, .own me, x1 ++ x2⟩))
        (fun k hk hn => c5 k hk (fun hs => hn (by obtain ⟨l1, b1, h1, h2, h3⟩ := hS1 k hs; exact ⟨l1, b1, h1, by rw [upd_ne _ _ (fun e => by subst e; rw [h.used _ b1 h1] at hU; cases hU)]; exact h2, h3⟩)))
        c6 (upd_same _ _ _) (fun j hj => by rw [upd_ne _ _ hj]; exact hL1 j) (fun k hk => ?_)
      · refine ⟨v, w', _, _, hrun, i1.putT hN (e := .one (.hdr lk 0 [] ⟨.sl d.ty, x1 ++ x2⟩)) (root_ok i1 (l := lk) (b := ⟨0, .sl d.ty, .own me, x1 ++ x2⟩) (upd_same _ _ _) ?_)⟩
        simp only [if_true]
        obtain ⟨z, hz, hz1⟩ := rep_scal rfl c6
        simp only [List.cons.injEq, and_true] at hz
        subst hz
        simp [VR, Ty.agg, hz1]
      · have gone : (∃ l1 b1, σ.L l1 = some b1 ∧ L1 l1 = none ∧ Sg l1 k) → (∀ j bj, j ≠ lk → upd L1 lk (some ⟨0, .sl d.ty, .own me, x1 ++ x2⟩) j = some bj → ¬ Sg j k) ∧ ¬ F k ∧ k < w'.heap.size ∧ (k < B.w0.heap.size → B.S0 k) := by
          rintro ⟨l1, b1, h1, h2, h3⟩
          refine ⟨fun j bj hj hbj hs => ?_, fun hf => h.disF l1 b1 h1 k h3 hf, Nat.lt_of_lt_of_le (h.lt l1 b1 h1 k h3) c4, h.may l1 b1 h1 k h3⟩
          rw [upd_ne _ _ hj] at hbj
          have hbj' : σ.L j = some bj := by
            rcases hL1 j with e | e
            · rw [e] at hbj; cases hbj
            · rw [← e]; exact hbj
          by_cases e : l1 = j
          · subst e; rw [h2] at hbj; cases hbj
          · exact h.dis l1 j b1 bj e h1 hbj' k h3 hs
        rcases hk with hk | hk | hk
        · exact gone (hS1 k hk)
        · exact gone (hS2 k hk)
        · refine ⟨fun j bj hj hbj hs => ?_, fun hf => ?_, hk.2, fun hlt => ?_⟩
          · rw [upd_ne _ _ hj] at hbj
            have hbj' : σ.L j = some bj := by
              rcases hL1 j with e | e
              · rw [e] at hbj; cases hbj
              · rw [← e]; exact hbj
            have := h.lt j bj hbj' k hs; omega
          · have := h.fl k hf; omega
          · have := h.fr.size; omega
    split at hk
    · rename_i l1 n1 c1 _hk0
      split at hk
      · rename_i v1 t1 me x1 hl1
        split at hk
        · rename_i htt
          subst htt
          cases hb : mdFit d.ty m2 me && !(decide (lo = some l1))
          · rw [hb] at hk; cases hk
          rw [hb] at hk
          simp only [cond_true] at hk
          simp only [Bool.and_eq_true, Bool.not_eq_true', decide_eq_false_iff_not] at hb
          split at hk
          · rename_i hby
            split at hk
            · rename_i h63
              have hv1 := (he1.2 _ hl1).2.1 rfl
              have hrep1 := h.lab l1 _ hl1
              have hcg : cg l1 = [u1] := by simp [VR, Ty.agg] at hv1; exact hv1.1
              rw [hcg] at hrep1
              obtain ⟨v, w', Sg', cg', hrun, hi⟩ := fin me x1 (Sg l1) (goneL (upd σ.L l1 none) lo) hrep1 (repL_fit hb.1 hr2)
                (fun k a b => by
                  obtain ⟨_, _, l2, b2, e1, e2, e3⟩ := hl2 k b
                  exact h.dis l1 l2 _ b2 (fun e => hb.2 (by rw [e1, e])) hl1 e2 k a e3)
                (fun k hk => ⟨l1, _, hl1, by rcases goneL_cases (upd σ.L l1 none) lo l1 with e | e; exact e; rw [e, upd_same], hk⟩)
                (fun k hk => by
                  obtain ⟨_, _, l2, b2, e1, e2, e3⟩ := hl2 k hk
                  exact ⟨l2, b2, e2, by rw [e1]; exact upd_same _ _ _, e3⟩)
                (fun j => by
                  rcases goneL_cases (upd σ.L l1 none) lo j with e | e
                  · exact .inl e
                  · rw [e]
                    by_cases e' : j = l1
                    · subst e'; exact .inl (upd_same _ _ _)
                    · exact .inr (upd_ne _ _ e')) hby h63
              exact ⟨_, v, w', Sg', cg', hk, hrun, hi, ef_mk⟩
            · cases hk
          · cases hk
        · cases hk
      · cases hk
    · rename_i u _hk0
      obtain ⟨x1, cs, hk, hr1, hv1⟩ := asT_okM hk he1
      split at hk
      · rename_i hby
        split at hk
        · rename_i h63
          have hcs : cs = [u1] := by simp [VR, Ty.agg] at hv1; exact hv1.1
          subst hcs
          have hu : u1 = u := he1
          have hnil : (∃ ao, u1 = .slice ao 0 0) ∧ x1 = [] := by
            have hr1' : OwnSl w d.ty.width (Rep F w d.ty .ro) x1 [u1] BSet.none := hr1
            obtain ⟨ao, cap, e1, e2, e3, e4⟩ := hr1'
            rcases e4 with rfl | ⟨_, _, _, _, _, _, _, hS, _⟩
            · have hx : x1 = [] := List.eq_nil_of_length_eq_zero (by omega)
              subst hx
              simp at e1
              exact ⟨⟨ao, e1⟩, rfl⟩
            · exact hS.elim
          obtain ⟨⟨ao, e1⟩, rfl⟩ := hnil
          have hrep1 : Rep F w (.sl d.ty) (.own m2) [] [u1] BSet.none := by rw [e1]; exact ⟨ao, 0, rfl, Nat.le_refl _, by simp [maxLen], .inl rfl⟩
          obtain ⟨v, w', Sg', cg', hrun, hi⟩ := fin m2 [] BSet.none (goneL σ.L lo) hrep1 hr2 (fun _ h => h.elim) (fun _ h => h.elim)
            (fun k hk => by
              obtain ⟨_, _, l2, b2, e1, e2, e3⟩ := hl2 k hk
              exact ⟨l2, b2, e2, by rw [e1]; exact upd_same _ _ _, e3⟩)
            (fun j => goneL_cases σ.L lo j) hby h63
          exact ⟨_, v, w', Sg', cg', hk, hrun, hi, ef_mk⟩
        · cases hk
      · cases hk
    · cases hk
  · rw [hU] at hk; cases hk
end
end Go.Proofs.YtgonfcjdhbjkcaaDoor.Rf
/- Layer 16: append where a row lies in a box; operations on values: fields, indices, lengths, conversions. -/
set_option linter.unusedVariables false
set_option linter.unusedSimpArgs false
namespace Go.Proofs.YtgonfcjdhbjkcaaDoor.Rf
open Go

def St.took (σ : St) (l d : Nat) (bl bd : Lab) : St := { σ with L := upd (upd σ.L l (some bl)) d (some bd), U := fun j => Nat.beq j d || σ.U j }

def xAppend {R : Type} (d : TD) (σ : St) (str : Bool) (dst : Nat) (e1 e2 : Ent0) (K : St → Option R) : Option R :=
  match e1 with
  | .hdr l n (.deref :: π) c => match σ.L l with
    | some ⟨v0, .box t0, m0, x0⟩ =>
      bif Nat.beq n v0 && isSl c.t && !(σ.U (dst * 8 + 1)) then (match replP (.box t0) x0 (.deref :: π) ⟨.junk, ()⟩ with
        | some v' => xApp d (σ.took l (dst * 8 + 1) ⟨v0 + 1, v'.t, replM m0 (.deref :: π) .ro, v'.x⟩ ⟨0, c.t, atM (.box t0) m0 (.deref :: π), c.x⟩) str (dst * 8) dst (.hdr (dst * 8 + 1) 0 [] c) e2 K
        | none => none) else none
    | _ => none
  | .hdr l n [.idx i] c => match σ.L l with
    | some ⟨v0, .sl t0, .own m0, x0⟩ =>
      bif Nat.beq n v0 && isSl t0 && !(σ.U (dst * 8 + 1)) then (if 0 ≤ i then (match (x0 : List t0.T)[i.toNat]? with
        | some y => xApp d (σ.took l (dst * 8 + 1) ⟨v0 + 1, .hol t0, .own m0, (x0, i.toNat)⟩ ⟨0, t0, m0, y⟩) str (dst * 8) dst (.hdr (dst * 8 + 1) 0 [] c) e2 K
        | none => none) else none) else none
    | _ => none
  | e1 => xApp d σ str (dst * 8) dst e1 e2 K

section
variable {P : Program} {B : Base} {F : BSet} {Sg : Nat → BSet} {cg : Nat → List Value} {σ : St} {a : Act} {w : World}

theorem xAppend_ok (h : InvG B F Sg cg σ a w) {R : Type} {t tx ty e : TypeId} {d : TD} (hd : TOk P e d) (ht : P.underlying t = some (.slice e)) {str : Bool} (hseq : bif str then P.underlying tx = some .string else ∃ e', P.underlying tx = some (.slice e')) {dst : Nat} (hN : dst < B.N) {o1 o2 : Operand} {e1 e2 : Ent0} (h1 : opd σ o1 = some e1) (h2 : opd σ o2 = some e2) {K : St → Option R} {r : R} (hk : xAppend d σ str dst e1 e2 K = some r) :
    ∃ σ' v w' Sg' cg', K σ' = some r ∧ (Builtin.append_ #[t, tx] ty #[a.eval o1, a.eval o2]).run P w = .ok v w' ∧ InvG B F Sg' cg' σ' (a.put (some dst) v) w' ∧ EF σ σ' dst := by
  unfold xAppend at hk
  have he1 := opd_ok h h1
  split at hk
  · rename_i l n π c
    split at hk
    · rename_i v0 t0 m0 x0 hl
      cases hb : Nat.beq n v0 && isSl c.t && !(σ.U (dst * 8 + 1))
      · rw [hb] at hk; cases hk
      rw [hb] at hk
      simp only [cond_true] at hk
      simp only [Bool.and_eq_true, Bool.not_eq_true'] at hb
      obtain ⟨⟨hn, hsl⟩, hU⟩ := hb
      have hn := Nat.eq_of_beq_eq_true hn
      cases hr : replP (.box t0) x0 (.deref :: π) ⟨.junk, ()⟩ with
      | none => rw [hr] at hk; cases hk
      | some v' =>
        rw [hr] at hk
        simp only at hk
        obtain ⟨h3, h4, h5⟩ := (he1.2 _ hl).2.2 hn
        obtain ⟨t', ht'⟩ := isSl_ok hsl
        obtain ⟨ds, s, Sg', cg', hres, hi, hcd, _⟩ := h.take hl h4 h3 (by rw [ht']; rfl) hr hU ⟨t', ht'⟩
        have hv := h5 ds s hres
        have hat := get?_atT _ _ _ _ h4
        simp only at hat hv
        rw [← hat] at hv
        have he1' : EntOk F w (σ.took l (dst * 8 + 1) ⟨v0 + 1, v'.t, replM m0 (.deref :: π) .ro, v'.x⟩ ⟨0, c.t, atM (.box t0) m0 (.deref :: π), c.x⟩).L (σ.took l (dst * 8 + 1) ⟨v0 + 1, v'.t, replM m0 (.deref :: π) .ro, v'.x⟩ ⟨0, c.t, atM (.box t0) m0 (.deref :: π), c.x⟩).U cg' (.hdr (dst * 8 + 1) 0 [] c) (a.eval o1) :=
          root_ok hi (l := dst * 8 + 1) (b := ⟨0, c.t, atM (.box t0) m0 (.deref :: π), c.x⟩) (upd_same _ _ _) (by rw [hcd]; exact hv)
        have he2' := opd_ok hi (x := o2) (e := e2) (by
          cases o2 with
          | tmp t => exact h2
          | const v => exact h2
          | global g => exact h2
          | func f => exact h2)
        exact xApp_ok hi hd ht hseq hN hk he1' he2'
    · cases hk
  · rename_i l n i c
    split at hk
    · rename_i v0 t0 m0 x0 hl
      cases hb : Nat.beq n v0 && isSl t0 && !(σ.U (dst * 8 + 1))
      · rw [hb] at hk; cases hk
      rw [hb] at hk
      simp only [cond_true] at hk
      simp only [Bool.and_eq_true, Bool.not_eq_true'] at hb
      obtain ⟨⟨hn, hsl⟩, hU⟩ := hb
      have hn := Nat.eq_of_beq_eq_true hn
      split at hk
      case isFalse => cases hk
      rename_i hi0
      cases hr : (x0 : List t0.T)[i.toNat]? with
      | none => rw [hr] at hk; cases hk
      | some y =>
        rw [hr] at hk
        simp only at hk
        obtain ⟨h3, h4, h5⟩ := (he1.2 _ hl).2.2 hn
        obtain ⟨ds, s, Sg', cg', hres, hi, hcd, _⟩ := h.takeI hl hi0 hr (isSl_ok hsl) hU
        have hv := h5 ds s hres
        have hv' : VR t0 ds (a.eval o1) := by
          have e : atT (.sl t0) [.idx i] = t0 := by simp only [atT]
          rw [e] at hv; exact hv
        have he1' : EntOk F w (σ.took l (dst * 8 + 1) ⟨v0 + 1, .hol t0, .own m0, (x0, i.toNat)⟩ ⟨0, t0, m0, y⟩).L (σ.took l (dst * 8 + 1) ⟨v0 + 1, .hol t0, .own m0, (x0, i.toNat)⟩ ⟨0, t0, m0, y⟩).U cg' (.hdr (dst * 8 + 1) 0 [] ⟨t0, y⟩) (a.eval o1) :=
          root_ok hi (l := dst * 8 + 1) (b := ⟨0, t0, m0, y⟩) (upd_same _ _ _) (by rw [hcd]; exact hv')
        have hc : c = ⟨t0, y⟩ := by
          simp only [get?, getP, hi0, if_true, hr] at h4
          have : (some (V.mk t0 y) : Option V) = some c := by rw [← h4]
          exact (Option.some.inj this).symm
        have he2' := opd_ok hi (x := o2) (e := e2) (by
          cases o2 with
          | tmp t => exact h2
          | const v => exact h2
          | global g => exact h2
          | func f => exact h2)
        rw [hc] at hk
        exact xApp_ok hi hd ht hseq hN hk he1' he2'
    · cases hk
  · exact xApp_ok h hd ht hseq hN hk he1 (opd_ok h h2)

/-! ### Values -/
theorem inline_cells {F : BSet} {w : World} : ∀ (π : List Stp) (t : Ty) (m : Md) (x : t.T) (cs : List Value) (S : BSet) (k : Nat) (c : V), inlineOff t π = some k → get? t x π = some c → Rep F w t m x cs S → ∃ pre ds post S', cs = pre ++ ds ++ post ∧ pre.length = k ∧ Rep F w c.t (atM t m π) c.x ds S' ∧ Sub S' S := by
  intro π
  induction π with
  | nil =>
    intro t m x cs S k c hk hg hr
    rw [get?_nil] at hg
    injection hg with hg
    subst hg
    have : k = 0 := by cases t <;> simp [inlineOff] at hk <;> exact hk.symm
    subst this
    exact ⟨[], cs, [], S, by simp, rfl, by cases t <;> exact hr, Sub.refl _⟩
  | cons p0 π ih =>
    intro t m x cs S k c hk hg hr
    unfold get? at hg
    cases t <;> cases p0 <;> simp only [getP, reduceCtorEq] at hg <;> simp only [inlineOff, reduceCtorEq] at hk
    case st.st => exact ih _ _ _ _ _ _ _ hk hg hr
    case pair.fst a b =>
      obtain ⟨c1, c2, S1, S2, rfl, h1, h2, s1, s2, _⟩ := hr
      obtain ⟨pre, ds, post, S', rfl, e2, e3, e4⟩ := ih _ _ _ _ _ _ _ hk hg h1
      exact ⟨pre, ds, post ++ c2, S', by simp, e2, e3, e4.trans s1⟩
    case pair.snd a b =>
      obtain ⟨c1, c2, S1, S2, rfl, h1, h2, s1, s2, _⟩ := hr
      split at hk
      · rename_i k' hk'
        injection hk with hk
        subst hk
        obtain ⟨pre, ds, post, S', rfl, e2, e3, e4⟩ := ih _ _ _ _ _ _ _ hk' hg h2
        exact ⟨c1 ++ pre, ds, post, S', by simp, by rw [List.length_append, rep_width _ _ _ _ _ _ _ h1, e2], e3, e4.trans s2⟩
      · cases hk
    case arr.ai n t i =>
      split at hg
      · cases hz : (x : List t.T)[i.toNat]? with
        | none => rw [hz] at hg; simp at hg
        | some z =>
          rw [hz] at hg
          split at hk
          · rename_i k' hk'
            injection hk with hk
            subst hk
            obtain ⟨d, T, pre0, post0, hd, t1, rfl, hp, _⟩ := RepL.focus (fun y c S h => rep_width F w t _ y c S h) hz hr.2
            obtain ⟨pre, ds, post, S', rfl, e2, e3, e4⟩ := ih _ _ _ _ _ _ _ hk' hg hd
            exact ⟨pre0 ++ pre, ds, post ++ post0, S', by simp, by rw [List.length_append, hp, e2], e3, e4.trans t1⟩
          · cases hk
      · cases hg

theorem atM_ro : ∀ (π : List Stp) (t : Ty) (m : Md), noOwn m = true → noOwn (atM t m π) = true := by
  intro π
  induction π with
  | nil => intro t m h; cases t <;> exact h
  | cons p π ih =>
    intro t m h
    cases t <;> cases p <;> simp only [atM] <;> first
      | rfl
      | exact ih _ _ h
      | exact ih _ _ (noOwn_fst h)
      | exact ih _ _ (noOwn_snd h)
      | exact ih _ _ (by rw [noOwn_el h]; rfl)

theorem inline_resolve {w : World} : ∀ (φ : List Stp) (t : Ty) (cs : List Value) (s s' : Option (Nat × Nat)) (k : Nat) (ds : List Value), inlineOff t φ = some k → cs.length = t.width → resolve w t cs s φ = some (ds, s') → ds = (cs.drop k).take (atT t φ).width ∧ k + (atT t φ).width ≤ t.width := by
  intro φ
  induction φ with
  | nil =>
    intro t cs s s' k ds hk hl h
    rw [resolve_nil] at h
    injection h with h
    injection h with h _
    subst h
    have : k = 0 := by cases t <;> simp [inlineOff] at hk <;> exact hk.symm
    subst this
    have e : atT t [] = t := by cases t <;> rfl
    rw [e, List.drop_zero, ← hl, List.take_length]
    exact ⟨rfl, by omega⟩
  | cons p φ ih =>
    intro t cs s s' k ds hk hl h
    cases t <;> cases p <;> simp only [resolve, reduceCtorEq] at h <;> simp only [inlineOff, reduceCtorEq] at hk <;> simp only [atT]
    case st.st => exact ih _ _ _ _ _ _ hk hl h
    case pair.fst a b =>
      simp only [Ty.width] at hl ⊢
      obtain ⟨e1, e2⟩ := ih _ _ _ _ _ _ hk (by rw [List.length_take]; omega) h
      refine ⟨?_, by omega⟩
      rw [e1, List.drop_take, List.take_take]
      congr 1
      omega
    case pair.snd a b =>
      simp only [Ty.width] at hl ⊢
      split at hk
      · rename_i k' hk'
        injection hk with hk
        subst hk
        obtain ⟨e1, e2⟩ := ih _ _ _ _ _ _ hk' (by rw [List.length_drop]; omega) h
        exact ⟨by rw [e1, List.drop_drop], by omega⟩
      · cases hk
    case arr.ai n t i =>
      simp only [Ty.width] at hl ⊢
      split at h
      · rename_i hc
        split at hk
        · rename_i k' hk'
          injection hk with hk
          subst hk
          have hm : i.toNat * t.width + t.width ≤ n * t.width := by
            rw [← Nat.succ_mul]; exact Nat.mul_le_mul_right _ hc.2
          obtain ⟨e1, e2⟩ := ih _ _ _ _ _ _ hk' (by rw [List.length_take, List.length_drop]; omega) h
          refine ⟨?_, by omega⟩
          rw [e1, List.drop_take, List.take_take, List.drop_drop]
          congr 1
          omega
        · cases hk
      · cases h

theorem run_part {t : TypeId} {d : TD} (hd : TOk P t d) {pre ds post : List Value} (hl : ds.length = d.ty.width) (hv : d.ty.agg = true ∨ ∃ z, ds = [z] ∧ z.oneCell' = true) :
    ∃ z, (part t (pre ++ ds ++ post).toArray pre.length).run P w = .ok z w ∧ VR d.ty ds z := by
  unfold part
  cases ha : d.ty.agg
  · rcases hv with hv | ⟨z, rfl, hz⟩
    · rw [ha] at hv; cases hv
    refine ⟨z, ?_, by simp [VR, ha, hz]⟩
    have : ((pre ++ [z] ++ post).toArray)[pre.length]? = some z := by simp
    simp only [Sem.run_bind, run_isAgg hd, ha, Result.andThen_ok, Bool.false_eq_true, if_false, this, Sem.run_pure]
  · refine ⟨.agg ds.toArray, ?_, by simp [VR, ha]⟩
    have : ((pre ++ ds ++ post).toArray).extract pre.length (pre.length + d.ty.width) = ds.toArray := by
      apply Array.ext'
      rw [Array.toList_extract]
      simp only [List.extract_eq_take_drop]
      rw [List.append_assoc, List.drop_append_of_le_length (Nat.le_refl _), List.drop_length, List.nil_append]
      rw [show pre.length + d.ty.width - pre.length = ds.length by omega]
      rw [List.take_append_of_le_length (Nat.le_refl _), List.take_length]
    simp only [Sem.run_bind, run_isAgg hd, ha, Result.andThen_ok, if_true, run_sizeOf hd, this, Sem.run_pure]

/-- A field of a struct that is a value. -/
def xField {R : Type} (TT : Tab) (σ : St) (s : TypeId) (e : Ent0) (f : Nat) (K : Ent0 → Option R) : Option R :=
  fldK TT s f fun d _ φ df => bif df.ty.vty && d.ty.agg then
    (match e with
    | .val t x => bif decide (t = d.ty) then getP t x φ fun u y => bif decide (u = df.ty) then K (.val u y) else none else none
    | .hdr l n π c => hcur σ (.hdr l n π c) fun l b π c => bif decide (c.t = d.ty) then getP c.t c.x φ fun u y => bif decide (u = df.ty) then K (outE ⟨u, y⟩ l b (π ++ φ)) else none else none
    | _ => none) else none

theorem xField_ok (h : InvG B F Sg cg σ a w) {R : Type} {TT : Tab} (hT : TabOk P TT) {s : TypeId} {f : Nat} {e : Ent0} {K : Ent0 → Option R} {r : R} (hk : xField TT σ s e f K = some r) {v : Value} (he : EntOk F w σ.L σ.U cg e v) :
    ∃ e' z, K e' = some r ∧ (Instr.field s v f).run P w = .ok z w ∧ EntOk F w σ.L σ.U cg e' z := by
  obtain ⟨d, k, φ, df, fields, fl, hk, hd, hin, hu, hfl, hoff, hdf, hw0⟩ := fldK_ok hT hk
  cases hvt : df.ty.vty && d.ty.agg
  · rw [hvt] at hk; cases hk
  rw [hvt] at hk
  simp only [cond_true] at hk
  simp only [Bool.and_eq_true] at hvt
  obtain ⟨hvt, hag⟩ := hvt
  have hrun : ∀ cs : List Value, (Instr.field s (.agg cs.toArray) f).run P w = (part fl.type cs.toArray fl.offset).run P w := by
    intro cs
    simp [Instr.field, run_underlying hu, hfl, asAgg]
  split at hk
  · rename_i t x _
    cases hud : decide (t = d.ty)
    · rw [hud] at hk; cases hk
    rw [hud] at hk
    simp only [cond_true] at hk
    have hud := of_decide_eq_true hud
    subst hud
    rw [getP_eq] at hk
    obtain ⟨c, hg, hk⟩ := Option.bind_eq_some_iff.1 hk
    cases hud : decide (c.t = df.ty)
    · rw [hud] at hk; cases hk
    rw [hud] at hk
    simp only [cond_true] at hk
    have hud := of_decide_eq_true hud
    obtain ⟨cs, hr, hv⟩ := he
    obtain ⟨pre, ds, post, S', rfl, e2, e3, e4⟩ := inline_cells _ _ _ _ _ _ _ _ hin hg hr
    have hvr : v = .agg (pre ++ ds ++ post).toArray := by simpa [VR, hag] using hv
    subst hvr
    have hw := rep_width _ _ _ _ _ _ _ e3
    have hvc := vty_cells (by rw [hud]; exact hvt) e3
    rw [hud] at hw hvc
    obtain ⟨z, h5, h6⟩ := run_part (w := w) (pre := pre) (post := post) hdf hw hvc
    rw [← hud] at h6
    refine ⟨_, z, hk, by rw [hrun, hoff, ← e2]; exact h5, ds, rep_noOwn _ _ ?_ _ _ _ _ e3, h6⟩
    exact atM_ro _ _ _ rfl
  · rename_i l n π c
    obtain ⟨l, b, π, c, hl, hk, hg, ho, ds, s', S', hres, hrep, hsub, hfoc, hv⟩ := hcur_ok h hk he
    cases hud : decide (c.t = d.ty)
    · rw [hud] at hk; cases hk
    rw [hud] at hk
    simp only [cond_true] at hk
    have hud := of_decide_eq_true hud
    rw [getP_eq] at hk
    obtain ⟨c', hg', hk⟩ := Option.bind_eq_some_iff.1 hk
    cases hud2 : decide (c'.t = df.ty)
    · rw [hud2] at hk; cases hk
    rw [hud2] at hk
    simp only [cond_true] at hk
    have hud2 := of_decide_eq_true hud2
    have hin' : inlineOff c.t φ = some k := by rw [hud]; exact hin
    obtain ⟨pre, ds', post, S2, rfl, e2, e3, e4⟩ := inline_cells _ _ _ _ _ _ _ _ hin' hg' hrep
    have hvr : v = .agg (pre ++ ds' ++ post).toArray := by
      have : c.t.agg = true := by rw [hud]; exact hag
      simpa [VR, this] using hv
    subst hvr
    have hw := rep_width _ _ _ _ _ _ _ e3
    have hvc := vty_cells (by rw [hud2]; exact hvt) e3
    rw [hud2] at hw hvc
    obtain ⟨z, h5, h6⟩ := run_part (w := w) (pre := pre) (post := post) hdf hw hvc
    rw [← hud2] at h6
    have hat := get?_atT _ _ _ _ hg
    have ho2 : ownP b.t b.m (π ++ φ) = true := by rw [ownP_app, ho, ← hat, inline_own _ _ _ _ hin']; rfl
    have hg2 : get? b.t b.x (π ++ φ) = some c' := by rw [get?_app, hg]; exact hg'
    obtain ⟨ds3, s3, S3, f1, f2, f3, _⟩ := focus F w (π ++ φ) b.t b.m b.x (cg l) (Sg l) none c'.t c'.x (h.lab l b hl) hg2 ho2
    have hds : ds3 = ds' := by
      rw [resolve_app, hres] at f1
      simp only [Option.bind_some] at f1
      rw [← hat] at f1
      have hall := rep_width _ _ _ _ _ _ _ hrep
      obtain ⟨g1, _⟩ := inline_resolve _ _ _ _ _ _ _ hin' hall f1
      have hat2 := get?_atT _ _ _ _ hg'
      rw [g1, ← e2, List.append_assoc, List.drop_append_of_le_length (Nat.le_refl _), List.drop_length, List.nil_append, ← hat2, hud2, ← hw]
      exact take_width rfl
    subst hds
    exact ⟨_, z, hk, by rw [hrun, hoff, ← e2]; exact h5, outE_ok h hl hg2 ho2 f1 f2 h6⟩
  · cases hk
end
end Go.Proofs.YtgonfcjdhbjkcaaDoor.Rf
/- Layer 17: indices, lengths, conversions, cuts. -/
set_option linter.unusedVariables false
set_option linter.unusedSimpArgs false
namespace Go.Proofs.YtgonfcjdhbjkcaaDoor.Rf
open Go

def xIndex {R : Type} (TT : Tab) (t : TypeId) (ex ei : Ent0) (K : Ent0 → Option R) : Option R :=
  isIdx ei fun i =>
  match TT t with
  | none => none
  | some d => match d.kd with
    | .str => match ex with
      | .val .str s => if 0 ≤ i then (match (s : List Int)[i.toNat]? with | some c => K (.val (.int .u8) c) | none => none) else none
      | _ => none
    | .array n e => match TT e with
      | none => none
      | some de => match ex with
        | .val (.arr n' t') xs => bif decide (Ty.arr n' t' = .arr n de.ty) && de.ty.vty then (if 0 ≤ i then (match (xs : List t'.T)[i.toNat]? with | some y => K (.val t' y) | none => none) else none) else none
        | _ => none
    | _ => none

def xLen {R : Type} (TT : Tab) (σ : St) (t : TypeId) (e : Ent0) (K : Ent0 → Option R) : Option R :=
  match TT t with
  | none => none
  | some d => match d.kd with
    | .str => match e with
      | .val .str s => K (.val (.int .i64) (List.length s : Int))
      | _ => none
    | .slice _ => match e with
      | .val (.sl _) xs => K (.val (.int .i64) (List.length xs : Int))
      | .hdr l n π c => hcur σ (.hdr l n π c) fun _ _ _ c => match c with
        | ⟨.sl _, xs⟩ => K (.val (.int .i64) (List.length xs : Int))
        | _ => none
      | .cst (.slice none 0 0) => K (.val (.int .i64) 0)
      | _ => none
    | .chan _ => match e with
      | .hdr l n π c => hcur σ (.hdr l n π c) fun _ b π c => match c with
        | ⟨.chan, x⟩ => bif (atM b.t b.m π).isOwn then K (.val (.int .i64) (List.length x.2 : Int)) else none
        | _ => none
      | _ => none
    | _ => none
def xCap {R : Type} (TT : Tab) (σ : St) (t : TypeId) (e : Ent0) (K : Ent0 → Option R) : Option R :=
  match TT t with
  | none => none
  | some d => match d.kd with
    | .chan _ => match e with
      | .hdr l n π c => hcur σ (.hdr l n π c) fun _ b π c => match c with
        | ⟨.chan, x⟩ => bif (atM b.t b.m π).isOwn then K (.val (.int .i64) (x.1 : Int)) else none
        | _ => none
      | _ => none
    | _ => none

def xNil {R : Type} (σ : St) (e : Ent0) (K : Ent0 → Option R) : Option R :=
  bif e.owned then plc σ e fun _ _ _ _ => K e else roPtr e fun _ _ => K e

def xUn {R : Type} (op : UnOp) (e : Ent0) (K : Ent0 → Option R) : Option R :=
  match op, e with
  | .not, .val .bool b => K (.val .bool (!b))
  | .neg, .val (.int k) n => K (.val (.int k) (k.wrap (0 - n)))
  | .xor, .val (.int k) n => K (.val (.int k) (bitI .xor k (if k.signed then -1 else k.max) n))
  | _, _ => none

def xConv {R : Type} (TT : Tab) (σ : St) (s t : TypeId) (e : Ent0) (K : Ent0 → Option R) : Option R :=
  match TT s with
  | none => none
  | some ds => match TT t with
    | none => none
    | some dt => match dt.kd with
      | .int k => match e with
        | .val (.int _) n => K (.val (.int k) (k.wrap n))
        | _ => none
      | .str => match ds.kd with
        | .str => match e with
          | .val .str x => K (.val .str x)
          | _ => none
        | .slice el => match TT el with
          | none => none
          | some de => match de.kd with
            | .int .u8 => match e with
              | .val (.sl (.int .u8)) xs => K (.val .str (xs : List Int))
              | .hdr l n π c => hcur σ (.hdr l n π c) fun _ _ _ c => match c with
                | ⟨.sl (.int .u8), xs⟩ => K (.val .str (xs : List Int))
                | _ => none
              | .cst (.slice none 0 0) => K (.val .str [])
              | _ => none
            | _ => none
        | _ => none
      | _ => none

def xPick {R : Type} (c a b : Ent0) (K : Ent0 → Option R) : Option R :=
  match c with
  | .val .bool t => match (t : Bool) with
    | true => K a
    | false => K b
  | _ => none

section
variable {P : Program} {B : Base} {F : BSet} {Sg : Nat → BSet} {cg : Nat → List Value} {σ : St} {a : Act} {w : World}

theorem xIndex_ok {R : Type} {L : Nat → Option Lab} {U : Nat → Bool} {TT : Tab} (hT : TabOk P TT) {t : TypeId} {ex ei : Ent0} {K : Ent0 → Option R} {r : R} (hk : xIndex TT t ex ei K = some r) {v vi : Value} (he : EntOk F w L U cg ex v) (hi : EntOk F w L U cg ei vi) :
    ∃ e' z, K e' = some r ∧ (Instr.index t v vi).run P w = .ok z w ∧ EntOk F w L U cg e' z := by
  unfold xIndex at hk
  obtain ⟨k, i, hk, rfl, _⟩ := isIdx_ok hk hi
  cases h1 : TT t with
  | none => rw [h1] at hk; cases hk
  | some d =>
  rw [h1] at hk
  simp only at hk
  have hd := (hT t d h1).desc
  split at hk
  · rename_i hkd
    rw [hkd] at hd
    simp only at hd
    split at hk
    · rename_i s _
      obtain ⟨u, rfl, rfl, hu⟩ := val_str he
      split at hk
      · rename_i h0
        cases hz : (sbytes u)[i.toNat]? with
        | none => rw [hz] at hk; cases hk
        | some c =>
          rw [hz] at hk
          simp only at hk
          unfold sbytes at hz
          rw [List.getElem?_map] at hz
          obtain ⟨b, hb, rfl⟩ := Option.map_eq_some_iff.1 hz
          refine ⟨_, .int .u8 b.toNat, hk, ?_, mk_int ?_⟩
          · have : u[i.toNat]? = some b := by
              rw [Array.getElem?_toList] at hb
              have hlt : i.toNat < u.data.size := (Array.getElem?_eq_some_iff.1 hb).1
              have hget : u.data[i.toNat] = b := (Array.getElem?_eq_some_iff.1 hb).2
              have hlt' : i.toNat < u.size := hlt
              rw [getElem?_pos u i.toNat hlt']
              exact congrArg some hget
            simp [Instr.index, asIntOf, run_underlying hd.1, h0, this]
          · have := b.toNat_lt
            simp [inK, kLo, kHi]
            omega
      · cases hk
    · cases hk
  · rename_i n e hkd
    rw [hkd] at hd
    simp only at hd
    cases h2 : TT e with
    | none => rw [h2] at hk; cases hk
    | some de =>
    rw [h2] at hk
    simp only at hk
    have hde := hT e de h2
    split at hk
    · rename_i n' t' xs _
      cases hud : decide (Ty.arr n' t' = .arr n de.ty) && de.ty.vty
      · rw [hud] at hk; cases hk
      rw [hud] at hk
      simp only [cond_true] at hk
      simp only [Bool.and_eq_true, decide_eq_true_eq] at hud
      obtain ⟨hud, hvt⟩ := hud
      injection hud with e1 e2
      subst e1; subst e2
      split at hk
      · rename_i h0
        cases hz : (xs : List de.ty.T)[i.toNat]? with
        | none => rw [hz] at hk; cases hk
        | some y =>
          rw [hz] at hk
          simp only at hk
          obtain ⟨cs, hr, hv⟩ := he
          have hg : get? (.arr n' de.ty) xs [.ai i] = some ⟨de.ty, y⟩ := by
            unfold get?
            simp only [getP]
            rw [if_pos h0, hz]
          have hin : inlineOff (.arr n' de.ty) [.ai i] = some (i.toNat * de.ty.width) := by
            have : inlineOff de.ty [] = some 0 := by cases de.ty <;> rfl
            simp [inlineOff, this]
          obtain ⟨pre, ds, post, S', rfl, g2, g3, _⟩ := inline_cells _ _ _ _ _ _ _ _ hin hg hr
          have hvr : v = .agg (pre ++ ds ++ post).toArray := by simpa [VR, Ty.agg] using hv
          subst hvr
          have hlt : i < (n' : Int) := by
            have : i.toNat < List.length xs := (List.getElem?_eq_some_iff.1 hz).1
            rw [hr.1] at this
            omega
          obtain ⟨z, h5, h6⟩ := run_part (w := w) (pre := pre) (post := post) hde (rep_width _ _ _ _ _ _ _ g3) (vty_cells hvt g3)
          refine ⟨_, z, hk, ?_, ds, rep_noOwn _ _ (atM_ro _ _ _ rfl) _ _ _ _ g3, h6⟩
          rw [← h5, g2]
          simp [Instr.index, asIntOf, run_underlying hd, h0, hlt, run_sizeOf hde]
      · cases hk
    · cases hk
  · cases hk

theorem len_row {t : Ty} {m : Md} {x : List t.T} {cs : List Value} {S : BSet} (h : Rep F w (.sl t) m x cs S) {v : Value} (hv : VR (.sl t) cs v) : ∃ ao cap, v = .slice ao x.length cap ∧ x.length ≤ maxLen := by
  cases m with
  | own me =>
    obtain ⟨ao, cap, rfl, h1, h2, _⟩ := h
    simp [VR, Ty.agg] at hv
    exact ⟨ao, cap, hv.1.symm, Nat.le_trans h1 h2⟩
  | ro => obtain ⟨ao, cap, h1, h2, h3, _⟩ := ro_row h hv; exact ⟨ao, cap, h1, Nat.le_trans h2 h3⟩
  | pr _ _ => obtain ⟨ao, cap, h1, h2, h3, _⟩ := ro_row h hv; exact ⟨ao, cap, h1, Nat.le_trans h2 h3⟩

theorem inK_len {n : Nat} (h : n ≤ maxLen) : inK .i64 (n : Int) := by simp only [maxLen] at h; simp [inK, kLo, kHi]; omega

/-- A channel that is owned. -/
theorem chan_of {R : Type} {m : Md} {x : Nat × List Int} {ds : List Value} {S : BSet} {v : Value} {k : Option R} {r : R} (h : Rep F w .chan m x ds S) (hv : VR .chan ds v) (hk : (bif m.isOwn then k else none) = some r) :
    ∃ (b : Nat) (buf : Array Value) (s rr : Nat), v = .chan (some b) ∧ w.heap[b]? = some (.chan x.1 buf false s rr false) ∧ buf.toList = x.2.map (fun n => .int .i64 n) ∧ (∀ n ∈ x.2, inK .i64 n) ∧ x.2.length ≤ x.1 ∧ x.1 ≤ maxLen ∧ k = some r := by
  cases m with
  | ro => cases hk
  | pr _ _ => cases hk
  | own m =>
    obtain ⟨b, buf, s, rr, rfl, hb, h1, ⟨h2, h3, h4⟩, hS⟩ := h
    simp [VR, Ty.agg] at hv
    exact ⟨b, buf, s, rr, hv.1.symm, hb, h1, h2, h3, h4, hk⟩

theorem xLen_ok (h : InvG B F Sg cg σ a w) {R : Type} {TT : Tab} (hT : TabOk P TT) {t : TypeId} {ty : TypeId} {e : Ent0} {K : Ent0 → Option R} {r : R} (hk : xLen TT σ t e K = some r) {v : Value} (he : EntOk F w σ.L σ.U cg e v) :
    ∃ e' z, K e' = some r ∧ (Builtin.len_ #[t] ty #[v]).run P w = .ok z w ∧ EntOk F w σ.L σ.U cg e' z := by
  unfold xLen at hk
  cases h1 : TT t with
  | none => rw [h1] at hk; cases hk
  | some d =>
  rw [h1] at hk
  simp only at hk
  have hd := (hT t d h1).desc
  split at hk
  · rename_i hkd
    rw [hkd] at hd
    simp only at hd
    split at hk
    · rename_i s _
      obtain ⟨u, rfl, rfl, hu⟩ := val_str he
      rw [sbytes_length] at hk
      exact ⟨_, _, hk, by simp [Builtin.len_, run_underlying hd.1, goInt], mk_int (inK_len hu)⟩
    · cases hk
  · rename_i e hkd
    rw [hkd] at hd
    simp only at hd
    split at hk
    · rename_i t' xs _
      obtain ⟨cs, hr, hv⟩ := he
      obtain ⟨ao, cap, rfl, hl⟩ := len_row hr hv
      exact ⟨_, _, hk, by simp [Builtin.len_, run_underlying hd, goInt], mk_int (inK_len hl)⟩
    · rename_i l n π c _
      obtain ⟨l, b, π, c, hl, hk, hg, ho, ds, s', S', hres, hrep, hsub, hfoc, hv⟩ := hcur_ok h hk he
      split at hk
      · rename_i t' xs
        obtain ⟨ao, cap, rfl, hl⟩ := len_row hrep hv
        exact ⟨_, _, hk, by simp [Builtin.len_, run_underlying hd, goInt], mk_int (inK_len hl)⟩
      · cases hk
    · have hv : v = .slice none 0 0 := he
      subst hv
      exact ⟨_, _, hk, by simp [Builtin.len_, run_underlying hd, goInt], mk_int (by simp [inK, kLo, kHi])⟩
    · cases hk
  · rename_i e hkd
    rw [hkd] at hd
    obtain ⟨dir, hd⟩ := hd
    split at hk
    · rename_i l n π c _
      obtain ⟨l, b, π, c, hl, hk, hg, ho, ds, s', S', hres, hrep, hsub, hfoc, hv⟩ := hcur_ok h hk he
      split at hk
      · rename_i x
        obtain ⟨cb, buf, s, r, rfl, hb, h1, h2, h3, h4, hk⟩ := chan_of hrep hv hk
        refine ⟨_, _, hk, Conc.run_len_chan t ty hd hb, ?_⟩
        have : buf.size = x.2.length := by rw [← Array.length_toList, h1, List.length_map]
        rw [this]
        exact mk_int (inK_len (Nat.le_trans h3 h4))
      · cases hk
    · cases hk
  · cases hk

theorem xCap_ok (h : InvG B F Sg cg σ a w) {R : Type} {TT : Tab} (hT : TabOk P TT) {t : TypeId} {ty : TypeId} {e : Ent0} {K : Ent0 → Option R} {r : R} (hk : xCap TT σ t e K = some r) {v : Value} (he : EntOk F w σ.L σ.U cg e v) :
    ∃ e' z, K e' = some r ∧ (Builtin.cap_ #[t] ty #[v]).run P w = .ok z w ∧ EntOk F w σ.L σ.U cg e' z := by
  unfold xCap at hk
  cases h1 : TT t with
  | none => rw [h1] at hk; cases hk
  | some d =>
  rw [h1] at hk
  simp only at hk
  have hd := (hT t d h1).desc
  split at hk
  · rename_i e hkd
    rw [hkd] at hd
    obtain ⟨dir, hd⟩ := hd
    split at hk
    · rename_i l n π c _
      obtain ⟨l, b, π, c, hl, hk, hg, ho, ds, s', S', hres, hrep, hsub, hfoc, hv⟩ := hcur_ok h hk he
      split at hk
      · rename_i x
        obtain ⟨cb, buf, s, r, rfl, hb, h1, h2, h3, h4, hk⟩ := chan_of hrep hv hk
        exact ⟨_, _, hk, Conc.run_cap_chan t ty hd hb, mk_int (inK_len h4)⟩
      · cases hk
    · cases hk
  · cases hk

theorem xNil_ok (h : InvG B F Sg cg σ a w) {R : Type} {e : Ent0} {K : Ent0 → Option R} {r : R} (hk : xNil σ e K = some r) {v : Value} (he : EntOk F w σ.L σ.U cg e v) : K e = some r ∧ ∃ ad, v = .pointer (some ad) := by
  unfold xNil at hk
  cases ho : e.owned
  · rw [ho] at hk
    simp only [cond_false] at hk
    obtain ⟨t, x, ad, ds, hk, rfl, _⟩ := roPtr_ok hk he
    exact ⟨hk, ad, rfl⟩
  · rw [ho] at hk
    simp only [cond_true] at hk
    obtain ⟨l, b, π, c, hl, hk, hc, hg, ho, ds, p, o, S', rfl, _⟩ := plc_ok h hk he
    exact ⟨hk, _, rfl⟩

theorem xUn_ok {R : Type} {L : Nat → Option Lab} {U : Nat → Bool} {op : UnOp} {e : Ent0} {K : Ent0 → Option R} {r : R} (hk : xUn op e K = some r) {v : Value} (he : EntOk F w L U cg e v) :
    ∃ e' z, K e' = some r ∧ (Op.unary op v).run P w = .ok z w ∧ EntOk F w L U cg e' z := by
  unfold xUn at hk
  split at hk
  · obtain rfl := val_bool he; exact ⟨_, _, hk, rfl, mk_bool⟩
  · obtain ⟨rfl, _⟩ := val_int he; exact ⟨_, _, hk, rfl, mk_int (inK_wrap _ _)⟩
  · obtain ⟨rfl, _⟩ := val_int he; exact ⟨_, _, hk, rfl, mk_int (inK_wrap _ _)⟩
  · cases hk

theorem xPick_ok {R : Type} {L : Nat → Option Lab} {U : Nat → Bool} {c x y : Ent0} {K : Ent0 → Option R} {r : R} (hk : xPick c x y K = some r) {vc vx vy : Value} (hc : EntOk F w L U cg c vc) (hx : EntOk F w L U cg x vx) (hy : EntOk F w L U cg y vy) :
    ∃ e' b, K e' = some r ∧ vc = .bool b ∧ EntOk F w L U cg e' (if b then vx else vy) := by
  unfold xPick at hk
  split at hk
  · rename_i t
    obtain rfl := val_bool hc
    split at hk
    · exact ⟨_, true, hk, rfl, hx⟩
    · exact ⟨_, false, hk, rfl, hy⟩
  · cases hk

theorem repL_ints {k : IntKind} {m : Md} {x : List Int} {cs : List Value} {S : BSet} (h : RepL (Rep F w (.int k) m) x cs S) : cs = x.map (Value.int k) ∧ ∀ n ∈ x, inK k n := by
  induction x generalizing cs S with
  | nil => exact ⟨h, by simp⟩
  | cons y ys ih =>
    obtain ⟨c1, c2, S1, S2, rfl, ⟨rfl, h1⟩, h2, _⟩ := h
    obtain ⟨rfl, h3⟩ := ih h2
    exact ⟨rfl, fun n hn => by rcases List.mem_cons.1 hn with rfl | hn; exact h1; exact h3 n hn⟩

theorem sbytes_nums {xs : List Int} (h : ∀ n ∈ xs, inK .u8 n) : sbytes (strOfNums xs) = xs := by
  unfold sbytes
  rw [strOfNums_data, List.map_map]
  induction xs with
  | nil => rfl
  | cons n ns ih =>
    have hn := h n (by simp)
    simp [inK, kLo, kHi] at hn
    simp only [List.map_cons, Function.comp]
    rw [ih (fun m hm => h m (by simp [hm]))]
    congr 1
    simp [UInt8.toNat_ofNat']
    omega

theorem run_conv_bytes {s t el : TypeId} (hs : P.underlying s = some (.slice el)) (he : P.underlying el = some (.int .u8)) (hd : P.underlying t = some .string) {xs : List Int} {news : List Value} {S : BSet} {ao : Option Addr} {cap : Nat} (hr : RepL (Rep F w (.int .u8) .ro) xs news S)
    (hat : 0 < xs.length → ∃ ad, ao = some ad ∧ At w ad news) : (convert s t (.slice ao xs.length cap)).run P w = .ok (.string (strOfNums xs)) w := by
  obtain ⟨rfl, _⟩ := repL_ints hr
  rw [run_convert_bytes_string w s t el _ _ _ hs he hd]
  have load : ∀ ad : Addr, At w ad (xs.map (Value.int .u8)) → (Conv.bytesToString (.slice (some ad) xs.length cap)).run P w = .ok (.string (strOfNums xs)) w := by
    intro ad hat
    have hl := run_loadCells_list (P := P) w ad _ hat
    rw [List.length_map] at hl
    rw [run_bytesToString w ad xs.length cap xs hl, foldl_push_bytes]
    simp [strOfNums, ByteArray.empty, ByteArray.emptyWithCapacity]
    rfl
  cases ao with
  | none =>
    have hx : xs = [] := by
      cases xs with
      | nil => rfl
      | cons y ys => obtain ⟨ad, h, _⟩ := hat (by simp); cases h
    subst hx
    rfl
  | some ad =>
    refine load ad ?_
    rcases Nat.eq_zero_or_pos xs.length with h0 | hp
    · rw [List.eq_nil_of_length_eq_zero h0]; intro j v hj; simp at hj
    · obtain ⟨ad', e1, h⟩ := hat hp; injection e1 with e1; subst e1; exact h

theorem xConv_ok (h : InvG B F Sg cg σ a w) {R : Type} {TT : Tab} (hT : TabOk P TT) {s t : TypeId} {e : Ent0} {K : Ent0 → Option R} {r : R} (hk : xConv TT σ s t e K = some r) {v : Value} (he : EntOk F w σ.L σ.U cg e v) :
    ∃ e' z, K e' = some r ∧ (convert s t v).run P w = .ok z w ∧ EntOk F w σ.L σ.U cg e' z := by
  unfold xConv at hk
  cases h1 : TT s with
  | none => rw [h1] at hk; cases hk
  | some ds =>
  rw [h1] at hk
  simp only at hk
  cases h2 : TT t with
  | none => rw [h2] at hk; cases hk
  | some dt =>
  rw [h2] at hk
  simp only at hk
  have hds := (hT s ds h1).desc
  have hdt := (hT t dt h2).desc
  have hus : ∃ q, P.underlying s = some q := by
    cases hk1 : ds.kd <;> rw [hk1] at hds <;> simp only at hds
    case int => exact ⟨_, hds.1⟩
    case bool => exact ⟨_, hds.1⟩
    case str => exact ⟨_, hds.1⟩
    case slice => exact ⟨_, hds⟩
    case array => exact ⟨_, hds⟩
    case struct => obtain ⟨f, h, _⟩ := hds; exact ⟨_, h⟩
    case pointer => exact ⟨_, hds⟩
    case chan => obtain ⟨_, h⟩ := hds; exact ⟨_, h⟩
    case other => obtain ⟨q, h, _⟩ := hds; exact ⟨_, h⟩
  split at hk
  · rename_i k hkd
    rw [hkd] at hdt
    simp only at hdt
    split at hk
    · rename_i k2 n _
      obtain ⟨rfl, _⟩ := val_int he
      obtain ⟨q, hq⟩ := hus
      exact ⟨_, _, hk, by simp [convert, run_underlying hq, run_underlying hdt.1, Conv.intToInt], mk_int (inK_wrap _ _)⟩
    · cases hk
  · rename_i hkd
    rw [hkd] at hdt
    simp only at hdt
    split at hk
    · rename_i hkd2
      rw [hkd2] at hds
      simp only at hds
      split at hk
      · rename_i x _
        obtain ⟨u, rfl, rfl, hu⟩ := val_str he
        exact ⟨_, _, hk, by simp [convert, run_underlying hds.1, run_underlying hdt.1], mk_str hu⟩
      · cases hk
    · rename_i el hkd2
      rw [hkd2] at hds
      simp only at hds
      cases h3 : TT el with
      | none => rw [h3] at hk; cases hk
      | some de =>
      rw [h3] at hk
      simp only at hk
      have hde := (hT el de h3).desc
      split at hk
      · rename_i hkd3
        rw [hkd3] at hde
        simp only at hde
        have fin : ∀ (xs : List Int) (m : Md) (cs : List Value) (S : BSet), Rep F w (.sl (.int .u8)) m xs cs S → VR (.sl (.int .u8)) cs v → ∃ z, (convert s t v).run P w = .ok z w ∧ EntOk F w σ.L σ.U cg (.val .str xs) z := by
          intro xs m cs S hr hv
          obtain ⟨_, _, hv0, hl⟩ := len_row hr hv
          obtain ⟨ao, cap, news, rfl, hr2, hat⟩ := any_row rfl hr hv
          have hin := (repL_ints hr2).2
          refine ⟨_, run_conv_bytes hds hde.1 hdt.1 hr2 hat, mk_str' (by rw [strOfNums_size]; exact hl) (sbytes_nums hin).symm⟩
        split at hk
        · rename_i xs
          obtain ⟨cs, hr, hv⟩ := he
          obtain ⟨z, e1, e2⟩ := fin xs _ _ _ hr hv
          exact ⟨_, z, hk, e1, e2⟩
        · rename_i l n π c _
          obtain ⟨l, b, π, c, hl, hk, hg, ho, ds, s', S', hres, hrep, hsub, hfoc, hv⟩ := hcur_ok h hk he
          split at hk
          · rename_i xs
            obtain ⟨z, e1, e2⟩ := fin xs _ _ _ hrep hv
            exact ⟨_, z, hk, e1, e2⟩
          · cases hk
        · have hv : v = .slice none 0 0 := he
          subst hv
          obtain ⟨z, e1, e2⟩ := fin [] .ro [.slice none 0 0] BSet.none ⟨none, 0, rfl, Nat.le_refl _, by simp [maxLen], fun h => by simp at h⟩ (by simp [VR, Ty.agg, Value.oneCell'])
          exact ⟨_, z, hk, e1, e2⟩
        · cases hk
      · cases hk
    · cases hk
  · cases hk
end
end Go.Proofs.YtgonfcjdhbjkcaaDoor.Rf
/- Layer 18: new rows of zeros, cuts, rows and structs built of parts. -/
set_option linter.unusedVariables false
set_option linter.unusedSimpArgs false
namespace Go.Proofs.YtgonfcjdhbjkcaaDoor.Rf
open Go

section
variable {P : Program} {B : Base} {F : BSet} {Sg : Nat → BSet} {cg : Nat → List Value} {σ : St} {a : Act} {w : World}

theorem run_askRoom (n : Nat) : (askRoom n).run P w = .ok () w := by unfold askRoom; split <;> rfl

/-- A row in new memory. -/
theorem InvG.newRowM (h : InvG B F Sg cg σ a w) {t : Ty} {m : Md} {x : List t.T} {cs : Array Value} {e : Mark cs.size} {cap : Nat} {S0 : BSet} (hrep : RepL (Rep F w t m) x (cs.toList.take (x.length * t.width)) S0) (hle : x.length ≤ cap) (hcap : cap ≤ maxLen) (hsz : cap * t.width ≤ cs.size) {l dst : Nat} (hU : σ.U l = false) (hd : dst < B.N) (L' : Nat → Option Lab) (hL : ∀ j, j ≠ l → L' j = none ∨ L' j = σ.L j)
    (hS0 : ∀ k, S0 k → ∃ l2 b2, σ.L l2 = some b2 ∧ L' l2 = none ∧ Sg l2 k) {w' : World} (hw : w' = w.alloc (.cells cs e.t (e.a, e.b))) :
    ∃ Sg' cg', InvG B F Sg' cg' (σ.mk' L' l dst ⟨0, .sl t, .own m, x⟩) (a.put (some dst) (.slice (some ⟨w.heap.size, 0, none⟩) x.length cap)) w' := by
  subst hw
  have hlt : ∀ k, S0 k → k < w.heap.size := fun k hk => by obtain ⟨l2, b2, h1, h2, h3⟩ := hS0 k hk; exact h.lt l2 b2 h1 k h3
  have i1 := h.addLab (w' := w.alloc (.cells cs e.t (e.a, e.b))) rfl rfl rfl (by rw [alloc_size]; omega) (l := l) (b := ⟨0, .sl t, .own m, x⟩) hU (upd L' l (some ⟨0, .sl t, .own m, x⟩)) (fun k hk _ => alloc_old _ _ hk) (cs := [.slice (some ⟨w.heap.size, 0, none⟩) x.length cap]) (S2 := fun k => S0 k ∨ k = w.heap.size)
    ⟨some ⟨w.heap.size, 0, none⟩, cap, rfl, hle, hcap, .inr ⟨w.heap.size, 0, cs, e, rfl, alloc_new _ _, by omega, .inr rfl, S0, by
      rw [List.drop_zero]
      exact RepL.imp (fun y _ c T hT hr => rep_frame (Sub.refl _) (fun k hk => alloc_old _ _ (h.fl k hk)) _ _ _ _ _ _ hr (Sub.refl _) (fun k hk => alloc_old _ _ (hlt k (hT k hk)))) hrep, fun k hk => .inl hk, fun hk => Nat.lt_irrefl _ (hlt _ hk)⟩⟩
    (upd_same _ _ _) (fun j hj => by rw [upd_ne _ _ hj]; exact hL j hj) (fun k hk => ?_)
  · exact ⟨_, _, i1.putT hd (e := .one (.hdr l 0 [] ⟨.sl t, x⟩)) (root_ok i1 (l := l) (b := ⟨0, .sl t, .own m, x⟩) (upd_same _ _ _) (by simp [VR, Ty.agg, Value.oneCell']))⟩
  · rcases hk with hk | rfl
    · obtain ⟨l2, b2, h1, h2, h3⟩ := hS0 k hk
      refine ⟨fun j bj hj hbj hs => ?_, fun hf => h.disF l2 b2 h1 k h3 hf, by rw [alloc_size]; exact Nat.lt_succ_of_lt (hlt k hk), h.may l2 b2 h1 k h3⟩
      rw [upd_ne _ _ hj] at hbj
      have hbj' : σ.L j = some bj := by
        rcases hL j hj with e | e
        · rw [e] at hbj; cases hbj
        · rw [← e]; exact hbj
      by_cases e : l2 = j
      · subst e; rw [h2] at hbj; cases hbj
      · exact h.dis l2 j b2 bj e h1 hbj' k h3 hs
    · refine ⟨fun j bj hj hbj hs => ?_, fun hf => Nat.lt_irrefl _ (h.fl _ hf), by rw [alloc_size]; exact Nat.lt_succ_self _, fun hlt => ?_⟩
      · rw [upd_ne _ _ hj] at hbj
        have hbj' : σ.L j = some bj := by
          rcases hL j hj with e | e
          · rw [e] at hbj; cases hbj
          · rw [← e]; exact hbj
        exact Nat.lt_irrefl _ (h.lt j bj hbj' _ hs)
      · have := h.fr.size; omega

theorem InvG.newRow (h : InvG B F Sg cg σ a w) {t : Ty} {m : Md} {x : List t.T} {cs : Array Value} {e : TypeId} {cap : Nat} {S0 : BSet} (hrep : RepL (Rep F w t m) x (cs.toList.take (x.length * t.width)) S0) (hle : x.length ≤ cap) (hcap : cap ≤ maxLen) (hsz : cap * t.width ≤ cs.size) {l dst : Nat} (hU : σ.U l = false) (hd : dst < B.N) (L' : Nat → Option Lab) (hL : ∀ j, j ≠ l → L' j = none ∨ L' j = σ.L j)
    (hS0 : ∀ k, S0 k → ∃ l2 b2, σ.L l2 = some b2 ∧ L' l2 = none ∧ Sg l2 k) {w' : World} (hw : w' = w.alloc (.cells cs e)) :
    ∃ Sg' cg', InvG B F Sg' cg' (σ.mk' L' l dst ⟨0, .sl t, .own m, x⟩) (a.put (some dst) (.slice (some ⟨w.heap.size, 0, none⟩) x.length cap)) w' :=
  h.newRowM (e := Mark.free _ e) hrep hle hcap hsz hU hd L' hL hS0 hw

theorem range_get (z : Array Value) : (List.range z.size).map (fun j => z[j]!) = z.toList := by
  apply List.ext_getElem?
  intro j
  rw [List.getElem?_map]
  by_cases hj : j < z.size
  · rw [List.getElem?_range hj]
    simp [hj]
  · rw [List.getElem?_eq_none (by simpa using hj), List.getElem?_eq_none (by simpa using hj)]
    rfl
theorem made_rows {α : Type} {R : α → List Value → BSet → Prop} {z : Array Value} {x : α} (hz : R x z.toList BSet.none) : ∀ n, RepL R (List.replicate n x) ((List.range (n * z.size)).map (fun i => z[i % z.size]!)) BSet.none := by
  intro n
  induction n with
  | zero => simp [RepL]
  | succ n ih =>
    rw [List.replicate_succ', Nat.succ_mul, List.range_add, List.map_append]
    have e : List.map (fun i => z[i % z.size]!) (List.map (fun x => n * z.size + x) (List.range z.size)) = z.toList := by
      rw [List.map_map, ← range_get z]
      apply List.map_congr_left
      intro j hj
      simp only [Function.comp, List.mem_range] at hj ⊢
      rw [Nat.add_comm, Nat.add_mul_mod_self_right, Nat.mod_eq_of_lt hj]
    rw [e]
    have : RepL R [x] z.toList BSet.none := ⟨z.toList, [], BSet.none, BSet.none, by simp, hz, rfl, Sub.refl _, Sub.refl _, fun _ h => h.elim⟩
    exact (RepL.append ih this (fun _ h => h.elim)).mono (fun k h => h.elim id id)

def xMake {R : Type} (d : TD) (σ : St) (dst : Nat) (el ec : Ent0) (K : St → Option R) : Option R :=
  bif σ.U (dst * 8) || Nat.beq d.bytes 0 then none else
  isIdx el fun n => isIdx ec fun c =>
    if 0 ≤ n ∧ n ≤ c then (if c.toNat * d.bytes ≤ 140737488355328 then (match rdC d.ty d.zero with
      | some z => K (σ.mk' σ.L (dst * 8) dst ⟨0, .sl d.ty, .own (zM d.ty), List.replicate n.toNat z⟩)
      | none => none) else none) else none

theorem inK_i64 {k : IntKind} {n : Int} (h : inK k n) (h0 : 0 ≤ n) (hs : n ≤ 140737488355328 ∨ n ≤ 9223372036854775807) : IntKind.i64.wrap n = n := by
  apply wrap_inK
  simp [inK, kLo, kHi]
  omega

theorem run_make {t e : TypeId} {d : TD} (ht : P.underlying t = some (.slice e)) (hd : TOk P e d) {k1 k2 : IntKind} {n c : Int} (h0 : 0 ≤ n) (h1 : n ≤ c) (hc : c ≤ 9223372036854775807) (hb : c.toNat * d.bytes ≤ 140737488355328) :
    ∃ z : Value, z.cells.toList = d.zero ∧ (Instr.makeSlice t (.int k1 n) (.int k2 c)).run P w = .ok (.slice (some ⟨w.heap.size, 0, none⟩) n.toNat c.toNat) (w.alloc (.cells ((Array.range (c.toNat * d.ty.width)).map (fun i => z.cells[i % z.cells.size]!)) e)) := by
  obtain ⟨i, z, hi, hi1, hi2, hi3, hi4⟩ := hd.info
  refine ⟨z, hi4, ?_⟩
  have wn : IntKind.i64.wrap n = n := wrap_inK (by simp [inK, kLo, kHi]; omega)
  have wc : IntKind.i64.wrap c = c := wrap_inK (by simp [inK, kLo, kHi]; omega)
  have hb' : ¬ ((281474976710656 : Int) < (d.bytes : Int) * c) := by
    have e1 : (d.bytes : Int) * c = ((c.toNat * d.bytes : Nat) : Int) := by
      rw [Int.natCast_mul, Int.toNat_of_nonneg (by omega), Int.mul_comm]
    rw [e1]
    omega
  have c0 : ¬ (c < 0) := by omega
  have n0 : ¬ (n < 0) := by omega
  have nc : ¬ (c < n) := by omega
  by_cases hz : c.toNat * d.ty.width = 0
  · simp [Instr.makeSlice, run_underlying ht, asInt, asIntOf, typeInfo, hi, hi2, wn, wc, c0, n0, nc, hb', run_askRoom, sizeOf, hi1, hz, newRow, Array.range_zero']
  · simp [Instr.makeSlice, run_underlying ht, asInt, asIntOf, typeInfo, hi, hi2, wn, wc, c0, n0, nc, hb', run_askRoom, sizeOf, hi1, hz, newRow, zeroValue, hi3]

theorem xMake_ok (h : InvG B F Sg cg σ a w) {R : Type} {t e : TypeId} {d : TD} (hd : TOk P e d) (ht : P.underlying t = some (.slice e)) {dst : Nat} (hN : dst < B.N) {el ec : Ent0} {K : St → Option R} {r : R} (hk : xMake d σ dst el ec K = some r) {vl vc : Value} (hl : EntOk F w σ.L σ.U cg el vl) (hc : EntOk F w σ.L σ.U cg ec vc) :
    ∃ σ' v w' Sg' cg', K σ' = some r ∧ (Instr.makeSlice t vl vc).run P w = .ok v w' ∧ InvG B F Sg' cg' σ' (a.put (some dst) v) w' ∧ EF σ σ' dst := by
  unfold xMake at hk
  cases hUb : σ.U (dst * 8) || Nat.beq d.bytes 0
  · rw [hUb] at hk
    simp only [cond_false] at hk
    simp only [Bool.or_eq_false_iff] at hUb
    obtain ⟨hU, hb0⟩ := hUb
    have hbp : 0 < d.bytes := by
      rcases Nat.eq_zero_or_pos d.bytes with e | e
      · rw [e] at hb0; simp at hb0
      · exact e
    obtain ⟨k1, n, hk, rfl, hn⟩ := isIdx_ok hk hl
    obtain ⟨k2, c, hk, rfl, hcn⟩ := isIdx_ok hk hc
    split at hk
    · rename_i h01
      split at hk
      · rename_i hb
        cases hz : rdC d.ty d.zero with
        | none => rw [hz] at hk; cases hk
        | some z =>
          rw [hz] at hk
          simp only at hk
          by_cases hc63 : c ≤ 9223372036854775807
          · obtain ⟨zv, hzv, hrun⟩ := run_make (w := w) (k1 := k1) (k2 := k2) ht hd h01.1 h01.2 hc63 hb
            have hzs : zv.cells.size = d.ty.width := by rw [← Array.length_toList, hzv]; exact hd.zlen
            have hrow := made_rows (R := Rep F w d.ty (zM d.ty)) (z := zv.cells) (x := z) (by rw [hzv]; exact rdC_ok _ _ _ _ (okM_zM _) hz) n.toNat
            have hle : n.toNat ≤ c.toNat := by omega
            obtain ⟨Sg', cg', hi⟩ := h.newRow (t := d.ty) (m := zM d.ty) (x := List.replicate n.toNat z) (cs := (Array.range (c.toNat * d.ty.width)).map (fun i => zv.cells[i % zv.cells.size]!)) (e := e) (cap := c.toNat) (S0 := BSet.none) (by
                simp only [List.length_replicate, Array.toList_map, Array.toList_range, ← List.map_take, List.take_range]
                rw [Nat.min_eq_left (Nat.mul_le_mul_right _ hle), ← hzs]
                exact hrow) (by simpa using hle) (by simp only [maxLen]; omega) (by simp) hU hN σ.L (fun _ _ => .inr rfl) (fun _ h => h.elim) rfl
            simp only [List.length_replicate] at hi
            exact ⟨_, _, _, _, _, hk, hrun, hi, ef_mk⟩
          · exfalso
            have := Nat.le_mul_of_pos_right c.toNat hbp
            omega
      · cases hk
    · cases hk
  · rw [hUb] at hk; cases hk
end
end Go.Proofs.YtgonfcjdhbjkcaaDoor.Rf
/- Layer 19: cuts of rows and strings. -/
set_option linter.unusedVariables false
set_option linter.unusedSimpArgs false
namespace Go.Proofs.YtgonfcjdhbjkcaaDoor.Rf
open Go

/-- A part of a row. -/
def cutL {α : Type} (xs : List α) (l h : Int) : List α := (xs.drop l.toNat).take (h.toNat - l.toNat)

/-- The two bounds, handed on: 0 and the length where there are none. -/
def cutK {R : Type} (lo hi : Option Ent0) (len : Nat) (K : Int → Int → Option R) : Option R :=
  let fin := fun l h : Int => if 0 ≤ l ∧ l ≤ h ∧ h ≤ (len : Int) then K l h else none
  match lo with
  | none => match hi with
    | none => fin 0 len
    | some eh => isIdx eh fun h => fin 0 h
  | some el => isIdx el fun l => match hi with
    | none => fin l len
    | some eh => isIdx eh fun h => fin l h

section
variable {P : Program} {B : Base} {F : BSet} {Sg : Nat → BSet} {cg : Nat → List Value} {σ : St} {a : Act} {w : World}

def OptOk (F : BSet) (w : World) (L : Nat → Option Lab) (U : Nat → Bool) (cg : Nat → List Value) : Option Ent0 → Option Value → Prop
  | none, none => True
  | some e, some v => EntOk F w L U cg e v
  | _, _ => False

theorem cutK_ok {R : Type} {L : Nat → Option Lab} {U : Nat → Bool} {lo hi : Option Ent0} {len : Nat} {K : Int → Int → Option R} {r : R} (hk : cutK lo hi len K = some r) {vl vh : Option Value} (hl : OptOk F w L U cg lo vl) (hh : OptOk F w L U cg hi vh) :
    ∃ l h : Nat, K l h = some r ∧ l ≤ h ∧ h ≤ len ∧ ∀ (cap : Nat), len ≤ cap → ∀ b, (Instr.sliceBounds b len cap vl vh none).run P w = .ok (l, h, cap) w := by
  unfold cutK at hk
  simp only at hk
  have fin : ∀ (l h : Int), (if 0 ≤ l ∧ l ≤ h ∧ h ≤ (len : Int) then K l h else none) = some r → K (l.toNat : Nat) (h.toNat : Nat) = some r ∧ 0 ≤ l ∧ l ≤ h ∧ h ≤ (len : Int) := by
    intro l h hk
    split at hk
    · rename_i hc
      rw [Int.toNat_of_nonneg hc.1, Int.toNat_of_nonneg (by omega)]
      exact ⟨hk, hc⟩
    · cases hk
  cases lo with
  | none =>
    cases vl with
    | some _ => exact hl.elim
    | none =>
    cases hi with
    | none =>
      cases vh with
      | some _ => exact hh.elim
      | none =>
        obtain ⟨h1, h2, h3, h4⟩ := fin _ _ hk
        refine ⟨_, _, h1, by simp, by simp, fun cap hc b => ?_⟩
        simp [Instr.sliceBounds]
    | some eh =>
      cases vh with
      | none => exact hh.elim
      | some vh =>
        simp only at hk
        obtain ⟨k, h, hk, rfl, _⟩ := isIdx_ok hk hh
        obtain ⟨h1, h2, h3, h4⟩ := fin _ _ hk
        refine ⟨_, _, h1, by simp, by omega, fun cap hc b => ?_⟩
        have q : h ≤ (cap : Int) := by omega
        simp [Instr.sliceBounds, Instr.sliceBound, asIntOf, h3, q]
  | some el =>
    cases vl with
    | none => exact hl.elim
    | some vl =>
    simp only at hk
    obtain ⟨k, l, hk, rfl, _⟩ := isIdx_ok hk hl
    cases hi with
    | none =>
      cases vh with
      | some _ => exact hh.elim
      | none =>
        simp only at hk
        obtain ⟨h1, h2, h3, h4⟩ := fin _ _ hk
        refine ⟨_, _, h1, by omega, by simp, fun cap hc b => ?_⟩
        simp [Instr.sliceBounds, Instr.sliceBound, asIntOf, h2, h3]
    | some eh =>
      cases vh with
      | none => exact hh.elim
      | some vh =>
        simp only at hk
        obtain ⟨k2, h, hk, rfl, _⟩ := isIdx_ok hk hh
        obtain ⟨h1, h2, h3, h4⟩ := fin _ _ hk
        refine ⟨_, _, h1, by omega, by omega, fun cap hc b => ?_⟩
        have q : h ≤ (cap : Int) := by omega
        have q0 : 0 ≤ h := by omega
        have q1 : l ≤ ((h.toNat : Nat) : Int) := by omega
        have q2 : ((h.toNat : Nat) : Int) = h := Int.toNat_of_nonneg q0
        simp [Instr.sliceBounds, Instr.sliceBound, asIntOf, h2, q0, q, q2, h3]

theorem cut_rep {α : Type} {R : α → List Value → BSet → Prop} {sz : Nat} (hw : ∀ y c S, R y c S → c.length = sz) {x : List α} {ds : List Value} {S : BSet} (h : RepL R x ds S) (l h' : Nat) (hl : l ≤ h') (hh : h' ≤ x.length) :
    ∃ pre mid post S', ds = pre ++ mid ++ post ∧ pre.length = l * sz ∧ RepL R ((x.drop l).take (h' - l)) mid S' ∧ Sub S' S := by
  have e1 : x = x.take l ++ ((x.drop l).take (h' - l) ++ (x.drop l).drop (h' - l)) := by rw [List.take_append_drop, List.take_append_drop]
  rw [e1] at h
  obtain ⟨c1, c2, S1, S2, rfl, h1, h2, s1, s2, _⟩ := RepL.split h
  obtain ⟨c3, c4, S3, S4, rfl, h3, h4, s3, s4, _⟩ := RepL.split h2
  refine ⟨c1, c3, c4, S3, by simp, ?_, h3, s3.trans s2⟩
  rw [RepL.len hw h1, List.length_take, Nat.min_eq_left (by omega)]

theorem repL_ro {te : Ty} {x : List te.T} {cs : List Value} {S S' : BSet} (h : RepL (Rep F w te .ro) x cs S) : RepL (Rep F w te .ro) x cs S' := by
  induction x generalizing cs S S' with
  | nil => exact h
  | cons y ys ih =>
    obtain ⟨c1, c2, S1, S2, rfl, h1, h2, _⟩ := h
    exact ⟨c1, c2, BSet.none, BSet.none, rfl, rep_noOwn te .ro rfl _ _ _ _ h1, ih h2, fun _ h => h.elim, fun _ h => h.elim, fun _ h => h.elim⟩

/-- A cut of a value. -/
def xCut {R : Type} (TT : Tab) (σ : St) (t : TypeId) (dst : Nat) (ex : Ent0) (lo hi : Option Ent0) (KV : Ent0 → Option R) (K : St → Option R) : Option R :=
  match TT t with
  | none => none
  | some d => match d.kd with
    | .str => match ex with
      | .val .str s => cutK lo hi (List.length s) fun l h => KV (.val .str (cutL (s : List Int) l h))
      | _ => none
    | .slice e => match TT e with
      | none => none
      | some de => match ex with
        | .val (.sl t') xs => bif decide (t' = de.ty) then cutK lo hi (List.length xs) fun l h => KV (.val (.sl t') (cutL (xs : List t'.T) l h)) else none
        | .hdr l1 _ [] _ => bif σ.U (dst * 8) then none else match σ.L l1 with
          | some ⟨_, .sl t', .own me, xs⟩ => bif decide (t' = de.ty) then cutK lo hi (List.length xs) fun l h => K (σ.mk' (upd σ.L l1 none) (dst * 8) dst ⟨0, .sl t', .own me, cutL (xs : List t'.T) l h⟩) else none
          | _ => none
        | .hdr l n (.deref :: π) c => bif σ.U (dst * 8) then none else match σ.L l with
          | some ⟨v0, .box t0, m0, x0⟩ => bif Nat.beq n v0 && !(σ.U (dst * 8 + 1)) then (match replP (.box t0) x0 (.deref :: π) ⟨.junk, ()⟩ with
            | some v' => match c, atM (.box t0) m0 (.deref :: π) with
              | ⟨.sl t', xs⟩, .own me => bif decide (t' = de.ty) then cutK lo hi (List.length xs) fun l' h =>
                  K ((σ.took l (dst * 8 + 1) ⟨v0 + 1, v'.t, replM m0 (.deref :: π) .ro, v'.x⟩ ⟨0, .sl t', .own me, xs⟩).mk' (upd (upd (upd σ.L l (some ⟨v0 + 1, v'.t, replM m0 (.deref :: π) .ro, v'.x⟩)) (dst * 8 + 1) (some ⟨0, .sl t', .own me, xs⟩)) (dst * 8 + 1) none) (dst * 8) dst ⟨0, .sl t', .own me, cutL (xs : List t'.T) l' h⟩) else none
              | _, _ => none
            | none => none) else none
          | _ => none
        | _ => none
    | _ => none

theorem run_sliceAt {t e : TypeId} {de : TD} (hu : P.underlying t = some (.slice e)) (hde : TOk P e de) {ao : Option Addr} {len cap : Nat} {vl vh : Option Value} {l h : Nat} (hb : ∀ b, (Instr.sliceBounds b len cap vl vh none).run P w = .ok (l, h, cap) w) :
    (Instr.sliceAt t (.slice ao len cap) vl vh none).run P w = .ok (.slice (if cap = l then ao else ao.map (·.add (l * de.ty.width))) (h - l) (cap - l)) w := by
  simp only [Instr.sliceAt, Sem.run_bind, run_underlying hu, Result.andThen_ok, Instr.slice, hb, run_sizeOf hde, Sem.run_pure]

theorem own_cut {te : Ty} {me : Md} {x : List te.T} {u : Value} {S : BSet} (hr : Rep F w (.sl te) (.own me) x [u] S) (l h : Nat) (hl : l ≤ h) (hh : h ≤ x.length) :
    ∃ ao cap, u = .slice ao x.length cap ∧ x.length ≤ cap ∧ Rep F w (.sl te) (.own me) (cutL x l h) [.slice (if cap = l then ao else ao.map (·.add (l * te.width))) (h - l) (cap - l)] S := by
  obtain ⟨ao, cap, e1, h1, h2, h3⟩ := hr
  simp only [List.cons.injEq, and_true] at e1
  have hlen : (cutL x l h).length = h - l := by unfold cutL; simp only [Int.toNat_natCast, List.length_take, List.length_drop]; omega
  refine ⟨ao, cap, e1, h1, (if cap = l then ao else ao.map (·.add (l * te.width))), cap - l, by rw [hlen], by rw [hlen]; omega, by omega, ?_⟩
  rcases h3 with rfl | ⟨b, off, c, e, rfl, hb, hc, hS, S1, hr, s1, n1⟩
  · left
    omega
  · right
    obtain ⟨pre, mid, post, S', hds, hpl, hmid, hs'⟩ := cut_rep (fun y c S h => rep_width F w te me y c S h) hr l h hl hh
    have hml := RepL.len (fun y c S h => rep_width F w te me y c S h) hmid
    have hll : ((x.drop l).take (h - l)).length = h - l := by simp only [List.length_take, List.length_drop]; omega
    by_cases hcl : cap = l
    · have h0 : h - l = 0 := by omega
      have hz : (cap - l) * te.width = 0 := by rw [hcl, Nat.sub_self, Nat.zero_mul]
      refine ⟨b, off, c, e, by rw [if_pos hcl], hb, by omega, hS, S1, ?_, s1, n1⟩
      have hx : cutL x l h = [] := List.eq_nil_of_length_eq_zero (by omega)
      rw [hx]
      simp [RepL]
    · refine ⟨b, off + l * te.width, c, e, by rw [if_neg hcl, Option.map_some, Addr.add_lit], hb, ?_, hS, S', ?_, hs'.trans s1, fun hb' => n1 (hs' b hb')⟩
      · have : l * te.width + (cap - l) * te.width = cap * te.width := by rw [← Nat.add_mul]; congr 1; omega
        omega
      · have e2 : (c.toList.drop (off + l * te.width)).take ((cutL x l h).length * te.width) = mid := by
          rw [hlen, ← List.drop_drop]
          have e3 : ((c.toList.drop off).drop (l * te.width)).take ((h - l) * te.width) = (((c.toList.drop off).take (x.length * te.width)).drop (l * te.width)).take ((h - l) * te.width) := by
            rw [List.drop_take, List.take_take]
            congr 1
            rw [← Nat.sub_mul]
            exact (Nat.min_eq_left (Nat.mul_le_mul_right _ (by omega))).symm
          rw [e3, hds, List.append_assoc, drop_width hpl]
          exact take_width (by rw [hml, hll])
        rw [e2]
        show RepL _ ((x.drop ((l : Int)).toNat).take (((h : Int)).toNat - ((l : Int)).toNat)) _ _
        simp only [Int.toNat_natCast]
        exact hmid

theorem xCut_ok (h : InvG B F Sg cg σ a w) {R : Type} {TT : Tab} (hT : TabOk P TT) {t : TypeId} {dst : Nat} (hN : dst < B.N) {ex : Ent0} {lo hi : Option Ent0} {KV : Ent0 → Option R} {K : St → Option R} {r : R} (hk : xCut TT σ t dst ex lo hi KV K = some r) {v : Value} {vl vh : Option Value} (he : EntOk F w σ.L σ.U cg ex v) (hlo : OptOk F w σ.L σ.U cg lo vl) (hhi : OptOk F w σ.L σ.U cg hi vh) :
    ∃ z, (Instr.sliceAt t v vl vh none).run P w = .ok z w ∧ ((∃ e', KV e' = some r ∧ EntOk F w σ.L σ.U cg e' z) ∨ ∃ σ' Sg' cg', K σ' = some r ∧ InvG B F Sg' cg' σ' (a.put (some dst) z) w ∧ EF σ σ' dst) := by
  unfold xCut at hk
  cases h1 : TT t with
  | none => rw [h1] at hk; cases hk
  | some d =>
  rw [h1] at hk
  simp only at hk
  have hd := (hT t d h1).desc
  split at hk
  · rename_i hkd
    rw [hkd] at hd
    simp only at hd
    split at hk
    · rename_i s _
      obtain ⟨u, rfl, rfl, hu⟩ := val_str he
      obtain ⟨l, hh, hk, g1, g2, g3⟩ := cutK_ok (P := P) hk hlo hhi
      rw [sbytes_length] at g2 g3
      refine ⟨.string (u.extract l hh), ?_, .inl ⟨_, hk, mk_str' ?_ ?_⟩⟩
      · simp only [Instr.sliceAt, Sem.run_bind, run_underlying hd.1, Result.andThen_ok, Instr.slice]
        simp
        rw [g3 u.size (Nat.le_refl _) false]
        rfl
      · rw [ByteArray.size_extract]; omega
      · unfold cutL sbytes
        simp only [Int.toNat_natCast]
        rw [ByteArray.data_extract, Array.toList_extract, List.extract_eq_take_drop, List.map_take, List.map_drop]
    · cases hk
  · rename_i e hkd
    rw [hkd] at hd
    simp only at hd
    cases h2 : TT e with
    | none => rw [h2] at hk; cases hk
    | some de =>
    rw [h2] at hk
    simp only at hk
    have hde := hT e de h2
    -- the end for what is owned
    have fin : ∀ (σ1 : St) (Sg1 : Nat → BSet) (cg1 : Nat → List Value) (l1 : Nat) (v1 : Nat) (me : Md) (xs : List de.ty.T), InvG B F Sg1 cg1 σ1 a w → σ1.L l1 = some ⟨v1, .sl de.ty, .own me, xs⟩ → cg1 l1 = [v] → σ1.U (dst * 8) = false → 
        ∀ l hh : Nat, l ≤ hh → hh ≤ xs.length → (∀ cap : Nat, xs.length ≤ cap → ∀ b, (Instr.sliceBounds b xs.length cap vl vh none).run P w = .ok (l, hh, cap) w) →
        ∃ z Sg' cg', (Instr.sliceAt t v vl vh none).run P w = .ok z w ∧ InvG B F Sg' cg' (σ1.mk' (upd σ1.L l1 none) (dst * 8) dst ⟨0, .sl de.ty, .own me, cutL xs l hh⟩) (a.put (some dst) z) w := by
      intro σ1 Sg1 cg1 l1 v1 me xs i0 hl1 hcg hU l hh q1 q2 q3
      have hrep := i0.lab l1 _ hl1
      rw [hcg] at hrep
      obtain ⟨ao, cap, rfl, hle, hrep2⟩ := own_cut hrep l hh q1 q2
      have hne : l1 ≠ dst * 8 := fun e => by rw [← e, i0.used l1 _ hl1] at hU; cases hU
      have i1 := i0.addLab (w' := w) rfl rfl rfl (Nat.le_refl _) (l := dst * 8) (b := ⟨0, .sl de.ty, .own me, cutL xs l hh⟩) hU (upd (upd σ1.L l1 none) (dst * 8) (some ⟨0, .sl de.ty, .own me, cutL xs l hh⟩)) (fun _ _ _ => rfl) hrep2 (upd_same _ _ _)
        (fun j hj => by
          rw [upd_ne _ _ hj]
          by_cases e : j = l1
          · subst e; exact .inl (upd_same _ _ _)
          · exact .inr (upd_ne _ _ e))
        (fun k hk => ⟨fun j bj hj hbj hs => by
            rw [upd_ne _ _ hj] at hbj
            rcases upd_some hbj with ⟨_, e⟩ | ⟨hjl, hbj⟩
            · cases e
            · exact i0.dis l1 j _ bj (Ne.symm hjl) hl1 hbj k hk hs, fun hf => i0.disF l1 _ hl1 k hk hf, i0.lt l1 _ hl1 k hk, i0.may l1 _ hl1 k hk⟩)
      exact ⟨_, _, _, run_sliceAt hd hde (q3 cap hle), i1.putT hN (e := .one (.hdr (dst * 8) 0 [] ⟨.sl de.ty, cutL xs l hh⟩)) (root_ok i1 (l := dst * 8) (b := ⟨0, .sl de.ty, .own me, cutL xs l hh⟩) (upd_same _ _ _) (by simp [VR, Ty.agg, Value.oneCell']))⟩
    split at hk
    · rename_i t' xs
      cases hud : decide (t' = de.ty)
      · rw [hud] at hk; cases hk
      rw [hud] at hk
      simp only [cond_true] at hk
      have hud := of_decide_eq_true hud
      subst hud
      obtain ⟨l, hh, hk, g1, g2, g3⟩ := cutK_ok (P := P) hk hlo hhi
      obtain ⟨cs, hr, hv⟩ := he
      obtain ⟨ao, cap, rfl, f1, f2, f3⟩ := ro_row hr hv
      refine ⟨_, run_sliceAt hd hde (g3 cap f1), .inl ⟨_, hk, [.slice (if cap = l then ao else ao.map (·.add (l * de.ty.width))) (hh - l) (cap - l)], ?_, by simp [VR, Ty.agg, Value.oneCell']⟩⟩
      have hlen : (cutL (xs : List de.ty.T) l hh).length = hh - l := by unfold cutL; simp only [Int.toNat_natCast, List.length_take, List.length_drop]; omega
      refine ⟨_, cap - l, by rw [hlen], by rw [hlen]; omega, by omega, fun hp => ?_⟩
      rw [hlen] at hp
      obtain ⟨ad, rfl, hf, ds, hat, hrow⟩ := f3 (by omega)
      obtain ⟨pre, mid, post, S', rfl, hpl, hmid, _⟩ := cut_rep (fun y c S h => rep_width F w de.ty .ro y c S h) hrow l hh g1 g2
      refine ⟨ad.add (l * de.ty.width), by rw [if_neg (by omega)]; rfl, by rw [add_block]; exact hf, mid, ?_, ?_⟩
      · rw [← hpl]; exact At.part hat
      · show RepL _ ((List.drop ((l : Int)).toNat xs).take (((hh : Int)).toNat - ((l : Int)).toNat)) _ _
        simp only [Int.toNat_natCast]
        exact repL_ro hmid
    · rename_i l1 n1 c1
      cases hU : σ.U (dst * 8)
      · rw [hU] at hk
        simp only [cond_false] at hk
        split at hk
        · rename_i v1 t' me xs hl1
          cases hud : decide (t' = de.ty)
          · rw [hud] at hk; cases hk
          rw [hud] at hk
          simp only [cond_true] at hk
          have hud := of_decide_eq_true hud
          subst hud
          obtain ⟨l, hh, hk, g1, g2, g3⟩ := cutK_ok (P := P) hk hlo hhi
          have hv := (he.2 _ hl1).2.1 rfl
          have hcg : cg l1 = [v] := by simp [VR, Ty.agg] at hv; exact hv.1
          obtain ⟨z, Sg', cg', e1, e2⟩ := fin σ Sg cg l1 v1 me xs h hl1 hcg hU l hh g1 g2 g3
          exact ⟨z, e1, .inr ⟨_, Sg', cg', hk, e2, ef_mk⟩⟩
        · cases hk
      · rw [hU] at hk; cases hk
    · rename_i l n π c
      cases hU : σ.U (dst * 8)
      · rw [hU] at hk
        simp only [cond_false] at hk
        split at hk
        · rename_i v0 t0 m0 x0 hl
          cases hb : Nat.beq n v0 && !(σ.U (dst * 8 + 1))
          · rw [hb] at hk; cases hk
          rw [hb] at hk
          simp only [cond_true] at hk
          simp only [Bool.and_eq_true, Bool.not_eq_true'] at hb
          have hn := Nat.eq_of_beq_eq_true hb.1
          cases hr : replP (.box t0) x0 (.deref :: π) ⟨.junk, ()⟩ with
          | none => rw [hr] at hk; cases hk
          | some v' =>
            rw [hr] at hk
            simp only at hk
            obtain ⟨h3, h4, h5⟩ := (he.2 _ hl).2.2 hn
            split at hk
            · rename_i t' xs me hme
              cases hud : decide (t' = de.ty)
              · rw [hud] at hk; cases hk
              rw [hud] at hk
              simp only [cond_true] at hk
              have hud := of_decide_eq_true hud
              subst hud
              obtain ⟨l', hh, hk, g1, g2, g3⟩ := cutK_ok (P := P) hk hlo hhi
              obtain ⟨ds, s, Sg1, cg1, hres, i1, hcd, _⟩ := h.take hl h4 h3 rfl hr hb.2 ⟨_, rfl⟩
              have hv := h5 ds s hres
              have hat := get?_atT _ _ _ _ h4
              simp only at hat hv
              rw [← hat] at hv
              have hcg : cg1 (dst * 8 + 1) = [v] := by rw [hcd]; simp [VR, Ty.agg] at hv; exact hv.1
              rw [hme] at i1
              have hU1 : (fun j => Nat.beq j (dst * 8 + 1) || σ.U j) (dst * 8) = false := by
                simp only [hU, Bool.or_false]
                cases hbq : Nat.beq (dst * 8) (dst * 8 + 1)
                · rfl
                · have := Nat.eq_of_beq_eq_true hbq; omega
              obtain ⟨z, Sg', cg', e1, e2⟩ := fin _ Sg1 cg1 (dst * 8 + 1) 0 me xs i1 (upd_same _ _ _) hcg hU1 l' hh g1 g2 g3
              exact ⟨z, e1, .inr ⟨_, Sg', cg', hk, e2, ef_mk⟩⟩
            · cases hk
        · cases hk
      · rw [hU] at hk; cases hk
    · cases hk
  · cases hk
end
end Go.Proofs.YtgonfcjdhbjkcaaDoor.Rf
/- Layer 20: structs, arrays and rows built of parts. -/
set_option linter.unusedVariables false
set_option linter.unusedSimpArgs false
namespace Go.Proofs.YtgonfcjdhbjkcaaDoor.Rf
open Go

/-- A box is a pointer that is not nil. -/
def toP (t want : Ty) (x : t.T) : Option want.T :=
  if h : t = want then some (h ▸ x) else match t, want, x with
    | .box a, .ptr b, x => if h : a = b then some (some (h ▸ x)) else none
    | .ptr a, .box b, x => if h : a = b then (match (x : Option a.T) with | some y => some (h ▸ y) | none => none) else none
    | _, _, _ => none
theorem toP_ok {t want : Ty} {x : t.T} {y : want.T} (h : toP t want x = some y) {F : BSet} {w : World} {m : Md} {cs : List Value} {S : BSet} (hr : Rep F w t m x cs S) : Rep F w want m y cs S := by
  unfold toP at h
  split at h
  · rename_i e
    subst e
    injection h with h
    subst h
    exact hr
  · split at h
    · rename_i a b x _ _
      split at h
      · rename_i e
        subst e
        injection h with h
        subst h
        cases m <;> exact hr
      · cases h
    · split at h
      · rename_i e
        subst e
        split at h
        · injection h with h
          subst h
          cases m <;> exact hr
        · cases h
      · cases h
    · cases h
theorem toP_agg {t want : Ty} {x : t.T} {y : want.T} (h : toP t want x = some y) : want.agg = t.agg := by
  unfold toP at h
  split at h
  · rename_i e; rw [e]
  · split at h
    · rfl
    · rfl
    · cases h
theorem toP_vr {t want : Ty} {x : t.T} {y : want.T} (h : toP t want x = some y) {cs : List Value} {v : Value} (hv : VR t cs v) : VR want cs v := by
  unfold VR at *
  rw [toP_agg h]
  exact hv
/-- A box that is a value, handed on as a pointer. -/
def upP (e : Ent0) (want : Ty) : Ent0 := match e with
  | .val (.box a) x => (match want with
    | .ptr _ => .val (.ptr a) (some x)
    | _ => e)
  | e => e
theorem upP_ok {F : BSet} {w : World} {L : Nat → Option Lab} {U : Nat → Bool} {cg : Nat → List Value} {e : Ent0} {want : Ty} {v : Value} (h : EntOk F w L U cg e v) : EntOk F w L U cg (upP e want) v := by
  unfold upP
  split
  · split
    · exact h
    · exact h
  · exact h
/-- An operand as a value, or as a label that goes: what is known of it, handed on. -/
def partK {R : Type} (L : Nat → Option Lab) (want : Ty) (e : Ent0) (K : want.T → Md → (Nat → Option Lab) → Option R) : Option R :=
  match e with
  | .hdr l2 _ [] _ => match L l2 with
    | some ⟨_, t, m, x⟩ => (match toP t want x with | some y => K y m (upd L l2 none) | none => none)
    | none => none
  | e => asT e want fun y => K y (valM e want) L

/-- Where part i of a struct or an array lies. -/
def placeK {R : Type} (TT : Tab) (t : TypeId) (d : TD) (i : Nat) (K : Nat → List Stp → TD → Option R) : Option R :=
  match d.kd with
  | .struct _ => fldK TT t i fun _ k φ df => K k φ df
  | .array n e => match TT e with
    | some de => bif Nat.blt i n then K (i * de.ty.width) [.ai (i : Int)] de else none
    | none => none
  | _ => none

/-- All parts, one after the other. -/
def partsK {R : Type} (TT : Tab) (t : TypeId) (d : TD) : List (Nat × Ent0) → d.ty.T → Md → (Nat → Option Lab) → (d.ty.T → Md → (Nat → Option Lab) → Option R) → Option R
  | [], x, m, L, K => K x m L
  | (i, e) :: ps, x, m, L, K => placeK TT t d i fun k φ df => bif decide (inlineOff d.ty φ = some k) && df.ty.vty then
      (partK L df.ty e fun y my L' => match setM d.ty m φ (bif df.ty.flat then atM d.ty m φ else my) with
        | some m' => setP d.ty x φ df.ty y fun x' => partsK TT t d ps x' m' L' K
        | none => none) else none

def ents (σ : St) : List (Nat × Operand) → Option (List (Nat × Ent0))
  | [] => some []
  | (i, x) :: ps => match opd σ x with
    | some e => match ents σ ps with
      | some es => some ((i, e) :: es)
      | none => none
    | none => none

/-- Are all fields' types known? -/
def knownK (TT : Tab) (d : TD) : Bool := match d.kd with
  | .struct fs => fs.all fun q => (TT q.1).isSome
  | .array _ e => (TT e).isSome
  | _ => false
/-- A struct or an array of parts: a value, or (own) a label. -/
def xBuild {R : Type} (TT : Tab) (σ : St) (t : TypeId) (dst : Nat) (own : Bool) (ps : List (Nat × Operand)) (KV : Ent0 → Option R) (K : St → Option R) : Option R :=
  match TT t with
  | none => none
  | some d => bif d.ty.agg && knownK TT d then (match rdC d.ty d.zero with
    | none => none
    | some z => match ents σ ps with
      | none => none
      | some es => partsK TT t d es z (bif own then zM d.ty else .ro) σ.L fun x m L =>
        bif own then (bif σ.U (dst * 8) then none else K (σ.mk' L (dst * 8) dst ⟨0, d.ty, m, x⟩)) else (bif noOwn m then KV (.val d.ty x) else none)) else none

section
variable {P : Program} {B : Base} {F : BSet} {Sg : Nat → BSet} {cg : Nat → List Value} {σ : St} {a : Act} {w : World}

/-- What goes on the way: labels that were there. -/
structure Gone (σ : St) (L L' : Nat → Option Lab) : Prop where
  sub : ∀ j, L' j = none ∨ L' j = L j
theorem Gone.refl (σ : St) (L : Nat → Option Lab) : Gone σ L L := ⟨fun _ => .inr rfl⟩

theorem partK_ok (h : InvG B F Sg cg σ a w) {R : Type} {L : Nat → Option Lab} (hL : ∀ j, L j = none ∨ L j = σ.L j) {want : Ty} {e : Ent0} {K : want.T → Md → (Nat → Option Lab) → Option R} {r : R} (hk : partK L want e K = some r) {v : Value} (he : EntOk F w σ.L σ.U cg e v) :
    ∃ y m L' cs S', K y m L' = some r ∧ Rep F w want m y cs S' ∧ VR want cs v ∧ (∀ j, L' j = none ∨ L' j = L j) ∧ (∀ k, S' k → ∃ l2 b2, L l2 = some b2 ∧ σ.L l2 = some b2 ∧ L' l2 = none ∧ Sg l2 k) := by
  unfold partK at hk
  split at hk
  · rename_i l2 n2 c2
    cases hl2 : L l2 with
    | none => rw [hl2] at hk; cases hk
    | some b2 =>
      rw [hl2] at hk
      obtain ⟨v2, t2, m2, x2⟩ := b2
      simp only at hk
      split at hk
      · rename_i y ht
        have hs : σ.L l2 = some ⟨v2, t2, m2, x2⟩ := by
          rcases hL l2 with e | e
          · rw [e] at hl2; cases hl2
          · rw [← e]; exact hl2
        refine ⟨y, m2, _, cg l2, Sg l2, hk, toP_ok ht (h.lab l2 _ hs), toP_vr ht ((he.2 _ hs).2.1 rfl), fun j => ?_, fun k hk => ⟨l2, _, hl2, hs, upd_same _ _ _, hk⟩⟩
        by_cases e : j = l2
        · subst e; exact .inl (upd_same _ _ _)
        · exact .inr (upd_ne _ _ e)
      · cases hk
  · obtain ⟨y, cs, hk, hr, hv⟩ := asT_okM hk he
    exact ⟨y, _, L, cs, BSet.none, hk, hr, hv, fun _ => .inr rfl, fun _ h => h.elim⟩

theorem placeK_ok {R : Type} {TT : Tab} (hT : TabOk P TT) {t : TypeId} {d : TD} (hd : TOk P t d) {i : Nat} {K : Nat → List Stp → TD → Option R} {r : R} (hk : placeK TT t d i K = some r) :
    ∃ k φ df, K k φ df = some r ∧ ((∃ fields fl, P.underlying t = some (.struct fields) ∧ fields[i]? = some fl ∧ fl.offset = k ∧ TOk P fl.type df) ∨ ∃ n e, P.underlying t = some (.array n e) ∧ TOk P e df ∧ k = i * df.ty.width) := by
  unfold placeK at hk
  have hds := hd.desc
  split at hk
  · obtain ⟨d', k, φ, df, fields, fl, hk, h1, h2, h3, h4, h5, h6, _⟩ := fldK_ok hT hk
    exact ⟨k, φ, df, hk, .inl ⟨fields, fl, h3, h4, h5, h6⟩⟩
  · rename_i n e hkd
    rw [hkd] at hds
    simp only at hds
    cases h2 : TT e with
    | none => rw [h2] at hk; cases hk
    | some de =>
      rw [h2] at hk
      simp only at hk
      cases hb : Nat.blt i n
      · rw [hb] at hk; cases hk
      · rw [hb] at hk
        exact ⟨_, _, de, hk, .inr ⟨n, e, hds, hT e de h2, rfl⟩⟩
  · cases hk

theorem foldl_set : ∀ (l : List Value) (k off : Nat) (cells : Array Value), off + k + l.length ≤ cells.size → ((l.zipIdx k).foldl (fun cs p => cs.setIfInBounds (off + p.2) p.1) cells).toList = cells.toList.take (off + k) ++ l ++ cells.toList.drop (off + k + l.length) := by
  intro l
  induction l with
  | nil => intro k off cells _; simp
  | cons v l ih =>
    intro k off cells hc
    simp only [List.length_cons] at hc
    simp only [List.zipIdx_cons, List.foldl_cons]
    rw [ih (k + 1) off _ (by simp; omega)]
    rw [Array.toList_setIfInBounds]
    have ho : off + k < cells.toList.length := by simp; omega
    rw [show off + (k + 1) = off + k + 1 by omega, List.take_set, List.drop_set_of_lt (by omega), List.take_succ_eq_append_getElem ho, List.set_append_right _ _ (by rw [List.length_take]; omega)]
    have e1 : off + k - (List.take (off + k) cells.toList).length = 0 := by rw [List.length_take]; omega
    rw [e1]
    simp only [List.set_cons_zero, List.length_cons, List.append_assoc, List.cons_append, List.nil_append]
    rw [show off + k + 1 + l.length = off + k + (l.length + 1) by omega]

theorem fill_one {place : Nat → Option (Nat × Nat)} {cells : Array Value} {i off sz : Nat} {v : Value} {rest : List (Nat × Value)} (hp : place i = some (off, sz)) (hs : v.cells.size = sz) (hc : off + sz ≤ cells.size) :
    ∃ c' : Array Value, Instr.fill place cells ((i, v) :: rest) = Instr.fill place c' rest ∧ c'.toList = cells.toList.take off ++ v.cells.toList ++ cells.toList.drop (off + sz) := by
  refine ⟨_, by simp only [Instr.fill, hp]; rw [if_neg (by simp [hs]; omega)], ?_⟩
  rw [← Array.foldl_toList, Array.toList_zipIdx]
  have := foldl_set v.cells.toList 0 off cells (by simp [hs]; omega)
  simp only [Nat.add_zero, Array.length_toList, hs] at this
  exact this

theorem get_of_set : ∀ (π : List Stp) (t : Ty) (x : t.T) (u : Ty) (y : u.T) (x' : t.T), set? t x π u y = some x' → ∃ c, get? t x π = some c ∧ c.t = u := by
  intro π
  induction π with
  | nil =>
    intro t x u y x' h
    refine ⟨⟨t, x⟩, get?_nil _ _, ?_⟩
    unfold set? at h
    have : (if h : u = t then some (h ▸ y : t.T) else none) = some x' := by cases t <;> exact h
    split at this
    · rename_i e; exact e.symm
    · cases this
  | cons p π ih =>
    intro t x u y x' h
    unfold set? at h
    unfold get?
    cases t <;> cases p <;> simp only [setP, reduceCtorEq] at h <;> simp only [getP]
    case st.st => exact ih _ _ _ _ _ h
    case box.deref => exact ih _ _ _ _ _ h
    case pair.fst => obtain ⟨z, hz, _⟩ := set?_of (f := fun z => (z, x.2)) h; exact ih _ _ _ _ _ hz
    case pair.snd => obtain ⟨z, hz, _⟩ := set?_of (f := fun z => (x.1, z)) h; exact ih _ _ _ _ _ hz
    case sl.idx t i =>
      split at h
      · rename_i h0
        rw [if_pos h0]
        cases hz : (x : List t.T)[i.toNat]? with
        | none => rw [hz] at h; cases h
        | some z =>
          rw [hz] at h
          obtain ⟨z', hz', _⟩ := set?_of (f := fun z' => (x : List t.T).set i.toNat z') h
          exact ih _ _ _ _ _ hz'
      · cases h
    case arr.ai n t i =>
      split at h
      · rename_i h0
        rw [if_pos h0]
        cases hz : (x : List t.T)[i.toNat]? with
        | none => rw [hz] at h; cases h
        | some z =>
          rw [hz] at h
          obtain ⟨z', hz', _⟩ := set?_of (f := fun z' => (x : List t.T).set i.toNat z') h
          exact ih _ _ _ _ _ hz'
      · cases h
    case ptr.deref t =>
      cases x with
      | none => simp at h
      | some z =>
        obtain ⟨z', hz', _⟩ := set?_of (f := fun z' => some z') h
        exact ih _ _ _ _ _ hz'

theorem partsK_ok (h : InvG B F Sg cg σ a w) {R : Type} {TT : Tab} (hT : TabOk P TT) {t : TypeId} {d : TD} (hd : TOk P t d) {place : Nat → Option (Nat × Nat)} (hpl : ∀ i k df, ((∃ fields fl, P.underlying t = some (.struct fields) ∧ fields[i]? = some fl ∧ fl.offset = k ∧ TOk P fl.type df) ∨ ∃ n e, P.underlying t = some (.array n e) ∧ TOk P e df ∧ k = i * df.ty.width) → place i = some (k, df.ty.width)) :
    ∀ (ps : List (Nat × Operand)) (es : List (Nat × Ent0)) (x : d.ty.T) (m : Md) (L : Nat → Option Lab) (cells : Array Value) (S : BSet) (K : d.ty.T → Md → (Nat → Option Lab) → Option R) (r : R), ents σ ps = some es → partsK TT t d es x m L K = some r → (∀ j, L j = none ∨ L j = σ.L j) → Rep F w d.ty m x cells.toList S → (∀ k, S k → ∃ l2 b2, σ.L l2 = some b2 ∧ L l2 = none ∧ Sg l2 k) →
      ∃ x' m' L' cells' S', K x' m' L' = some r ∧ Instr.fill place cells (ps.map fun p => (p.1, a.eval p.2)) = some cells' ∧ Rep F w d.ty m' x' cells'.toList S' ∧ (∀ j, L' j = none ∨ L' j = σ.L j) ∧ (∀ k, S' k → ∃ l2 b2, σ.L l2 = some b2 ∧ L' l2 = none ∧ Sg l2 k) := by
  intro ps
  induction ps with
  | nil =>
    intro es x m L cells S K r he hk hL hr hS
    simp only [ents, Option.some.injEq] at he
    subst he
    exact ⟨x, m, L, cells, S, hk, rfl, hr, hL, hS⟩
  | cons p ps ih =>
    obtain ⟨i, o⟩ := p
    intro es x m L cells S K r he hk hL hr hS
    simp only [ents] at he
    cases ho : opd σ o with
    | none => rw [ho] at he; cases he
    | some e =>
    rw [ho] at he
    simp only at he
    cases hes : ents σ ps with
    | none => rw [hes] at he; cases he
    | some es' =>
    rw [hes] at he
    simp only [Option.some.injEq] at he
    subst he
    simp only [partsK] at hk
    obtain ⟨k, φ, df, hk, hplace⟩ := placeK_ok hT hd hk
    cases hin : decide (inlineOff d.ty φ = some k) && df.ty.vty
    · rw [hin] at hk; cases hk
    rw [hin] at hk
    simp only [cond_true] at hk
    simp only [Bool.and_eq_true, decide_eq_true_eq] at hin
    obtain ⟨hin, hvt⟩ := hin
    obtain ⟨y, my, L1, cs1, S1, hk, hr1, hv1, hL1, hS1⟩ := partK_ok h hL hk (opd_ok h ho)
    cases hM : setM d.ty m φ (bif df.ty.flat then atM d.ty m φ else my) with
    | none => rw [hM] at hk; cases hk
    | some m' =>
    rw [hM] at hk
    simp only at hk
    rw [setP_eq] at hk
    obtain ⟨x', hset, hk⟩ := Option.bind_eq_some_iff.1 hk
    obtain ⟨c0, hg0, hc0⟩ := get_of_set φ d.ty x df.ty y x' hset
    have hcl := rep_width _ _ _ _ _ _ _ hr
    obtain ⟨ds, s', S', hres, hrep, hsub, hfoc⟩ := focus F w φ d.ty m x cells.toList S (some (w.heap.size, 0)) c0.t c0.x hr hg0 (inline_own _ _ _ _ hin)
    have hs' := inline_res _ _ _ _ _ _ _ _ hin hres
    obtain ⟨hds, hkw⟩ := inline_resolve _ _ _ _ _ _ _ hin hcl hres
    have hat := get?_atT _ _ _ _ hg0
    rw [← hat, hc0] at hkw
    have hel := rep_width _ _ _ _ _ _ _ hr1
    have hdl := rep_width _ _ _ _ _ _ _ hrep
    rw [hc0] at hdl
    have hy : Rep F w df.ty (bif df.ty.flat then atM d.ty m φ else my) y cs1 S1 := by
      cases hf : df.ty.flat
      · exact hr1
      · exact rep_flat _ hf _ _ _ _ _ _ hr1
    have hvc : (a.eval o).cells.size = df.ty.width := by rw [← Array.length_toList, hv1.cells, hel]
    obtain ⟨c', hfill, hc'⟩ := fill_one (rest := ps.map fun p => (p.1, a.eval p.2)) (hpl i k df hplace) hvc (by rw [← Array.length_toList, hcl]; omega)
    rw [hv1.cells] at hc'
    have hdisS : ∀ q, S1 q → S q → False := fun q h1 h2 => by
      obtain ⟨l2, b2, e1, e2, e3, e4⟩ := hS1 q h1
      obtain ⟨l3, b3, f1, f2, f3⟩ := hS q h2
      by_cases e : l2 = l3
      · subst e; rw [f2] at e1; cases e1
      · exact h.dis l2 l3 b2 b3 e e2 f1 q e4 f3
    have hrep2 : Rep F w d.ty m' x' c'.toList (fun q => (S q ∧ ¬ S' q) ∨ S1 q) := by
      rcases hfoc with ⟨pre, post, e1, e2, wand⟩ | ⟨b, o', e1, e2, _⟩
      · have hpre : pre.length = k := by
          rw [hs'] at e2
          simp at e2
          omega
        have := wand F w (hc0 ▸ y) cs1 S1 x' _ m' (setM_ok _ _ _ _ _ hM) (Sub.refl _) (by
            clear wand hrep
            obtain ⟨ct, cx⟩ := c0
            simp only at hc0
            subst hc0
            exact hset) (by
            clear wand hrep
            obtain ⟨ct, cx⟩ := c0
            simp only at hc0
            subst hc0
            exact hy) (by rw [hel, hdl]) (fun q h1 h2 => (hdisS q h1 h2).elim) (fun _ _ _ => rfl) (fun _ _ => rfl)
        rw [hc', e1]
        rw [e1] at hcl
        rw [List.append_assoc pre ds post, ← hpre, List.take_append_of_le_length (Nat.le_refl _), List.take_length]
        rw [← List.append_assoc pre ds post, show pre.length + df.ty.width = (pre ++ ds).length by rw [List.length_append, hdl], List.drop_append_of_le_length (Nat.le_refl _), List.drop_length, List.nil_append]
        exact this
      · exfalso
        rw [hs'] at e1
        injection e1 with e1
        injection e1 with e1 _
        obtain ⟨l2, b2, f1, f2, f3⟩ := hS b e2
        have := h.lt l2 b2 f1 b f3
        omega
    obtain ⟨x2, m2, L2, cells2, S2, g1, g2, g3, g4, g5⟩ := ih es' x' m' L1 c' _ K r hes hk (fun j => by
        rcases hL1 j with e | e
        · exact .inl e
        · rw [e]; exact hL j) hrep2 (fun q hq => by
        rcases hq with hq | hq
        · obtain ⟨l2, b2, f1, f2, f3⟩ := hS q hq.1
          refine ⟨l2, b2, f1, ?_, f3⟩
          rcases hL1 l2 with e | e
          · exact e
          · rw [e]; exact f2
        · obtain ⟨l2, b2, e1, e2, e3, e4⟩ := hS1 q hq
          exact ⟨l2, b2, e2, e3, e4⟩)
    exact ⟨x2, m2, L2, cells2, S2, g1, by rw [List.map_cons, hfill]; exact g2, g3, g4, g5⟩

theorem rep_noOwn' {t : Ty} {m : Md} (hm : noOwn m = true) {x : t.T} {cs : List Value} {S S' : BSet} (h : Rep F w t m x cs S) : Rep F w t .ro x cs S' := rep_noOwn t m hm x cs S S' h

theorem mapM_places {fields : Array Field} {TTs : Field → Nat} (h : ∀ f ∈ fields.toList, (sizeOf f.type).run P w = .ok (TTs f) w) : (fields.mapM fun f => do pure (f.offset, ← sizeOf f.type) : Sem (Array (Nat × Nat))).run P w = .ok (fields.map fun f => (f.offset, TTs f)) w := by
  rw [Array.mapM_eq_mapM_toList]
  have : ∀ l : List Field, (∀ f ∈ l, (sizeOf f.type).run P w = .ok (TTs f) w) → (l.mapM fun f => do pure (f.offset, ← sizeOf f.type) : Sem (List (Nat × Nat))).run P w = .ok (l.map fun f => (f.offset, TTs f)) w := by
    intro l
    induction l with
    | nil => intro _; simp [Sem.run_pure]
    | cons f l ih =>
      intro hl
      rw [List.mapM_cons]
      simp only [Sem.run_bind, hl f (by simp), Result.andThen_ok, Sem.run_pure, ih (fun g hg => hl g (by simp [hg])), List.map_cons]
  change Sem.run P (List.mapM (fun f => do pure (f.offset, ← sizeOf f.type)) fields.toList >>= fun l => pure l.toArray) w = _
  simp only [Sem.run_bind, this _ h, Result.andThen_ok, Sem.run_pure]
  congr 1
  apply Array.ext'
  simp

theorem run_build {TT : Tab} (hT : TabOk P TT) {t : TypeId} {d : TD} (hd : TOk P t d) (hkn : knownK TT d = true) {ps : List (Nat × Value)} :
    ∃ place : Nat → Option (Nat × Nat), (∀ i k df, ((∃ fields fl, P.underlying t = some (.struct fields) ∧ fields[i]? = some fl ∧ fl.offset = k ∧ TOk P fl.type df) ∨ ∃ n e, P.underlying t = some (.array n e) ∧ TOk P e df ∧ k = i * df.ty.width) → place i = some (k, df.ty.width)) ∧
      ∀ cells zc : Array Value, zc.toList = d.zero → Instr.fill place zc ps = some cells → (Instr.build t ps.toArray).run P w = .ok (.agg cells) w := by
  obtain ⟨i0, z, hi, hi1, hi2, hi3, hi4⟩ := hd.info
  have hds := hd.desc
  unfold knownK at hkn
  have hz : ∀ zc : Array Value, zc.toList = d.zero → z.cells = zc := fun zc h => Array.ext' (by rw [hi4, h])
  split at hkn
  · rename_i fs hkd
    rw [hkd] at hds
    simp only at hds
    obtain ⟨fields, hu, hf⟩ := hds
    have hsz : ∀ f ∈ fields.toList, (sizeOf f.type).run P w = .ok ((TT f.type).elim 0 (fun q => q.ty.width)) w := by
      intro f hfm
      have : (f.type, f.offset) ∈ fs := by rw [← hf]; exact List.mem_map.2 ⟨f, hfm, rfl⟩
      have hs := List.all_eq_true.1 hkn _ this
      obtain ⟨q, hq⟩ := Option.isSome_iff_exists.1 hs
      simp only at hq
      rw [hq]
      exact run_sizeOf (hT _ _ hq)
    refine ⟨fun i => (fields.map fun f => (f.offset, (TT f.type).elim 0 (fun q => q.ty.width)))[i]?, ?_, ?_⟩
    · rintro i k df (⟨fields', fl, h1, h2, h3, h4⟩ | ⟨n, e, h1, _⟩)
      · rw [hu] at h1
        injection h1 with h1
        injection h1 with h1
        subst h1
        have hm : fl ∈ fields.toList := by
          rw [Array.mem_toList_iff]
          exact Array.mem_of_getElem? h2
        have e1 := hsz fl hm
        rw [run_sizeOf h4] at e1
        injection e1 with e1
        simp only [Array.getElem?_map, h2, Option.map_some, ← e1, h3]
      · rw [hu] at h1; cases h1
    · intro cells zc hzc hfill
      have e := hz zc hzc
      subst e
      simp only [Instr.build, Sem.run_bind, zeroValue, typeInfo, run_program, Result.andThen_ok, hi, Sem.run_pure, hi3, run_underlying hu, mapM_places hsz]
      rw [hfill]
      rfl
  · rename_i n e hkd
    rw [hkd] at hds
    simp only at hds
    obtain ⟨de, hde⟩ := Option.isSome_iff_exists.1 hkn
    have hsz := run_sizeOf (w := w) (hT _ _ hde)
    refine ⟨fun i => some (i * de.ty.width, de.ty.width), ?_, ?_⟩
    · rintro i k df (⟨fields', fl, h1, _⟩ | ⟨n', e', h1, h2, h3⟩)
      · rw [hds] at h1; cases h1
      · rw [hds] at h1
        injection h1 with h1
        injection h1 with _ h1
        subst h1
        have e1 := run_sizeOf (w := w) h2
        rw [hsz] at e1
        injection e1 with e1
        rw [h3, e1]
    · intro cells zc hzc hfill
      have e := hz zc hzc
      subst e
      simp only [Instr.build, Sem.run_bind, zeroValue, typeInfo, run_program, Result.andThen_ok, hi, Sem.run_pure, hi3, run_underlying hds, hsz]
      rw [hfill]
      rfl
  · cases hkn

theorem xBuild_ok (h : InvG B F Sg cg σ a w) {R : Type} {TT : Tab} (hT : TabOk P TT) {t : TypeId} {dst : Nat} (hN : dst < B.N) {own : Bool} {ps : List (Nat × Operand)} {KV : Ent0 → Option R} {K : St → Option R} {r : R} (hk : xBuild TT σ t dst own ps KV K = some r) :
    ∃ z, (Instr.build t (ps.map fun p => (p.1, a.eval p.2)).toArray).run P w = .ok z w ∧ ((∃ e', KV e' = some r ∧ EntOk F w σ.L σ.U cg e' z) ∨ ∃ σ' Sg' cg', K σ' = some r ∧ InvG B F Sg' cg' σ' (a.put (some dst) z) w ∧ EF σ σ' dst) := by
  unfold xBuild at hk
  cases h1 : TT t with
  | none => rw [h1] at hk; cases hk
  | some d =>
  rw [h1] at hk
  simp only at hk
  have hd := hT t d h1
  cases hag : d.ty.agg && knownK TT d
  · rw [hag] at hk; cases hk
  rw [hag] at hk
  simp only [cond_true] at hk
  simp only [Bool.and_eq_true] at hag
  obtain ⟨hag, hkn⟩ := hag
  cases hz : rdC d.ty d.zero with
  | none => rw [hz] at hk; cases hk
  | some z =>
  rw [hz] at hk
  simp only at hk
  cases hes : ents σ ps with
  | none => rw [hes] at hk; cases hk
  | some es =>
  rw [hes] at hk
  simp only at hk
  obtain ⟨place, hpl, hrun⟩ := run_build (P := P) (w := w) hT hd hkn (ps := ps.map fun p => (p.1, a.eval p.2))
  obtain ⟨x', m', L', cells', S', g1, g2, g3, g4, g5⟩ := partsK_ok h hT hd hpl ps es z _ σ.L d.zero.toArray BSet.none _ r hes hk (fun _ => .inr rfl) (by simpa using rdC_ok d.ty _ d.zero z (by cases own <;> first | exact okM_zM _ | exact okM_ro _) hz) (fun _ h => h.elim)
  refine ⟨_, hrun cells' d.zero.toArray (by simp) g2, ?_⟩
  cases own
  · left
    simp only [cond_false] at g1
    cases hm : noOwn m'
    · rw [hm] at g1; cases g1
    rw [hm] at g1
    simp only [cond_true] at g1
    exact ⟨_, g1, cells'.toList, rep_noOwn' hm g3, by simp [VR, hag]⟩
  · right
    simp only [cond_true] at g1
    cases hU : σ.U (dst * 8)
    · rw [hU] at g1
      simp only [cond_false] at g1
      have i1 := h.addLab (w' := w) rfl rfl rfl (Nat.le_refl _) (l := dst * 8) (b := ⟨0, d.ty, m', x'⟩) hU (upd L' (dst * 8) (some ⟨0, d.ty, m', x'⟩)) (fun _ _ _ => rfl) g3 (upd_same _ _ _)
        (fun j hj => by rw [upd_ne _ _ hj]; exact g4 j)
        (fun k hk => by
          obtain ⟨l2, b2, f1, f2, f3⟩ := g5 k hk
          refine ⟨fun j bj hj hbj hs => ?_, fun hf => h.disF l2 b2 f1 k f3 hf, h.lt l2 b2 f1 k f3, h.may l2 b2 f1 k f3⟩
          rw [upd_ne _ _ hj] at hbj
          have hbj' : σ.L j = some bj := by
            rcases g4 j with e | e
            · rw [e] at hbj; cases hbj
            · rw [← e]; exact hbj
          by_cases e : l2 = j
          · subst e; rw [f2] at hbj; cases hbj
          · exact h.dis l2 j b2 bj e f1 hbj' k f3 hs)
      exact ⟨_, _, _, g1, i1.putT hN (e := .one (.hdr (dst * 8) 0 [] ⟨d.ty, x'⟩)) (root_ok i1 (l := dst * 8) (b := ⟨0, d.ty, m', x'⟩) (upd_same _ _ _) (by simp [VR, hag])), ef_mk⟩
    · rw [hU] at g1; cases g1
end
end Go.Proofs.YtgonfcjdhbjkcaaDoor.Rf
/- Layer 21: rows built of parts; cap, min. -/
set_option linter.unusedVariables false
set_option linter.unusedSimpArgs false
namespace Go.Proofs.YtgonfcjdhbjkcaaDoor.Rf
open Go

def rowK {R : Type} (want : Ty) (m : Md) : List (Nat × Ent0) → (Nat → Option Lab) → (List want.T → (Nat → Option Lab) → Option R) → Option R
  | [], L, K => K [] L
  | (_, e) :: es, L, K => partK L want e fun y my L' => bif mdFit want my m then rowK want m es L' fun ys L'' => K (y :: ys) L'' else none

def firstM (L : Nat → Option Lab) (want : Ty) : List (Nat × Ent0) → Md
  | [] => .ro
  | (_, e) :: _ => match e with
    | .hdr l _ [] _ => (match L l with | some b => b.m | none => .ro)
    | e => valM e want

def inOrder : Nat → List (Nat × Operand) → Bool
  | _, [] => true
  | k, (i, _) :: ps => Nat.beq i k && inOrder (k + 1) ps

def xRow {R : Type} (d : TD) (σ : St) (dst len : Nat) (ps : List (Nat × Operand)) (K : St → Option R) : Option R :=
  bif σ.U (dst * 8) then none else match ents σ ps with
    | some es => bif inOrder 0 ps && (Nat.beq ps.length len && (Nat.ble (len * d.ty.width) 16777216 && Nat.ble len 16777216)) then
        rowK d.ty (firstM σ.L d.ty es) es σ.L fun xs L => K (σ.mk' L (dst * 8) dst ⟨0, .sl d.ty, .own (firstM σ.L d.ty es), xs⟩) else none
    | none => none

section
variable {P : Program} {B : Base} {F : BSet} {Sg : Nat → BSet} {cg : Nat → List Value} {σ : St} {a : Act} {w : World}

theorem rep_fit {te : Ty} {m me : Md} (hf : mdFit te m me = true) {x : te.T} {cs : List Value} {S : BSet} (h : Rep F w te m x cs S) : Rep F w te me x cs S := by
  unfold mdFit at hf
  simp only [Bool.or_eq_true, decide_eq_true_eq] at hf
  rcases hf with hf | rfl
  · exact rep_flat _ hf _ _ _ _ _ _ h
  · exact h

/-- A part in the words that are wanted: nil serves for any. -/
def nilV : Value → Bool
  | .slice none 0 0 => true
  | .pointer none => true
  | _ => false
def nilE : Ent0 → Bool
  | .cst v => nilV v
  | _ => false
def nilT : Ty → Bool
  | .sl _ => true
  | .ptr _ => true
  | _ => false
def partM {R : Type} (L : Nat → Option Lab) (want : Ty) (m : Md) (e : Ent0) (K : want.T → (Nat → Option Lab) → Option R) : Option R :=
  bif nilE e && (nilT want && m.isOwn) then asT e want fun y => K y L else partK L want e fun y my L' => bif mdFit want my m then K y L' else none
theorem nil_rep {want : Ty} (ht : nilT want = true) {v : Value} (hn : nilV v = true) {m : Md} (hm : m.isOwn = true) {x : want.T} {cs : List Value} (hr : Rep F w want .ro x cs BSet.none) (hc : rdC want v.cells.toList = some x) (hv : VR want cs v) : Rep F w want m x cs BSet.none := by
  cases m with
  | ro => cases hm
  | pr _ _ => cases hm
  | own m =>
    unfold nilV at hn
    split at hn
    · cases want <;> simp only [nilT, Bool.false_eq_true] at ht <;> simp [rdC, Value.cells] at hc
      subst hc
      simp [VR, Ty.agg] at hv
      obtain ⟨rfl, _⟩ := hv
      exact ⟨none, 0, rfl, Nat.le_refl _, by simp [maxLen], .inl rfl⟩
    · cases want <;> simp only [nilT, Bool.false_eq_true] at ht <;> simp [rdC, Value.cells] at hc
      subst hc
      simp [VR, Ty.agg] at hv
      obtain ⟨rfl, _⟩ := hv
      rfl
    · cases hn
theorem partM_ok (h : InvG B F Sg cg σ a w) {R : Type} {L : Nat → Option Lab} (hL : ∀ j, L j = none ∨ L j = σ.L j) {want : Ty} {m : Md} {e : Ent0} {K : want.T → (Nat → Option Lab) → Option R} {r : R} (hk : partM L want m e K = some r) {v : Value} (he : EntOk F w σ.L σ.U cg e v) :
    ∃ y L' cs S', K y L' = some r ∧ Rep F w want m y cs S' ∧ VR want cs v ∧ (∀ j, L' j = none ∨ L' j = L j) ∧ (∀ k, S' k → ∃ l2 b2, L l2 = some b2 ∧ σ.L l2 = some b2 ∧ L' l2 = none ∧ Sg l2 k) := by
  unfold partM at hk
  cases hb : nilE e && (nilT want && m.isOwn)
  · rw [hb] at hk
    simp only [cond_false] at hk
    obtain ⟨y, my, L1, cs1, S1, hk, hr1, hv1, hL1, hS1⟩ := partK_ok h hL hk he
    cases hf : mdFit want my m
    · rw [hf] at hk; cases hk
    rw [hf] at hk
    exact ⟨y, L1, cs1, S1, hk, rep_fit hf hr1, hv1, hL1, hS1⟩
  · rw [hb] at hk
    simp only [cond_true] at hk
    simp only [Bool.and_eq_true] at hb
    obtain ⟨hn, ht, hm⟩ := hb
    unfold nilE at hn
    split at hn
    case h_2 => cases hn
    rename_i u
    have hu : v = u := he
    subst hu
    unfold asT at hk
    simp only at hk
    cases hvr : vrC want v
    · rw [hvr] at hk; cases hk
    have hk0 : asT (.cst v) want (fun y => K y L) = some r := by unfold asT; exact hk
    rw [hvr] at hk
    simp only [cond_true] at hk
    cases hc : rdC want v.cells.toList with
    | none => rw [hc] at hk; cases hk
    | some x =>
      have hs : asT (.cst v) want (fun y => some y) = some x := by unfold asT; simp only [hvr, cond_true, hc]
      obtain ⟨x', cs, e1, hr, hv⟩ := asT_ok hs he
      injection e1 with e1
      subst e1
      rw [hc] at hk
      exact ⟨x', L, cs, BSet.none, hk, nil_rep ht hn hm hr hc hv, hv, fun _ => .inr rfl, fun _ h => h.elim⟩

theorem rowK_ok (h : InvG B F Sg cg σ a w) {R : Type} {want : Ty} {m : Md} : ∀ (ps : List (Nat × Operand)) (es : List (Nat × Ent0)) (L : Nat → Option Lab) (K : List want.T → (Nat → Option Lab) → Option R) (r : R) (k : Nat) (cells : Array Value), ents σ ps = some es → rowK want m es L K = some r → inOrder k ps = true → (∀ j, L j = none ∨ L j = σ.L j) → cells.size = (k + ps.length) * want.width →
    ∃ xs L' cells' row S', K xs L' = some r ∧ Instr.fill (fun i => some (i * want.width, want.width)) cells (ps.map fun p => (p.1, a.eval p.2)) = some cells' ∧ cells'.toList = cells.toList.take (k * want.width) ++ row ∧ RepL (Rep F w want m) xs row S' ∧ xs.length = ps.length ∧ (∀ j, L' j = none ∨ L' j = L j) ∧ (∀ q, S' q → ∃ l2 b2, L l2 = some b2 ∧ σ.L l2 = some b2 ∧ L' l2 = none ∧ Sg l2 q) := by
  intro ps
  induction ps with
  | nil =>
    intro es L K r k cells he hk ho hL hs
    simp only [ents, Option.some.injEq] at he
    subst he
    refine ⟨[], L, cells, [], BSet.none, hk, rfl, ?_, rfl, rfl, fun _ => .inr rfl, fun _ h => h.elim⟩
    rw [List.append_nil, List.take_of_length_le]
    rw [Array.length_toList, hs]; simp
  | cons p ps ih =>
    obtain ⟨i, o⟩ := p
    intro es L K r k cells he hk ho hL hs
    simp only [inOrder, Bool.and_eq_true] at ho
    have hik := Nat.eq_of_beq_eq_true ho.1
    subst hik
    simp only [ents] at he
    cases hop : opd σ o with
    | none => rw [hop] at he; cases he
    | some e =>
    rw [hop] at he
    simp only at he
    cases hes : ents σ ps with
    | none => rw [hes] at he; cases he
    | some es' =>
    rw [hes] at he
    simp only [Option.some.injEq] at he
    subst he
    simp only [rowK] at hk
    obtain ⟨y, my, L1, cs1, S1, hk, hr1, hv1, hL1, hS1⟩ := partK_ok h hL hk (opd_ok h hop)
    cases hf : mdFit want my m
    · rw [hf] at hk; cases hk
    rw [hf] at hk
    simp only [cond_true] at hk
    have hy := rep_fit hf hr1
    have hel := rep_width _ _ _ _ _ _ _ hr1
    have hvc : (a.eval o).cells.size = want.width := by rw [← Array.length_toList, hv1.cells, hel]
    have hss : cells.size = (i + 1 + ps.length) * want.width := by rw [hs]; congr 1; simp; omega
    have hge : i * want.width + want.width ≤ cells.size := by
      rw [hss, ← Nat.succ_mul]; exact Nat.mul_le_mul_right _ (by omega)
    obtain ⟨c', hfill, hc'⟩ := fill_one (place := fun i => some (i * want.width, want.width)) (rest := ps.map fun p => (p.1, a.eval p.2)) (i := i) rfl hvc hge
    rw [hv1.cells] at hc'
    have hc's : c'.size = (i + 1 + ps.length) * want.width := by
      rw [← Array.length_toList, hc', List.length_append, List.length_append, List.length_take, List.length_drop, Array.length_toList, hel]
      omega
    obtain ⟨xs, L2, cells2, row, S2, g1, g2, g3, g4, g5, g6, g7⟩ := ih es' L1 (fun ys L'' => K (y :: ys) L'') r (i + 1) c' hes hk ho.2 (fun j => by
      rcases hL1 j with e | e
      · exact .inl e
      · rw [e]; exact hL j) hc's
    refine ⟨y :: xs, L2, cells2, cs1 ++ row, S1.or S2, g1, by rw [List.map_cons, hfill]; exact g2, ?_, ⟨cs1, row, S1, S2, rfl, hy, g4, fun k h => .inl h, fun k h => .inr h, fun q h1 h2 => ?_⟩, by simp [g5], fun j => ?_, fun q hq => ?_⟩
    · rw [g3, hc', Nat.succ_mul, List.append_assoc _ cs1, ← List.append_assoc]
      rw [List.take_append_of_le_length (by rw [List.length_append, List.length_take, Array.length_toList, hel]; omega)]
      have : ((cells.toList.take (i * want.width)) ++ cs1).length = i * want.width + want.width := by rw [List.length_append, List.length_take, Array.length_toList, hel]; omega
      rw [← this, List.take_length, List.append_assoc]
    · obtain ⟨l2, b2, e1, e2, e3, e4⟩ := hS1 q h1
      obtain ⟨l3, b3, f1, f2, f3, f4⟩ := g7 q h2
      by_cases e : l2 = l3
      · subst e; rw [e3] at f1; cases f1
      · exact h.dis l2 l3 b2 b3 e e2 f2 q e4 f4
    · rcases g6 j with e | e
      · exact .inl e
      · rw [e]; exact hL1 j
    · rcases hq with hq | hq
      · obtain ⟨l2, b2, e1, e2, e3, e4⟩ := hS1 q hq
        refine ⟨l2, b2, e1, e2, ?_, e4⟩
        rcases g6 l2 with e | e
        · exact e
        · rw [e]; exact e3
      · obtain ⟨l3, b3, f1, f2, f3, f4⟩ := g7 q hq
        refine ⟨l3, b3, ?_, f2, f3, f4⟩
        rcases hL1 l3 with e | e
        · rw [e] at f1; cases f1
        · rw [← e]; exact f1

theorem run_buildSlice' {t e : TypeId} {d : TD} (hd : TOk P e d) (hu : P.underlying t = some (.slice e)) {len : Nat} {parts : Array (Nat × Value)} (hsmall : len * d.ty.width ≤ 16777216) (hfill : ∀ cells : Array Value, cells.size = len * d.ty.width → ∃ c', Instr.fill (fun i => some (i * d.ty.width, d.ty.width)) cells parts.toList = some c' ∧ True) :
    ∃ cells : Array Value, cells.size = len * d.ty.width ∧ ∀ c', Instr.fill (fun i => some (i * d.ty.width, d.ty.width)) cells parts.toList = some c' → (Instr.buildSlice t len parts).run P w = .ok (.slice (some ⟨w.heap.size, 0, none⟩) len len) (w.alloc (.cells c' e)) := by
  obtain ⟨i, z, hi, hi1, hi2, hi3, hi4⟩ := hd.info
  have hs : ¬ len * d.ty.width > 2 ^ 24 := by omega
  by_cases hz : len * d.ty.width = 0
  · refine ⟨(Array.range (len * d.ty.width)).map (fun x => (#[] : Array Value)[x % (#[] : Array Value).size]!), by simp, fun c' hc => ?_⟩
    simp only [Instr.buildSlice, Sem.run_bind, run_underlying hu, Result.andThen_ok, run_sizeOf hd, if_neg hs, if_pos hz, Sem.run_pure]
    rw [hc]
    simp [newRow]
  · refine ⟨(Array.range (len * d.ty.width)).map (fun x => z.cells[x % z.cells.size]!), by simp, fun c' hc => ?_⟩
    simp only [Instr.buildSlice, Sem.run_bind, run_underlying hu, Result.andThen_ok, run_sizeOf hd, if_neg hs, if_neg hz, Sem.run_pure, zeroValue, typeInfo, run_program, hi, hi3]
    rw [hc]
    simp [newRow]

theorem xRow_ok (h : InvG B F Sg cg σ a w) {R : Type} {t e : TypeId} {d : TD} (hd : TOk P e d) (ht : P.underlying t = some (.slice e)) {dst len : Nat} (hN : dst < B.N) {ps : List (Nat × Operand)} {K : St → Option R} {r : R} (hk : xRow d σ dst len ps K = some r) :
    ∃ σ' v w' Sg' cg', K σ' = some r ∧ (Instr.buildSlice t len (ps.map fun p => (p.1, a.eval p.2)).toArray).run P w = .ok v w' ∧ InvG B F Sg' cg' σ' (a.put (some dst) v) w' ∧ EF σ σ' dst := by
  unfold xRow at hk
  cases hU : σ.U (dst * 8)
  · rw [hU] at hk
    simp only [cond_false] at hk
    cases hes : ents σ ps with
    | none => rw [hes] at hk; cases hk
    | some es =>
    rw [hes] at hk
    simp only at hk
    cases hb : inOrder 0 ps && (Nat.beq ps.length len && (Nat.ble (len * d.ty.width) 16777216 && Nat.ble len 16777216))
    · rw [hb] at hk; cases hk
    rw [hb] at hk
    simp only [cond_true] at hk
    simp only [Bool.and_eq_true] at hb
    obtain ⟨ho, hlen, hs, hl24⟩ := hb
    have hlen := Nat.eq_of_beq_eq_true hlen
    have hs := Nat.le_of_ble_eq_true hs
    have hl24 := Nat.le_of_ble_eq_true hl24
    subst hlen
    have key := fun (cells : Array Value) (hc : cells.size = ps.length * d.ty.width) => rowK_ok h ps es σ.L _ r 0 cells hes hk ho (fun _ => .inr rfl) (by simpa using hc)
    obtain ⟨cells, hcs, hrun⟩ := run_buildSlice' (w := w) (parts := (ps.map fun p => (p.1, a.eval p.2)).toArray) hd ht hs (fun cells hc => by
      obtain ⟨xs, L', cells', row, S', _, g2, _⟩ := key cells hc
      exact ⟨cells', g2, trivial⟩)
    obtain ⟨xs, L', cells', row, S', g1, g2, g3, g4, g5, g6, g7⟩ := key cells hcs
    have hrow : cells'.toList = row := by simpa using g3
    have hw := RepL.len (fun y c S h => rep_width F w d.ty _ y c S h) g4
    obtain ⟨Sg', cg', hi⟩ := h.newRow (t := d.ty) (m := firstM σ.L d.ty es) (x := xs) (cs := cells') (e := e) (cap := xs.length) (S0 := S') (by rw [← hw, hrow, List.take_length]; exact g4) (Nat.le_refl _) (by simp only [maxLen]; omega) (by rw [← hw, ← hrow, Array.length_toList]; exact Nat.le_refl _) hU hN L' (fun j _ => g6 j)
      (fun k hk => by obtain ⟨l2, b2, _, e2, e3, e4⟩ := g7 k hk; exact ⟨l2, b2, e2, e3, e4⟩) rfl
    rw [← g5] at hrun ⊢
    exact ⟨_, _, _, Sg', cg', g1, hrun cells' g2, hi, ef_mk⟩
  · rw [hU] at hk; cases hk

/-! ### min -/
def xMin {R : Type} (x y : Ent0) (K : Ent0 → Option R) : Option R :=
  match x, y with
  | .val (.int k) n, e => asT e (.int k) fun m => K (.val (.int k) (if m < n then m else n))
  | e, .val (.int k) m => asT e (.int k) fun n => K (.val (.int k) (if m < n then m else n))
  | _, _ => none
def xMax {R : Type} (x y : Ent0) (K : Ent0 → Option R) : Option R :=
  match x, y with
  | .val (.int k) n, e => asT e (.int k) fun m => K (.val (.int k) (if n < m then m else n))
  | e, .val (.int k) m => asT e (.int k) fun n => K (.val (.int k) (if n < m then m else n))
  | _, _ => none
end
end Go.Proofs.YtgonfcjdhbjkcaaDoor.Rf
/- Layer 22: a step that changes many labels; what a call is handed and what it gives back. -/
set_option linter.unusedVariables false
set_option linter.unusedSimpArgs false
namespace Go.Proofs.YtgonfcjdhbjkcaaDoor.Rf
open Go

section
variable {P : Program} {B : Base} {F : BSet} {Sg : Nat → BSet} {cg : Nat → List Value} {σ : St} {a : Act} {w : World}

/-- Labels go, or stay, or are made anew in their place. -/
theorem InvG.step (h : InvG B F Sg cg σ a w) {w' : World} {F' : BSet} {Sg' : Nat → BSet} {L' : Nat → Option Lab} {S : BSet} (fr : Fr w S w')
    (hmay : ∀ k, S k → k < B.w0.heap.size → B.S0 k) (hSF : Dis S F)
    (hL : ∀ l b', L' l = some b' → (σ.L l = some b' ∧ Sg' l = Sg l ∧ Dis (Sg l) S) ∨ (∃ b, σ.L l = some b ∧ b.v < b'.v ∧ b'.t = b.t ∧ Rep F' w' b'.t b'.m b'.x (cg l) (Sg' l)))
    (dis' : ∀ l l' b b', l ≠ l' → L' l = some b → L' l' = some b' → Dis (Sg' l) (Sg' l'))
    (disF' : ∀ l b, L' l = some b → Dis (Sg' l) F') (lt' : ∀ l b, L' l = some b → ∀ k, Sg' l k → k < w'.heap.size) (may' : ∀ l b, L' l = some b → ∀ k, Sg' l k → k < B.w0.heap.size → B.S0 k)
    (hFF : Sub F F') (fl' : ∀ k, F' k → k < w'.heap.size) (fs' : ∀ k, F' k → k < B.w0.heap.size → ¬ B.S0 k → B.F0 k) : InvG B F' Sg' cg { σ with L := L' } a w' := by
  have hFw : ∀ k, F k → w'.heap[k]? = w.heap[k]? := fun k hk => fr.block k (h.fl k hk) (fun hs => hSF k hs hk)
  have hoth : ∀ j bj, σ.L j = some bj → Dis (Sg j) S → ∀ k, Sg j k → w'.heap[k]? = w.heap[k]? := fun j bj hbj hd k hk => fr.block k (h.lt j bj hbj k hk) (fun hs => hd k hk hs)
  refine
  { fr := ⟨fr.os.trans h.fr.os, fr.tape.trans h.fr.tape, fr.output.trans h.fr.output, Nat.le_trans h.fr.size fr.size, fun k hk hn => (fr.block k (Nat.lt_of_lt_of_le hk h.fr.size) (fun hs => hn (hmay k hs hk))).trans (h.fr.block k hk hn)⟩
    size := h.size
    defers := h.defers
    f0 := h.f0.trans hFF
    fl := fl'
    fs := fs'
    lab := ?_
    dis := dis'
    disF := disF'
    lt := lt'
    may := may'
    used := ?_
    fix := fun j cs' hf => ⟨(h.fix j cs' hf).1, fun bj hbj => by
      rcases hL j bj hbj with ⟨h1, _⟩ | ⟨b, h1, _⟩
      · exact (h.fix j cs' hf).2 bj h1
      · exact (h.fix j cs' hf).2 b h1⟩
    ent := ?_ }
  · intro j bj hbj
    rcases hL j bj hbj with ⟨h1, h2, h3⟩ | ⟨b, h1, h2, h3, h4⟩
    · rw [h2]; exact rep_frame hFF hFw _ _ _ _ _ _ (h.lab j bj h1) (Sub.refl _) (hoth j bj h1 h3)
    · exact h4
  · intro j bj hbj
    rcases hL j bj hbj with ⟨h1, h2, h3⟩ | ⟨b, h1, h2, h3, h4⟩
    · exact h.used j bj h1
    · exact h.used j b h1
  · intro t e he
    refine (h.ent t e he).imp fun e v hv => ?_
    cases e with
    | val t x =>
      obtain ⟨cs, h1, h2⟩ := hv
      exact ⟨cs, rep_frame hFF hFw t .ro x cs _ _ h1 (Sub.refl _) (fun _ h => h.elim), h2⟩
    | cst u => exact hv
    | radr t x =>
      obtain ⟨ad, ds, h1, h2, h3, h4⟩ := hv
      exact ⟨ad, ds, h1, hFF _ h2, h3.congr (hFw _ h2), rep_frame hFF hFw t .ro x ds _ _ h4 (Sub.refl _) (fun _ h => h.elim)⟩
    | hdr j n π c =>
      refine ⟨hv.1, fun bj hbj => ?_⟩
      rcases hL j bj hbj with ⟨g1, g2, g3⟩ | ⟨b, g1, g2, g3, g4⟩
      · obtain ⟨h0, h1, h2⟩ := hv.2 bj g1
        refine ⟨h0, h1, fun hn => ?_⟩
        obtain ⟨h3, h4, h5⟩ := h2 hn
        refine ⟨h3, h4, ?_⟩
        rw [resolve_congr π bj.t bj.m bj.x (cg j) (Sg j) none (h.lab j bj g1) h3 (by rw [h4]; rfl) (hoth j bj g1 g3)]
        exact h5
      · obtain ⟨h0, h1, h2⟩ := hv.2 b g1
        exact ⟨by omega, fun hp => by rw [g3]; exact h1 hp, fun hn => by omega⟩
    | adr j n π c =>
      refine ⟨hv.1, fun bj hbj => ?_⟩
      rcases hL j bj hbj with ⟨g1, g2, g3⟩ | ⟨b, g1, g2, g3, g4⟩
      · obtain ⟨h0, h1, h2⟩ := hv.2 bj g1
        refine ⟨h0, h1, fun hn => ?_⟩
        obtain ⟨h3, h4, h5⟩ := h2 hn
        refine ⟨h3, h4, ?_⟩
        rw [resolve_congr π bj.t bj.m bj.x (cg j) (Sg j) none (h.lab j bj g1) h3 (by rw [h4]; rfl) (hoth j bj g1 g3)]
        exact h5
      · obtain ⟨h0, h1, h2⟩ := hv.2 b g1
        exact ⟨by omega, fun hp p o hr => h1 hp p o (by rw [← g3]; exact hr), fun hn => by omega⟩

/-! ### Frozen names -/
def frzE (l : Nat) (b : Lab) : Ent0 → Ent0
  | .hdr j n π c => bif Nat.beq j l then (bif Nat.beq n b.v then .val c.t c.x else bif π.isEmpty then .val b.t b.x else .hdr j n π c) else .hdr j n π c
  | e => e
def frz (l : Nat) (b : Lab) : Ent → Ent
  | .one e => .one (frzE l b e)
  | e => e
def St.frz (σ : St) (l : Nat) (b : Lab) : St := { σ with E := fun t => (σ.E t).map (Rf.frz l b), L := upd σ.L l none }

theorem InvG.frz (h : InvG B F Sg cg σ a w) {l : Nat} {b : Lab} (hl : σ.L l = some b) : InvG B (F.or (Sg l)) Sg cg (σ.frz l b) a w :=
  { h.freeze hl with
    ent := fun t e he => by
      cases hE : σ.E t with
      | none => simp [St.frz, hE] at he
      | some e0 =>
        simp only [St.frz, hE, Option.map_some, Option.some.injEq] at he
        subst he
        have hfz := (h.freeze hl).ent t e0 hE
        have h0 := h.ent t e0 hE
        cases e0 with
        | tup es => exact hfz
        | one e =>
          cases e with
          | hdr j n π c =>
            show EntOk _ _ _ _ _ (frzE l b (.hdr j n π c)) _
            cases hb : Nat.beq j l
            · rw [show frzE l b (.hdr j n π c) = .hdr j n π c by simp only [frzE, hb, cond_false]]; exact hfz
            have e1 := Nat.eq_of_beq_eq_true hb
            subst e1
            cases hb2 : Nat.beq n b.v
            · cases hp : π.isEmpty
              · rw [show frzE j b (.hdr j n π c) = .hdr j n π c by simp only [frzE, hb, hb2, hp, cond_false, cond_true]]; exact hfz
              · rw [show frzE j b (.hdr j n π c) = .val b.t b.x by simp only [frzE, hb, hb2, hp, cond_false, cond_true]]
                have hp' : π = [] := by cases π <;> simp_all
                exact ⟨cg j, rep_freeze (fun k h => .inl h) _ _ _ _ _ _ (h.lab j b hl) (fun k hk => .inr hk), (h0.2 b hl).2.1 hp'⟩
            · rw [show frzE j b (.hdr j n π c) = .val c.t c.x by simp only [frzE, hb, hb2, cond_true]]
              have e2 := Nat.eq_of_beq_eq_true hb2
              obtain ⟨g1, g2, g3⟩ := (h0.2 b hl).2.2 e2
              obtain ⟨ds, s', S', q1, q2, q3, _⟩ := focus F w π b.t b.m b.x (cg j) (Sg j) none c.t c.x (h.lab j b hl) g2 g1
              refine ⟨ds, rep_freeze (fun k h => .inl h) _ _ _ _ _ _ q2 (fun k hk => .inr (q3 k hk)), ?_⟩
              rw [get?_atT _ _ _ _ g2]
              exact g3 _ _ q1
          | val t x => exact hfz
          | cst u => exact hfz
          | radr t x => exact hfz
          | adr j n π c => exact hfz }

/-! ### What is handed over -/
def tupT : List (Ty × Md) → Ty
  | [] => .unit
  | p :: ps => .pair p.1 (tupT ps)

def Args (F : BSet) (w : World) : (ps : List (Ty × Md)) → (tupT ps).T → List Value → BSet → Prop
  | [], _, vs, _ => vs = []
  | p :: ps, x, vs, S => ∃ v vs' cs S1 S2, vs = v :: vs' ∧ Rep F w p.1 p.2 x.1 cs S1 ∧ VR p.1 cs v ∧ Args F w ps x.2 vs' S2 ∧ Sub S1 S ∧ Sub S2 S ∧ Dis S1 S2

theorem Args.len {ps : List (Ty × Md)} : ∀ {x : (tupT ps).T} {vs : List Value} {S : BSet}, Args F w ps x vs S → vs.length = ps.length := by
  induction ps with
  | nil => intro x vs S h; cases h; rfl
  | cons p ps ih => rintro x vs S ⟨v, vs', cs, S1, S2, rfl, _, _, h, _⟩; simp [ih h]
theorem Args.mono {ps : List (Ty × Md)} : ∀ {x : (tupT ps).T} {vs : List Value} {S S' : BSet}, Args F w ps x vs S → Sub S S' → Args F w ps x vs S' := by
  induction ps with
  | nil => intro x vs S S' h _; exact h
  | cons p ps ih => rintro x vs S S' ⟨v, vs', cs, S1, S2, e, h1, h2, h3, s1, s2, d⟩ hs; exact ⟨v, vs', cs, S1, S2, e, h1, h2, h3, s1.trans hs, s2.trans hs, d⟩
def closedL : List (Ty × Md) → Bool
  | [] => true
  | p :: ps => closed p.1 p.2 && closedL ps
theorem Args.closed {F' : BSet} {ps : List (Ty × Md)} (hc : closedL ps = true) : ∀ {x : (tupT ps).T} {vs : List Value} {S : BSet}, Args F w ps x vs S → Args F' w ps x vs S := by
  induction ps with
  | nil => intro x vs S h; exact h
  | cons p ps ih =>
    rintro x vs S ⟨v, vs', cs, S1, S2, e, h1, h2, h3, r⟩
    simp only [closedL, Bool.and_eq_true] at hc
    exact ⟨v, vs', cs, S1, S2, e, rep_closed _ _ hc.1 _ _ _ h1, h2, ih hc.2 h3, r⟩

/-- What a call gives back as one value. -/
def retV : List Value → Value
  | [u] => u
  | ws => .tuple ws.toArray
def RetV (ws : List Value) (v : Value) : Prop := v = retV ws

/-- A function: what it is handed, what it gives back, which arguments it changes in place, what it computes. -/
structure Callee where
  ps : List (Ty × Md)
  rs : List (Ty × Md)
  mi : List Nat
  ms : List (Ty × Md)
  den : (tupT ps).T → Option ((tupT rs).T × (tupT ms).T)

def FnPost (c : Callee) (r : (tupT c.rs).T × (tupT c.ms).T) (F : BSet) (w : World) (S : BSet) (vs : List Value) : Ending → World → Prop
  | .returned v, w' => ∃ ws F' Sr Sm, RetV ws v ∧ Args F' w' c.rs r.1 ws Sr ∧ Args F' w' c.ms r.2 (c.mi.map fun i => vs.getD i undef) Sm ∧ Dis Sr Sm ∧ Fr w S w' ∧ Sub F F' ∧ (∀ k, F' k → k < w'.heap.size) ∧ (∀ k, F' k → k < w.heap.size → ¬ S k → F k) ∧
      (∀ k, Sr k ∨ Sm k → k < w'.heap.size ∧ ¬ F' k ∧ (k < w.heap.size → S k))
  | _, _ => False

def FnOk (P : Program) (f : FuncId) (c : Callee) : Prop :=
  ∀ x r, c.den x = some r → ∀ (F : BSet) (w : World) (S : BSet) (vs : List Value), Args F w c.ps x vs S → Dis S F → (∀ k, F k → k < w.heap.size) → (∀ k, S k → k < w.heap.size) → Gh F w → Calls P f vs.toArray w (FnPost c r F w S vs)

/-! ### Arguments -/
def argK {R : Type} (σ : St) (L : Nat → Option Lab) (t : Ty) (m : Md) (e : Ent0) (K : t.T → (Nat → Option Lab) → List Nat → Option R) : Option R :=
  bif decide (m = .ro) then (match e with
    | .hdr l n π c => hcur σ (.hdr l n π c) fun l _ _ c => (match toP c.t t c.x with | some y => K y L [l] | none => none)
    | e => asT (upP e t) t fun x => K x L [])
  else partM L t m e fun y L' => K y L' []

def argsK {R : Type} (σ : St) : (ps : List (Ty × Md)) → List Ent0 → (Nat → Option Lab) → ((tupT ps).T → (Nat → Option Lab) → List Nat → Option R) → Option R
  | [], [], L, K => K () L []
  | p :: ps, e :: es, L, K => argK σ L p.1 p.2 e fun x L1 b1 => argsK σ ps es L1 fun xs L2 b2 => K (x, xs) L2 (b1 ++ b2)
  | _, _, _, _ => none

theorem argK_ok (h : InvG B F Sg cg σ a w) {R : Type} {L : Nat → Option Lab} (hL : ∀ j, L j = none ∨ L j = σ.L j) {t : Ty} {m : Md} {e : Ent0} {K : t.T → (Nat → Option Lab) → List Nat → Option R} {r : R} (hk : argK σ L t m e K = some r) {v : Value} (he : EntOk F w σ.L σ.U cg e v) :
    ∃ y L' bs cs S', K y L' bs = some r ∧ (∀ F', Sub F F' → (∀ l ∈ bs, Sub (Sg l) F') → Rep F' w t m y cs S') ∧ VR t cs v ∧ (∀ j, L' j = none ∨ L' j = L j) ∧ (∀ k, S' k → ∃ l2 b2, L l2 = some b2 ∧ σ.L l2 = some b2 ∧ L' l2 = none ∧ Sg l2 k) ∧ (∀ l ∈ bs, ∃ b, σ.L l = some b) := by
  unfold argK at hk
  cases hm : decide (m = .ro)
  · rw [hm] at hk
    simp only [cond_false] at hk
    obtain ⟨y, L1, cs1, S1, hk, hr1, hv1, hL1, hS1⟩ := partM_ok h hL hk he
    exact ⟨y, L1, [], cs1, S1, hk, fun F' hF _ => rep_frame hF (fun _ _ => rfl) _ _ _ _ _ _ hr1 (Sub.refl _) (fun _ _ => rfl), hv1, hL1, hS1, fun l hl => by simp at hl⟩
  · rw [hm] at hk
    simp only [cond_true] at hk
    have hm := of_decide_eq_true hm
    subst hm
    split at hk
    · rename_i l n π c _hk0
      obtain ⟨l, b, π, c, hl, hk, hg, ho, ds, s', S', hres, hrep, hsub, hfoc, hv⟩ := hcur_ok h hk he
      split at hk
      · rename_i y hct
        refine ⟨y, L, [l], ds, BSet.none, hk, fun F' hF hb => toP_ok hct (rep_freeze hF _ _ _ _ _ _ hrep (fun k hk => hb l (by simp) k (hsub k hk))), toP_vr hct hv, fun _ => .inr rfl, fun _ h => h.elim, fun l' hl' => ?_⟩
        simp at hl'
        subst hl'
        exact ⟨b, hl⟩
      · cases hk
    · obtain ⟨x, cs, hk, hr, hv⟩ := asT_ok hk (upP_ok he)
      exact ⟨x, L, [], cs, BSet.none, hk, fun F' hF _ => rep_frame hF (fun _ _ => rfl) _ _ _ _ _ _ hr (Sub.refl _) (fun _ _ => rfl), hv, fun _ => .inr rfl, fun _ h => h.elim, fun l hl => by simp at hl⟩

theorem argsK_ok (h : InvG B F Sg cg σ a w) {R : Type} : ∀ (ps : List (Ty × Md)) (es : List Ent0) (vs : List Value) (L : Nat → Option Lab) (K : (tupT ps).T → (Nat → Option Lab) → List Nat → Option R) (r : R), argsK σ ps es L K = some r → EntsOk F w σ.L σ.U cg es vs → (∀ j, L j = none ∨ L j = σ.L j) →
    ∃ x L' bs S', K x L' bs = some r ∧ (∀ F', Sub F F' → (∀ l ∈ bs, Sub (Sg l) F') → Args F' w ps x vs S') ∧ (∀ j, L' j = none ∨ L' j = L j) ∧ (∀ k, S' k → ∃ l2 b2, L l2 = some b2 ∧ σ.L l2 = some b2 ∧ L' l2 = none ∧ Sg l2 k) ∧ (∀ l ∈ bs, ∃ b, σ.L l = some b) := by
  intro ps
  induction ps with
  | nil =>
    intro es vs L K r hk he hL
    cases es with
    | nil => exact ⟨(), L, [], BSet.none, hk, fun _ _ _ => he, fun _ => .inr rfl, fun _ h => h.elim, fun l hl => by simp at hl⟩
    | cons e es => cases hk
  | cons p ps ih =>
    intro es vs L K r hk he hL
    cases es with
    | nil => cases hk
    | cons e es =>
      obtain ⟨v, vr, rfl, he1, he2⟩ := he
      simp only [argsK] at hk
      obtain ⟨y, L1, b1, cs, S1, hk, hr, hv, hL1, hS1, hb1⟩ := argK_ok h hL hk he1
      obtain ⟨x, L2, b2, S2, hk, hr2, hL2, hS2, hb2⟩ := ih es vr L1 _ r hk he2 (fun j => by
        rcases hL1 j with e | e
        · exact .inl e
        · rw [e]; exact hL j)
      refine ⟨(y, x), L2, b1 ++ b2, S1.or S2, hk, fun F' hF hb => ⟨v, vr, cs, S1, S2, rfl, hr F' hF (fun l hl => hb l (by simp [hl])), hv, hr2 F' hF (fun l hl => hb l (by simp [hl])), fun k h => .inl h, fun k h => .inr h, fun q h1 h2 => ?_⟩, fun j => ?_, fun q hq => ?_, fun l hl => ?_⟩
      · obtain ⟨l2, b2, e1, e2, e3, e4⟩ := hS1 q h1
        obtain ⟨l3, b3, f1, f2, f3, f4⟩ := hS2 q h2
        by_cases e : l2 = l3
        · subst e; rw [e3] at f1; cases f1
        · exact h.dis l2 l3 b2 b3 e e2 f2 q e4 f4
      · rcases hL2 j with e | e
        · exact .inl e
        · rw [e]; exact hL1 j
      · rcases hq with hq | hq
        · obtain ⟨l2, b2, e1, e2, e3, e4⟩ := hS1 q hq
          refine ⟨l2, b2, e1, e2, ?_, e4⟩
          rcases hL2 l2 with e | e
          · exact e
          · rw [e]; exact e3
        · obtain ⟨l3, b3, f1, f2, f3, f4⟩ := hS2 q hq
          refine ⟨l3, b3, ?_, f2, f3, f4⟩
          rcases hL1 l3 with e | e
          · rw [e] at f1; cases f1
          · rw [← e]; exact f1
      · rcases List.mem_append.1 hl with hl | hl
        · exact hb1 l hl
        · exact hb2 l hl
end
end Go.Proofs.YtgonfcjdhbjkcaaDoor.Rf
/- Layer 23: calls. -/
set_option linter.unusedVariables false
set_option linter.unusedSimpArgs false
namespace Go.Proofs.YtgonfcjdhbjkcaaDoor.Rf
open Go

/-- What a called function computes, if it does. -/
def callB {A R : Type} (o : Option A) (k : A → Option R) : Option R := match o with | some a => k a | none => none

/-- The labels of what was changed in place. -/
def mutsK (σ : St) (es : List Ent0) : List Nat → (ms : List (Ty × Md)) → (tupT ms).T → (Nat → Option Lab) → Option (Nat → Option Lab)
  | [], [], _, L => some L
  | i :: mi, p :: ms, y, L => match es[i]? with
    | some (.hdr l _ [] _) => (match σ.L l with
      | some b => bif (L l).isNone then (match toP p.1 b.t y.1 with | some y1 => mutsK σ es mi ms y.2 (upd L l (some ⟨b.v + 1, b.t, p.2, y1⟩)) | none => none) else none
      | none => none)
    | _ => none
  | _, _, _, _ => none

/-- The results: values, or new labels. -/
def resK {R : Type} : (rs : List (Ty × Md)) → (tupT rs).T → Nat → St → (St → List Ent0 → Option R) → Option R
  | [], _, _, σ, K => K σ []
  | p :: rs, x, key, σ, K => bif noOwn p.2 then resK rs x.2 (key + 1) σ fun σ' es => K σ' (.val p.1 x.1 :: es)
    else bif σ.U key then none else resK rs x.2 (key + 1) (σ.newL key ⟨0, p.1, p.2, x.1⟩) fun σ' es => K σ' (.hdr key 0 [] ⟨p.1, x.1⟩ :: es)

def entOf : List Ent0 → Ent
  | [e] => .one e
  | es => .tup es

def callK {R : Type} (σ : St) (dst : Option Nat) (c : Callee) (es : List Ent0) (K : St → Option R) : Option R :=
  argsK σ c.ps es σ.L fun x L bs =>
    bif ((closedL c.rs && closedL c.ms) || bs.isEmpty) && bs.all fun l => (L l).isSome then
      callB (c.den x) fun r => match mutsK σ es c.mi c.ms r.2 L with
        | some L2 => (match dst with
          | some d => resK c.rs r.1 (d * 8 + 2) { σ with L := L2 } fun σ' es => K { σ' with E := upd σ'.E d (some (entOf es)) }
          | none => K { σ with L := L2 })
        | none => none
    else none

section
variable {P : Program} {B : Base} {F : BSet} {Sg : Nat → BSet} {cg : Nat → List Value} {σ : St} {a : Act} {w : World}

theorem VR.inj {t : Ty} {cs cs' : List Value} {v : Value} (h : VR t cs v) (h' : VR t cs' v) : cs = cs' := by rw [← h.cells, h'.cells]

theorem EntsOk.get {L : Nat → Option Lab} {U : Nat → Bool} : ∀ {es : List Ent0} {vs : List Value} (i : Nat) (e : Ent0), EntsOk F w L U cg es vs → es[i]? = some e → EntOk F w L U cg e (vs.getD i undef) := by
  intro es
  induction es with
  | nil => intro vs i e _ h; simp at h
  | cons e0 es ih =>
    rintro vs i e ⟨v, r, rfl, h1, h2⟩ hi
    cases i with
    | zero => simp at hi; subst hi; exact h1
    | succ i => simp at hi; simpa using ih i e h2 hi

def setS (f : Nat → BSet) (l : Nat) (S : BSet) : Nat → BSet := fun j => if j = l then S else f j
theorem setS_same (f : Nat → BSet) (l : Nat) (S : BSet) : setS f l S l = S := if_pos rfl
theorem setS_ne (f : Nat → BSet) {l j : Nat} (S : BSet) (h : j ≠ l) : setS f l S j = f j := if_neg h

theorem mutsK_ok {σ : St} {es : List Ent0} {vs : List Value} (he : EntsOk F w σ.L σ.U cg es vs) {F2 : BSet} {w' : World} : ∀ (mi : List Nat) (ms : List (Ty × Md)) (y : (tupT ms).T) (L L2 : Nat → Option Lab) (Sm : BSet), mutsK σ es mi ms y L = some L2 → Args F2 w' ms y (mi.map fun i => vs.getD i undef) Sm →
    ∃ Sg2 : Nat → BSet, ∀ l, (L2 l = L l ∧ Sg2 l = BSet.none) ∨ (L l = none ∧ ∃ b b', σ.L l = some b ∧ L2 l = some b' ∧ b.v < b'.v ∧ b'.t = b.t ∧ Rep F2 w' b'.t b'.m b'.x (cg l) (Sg2 l) ∧ Sub (Sg2 l) Sm ∧ ∀ l', l' ≠ l → Dis (Sg2 l) (Sg2 l')) := by
  intro mi
  induction mi with
  | nil =>
    intro ms y L L2 Sm hk ha
    cases ms with
    | nil => simp only [mutsK, Option.some.injEq] at hk; subst hk; exact ⟨fun _ => BSet.none, fun l => .inl ⟨rfl, rfl⟩⟩
    | cons _ _ => cases hk
  | cons i mi ih =>
    intro ms y L L2 Sm hk ha
    cases ms with
    | nil => cases hk
    | cons p ms =>
      simp only [mutsK] at hk
      split at hk
      · rename_i l n c hei
        split at hk
        · rename_i b hl
          cases hb : (L l).isNone
          · rw [hb] at hk; cases hk
          rw [hb] at hk
          simp only [cond_true] at hk
          simp only [Option.isNone_iff_eq_none] at hb
          cases hty : toP p.1 b.t y.1 with
          | none => rw [hty] at hk; cases hk
          | some y1 =>
          rw [hty] at hk
          simp only at hk
          obtain ⟨v, vs', cs, S1, S2, e, h1, h2, h3, s1, s2, d⟩ := ha
          simp only [List.map_cons, List.cons.injEq] at e
          obtain ⟨e1, e2⟩ := e
          rw [← e2] at h3
          obtain ⟨Sg2, hSg⟩ := ih ms y.2 _ L2 S2 hk h3
          have hv := ((he.get i _ hei).2 b hl).2.1 rfl
          rw [e1] at hv
          have hcs := hv.inj (toP_vr hty h2)
          have hsub : ∀ l', l' ≠ l → Sub (Sg2 l') S2 := fun l' _ => by
            rcases hSg l' with ⟨_, e⟩ | ⟨_, _, _, _, _, _, _, _, e, _⟩
            · rw [e]; exact fun _ h => h.elim
            · exact e
          refine ⟨setS Sg2 l S1, fun j => ?_⟩
          by_cases hj : j = l
          · subst hj
            right
            rcases hSg j with ⟨e3, _⟩ | ⟨e3, _⟩
            · refine ⟨hb, b, ⟨b.v + 1, b.t, p.2, y1⟩, hl, by rw [e3, upd_same], Nat.lt_succ_self _, rfl, ?_, ?_, fun l' hl' => ?_⟩
              · have q : ∀ c' S', c' = cs → S' = S1 → Rep F2 w' b.t p.2 y1 c' S' := by rintro _ _ rfl rfl; exact toP_ok hty h1
                exact q _ _ hcs (setS_same _ _ _)
              · rw [setS_same]; exact s1
              · rw [setS_same, setS_ne _ _ hl']; exact d.mono (Sub.refl _) (hsub l' hl')
            · rw [upd_same] at e3; cases e3
          · rw [setS_ne _ _ hj]
            rcases hSg j with ⟨e3, e4⟩ | ⟨e3, b0, b0', f1, f2, f3, f4, f5, f6, f7⟩
            · left; exact ⟨e3.trans (upd_ne _ _ hj), e4⟩
            · right
              rw [upd_ne _ _ hj] at e3
              refine ⟨e3, b0, b0', f1, f2, f3, f4, f5, f6.trans s2, fun l' hl' => ?_⟩
              by_cases e : l' = l
              · subst e; rw [setS_same]; exact (d.mono (Sub.refl _) f6).symm
              · rw [setS_ne _ _ e]; exact f7 l' hl'
        · cases hk
      · cases hk

theorem resK_ok {R : Type} {w' : World} {F2 : BSet} : ∀ (rs : List (Ty × Md)) (x : (tupT rs).T) (key : Nat) (σ : St) (Sg : Nat → BSet) (cg : Nat → List Value) (K : St → List Ent0 → Option R) (r : R) (ws : List Value) (Sr : BSet), InvG B F2 Sg cg σ a w' → resK rs x key σ K = some r → Args F2 w' rs x ws Sr →
    (∀ k, Sr k → (∀ j bj, σ.L j = some bj → ¬ Sg j k) ∧ ¬ F2 k ∧ k < w'.heap.size ∧ (k < B.w0.heap.size → B.S0 k)) →
    ∃ σ' Sg' cg' es, K σ' es = some r ∧ InvG B F2 Sg' cg' σ' a w' ∧ EntsOk F2 w' σ'.L σ'.U cg' es ws ∧ σ'.E = σ.E ∧ (∀ j, σ.U j = true → σ'.U j = true ∧ σ'.L j = σ.L j ∧ cg' j = cg j) := by
  intro rs
  induction rs with
  | nil => intro x key σ Sg cg K r ws Sr h hk ha _; exact ⟨σ, Sg, cg, [], hk, h, ha, rfl, fun _ h => ⟨h, rfl, rfl⟩⟩
  | cons p rs ih =>
    rintro x key σ Sg cg K r ws Sr h hk ⟨v, vs', cs, S1, S2, rfl, h1, h2, h3, s1, s2, d⟩ hS
    simp only [resK] at hk
    cases hm : noOwn p.2
    · rw [hm] at hk
      simp only [cond_false] at hk
      cases hU : σ.U key
      · rw [hU] at hk
        simp only [cond_false] at hk
        have i1 := h.addLab (w' := w') rfl rfl rfl (Nat.le_refl _) (l := key) (b := ⟨0, p.1, p.2, x.1⟩) hU (upd σ.L key (some ⟨0, p.1, p.2, x.1⟩)) (fun _ _ _ => rfl) h1 (upd_same _ _ _) (fun j hj => .inr (upd_ne _ _ hj))
          (fun k hk => ⟨fun j bj hj hbj => by rw [upd_ne _ _ hj] at hbj; exact (hS k (s1 k hk)).1 j bj hbj, (hS k (s1 k hk)).2⟩)
        obtain ⟨σ', Sg', cg', es, g1, g2, g3, g4, g5⟩ := ih x.2 (key + 1) _ _ _ _ r vs' S2 i1 hk h3 (fun k hk => ⟨fun j bj hbj hs => by
            by_cases hj : j = key
            · rw [if_pos hj] at hs; exact d k hs hk
            · rw [if_neg hj] at hs
              rcases upd_some hbj with ⟨e, _⟩ | ⟨_, e⟩
              · exact hj e
              · exact (hS k (s2 k hk)).1 j bj e hs, (hS k (s2 k hk)).2⟩)
        have hkey := g5 key (by simp)
        refine ⟨σ', Sg', cg', _, g1, g2, ⟨v, vs', rfl, ?_, g3⟩, g4, fun j hj => ?_⟩
        · have hl : σ'.L key = some ⟨0, p.1, p.2, x.1⟩ := by rw [hkey.2.1]; exact upd_same _ _ _
          exact root_ok g2 hl (by rw [hkey.2.2]; simpa using h2)
        · have hne : j ≠ key := fun e => by rw [e, hU] at hj; cases hj
          obtain ⟨e1, e2, e3⟩ := g5 j (by simp [hj])
          exact ⟨e1, by rw [e2]; exact upd_ne _ _ hne, by rw [e3]; simp [hne]⟩
      · rw [hU] at hk; cases hk
    · rw [hm] at hk
      simp only [cond_true] at hk
      obtain ⟨σ', Sg', cg', es, g1, g2, g3, g4, g5⟩ := ih x.2 (key + 1) σ Sg cg _ r vs' S2 h hk h3 (fun k hk => hS k (s2 k hk))
      exact ⟨σ', Sg', cg', _, g1, g2, ⟨v, vs', rfl, ⟨cs, rep_noOwn _ _ hm _ _ _ _ h1, h2⟩, g3⟩, g4, g5⟩

theorem entOf_ok {L : Nat → Option Lab} {U : Nat → Bool} {es : List Ent0} {ws : List Value} (g3 : EntsOk F w L U cg es ws) : EntOkT F w L U cg (entOf es) (retV ws) := by
  cases es with
  | nil => cases g3; exact ⟨[], rfl, rfl⟩
  | cons e1 es1 =>
    obtain ⟨v1, r1, rfl, h1, h2⟩ := g3
    cases es1 with
    | nil => cases h2; exact h1
    | cons e2 es2 =>
      obtain ⟨v2, r2, rfl, h3, h4⟩ := h2
      exact ⟨v1 :: v2 :: r2, rfl, v1, v2 :: r2, rfl, h1, v2, r2, rfl, h3, h4⟩

/-- Only one slot's entry is another (if any). -/
def EFo (σ σ' : St) (dst : Option Nat) : Prop := ∀ j, dst ≠ some j → σ'.E j = σ.E j

theorem callK_ok (h : InvG B F Sg cg σ a w) {R : Type} {f : FuncId} {c : Callee} (hf : FnOk P f c) {es : List Ent0} {vs : List Value} (he : EntsOk F w σ.L σ.U cg es vs) {dst : Option Nat} (hN : ∀ d, dst = some d → d < B.N) {K : St → Option R} {r : R} (hk : callK σ dst c es K = some r) :
    Calls P f vs.toArray w fun
      | .returned v, w' => ∃ σ' F' Sg' cg', K σ' = some r ∧ InvG B F' Sg' cg' σ' (a.put dst v) w' ∧ EFo σ σ' dst
      | _, _ => False := by
  unfold callK at hk
  obtain ⟨x, L', bs, S, hk, hargs, hL', hS, hbs⟩ := argsK_ok h c.ps es vs σ.L _ r hk he (fun _ => .inr rfl)
  cases hb : ((closedL c.rs && closedL c.ms) || bs.isEmpty) && bs.all fun l => (L' l).isSome
  · rw [hb] at hk; cases hk
  rw [hb] at hk
  simp only [cond_true] at hk
  simp only [Bool.and_eq_true, List.all_eq_true] at hb
  obtain ⟨hcl, hall⟩ := hb
  unfold callB at hk
  cases hden : c.den x with
  | none => rw [hden] at hk; cases hk
  | some o =>
  rw [hden] at hk
  simp only at hk
  cases hmu : mutsK σ es c.mi c.ms o.2 L' with
  | none => rw [hmu] at hk; cases hk
  | some L2 =>
  rw [hmu] at hk
  simp only at hk
  have hLσ : ∀ l b, L' l = some b → σ.L l = some b := fun l b hl => by
    rcases hL' l with e | e
    · rw [e] at hl; cases hl
    · rw [← e]; exact hl
  have hSl : ∀ l b, L' l = some b → Dis (Sg l) S := fun l b hl k h1 h2 => by
    obtain ⟨l2, b2, e1, _, e3, e4⟩ := hS k h2
    by_cases e : l2 = l
    · subst e; rw [e3] at hl; cases hl
    · exact h.dis l2 l b2 b e e1 (hLσ l b hl) k e4 h1
  have hSF : Dis S F := fun k h1 hf => by obtain ⟨l2, b2, e1, _, _, e4⟩ := hS k h1; exact h.disF l2 b2 e1 k e4 hf
  have hSlt : ∀ k, S k → k < w.heap.size := fun k h1 => by obtain ⟨l2, b2, e1, _, _, e4⟩ := hS k h1; exact h.lt l2 b2 e1 k e4
  have hSmay : ∀ k, S k → k < B.w0.heap.size → B.S0 k := fun k h1 => by obtain ⟨l2, b2, e1, _, _, e4⟩ := hS k h1; exact h.may l2 b2 e1 k e4
  have hbd : ∀ l ∈ bs, ∃ b, L' l = some b := fun l hl => Option.isSome_iff_exists.1 (hall l hl)
  refine (hf x o hden (fun k => F k ∨ ∃ l ∈ bs, Sg l k) w S vs (hargs _ (fun k h => .inl h) (fun l hl k hk => .inr ⟨l, hl, hk⟩)) ?_ ?_ hSlt (B.gh.step (fun k h1 => .inl (h.f0 k h1)) (fun p hp => h.fr.block p (B.ghl p hp) (B.ghs p hp)))).mono ?_
  · rintro k h1 (h2 | ⟨l, hl, h2⟩)
    · exact hSF k h1 h2
    · obtain ⟨b, hb⟩ := hbd l hl
      exact hSl l b hb k h2 h1
  · rintro k (h2 | ⟨l, hl, h2⟩)
    · exact h.fl k h2
    · obtain ⟨b, hb⟩ := hbd l hl
      exact h.lt l b (hLσ l b hb) k h2
  intro e w' hp
  cases e with
  | panicked _ => exact hp
  | outgrown => exact hp
  | returned v =>
  obtain ⟨ws, F', Sr, Sm, hrv, ha1, ha2, hd, fr, hFF, hF1, hF2, hR⟩ := hp
  have hF2' : ∀ k, (F' k ∧ ¬ ∃ l ∈ bs, Sg l k) → k < w.heap.size → ¬ S k → F k := fun k hk hlt hns => by
    rcases hF2 k hk.1 hlt hns with e | e
    · exact e
    · exact absurd e hk.2
  have conv : Args (fun k => F' k ∧ ¬ ∃ l ∈ bs, Sg l k) w' c.rs o.1 ws Sr ∧ Args (fun k => F' k ∧ ¬ ∃ l ∈ bs, Sg l k) w' c.ms o.2 (c.mi.map fun i => vs.getD i undef) Sm := by
    simp only [Bool.or_eq_true, Bool.and_eq_true, List.isEmpty_iff] at hcl
    rcases hcl with hcl | rfl
    · exact ⟨ha1.closed hcl.1, ha2.closed hcl.2⟩
    · have : (fun k => F' k ∧ ¬ ∃ l ∈ ([] : List Nat), Sg l k) = F' := by funext k; simp
      rw [this]; exact ⟨ha1, ha2⟩
  obtain ⟨ha1, ha2⟩ := conv
  obtain ⟨Sg2, hSg2⟩ := mutsK_ok he c.mi c.ms o.2 L' L2 Sm hmu ha2
  have hcase : ∀ l b', L2 l = some b' → (L' l = some b' ∧ σ.L l = some b' ∧ Sg2 l = BSet.none) ∨ (L' l = none ∧ ∃ b, σ.L l = some b ∧ b.v < b'.v ∧ b'.t = b.t ∧ Rep (fun k => F' k ∧ ¬ ∃ l ∈ bs, Sg l k) w' b'.t b'.m b'.x (cg l) (Sg2 l) ∧ Sub (Sg2 l) Sm ∧ ∀ l', l' ≠ l → Dis (Sg2 l) (Sg2 l')) := fun l b' hl => by
    rcases hSg2 l with ⟨e1, e2⟩ | ⟨e1, b, b'', f1, f2, f3, f4, f5, f6, f7⟩
    · rw [e1] at hl; exact .inl ⟨hl, hLσ l b' hl, e2⟩
    · rw [f2] at hl; injection hl with hl; subst hl; exact .inr ⟨e1, b, f1, f3, f4, f5, f6, f7⟩
  let Sg3 : Nat → BSet := fun l => match L' l with | some _ => Sg l | none => Sg2 l
  have sg_old : ∀ l b, L' l = some b → Sg3 l = Sg l := fun l b hl => by simp only [Sg3, hl]
  have sg_new : ∀ l, L' l = none → Sg3 l = Sg2 l := fun l hl => by simp only [Sg3, hl]
  have hSm : ∀ k, Sm k → k < w.heap.size → S k := fun k hk hlt => (hR k (.inr hk)).2.2 hlt
  have i1 : InvG B (fun k => F' k ∧ ¬ ∃ l ∈ bs, Sg l k) Sg3 cg { σ with L := L2 } a w' := by
    refine h.step fr hSmay hSF ?_ ?_ ?_ ?_ ?_ ?_ ?_ ?_
    · intro l b' hl
      rcases hcase l b' hl with ⟨e1, e2, e3⟩ | ⟨e1, b, f1, f2, f3, f4, f5, f6⟩
      · exact .inl ⟨e2, sg_old l b' e1, hSl l b' e1⟩
      · exact .inr ⟨b, f1, f2, f3, by rw [sg_new l e1]; exact f4⟩
    · intro l l' b b' hne hl hl'
      rcases hcase l b hl with ⟨e1, e2, e3⟩ | ⟨e1, b0, f1, f2, f3, f4, f5, f6⟩ <;> rcases hcase l' b' hl' with ⟨g1, g2, g3⟩ | ⟨g1, b1, q1, q2, q3, q4, q5, q6⟩
      · rw [sg_old l b e1, sg_old l' b' g1]; exact h.dis l l' b b' hne e2 g2
      · rw [sg_old l b e1, sg_new l' g1]
        intro k h1 h2
        exact hSl l b e1 k h1 (hSm k (q5 k h2) (h.lt l b e2 k h1))
      · rw [sg_new l e1, sg_old l' b' g1]
        intro k h1 h2
        exact hSl l' b' g1 k h2 (hSm k (f5 k h1) (h.lt l' b' g2 k h2))
      · rw [sg_new l e1, sg_new l' g1]; exact f6 l' (Ne.symm hne)
    · intro l b hl
      rcases hcase l b hl with ⟨e1, e2, e3⟩ | ⟨e1, b0, f1, f2, f3, f4, f5, f6⟩
      · rw [sg_old l b e1]
        intro k h1 h2
        exact h.disF l b e2 k h1 (hF2' k h2 (h.lt l b e2 k h1) (fun hs => hSl l b e1 k h1 hs))
      · rw [sg_new l e1]
        intro k h1 h2
        exact (hR k (.inr (f5 k h1))).2.1 h2.1
    · intro l b hl k hk
      rcases hcase l b hl with ⟨e1, e2, e3⟩ | ⟨e1, b0, f1, f2, f3, f4, f5, f6⟩
      · rw [sg_old l b e1] at hk; exact Nat.lt_of_lt_of_le (h.lt l b e2 k hk) fr.size
      · rw [sg_new l e1] at hk; exact (hR k (.inr (f5 k hk))).1
    · intro l b hl k hk hlt
      rcases hcase l b hl with ⟨e1, e2, e3⟩ | ⟨e1, b0, f1, f2, f3, f4, f5, f6⟩
      · rw [sg_old l b e1] at hk; exact h.may l b e2 k hk hlt
      · rw [sg_new l e1] at hk; exact hSmay k (hSm k (f5 k hk) (Nat.lt_of_lt_of_le hlt h.fr.size)) hlt
    · intro k hk
      refine ⟨hFF k (.inl hk), ?_⟩
      rintro ⟨l, hl, h2⟩
      obtain ⟨b, hb⟩ := hbd l hl
      exact h.disF l b (hLσ l b hb) k h2 hk
    · intro k hk; exact hF1 k hk.1
    · intro k hk hlt hns
      have hlt' := Nat.lt_of_lt_of_le hlt h.fr.size
      exact h.fs k (hF2' k hk hlt' (fun hs => hns (hSmay k hs hlt))) hlt hns
  cases dst with
  | none => exact ⟨_, _, _, _, hk, i1, fun _ _ => rfl⟩
  | some d =>
    simp only at hk
    obtain ⟨σ', Sg', cg', es', g1, g2, g3, g4, g5⟩ := resK_ok c.rs o.1 (d * 8 + 2) _ Sg3 cg _ r ws Sr i1 hk ha1 (fun k hk => by
      refine ⟨fun j bj hbj hs => ?_, fun hf => (hR k (.inl hk)).2.1 hf.1, (hR k (.inl hk)).1, fun hlt => hSmay k ((hR k (.inl hk)).2.2 (Nat.lt_of_lt_of_le hlt h.fr.size)) hlt⟩
      rcases hcase j bj hbj with ⟨e1, e2, e3⟩ | ⟨e1, b0, f1, f2, f3, f4, f5, f6⟩
      · rw [sg_old j bj e1] at hs
        exact hSl j bj e1 k hs ((hR k (.inl hk)).2.2 (h.lt j bj e2 k hs))
      · rw [sg_new j e1] at hs
        exact hd k hk (f5 k hs))
    refine ⟨_, _, Sg', cg', g1, g2.putT (hN d rfl) (e := entOf es') ?_, fun j hj => ?_⟩
    · subst hrv
      exact entOf_ok g3
    · have hne : j ≠ d := fun e => hj (by rw [e])
      show upd σ'.E d _ j = σ.E j
      rw [upd_ne _ _ hne, g4]
end
end Go.Proofs.YtgonfcjdhbjkcaaDoor.Rf
/- Layer 42 (built behind 23): a string's bytes in new memory; structs and pointers compared. -/
set_option linter.unusedVariables false
set_option linter.unusedSimpArgs false
namespace Go.Proofs.YtgonfcjdhbjkcaaDoor.Rf
open Go

def toBytes (TT : Tab) (s t : TypeId) : Bool :=
  match TT s with
  | some ds => (match ds.kd with
    | .str => (match TT t with | some dt => (match dt.kd with | .slice _ => true | _ => false) | none => false)
    | _ => false)
  | none => false
/-- A string's bytes in new memory. -/
def xBytes {R : Type} (de : TD) (σ : St) (dst : Nat) (e : Ent0) (K : St → Option R) : Option R :=
  bif σ.U (dst * 8) then none else match de.kd with
  | .int .u8 => (match e with
    | .val .str s => K (σ.mk' σ.L (dst * 8) dst ⟨0, .sl (.int .u8), .own .ro, s⟩)
    | _ => none)
  | _ => none

section
variable {P : Program} {B : Base} {F : BSet} {Sg : Nat → BSet} {cg : Nat → List Value} {σ : St} {a : Act} {w : World}

theorem bytesRow_rep {F : BSet} {w : World} (s : ByteArray) (cap : Nat) : RepL (Rep F w (.int .u8) .ro) (sbytes s) ((bytesRow s cap).toList.take ((sbytes s).length * (Ty.int .u8).width)) BSet.none := by
  have e : (bytesRow s cap).toList.take ((sbytes s).length * (Ty.int .u8).width) = s.data.toList.map fun b => Value.int .u8 b.toNat := by
    simp only [bytesRow, sbytes, Ty.width, Array.toList_append, Array.toList_map, List.length_map, Nat.mul_one]
    rw [List.take_append_of_le_length (by simp)]
    exact List.take_of_length_le (by simp)
  rw [e]
  exact rep_bytes s.data.toList

theorem xBytes_ok (h : InvG B F Sg cg σ a w) {R : Type} {s t te : TypeId} {de : TD} (hs : P.underlying s = some .string) (ht : P.underlying t = some (.slice te)) (hde : TOk P te de) {dst : Nat} (hN : dst < B.N) {e : Ent0} {K : St → Option R} {r : R} (hk : xBytes de σ dst e K = some r) {v : Value} (he : EntOk F w σ.L σ.U cg e v) :
    ∃ σ' z w' Sg' cg', K σ' = some r ∧ (convert s t v).run P w = .ok z w' ∧ InvG B F Sg' cg' σ' (a.put (some dst) z) w' ∧ EF σ σ' dst := by
  unfold xBytes at hk
  cases hU : σ.U (dst * 8)
  case true => rw [hU] at hk; cases hk
  rw [hU] at hk
  simp only [cond_false] at hk
  split at hk
  case h_2 => cases hk
  rename_i hkd
  have hd := hde.desc
  rw [hkd] at hd
  split at hk
  case h_2 => cases hk
  rename_i x
  obtain ⟨u, rfl, rfl, hu⟩ := val_str he
  have hrun := run_bytes_of_string (P := P) w s t te u hs ht hd.1
  have hcap := grownCap_ge w u.size 0 te
  have hcap2 := grownCap_le_maxLen w u.size 0 te hu
  have hw : InvG B F Sg cg σ a w.drew := h.world rfl rfl rfl (Nat.le_refl _) (fun _ _ => rfl)
  have hsz : (bytesRow u (grownCap w u.size 0 te)).size = grownCap w u.size 0 te := by
    simp only [bytesRow, Array.size_append, Array.size_map, Array.size_replicate]
    have : u.data.size = u.size := rfl
    omega
  obtain ⟨Sg', cg', hi⟩ := hw.newRowM (t := .int .u8) (m := .ro) (x := sbytes u) (cs := bytesRow u (grownCap w u.size 0 te)) (e := ⟨te, (bytesRow u (grownCap w u.size 0 te)).size, (bytesRow u (grownCap w u.size 0 te)).size + 1, fun j hj hh => by omega⟩) (cap := grownCap w u.size 0 te) (S0 := BSet.none)
    (bytesRow_rep u _) (by rw [sbytes_length]; exact hcap) hcap2 (by rw [hsz]; simp [Ty.width]) (l := dst * 8) (dst := dst) hU hN σ.L (fun _ _ => .inr rfl) (fun _ h => h.elim) rfl
  rw [sbytes_length] at hi
  exact ⟨_, _, _, Sg', cg', hk, hrun, hi, fun j hj => upd_ne _ _ hj⟩
end

/-! ### Structs compared -/
/-- Fields that are numbers, bools and strings alone. -/
def leafT (TT : Tab) (t : TypeId) (u : Ty) : Bool :=
  match TT t with
  | some d => decide (d.ty = u) && (match d.kd with | .int _ => true | .bool => true | .str => true | _ => false)
  | none => false
def eqLeaf : (u : Ty) → u.T → u.T → Bool
  | .int _, a, b => decide ((a : Int) = b)
  | .bool, a, b => (a : Bool) == b
  | .str, a, b => decide ((a : List Int) = b)
  | _, _, _ => false
/-- Two rows of fields, alike? (A shape that does not fit: none.) -/
def eqFs (TT : Tab) : List (TypeId × Nat) → (u : Ty) → Nat → u.T → u.T → Option Bool
  | [], .unit, _, _, _ => some true
  | [p], u, k, x, y => bif Nat.beq p.2 k && leafT TT p.1 u then some (eqLeaf u x y) else none
  | p :: q :: fs, .pair a b, k, x, y => bif Nat.beq p.2 k && leafT TT p.1 a then (match eqFs TT (q :: fs) b (k + a.width) x.2 y.2 with
    | some r => some (eqLeaf a x.1 y.1 && r)
    | none => none) else none
  | _, _, _, _, _ => none
def xEqS {R : Type} (TT : Tab) (d : TD) (fs : List (TypeId × Nat)) (op : BinOp) (ex ey : Ent0) (K : Ent0 → Option R) : Option R :=
  match d.ty with
  | .st u => asT ex (.st u) fun x => asT ey (.st u) fun y => (match eqFs TT fs u 0 x y with
    | some b => (match op with
      | .eql => K (.val .bool b)
      | .neq => K (.val .bool (!b))
      | _ => none)
    | none => none)
  | _ => none
/-- Two arrays of numbers. -/
def xEqA {R : Type} (TT : Tab) (d : TD) (m : Nat) (e : TypeId) (op : BinOp) (ex ey : Ent0) (K : Ent0 → Option R) : Option R :=
  match d.ty with
  | .arr n (.int k) => bif Nat.beq m n && leafT TT e (.int k) then asT ex (.arr n (.int k)) fun x => asT ey (.arr n (.int k)) fun y => (match op with
      | .eql => K (.val .bool (decide ((x : List Int) = y)))
      | .neq => K (.val .bool (!(decide ((x : List Int) = y))))
      | _ => none) else none
  | _ => none
/-- A pointer and nil. -/
def xEqP {R : Type} (σ : St) (op : BinOp) (ex ey : Ent0) (K : Ent0 → Option R) : Option R :=
  match ey with
  | .cst (.pointer none) =>
    let fin : Bool → Option R := fun b => (match op with
      | .eql => K (.val .bool b)
      | .neq => K (.val .bool (!b))
      | _ => none)
    (match ex with
    | .val (.ptr t) x => fin (x : Option t.T).isNone
    | .val (.box _) _ => fin false
    | .hdr l n π c => hcur σ (.hdr l n π c) fun _ _ _ c => (match c with
      | ⟨.ptr t, x⟩ => fin (x : Option t.T).isNone
      | ⟨.box _, _⟩ => fin false
      | _ => none)
    | .cst (.pointer none) => fin true
    | _ => none)
  | _ => none

structure EqOk (P : Program) (t : TypeId) : Prop where
  held : P.stoodInHeld t = false
  guard : P.eqGuardType P.depth t = false
  names : ((P.fieldsOf t).toList.all fun f => decide (f.name ≠ "_")) = true

section
variable {P : Program} {B : Base} {F : BSet} {Sg : Nat → BSet} {cg : Nat → List Value} {σ : St} {a : Act} {w : World}

theorem leaf_ok {TT : Tab} (hT : TabOk P TT) {t : TypeId} {u : Ty} (h : leafT TT t u = true) {x y : u.T} {cx cy : List Value} {S S' : BSet} (hx : Rep F w u .ro x cx S) (hy : Rep F w u .ro y cy S') :
    ∃ v z, cx = [v] ∧ cy = [z] ∧ (∀ (d : Nat), (Op.equalIn (d + 1) t v z).run P w = .ok (eqLeaf u x y) w) ∧ (isAgg t).run P w = .ok false w := by
  unfold leafT at h
  cases hd : TT t with
  | none => rw [hd] at h; cases h
  | some d =>
    rw [hd] at h
    simp only [Bool.and_eq_true, decide_eq_true_eq] at h
    obtain ⟨rfl, h⟩ := h
    have hdesc := (hT t d hd).desc
    split at h
    · rename_i k hk
      rw [hk] at hdesc
      obtain ⟨hu, ht⟩ := hdesc
      revert x y hx hy
      rw [ht]
      rintro x y ⟨rfl, _⟩ ⟨rfl, _⟩
      exact ⟨_, _, rfl, rfl, fun d => by rw [run_equalIn_int w d t k k x y hu]; rfl, by simp [isAgg, run_underlying hu]⟩
    · rename_i hk
      rw [hk] at hdesc
      obtain ⟨hu, ht⟩ := hdesc
      revert x y hx hy
      rw [ht]
      rintro x y rfl rfl
      exact ⟨_, _, rfl, rfl, fun d => by rw [run_equalIn_bool' w d t x y hu]; rfl, by simp [isAgg, run_underlying hu]⟩
    · rename_i hk
      rw [hk] at hdesc
      obtain ⟨hu, ht⟩ := hdesc
      revert x y hx hy
      rw [ht]
      rintro x y ⟨u1, rfl, rfl, _⟩ ⟨u2, rfl, rfl, _⟩
      refine ⟨_, _, rfl, rfl, fun d => ?_, by simp [isAgg, run_underlying hu]⟩
      rw [run_equalIn_string w d t u1 u2 hu]
      congr 1
      show _ = decide (sbytes u1 = sbytes u2)
      rw [toList_eq, toList_eq, Bool.eq_iff_iff, beq_iff_eq, decide_eq_true_eq, sbytes_inj]
      constructor
      · intro e; cases u1; cases u2; simp only at e; rw [Array.ext' e]
      · rintro rfl; rfl
    · cases h

theorem part_ok {t : TypeId} {cs : List Value} {k : Nat} {v : Value} (h : (isAgg t).run P w = .ok false w) (hv : cs[k]? = some v) : (part t cs.toArray k).run P w = .ok v w := by
  unfold part
  simp only [Sem.run_bind, h, Result.andThen_ok, Bool.false_eq_true, if_false]
  simp [hv, Sem.run_pure]

theorem eqFs_ok {TT : Tab} (hT : TabOk P TT) {cx cy : List Value} (dp : Nat) : ∀ (fs : List (TypeId × Nat)) (fields : List Field) (u : Ty) (k : Nat) (x y : u.T) (b : Bool) (S S' : BSet), fields.map (fun f => (f.type, f.offset)) = fs → (∀ f ∈ fields, f.name ≠ "_") → eqFs TT fs u k x y = some b →
    Rep F w u .ro x (cx.drop k) S → Rep F w u .ro y (cy.drop k) S' → (Op.eqFields (dp + 1) cx.toArray cy.toArray fields).run P w = .ok b w := by
  intro fs
  induction fs with
  | nil =>
    intro fields u k x y b S S' hf hn h hx hy
    have : fields = [] := by simpa using hf
    subst this
    cases u <;> simp only [eqFs, reduceCtorEq, Option.some.injEq] at h
    rw [← h]
    simp only [Op.eqFields, Sem.run_pure]
  | cons p fs ih =>
    intro fields u k x y b S S' hf hn h hx hy
    cases fields with
    | nil => simp at hf
    | cons f fields =>
    simp only [List.map_cons, List.cons.injEq] at hf
    obtain ⟨hp, hf⟩ := hf
    have hname := hn f (by simp)
    cases fs with
    | nil =>
      have : fields = [] := by simpa using hf
      subst this
      simp only [eqFs] at h
      cases hb : Nat.beq p.2 k && leafT TT p.1 u
      · rw [hb] at h; cases h
      rw [hb] at h
      simp only [cond_true, Option.some.injEq] at h
      simp only [Bool.and_eq_true] at hb
      obtain ⟨v, z, e1, e2, e3, e4⟩ := leaf_ok hT hb.2 hx hy
      have hk := Nat.eq_of_beq_eq_true hb.1
      rw [← hp] at hk e3 e4
      simp only at hk e3 e4
      have g1 : cx[f.offset]? = some v := by rw [hk]; have := congrArg (·[0]?) e1; simpa using this
      have g2 : cy[f.offset]? = some z := by rw [hk]; have := congrArg (·[0]?) e2; simpa using this
      simp only [Op.eqFields, if_pos hname, Sem.run_bind, part_ok e4 g1, part_ok e4 g2, e3, Result.andThen_ok]
      rw [← h]
      cases eqLeaf u x y <;> simp [Sem.run_pure]
    | cons q fs =>
      cases u <;> simp only [eqFs, reduceCtorEq] at h
      · rename_i a b'
        cases hb : Nat.beq p.2 k && leafT TT p.1 a
        · rw [hb] at h; cases h
        rw [hb] at h
        simp only [cond_true] at h
        simp only [Bool.and_eq_true] at hb
        cases hr : eqFs TT (q :: fs) b' (k + a.width) x.2 y.2 with
        | none => rw [hr] at h; cases h
        | some r =>
        rw [hr] at h
        simp only [Option.some.injEq] at h
        obtain ⟨c1, c2, S1, S2, ex, hx1, hx2, _⟩ := hx
        obtain ⟨d1, d2, T1, T2, ey, hy1, hy2, _⟩ := hy
        obtain ⟨v, z, e1, e2, e3, e4⟩ := leaf_ok hT hb.2 hx1 hy1
        have hk := Nat.eq_of_beq_eq_true hb.1
        have w1 := rep_width _ _ _ _ _ _ _ hx1
        have w2 := rep_width _ _ _ _ _ _ _ hy1
        rw [← hp] at hk e3 e4
        simp only at hk e3 e4
        have g1 : cx[f.offset]? = some v := by rw [hk]; have := congrArg (·[0]?) ex; simpa [e1] using this
        have g2 : cy[f.offset]? = some z := by rw [hk]; have := congrArg (·[0]?) ey; simpa [e2] using this
        have r1 : cx.drop (k + a.width) = c2 := by rw [← List.drop_drop, ex, ← w1, List.drop_left]
        have r2 : cy.drop (k + a.width) = d2 := by rw [← List.drop_drop, ey, ← w2, List.drop_left]
        have := ih fields b' (k + a.width) x.2 y.2 r S2 T2 hf (fun f hf => hn f (by simp [hf])) hr (by rw [r1]; exact hx2) (by rw [r2]; exact hy2)
        simp only [Op.eqFields, if_pos hname, Sem.run_bind, part_ok e4 g1, part_ok e4 g2, e3, Result.andThen_ok]
        rw [← h]
        cases eqLeaf a x.1 y.1
        · simp [Sem.run_pure]
        · simpa using this

theorem xEqS_ok {R : Type} {TT : Tab} (hT : TabOk P TT) {t : TypeId} {d : TD} (hd : TT t = some d) (hq : EqOk P t) {fs : List (TypeId × Nat)} (hk : d.kd = .struct fs) {op : BinOp} {x y : Ent0} {ox oy : Operand} {K : Ent0 → Option R} {r : R} (h : xEqS TT d fs op x y K = some r) {u v : Value} (hx : EntOk F w σ.L σ.U cg x u) (hy : EntOk F w σ.L σ.U cg y v) :
    ∃ e z, K e = some r ∧ (do eqGuard op t ox oy u v; binOp op t u v : Sem Value).run P w = .ok z w ∧ EntOk F w σ.L σ.U cg e z := by
  unfold xEqS at h
  split at h
  case h_2 => cases h
  rename_i ut hty
  obtain ⟨a, ca, h, ra, va⟩ := asT_ok h hx
  obtain ⟨b, cb, h, rb, vb⟩ := asT_ok h hy
  cases he : eqFs TT fs ut 0 a b with
  | none => rw [he] at h; cases h
  | some q =>
  rw [he] at h
  simp only at h
  have hdesc := (hT t d hd).desc
  rw [hk] at hdesc
  obtain ⟨f, hf1, hf2⟩ := hdesc
  have hfo : P.fieldsOf t = f := by simp [Program.fieldsOf, hf1]
  have hva : u = .agg ca.toArray := by simpa [VR, Ty.agg] using va
  have hvb : v = .agg cb.toArray := by simpa [VR, Ty.agg] using vb
  subst hva; subst hvb
  have hfs := eqFs_ok (P := P) (w := w) hT (cx := ca) (cy := cb) 9998 fs (P.fieldsOf t).toList ut 0 a b q BSet.none BSet.none (by rw [hfo]; exact hf2) (fun f hf => of_decide_eq_true (List.all_eq_true.1 hq.names f hf)) he ra rb
  have hu : P.underlying t = some (.struct (P.fieldsOf t)) := by rw [hfo]; exact hf1
  have heq : (Op.equalIn 10000 t (.agg ca.toArray) (.agg cb.toArray)).run P w = .ok q w := by
    rw [run_equalIn_struct w 9999 t _ _ hu hq.held]; exact hfs
  have hg := run_eqGuard_agg (P := P) w op t ox oy ca.toArray cb.toArray hq.guard
  split at h
  · refine ⟨_, _, h, ?_, mk_bool⟩
    simp only [Sem.run_bind, hg, Result.andThen_ok, run_eql_struct, heq]
  · refine ⟨_, _, h, ?_, mk_bool⟩
    simp only [Sem.run_bind, hg, Result.andThen_ok, run_neq_struct, heq]
  · cases h

theorem repL_intsR {k : IntKind} {m : Md} : ∀ {x : List Int} {cs : List Value} {S : BSet}, RepL (Rep F w (.int k) m) x cs S → cs = x.map (Value.int k) := by
  intro x
  induction x with
  | nil => intro cs S h; exact h
  | cons y ys ih =>
    rintro cs S ⟨c1, c2, S1, S2, rfl, ⟨rfl, _⟩, h2, _⟩
    rw [ih h2]; rfl
theorem eqItems_ok {e : TypeId} {k : IntKind} (hu : P.underlying e = some (.int k)) (dp : Nat) : ∀ (m j : Nat) (x y : List Int), x.length = j + m → y.length = j + m →
    (Op.eqItems (dp + 1) e 1 (x.map (Value.int k)).toArray (y.map (Value.int k)).toArray (List.range' j m)).run P w = .ok (decide (x.drop j = y.drop j)) w := by
  intro m
  induction m with
  | zero =>
    intro j x y hx hy
    rw [List.drop_eq_nil_of_le (by omega), List.drop_eq_nil_of_le (by omega)]
    simp [Op.eqItems, Sem.run_pure]
  | succ m ih =>
    intro j x y hx hy
    have hj : j < x.length := by omega
    have hj' : j < y.length := by omega
    have ha : (isAgg e).run P w = .ok false w := by simp [isAgg, run_underlying hu]
    have g1 : (x.map (Value.int k))[j * 1]? = some (.int k x[j]) := by simp [List.getElem?_eq_getElem hj]
    have g2 : (y.map (Value.int k))[j * 1]? = some (.int k y[j]) := by simp [List.getElem?_eq_getElem hj']
    rw [List.range'_succ, List.drop_eq_getElem_cons hj, List.drop_eq_getElem_cons hj']
    simp only [Op.eqItems, Sem.run_bind, part_ok ha g1, part_ok ha g2, Result.andThen_ok, run_equalIn_int w dp e k k x[j] y[j] hu]
    have := ih (j + 1) x y (by omega) (by omega)
    generalize x[j] = p
    generalize y[j] = q
    generalize x.drop (j + 1) = xs at this ⊢
    generalize y.drop (j + 1) = ys at this ⊢
    by_cases he : p = q
    · simp [he, this]
    · simp [he, Sem.run_pure]
theorem xEqA_ok {R : Type} {TT : Tab} (hT : TabOk P TT) {t : TypeId} {d : TD} (hd : TT t = some d) (hq : EqOk P t) {n : Nat} {e : TypeId} (hk : d.kd = .array n e) {op : BinOp} {x y : Ent0} {ox oy : Operand} {K : Ent0 → Option R} {r : R} (h : xEqA TT d n e op x y K = some r) {u v : Value} (hx : EntOk F w σ.L σ.U cg x u) (hy : EntOk F w σ.L σ.U cg y v) :
    ∃ e z, K e = some r ∧ (do eqGuard op t ox oy u v; binOp op t u v : Sem Value).run P w = .ok z w ∧ EntOk F w σ.L σ.U cg e z := by
  unfold xEqA at h
  split at h
  case h_2 => cases h
  rename_i n' k hty
  cases hl0 : Nat.beq n n' && leafT TT e (.int k)
  · rw [hl0] at h; cases h
  rw [hl0] at h
  simp only [cond_true] at h
  simp only [Bool.and_eq_true] at hl0
  obtain ⟨hn, hl⟩ := hl0
  have hn := Nat.eq_of_beq_eq_true hn
  obtain ⟨a, ca, h, ra, va⟩ := asT_ok h hx
  obtain ⟨b, cb, h, rb, vb⟩ := asT_ok h hy
  have hdesc := (hT t d hd).desc
  rw [hk] at hdesc
  have hdesc : P.underlying t = some (.array n e) := hdesc
  unfold leafT at hl
  cases hde : TT e with
  | none => rw [hde] at hl; cases hl
  | some de =>
  rw [hde] at hl
  simp only [Bool.and_eq_true, decide_eq_true_eq] at hl
  obtain ⟨hl1, hl2⟩ := hl
  have hdd := (hT e de hde).desc
  obtain ⟨i, z, hi, hi1, _⟩ := (hT e de hde).info
  have hue : P.underlying e = some (.int k) := by
    split at hl2
    · rename_i k' hk'
      rw [hk'] at hdd
      obtain ⟨h1, h2⟩ := hdd
      rw [hl1] at h2
      injection h2 with h2
      rw [h2]; exact h1
    · rename_i hk'
      rw [hk'] at hdd
      obtain ⟨h1, h2⟩ := hdd
      rw [hl1] at h2; cases h2
    · rename_i hk'
      rw [hk'] at hdd
      obtain ⟨h1, h2⟩ := hdd
      rw [hl1] at h2; cases h2
    · cases hl2
  have hc : P.cellsOf e = 1 := by
    have : i.size = 1 := by rw [hi1, hl1]; rfl
    simp [Program.cellsOf, hi, this]
  obtain ⟨la, ra⟩ := ra
  obtain ⟨lb, rb⟩ := rb
  have ea := repL_intsR ra
  have eb := repL_intsR rb
  subst ea; subst eb
  have hva : u = .agg (List.map (Value.int k) a).toArray := by simpa [VR, Ty.agg] using va
  have hvb : v = .agg (List.map (Value.int k) b).toArray := by simpa [VR, Ty.agg] using vb
  subst hva; subst hvb
  have heq : (Op.equalIn 10000 t (.agg (List.map (Value.int k) a).toArray) (.agg (List.map (Value.int k) b).toArray)).run P w = .ok (decide (a = b)) w := by
    rw [run_equalIn_array w 9999 _ _ hdesc hi, hc, List.range_eq_range']
    have := eqItems_ok (P := P) (w := w) hue 9998 n 0 a b (by rw [la, hn]; omega) (by rw [lb, hn]; omega)
    simpa using this
  have hg := run_eqGuard_agg (P := P) w op t ox oy (List.map (Value.int k) a).toArray (List.map (Value.int k) b).toArray hq.guard
  split at h
  · refine ⟨_, _, h, ?_, mk_bool⟩
    simp only [Sem.run_bind, hg, Result.andThen_ok, run_eql_struct, heq]
  · refine ⟨_, _, h, ?_, mk_bool⟩
    simp only [Sem.run_bind, hg, Result.andThen_ok, run_neq_struct, heq]
  · cases h

theorem ptr_eq {t : TypeId} {e : TypeId} (hu : P.underlying t = some (.pointer e)) {p : Option Addr} {b : Bool} (hb : p.isNone = b) {R : Type} {op : BinOp} {ox oy : Operand} {K : Ent0 → Option R} {r : R} (h : (match op with | .eql => K (.val .bool b) | .neq => K (.val .bool (!b)) | _ => none) = some r) :
    ∃ e z, K e = some r ∧ (do eqGuard op t ox oy (.pointer p) (.pointer none); binOp op t (.pointer p) (.pointer none) : Sem Value).run P w = .ok z w ∧ EntOk F w σ.L σ.U cg e z := by
  have hu' : P.underlying t = some (.pointer (P.pointee t)) := by simp [Program.pointee, hu]
  have hg : (eqGuard op t ox oy (.pointer p) (.pointer none)).run P w = .ok () w := by cases op <;> simp [eqGuard]
  split at h
  · refine ⟨_, _, h, ?_, mk_bool⟩
    simp only [Sem.run_bind, hg, Result.andThen_ok, run_eql_pointer_nil w t p hu', hb]
  · refine ⟨_, _, h, ?_, mk_bool⟩
    simp only [Sem.run_bind, hg, Result.andThen_ok, run_neq_pointer_nil w t p hu', hb]
  · cases h

theorem ptr_cells {t : Ty} {x : Option t.T} {m : Md} {cs : List Value} {S : BSet} {v : Value} (h : Rep F w (.ptr t) m x cs S) (hv : VR (.ptr t) cs v) : ∃ p, v = .pointer p ∧ p.isNone = x.isNone := by
  simp [VR, Ty.agg] at hv
  cases x with
  | none => simp only [Rep] at h; rw [h] at hv; simp at hv; exact ⟨none, hv.1.symm, rfl⟩
  | some x =>
    cases m with
    | own m => obtain ⟨b, c, e, h1, _⟩ := h; rw [h1] at hv; simp at hv; exact ⟨_, hv.1.symm, rfl⟩
    | ro => obtain ⟨b, h1, _⟩ := h; rw [h1] at hv; simp at hv; exact ⟨_, hv.1.symm, rfl⟩
    | pr _ _ => obtain ⟨b, h1, _⟩ := h; rw [h1] at hv; simp at hv; exact ⟨_, hv.1.symm, rfl⟩
theorem box_cells {t : Ty} {x : t.T} {m : Md} {cs : List Value} {S : BSet} {v : Value} (h : Rep F w (.box t) m x cs S) (hv : VR (.box t) cs v) : ∃ p, v = .pointer p ∧ p.isNone = false := by
  simp [VR, Ty.agg] at hv
  cases m with
  | own m => obtain ⟨b, c, e, h1, _⟩ := h; rw [h1] at hv; simp at hv; exact ⟨_, hv.1.symm, rfl⟩
  | ro => obtain ⟨b, h1, _⟩ := h; rw [h1] at hv; simp at hv; exact ⟨_, hv.1.symm, rfl⟩
  | pr _ _ => obtain ⟨b, h1, _⟩ := h; rw [h1] at hv; simp at hv; exact ⟨_, hv.1.symm, rfl⟩

theorem xEqP_ok (hI : InvG B F Sg cg σ a w) {R : Type} {t e : TypeId} (hu : P.underlying t = some (.pointer e)) {op : BinOp} {x y : Ent0} {ox oy : Operand} {K : Ent0 → Option R} {r : R} (h : xEqP σ op x y K = some r) {u v : Value} (hx : EntOk F w σ.L σ.U cg x u) (hy : EntOk F w σ.L σ.U cg y v) :
    ∃ e z, K e = some r ∧ (do eqGuard op t ox oy u v; binOp op t u v : Sem Value).run P w = .ok z w ∧ EntOk F w σ.L σ.U cg e z := by
  unfold xEqP at h
  split at h
  case h_2 => cases h
  have hv : v = .pointer none := hy
  subst hv
  simp only at h
  split at h
  · obtain ⟨cs, h1, h2⟩ := hx
    obtain ⟨p, rfl, hp⟩ := ptr_cells h1 h2
    exact ptr_eq hu hp h
  · obtain ⟨cs, h1, h2⟩ := hx
    obtain ⟨p, rfl, hp⟩ := box_cells h1 h2
    exact ptr_eq hu hp h
  · obtain ⟨l, b, π, c, hl, h, hg, ho, ds, s, S', hres, hrep, hsub, hfoc, hv⟩ := hcur_ok hI h hx
    obtain ⟨ct, cx⟩ := c
    simp only at h hrep hv
    split at h
    · rename_i heq
      cases heq
      obtain ⟨p, rfl, hp⟩ := ptr_cells hrep hv
      exact ptr_eq hu hp h
    · rename_i heq
      cases heq
      obtain ⟨p, rfl, hp⟩ := box_cells hrep hv
      exact ptr_eq hu hp h
    · cases h
  · have hu2 : u = .pointer none := hx
    subst hu2
    exact ptr_eq hu rfl h
  · cases h
end

/-- Two values compared, or reckoned with. -/
def xCmp {R : Type} (TT : Tab) (EQ : TypeId → Bool) (σ : St) (t : TypeId) (op : BinOp) (ex ey : Ent0) (K : Ent0 → Option R) : Option R :=
  match TT t with
  | some d => match d.kd with
    | .struct fs => bif EQ t then xEqS TT d fs op ex ey K else none
    | .array n e => bif EQ t then xEqA TT d n e op ex ey K else none
    | .pointer _ => xEqP σ op ex ey K
    | _ => xBin (some d) op ex ey K
  | none => xBin none op ex ey K
theorem xCmp_ok {P : Program} {B : Base} {F : BSet} {Sg : Nat → BSet} {cg : Nat → List Value} {σ : St} {a : Act} {w : World} (hI : InvG B F Sg cg σ a w) {R : Type} {TT : Tab} (hT : TabOk P TT) {EQ : TypeId → Bool} (hE : ∀ t, EQ t = true → EqOk P t) {t : TypeId} {op : BinOp} {x y : Ent0} {ox oy : Operand} {K : Ent0 → Option R} {r : R} (h : xCmp TT EQ σ t op x y K = some r) {u v : Value} (hx : EntOk F w σ.L σ.U cg x u) (hy : EntOk F w σ.L σ.U cg y v) :
    ∃ e z, K e = some r ∧ (do eqGuard op t ox oy u v; binOp op t u v : Sem Value).run P w = .ok z w ∧ EntOk F w σ.L σ.U cg e z := by
  unfold xCmp at h
  split at h
  · rename_i d hd
    split at h
    · rename_i fs hk
      cases he : EQ t
      · rw [he] at h; cases h
      rw [he] at h
      exact xEqS_ok hT hd (hE t he) hk h hx hy
    · rename_i n e hk
      cases he : EQ t
      · rw [he] at h; cases h
      rw [he] at h
      exact xEqA_ok hT hd (hE t he) hk h hx hy
    · rename_i e hk
      have hdesc := (hT t d hd).desc
      rw [hk] at hdesc
      exact xEqP_ok hI hdesc h hx hy
    · exact xBin_ok h (fun d' hd' => by cases hd'; exact hT t d hd) hx hy
  · exact xBin_ok h (fun d' hd' => by cases hd') hx hy
end Go.Proofs.YtgonfcjdhbjkcaaDoor.Rf
/- Layer 24: one operation. -/
set_option linter.unusedVariables false
set_option linter.unusedSimpArgs false
namespace Go.Proofs.YtgonfcjdhbjkcaaDoor.Rf
open Go

structure Env where
  TT : Tab
  CT : FuncId → Option Callee
  /-- Where a struct or an array is built as a label of its own. -/
  own : Nat → Bool
  /-- Which structs are compared field by field. -/
  eq : TypeId → Bool := fun _ => false

def Env.ownO (V : Env) : Option Nat → Bool
  | some d => V.own d
  | none => false
def Plain (P : Program) (f : FuncId) : Prop := ∃ fn, P.funcs[f]? = some fn ∧ (fn.name == "runtime.NumGoroutine") = false ∧ fn.body.isNone = false

structure EnvOk (P : Program) (V : Env) : Prop where
  tab : TabOk P V.TT
  fns : ∀ f c, V.CT f = some c → FnOk P f c ∧ Plain P f
  mix : P.follows .mixedOrders = true
  eqs : ∀ t, V.eq t = true → EqOk P t

def St.setV (σ : St) (dst : Option Nat) (e : Ent0) : St := match dst with | some d => σ.setE d e | none => σ
def St.setU (σ : St) (dst : Option Nat) : St := match dst with | some d => { σ with E := upd σ.E d none } | none => σ

def opdL (σ : St) : List Operand → Option (List Ent0)
  | [] => some []
  | x :: xs => match opd σ x with
    | some e => match opdL σ xs with
      | some es => some (e :: es)
      | none => none
    | none => none

def opdO (σ : St) : Option Operand → Option (Option Ent0)
  | none => some none
  | some x => match opd σ x with
    | some e => some (some e)
    | none => none

def elemK {R : Type} (TT : Tab) (t : TypeId) (K : TD → Option R) : Option R :=
  match TT t with
  | some d => match d.kd with
    | .slice e => match TT e with
      | some de => K de
      | none => none
    | _ => none
  | none => none

/-- A new row that is read alone from the beginning. -/
def St.toVal (σ : St) (d : Nat) : St :=
  match σ.E d with
  | some (.one (.hdr l _ [] _)) => (match σ.L l with
    | some b => { σ with E := upd σ.E d (some (.one (.val b.t b.x))), L := upd σ.L l none }
    | none => σ)
  | _ => σ
def valD (V : Env) (d : Nat) (σ : St) : St := bif V.own d then σ.toVal d else σ

def isJunkPlace (σ : St) (ep : Ent0) : Bool := match plc σ ep fun _ _ _ c => some (isJunk c.t) with | some b => b | none => false

/-- A second operand's type: a string or a row. -/
def seqB (TT : Tab) (t : TypeId) : Option Bool :=
  match TT t with
  | some d => match d.kd with
    | .slice _ => some false
    | .str => some true
    | _ => none
  | none => none

def frzArgs (σ : St) : List (Ty × Md) → List Ent0 → St
  | p :: ps, e :: es => match e with
    | .hdr l _ _ _ => bif decide (p.2 = .ro) then (match σ.L l with | some b => frzArgs (σ.frz l b) ps es | none => frzArgs σ ps es) else frzArgs σ ps es
    | _ => frzArgs σ ps es
  | _, _ => σ

def builtinK {R : Type} (V : Env) (σ : St) (b : Builtin) (ts : List TypeId) (xs : List Operand) (dst : Option Nat) (K : St → Option R) : Option R :=
  match b, ts, xs with
  | .len, [t], [x] => (match opd σ x with | some e => xLen V.TT σ t e fun e' => K (σ.setV dst e') | none => none)
  | .cap, [t], [x] => (match opd σ x with | some e => xCap V.TT σ t e fun e' => K (σ.setV dst e') | none => none)
  | .append, [t, tx], [x, y] => (match dst with
    | some d => elemK V.TT t fun de => (match seqB V.TT tx with
      | some str => (match opd σ x with
        | some e1 => (match opd σ y with
          | some e2 => xAppend de σ str d e1 e2 K
          | none => none)
        | none => none)
      | none => none)
    | none => none)
  | .min, [_, _], [x, y] => (match opd σ x with
    | some e1 => (match opd σ y with
      | some e2 => xMin e1 e2 fun e' => K (σ.setV dst e')
      | none => none)
    | none => none)
  | .max, [_, _], [x, y] => (match opd σ x with
    | some e1 => (match opd σ y with
      | some e2 => xMax e1 e2 fun e' => K (σ.setV dst e')
      | none => none)
    | none => none)
  | _, _, _ => none

/-- A slot that holds many results. -/
def opdT (σ : St) : Operand → Option (List Ent0)
  | .tmp t => match σ.E t with
    | some (.tup es) => some es
    | _ => none
  | _ => none
def St.setT (σ : St) (dst : Option Nat) (es : List Ent0) : St := match dst with | some d => { σ with E := upd σ.E d (some (.tup es)) } | none => σ

def opK {R : Type} (V : Env) (σ : St) (o : Oper) (K : St → Option R) : Option R :=
  match o.op with
  | .move x | .assign x => (match opdT σ x with
    | some es => K (σ.setT o.dst es)
    | none => (match opd σ x with | some e => K (σ.setV o.dst e) | none => none))
  | .pick c x y => (match opd σ c with
    | some (.val .bool t) => (match (t : Bool) with
      | true => (match opd σ x with | some e => K (σ.setV o.dst e) | none => none)
      | false => (match opd σ y with | some e => K (σ.setV o.dst e) | none => none))
    | _ => none)
  | .alloc t => (match o.dst with | some d => (match V.TT t with | some td => xAlloc td σ d K | none => none) | none => none)
  | .box t x => (match o.dst with | some d => (match V.TT t with | some td => (match opd σ x with | some e => xBox td σ d e K | none => none) | none => none) | none => none)
  | .build t ps => (match o.dst with | some d => xBuild V.TT σ t d (V.own d) ps.toList (fun e => K (σ.setV (some d) e)) K | none => none)
  | .buildSlice t len ps => (match o.dst with | some d => elemK V.TT t fun de => xRow de σ d len ps.toList fun σ' => K (valD V d σ') | none => none)
  | .load t x => (match V.TT t with | some td => (match opd σ x with | some e => xLoad td σ e fun e' => K (σ.setV o.dst e') | none => none) | none => none)
  | .store t p x => (match V.TT t with
    | some td => (match opd σ p with
      | some ep => (match opd σ x with
        | some ev => bif isJunkPlace σ ep then xPut td σ ep ev fun σ' => K (σ'.setU o.dst) else xSt td σ ep ev fun σ' => K (σ'.setU o.dst)
        | none => none)
      | none => none)
    | none => none)
  | .nilCheck x => (match opd σ x with | some e => xNil σ e fun e' => K (σ.setV o.dst e') | none => none)
  | .binOp op t x y _ => (match opd σ x with
    | some ex => (match opd σ y with
      | some ey => xCmp V.TT V.eq σ t op ex ey fun e' => K (σ.setV o.dst e')
      | none => none)
    | none => none)
  | .unOp op _ x => (match opd σ x with | some e => xUn op e fun e' => K (σ.setV o.dst e') | none => none)
  | .convert s t x => bif toBytes V.TT s t then (match o.dst with
      | some d => elemK V.TT t fun de => (match opd σ x with
        | some e => xBytes de σ d e K
        | none => none)
      | none => none)
    else (match opd σ x with | some e => xConv V.TT σ s t e fun e' => K (σ.setV o.dst e') | none => none)
  | .makeSlice t l c => (match o.dst with
    | some d => elemK V.TT t fun de => (match opd σ l with
      | some el => (match opd σ c with
        | some ec => xMake de σ d el ec K
        | none => none)
      | none => none)
    | none => none)
  | .slice t x lo hi mx => (match mx with
    | some _ => none
    | none => (match o.dst with
      | some d => (match opd σ x with
        | some ex => (match opdO σ lo with
          | some el => (match opdO σ hi with
            | some eh => xCut V.TT σ t d ex el eh (fun e => K (σ.setV (some d) e)) K
            | none => none)
          | none => none)
        | none => none)
      | none => none))
  | .fieldAddr s x f => (match opd σ x with | some e => xFieldAddr V.TT σ s e f fun e' => K (σ.setV o.dst e') | none => none)
  | .field s x f => (match opd σ x with | some e => xField V.TT σ s e f fun e' => K (σ.setV o.dst e') | none => none)
  | .indexAddr t x i => (match opd σ x with
    | some ex => (match opd σ i with
      | some ei => xIxA V.TT σ t ex ei fun e' => K (σ.setV o.dst e')
      | none => none)
    | none => none)
  | .index t x i => (match opd σ x with
    | some ex => (match opd σ i with
      | some ei => xIndex V.TT t ex ei fun e' => K (σ.setV o.dst e')
      | none => none)
    | none => none)
  | .extract (.tmp t) i => (match σ.E t with
    | some (.tup es) => (match es[i]? with | some e => K (σ.setV o.dst e) | none => none)
    | _ => none)
  | .call c => (match c.callee with
    | .builtin b => builtinK V σ b c.argTypes.toList c.args.toList o.dst K
    | .value (.func f) => (match V.CT f with
      | some ce => (match opdL σ c.args.toList with
        | some es => bif (closedL ce.rs && closedL ce.ms) || V.ownO o.dst then callK σ o.dst ce es K
          else (match opdL (frzArgs σ ce.ps es) c.args.toList with
            | some es' => callK (frzArgs σ ce.ps es) o.dst ce es' K
            | none => none)
        | none => none)
      | none => none)
    | _ => none)
  | _ => none

/-! ### Soundness -/
def hdrish : Option Ent → Bool
  | some (.one (.hdr ..)) => true
  | _ => false
/-- How an entry may change where no one writes: not at all, or it goes, or a name becomes a value. -/
def ER (a b : Option Ent) : Prop := b = a ∨ b = none ∨ (hdrish a = true ∧ hdrish b = false)
theorem ER.refl (a : Option Ent) : ER a a := .inl rfl
theorem ER.trans {a b c : Option Ent} (h : ER a b) (k : ER b c) : ER a c := by
  rcases k with rfl | rfl | ⟨k1, k2⟩
  · exact h
  · exact .inr (.inl rfl)
  · rcases h with rfl | rfl | ⟨_, h2⟩
    · exact .inr (.inr ⟨k1, k2⟩)
    · cases k1
    · rw [h2] at k1; cases k1
def ESo (σ σ' : St) (dst : Option Nat) : Prop := ∀ j, dst ≠ some j → ER (σ.E j) (σ'.E j)

def Nx {R : Type} (B : Base) (σ : St) (dst : Option Nat) (K : St → Option R) (r : R) (a : Act) (w : World) : Prop := ∃ σ', K σ' = some r ∧ Inv B σ' a w ∧ ESo σ σ' dst

section
variable {P : Program} {B : Base} {F : BSet} {Sg : Nat → BSet} {cg : Nat → List Value} {σ : St} {a : Act} {w : World}

theorem InvG.setEnt0 (h : InvG B F Sg cg σ a w) {s : Nat} {e : Ent} (he : EntOkT F w σ.L σ.U cg e (a.tmps.getD s undef)) : InvG B F Sg cg { σ with E := upd σ.E s (some e) } a w :=
  { h with
    ent := fun t e' he' => by
      rcases upd_some he' with ⟨rfl, e1⟩ | ⟨hn, e1⟩
      · injection e1 with e1; subst e1; exact he
      · exact h.ent t e' e1 }
theorem InvG.toVal (h : InvG B F Sg cg σ a w) (d : Nat) : Inv B (σ.toVal d) a w ∧ EF σ (σ.toVal d) d := by
  unfold St.toVal
  split
  · rename_i l n c hE
    cases hl : σ.L l with
    | none => exact ⟨⟨F, Sg, cg, h⟩, fun _ _ => rfl⟩
    | some b =>
      have hv := ((h.ent d _ hE).2 b hl).2.1 rfl
      refine ⟨⟨_, _, _, (h.freeze hl).setEnt0 (s := d) (e := .one (.val b.t b.x)) ⟨cg l, rep_freeze (fun k h => .inl h) _ _ _ _ _ _ (h.lab l b hl) (fun k hk => .inr hk), hv⟩⟩, fun j hj => upd_ne _ _ hj⟩
  · exact ⟨⟨F, Sg, cg, h⟩, fun _ _ => rfl⟩
theorem InvG.valD (h : InvG B F Sg cg σ a w) (V : Env) (d : Nat) : Inv B (Rf.valD V d σ) a w ∧ EF σ (Rf.valD V d σ) d := by
  unfold Rf.valD
  cases V.own d
  · exact ⟨⟨F, Sg, cg, h⟩, fun _ _ => rfl⟩
  · exact h.toVal d
theorem InvG.setV (h : InvG B F Sg cg σ a w) {dst : Option Nat} (hN : ∀ d, dst = some d → d < B.N) {e : Ent0} {v : Value} (he : EntOk F w σ.L σ.U cg e v) : Inv B (σ.setV dst e) (a.put dst v) w := by
  cases dst with
  | none => exact ⟨F, Sg, cg, h⟩
  | some d => exact ⟨F, Sg, cg, h.putT (hN d rfl) (e := .one e) he⟩
theorem InvG.setU (h : InvG B F Sg cg σ a w) {dst : Option Nat} (hN : ∀ d, dst = some d → d < B.N) {v : Value} : Inv B (σ.setU dst) (a.put dst v) w := by
  cases dst with
  | none => exact ⟨F, Sg, cg, h⟩
  | some d => exact ⟨F, Sg, cg, h.putU (hN d rfl)⟩
theorem opdT_ok (h : InvG B F Sg cg σ a w) {x : Operand} {es : List Ent0} (he : opdT σ x = some es) : EntOkT F w σ.L σ.U cg (.tup es) (a.eval x) := by
  unfold opdT at he
  split at he
  · rename_i t
    split at he
    · rename_i es' h'
      injection he with he
      subst he
      exact h.ent t _ h'
    · cases he
  · cases he
theorem InvG.setT (h : InvG B F Sg cg σ a w) {dst : Option Nat} (hN : ∀ d, dst = some d → d < B.N) {es : List Ent0} {v : Value} (he : EntOkT F w σ.L σ.U cg (.tup es) v) : Inv B (σ.setT dst es) (a.put dst v) w := by
  cases dst with
  | none => exact ⟨F, Sg, cg, h⟩
  | some d => exact ⟨F, Sg, cg, h.putT (hN d rfl) he⟩
theorem eso_setT {dst : Option Nat} {es : List Ent0} : ESo σ (σ.setT dst es) dst := by
  intro j hj
  cases dst with
  | none => exact .refl _
  | some d => exact .inl (upd_ne _ _ (fun e => hj (by rw [e])))
theorem eso_setV {dst : Option Nat} {e : Ent0} : ESo σ (σ.setV dst e) dst := by
  intro j hj
  cases dst with
  | none => exact .refl _
  | some d => exact .inl (upd_ne _ _ (fun e => hj (by rw [e])))
theorem eso_setU {σ' : St} {dst : Option Nat} (h : σ'.E = σ.E) : ESo σ (σ'.setU dst) dst := by
  intro j hj
  cases dst with
  | none => exact .inl (congrFun h j)
  | some d => exact .inl ((upd_ne _ _ (fun e => hj (by rw [e]))).trans (congrFun h j))
theorem eso_ef {σ' : St} {d : Nat} (h : EF σ σ' d) : ESo σ σ' (some d) := fun j hj => .inl (h j (fun e => hj (by rw [e])))
theorem eso_efo {σ' : St} {dst : Option Nat} (h : EFo σ σ' dst) : ESo σ σ' dst := fun j hj => .inl (h j hj)

theorem opdL_ok (h : InvG B F Sg cg σ a w) : ∀ {xs : List Operand} {es : List Ent0}, opdL σ xs = some es → EntsOk F w σ.L σ.U cg es (xs.map a.eval) := by
  intro xs
  induction xs with
  | nil => intro es he; simp only [opdL, Option.some.injEq] at he; subst he; rfl
  | cons x xs ih =>
    intro es he
    simp only [opdL] at he
    cases h1 : opd σ x with
    | none => rw [h1] at he; cases he
    | some e =>
    rw [h1] at he
    simp only at he
    cases h2 : opdL σ xs with
    | none => rw [h2] at he; cases he
    | some es' =>
    rw [h2] at he
    simp only [Option.some.injEq] at he
    subst he
    exact ⟨_, _, rfl, opd_ok h h1, ih h2⟩

theorem opdO_ok (h : InvG B F Sg cg σ a w) {x : Option Operand} {e : Option Ent0} (he : opdO σ x = some e) : OptOk F w σ.L σ.U cg e (x.map a.eval) := by
  cases x with
  | none => simp only [opdO, Option.some.injEq] at he; subst he; trivial
  | some x =>
    simp only [opdO] at he
    cases h1 : opd σ x with
    | none => rw [h1] at he; cases he
    | some e =>
    rw [h1] at he
    simp only [Option.some.injEq] at he
    subst he
    exact opd_ok h h1

theorem elemK_ok {R : Type} {TT : Tab} (hT : TabOk P TT) {t : TypeId} {K : TD → Option R} {r : R} (hk : elemK TT t K = some r) : ∃ e de, K de = some r ∧ P.underlying t = some (.slice e) ∧ TOk P e de := by
  unfold elemK at hk
  cases h1 : TT t with
  | none => rw [h1] at hk; cases hk
  | some d =>
  rw [h1] at hk
  simp only at hk
  have hd := (hT t d h1).desc
  split at hk
  · rename_i e hkd
    rw [hkd] at hd
    simp only at hd
    cases h2 : TT e with
    | none => rw [h2] at hk; cases hk
    | some de => rw [h2] at hk; exact ⟨e, de, hk, hd, hT e de h2⟩
  · cases hk

theorem seqB_ok {TT : Tab} (hT : TabOk P TT) {t : TypeId} {str : Bool} (h : seqB TT t = some str) : bif str then P.underlying t = some .string else ∃ e', P.underlying t = some (.slice e') := by
  unfold seqB at h
  cases h1 : TT t with
  | none => rw [h1] at h; cases h
  | some d =>
  rw [h1] at h
  simp only at h
  have hd := (hT t d h1).desc
  split at h
  · rename_i e hkd
    rw [hkd] at hd
    injection h with h; subst h
    exact ⟨e, hd⟩
  · rename_i hkd
    rw [hkd] at hd
    injection h with h; subst h
    exact hd.1
  · cases h

theorem frz_er {l : Nat} {b : Lab} (j : Nat) : ER (σ.E j) ((σ.frz l b).E j) := by
  simp only [St.frz]
  cases hE : σ.E j with
  | none => exact .refl _
  | some e0 =>
    cases e0 with
    | tup es => exact .refl _
    | one e0 =>
      cases e0 with
      | hdr j' n' π' c' =>
        simp only [Option.map_some, Rf.frz, frzE]
        cases Nat.beq j' l
        · exact .refl _
        · cases Nat.beq n' b.v
          · cases π'.isEmpty
            · exact .refl _
            · exact .inr (.inr ⟨rfl, rfl⟩)
          · exact .inr (.inr ⟨rfl, rfl⟩)
      | val t x => exact .refl _
      | cst u => exact .refl _
      | radr t x => exact .refl _
      | adr j' n' π' c' => exact .refl _

theorem frzArgs_ok : ∀ (ps : List (Ty × Md)) (es : List Ent0) {σ : St} {F : BSet}, InvG B F Sg cg σ a w → (∃ F', InvG B F' Sg cg (frzArgs σ ps es) a w) ∧ ∀ j, ER (σ.E j) ((frzArgs σ ps es).E j) := by
  intro ps
  induction ps with
  | nil => intro es σ F h; exact ⟨⟨F, h⟩, fun _ => .refl _⟩
  | cons p ps ih =>
    intro es σ F h
    cases es with
    | nil => exact ⟨⟨F, h⟩, fun _ => .refl _⟩
    | cons e es =>
      cases e with
      | hdr l n π c =>
        simp only [frzArgs]
        cases hd : decide (p.2 = Md.ro)
        · simp only [cond_false]; exact ih es h
        · simp only [cond_true]
          cases hl : σ.L l with
          | none => simp only; exact ih es h
          | some b =>
            simp only
            obtain ⟨h1, h2⟩ := ih es (h.frz hl)
            exact ⟨h1, fun j => ER.trans (frz_er j) (h2 j)⟩
      | val t x => exact ih es h
      | cst u => exact ih es h
      | radr t x => exact ih es h
      | adr j' n' π' c' => exact ih es h

theorem xMin_ok {R : Type} {L : Nat → Option Lab} {U : Nat → Bool} {x y : Ent0} {K : Ent0 → Option R} {r : R} (hk : xMin x y K = some r) {vx vy : Value} (hx : EntOk F w L U cg x vx) (hy : EntOk F w L U cg y vy) {ts : Array TypeId} {ty : TypeId} :
    ∃ e' z, K e' = some r ∧ (Builtin.min_ ts ty #[vx, vy]).run P w = .ok z w ∧ EntOk F w L U cg e' z := by
  have fin : ∀ (k : IntKind) (n m : Int), inK k n → inK k m → (Builtin.min_ ts ty #[Value.int k n, Value.int k m]).run P w = .ok (.int k (if m < n then m else n)) w ∧ EntOk F w L U cg (.val (.int k) (if m < n then m else n)) (.int k (if m < n then m else n)) := by
    intro k n m h1 h2
    refine ⟨by simp [Builtin.min_, Builtin.min2], mk_int ?_⟩
    split
    · exact h2
    · exact h1
  unfold xMin at hk
  split at hk
  · rename_i q0 k n
    obtain ⟨m, cs, hk, hr, hv⟩ := asT_ok hk hy
    obtain ⟨rfl, h1⟩ := val_int hx
    obtain ⟨rfl, h2⟩ := vr_int hr hv
    exact ⟨_, _, hk, fin k n m h1 h2⟩
  · rename_i q1 k m q4
    obtain ⟨n, cs, hk, hr, hv⟩ := asT_ok hk hx
    obtain ⟨rfl, h1⟩ := val_int hy
    obtain ⟨rfl, h2⟩ := vr_int hr hv
    exact ⟨_, _, hk, fin k n m h2 h1⟩
  · cases hk

theorem xMax_ok {R : Type} {L : Nat → Option Lab} {U : Nat → Bool} {x y : Ent0} {K : Ent0 → Option R} {r : R} (hk : xMax x y K = some r) {vx vy : Value} (hx : EntOk F w L U cg x vx) (hy : EntOk F w L U cg y vy) {ts : Array TypeId} {ty : TypeId} :
    ∃ e' z, K e' = some r ∧ (Builtin.max_ ts ty #[vx, vy]).run P w = .ok z w ∧ EntOk F w L U cg e' z := by
  have fin : ∀ (k : IntKind) (n m : Int), inK k n → inK k m → (Builtin.max_ ts ty #[Value.int k n, Value.int k m]).run P w = .ok (.int k (if n < m then m else n)) w ∧ EntOk F w L U cg (.val (.int k) (if n < m then m else n)) (.int k (if n < m then m else n)) := by
    intro k n m h1 h2
    refine ⟨by simp [Builtin.max_, Builtin.max2], mk_int ?_⟩
    split
    · exact h2
    · exact h1
  unfold xMax at hk
  split at hk
  · rename_i q0 k n
    obtain ⟨m, cs, hk, hr, hv⟩ := asT_ok hk hy
    obtain ⟨rfl, h1⟩ := val_int hx
    obtain ⟨rfl, h2⟩ := vr_int hr hv
    exact ⟨_, _, hk, fin k n m h1 h2⟩
  · rename_i q1 k m q4
    obtain ⟨n, cs, hk, hr, hv⟩ := asT_ok hk hx
    obtain ⟨rfl, h1⟩ := val_int hy
    obtain ⟨rfl, h2⟩ := vr_int hr hv
    exact ⟨_, _, hk, fin k n m h2 h1⟩
  · cases hk

theorem wp_val {R : Type} {o : Oper} {K : St → Option R} {r : R} {Q : Exit → Act → World → Prop} {z : Value} {w' : World} (hrun : (execOp a.eval o).run P w = .ok (.value z) w') (h : Nx B σ o.dst K r (a.put o.dst z) w') : o.wp P a w (Nx B σ o.dst K r) Q := by
  unfold Oper.wp
  rw [hrun]
  exact h
theorem wp_unit {R : Type} {o : Oper} {K : St → Option R} {r : R} {Q : Exit → Act → World → Prop} {w' : World} (hrun : (execOp a.eval o).run P w = .ok .skip w') (h : Nx B σ o.dst K r (a.put o.dst undef) w') : o.wp P a w (Nx B σ o.dst K r) Q := by
  unfold Oper.wp
  rw [hrun]
  exact h
end
end Go.Proofs.YtgonfcjdhbjkcaaDoor.Rf
/- Layer 25: one operation: soundness. -/
set_option linter.unusedVariables false
set_option linter.unusedSimpArgs false
namespace Go.Proofs.YtgonfcjdhbjkcaaDoor.Rf
open Go

section
variable {P : Program} {B : Base} {F : BSet} {Sg : Nat → BSet} {cg : Nat → List Value} {σ : St} {a : Act} {w : World}

theorem resolve_func {ρ : Operand → Value} {c : Call} {t : TypeId} {f : FuncId} {x : Operand} (h : c.callee = .value x) (hρ : ρ x = .func (.func f) #[] #[]) : (Go.resolve ρ c t).run P w = .ok { target := .fn (.func f) #[], args := c.args.map ρ } w := by
  simp [Go.resolve, h, hρ, Deferred.ofValue]
theorem resolve_builtin {ρ : Operand → Value} {c : Call} {t : TypeId} {b : Builtin} (h : c.callee = .builtin b) : ∃ cs, (Go.resolve ρ c t).run P w = .ok { target := .builtin b c.argTypes t cs, args := c.args.map ρ } w := by
  simp only [Go.resolve, h, Sem.run_pure]
  exact ⟨_, rfl⟩

theorem callFunc_plain {f : FuncId} {args : Array Value} (h : Plain P f) : (callFunc f args).run P w = .ok (.enter f args) w := by
  obtain ⟨fn, h1, h2, h3⟩ := h
  have h2 : ¬ fn.name = "runtime.NumGoroutine" := by simpa using h2
  have h3 : ¬ fn.body = none := by intro e; simp [e] at h3
  simp [callFunc, h1, h2, h3]

theorem builtinK_ok {R : Type} {V : Env} (hV : EnvOk P V) (h : InvG B F Sg cg σ a w) {o : Oper} {c : Call} {b : Builtin} (ho : o.op = .call c) (hc : c.callee = .builtin b) {K : St → Option R} {r : R} (hN : ∀ d, o.dst = some d → d < B.N) (hk : builtinK V σ b c.argTypes.toList c.args.toList o.dst K = some r) {Q : Exit → Act → World → Prop} :
    o.wp P a w (Nx B σ o.dst K r) Q := by
  have hts : ∀ l, c.argTypes.toList = l → c.argTypes = l.toArray := fun l h => by rw [← h]
  have hxs : ∀ l, c.args.toList = l → c.args = l.toArray := fun l h => by rw [← h]
  obtain ⟨cs, hrb⟩ := resolve_builtin (P := P) (w := w) (ρ := a.eval) (t := o.type) hc
  unfold builtinK at hk
  split at hk
  · rename_i t x h1 h2
    have h1 := hts _ h1
    have h2 := hxs _ h2
    cases ho1 : opd σ x with
    | none => rw [ho1] at hk; cases hk
    | some e =>
    rw [ho1] at hk
    simp only at hk
    obtain ⟨e', z, g1, g2, g3⟩ := xLen_ok h hV.tab (ty := o.type) hk (opd_ok h ho1)
    refine wp_val (z := z) (w' := w) ?_ ⟨_, g1, h.setV hN g3, eso_setV⟩
    simp only [execOp, ho, Sem.run_bind, hrb, Result.andThen_ok, invoke, builtin, h1, h2]
    simp [g2]
  · rename_i t x h1 h2
    have h1 := hts _ h1
    have h2 := hxs _ h2
    cases ho1 : opd σ x with
    | none => rw [ho1] at hk; cases hk
    | some e =>
    rw [ho1] at hk
    simp only at hk
    obtain ⟨e', z, g1, g2, g3⟩ := xCap_ok h hV.tab (ty := o.type) hk (opd_ok h ho1)
    refine wp_val (z := z) (w' := w) ?_ ⟨_, g1, h.setV hN g3, eso_setV⟩
    simp only [execOp, ho, Sem.run_bind, hrb, Result.andThen_ok, invoke, builtin, h1, h2]
    simp [g2]
  · rename_i t tx x y h1 h2
    have h1 := hts _ h1
    have h2 := hxs _ h2
    cases hd : o.dst with
    | none => rw [hd] at hk; cases hk
    | some d =>
    rw [hd] at hk
    simp only at hk
    obtain ⟨e, de, hk, hu, hde⟩ := elemK_ok hV.tab hk
    cases hs : seqB V.TT tx with
    | none => rw [hs] at hk; cases hk
    | some str =>
    rw [hs] at hk
    simp only at hk
    cases ho1 : opd σ x with
    | none => rw [ho1] at hk; cases hk
    | some e1 =>
    rw [ho1] at hk
    simp only at hk
    cases ho2 : opd σ y with
    | none => rw [ho2] at hk; cases hk
    | some e2 =>
    rw [ho2] at hk
    simp only at hk
    obtain ⟨σ', v, w', Sg', cg', g1, g2, g3, g4⟩ := xAppend_ok (ty := o.type) h hde hu (seqB_ok hV.tab hs) (hN d hd) ho1 ho2 hk
    rw [← hd] at g3
    refine hd ▸ wp_val (z := v) (w' := w') ?_ ⟨σ', g1, ⟨F, Sg', cg', g3⟩, by rw [hd]; exact eso_ef g4⟩
    simp only [execOp, ho, Sem.run_bind, hrb, Result.andThen_ok, invoke, builtin, h1, h2]
    simp [g2]
  · rename_i t1 t2 x y h1 h2
    have h2 := hxs _ h2
    cases ho1 : opd σ x with
    | none => rw [ho1] at hk; cases hk
    | some e1 =>
    rw [ho1] at hk
    simp only at hk
    cases ho2 : opd σ y with
    | none => rw [ho2] at hk; cases hk
    | some e2 =>
    rw [ho2] at hk
    simp only at hk
    obtain ⟨e', z, g1, g2, g3⟩ := xMin_ok (P := P) hk (opd_ok h ho1) (opd_ok h ho2) (ts := c.argTypes) (ty := o.type)
    refine wp_val (z := z) (w' := w) ?_ ⟨_, g1, h.setV hN g3, eso_setV⟩
    simp only [execOp, ho, Sem.run_bind, hrb, Result.andThen_ok, invoke, builtin, h2]
    simp [g2]
  · rename_i t1 t2 x y h1 h2
    have h2 := hxs _ h2
    cases ho1 : opd σ x with
    | none => rw [ho1] at hk; cases hk
    | some e1 =>
    rw [ho1] at hk
    simp only at hk
    cases ho2 : opd σ y with
    | none => rw [ho2] at hk; cases hk
    | some e2 =>
    rw [ho2] at hk
    simp only at hk
    obtain ⟨e', z, g1, g2, g3⟩ := xMax_ok (P := P) hk (opd_ok h ho1) (opd_ok h ho2) (ts := c.argTypes) (ty := o.type)
    refine wp_val (z := z) (w' := w) ?_ ⟨_, g1, h.setV hN g3, eso_setV⟩
    simp only [execOp, ho, Sem.run_bind, hrb, Result.andThen_ok, invoke, builtin, h2]
    simp [g2]
  · cases hk

theorem callOp_ok {R : Type} {V : Env} (hV : EnvOk P V) (h : InvG B F Sg cg σ a w) {o : Oper} {c : Call} {f : FuncId} {ce : Callee} (ho : o.op = .call c) {x : Operand} (hc : c.callee = .value x) (hx : a.eval x = .func (.func f) #[] #[]) (hf : V.CT f = some ce) {σ0 : St} (h0 : ∀ j, ER (σ0.E j) (σ.E j)) {es : List Ent0} (hes : opdL σ c.args.toList = some es) {K : St → Option R} {r : R} (hN : ∀ d, o.dst = some d → d < B.N) (hk : callK σ o.dst ce es K = some r) {Q : Exit → Act → World → Prop} :
    o.wp P a w (Nx B σ0 o.dst K r) Q := by
  obtain ⟨hok, hpl⟩ := hV.fns f ce hf
  have hcall := callK_ok h hok (opdL_ok h hes) hN hk
  have hargs : (c.args.toList.map a.eval).toArray = c.args.map a.eval := by rw [← Array.toList_map]
  rw [hargs] at hcall
  unfold Oper.wp
  have hrun : (execOp a.eval o).run P w = .ok (.enter f (c.args.map a.eval)) w := by
    simp only [execOp, ho, Sem.run_bind, resolve_func (ρ := a.eval) hc hx, Result.andThen_ok, invoke]
    rw [Array.append_empty]
    exact callFunc_plain hpl
  rw [hrun, Oper.upon_enter]
  refine hcall.mono fun e w' he => ?_
  cases e with
  | panicked _ => exact he.elim
  | outgrown => exact he.elim
  | returned v =>
    obtain ⟨σ', F', Sg', cg', g1, g2, g3⟩ := he
    exact ⟨σ', g1, ⟨F', Sg', cg', g2⟩, fun j hj => (h0 j).trans (eso_efo g3 j hj)⟩

theorem opK_ok {R : Type} {V : Env} (hV : EnvOk P V) (h : InvG B F Sg cg σ a w) {o : Oper} {K : St → Option R} {r : R} (hN : ∀ d, o.dst = some d → d < B.N) (hk : opK V σ o K = some r) {Q : Exit → Act → World → Prop} :
    o.wp P a w (Nx B σ o.dst K r) Q := by
  unfold opK at hk
  split at hk
  · -- move
    rename_i x ho
    split at hk
    · rename_i es hT
      exact wp_val (by simp only [execOp, ho, Sem.run_pure]) ⟨_, hk, h.setT hN (opdT_ok h hT), eso_setT⟩
    · cases h1 : opd σ x with
      | none => rw [h1] at hk; cases hk
      | some e => rw [h1] at hk; exact wp_val (by simp only [execOp, ho, Sem.run_pure]) ⟨_, hk, h.setV hN (opd_ok h h1), eso_setV⟩
  · -- assign
    rename_i x ho
    split at hk
    · rename_i es hT
      exact wp_val (by simp only [execOp, ho, Sem.run_pure]) ⟨_, hk, h.setT hN (opdT_ok h hT), eso_setT⟩
    · cases h1 : opd σ x with
      | none => rw [h1] at hk; cases hk
      | some e => rw [h1] at hk; exact wp_val (by simp only [execOp, ho, Sem.run_pure]) ⟨_, hk, h.setV hN (opd_ok h h1), eso_setV⟩
  · -- pick
    rename_i c x y ho
    split at hk
    · rename_i t hc
      have hcv := val_bool (opd_ok h hc)
      split at hk
      · cases h1 : opd σ x with
        | none => rw [h1] at hk; cases hk
        | some e => rw [h1] at hk; exact wp_val (z := a.eval x) (w' := w) (by simp [execOp, ho, hcv, asBool]) ⟨_, hk, h.setV hN (opd_ok h h1), eso_setV⟩
      · cases h1 : opd σ y with
        | none => rw [h1] at hk; cases hk
        | some e => rw [h1] at hk; exact wp_val (z := a.eval y) (w' := w) (by simp [execOp, ho, hcv, asBool]) ⟨_, hk, h.setV hN (opd_ok h h1), eso_setV⟩
    · cases hk
  · -- alloc
    rename_i t ho
    cases hd : o.dst with
    | none => rw [hd] at hk; cases hk
    | some d =>
    rw [hd] at hk
    simp only at hk
    cases ht : V.TT t with
    | none => rw [ht] at hk; cases hk
    | some td =>
    rw [ht] at hk
    obtain ⟨σ', v, w', Sg', cg', g1, g2, g3, g4⟩ := xAlloc_ok h (hV.tab t td ht) (hN d hd) hk
    rw [← hd] at g3
    exact hd ▸ wp_val (z := v) (w' := w') (by simp [execOp, ho, g2]) ⟨σ', g1, ⟨F, Sg', cg', g3⟩, by rw [hd]; exact eso_ef g4⟩
  · -- box
    rename_i t x ho
    cases hd : o.dst with
    | none => rw [hd] at hk; cases hk
    | some d =>
    rw [hd] at hk
    simp only at hk
    cases ht : V.TT t with
    | none => rw [ht] at hk; cases hk
    | some td =>
    rw [ht] at hk
    simp only at hk
    cases h1 : opd σ x with
    | none => rw [h1] at hk; cases hk
    | some e =>
    rw [h1] at hk
    obtain ⟨σ', v, w', Sg', cg', g1, g2, g3, g4⟩ := xBox_ok h (hV.tab t td ht) (hN d hd) hk (opd_ok h h1)
    rw [← hd] at g3
    exact hd ▸ wp_val (z := v) (w' := w') (by simp [execOp, ho, g2]) ⟨σ', g1, ⟨F, Sg', cg', g3⟩, by rw [hd]; exact eso_ef g4⟩
  · -- build
    rename_i t ps ho
    cases hd : o.dst with
    | none => rw [hd] at hk; cases hk
    | some d =>
    rw [hd] at hk
    simp only at hk
    obtain ⟨z, g1, g2⟩ := xBuild_ok h hV.tab (hN d hd) hk
    have hrun : (execOp a.eval o).run P w = .ok (.value z) w := by
      have e : (ps.toList.map fun p => (p.1, a.eval p.2)).toArray = ps.map fun p => (p.1, a.eval p.2) := by rw [← Array.toList_map]
      rw [e] at g1
      simp [execOp, ho, g1]
    rcases g2 with ⟨e', g2, g3⟩ | ⟨σ', Sg', cg', g2, g3, g4⟩
    · rw [← hd] at g2
      exact hd ▸ wp_val hrun ⟨_, g2, h.setV hN g3, eso_setV⟩
    · rw [← hd] at g3
      exact hd ▸ wp_val hrun ⟨σ', g2, ⟨F, Sg', cg', g3⟩, by rw [hd]; exact eso_ef g4⟩
  · -- buildSlice
    rename_i t len ps ho
    cases hd : o.dst with
    | none => rw [hd] at hk; cases hk
    | some d =>
    rw [hd] at hk
    simp only at hk
    obtain ⟨e, de, hk, hu, hde⟩ := elemK_ok hV.tab hk
    obtain ⟨σ', v, w', Sg', cg', g1, g2, g3, g4⟩ := xRow_ok h hde hu (hN d hd) hk
    rw [← hd] at g3
    obtain ⟨q1, q2⟩ := g3.valD V d
    refine hd ▸ wp_val (z := v) (w' := w') ?_ ⟨_, g1, q1, by rw [hd]; exact eso_ef (fun j hj => (q2 j hj).trans (g4 j hj))⟩
    have e : (ps.toList.map fun p => (p.1, a.eval p.2)).toArray = ps.map fun p => (p.1, a.eval p.2) := by rw [← Array.toList_map]
    rw [e] at g2
    simp [execOp, ho, g2]
  · -- load
    rename_i t x ho
    cases ht : V.TT t with
    | none => rw [ht] at hk; cases hk
    | some td =>
    rw [ht] at hk
    simp only at hk
    cases h1 : opd σ x with
    | none => rw [h1] at hk; cases hk
    | some e =>
    rw [h1] at hk
    obtain ⟨e', z, g1, g2, g3⟩ := xLoad_ok h (hV.tab t td ht) hk (opd_ok h h1)
    exact wp_val (z := z) (w' := w) (by simp [execOp, ho, g2]) ⟨_, g1, h.setV hN g3, eso_setV⟩
  · -- store
    rename_i t p x ho
    cases ht : V.TT t with
    | none => rw [ht] at hk; cases hk
    | some td =>
    rw [ht] at hk
    simp only at hk
    cases h1 : opd σ p with
    | none => rw [h1] at hk; cases hk
    | some ep =>
    rw [h1] at hk
    simp only at hk
    cases h2 : opd σ x with
    | none => rw [h2] at hk; cases hk
    | some ev =>
    rw [h2] at hk
    simp only at hk
    cases hj : isJunkPlace σ ep
    · rw [hj] at hk
      simp only [cond_false] at hk
      obtain ⟨σ', w', Sg', g1, g2, g3, g4⟩ := xSt_ok h (hV.tab t td ht) hk (opd_ok h h1) (opd_ok h h2)
      exact wp_unit (w' := w') (by simp [execOp, ho, g2]) ⟨_, g1, g3.setU hN, eso_setU g4⟩
    · rw [hj] at hk
      simp only [cond_true] at hk
      obtain ⟨σ', w', Sg', g1, g2, g3, g4⟩ := xPut_ok h (hV.tab t td ht) hk (opd_ok h h1) (opd_ok h h2)
      exact wp_unit (w' := w') (by simp [execOp, ho, g2]) ⟨_, g1, g3.setU hN, eso_setU g4⟩
  · -- nilCheck
    rename_i x ho
    cases h1 : opd σ x with
    | none => rw [h1] at hk; cases hk
    | some e =>
    rw [h1] at hk
    obtain ⟨g1, ad, g2⟩ := xNil_ok h hk (opd_ok h h1)
    exact wp_val (z := a.eval x) (w' := w) (by simp [execOp, ho, g2]) ⟨_, g1, h.setV hN (opd_ok h h1), eso_setV⟩
  · -- binOp
    rename_i op t x y yt ho
    cases h1 : opd σ x with
    | none => rw [h1] at hk; cases hk
    | some ex =>
    rw [h1] at hk
    simp only at hk
    cases h2 : opd σ y with
    | none => rw [h2] at hk; cases hk
    | some ey =>
    rw [h2] at hk
    obtain ⟨e', z, g1, g2, g3⟩ := xCmp_ok (t := t) (ox := x) (oy := y) h hV.tab hV.eqs hk (opd_ok h h1) (opd_ok h h2)
    refine wp_val (z := z) (w' := w) ?_ ⟨_, g1, h.setV hN g3, eso_setV⟩
    simp only [execOp, ho, Sem.run_bind] at g2 ⊢
    rw [g2]
    simp
  · -- unOp
    rename_i op t x ho
    cases h1 : opd σ x with
    | none => rw [h1] at hk; cases hk
    | some e =>
    rw [h1] at hk
    obtain ⟨e', z, g1, g2, g3⟩ := xUn_ok (P := P) hk (opd_ok h h1)
    exact wp_val (z := z) (w' := w) (by simp [execOp, ho, g2]) ⟨_, g1, h.setV hN g3, eso_setV⟩
  · -- convert
    rename_i s t x ho
    cases hby : toBytes V.TT s t
    case true =>
      rw [hby] at hk
      simp only [cond_true] at hk
      cases hd : o.dst with
      | none => rw [hd] at hk; cases hk
      | some d =>
      rw [hd] at hk
      simp only at hk
      obtain ⟨e, de, hk, hu, hde⟩ := elemK_ok hV.tab hk
      cases h1 : opd σ x with
      | none => rw [h1] at hk; cases hk
      | some ex =>
      rw [h1] at hk
      simp only at hk
      have hs : P.underlying s = some .string := by
        unfold toBytes at hby
        cases hds : V.TT s with
        | none => rw [hds] at hby; cases hby
        | some ds =>
          rw [hds] at hby
          have hdesc := (hV.tab s ds hds).desc
          simp only at hby
          split at hby
          · rename_i hkd; rw [hkd] at hdesc; exact hdesc.1
          · cases hby
      obtain ⟨σ', v, w', Sg', cg', g1, g2, g3, g4⟩ := xBytes_ok h hs hu hde (hN d hd) hk (opd_ok h h1)
      rw [← hd] at g3
      exact hd ▸ wp_val (z := v) (w' := w') (by simp [execOp, ho, g2]) ⟨σ', g1, ⟨F, Sg', cg', g3⟩, by rw [hd]; exact eso_ef g4⟩
    rw [hby] at hk
    simp only [cond_false] at hk
    cases h1 : opd σ x with
    | none => rw [h1] at hk; cases hk
    | some e =>
    rw [h1] at hk
    obtain ⟨e', z, g1, g2, g3⟩ := xConv_ok h hV.tab hk (opd_ok h h1)
    exact wp_val (z := z) (w' := w) (by simp [execOp, ho, g2]) ⟨_, g1, h.setV hN g3, eso_setV⟩
  · -- makeSlice
    rename_i t l c ho
    cases hd : o.dst with
    | none => rw [hd] at hk; cases hk
    | some d =>
    rw [hd] at hk
    simp only at hk
    obtain ⟨e, de, hk, hu, hde⟩ := elemK_ok hV.tab hk
    cases h1 : opd σ l with
    | none => rw [h1] at hk; cases hk
    | some el =>
    rw [h1] at hk
    simp only at hk
    cases h2 : opd σ c with
    | none => rw [h2] at hk; cases hk
    | some ec =>
    rw [h2] at hk
    simp only at hk
    obtain ⟨σ', v, w', Sg', cg', g1, g2, g3, g4⟩ := xMake_ok h hde hu (hN d hd) hk (opd_ok h h1) (opd_ok h h2)
    rw [← hd] at g3
    exact hd ▸ wp_val (z := v) (w' := w') (by simp [execOp, ho, g2]) ⟨σ', g1, ⟨F, Sg', cg', g3⟩, by rw [hd]; exact eso_ef g4⟩
  · -- slice
    rename_i t x lo hi mx ho
    split at hk
    · cases hk
    cases hd : o.dst with
    | none => rw [hd] at hk; cases hk
    | some d =>
    rw [hd] at hk
    simp only at hk
    cases h1 : opd σ x with
    | none => rw [h1] at hk; cases hk
    | some ex =>
    rw [h1] at hk
    simp only at hk
    cases h2 : opdO σ lo with
    | none => rw [h2] at hk; cases hk
    | some el =>
    rw [h2] at hk
    simp only at hk
    cases h3 : opdO σ hi with
    | none => rw [h3] at hk; cases hk
    | some eh =>
    rw [h3] at hk
    simp only at hk
    obtain ⟨z, g1, g2⟩ := xCut_ok h hV.tab (hN d hd) hk (opd_ok h h1) (opdO_ok h h2) (opdO_ok h h3)
    have hrun : (execOp a.eval o).run P w = .ok (.value z) w := by simp [execOp, ho, g1]
    rcases g2 with ⟨e', g2, g3⟩ | ⟨σ', Sg', cg', g2, g3, g4⟩
    · rw [← hd] at g2
      exact hd ▸ wp_val hrun ⟨_, g2, h.setV hN g3, eso_setV⟩
    · rw [← hd] at g3
      exact hd ▸ wp_val hrun ⟨σ', g2, ⟨F, Sg', cg', g3⟩, by rw [hd]; exact eso_ef g4⟩
  · -- fieldAddr
    rename_i s x f ho
    cases h1 : opd σ x with
    | none => rw [h1] at hk; cases hk
    | some e =>
    rw [h1] at hk
    obtain ⟨e', z, g1, g2, g3⟩ := xFieldAddr_ok h hV.tab hk (opd_ok h h1)
    exact wp_val (z := z) (w' := w) (by simp [execOp, ho, g2]) ⟨_, g1, h.setV hN g3, eso_setV⟩
  · -- field
    rename_i s x f ho
    cases h1 : opd σ x with
    | none => rw [h1] at hk; cases hk
    | some e =>
    rw [h1] at hk
    obtain ⟨e', z, g1, g2, g3⟩ := xField_ok h hV.tab hk (opd_ok h h1)
    exact wp_val (z := z) (w' := w) (by simp [execOp, ho, g2]) ⟨_, g1, h.setV hN g3, eso_setV⟩
  · -- indexAddr
    rename_i t x i ho
    cases h1 : opd σ x with
    | none => rw [h1] at hk; cases hk
    | some ex =>
    rw [h1] at hk
    simp only at hk
    cases h2 : opd σ i with
    | none => rw [h2] at hk; cases hk
    | some ei =>
    rw [h2] at hk
    obtain ⟨e', z, g1, g2, g3⟩ := xIxA_ok h hV.tab hk (opd_ok h h1) (opd_ok h h2)
    exact wp_val (z := z) (w' := w) (by simp [execOp, ho, g2]) ⟨_, g1, h.setV hN g3, eso_setV⟩
  · -- index
    rename_i t x i ho
    cases h1 : opd σ x with
    | none => rw [h1] at hk; cases hk
    | some ex =>
    rw [h1] at hk
    simp only at hk
    cases h2 : opd σ i with
    | none => rw [h2] at hk; cases hk
    | some ei =>
    rw [h2] at hk
    obtain ⟨e', z, g1, g2, g3⟩ := xIndex_ok hV.tab hk (opd_ok h h1) (opd_ok h h2)
    exact wp_val (z := z) (w' := w) (by simp [execOp, ho, g2]) ⟨_, g1, h.setV hN g3, eso_setV⟩
  · -- extract
    rename_i t i ho
    split at hk
    · rename_i es hE
      cases hi : es[i]? with
      | none => rw [hi] at hk; cases hk
      | some e =>
      rw [hi] at hk
      obtain ⟨vs, hv, hes⟩ := h.ent t _ hE
      have hlen : ∀ {es : List Ent0} {vs : List Value} {i : Nat} {e : Ent0}, EntsOk F w σ.L σ.U cg es vs → es[i]? = some e → ∃ v, vs[i]? = some v ∧ EntOk F w σ.L σ.U cg e v := by
        intro es
        induction es with
        | nil => intro vs i e _ h; simp at h
        | cons e0 es ih =>
          rintro vs i e ⟨v, r, rfl, h1, h2⟩ hi
          cases i with
          | zero => simp at hi; subst hi; exact ⟨v, rfl, h1⟩
          | succ i => simp at hi; simpa using ih h2 hi
      obtain ⟨v, hvi, hev⟩ := hlen hes hi
      refine wp_val (z := v) (w' := w) ?_ ⟨_, hk, h.setV hN hev, eso_setV⟩
      have he : a.eval (.tmp t) = .tuple vs.toArray := hv
      simp [execOp, ho, he, Instr.extract, hvi]
    · cases hk
  · -- call
    rename_i c ho
    split at hk
    · rename_i b hc
      exact builtinK_ok hV h ho hc hN hk
    · rename_i f hc
      cases hf : V.CT f with
      | none => rw [hf] at hk; cases hk
      | some ce =>
      rw [hf] at hk
      simp only at hk
      cases hes : opdL σ c.args.toList with
      | none => rw [hes] at hk; cases hk
      | some es =>
      rw [hes] at hk
      simp only at hk
      cases hcl : (closedL ce.rs && closedL ce.ms) || V.ownO o.dst
      · rw [hcl] at hk
        simp only [cond_false] at hk
        cases hes' : opdL (frzArgs σ ce.ps es) c.args.toList with
        | none => rw [hes'] at hk; cases hk
        | some es' =>
        rw [hes'] at hk
        obtain ⟨⟨F', i1⟩, i2⟩ := frzArgs_ok ce.ps es h
        exact callOp_ok hV i1 ho hc rfl hf i2 hes' hN hk
      · rw [hcl] at hk
        exact callOp_ok hV h ho hc rfl hf (fun _ => .refl _) hes hN hk
    · cases hk
  · cases hk
end
end Go.Proofs.YtgonfcjdhbjkcaaDoor.Rf
/- Layer 26: regions in the order written; guards. -/
set_option linter.unusedVariables false
set_option linter.unusedSimpArgs false
namespace Go.Proofs.YtgonfcjdhbjkcaaDoor.Rf
open Go

/-- A guard's slot. -/
def gslot (ops : List Oper) (j : Nat) : Option Nat := match ops[j]? with | some o => o.dst | none => none

/-- Is the operation wanted? Where that hangs on a truth not known, both ways; each knows it. -/
def guardK {R : Type} (σ : St) (ops : List Oper) (o : Oper) (Ky Kn : St → Option R) : Option R :=
  match o.guard with
  | none => Ky σ
  | some (j, want) => match gslot ops j with
    | some s => (match σ.E s with
      | some (.one (.val .bool b)) => (match (b : Bool) with
        | true => bif want then Ky (σ.setE s (.val .bool true)) else Kn (σ.setE s (.val .bool true))
        | false => bif want then Kn (σ.setE s (.val .bool false)) else Ky (σ.setE s (.val .bool false)))
      | some (.one (.cst v)) => (match v with
        | .bool b => bif b == want then Ky σ else Kn σ
        | _ => Kn σ)
      | _ => none)
    | none => none

/-- Both ways lead to one end. -/
noncomputable def bothB {R : Type} (a b : Option R) : Option R := open Classical in if a = b then b else none
theorem bothB_ok {R : Type} {a b : Option R} {r : R} (h : bothB a b = some r) : a = some r ∧ b = some r := by
  unfold bothB at h
  split at h
  · rename_i e; exact ⟨e.trans h, h⟩
  · cases h
theorem bothB_eq {R : Type} (a : Option R) : bothB a a = a := if_pos rfl
/-- Is a row nil? It may be, if it is empty. -/
noncomputable def nilB {R : Type} (e : Bool) (k : Bool → Option R) : Option R := bif e then bothB (k true) (k false) else k false
def nqOp : BinOp → Option Bool
  | .eql => some false
  | .neq => some true
  | _ => none
/-- What is asked: is a row nil? The slot, which way round, the row's length. -/
def nilQ (V : Env) (σ : St) (o : Oper) : Option (Nat × Bool × Bool) :=
  match o.op with
  | .binOp op t x (.const (.slice none 0 0)) _ => (match V.TT t with
    | some d => (match d.kd with
      | .slice _ => (match o.dst with
        | some dst => (match nqOp op with
          | some neq => (match opd σ x with
            | some (.val (.sl t) xs) => some (dst, neq, List.isEmpty (xs : List t.T))
            | some (.hdr l n π c) => hcur σ (.hdr l n π c) fun _ _ _ c => (match c with
              | ⟨.sl t, xs⟩ => some (dst, neq, List.isEmpty (xs : List t.T))
              | _ => none)
            | _ => none)
          | none => none)
        | none => none)
      | _ => none)
    | none => none)
  | _ => none
/-- A call of a function that is known as a value. -/
def fnQ (σ : St) (o : Oper) : Option (FuncId × List Operand) :=
  match o.op with
  | .call c => (match c.callee with
    | .value (.tmp t) => (match σ.E t with
      | some (.one (.val (.fn f) _)) => some (f, c.args.toList)
      | _ => none)
    | _ => none)
  | _ => none
def callV {R : Type} (V : Env) (σ : St) (dst : Option Nat) (f : FuncId) (xs : List Operand) (K : St → Option R) : Option R :=
  match V.CT f with
  | some ce => (match opdL σ xs with
    | some es => bif (closedL ce.rs && closedL ce.ms) || V.ownO dst then callK σ dst ce es K
      else (match opdL (frzArgs σ ce.ps es) xs with
        | some es' => callK (frzArgs σ ce.ps es) dst ce es' K
        | none => none)
    | none => none)
  | none => none
noncomputable def opN {R : Type} (V : Env) (σ : St) (o : Oper) (K : St → Option R) : Option R :=
  match nilQ V σ o with
  | some q => nilB q.2.2 fun b => K (σ.setE q.1 (.val .bool (bif q.2.1 then !b else b)))
  | none => (match fnQ σ o with
    | some q => callV V σ o.dst q.1 q.2 K
    | none => opK V σ o K)

noncomputable def opsK {R : Type} (V : Env) (ops : List Oper) : List Oper → St → (St → Option R) → Option R
  | [], σ, K => K σ
  | o :: rest, σ, K => guardK σ ops o (fun σ1 => opN V σ1 o fun σ2 => opsK V ops rest σ2 K) (fun σ1 => opsK V ops rest (σ1.setV o.dst (.cst undef)) K)

def dstOk (N : Nat) : List Oper → Bool
  | [] => true
  | o :: rest => (match o.dst with | some d => Nat.blt d N | none => true) && dstOk N rest
def wrOps : List Oper → Nat → Bool
  | [], _ => false
  | o :: rest, j => (match o.dst with | some d => Nat.beq d j | none => false) || wrOps rest j

def ES (σ σ' : St) (W : Nat → Bool) : Prop := ∀ j, W j = false → ER (σ.E j) (σ'.E j)
theorem ES.refl (σ : St) (W : Nat → Bool) : ES σ σ W := fun _ _ => .refl _
theorem ES.trans {σ σ' σ'' : St} {W W' W'' : Nat → Bool} (h : ES σ σ' W) (k : ES σ' σ'' W') (h1 : ∀ j, W'' j = false → W j = false) (h2 : ∀ j, W'' j = false → W' j = false) : ES σ σ'' W'' := fun j hj => (h j (h1 j hj)).trans (k j (h2 j hj))
theorem ES.mono {σ σ' : St} {W W' : Nat → Bool} (h : ES σ σ' W) (h1 : ∀ j, W' j = false → W j = false) : ES σ σ' W' := fun j hj => h j (h1 j hj)

section
variable {P : Program} {B : Base} {F : BSet} {Sg : Nat → BSet} {cg : Nat → List Value} {σ : St} {a : Act} {w : World}

theorem setE_same {s : Nat} {e : Ent0} (h : σ.E s = some (.one e)) : σ.setE s e = σ := by
  have : upd σ.E s (some (.one e)) = σ.E := by
    funext j
    by_cases hj : j = s
    · subst hj; rw [upd_same, h]
    · rw [upd_ne _ _ hj]
  unfold St.setE
  rw [this]

theorem yield_bool {ops : Array Oper} {j s : Nat} (hs : gslot ops.toList j = some s) {b : Bool} (hv : a.tmps.getD s undef = .bool b) : yielded ops a.tmps j = some b := by
  unfold gslot at hs
  unfold yielded
  rw [Array.getElem?_toList] at hs
  cases ho : ops[j]? with
  | none => rw [ho] at hs; cases hs
  | some o =>
    rw [ho] at hs
    simp only at hs
    simp only [Option.bind_some, hs]
    cases ht : a.tmps[s]? with
    | none =>
      rw [Array.getD_eq_getD_getElem?, ht] at hv
      simp [undef] at hv
    | some v =>
      rw [Array.getD_eq_getD_getElem?, ht] at hv
      simp only [Option.getD_some] at hv
      subst hv
      rfl
theorem yield_other {ops : Array Oper} {j s : Nat} (hs : gslot ops.toList j = some s) (hv : ∀ b, a.tmps.getD s undef ≠ .bool b) : yielded ops a.tmps j = none := by
  unfold gslot at hs
  unfold yielded
  rw [Array.getElem?_toList] at hs
  cases ho : ops[j]? with
  | none => rw [ho] at hs; cases hs
  | some o =>
    rw [ho] at hs
    simp only at hs
    simp only [Option.bind_some, hs]
    cases ht : a.tmps[s]? with
    | none => rfl
    | some v =>
      rw [Array.getD_eq_getD_getElem?, ht] at hv
      simp only [Option.getD_some] at hv
      cases v <;> first | rfl | exact absurd rfl (hv _)

theorem guardK_ok {R : Type} (h : Inv B σ a w) {ops : Array Oper} {o : Oper} {Ky Kn : St → Option R} {r : R} (hk : guardK σ ops.toList o Ky Kn = some r) :
    (Region.wanted o (yielded ops a.tmps) = true ∧ Ky σ = some r) ∨ (Region.wanted o (yielded ops a.tmps) = false ∧ Kn σ = some r) := by
  obtain ⟨F, Sg, cg, h⟩ := h
  unfold guardK at hk
  unfold Region.wanted
  split at hk
  · rename_i hg; rw [hg]; exact .inl ⟨rfl, hk⟩
  · rename_i j want hg
    rw [hg]
    simp only
    cases hs : gslot ops.toList j with
    | none => rw [hs] at hk; cases hk
    | some s =>
    rw [hs] at hk
    simp only at hk
    split at hk
    · rename_i b hE
      have hv := val_bool (L := σ.L) (U := σ.U) (cg := cg) (h.ent s _ hE)
      rw [yield_bool hs hv]
      split at hk
      · rw [setE_same hE] at hk
        cases want
        · exact .inr ⟨rfl, hk⟩
        · exact .inl ⟨rfl, hk⟩
      · rw [setE_same hE] at hk
        cases want
        · exact .inl ⟨rfl, hk⟩
        · exact .inr ⟨rfl, hk⟩
    · rename_i v hE
      have hv : a.tmps.getD s undef = v := h.ent s _ hE
      split at hk
      · rename_i b
        rw [yield_bool hs hv]
        cases b <;> cases want
        · exact .inl ⟨rfl, hk⟩
        · exact .inr ⟨rfl, hk⟩
        · exact .inr ⟨rfl, hk⟩
        · exact .inl ⟨rfl, hk⟩
      · rename_i hnb
        rw [yield_other hs (fun b hb => by rw [hv] at hb; exact hnb b hb)]
        exact .inr ⟨rfl, hk⟩
    · cases hk

theorem Oper.wp_weak {o : Oper} {next next' : Act → World → Prop} {Q Q' : Exit → Act → World → Prop} (h : o.wp P a w next Q) (hn : ∀ a' w', next a' w' → next' a' w') (hQ : ∀ e a' w', Q e a' w' → Q' e a' w') : o.wp P a w next' Q' := by
  unfold Oper.wp at *
  generalize (execOp a.eval o).run P w = res at *
  cases res with
  | ok n w' =>
    cases n <;> simp only [Oper.upon] at h ⊢
    case value u => exact hn _ _ h
    case skip => exact hn _ _ h
    case defer d => exact hn _ _ h
    case enter f args =>
      refine Calls.mono h fun e w'' he => ?_
      cases e with
      | returned u => exact hn _ _ he
      | panicked c => exact hQ _ _ _ he
      | outgrown => obtain ⟨a1, w1, h1⟩ := he; exact ⟨a1, w1, hQ _ _ _ h1⟩
    case row row args => exact Rows.mono h fun u w'' he => hn _ _ he
  | halt x w' =>
    cases x <;> simp only [Oper.upon] at h ⊢
    case panic u => exact hQ _ _ _ h

theorem nil_of {t : Ty} {m : Md} {x : List t.T} {cs : List Value} {S : BSet} {v : Value} (h : Rep F w (.sl t) m x cs S) (hv : VR (.sl t) cs v) : ∃ ao cap, v = .slice ao x.length cap ∧ (0 < x.length → ao.isNone = false) := by
  simp [VR, Ty.agg] at hv
  have ro : RoSl F w (Rep F w t .ro) x cs → ∃ ao cap, v = .slice ao x.length cap ∧ (0 < x.length → ao.isNone = false) := by
    rintro ⟨ao, cap, rfl, h1, h2, h3⟩
    simp at hv
    refine ⟨ao, cap, hv.1.symm, fun hp => ?_⟩
    obtain ⟨ad, rfl, _⟩ := h3 hp
    rfl
  cases m with
  | ro => exact ro h
  | pr _ _ => exact ro h
  | own m =>
    obtain ⟨ao, cap, rfl, h1, h2, h3⟩ := h
    simp at hv
    refine ⟨ao, cap, hv.1.symm, fun hp => ?_⟩
    rcases h3 with rfl | ⟨b, off, c, e, rfl, _⟩
    · omega
    · rfl

theorem opN_ok {R : Type} {V : Env} (hV : EnvOk P V) (h : InvG B F Sg cg σ a w) {o : Oper} {K : St → Option R} {r : R} (hN : ∀ d, o.dst = some d → d < B.N) (hk : opN V σ o K = some r) {Q : Exit → Act → World → Prop} :
    o.wp P a w (Nx B σ o.dst K r) Q := by
  unfold opN at hk
  cases hq : nilQ V σ o with
  | none =>
    rw [hq] at hk
    simp only at hk
    cases hf : fnQ σ o with
    | none => rw [hf] at hk; exact opK_ok hV h hN hk
    | some q =>
    rw [hf] at hk
    simp only at hk
    unfold fnQ at hf
    split at hf
    case h_2 => cases hf
    rename_i c ho
    split at hf
    case h_2 => cases hf
    rename_i t hc
    split at hf
    case h_2 => cases hf
    rename_i f u hE
    injection hf with hf
    subst hf
    have hx : a.eval (.tmp t) = .func (.func f) #[] #[] := by
      obtain ⟨cs, h1, h2⟩ := h.ent t _ hE
      have h1 : cs = [.func (.func f) #[] #[]] := h1
      subst h1
      have h3 : [Value.func (.func f) #[] #[]] = [a.tmps.getD t undef] := by unfold VR at h2; simpa using h2.1
      injection h3 with h3 _
      exact h3.symm
    unfold callV at hk
    simp only at hk
    cases hf : V.CT f with
    | none => rw [hf] at hk; cases hk
    | some ce =>
    rw [hf] at hk
    simp only at hk
    cases hes : opdL σ c.args.toList with
    | none => rw [hes] at hk; cases hk
    | some es =>
    rw [hes] at hk
    simp only at hk
    cases hb : (closedL ce.rs && closedL ce.ms) || V.ownO o.dst
    · rw [hb] at hk
      simp only [cond_false] at hk
      cases hes' : opdL (frzArgs σ ce.ps es) c.args.toList with
      | none => rw [hes'] at hk; cases hk
      | some es' =>
        rw [hes'] at hk
        obtain ⟨⟨F1, i1⟩, i2⟩ := frzArgs_ok ce.ps es h
        exact callOp_ok hV i1 ho hc hx hf i2 hes' hN hk
    · rw [hb] at hk
      exact callOp_ok hV h ho hc hx hf (fun _ => .refl _) hes hN hk
  | some q =>
  rw [hq] at hk
  simp only at hk
  unfold nilQ at hq
  split at hq
  case h_2 => cases hq
  rename_i op t x yt ho
  cases ht : V.TT t with
  | none => rw [ht] at hq; cases hq
  | some d =>
  rw [ht] at hq
  simp only at hq
  split at hq
  case h_2 => cases hq
  rename_i te hkd
  have hdesc := (hV.tab t d ht).desc
  rw [hkd] at hdesc
  cases hd : o.dst with
  | none => rw [hd] at hq; cases hq
  | some dst =>
  rw [hd] at hq
  simp only at hq
  cases hop : nqOp op with
  | none => rw [hop] at hq; cases hq
  | some neq =>
  rw [hop] at hq
  simp only at hq
  cases hx : opd σ x with
  | none => rw [hx] at hq; cases hq
  | some ex =>
  rw [hx] at hq
  have hex := opd_ok h hx
  -- what is known of the row
  have main : ∃ (n : Nat) (ao : Option Addr) (cap : Nat), a.eval x = .slice ao n cap ∧ (0 < n → ao.isNone = false) ∧ q = (dst, neq, Nat.beq n 0) := by
    split at hq
    · rename_i u xs heq
      injection heq with heq
      subst heq
      injection hq with hq
      obtain ⟨cs, h1, h2⟩ := hex
      obtain ⟨ao, cap, e1, e2⟩ := nil_of h1 h2
      refine ⟨_, ao, cap, e1, e2, ?_⟩
      rw [← hq]
      cases xs <;> rfl
    · rename_i l n π c heq
      injection heq with heq
      subst heq
      obtain ⟨l, b, π, c, hl, hq, hg, hown, ds, s, S', hres, hrep, hsub, hfoc, hv⟩ := hcur_ok h hq hex
      obtain ⟨ct, cx⟩ := c
      simp only at hq hrep hv
      split at hq
      · rename_i u xs heq
        cases heq
        injection hq with hq
        obtain ⟨ao, cap, e1, e2⟩ := nil_of hrep hv
        refine ⟨_, ao, cap, e1, e2, ?_⟩
        rw [← hq]
        cases xs <;> rfl
      · cases hq
    · cases hq
  obtain ⟨n, ao, cap, e1, e2, rfl⟩ := main
  simp only at hk
  have hb : K (σ.setE dst (.val .bool (bif neq then !ao.isNone else ao.isNone))) = some r := by
    unfold nilB at hk
    cases hn : Nat.beq n 0
    · rw [hn] at hk
      have hp : 0 < n := by
        rcases Nat.eq_zero_or_pos n with h0 | h0
        · subst h0; cases hn
        · exact h0
      rw [e2 hp]
      exact hk
    · rw [hn] at hk
      obtain ⟨k1, k2⟩ := bothB_ok hk
      cases ao.isNone
      · exact k2
      · exact k1
  have hdd : ∀ d', (some dst : Option Nat) = some d' → d' < B.N := fun d' e => hN d' (by rw [hd]; exact e)
  have hrun : (execOp a.eval o).run P w = .ok (.value (.bool (bif neq then !ao.isNone else ao.isNone))) w := by
    have e0 : a.eval (.const (.slice none 0 0)) = .slice none 0 0 := rfl
    cases op <;> simp only [nqOp, reduceCtorEq, Option.some.injEq] at hop
    · subst hop
      simp only [execOp, ho, Sem.run_bind, e1, e0, cond_false]
      simp [eqGuard, Lib.run_eql_slice_nil w t te ao n cap 0 0 hdesc]
    · subst hop
      simp only [execOp, ho, Sem.run_bind, e1, e0, cond_true]
      simp [eqGuard, run_neq_slice_nil_any w t te ao n cap 0 0 hdesc]
  exact hd ▸ wp_val (z := .bool (bif neq then !ao.isNone else ao.isNone)) (w' := w) hrun ⟨_, hb, by rw [hd]; exact h.setV hdd (dst := some dst) (e := .val .bool (bif neq then !ao.isNone else ao.isNone)) mk_bool, by rw [hd]; exact eso_setV (dst := some dst)⟩

theorem opsK_ok {R : Type} {V : Env} (hV : EnvOk P V) {ops : Array Oper} (hN : dstOk B.N ops.toList = true) {K : St → Option R} {r : R} {Q : Exit → Act → World → Prop} : ∀ (rest : List Oper) (i : Nat) (σ : St) (a : Act) (w : World), ops.toList.drop i = rest → Inv B σ a w → opsK V ops.toList rest σ K = some r →
    (∀ σ' a' w', K σ' = some r → Inv B σ' a' w' → ES σ σ' (wrOps rest) → Q .normal a' w') → wpOps P ops Q (List.range' i rest.length) a w := by
  intro rest
  induction rest with
  | nil => intro i σ a w hd h hk hQ; exact hQ σ a w hk h (ES.refl _ _)
  | cons o rest ih =>
    intro i σ a w hd h hk hQ
    have hoi : ops[i]? = some o := by
      rw [← Array.getElem?_toList]
      have := congrArg (·[0]?) hd
      simpa using this
    have hmem : o ∈ ops.toList := List.mem_of_getElem? (by rw [Array.getElem?_toList]; exact hoi)
    have hdst : ∀ d, o.dst = some d → d < B.N := by
      have : ∀ l : List Oper, dstOk B.N l = true → ∀ o ∈ l, ∀ d, o.dst = some d → d < B.N := by
        intro l
        induction l with
        | nil => intro _ o ho; simp at ho
        | cons x l ihl =>
          intro hl o ho d hd
          simp only [dstOk, Bool.and_eq_true] at hl
          rcases List.mem_cons.1 ho with rfl | ho
          · rw [hd] at hl; exact Nat.le_of_ble_eq_true hl.1
          · exact ihl hl.2 o ho d hd
      exact this _ hN o hmem
    have hd' : ops.toList.drop (i + 1) = rest := by
      rw [← List.tail_drop, hd]; rfl
    simp only [opsK] at hk
    rw [List.length_cons, List.range'_succ]
    simp only [wpOps, hoi]
    have wr : ∀ j, wrOps (o :: rest) j = false → o.dst ≠ some j ∧ wrOps rest j = false := fun j hj => by
      simp only [wrOps, Bool.or_eq_false_iff] at hj
      refine ⟨fun e => ?_, hj.2⟩
      rw [e] at hj
      simp [Nat.beq_refl] at hj
    rcases guardK_ok h hk with ⟨hw, hk⟩ | ⟨hw, hk⟩
    · rw [if_pos hw]
      left
      obtain ⟨F, Sg, cg, h⟩ := h
      refine Oper.wp_weak (Q := fun _ _ _ => False) (opN_ok hV h hdst hk) (fun a' w' hn => ?_) (fun _ _ _ h => h.elim)
      obtain ⟨σ', g1, g2, g3⟩ := hn
      exact ih (i + 1) σ' a' w' hd' g2 g1 (fun σ'' a'' w'' q1 q2 q3 => hQ σ'' a'' w'' q1 q2 (fun j hj => (g3 j (wr j hj).1).trans (q3 j (wr j hj).2)))
    · rw [if_neg (by rw [hw]; simp)]
      obtain ⟨F, Sg, cg, h⟩ := h
      exact ih (i + 1) _ _ w hd' (h.setV hdst (e := .cst undef) rfl) hk (fun σ'' a'' w'' q1 q2 q3 => hQ σ'' a'' w'' q1 q2 (fun j hj => (eso_setV j (wr j hj).1).trans (q3 j (wr j hj).2)))

theorem region_ok {R : Type} {V : Env} (hV : EnvOk P V) {id : Nat} {ops : Array Oper} (hN : dstOk B.N ops.toList = true) (h : Inv B σ a w) {K : St → Option R} {r : R} {Q : Exit → Act → World → Prop} (hk : opsK V ops.toList ops.toList σ K = some r)
    (hQ : ∀ σ' a' w', K σ' = some r → Inv B σ' a' w' → ES σ σ' (wrOps ops.toList) → Q .normal a' w') : (Code.region id ops false).wp P Q a w := by
  refine wp_region ?_
  have := opsK_ok hV hN ops.toList 0 σ a w rfl h hk hQ
  rwa [List.range_eq_range', ← Array.length_toList]
end
end Go.Proofs.YtgonfcjdhbjkcaaDoor.Rf
