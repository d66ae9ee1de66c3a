/- Layer 27: where ways meet. -/
import Derived.Test.YtgonfcjdhbjkcaaDoorRb
import Derived.Conc.LoneSelect
import Derived.Test.YtgonfcjdhbjkcaaDoorProg
import Derived.KernelRfl
import Derived.ProofKit
import Derived.OpenShut
set_option linter.unusedVariables false
set_option linter.unusedSimpArgs false
namespace Go.Proofs.YtgonfcjdhbjkcaaDoor.Rf
open Go

/-- What a slot holds where ways meet: a value, or something owned (under a name of its own). -/
inductive JE where
  | val (s : Nat) (t : Ty)
  | hdr (s key : Nat) (t : Ty) (m : Md)
def JE.ty : JE → Ty
  | .val _ t => t
  | .hdr _ _ t _ => t
def jsT : List JE → Ty
  | [] => .unit
  | j :: js => .pair j.ty (jsT js)
def ipT : List (Nat × Ty × Md) → Ty
  | [] => .unit
  | p :: ps => .pair p.2.1 (ipT ps)

/-- Where ways meet: what is owned and keeps its name; what slots hold; which slots stay as they were. -/
structure Spec where
  ip : List (Nat × Ty × Md)
  js : List JE
  keep : List Nat
@[reducible] def Spec.T (s : Spec) : Type := (ipT s.ip).T × (jsT s.js).T

def memB (t : Nat) : List Nat → Bool
  | [] => false
  | x :: xs => Nat.beq t x || memB t xs
def isKey (l : Nat) : List JE → Bool
  | [] => false
  | .hdr _ k _ _ :: js => Nat.beq l k || isKey l js
  | _ :: js => isKey l js
def isIp (l : Nat) : List (Nat × Ty × Md) → Bool
  | [] => false
  | p :: ps => Nat.beq l p.1 || isIp l ps

def verOf (σ0 : St) (l : Nat) : Nat := match σ0.L l with | some b => b.v + 1 | none => 1
def ipL (σ0 : St) : (ip : List (Nat × Ty × Md)) → (ipT ip).T → Nat → Option Lab
  | [], _ => fun _ => none
  | p :: ps, x => upd (ipL σ0 ps x.2) p.1 (some ⟨verOf σ0 p.1, p.2.1, p.2.2, x.1⟩)
def baseJ (σ0 : St) (s : Spec) (x : (ipT s.ip).T) : St :=
  { E := fun t => bif memB t s.keep then σ0.E t else none, L := ipL σ0 s.ip x, U := fun l => (σ0.U l && !isKey l s.js) || isIp l s.ip }
def stJs : (js : List JE) → (jsT js).T → St → St
  | [], _, σ => σ
  | .val s t :: js, x, σ => stJs js x.2 { σ with E := upd σ.E s (some (.one (.val t x.1))) }
  | .hdr s key t m :: js, x, σ => stJs js x.2 { E := upd σ.E s (some (.one (.hdr key 1 [] ⟨t, x.1⟩))), L := upd σ.L key (some ⟨1, t, m, x.1⟩), U := fun j => Nat.beq j key || σ.U j }
/-- The state where ways meet. -/
def stJ (σ0 : St) (s : Spec) (x : s.T) : St := stJs s.js x.2 (baseJ σ0 s x.1)

def ipK {R : Type} : (ip : List (Nat × Ty × Md)) → (Nat → Option Lab) → ((ipT ip).T → (Nat → Option Lab) → Option R) → Option R
  | [], L, K => K () L
  | p :: ps, L, K => match L p.1 with
    | some ⟨_, t, m, x⟩ => if h : t = p.2.1 then (bif decide (m = p.2.2) then ipK ps (upd L p.1 none) fun xs L' => K (h ▸ x, xs) L' else none) else none
    | none => none
def jsK {R : Type} (σ1 : St) : (js : List JE) → (Nat → Option Lab) → ((jsT js).T → Option R) → Option R
  | [], _, K => K ()
  | .val s t :: js, L, K => match σ1.E s with
    | some (.one e) => asT e t fun x => jsK σ1 js L fun xs => K (x, xs)
    | _ => none
  | .hdr s _ t m :: js, L, K => match σ1.E s with
    | some (.one e) => partM L t m e fun y L' => jsK σ1 js L' fun xs => K (y, xs)
    | _ => none

def keepArr (σ0 σ1 : St) : List Nat → Bool
  | [] => true
  | t :: ts => ((σ0.E t).isNone || ((σ1.E t).isSome && (hdrish (σ1.E t) == hdrish (σ0.E t)))) && keepArr σ0 σ1 ts

/-- A way arrives. -/
def arrK {R : Type} (σ0 : St) (s : Spec) (σ1 : St) (K : s.T → Option R) : Option R :=
  bif keepArr σ0 σ1 s.keep then ipK s.ip σ1.L fun xs L => jsK σ1 s.js L fun ys => K (xs, ys) else none

def entKey : Ent0 → Option Nat
  | .hdr l .. => some l
  | .adr l .. => some l
  | _ => none
def noKey (js : List JE) : Option Ent → Bool
  | some (.one e) => (match entKey e with | some l => !isKey l js | none => true)
  | some (.tup _) => false
  | none => true
def keepOk (σ0 : St) (js : List JE) (W : Nat → Bool) : List Nat → Bool
  | [] => true
  | t :: ts => (!W t && noKey js (σ0.E t)) && keepOk σ0 js W ts
def ipOk (σ0 : St) (js : List JE) : List (Nat × Ty × Md) → Bool
  | [] => true
  | p :: ps => (((σ0.L p.1).isSome || !σ0.U p.1) && !isKey p.1 js) && ipOk σ0 js ps
def jsOk (σ0 : St) (W : Nat → Bool) : List JE → Bool
  | [] => true
  | .val s _ :: js => (W s || hdrish (σ0.E s)) && jsOk σ0 W js
  | .hdr s k _ _ :: js => (W s && (!isKey k js && Nat.beq (k % 8) 7)) && jsOk σ0 W js
def specOk (σ0 : St) (s : Spec) (W : Nat → Bool) : Bool := keepOk σ0 s.js W s.keep && (ipOk σ0 s.js s.ip && jsOk σ0 W s.js)

section
variable {P : Program} {B : Base} {F : BSet} {Sg : Nat → BSet} {cg : Nat → List Value} {σ : St} {a : Act} {w : World}

theorem InvG.setEnt (h : InvG B F Sg cg σ a w) {s : Nat} {e : Ent} (he : EntOkT F w σ.L σ.U cg e (a.tmps.getD s undef)) : InvG B F Sg cg { σ with E := upd σ.E s (some e) } a w :=
  { h with
    ent := fun t e' he' => by
      rcases upd_some he' with ⟨rfl, e1⟩ | ⟨hn, e1⟩
      · injection e1 with e1; subst e1; exact he
      · exact h.ent t e' e1 }

theorem keep_mem {t : Nat} {l : List Nat} (h : memB t l = true) : t ∈ l := by
  induction l with
  | nil => cases h
  | cons x xs ih =>
    simp only [memB, Bool.or_eq_true] at h
    rcases h with h | h
    · rw [Nat.eq_of_beq_eq_true h]; simp
    · simp [ih h]
theorem keepArr_mem {σ0 σ1 : St} {l : List Nat} (h : keepArr σ0 σ1 l = true) {t : Nat} (ht : t ∈ l) : ((σ0.E t).isNone || ((σ1.E t).isSome && (hdrish (σ1.E t) == hdrish (σ0.E t)))) = true := by
  induction l with
  | nil => simp at ht
  | cons x xs ih =>
    simp only [keepArr, Bool.and_eq_true] at h
    rcases List.mem_cons.1 ht with rfl | ht
    · exact h.1
    · exact ih h.2 ht
theorem keepOk_mem {σ0 : St} {js : List JE} {W : Nat → Bool} {l : List Nat} (h : keepOk σ0 js W l = true) {t : Nat} (ht : t ∈ l) : W t = false ∧ noKey js (σ0.E t) = true := by
  induction l with
  | nil => simp at ht
  | cons x xs ih =>
    simp only [keepOk, Bool.and_eq_true, Bool.not_eq_true'] at h
    rcases List.mem_cons.1 ht with rfl | ht
    · exact h.1
    · exact ih h.2 ht
theorem ipOk_get {σ0 : St} {js : List JE} {l : Nat} {ps : List (Nat × Ty × Md)} (h : ipOk σ0 js ps = true) (hl : isIp l ps = true) : ((σ0.L l).isSome || !σ0.U l) = true ∧ isKey l js = false := by
  induction ps with
  | nil => cases hl
  | cons p ps ih =>
    simp only [ipOk, Bool.and_eq_true, Bool.not_eq_true'] at h
    simp only [isIp, Bool.or_eq_true] at hl
    rcases hl with hl | hl
    · rw [Nat.eq_of_beq_eq_true hl]; exact h.1
    · exact ih h.2 hl

theorem ipK_ok {R : Type} {σ0 : St} : ∀ (ip : List (Nat × Ty × Md)) (L : Nat → Option Lab) (K : (ipT ip).T → (Nat → Option Lab) → Option R) (r : R), ipK ip L K = some r →
    ∃ xs L', K xs L' = some r ∧ (∀ j, L' j = none ∨ L' j = L j) ∧ ∀ l b', ipL σ0 ip xs l = some b' → isIp l ip = true ∧ L' l = none ∧ ∃ b1, L l = some b1 ∧ b' = ⟨verOf σ0 l, b1.t, b1.m, b1.x⟩ := by
  intro ip
  induction ip with
  | nil => intro L K r hk; exact ⟨(), L, hk, fun _ => .inr rfl, fun l b' h => by cases h⟩
  | cons p ps ih =>
    intro L K r hk
    simp only [ipK] at hk
    cases hl : L p.1 with
    | none => rw [hl] at hk; cases hk
    | some b =>
      rw [hl] at hk
      obtain ⟨v, t, m, x⟩ := b
      simp only at hk
      split at hk
      · rename_i ht
        cases hm : decide (m = p.2.2)
        · rw [hm] at hk; cases hk
        rw [hm] at hk
        simp only [cond_true] at hk
        replace hm := of_decide_eq_true hm
        obtain ⟨xs, L', g1, g2, g3⟩ := ih _ _ r hk
        have hL' : ∀ j, L' j = none ∨ L' j = L j := fun j => by
          rcases g2 j with e | e
          · exact .inl e
          · rw [e]
            by_cases hj : j = p.1
            · subst hj; exact .inl (upd_same _ _ _)
            · exact .inr (upd_ne _ _ hj)
        refine ⟨_, L', g1, hL', fun l b' hb => ?_⟩
        rcases upd_some hb with ⟨rfl, e⟩ | ⟨hne, e⟩
        · refine ⟨by simp [isIp, Nat.beq_refl], ?_, ⟨v, t, m, x⟩, hl, ?_⟩
          · rcases g2 p.1 with e1 | e1
            · exact e1
            · rw [e1]; exact upd_same _ _ _
          · injection e with e
            subst e
            obtain ⟨p1, p2, p3⟩ := p
            simp only at ht hm
            subst ht; subst hm
            rfl
        · obtain ⟨q1, q2, b1, q3, q4⟩ := g3 l b' e
          rw [upd_ne _ _ hne] at q3
          exact ⟨by simp [isIp, q1], q2, b1, q3, q4⟩
      · cases hk

theorem isKey_cons {l s key : Nat} {t : Ty} {m : Md} {js : List JE} : isKey l (.hdr s key t m :: js) = (Nat.beq l key || isKey l js) := rfl

theorem jsK_ok {R : Type} {F : BSet} {Sg : Nat → BSet} {cg : Nat → List Value} {σ1 : St} (h1 : InvG B F Sg cg σ1 a w) {W : Nat → Bool} {σ0 : St} : ∀ (js : List JE) (L : Nat → Option Lab) (K : (jsT js).T → Option R) (r : R) (σp : St) (Sgp : Nat → BSet) (cgp : Nat → List Value), jsK σ1 js L K = some r → jsOk σ0 W js = true → (∀ j, L j = none ∨ L j = σ1.L j) →
    InvG B F Sgp cgp σp a w → (∀ l, isKey l js = true → σp.U l = false) → (∀ k bk, σp.L k = some bk → ∀ l b, L l = some b → Dis (Sgp k) (Sg l)) → ∃ ys, K ys = some r ∧ Inv B (stJs js ys σp) a w := by
  intro js
  induction js with
  | nil => intro L K r σp Sgp cgp hk _ _ hp _ _; exact ⟨(), hk, F, Sgp, cgp, hp⟩
  | cons j js ih =>
    intro L K r σp Sgp cgp hk ho hL hp hU hd
    cases j with
    | val s t =>
      simp only [jsK] at hk
      simp only [jsOk, Bool.and_eq_true] at ho
      split at hk
      · rename_i e hE
        obtain ⟨x, cs, hk, hr, hv⟩ := asT_ok hk (h1.ent s _ hE)
        obtain ⟨ys, g1, g2⟩ := ih L _ r _ Sgp cgp hk ho.2 hL (hp.setEnt (s := s) (e := .one (.val t x)) ⟨cs, hr, hv⟩) (fun l hl => hU l hl) hd
        exact ⟨(x, ys), g1, g2⟩
      · cases hk
    | hdr s key t m =>
      simp only [jsK] at hk
      simp only [jsOk, Bool.and_eq_true, Bool.not_eq_true'] at ho
      split at hk
      · rename_i e hE
        obtain ⟨y, L1, cs1, S1, hk, hr, hv, hL1, hS1⟩ := partM_ok h1 hL hk (h1.ent s _ hE)
        have hUk : σp.U key = false := hU key (by rw [isKey_cons, Nat.beq_refl]; rfl)
        have i1 := hp.addLab (w' := w) rfl rfl rfl (Nat.le_refl _) (l := key) (b := ⟨1, t, m, y⟩) hUk (upd σp.L key (some ⟨1, t, m, y⟩)) (fun _ _ _ => rfl) hr (upd_same _ _ _) (fun j hj => .inr (upd_ne _ _ hj))
          (fun k hk => by
            obtain ⟨l2, b2, e1, e2, e3, e4⟩ := hS1 k hk
            refine ⟨fun j bj hj hbj hs => ?_, fun hf => h1.disF l2 b2 e2 k e4 hf, h1.lt l2 b2 e2 k e4, h1.may l2 b2 e2 k e4⟩
            rw [upd_ne _ _ hj] at hbj
            exact hd j bj hbj l2 b2 e1 k hs e4)
        have i2 := i1.setEnt (s := s) (e := .one (.hdr key 1 [] ⟨t, y⟩)) (root_ok i1 (l := key) (b := ⟨1, t, m, y⟩) (upd_same _ _ _) (by simpa using hv))
        obtain ⟨ys, g1, g2⟩ := ih L1 _ r _ _ _ hk ho.2 (fun j => by
            rcases hL1 j with e | e
            · exact .inl e
            · rw [e]; exact hL j) i2 (fun l hl => by
            have hne : Nat.beq l key = false := by
              cases hb : Nat.beq l key
              · rfl
              · rw [Nat.eq_of_beq_eq_true hb, ho.1.2.1] at hl; cases hl
            simp only [hne, Bool.false_or]
            exact hU l (by rw [isKey_cons, hl]; simp)) (fun k bk hbk l b hl => by
            have hlL : L l = some b := by
              rcases hL1 l with e | e
              · rw [e] at hl; cases hl
              · rw [← e]; exact hl
            by_cases hkk : k = key
            · rw [if_pos hkk]
              intro q hq1 hq2
              obtain ⟨l2, b2, e1, e2, e3, e4⟩ := hS1 q hq1
              by_cases e : l2 = l
              · subst e; rw [e3] at hl; cases hl
              · have hl1 : σ1.L l = some b := by
                  rcases hL l with e' | e'
                  · rw [e'] at hlL; cases hlL
                  · rw [← e']; exact hlL
                exact h1.dis l2 l b2 b e e2 hl1 q e4 hq2
            · rw [if_neg hkk]
              rcases upd_some hbk with ⟨e, _⟩ | ⟨_, e⟩
              · exact absurd e hkk
              · exact hd k bk e l b hlL)
        exact ⟨(y, ys), g1, g2⟩
      · cases hk

/-- Names in a state are not of the future. -/
def VerOk (σ0 : St) : Prop := ∀ t e, σ0.E t = some (.one e) → (∀ l n π c, e = .hdr l n π c → σ0.U l = true ∧ ∀ b, σ0.L l = some b → n ≤ b.v) ∧ (∀ l n π c, e = .adr l n π c → σ0.U l = true ∧ ∀ b, σ0.L l = some b → n ≤ b.v)
theorem InvG.ver (h : InvG B F Sg cg σ a w) : VerOk σ := by
  intro t e he
  have := h.ent t _ he
  refine ⟨?_, ?_⟩
  · rintro l n π c rfl; exact ⟨this.1, fun b hb => (this.2 b hb).1⟩
  · rintro l n π c rfl; exact ⟨this.1, fun b hb => (this.2 b hb).1⟩

theorem jsOk_key {σ0 : St} {W : Nat → Bool} {l : Nat} {js : List JE} (h : jsOk σ0 W js = true) (hl : isKey l js = true) : l % 8 = 7 := by
  induction js with
  | nil => cases hl
  | cons j js ih =>
    cases j with
    | val s t => simp only [jsOk, Bool.and_eq_true] at h; exact ih h.2 hl
    | hdr s k t m =>
      simp only [jsOk, Bool.and_eq_true] at h
      simp only [isKey, Bool.or_eq_true] at hl
      rcases hl with hl | hl
      · rw [Nat.eq_of_beq_eq_true hl]; exact Nat.eq_of_beq_eq_true h.1.2.2
      · exact ih h.2 hl
def FixOk (B : Base) (σ0 : St) : Prop := ∀ l cs, B.fix l = some cs → σ0.U l = true
theorem InvG.fixOk (h : InvG B F Sg cg σ a w) : FixOk B σ := fun l cs hf => (h.fix l cs hf).1.1

theorem arr_ok {R : Type} {σ0 σ1 : St} {W : Nat → Bool} (h : Inv B σ1 a w) (hv : VerOk σ0) (hvf : FixOk B σ0) (hes : ES σ0 σ1 W) {s : Spec} (hs : specOk σ0 s W = true) {K : s.T → Option R} {r : R} (hk : arrK σ0 s σ1 K = some r) : ∃ x, K x = some r ∧ Inv B (stJ σ0 s x) a w := by
  obtain ⟨F, Sg, cg, h⟩ := h
  unfold arrK at hk
  unfold specOk at hs
  simp only [Bool.and_eq_true] at hs
  obtain ⟨hs1, hs2, hs3⟩ := hs
  cases hka : keepArr σ0 σ1 s.keep
  · rw [hka] at hk; cases hk
  rw [hka] at hk
  simp only [cond_true] at hk
  obtain ⟨xs, L', hk, hL', hip⟩ := ipK_ok (σ0 := σ0) s.ip σ1.L _ r hk
  have hbase : InvG B F Sg cg (baseJ σ0 s xs) a w :=
    { fr := h.fr
      size := h.size
      defers := h.defers
      f0 := h.f0
      fl := h.fl
      fs := h.fs
      lab := fun l b hb => by obtain ⟨_, _, b1, q1, rfl⟩ := hip l b hb; exact h.lab l b1 q1
      dis := fun l l' b b' hne hb hb' => by
        obtain ⟨_, _, b1, q1, _⟩ := hip l b hb
        obtain ⟨_, _, b2, q2, _⟩ := hip l' b' hb'
        exact h.dis l l' b1 b2 hne q1 q2
      disF := fun l b hb => by obtain ⟨_, _, b1, q1, _⟩ := hip l b hb; exact h.disF l b1 q1
      lt := fun l b hb => by obtain ⟨_, _, b1, q1, _⟩ := hip l b hb; exact h.lt l b1 q1
      may := fun l b hb => by obtain ⟨_, _, b1, q1, _⟩ := hip l b hb; exact h.may l b1 q1
      used := fun l b hb => by obtain ⟨q0, _⟩ := hip l b hb; simp [baseJ, q0]
      fix := fun l cs' hf => by
        obtain ⟨⟨q1, q2⟩, q3⟩ := h.fix l cs' hf
        refine ⟨⟨?_, q2⟩, fun b hb => ?_⟩
        · have hkey : isKey l s.js = false := by
            cases hi : isKey l s.js
            · rfl
            · have := jsOk_key hs3 hi; omega
          simp [baseJ, hvf l cs' hf, hkey]
        · obtain ⟨_, _, b1, g1, _⟩ := hip l b hb
          exact q3 b1 g1
      ent := fun t e he => by
        simp only [baseJ] at he
        cases hm : memB t s.keep
        · rw [hm] at he; cases he
        rw [hm] at he
        simp only [cond_true] at he
        have hmem := keep_mem hm
        have hka' := keepArr_mem hka hmem
        obtain ⟨hW, hno⟩ := keepOk_mem hs1 hmem
        have hE1 : σ1.E t = some e := by
          rw [he] at hka'
          simp only [Option.isNone_some, Bool.false_or, Bool.and_eq_true] at hka'
          rcases hes t hW with e1 | e1 | ⟨e1, e2⟩
          · rw [e1, he]
          · rw [e1] at hka'; simp at hka'
          · rw [he] at e1
            rw [e1, e2] at hka'
            simp at hka'
        have h1 := h.ent t e hE1
        rw [he] at hno
        cases e with
        | tup es => simp [noKey] at hno
        | one e =>
          have hver := hv t e he
          have fin : ∀ l n, (σ0.U l = true ∧ ∀ b, σ0.L l = some b → n ≤ b.v) → isKey l s.js = false → (baseJ σ0 s xs).U l = true ∧ ∀ b', (baseJ σ0 s xs).L l = some b' → ∃ b1, σ1.L l = some b1 ∧ n < b'.v ∧ b'.t = b1.t := by
            intro l n hln hkey
            refine ⟨by simp [baseJ, hln.1, hkey], fun b' hb' => ?_⟩
            obtain ⟨q0, _, b1, q1, rfl⟩ := hip l b' hb'
            refine ⟨b1, q1, ?_, rfl⟩
            have := (ipOk_get hs2 q0).1
            rw [hln.1] at this
            simp only [Bool.not_true, Bool.or_false] at this
            obtain ⟨b0, hb0⟩ := Option.isSome_iff_exists.1 this
            simp only [verOf, hb0]
            exact Nat.lt_succ_of_le (hln.2 b0 hb0)
          cases e with
          | val t x => exact h1
          | cst u => exact h1
          | radr t x => exact h1
          | hdr l n π c =>
            simp only [noKey, entKey, Bool.not_eq_true'] at hno
            obtain ⟨f1, f2⟩ := fin l n (hver.1 l n π c rfl) hno
            refine ⟨f1, fun b' hb' => ?_⟩
            obtain ⟨b1, q1, q2, q3⟩ := f2 b' hb'
            obtain ⟨k1, k2, k3⟩ := h1.2 b1 q1
            exact ⟨Nat.le_of_lt q2, fun hp => by rw [q3]; exact k2 hp, fun hn => by omega⟩
          | adr l n π c =>
            simp only [noKey, entKey, Bool.not_eq_true'] at hno
            obtain ⟨f1, f2⟩ := fin l n (hver.2 l n π c rfl) hno
            refine ⟨f1, fun b' hb' => ?_⟩
            obtain ⟨b1, q1, q2, q3⟩ := f2 b' hb'
            obtain ⟨k1, k2, k3⟩ := h1.2 b1 q1
            exact ⟨Nat.le_of_lt q2, fun hp p o hr => k2 hp p o (by rw [← q3]; exact hr), fun hn => by omega⟩ }
  obtain ⟨ys, g1, g2⟩ := jsK_ok h (σ0 := σ0) (W := W) s.js L' _ r (baseJ σ0 s xs) Sg cg hk hs3 hL' hbase (fun l hl => by
      simp only [baseJ, hl, Bool.not_true, Bool.and_false, Bool.false_or]
      cases hi : isIp l s.ip
      · rfl
      · rw [(ipOk_get hs2 hi).2] at hl; cases hl)
    (fun k bk hbk l b hl => by
      obtain ⟨_, q1, b1, q2, _⟩ := hip k bk hbk
      have hl1 : σ1.L l = some b := by
        rcases hL' l with e | e
        · rw [e] at hl; cases hl
        · rw [← e]; exact hl
      by_cases e : k = l
      · subst e; rw [q1] at hl; cases hl
      · exact h.dis k l b1 b e q2 hl1)
  exact ⟨(xs, ys), g1, g2⟩

theorem stJ_es {σ0 : St} {W : Nat → Bool} {s : Spec} (hs : specOk σ0 s W = true) (x : s.T) : ES σ0 (stJ σ0 s x) W := by
  unfold specOk at hs
  simp only [Bool.and_eq_true] at hs
  have key : ∀ (js : List JE) (ys : (jsT js).T) (σp : St), jsOk σ0 W js = true → ES σ0 σp W → ES σ0 (stJs js ys σp) W := by
    intro js
    induction js with
    | nil => intro ys σp _ h; exact h
    | cons j js ih =>
      intro ys σp ho h
      cases j with
      | val s t =>
        simp only [jsOk, Bool.and_eq_true, Bool.or_eq_true] at ho
        refine ih ys.2 _ ho.2 (fun j hj => ?_)
        by_cases e : j = s
        · subst e
          rcases ho.1 with h1 | h1
          · rw [hj] at h1; cases h1
          · exact .inr (.inr ⟨h1, by simp only [upd_same]; rfl⟩)
        · simp only [upd_ne _ _ e]; exact h j hj
      | hdr s key t m =>
        simp only [jsOk, Bool.and_eq_true, Bool.not_eq_true'] at ho
        refine ih ys.2 _ ho.2 (fun j hj => ?_)
        by_cases e : j = s
        · subst e; rw [hj] at ho; exact absurd ho.1.1 (by simp)
        · simp only [upd_ne _ _ e]; exact h j hj
  refine key s.js x.2 _ hs.2.2 (fun j hj => ?_)
  simp only [baseJ]
  cases memB j s.keep
  · exact .inr (.inl rfl)
  · exact .inl rfl
end
end Go.Proofs.YtgonfcjdhbjkcaaDoor.Rf
/- Layer 31: what is handed on may be handed on further: every step is a bind. -/
set_option linter.unusedVariables false
set_option linter.unusedSimpArgs false
namespace Go.Proofs.YtgonfcjdhbjkcaaDoor.Rf
open Go

section
variable {R R' : Type} (G : R → Option R')

theorem ite_bind (c : Bool) (x y : Option R) : (bif c then x else y).bind G = bif c then x.bind G else y.bind G := by cases c <;> rfl
theorem if_bind (p : Prop) [Decidable p] (x y : Option R) : (if p then x else y).bind G = if p then x.bind G else y.bind G := by split <;> rfl
theorem none_bind : (none : Option R).bind G = none := rfl
theorem derefK_bind (c : V) (K : V → Option R) : (derefK c K).bind G = derefK c fun q => (K q).bind G := by
  obtain ⟨t, x⟩ := c
  cases t <;> first
    | rfl
    | (cases x <;> rfl)
theorem asT_bind (e : Ent0) (t : Ty) (K : t.T → Option R) : (asT e t K).bind G = asT e t fun x => (K x).bind G := by
  unfold asT; simp only [Bool.cond_eq_ite]; repeat' split
  all_goals rfl
theorem isIdx_bind (e : Ent0) (K : Int → Option R) : (isIdx e K).bind G = isIdx e fun x => (K x).bind G := by
  unfold isIdx; repeat' split
  all_goals rfl
theorem plc_bind (σ : St) (e : Ent0) (K : Nat → Lab → List Stp → V → Option R) : (plc σ e K).bind G = plc σ e fun l b π c => (K l b π c).bind G := by
  unfold plc
  split
  · cases σ.L _ with
    | none => rfl
    | some b =>
      simp only [Bool.cond_eq_ite]
      repeat' split
      all_goals first
        | rfl
        | (rw [getP_eq, getP_eq, Option.bind_assoc])
  · cases σ.L _ with
    | none => rfl
    | some b =>
      simp only [ite_bind, derefK_bind, none_bind]
  · rfl
theorem hcur_bind (σ : St) (e : Ent0) (K : Nat → Lab → List Stp → V → Option R) : (hcur σ e K).bind G = hcur σ e fun l b π c => (K l b π c).bind G := by
  unfold hcur; simp only [Bool.cond_eq_ite]; repeat' split
  all_goals rfl
theorem roPtr_bind (e : Ent0) (K : (t : Ty) → t.T → Option R) : (roPtr e K).bind G = roPtr e fun t x => (K t x).bind G := by
  unfold roPtr; repeat' split
  all_goals rfl
theorem getP_bind (t : Ty) (x : t.T) (π : List Stp) (K : (u : Ty) → u.T → Option R) : (getP t x π K).bind G = getP t x π fun u y => (K u y).bind G := by
  rw [getP_eq, getP_eq, Option.bind_assoc]
theorem setP_bind (t : Ty) (x : t.T) (π : List Stp) (u : Ty) (y : u.T) (K : t.T → Option R) : (setP t x π u y K).bind G = setP t x π u y fun z => (K z).bind G := by
  rw [setP_eq, setP_eq, Option.bind_assoc]
theorem fldK_bind (TT : Tab) (s f : Nat) (K : TD → Nat → List Stp → TD → Option R) : (fldK TT s f K).bind G = fldK TT s f fun a b c d => (K a b c d).bind G := by
  unfold fldK; simp only [Bool.cond_eq_ite]; repeat' split
  all_goals rfl
theorem partK_bind (L : Nat → Option Lab) (t : Ty) (e : Ent0) (K : t.T → Md → (Nat → Option Lab) → Option R) : (partK L t e K).bind G = partK L t e fun a b c => (K a b c).bind G := by
  unfold partK; repeat' split
  all_goals first
    | rfl
    | exact asT_bind G _ _ _
theorem placeK_bind (TT : Tab) (t : TypeId) (d : TD) (i : Nat) (K : Nat → List Stp → TD → Option R) : (placeK TT t d i K).bind G = placeK TT t d i fun a b c => (K a b c).bind G := by
  unfold placeK; simp only [Bool.cond_eq_ite]; repeat' split
  all_goals first
    | rfl
    | exact fldK_bind G _ _ _ _
theorem partsK_bind (TT : Tab) (t : TypeId) (d : TD) : ∀ (es : List (Nat × Ent0)) (x : d.ty.T) (m : Md) (L : Nat → Option Lab) (K : d.ty.T → Md → (Nat → Option Lab) → Option R), (partsK TT t d es x m L K).bind G = partsK TT t d es x m L fun a b c => (K a b c).bind G := by
  intro es
  induction es with
  | nil => intro x m L K; rfl
  | cons p es ih =>
    obtain ⟨i, e⟩ := p
    intro x m L K
    simp only [partsK]
    rw [placeK_bind]
    congr 1
    funext k φ df
    rw [ite_bind, partK_bind]
    congr 1
    congr 1
    funext y my L'
    split
    · rw [setP_bind]
      congr 1
      funext x'
      exact ih _ _ _ _
    · rfl
theorem rowK_bind (t : Ty) (m : Md) : ∀ (es : List (Nat × Ent0)) (L : Nat → Option Lab) (K : List t.T → (Nat → Option Lab) → Option R), (rowK t m es L K).bind G = rowK t m es L fun a b => (K a b).bind G := by
  intro es
  induction es with
  | nil => intro L K; rfl
  | cons p es ih =>
    obtain ⟨i, e⟩ := p
    intro L K
    simp only [rowK]
    rw [partK_bind]
    congr 1
    funext y my L'
    rw [ite_bind, ih]
    rfl
theorem srcK_bind (σ : St) (str : Bool) (te : Ty) (e : Ent0) (K : List te.T → Md → Option Nat → Option R) : (srcK σ str te e K).bind G = srcK σ str te e fun a b c => (K a b c).bind G := by
  unfold srcK; simp only [Bool.cond_eq_ite]; repeat' split
  all_goals first
    | rfl
    | exact asT_bind G _ _ _
    | (rw [hcur_bind]; congr 1; funext l b π c; repeat' split) <;> rfl
theorem cutK_bind (lo hi : Option Ent0) (n : Nat) (K : Int → Int → Option R) : (cutK lo hi n K).bind G = cutK lo hi n fun a b => (K a b).bind G := by
  unfold cutK
  cases lo with
  | none =>
    cases hi with
    | none => simp only; rw [if_bind]; rfl
    | some eh => simp only; rw [isIdx_bind]; congr 1; funext h; rw [if_bind]; rfl
  | some el =>
    simp only
    rw [isIdx_bind]
    congr 1
    funext l
    cases hi with
    | none => simp only; rw [if_bind]; rfl
    | some eh => simp only; rw [isIdx_bind]; congr 1; funext h; rw [if_bind]; rfl
theorem partM_bind (L : Nat → Option Lab) (t : Ty) (m : Md) (e : Ent0) (K : t.T → (Nat → Option Lab) → Option R) : (partM L t m e K).bind G = partM L t m e fun a b => (K a b).bind G := by
  unfold partM
  rw [ite_bind, partK_bind, asT_bind]
  congr 1
  congr 1
  funext y my L'
  rw [ite_bind]
  rfl
theorem argK_bind (σ : St) (L : Nat → Option Lab) (t : Ty) (m : Md) (e : Ent0) (K : t.T → (Nat → Option Lab) → List Nat → Option R) : (argK σ L t m e K).bind G = argK σ L t m e fun a b c => (K a b c).bind G := by
  unfold argK
  rw [ite_bind, partM_bind]
  congr 1
  · split
    · rw [hcur_bind]; congr 1; funext l b π c; split <;> rfl
    · exact asT_bind G _ _ _
theorem argsK_bind (σ : St) : ∀ (ps : List (Ty × Md)) (es : List Ent0) (L : Nat → Option Lab) (K : (tupT ps).T → (Nat → Option Lab) → List Nat → Option R), (argsK σ ps es L K).bind G = argsK σ ps es L fun a b c => (K a b c).bind G := by
  intro ps
  induction ps with
  | nil => intro es L K; cases es <;> rfl
  | cons p ps ih =>
    intro es L K
    cases es with
    | nil => rfl
    | cons e es =>
      simp only [argsK]
      rw [argK_bind]
      congr 1
      funext x L1 b1
      rw [ih]
theorem resK_bind : ∀ (rs : List (Ty × Md)) (x : (tupT rs).T) (key : Nat) (σ : St) (K : St → List Ent0 → Option R), (resK rs x key σ K).bind G = resK rs x key σ fun a b => (K a b).bind G := by
  intro rs
  induction rs with
  | nil => intro x key σ K; rfl
  | cons p rs ih =>
    intro x key σ K
    simp only [resK]
    rw [ite_bind, ite_bind, ih, ih]
    rfl
theorem callB_bind {A : Type} (o : Option A) (k : A → Option R) : (callB o k).bind G = callB o fun a => (k a).bind G := by cases o <;> rfl
end
end Go.Proofs.YtgonfcjdhbjkcaaDoor.Rf
/- Layer 32: one operation is a bind; it looks at its own slots alone. -/
set_option linter.unusedVariables false
set_option linter.unusedSimpArgs false
namespace Go.Proofs.YtgonfcjdhbjkcaaDoor.Rf
open Go

section
variable {R R' : Type} (G : R → Option R')

theorem xBin_bind (td : Option TD) (op : BinOp) (x y : Ent0) (K : Ent0 → Option R) : (xBin td op x y K).bind G = xBin td op x y fun e => (K e).bind G := by
  unfold xBin
  split
  · cases op <;> simp only [ite_bind, if_bind, none_bind]
  · cases op <;> simp only [ite_bind, if_bind, none_bind]
  · cases op <;> simp only [ite_bind, if_bind, none_bind]
  · rfl
theorem xLoad_bind (d : TD) (σ : St) (e : Ent0) (K : Ent0 → Option R) : (xLoad d σ e K).bind G = xLoad d σ e fun e => (K e).bind G := by
  unfold xLoad
  simp only [ite_bind, plc_bind, roPtr_bind, none_bind]
theorem xFieldAddr_bind (TT : Tab) (σ : St) (s : TypeId) (e : Ent0) (f : Nat) (K : Ent0 → Option R) : (xFieldAddr TT σ s e f K).bind G = xFieldAddr TT σ s e f fun e => (K e).bind G := by
  unfold xFieldAddr
  simp only [fldK_bind, ite_bind, plc_bind, roPtr_bind, getP_bind, none_bind]
theorem xField_bind (TT : Tab) (σ : St) (s : TypeId) (e : Ent0) (f : Nat) (K : Ent0 → Option R) : (xField TT σ s e f K).bind G = xField TT σ s e f fun e => (K e).bind G := by
  unfold xField
  rw [fldK_bind]
  congr 1
  funext d k φ df
  rw [ite_bind]
  congr 1
  cases e <;> simp only [ite_bind, hcur_bind, getP_bind, none_bind]
theorem xIndexAddr_bind (TT : Tab) (σ : St) (t : TypeId) (ex ei : Ent0) (K : Ent0 → Option R) : (xIndexAddr TT σ t ex ei K).bind G = xIndexAddr TT σ t ex ei fun e => (K e).bind G := by
  unfold xIndexAddr
  rw [isIdx_bind]
  congr 1
  funext i
  split
  · rfl
  · split
    · split
      · rfl
      · split
        · simp only [ite_bind, if_bind, none_bind]
          congr 1
          split
          · split <;> rfl
          · rfl
        · simp only [ite_bind, hcur_bind, getP_bind, none_bind]
        · rfl
    · split
      · rfl
      · simp only [ite_bind, plc_bind, roPtr_bind, getP_bind, none_bind]
    · rfl
theorem xIndex_bind (TT : Tab) (t : TypeId) (ex ei : Ent0) (K : Ent0 → Option R) : (xIndex TT t ex ei K).bind G = xIndex TT t ex ei fun e => (K e).bind G := by
  unfold xIndex
  rw [isIdx_bind]
  congr 1
  funext i
  simp only [Bool.cond_eq_ite]
  repeat' split
  all_goals rfl
theorem xLen_bind (TT : Tab) (σ : St) (t : TypeId) (e : Ent0) (K : Ent0 → Option R) : (xLen TT σ t e K).bind G = xLen TT σ t e fun e => (K e).bind G := by
  unfold xLen
  split
  · rfl
  · split
    · split <;> rfl
    · split
      · rfl
      · rw [hcur_bind]; congr 1; funext l b π c; split <;> rfl
      · rfl
      · rfl
    · split
      · rw [hcur_bind]; congr 1; funext l b π c; split
        · rw [ite_bind]; rfl
        · rfl
      · rfl
    · rfl
theorem xCap_bind (TT : Tab) (σ : St) (t : TypeId) (e : Ent0) (K : Ent0 → Option R) : (xCap TT σ t e K).bind G = xCap TT σ t e fun e => (K e).bind G := by
  unfold xCap
  split
  · rfl
  · split
    · split
      · rw [hcur_bind]; congr 1; funext l b π c; split
        · rw [ite_bind]; rfl
        · rfl
      · rfl
    · rfl
theorem xNil_bind (σ : St) (e : Ent0) (K : Ent0 → Option R) : (xNil σ e K).bind G = xNil σ e fun e => (K e).bind G := by
  unfold xNil
  simp only [ite_bind, plc_bind, roPtr_bind]
theorem xUn_bind (op : UnOp) (e : Ent0) (K : Ent0 → Option R) : (xUn op e K).bind G = xUn op e fun e => (K e).bind G := by
  unfold xUn; split <;> rfl
theorem xMin_bind (x y : Ent0) (K : Ent0 → Option R) : (xMin x y K).bind G = xMin x y fun e => (K e).bind G := by
  unfold xMin; split <;> first | rfl | exact asT_bind G _ _ _
theorem xMax_bind (x y : Ent0) (K : Ent0 → Option R) : (xMax x y K).bind G = xMax x y fun e => (K e).bind G := by
  unfold xMax; split <;> first | rfl | exact asT_bind G _ _ _
theorem xConv_bind (TT : Tab) (σ : St) (s t : TypeId) (e : Ent0) (K : Ent0 → Option R) : (xConv TT σ s t e K).bind G = xConv TT σ s t e fun e => (K e).bind G := by
  unfold xConv
  split
  · rfl
  · split
    · rfl
    · split
      · split <;> rfl
      · split
        · split <;> rfl
        · split
          · rfl
          · split
            · split
              · rfl
              · rw [hcur_bind]; congr 1; funext l b π c; split <;> rfl
              · rfl
              · rfl
            · rfl
        · rfl
      · rfl
theorem xBytes_bind (de : TD) (σ : St) (dst : Nat) (e : Ent0) (K : St → Option R) : (xBytes de σ dst e K).bind G = xBytes de σ dst e fun e => (K e).bind G := by
  unfold xBytes
  rw [ite_bind]
  congr 1
  split
  · split <;> rfl
  · rfl
theorem xCmp_bind (TT : Tab) (EQ : TypeId → Bool) (σ : St) (t : TypeId) (op : BinOp) (x y : Ent0) (K : Ent0 → Option R) : (xCmp TT EQ σ t op x y K).bind G = xCmp TT EQ σ t op x y fun e => (K e).bind G := by
  unfold xCmp
  split
  · split
    · rw [ite_bind]
      congr 1
      unfold xEqS
      split
      · rw [asT_bind]; congr 1; funext a
        rw [asT_bind]; congr 1; funext b
        split
        · split <;> rfl
        · rfl
      · rfl
    · rw [ite_bind]
      congr 1
      unfold xEqA
      split
      · rw [ite_bind]
        congr 1
        rw [asT_bind]; congr 1; funext a
        rw [asT_bind]; congr 1; funext b
        split <;> rfl
      · rfl
    · unfold xEqP
      split
      · simp only
        split
        · split <;> rfl
        · split <;> rfl
        · rw [hcur_bind]; congr 1; funext l b π c
          split
          · split <;> rfl
          · split <;> rfl
          · rfl
        · split <;> rfl
        · rfl
      · rfl
    · exact xBin_bind G _ _ _ _ _
  · exact xBin_bind G _ _ _ _ _
theorem xAlloc_bind (d : TD) (σ : St) (dst : Nat) (K : St → Option R) : (xAlloc d σ dst K).bind G = xAlloc d σ dst fun e => (K e).bind G := by
  unfold xAlloc; simp only [ite_bind, none_bind]; congr 1; split <;> rfl
theorem xBox_bind (d : TD) (σ : St) (dst : Nat) (e : Ent0) (K : St → Option R) : (xBox d σ dst e K).bind G = xBox d σ dst e fun e => (K e).bind G := by
  unfold xBox; simp only [ite_bind, none_bind]; congr 1; split
  · split
    · simp only [ite_bind, none_bind]
    · rfl
  · exact asT_bind G _ _ _
theorem xMake_bind (d : TD) (σ : St) (dst : Nat) (e1 e2 : Ent0) (K : St → Option R) : (xMake d σ dst e1 e2 K).bind G = xMake d σ dst e1 e2 fun e => (K e).bind G := by
  unfold xMake
  simp only [ite_bind, none_bind, isIdx_bind, if_bind]
  congr 1
  congr 1
  funext n
  congr 1
  funext c
  congr 1
  congr 1
  split <;> rfl
theorem xStore_bind (d : TD) (σ : St) (e1 e2 : Ent0) (K : St → Option R) : (xStore d σ e1 e2 K).bind G = xStore d σ e1 e2 fun e => (K e).bind G := by
  unfold xStore
  rw [plc_bind]
  congr 1
  funext l b π c
  rw [ite_bind]
  congr 1
  split
  · rw [ite_bind]
    congr 1
    split
    · split
      · rw [setP_bind]; congr 1; funext x; rw [ite_bind]; rfl
      · rfl
    · rfl
  · rw [asT_bind]
    congr 1
    funext y
    split
    · rw [setP_bind]
    · rfl
theorem xPut_bind (d : TD) (σ : St) (e1 e2 : Ent0) (K : St → Option R) : (xPut d σ e1 e2 K).bind G = xPut d σ e1 e2 fun e => (K e).bind G := by
  unfold xPut
  rw [plc_bind]
  congr 1
  funext l b π c
  rw [ite_bind]
  congr 1
  split
  · split
    · rw [ite_bind]
      congr 1
      split
      · rw [ite_bind]; congr 1; split <;> rfl
      · rfl
    · rw [asT_bind]
      congr 1
      funext y
      split <;> rfl
  · rfl
theorem xPutI_bind (d : TD) (σ : St) (e1 e2 : Ent0) (K : St → Option R) : (xPutI d σ e1 e2 K).bind G = xPutI d σ e1 e2 fun e => (K e).bind G := by
  unfold xPutI
  split
  · split
    · split
      · split
        · rw [ite_bind]; congr 1; split
          · split <;> rfl
          · rfl
        · rfl
      · rfl
    · rfl
  · rfl
theorem xSt_bind (d : TD) (σ : St) (e1 e2 : Ent0) (K : St → Option R) : (xSt d σ e1 e2 K).bind G = xSt d σ e1 e2 fun e => (K e).bind G := by
  unfold xSt
  rw [ite_bind, xPutI_bind, xStore_bind]
theorem xHoleAddr_bind (TT : Tab) (σ : St) (t : TypeId) (ex ei : Ent0) (K : Ent0 → Option R) : (xHoleAddr TT σ t ex ei K).bind G = xHoleAddr TT σ t ex ei fun e => (K e).bind G := by
  unfold xHoleAddr
  split
  · split
    · unfold isIdx
      split
      · split
        · split
          · split
            · rw [ite_bind]; congr 1; split <;> rfl
            · rfl
          · rfl
        · rfl
      · rfl
    · rfl
  · rfl
theorem xIxA_bind (TT : Tab) (σ : St) (t : TypeId) (ex ei : Ent0) (K : Ent0 → Option R) : (xIxA TT σ t ex ei K).bind G = xIxA TT σ t ex ei fun e => (K e).bind G := by
  unfold xIxA
  rw [ite_bind, xHoleAddr_bind, xIndexAddr_bind]
theorem xApp_bind (d : TD) (σ : St) (str : Bool) (lk dst : Nat) (e1 e2 : Ent0) (K : St → Option R) : (xApp d σ str lk dst e1 e2 K).bind G = xApp d σ str lk dst e1 e2 fun e => (K e).bind G := by
  unfold xApp
  rw [ite_bind, srcK_bind]
  congr 1
  congr 1
  funext x2 m2 lo
  split
  · split
    · split
      · simp only [ite_bind, if_bind, none_bind]
      · rfl
    · rfl
  · rw [asT_bind]; congr 1; funext x1; simp only [if_bind, none_bind]
  · rfl
theorem xAppend_bind (d : TD) (σ : St) (str : Bool) (dst : Nat) (e1 e2 : Ent0) (K : St → Option R) : (xAppend d σ str dst e1 e2 K).bind G = xAppend d σ str dst e1 e2 fun e => (K e).bind G := by
  unfold xAppend
  split
  · split
    · rw [ite_bind]; congr 1; split
      · exact xApp_bind G _ _ _ _ _ _ _ _
      · rfl
    · rfl
  · split
    · rw [ite_bind]; congr 1; split
      · split
        · exact xApp_bind G _ _ _ _ _ _ _ _
        · rfl
      · rfl
    · rfl
  · exact xApp_bind G _ _ _ _ _ _ _ _
theorem xBuild_bind (TT : Tab) (σ : St) (t : TypeId) (dst : Nat) (own : Bool) (ps : List (Nat × Operand)) (KV : Ent0 → Option R) (K : St → Option R) : (xBuild TT σ t dst own ps KV K).bind G = xBuild TT σ t dst own ps (fun e => (KV e).bind G) fun e => (K e).bind G := by
  unfold xBuild
  split
  · rfl
  · rw [ite_bind]
    congr 1
    split
    · rfl
    · split
      · rfl
      · rw [partsK_bind]; congr 1; funext x m L; simp only [ite_bind, none_bind]
theorem xRow_bind (d : TD) (σ : St) (dst len : Nat) (ps : List (Nat × Operand)) (K : St → Option R) : (xRow d σ dst len ps K).bind G = xRow d σ dst len ps fun e => (K e).bind G := by
  unfold xRow
  rw [ite_bind]
  congr 1
  split
  · rw [ite_bind, rowK_bind]; rfl
  · rfl
theorem xCut_bind (TT : Tab) (σ : St) (t : TypeId) (dst : Nat) (ex : Ent0) (lo hi : Option Ent0) (KV : Ent0 → Option R) (K : St → Option R) : (xCut TT σ t dst ex lo hi KV K).bind G = xCut TT σ t dst ex lo hi (fun e => (KV e).bind G) fun e => (K e).bind G := by
  unfold xCut
  split
  · rfl
  · split
    · split
      · exact cutK_bind G _ _ _ _
      · rfl
    · split
      · rfl
      · split
        · rw [ite_bind, cutK_bind]; rfl
        · rw [ite_bind]
          congr 1
          split
          · rw [ite_bind, cutK_bind]; rfl
          · rfl
        · rw [ite_bind]
          congr 1
          split
          · rw [ite_bind]
            congr 1
            split
            · split
              · rw [ite_bind, cutK_bind]; rfl
              · rfl
            · rfl
          · rfl
        · rfl
    · rfl
theorem callK_bind (σ : St) (dst : Option Nat) (c : Callee) (es : List Ent0) (K : St → Option R) : (callK σ dst c es K).bind G = callK σ dst c es fun e => (K e).bind G := by
  unfold callK
  rw [argsK_bind]
  congr 1
  funext x L bs
  rw [ite_bind, callB_bind]
  congr 1
  congr 1
  funext r
  split
  · split
    · rw [resK_bind]
    · rfl
  · rfl
theorem elemK_bind (TT : Tab) (t : TypeId) (K : TD → Option R) : (elemK TT t K).bind G = elemK TT t fun d => (K d).bind G := by
  unfold elemK; repeat' split
  all_goals rfl
theorem builtinK_bind (V : Env) (σ : St) (b : Builtin) (ts : List TypeId) (xs : List Operand) (dst : Option Nat) (K : St → Option R) : (builtinK V σ b ts xs dst K).bind G = builtinK V σ b ts xs dst fun e => (K e).bind G := by
  unfold builtinK
  split
  · split
    · exact xLen_bind G _ _ _ _ _
    · rfl
  · split
    · exact xCap_bind G _ _ _ _ _
    · rfl
  · split
    · rw [elemK_bind]
      congr 1
      funext de
      split
      · split
        · split
          · exact xAppend_bind G _ _ _ _ _ _ _
          · rfl
        · rfl
      · rfl
    · rfl
  · split
    · split
      · exact xMin_bind G _ _ _
      · rfl
    · rfl
  · split
    · split
      · exact xMax_bind G _ _ _
      · rfl
    · rfl
  · rfl
theorem opK_bind (V : Env) (σ : St) (o : Oper) (K : St → Option R) : (opK V σ o K).bind G = opK V σ o fun e => (K e).bind G := by
  unfold opK
  split
  · split
    · rfl
    · split <;> rfl
  · split
    · rfl
    · split <;> rfl
  · split
    · split
      · split <;> rfl
      · split <;> rfl
    · rfl
  · split
    · split
      · exact xAlloc_bind G _ _ _ _
      · rfl
    · rfl
  · split
    · split
      · split
        · exact xBox_bind G _ _ _ _ _
        · rfl
      · rfl
    · rfl
  · split
    · exact xBuild_bind G _ _ _ _ _ _ _ _
    · rfl
  · split
    · rw [elemK_bind]; congr 1; funext de; exact xRow_bind G _ _ _ _ _ _
    · rfl
  · split
    · split
      · exact xLoad_bind G _ _ _ _
      · rfl
    · rfl
  · split
    · split
      · split
        · rw [ite_bind, xSt_bind, xPut_bind]
        · rfl
      · rfl
    · rfl
  · split
    · exact xNil_bind G _ _ _
    · rfl
  · split
    · split
      · exact xCmp_bind G _ _ _ _ _ _ _ _
      · rfl
    · rfl
  · split
    · exact xUn_bind G _ _ _
    · rfl
  · rw [ite_bind]
    congr 1
    · split
      · rw [elemK_bind]
        congr 1
        funext de
        split
        · exact xBytes_bind G _ _ _ _ _
        · rfl
      · rfl
    · split
      · exact xConv_bind G _ _ _ _ _ _
      · rfl
  · split
    · rw [elemK_bind]
      congr 1
      funext de
      split
      · split
        · exact xMake_bind G _ _ _ _ _ _
        · rfl
      · rfl
    · rfl
  · split
    · rfl
    · split
      · split
        · split
          · split
            · exact xCut_bind G _ _ _ _ _ _ _ _ _
            · rfl
          · rfl
        · rfl
      · rfl
  · split
    · exact xFieldAddr_bind G _ _ _ _ _ _
    · rfl
  · split
    · exact xField_bind G _ _ _ _ _ _
    · rfl
  · split
    · split
      · exact xIxA_bind G _ _ _ _ _ _
      · rfl
    · rfl
  · split
    · split
      · exact xIndex_bind G _ _ _ _ _
      · rfl
    · rfl
  · split
    · split <;> rfl
    · rfl
  · split
    · exact builtinK_bind G _ _ _ _ _ _ _
    · split
      · split
        · rw [ite_bind]
          congr 1
          · exact callK_bind G _ _ _ _ _
          · split
            · exact callK_bind G _ _ _ _ _
            · rfl
        · rfl
      · rfl
    · rfl
  · rfl
end
end Go.Proofs.YtgonfcjdhbjkcaaDoor.Rf
/- Layer 33: one operation looks at its own slots alone. -/
set_option linter.unusedVariables false
set_option linter.unusedSimpArgs false
namespace Go.Proofs.YtgonfcjdhbjkcaaDoor.Rf
open Go

def callOpnds (c : Call) : List Operand := c.args.toList
/-- The operands an operation looks at. -/
def opnds : Op → List Operand
  | .move x | .assign x | .box _ x | .load _ x | .nilCheck x | .unOp _ _ x | .convert _ _ x | .fieldAddr _ x _ | .field _ x _ | .extract x _ => [x]
  | .pick c a b => [c, a, b]
  | .build _ ps | .buildSlice _ _ ps => ps.toList.map (·.2)
  | .store _ a v | .binOp _ _ a v _ | .makeSlice _ a v | .indexAddr _ a v | .index _ a v => [a, v]
  | .slice _ x l h _ => x :: (l.toList ++ h.toList)
  | .call c => callOpnds c
  | _ => []
def tmpsOf : List Operand → List Nat
  | [] => []
  | .tmp t :: xs => t :: tmpsOf xs
  | _ :: xs => tmpsOf xs
def looks (o : Oper) : List Nat := tmpsOf (opnds o.op)

/-- No call that freezes what it is handed. -/
def calm (V : Env) (o : Oper) : Bool := match o.op with
  | .call c => (match c.callee with
    | .value (.func f) => (match V.CT f with | some ce => (closedL ce.rs && closedL ce.ms) || V.ownO o.dst | none => true)
    | _ => true)
  | _ => true

def updO (E : Nat → Option Ent) (dst : Option Nat) (E1 : Nat → Option Ent) : Nat → Option Ent := match dst with | some d => upd E d (E1 d) | none => E
def rebase (E : Nat → Option Ent) (dst : Option Nat) (σ : St) : St := ⟨updO E dst σ.E, σ.L, σ.U⟩

section
variable {R : Type} {E E' : Nat → Option Ent} {L : Nat → Option Lab} {U : Nat → Bool}

theorem upd_upd (f g : Nat → Option Ent) (d : Nat) (e : Option Ent) : upd f d (upd g d e d) = upd f d e := by rw [upd_same]
theorem rebase_setV (dst : Option Nat) (e : Ent0) : rebase E dst (St.setV ⟨E', L, U⟩ dst e) = St.setV ⟨E, L, U⟩ dst e := by
  cases dst with
  | none => rfl
  | some d => simp only [rebase, updO, St.setV, St.setE, upd_same]
theorem rebase_setU (dst : Option Nat) (L' : Nat → Option Lab) : rebase E dst (St.setU (St.withL ⟨E', L, U⟩ L') dst) = St.setU (St.withL ⟨E, L, U⟩ L') dst := by
  cases dst with
  | none => rfl
  | some d => simp only [rebase, updO, St.setU, St.withL, upd_same]
theorem rebase_mk (L' : Nat → Option Lab) (l d : Nat) (b : Lab) : rebase E (some d) (St.mk' ⟨E', L, U⟩ L' l d b) = St.mk' ⟨E, L, U⟩ L' l d b := by
  simp only [rebase, updO, St.mk', upd_same]
theorem rebase_mkU (L' : Nat → Option Lab) (U' : Nat → Bool) (L0 : Nat → Option Lab) (l d : Nat) (b : Lab) : rebase E (some d) (St.mk' ⟨E', L0, U'⟩ L' l d b) = St.mk' ⟨E, L0, U'⟩ L' l d b := by
  simp only [rebase, updO, St.mk', upd_same]

theorem rebase_valD (V : Env) (d : Nat) (σ' : St) : valD V d (rebase E (some d) σ') = rebase E (some d) (valD V d σ') := by
  unfold valD
  cases V.own d
  · rfl
  · have hE : (rebase E (some d) σ').E d = σ'.E d := by simp only [rebase, updO, upd_same]
    simp only [cond_true]
    unfold St.toVal
    rw [hE]
    split
    · have hL : (rebase E (some d) σ').L = σ'.L := rfl
      rw [hL]
      split
      · simp only [rebase, updO, upd_same]
        congr 1
        funext j
        by_cases hj : j = d
        · subst hj; rw [upd_same, upd_same]
        · rw [upd_ne _ _ hj, upd_ne _ _ hj, upd_ne _ _ hj]
      · rfl
    · rfl
theorem rebase_setT (dst : Option Nat) (es : List Ent0) : rebase E dst (St.setT ⟨E', L, U⟩ dst es) = St.setT ⟨E, L, U⟩ dst es := by
  cases dst with
  | none => rfl
  | some d => simp only [rebase, updO, St.setT, upd_same]
theorem opdT_loc {x : Operand} (h : ∀ t ∈ tmpsOf [x], E' t = E t) : opdT ⟨E, L, U⟩ x = opdT ⟨E', L, U⟩ x := by
  cases x with
  | tmp t => simp only [opdT]; rw [h t (by simp [tmpsOf])]
  | const v => rfl
  | global g => rfl
  | func f => rfl
theorem opd_loc {x : Operand} (h : ∀ t ∈ tmpsOf [x], E' t = E t) : opd ⟨E, L, U⟩ x = opd ⟨E', L, U⟩ x := by
  cases x with
  | tmp t => simp only [opd]; rw [h t (by simp [tmpsOf])]
  | const v => rfl
  | global g => rfl
  | func f => rfl

theorem tmpsOf_cons {x : Operand} {xs : List Operand} {t : Nat} (h : t ∈ tmpsOf (x :: xs)) : t ∈ tmpsOf [x] ∨ t ∈ tmpsOf xs := by
  cases x <;> simp [tmpsOf] at h ⊢ <;> exact h
theorem tmpsOf_hd {x : Operand} {xs : List Operand} {t : Nat} (h : t ∈ tmpsOf [x]) : t ∈ tmpsOf (x :: xs) := by
  cases x <;> simp [tmpsOf] at h ⊢; exact .inl h
theorem tmpsOf_tl {x : Operand} {xs : List Operand} {t : Nat} (h : t ∈ tmpsOf xs) : t ∈ tmpsOf (x :: xs) := by
  cases x <;> simp [tmpsOf, h]
theorem tmpsOf_app {xs ys : List Operand} {t : Nat} (h : t ∈ tmpsOf xs ∨ t ∈ tmpsOf ys) : t ∈ tmpsOf (xs ++ ys) := by
  induction xs with
  | nil => rcases h with h | h; cases h; exact h
  | cons x xs ih =>
    rcases h with h | h
    · rcases tmpsOf_cons h with h | h
      · exact tmpsOf_hd h
      · exact tmpsOf_tl (ih (.inl h))
    · exact tmpsOf_tl (ih (.inr h))

theorem opdL_loc {xs : List Operand} (h : ∀ t ∈ tmpsOf xs, E' t = E t) : opdL ⟨E, L, U⟩ xs = opdL ⟨E', L, U⟩ xs := by
  induction xs with
  | nil => rfl
  | cons x xs ih =>
    simp only [opdL]
    rw [opd_loc (x := x) (fun t ht => h t (tmpsOf_hd ht)), ih (fun t ht => h t (tmpsOf_tl ht))]
theorem ents_loc {ps : List (Nat × Operand)} (h : ∀ t ∈ tmpsOf (ps.map (·.2)), E' t = E t) : ents ⟨E, L, U⟩ ps = ents ⟨E', L, U⟩ ps := by
  induction ps with
  | nil => rfl
  | cons p ps ih =>
    simp only [ents]
    rw [opd_loc (x := p.2) (fun t ht => h t (tmpsOf_hd ht)), ih (fun t ht => h t (tmpsOf_tl ht))]
theorem opdO_loc {x : Option Operand} (h : ∀ t ∈ tmpsOf x.toList, E' t = E t) : opdO ⟨E, L, U⟩ x = opdO ⟨E', L, U⟩ x := by
  cases x with
  | none => rfl
  | some x => simp only [opdO]; rw [opd_loc (x := x) h]

theorem xAlloc_loc (d : TD) (dst : Nat) (K : St → Option R) : xAlloc d ⟨E, L, U⟩ dst K = xAlloc d ⟨E', L, U⟩ dst fun σ' => K (rebase E (some dst) σ') := by
  simp only [xAlloc, rebase_mk]
theorem xBox_loc (d : TD) (dst : Nat) (e : Ent0) (K : St → Option R) : xBox d ⟨E, L, U⟩ dst e K = xBox d ⟨E', L, U⟩ dst e fun σ' => K (rebase E (some dst) σ') := by
  simp only [xBox, rebase_mk]
theorem xMake_loc (d : TD) (dst : Nat) (e1 e2 : Ent0) (K : St → Option R) : xMake d ⟨E, L, U⟩ dst e1 e2 K = xMake d ⟨E', L, U⟩ dst e1 e2 fun σ' => K (rebase E (some dst) σ') := by
  simp only [xMake, rebase_mk]
theorem xBytes_loc (d : TD) (dst : Nat) (e : Ent0) (K : St → Option R) : xBytes d ⟨E, L, U⟩ dst e K = xBytes d ⟨E', L, U⟩ dst e fun σ' => K (rebase E (some dst) σ') := by
  simp only [xBytes, rebase_mk]
theorem plc_loc (e : Ent0) (K : Nat → Lab → List Stp → V → Option R) : plc ⟨E, L, U⟩ e K = plc ⟨E', L, U⟩ e K := rfl
theorem hcur_loc (e : Ent0) (K : Nat → Lab → List Stp → V → Option R) : hcur ⟨E, L, U⟩ e K = hcur ⟨E', L, U⟩ e K := rfl
theorem srcK_loc (str : Bool) (te : Ty) (e : Ent0) (K : List te.T → Md → Option Nat → Option R) : srcK ⟨E, L, U⟩ str te e K = srcK ⟨E', L, U⟩ str te e K := rfl
theorem xStore_loc (d : TD) (dst : Option Nat) (e1 e2 : Ent0) (K : St → Option R) : (xStore d ⟨E, L, U⟩ e1 e2 fun σ' => K (σ'.setU dst)) = xStore d ⟨E', L, U⟩ e1 e2 fun σ' => K (rebase E dst (σ'.setU dst)) := by
  simp only [xStore, rebase_setU]
  exact plc_loc _ _
theorem xPut_loc (d : TD) (dst : Option Nat) (e1 e2 : Ent0) (K : St → Option R) : (xPut d ⟨E, L, U⟩ e1 e2 fun σ' => K (σ'.setU dst)) = xPut d ⟨E', L, U⟩ e1 e2 fun σ' => K (rebase E dst (σ'.setU dst)) := by
  simp only [xPut, rebase_setU]
  exact plc_loc _ _
theorem xSt_loc (d : TD) (dst : Option Nat) (e1 e2 : Ent0) (K : St → Option R) : (xSt d ⟨E, L, U⟩ e1 e2 fun σ' => K (σ'.setU dst)) = xSt d ⟨E', L, U⟩ e1 e2 fun σ' => K (rebase E dst (σ'.setU dst)) := by
  have h1 : isHole ⟨E, L, U⟩ e1 = isHole ⟨E', L, U⟩ e1 := rfl
  unfold xSt
  rw [h1, xStore_loc]
  congr 1
  simp only [xPutI, rebase_setU]
theorem xApp_loc (d : TD) (str : Bool) (lk dst : Nat) (e1 e2 : Ent0) (K : St → Option R) : xApp d ⟨E, L, U⟩ str lk dst e1 e2 K = xApp d ⟨E', L, U⟩ str lk dst e1 e2 fun σ' => K (rebase E (some dst) σ') := by
  simp only [xApp, rebase_mk]
  rfl
theorem xAppend_loc (d : TD) (str : Bool) (dst : Nat) (e1 e2 : Ent0) (K : St → Option R) : xAppend d ⟨E, L, U⟩ str dst e1 e2 K = xAppend d ⟨E', L, U⟩ str dst e1 e2 fun σ' => K (rebase E (some dst) σ') := by
  unfold xAppend
  split
  · simp only [St.took]
    split
    · split
      · congr 1
        exact xApp_loc _ _ _ _ _ _ _
      · rfl
    · rfl
  · simp only [St.took]
    split
    · congr 1
      split
      · split
        · exact xApp_loc _ _ _ _ _ _ _
        · rfl
      · rfl
    · rfl
  · exact xApp_loc _ _ _ _ _ _ _
theorem xBuild_loc (TT : Tab) (t : TypeId) (dst : Nat) (own : Bool) {ps : List (Nat × Operand)} (h : ∀ t ∈ tmpsOf (ps.map (·.2)), E' t = E t) (K : St → Option R) : (xBuild TT ⟨E, L, U⟩ t dst own ps (fun e => K (St.setV ⟨E, L, U⟩ (some dst) e)) K) = xBuild TT ⟨E', L, U⟩ t dst own ps (fun e => K (rebase E (some dst) (St.setV ⟨E', L, U⟩ (some dst) e))) fun σ' => K (rebase E (some dst) σ') := by
  simp only [xBuild, rebase_mk, rebase_setV]
  rw [ents_loc h]
theorem xRow_loc (d : TD) (dst len : Nat) {ps : List (Nat × Operand)} (h : ∀ t ∈ tmpsOf (ps.map (·.2)), E' t = E t) (K : St → Option R) : xRow d ⟨E, L, U⟩ dst len ps K = xRow d ⟨E', L, U⟩ dst len ps fun σ' => K (rebase E (some dst) σ') := by
  simp only [xRow, rebase_mk]
  rw [ents_loc h]
theorem xCut_loc (TT : Tab) (t : TypeId) (dst : Nat) (ex : Ent0) (lo hi : Option Ent0) (K : St → Option R) : (xCut TT ⟨E, L, U⟩ t dst ex lo hi (fun e => K (St.setV ⟨E, L, U⟩ (some dst) e)) K) = xCut TT ⟨E', L, U⟩ t dst ex lo hi (fun e => K (rebase E (some dst) (St.setV ⟨E', L, U⟩ (some dst) e))) fun σ' => K (rebase E (some dst) σ') := by
  simp only [xCut, rebase_mk, rebase_setV, St.took]
theorem resK_loc : ∀ (rs : List (Ty × Md)) (x : (tupT rs).T) (key : Nat) (L : Nat → Option Lab) (U : Nat → Bool) (K : St → List Ent0 → Option R), resK rs x key ⟨E, L, U⟩ K = resK rs x key ⟨E', L, U⟩ fun σ' es => K ⟨E, σ'.L, σ'.U⟩ es := by
  intro rs
  induction rs with
  | nil => intro x key L U K; rfl
  | cons p rs ih =>
    intro x key L U K
    simp only [resK, St.newL]
    rw [ih, ih]
theorem argK_loc (L0 : Nat → Option Lab) (t : Ty) (m : Md) (e : Ent0) (K : t.T → (Nat → Option Lab) → List Nat → Option R) : argK ⟨E, L, U⟩ L0 t m e K = argK ⟨E', L, U⟩ L0 t m e K := rfl
theorem argsK_loc : ∀ (ps : List (Ty × Md)) (es : List Ent0) (L0 : Nat → Option Lab) (K : (tupT ps).T → (Nat → Option Lab) → List Nat → Option R), argsK ⟨E, L, U⟩ ps es L0 K = argsK ⟨E', L, U⟩ ps es L0 K := by
  intro ps
  induction ps with
  | nil => intro es L0 K; cases es <;> rfl
  | cons p ps ih =>
    intro es L0 K
    cases es with
    | nil => rfl
    | cons e es =>
      simp only [argsK]
      rw [argK_loc (E' := E')]
      congr 1
      funext x L1 b1
      exact ih _ _ _
theorem mutsK_loc (es : List Ent0) : ∀ (mi : List Nat) (ms : List (Ty × Md)) (y : (tupT ms).T) (L0 : Nat → Option Lab), mutsK ⟨E, L, U⟩ es mi ms y L0 = mutsK ⟨E', L, U⟩ es mi ms y L0 := by
  intro mi
  induction mi with
  | nil => intro ms y L0; cases ms <;> rfl
  | cons i mi ih =>
    intro ms y L0
    cases ms with
    | nil => rfl
    | cons p ms =>
      simp only [mutsK]
      split
      · split
        · congr 1
          split
          · rw [ih]
          · rfl
        · rfl
      · rfl
theorem callK_loc (dst : Option Nat) (c : Callee) (es : List Ent0) (K : St → Option R) : callK ⟨E, L, U⟩ dst c es K = callK ⟨E', L, U⟩ dst c es fun σ' => K (rebase E dst σ') := by
  unfold callK
  rw [argsK_loc (E' := E')]
  congr 1
  funext x L0 bs
  congr 1
  congr 1
  funext r
  rw [mutsK_loc (E' := E')]
  split
  · cases dst with
    | none => rfl
    | some d =>
      simp only
      rw [resK_loc (E' := E')]
      congr 1
      funext σ' es'
      simp only [rebase, updO, upd_same]
  · rfl
theorem builtinK_loc (V : Env) (b : Builtin) (ts : List TypeId) {xs : List Operand} (h : ∀ t ∈ tmpsOf xs, E' t = E t) (dst : Option Nat) (K : St → Option R) : builtinK V ⟨E, L, U⟩ b ts xs dst K = builtinK V ⟨E', L, U⟩ b ts xs dst fun σ' => K (rebase E dst σ') := by
  unfold builtinK
  split
  · rw [opd_loc h]
    simp only [rebase_setV]
    rfl
  · rw [opd_loc h]
    simp only [rebase_setV]
    rfl
  · rename_i t tx x y
    rw [opd_loc (x := x) (fun t ht => h t (tmpsOf_hd ht)), opd_loc (x := y) (fun t ht => h t (tmpsOf_tl ht))]
    cases dst with
    | none => rfl
    | some d => simp only [xAppend_loc (E := E) (E' := E')]
  · rename_i t tx x y
    rw [opd_loc (x := x) (fun t ht => h t (tmpsOf_hd ht)), opd_loc (x := y) (fun t ht => h t (tmpsOf_tl ht))]
    simp only [rebase_setV]
  · rename_i t tx x y
    rw [opd_loc (x := x) (fun t ht => h t (tmpsOf_hd ht)), opd_loc (x := y) (fun t ht => h t (tmpsOf_tl ht))]
    simp only [rebase_setV]
  · rfl
theorem isJunk_loc (e : Ent0) : isJunkPlace ⟨E, L, U⟩ e = isJunkPlace ⟨E', L, U⟩ e := rfl

theorem opK_loc (V : Env) {o : Oper} (hc : calm V o = true) (h : ∀ t ∈ looks o, E' t = E t) (K : St → Option R) : opK V ⟨E, L, U⟩ o K = opK V ⟨E', L, U⟩ o fun σ' => K (rebase E o.dst σ') := by
  unfold looks at h
  unfold calm at hc
  unfold opK
  split
  · rename_i x ho; rw [ho] at h; rw [opdT_loc (x := x) h, opd_loc (x := x) h]; simp only [rebase_setV, rebase_setT]
  · rename_i x ho; rw [ho] at h; rw [opdT_loc (x := x) h, opd_loc (x := x) h]; simp only [rebase_setV, rebase_setT]
  · rename_i c x y ho
    rw [ho] at h
    rw [opd_loc (x := c) (fun t ht => h t (tmpsOf_hd ht)), opd_loc (x := x) (fun t ht => h t (tmpsOf_tl (tmpsOf_hd ht))), opd_loc (x := y) (fun t ht => h t (tmpsOf_tl (tmpsOf_tl ht)))]
    simp only [rebase_setV]
  · cases o.dst with
    | none => rfl
    | some d => simp only [xAlloc_loc (E := E) (E' := E')]
  · rename_i t x ho
    rw [ho] at h
    rw [opd_loc (x := x) h]
    cases o.dst with
    | none => rfl
    | some d => simp only [xBox_loc (E := E) (E' := E')]
  · rename_i t ps ho
    rw [ho] at h
    cases o.dst with
    | none => rfl
    | some d => exact xBuild_loc _ _ _ _ h K
  · rename_i t len ps ho
    rw [ho] at h
    cases o.dst with
    | none => rfl
    | some d => simp only [xRow_loc (E := E) (E' := E') _ _ _ h, rebase_valD]
  · rename_i t x ho
    rw [ho] at h
    rw [opd_loc (x := x) h]
    simp only [rebase_setV]
    rfl
  · rename_i t p x ho
    rw [ho] at h
    rw [opd_loc (x := p) (fun t ht => h t (tmpsOf_hd ht)), opd_loc (x := x) (fun t ht => h t (tmpsOf_tl ht))]
    simp only [xSt_loc (E := E) (E' := E'), xPut_loc (E := E) (E' := E'), isJunk_loc (E := E) (E' := E')]
  · rename_i x ho
    rw [ho] at h
    rw [opd_loc (x := x) h]
    simp only [rebase_setV]
    rfl
  · rename_i op t x y yt ho
    rw [ho] at h
    rw [opd_loc (x := x) (fun t ht => h t (tmpsOf_hd ht)), opd_loc (x := y) (fun t ht => h t (tmpsOf_tl ht))]
    simp only [rebase_setV]
    rfl
  · rename_i op t x ho
    rw [ho] at h
    rw [opd_loc (x := x) h]
    simp only [rebase_setV]
  · rename_i s t x ho
    rw [ho] at h
    rw [opd_loc (x := x) h]
    congr 1
    · cases o.dst with
      | none => rfl
      | some d => simp only [xBytes_loc (E := E) (E' := E')]
    · simp only [rebase_setV]
      rfl
  · rename_i t l c ho
    rw [ho] at h
    rw [opd_loc (x := l) (fun t ht => h t (tmpsOf_hd ht)), opd_loc (x := c) (fun t ht => h t (tmpsOf_tl ht))]
    cases o.dst with
    | none => rfl
    | some d => simp only [xMake_loc (E := E) (E' := E')]
  · rename_i t x lo hi mx ho
    rw [ho] at h
    split
    · rfl
    · rw [opd_loc (x := x) (fun t ht => h t (tmpsOf_hd ht)), opdO_loc (x := lo) (fun t ht => h t (tmpsOf_tl (tmpsOf_app (.inl ht)))), opdO_loc (x := hi) (fun t ht => h t (tmpsOf_tl (tmpsOf_app (.inr ht))))]
      cases o.dst with
      | none => rfl
      | some d => simp only [xCut_loc (E := E) (E' := E')]
  · rename_i s x f ho
    rw [ho] at h
    rw [opd_loc (x := x) h]
    simp only [rebase_setV]
    rfl
  · rename_i s x f ho
    rw [ho] at h
    rw [opd_loc (x := x) h]
    simp only [rebase_setV]
    rfl
  · rename_i t x i ho
    rw [ho] at h
    rw [opd_loc (x := x) (fun t ht => h t (tmpsOf_hd ht)), opd_loc (x := i) (fun t ht => h t (tmpsOf_tl ht))]
    simp only [rebase_setV]
    rfl
  · rename_i t x i ho
    rw [ho] at h
    rw [opd_loc (x := x) (fun t ht => h t (tmpsOf_hd ht)), opd_loc (x := i) (fun t ht => h t (tmpsOf_tl ht))]
    simp only [rebase_setV]
  · rename_i t i ho
    rw [ho] at h
    have := h t (by simp [opnds, tmpsOf])
    simp only [this, rebase_setV]
  · rename_i c ho
    rw [ho] at h hc
    simp only at hc
    split
    · exact builtinK_loc V _ _ h _ K
    · rename_i f hcal
      rw [hcal] at hc
      simp only at hc
      cases hf : V.CT f with
      | none => rfl
      | some ce =>
        rw [hf] at hc
        simp only at hc ⊢
        rw [opdL_loc (xs := c.args.toList) h]
        split
        · simp only [hc, cond_true]
          exact callK_loc _ _ _ K
        · rfl
    · rfl
  · rfl
end
end Go.Proofs.YtgonfcjdhbjkcaaDoor.Rf
/- Layer 34: one operation touches its own labels alone. -/
set_option linter.unusedVariables false
set_option linter.unusedSimpArgs false
namespace Go.Proofs.YtgonfcjdhbjkcaaDoor.Rf
open Go

def entKeys : Ent0 → List Nat
  | .hdr l .. => [l]
  | .adr l .. => [l]
  | _ => []
def entsKeys : List Ent0 → List Nat
  | [] => []
  | e :: es => entKeys e ++ entsKeys es
def keysE : Option Ent → List Nat
  | some (.one e) => entKeys e
  | some (.tup es) => entsKeys es
  | none => []
def keysOf (σ : St) : List Nat → List Nat
  | [] => []
  | t :: ts => keysE (σ.E t) ++ keysOf σ ts
/-- The labels an operation may see: those that its operands name, and its own. -/
def visT (ks : List Nat) (dst : Option Nat) (l : Nat) : Bool := memB l ks || (match dst with | some d => Nat.beq (l / 8) d | none => false)
def visO (σ : St) (o : Oper) : Nat → Bool := visT (keysOf σ (looks o)) o.dst
def restrL (L : Nat → Option Lab) (T : Nat → Bool) : Nat → Option Lab := fun l => bif T l then L l else none
def raiseU (U : Nat → Bool) (T : Nat → Bool) : Nat → Bool := fun l => bif T l then U l else true
def mrgL (T : Nat → Bool) (L' L : Nat → Option Lab) : Nat → Option Lab := fun l => bif T l then L' l else L l
def mrgU (T : Nat → Bool) (U' U : Nat → Bool) : Nat → Bool := fun l => bif T l then U' l else U l
def allIn (T : Nat → Bool) : List Nat → Bool
  | [] => true
  | l :: ls => T l && allIn T ls
def keysIn (T : Nat → Bool) (dst : Option Nat) (σ' : St) : Bool := match dst with | some d => allIn T (keysE (σ'.E d)) | none => true
/-- What an operation sees of a state. -/
def restr (σ : St) (o : Oper) : St := ⟨fun t => bif memB t (looks o) then σ.E t else none, restrL σ.L (visO σ o), raiseU σ.U (visO σ o)⟩
def mergeSt (T : Nat → Bool) (dst : Option Nat) (σ σ' : St) : St := ⟨updO σ.E dst σ'.E, mrgL T σ'.L σ.L, mrgU T σ'.U σ.U⟩

section
variable {P : Program} {B : Base} {F : BSet} {Sg : Nat → BSet} {cg : Nat → List Value} {σ : St} {a : Act} {w : World}

theorem InvG.gh (h : InvG B F Sg cg σ a w) : Gh F w := B.gh.step h.f0 (fun p hp => h.fr.block p (B.ghl p hp) (B.ghs p hp))
def baseT (h : InvG B F Sg cg σ a w) (T : Nat → Bool) : Base :=
  { w0 := w, S0 := fun k => ∃ l b, T l = true ∧ σ.L l = some b ∧ Sg l k, F0 := F, N := B.N, fix := B.fix, gh := h.gh, ghs := fun p hp ⟨l, b, _, h1, h2⟩ => h.disF l b h1 p h2 (h.gh p hp).1, ghl := fun p hp => h.fl p (h.gh p hp).1 }

theorem restrL_some {L : Nat → Option Lab} {T : Nat → Bool} {l : Nat} {b : Lab} (h : restrL L T l = some b) : T l = true ∧ L l = some b := by
  unfold restrL at h
  cases hT : T l
  · rw [hT] at h; cases h
  · rw [hT] at h; exact ⟨rfl, h⟩
theorem raiseU_of {U T : Nat → Bool} {l : Nat} (h : U l = true) : raiseU U T l = true := by
  unfold raiseU; cases T l
  · rfl
  · exact h

theorem EntOk.restr {T : Nat → Bool} {e : Ent0} {v : Value} (h : EntOk F w σ.L σ.U cg e v) : EntOk F w (restrL σ.L T) (raiseU σ.U T) cg e v := by
  cases e with
  | val t x => exact h
  | cst u => exact h
  | radr t x => exact h
  | hdr l n π c => exact ⟨raiseU_of h.1, fun b hb => h.2 b (restrL_some hb).2⟩
  | adr l n π c => exact ⟨raiseU_of h.1, fun b hb => h.2 b (restrL_some hb).2⟩

theorem InvG.restrict (h : InvG B F Sg cg σ a w) (T : Nat → Bool) : InvG (baseT h T) F Sg cg ⟨σ.E, restrL σ.L T, raiseU σ.U T⟩ a w :=
  { fr := ⟨rfl, rfl, rfl, Nat.le_refl _, fun _ _ _ => rfl⟩
    size := h.size
    defers := h.defers
    f0 := Sub.refl _
    fl := h.fl
    fs := fun k hk _ _ => hk
    lab := fun l b hb => h.lab l b (restrL_some hb).2
    dis := fun l l' b b' hne hb hb' => h.dis l l' b b' hne (restrL_some hb).2 (restrL_some hb').2
    disF := fun l b hb => h.disF l b (restrL_some hb).2
    lt := fun l b hb => h.lt l b (restrL_some hb).2
    may := fun l b hb k hk _ => ⟨l, b, (restrL_some hb).1, (restrL_some hb).2, hk⟩
    used := fun l b hb => raiseU_of (h.used l b (restrL_some hb).2)
    fix := fun l cs hf => ⟨⟨raiseU_of (h.fix l cs hf).1.1, (h.fix l cs hf).1.2⟩, fun b hb => (h.fix l cs hf).2 b (restrL_some hb).2⟩
    ent := fun t e he => (h.ent t e he).imp fun e v hv => hv.restr }

/-- Entries in a merged state. -/
theorem EntOk.mrgIn {T : Nat → Bool} {σ' : St} {F' : BSet} {w' : World} {cg' : Nat → List Value} {e : Ent0} {v : Value} (h : EntOk F' w' σ'.L σ'.U cg' e v) (hk : ∀ l ∈ entKeys e, T l = true) :
    EntOk F' w' (mrgL T σ'.L σ.L) (mrgU T σ'.U σ.U) (fun l => if T l = true then cg' l else cg l) e v := by
  cases e with
  | val t x => exact h
  | cst u => exact h
  | radr t x => exact h
  | hdr l n π c =>
    have hT := hk l (by simp [entKeys])
    refine ⟨by simp only [mrgU, hT, cond_true]; exact h.1, fun b hb => ?_⟩
    simp only [mrgL, hT, cond_true] at hb
    simp only [hT, if_true]
    exact h.2 b hb
  | adr l n π c =>
    have hT := hk l (by simp [entKeys])
    refine ⟨by simp only [mrgU, hT, cond_true]; exact h.1, fun b hb => ?_⟩
    simp only [mrgL, hT, cond_true] at hb
    simp only [hT, if_true]
    exact h.2 b hb
theorem EntOk.mrgOut {T : Nat → Bool} {σ' : St} {F' : BSet} {w' : World} {cg' : Nat → List Value} {e : Ent0} {v : Value} (h : EntOk F' w' σ.L σ.U cg e v) (hk : ∀ l ∈ entKeys e, T l = false) :
    EntOk F' w' (mrgL T σ'.L σ.L) (mrgU T σ'.U σ.U) (fun l => if T l = true then cg' l else cg l) e v := by
  cases e with
  | val t x => exact h
  | cst u => exact h
  | radr t x => exact h
  | hdr l n π c =>
    have hT := hk l (by simp [entKeys])
    refine ⟨by simp only [mrgU, hT, cond_false]; exact h.1, fun b hb => ?_⟩
    simp only [mrgL, hT, cond_false] at hb
    simp only [hT, Bool.false_eq_true, if_false]
    exact h.2 b hb
  | adr l n π c =>
    have hT := hk l (by simp [entKeys])
    refine ⟨by simp only [mrgU, hT, cond_false]; exact h.1, fun b hb => ?_⟩
    simp only [mrgL, hT, cond_false] at hb
    simp only [hT, Bool.false_eq_true, if_false]
    exact h.2 b hb

theorem keys1 (e : Ent0) : entKeys e = [] ∨ ∃ l, entKeys e = [l] := by cases e <;> simp [entKeys]

theorem EntOk.frameT {T : Nat → Bool} {F' : BSet} {w' : World} {e : Ent0} {v : Value} (h : EntOk F w σ.L σ.U cg e v) (hF : Sub F F') (hFw : ∀ k, F k → w'.heap[k]? = w.heap[k]?) (hlab : ∀ l b, σ.L l = some b → Rep F w b.t b.m b.x (cg l) (Sg l)) (hw : ∀ l b, T l = false → σ.L l = some b → ∀ k, Sg l k → w'.heap[k]? = w.heap[k]?) (hk : ∀ l ∈ entKeys e, T l = false) : EntOk F' w' σ.L σ.U cg e v := by
  cases e with
  | val t x =>
    obtain ⟨cs, h1, h2⟩ := h
    exact ⟨cs, rep_frame hF hFw t .ro x cs _ _ h1 (Sub.refl _) (fun _ h => h.elim), h2⟩
  | cst u => exact h
  | radr t x =>
    obtain ⟨a, ds, h1, h2, h3, h4⟩ := h
    exact ⟨a, ds, h1, hF _ h2, h3.congr (hFw _ h2), rep_frame hF hFw t .ro x ds _ _ h4 (Sub.refl _) (fun _ h => h.elim)⟩
  | hdr l n π c =>
    have hT := hk l (by simp [entKeys])
    refine ⟨h.1, fun b hb => ?_⟩
    obtain ⟨h0, h1, h2⟩ := h.2 b hb
    refine ⟨h0, h1, fun hn => ?_⟩
    obtain ⟨h3, h4, h5⟩ := h2 hn
    refine ⟨h3, h4, ?_⟩
    rw [resolve_congr π b.t b.m b.x (cg l) (Sg l) none (hlab l b hb) h3 (by rw [h4]; rfl) (hw l b hT hb)]
    exact h5
  | adr l n π c =>
    have hT := hk l (by simp [entKeys])
    refine ⟨h.1, fun b hb => ?_⟩
    obtain ⟨h0, h1, h2⟩ := h.2 b hb
    refine ⟨h0, h1, fun hn => ?_⟩
    obtain ⟨h3, h4, h5⟩ := h2 hn
    refine ⟨h3, h4, ?_⟩
    rw [resolve_congr π b.t b.m b.x (cg l) (Sg l) none (hlab l b hb) h3 (by rw [h4]; rfl) (hw l b hT hb)]
    exact h5

theorem allIn_mem {T : Nat → Bool} {ls : List Nat} (h : allIn T ls = true) : ∀ l ∈ ls, T l = true := by
  induction ls with
  | nil => intro l hl; simp at hl
  | cons x xs ih =>
    simp only [allIn, Bool.and_eq_true] at h
    intro l hl
    rcases List.mem_cons.1 hl with rfl | hl
    · exact h.1
    · exact ih h.2 l hl
theorem EntsOk.imp2 {F F' : BSet} {w w' : World} {L L' L'' : Nat → Option Lab} {U U' U'' : Nat → Bool} {cg cg' cg'' : Nat → List Value} : ∀ {es : List Ent0} {vs : List Value}, (∀ e v, e ∈ es → EntOk F w L U cg e v → EntOk F' w' L' U' cg' e v → EntOk F' w' L'' U'' cg'' e v) → EntsOk F w L U cg es vs → EntsOk F' w' L' U' cg' es vs → EntsOk F' w' L'' U'' cg'' es vs := by
  intro es
  induction es with
  | nil => intro vs _ h _; exact h
  | cons e es ih =>
    rintro vs hi ⟨v, r, rfl, h1, h2⟩ ⟨v', r', e', h3, h4⟩
    injection e' with e1 e2
    subst e1; subst e2
    exact ⟨v, r, rfl, hi e v (by simp) h1 h3, ih (fun e v he => hi e v (by simp [he])) h2 h4⟩
theorem EntsOk.imp1 {F : BSet} {w : World} {L L' : Nat → Option Lab} {U U' : Nat → Bool} {cg cg' : Nat → List Value} : ∀ {es : List Ent0} {vs : List Value}, (∀ e v, e ∈ es → EntOk F w L U cg e v → EntOk F w L' U' cg' e v) → EntsOk F w L U cg es vs → EntsOk F w L' U' cg' es vs := by
  intro es
  induction es with
  | nil => intro vs _ h; exact h
  | cons e es ih =>
    rintro vs hi ⟨v, r, rfl, h1, h2⟩
    exact ⟨v, r, rfl, hi e v (by simp) h1, ih (fun e v he => hi e v (by simp [he])) h2⟩
theorem entsKeys_mem {es : List Ent0} {e : Ent0} (he : e ∈ es) : ∀ l ∈ entKeys e, l ∈ entsKeys es := by
  induction es with
  | nil => simp at he
  | cons x xs ih =>
    intro l hl
    rcases List.mem_cons.1 he with rfl | he
    · simp [entsKeys, hl]
    · simp [entsKeys, ih he l hl]

theorem InvG.merge (h : InvG B F Sg cg σ a w) {T : Nat → Bool} {σ' : St} {a' : Act} {w' : World} (h' : Inv (baseT h T) σ' a' w') {dst : Option Nat} (htm : ∀ t, dst ≠ some t → a'.tmps.getD t undef = a.tmps.getD t undef) (hE : ∀ t, dst ≠ some t → σ'.E t = σ.E t) (hk : keysIn T dst σ' = true) :
    Inv B ⟨σ'.E, mrgL T σ'.L σ.L, mrgU T σ'.U σ.U⟩ a' w' := by
  obtain ⟨F', Sg', cg', h'⟩ := h'
  have hout : ∀ l b, T l = false → σ.L l = some b → ∀ k, Sg l k → ¬ (baseT h T).S0 k := by
    rintro l b hT hl k hk ⟨l2, b2, hT2, hl2, hk2⟩
    have hne : l ≠ l2 := fun e => by rw [e, hT2] at hT; cases hT
    exact h.dis l l2 b b2 hne hl hl2 k hk hk2
  have hblk : ∀ l b, T l = false → σ.L l = some b → ∀ k, Sg l k → w'.heap[k]? = w.heap[k]? := fun l b hT hl k hk => h'.fr.block k (h.lt l b hl k hk) (hout l b hT hl k hk)
  have hFS : ∀ k, F k → ¬ (baseT h T).S0 k := by
    rintro k hk ⟨l, b, _, hl, hs⟩
    exact h.disF l b hl k hs hk
  have hFw : ∀ k, F k → w'.heap[k]? = w.heap[k]? := fun k hk => h'.fr.block k (h.fl k hk) (hFS k hk)
  have hS0 : ∀ k, (baseT h T).S0 k → k < B.w0.heap.size → B.S0 k := by
    rintro k ⟨l, b, _, hl, hs⟩ hlt
    exact h.may l b hl k hs hlt
  have cases2 : ∀ l b, mrgL T σ'.L σ.L l = some b → (T l = true ∧ σ'.L l = some b) ∨ (T l = false ∧ σ.L l = some b) := fun l b hb => by
    unfold mrgL at hb
    cases hT : T l
    · rw [hT] at hb; exact .inr ⟨rfl, hb⟩
    · rw [hT] at hb; exact .inl ⟨rfl, hb⟩
  refine ⟨F', fun l => if T l = true then Sg' l else Sg l, fun l => if T l = true then cg' l else cg l, ?_⟩
  exact
  { fr := ⟨h'.fr.os.trans h.fr.os, h'.fr.tape.trans h.fr.tape, h'.fr.output.trans h.fr.output, Nat.le_trans h.fr.size h'.fr.size, fun k hk hn => (h'.fr.block k (Nat.lt_of_lt_of_le hk h.fr.size) (fun hs => hn (hS0 k hs hk))).trans (h.fr.block k hk hn)⟩
    size := h'.size
    defers := h'.defers
    f0 := h.f0.trans h'.f0
    fl := h'.fl
    fs := fun k hk hlt hns => h.fs k (h'.fs k hk (Nat.lt_of_lt_of_le hlt h.fr.size) (fun hs => hns (hS0 k hs hlt))) hlt hns
    lab := fun l b hb => by
      rcases cases2 l b hb with ⟨hT, hl⟩ | ⟨hT, hl⟩
      · simp only [hT, if_true]; exact h'.lab l b hl
      · simp only [hT, Bool.false_eq_true, if_false]; exact rep_frame h'.f0 hFw _ _ _ _ _ _ (h.lab l b hl) (Sub.refl _) (hblk l b hT hl)
    dis := fun l l2 b b2 hne hb hb2 => by
      rcases cases2 l b hb with ⟨hT, hl⟩ | ⟨hT, hl⟩ <;> rcases cases2 l2 b2 hb2 with ⟨hT2, hl2⟩ | ⟨hT2, hl2⟩
      · simp only [hT, hT2, if_true]; exact h'.dis l l2 b b2 hne hl hl2
      · simp only [hT, hT2, if_true, Bool.false_eq_true, if_false]
        intro k h1 h2
        exact hout l2 b2 hT2 hl2 k h2 (h'.may l b hl k h1 (h.lt l2 b2 hl2 k h2))
      · simp only [hT, hT2, if_true, Bool.false_eq_true, if_false]
        intro k h1 h2
        exact hout l b hT hl k h1 (h'.may l2 b2 hl2 k h2 (h.lt l b hl k h1))
      · simp only [hT, hT2, Bool.false_eq_true, if_false]; exact h.dis l l2 b b2 hne hl hl2
    disF := fun l b hb => by
      rcases cases2 l b hb with ⟨hT, hl⟩ | ⟨hT, hl⟩
      · simp only [hT, if_true]; exact h'.disF l b hl
      · simp only [hT, Bool.false_eq_true, if_false]
        intro k h1 h2
        exact h.disF l b hl k h1 (h'.fs k h2 (h.lt l b hl k h1) (hout l b hT hl k h1))
    lt := fun l b hb k hk => by
      rcases cases2 l b hb with ⟨hT, hl⟩ | ⟨hT, hl⟩
      · simp only [hT, if_true] at hk; exact h'.lt l b hl k hk
      · simp only [hT, Bool.false_eq_true, if_false] at hk; exact Nat.lt_of_lt_of_le (h.lt l b hl k hk) h'.fr.size
    may := fun l b hb k hk hlt => by
      rcases cases2 l b hb with ⟨hT, hl⟩ | ⟨hT, hl⟩
      · simp only [hT, if_true] at hk; exact hS0 k (h'.may l b hl k hk (Nat.lt_of_lt_of_le hlt h.fr.size)) hlt
      · simp only [hT, Bool.false_eq_true, if_false] at hk; exact h.may l b hl k hk hlt
    used := fun l b hb => by
      rcases cases2 l b hb with ⟨hT, hl⟩ | ⟨hT, hl⟩
      · simp only [mrgU, hT, cond_true]; exact h'.used l b hl
      · simp only [mrgU, hT, cond_false]; exact h.used l b hl
    fix := fun l cs hf => by
      have q := h.fix l cs hf
      have q' := h'.fix l cs hf
      refine ⟨⟨?_, q.1.2⟩, fun b hb => ?_⟩
      · simp only [mrgU]
        cases T l
        · exact q.1.1
        · exact q'.1.1
      · rcases cases2 l b hb with ⟨hT, hl⟩ | ⟨hT, hl⟩
        · simp only [hT, if_true]; exact q'.2 b hl
        · simp only [hT, Bool.false_eq_true, if_false]; exact q.2 b hl
    ent := fun t e he => by
      have h1 := h'.ent t e he
      by_cases hd : dst = some t
      · subst hd
        simp only [keysIn] at hk
        have he' : σ'.E t = some e := he
        rw [he'] at hk
        have hin := allIn_mem hk
        cases e with
        | one e => exact EntOk.mrgIn h1 hin
        | tup es =>
          obtain ⟨vs, hv, hes⟩ := h1
          exact ⟨vs, hv, hes.imp1 fun e v hm hv => hv.mrgIn fun l hl => hin l (entsKeys_mem hm l hl)⟩
      · have h0 := h.ent t e (by rw [← hE t hd]; exact he)
        rw [htm t hd] at h1 ⊢
        have step : ∀ e v, EntOk F w σ.L σ.U cg e v → EntOk F' w' σ'.L σ'.U cg' e v → EntOk F' w' (mrgL T σ'.L σ.L) (mrgU T σ'.U σ.U) (fun l => if T l = true then cg' l else cg l) e v := by
          intro e v g0 g1
          rcases keys1 e with hk0 | ⟨l, hl⟩
          · exact g1.mrgIn (fun l hl => by rw [hk0] at hl; simp at hl)
          · cases hT : T l
            · have hkk : ∀ j ∈ entKeys e, T j = false := fun j hj => by rw [hl] at hj; simp at hj; rw [hj]; exact hT
              exact (g0.frameT h'.f0 hFw h.lab hblk hkk).mrgOut hkk
            · exact g1.mrgIn (fun j hj => by rw [hl] at hj; simp at hj; rw [hj]; exact hT)
        cases e with
        | one e => exact step e _ h0 h1
        | tup es =>
          obtain ⟨vs, hv, hes⟩ := h0
          obtain ⟨vs', hv', hes'⟩ := h1
          rw [hv] at hv'
          injection hv' with hv'
          have : vs = vs' := by simpa using congrArg Array.toList hv'
          subst this
          exact ⟨vs, hv, hes.imp2 (fun e v _ => step e v) hes'⟩ }
end
end Go.Proofs.YtgonfcjdhbjkcaaDoor.Rf
/- Layer 35: one operation, seen through its own slots and labels. -/
set_option linter.unusedVariables false
set_option linter.unusedSimpArgs false
namespace Go.Proofs.YtgonfcjdhbjkcaaDoor.Rf
open Go

section
variable {P : Program} {B : Base} {F : BSet} {Sg : Nat → BSet} {cg : Nat → List Value} {σ : St} {a : Act} {w : World}

theorem put_ne {dst : Option Nat} {v : Value} {t : Nat} (h : dst ≠ some t) : (a.put dst v).tmps.getD t undef = a.tmps.getD t undef := by
  cases dst with
  | none => rfl
  | some d =>
    have hne : t ≠ d := fun e => h (by rw [e])
    simp only [Act.put, Array.getD_eq_getD_getElem?]
    rw [Array.getElem?_setIfInBounds_ne (Ne.symm hne)]

theorem Oper.wp_tmps {o : Oper} {next : Act → World → Prop} {Q : Exit → Act → World → Prop} (h : o.wp P a w next Q) : o.wp P a w (fun a' w' => next a' w' ∧ ∀ t, o.dst ≠ some t → a'.tmps.getD t undef = a.tmps.getD t undef) Q := by
  unfold Oper.wp at *
  generalize (execOp a.eval o).run P w = res at *
  cases res with
  | ok n w' =>
    cases n <;> simp only [Oper.upon] at h ⊢
    case value u => exact ⟨h, fun t ht => put_ne ht⟩
    case skip => exact ⟨h, fun t ht => put_ne ht⟩
    case defer d => exact ⟨h, fun t ht => put_ne (a := { a with defers := d :: a.defers }) ht⟩
    case enter f args =>
      refine Calls.mono h fun e w'' he => ?_
      cases e with
      | returned u => exact ⟨he, fun t ht => put_ne ht⟩
      | panicked c => exact he
      | outgrown => exact he
    case row row args => exact Rows.mono h fun u w'' he => ⟨he, fun t ht => put_ne ht⟩
  | halt x w' =>
    cases x <;> simp only [Oper.upon] at h ⊢
    case panic u => exact h

/-- One operation on what it sees gives what it does to the whole. -/
theorem stepL {V : Env} (hV : EnvOk P V) (h : Inv B σ a w) {o : Oper} (hc : calm V o = true) (hN : ∀ d, o.dst = some d → d < B.N) {σ' : St} (hk : opK V (restr σ o) o some = some σ') (hin : keysIn (visO σ o) o.dst σ' = true) {Q : Exit → Act → World → Prop} :
    o.wp P a w (fun a' w' => Inv B (mergeSt (visO σ o) o.dst σ σ') a' w') Q := by
  obtain ⟨F, Sg, cg, h⟩ := h
  have i1 := h.restrict (visO σ o)
  have hE : ∀ t ∈ looks o, (fun t => bif memB t (looks o) then σ.E t else none) t = σ.E t := fun t ht => by
    have : ∀ l : List Nat, t ∈ l → memB t l = true := by
      intro l
      induction l with
      | nil => intro h; simp at h
      | cons x xs ih =>
        intro h
        simp only [memB, Bool.or_eq_true]
        rcases List.mem_cons.1 h with rfl | h
        · exact .inl (Nat.beq_refl _)
        · exact .inr (ih h)
    simp only [this _ ht, cond_true]
  have hloc := opK_loc (R := St) (E := σ.E) (L := restrL σ.L (visO σ o)) (U := raiseU σ.U (visO σ o)) V hc hE some
  have hb := opK_bind (fun σ' => some (rebase σ.E o.dst σ')) V (restr σ o) o some
  rw [hk] at hb
  have hk2 : opK V ⟨σ.E, restrL σ.L (visO σ o), raiseU σ.U (visO σ o)⟩ o some = some (rebase σ.E o.dst σ') := by
    rw [hloc]
    exact hb.symm
  refine Oper.wp_weak (Oper.wp_tmps (opK_ok (Q := Q) hV i1 hN hk2)) (fun a' w' hp => ?_) (fun _ _ _ h => h)
  obtain ⟨⟨σ'', q1, q2, _⟩, q4⟩ := hp
  injection q1 with q1
  subst q1
  have := h.merge q2 q4 (fun t ht => by
    simp only [rebase, updO]
    cases hd : o.dst with
    | none => rfl
    | some d => exact upd_ne _ _ (fun e => ht (by rw [hd, e]))) (by
    unfold keysIn at hin ⊢
    cases hd : o.dst with
    | none => rfl
    | some d =>
      rw [hd] at hin
      simp only [rebase, updO, upd_same]
      exact hin)
  exact this

/-- Operations that give a value and change no label. -/
def roAll : List (Ty × Md) → Bool
  | [] => true
  | p :: ps => decide (p.2 = .ro) && roAll ps
/-- A function that is handed all to read alone, and gives values. -/
def roCall (c : Callee) : Bool := roAll c.ps && (roAll c.rs && (match c.mi with | [] => (match c.ms with | [] => true | _ => false) | _ => false))
def isV (V : Env) (o : Oper) : Bool := match o.op with
  | .move _ | .assign _ | .pick .. | .load .. | .nilCheck _ | .binOp .. | .unOp .. | .fieldAddr .. | .field .. | .indexAddr .. | .index .. | .extract .. => true
  | .call c => (match c.callee with | .builtin .len => true | .builtin .min => true | .builtin .max => true | .value (.func f) => (match V.CT f with | some ce => roCall ce && ((closedL ce.rs && closedL ce.ms) || V.ownO o.dst) | none => false) | _ => false)
  | _ => false

theorem setV_LU {dst : Option Nat} {e : Ent0} : (σ.setV dst e).L = σ.L ∧ (σ.setV dst e).U = σ.U := by cases dst <;> exact ⟨rfl, rfl⟩
theorem setT_LU {dst : Option Nat} {es : List Ent0} : (σ.setT dst es).L = σ.L ∧ (σ.setT dst es).U = σ.U := by cases dst <;> exact ⟨rfl, rfl⟩
theorem bind_setV {o : Oper} {σ' : St} {f : Option Ent0} (h : (f.bind fun e => some (σ.setV o.dst e)) = some σ') : σ'.L = σ.L ∧ σ'.U = σ.U := by
  obtain ⟨e, _, h2⟩ := Option.bind_eq_some_iff.1 h
  injection h2 with h2
  rw [← h2]; exact setV_LU

theorem hcur_ex {R : Type} {σ : St} {e : Ent0} {K : Nat → Lab → List Stp → V → Option R} {r : R} (h : hcur σ e K = some r) : ∃ l b π c, K l b π c = some r := by
  unfold hcur at h
  split at h
  · split at h
    · rename_i b _
      simp only [Bool.cond_eq_ite] at h
      split at h
      · exact ⟨_, _, _, _, h⟩
      · split at h
        · exact ⟨_, _, _, _, h⟩
        · cases h
    · cases h
  · cases h
theorem mutsK_ro {σ : St} {es : List Ent0} {mi : List Nat} {ms : List (Ty × Md)} (hq : (match mi with | [] => (match ms with | [] => true | _ => false) | _ => false) = true) {y : (tupT ms).T} {L L2 : Nat → Option Lab} (h : mutsK σ es mi ms y L = some L2) : L2 = L := by
  cases mi with
  | cons _ _ => cases hq
  | nil => cases ms with
    | cons _ _ => cases hq
    | nil => injection h with h; exact h.symm
theorem argsK_ro {R : Type} {σ : St} : ∀ {ps : List (Ty × Md)} {es : List Ent0} {L : Nat → Option Lab} {K : (tupT ps).T → (Nat → Option Lab) → List Nat → Option R} {r : R}, roAll ps = true → argsK σ ps es L K = some r → ∃ x bs, K x L bs = some r := by
  intro ps
  induction ps with
  | nil =>
    intro es L K r _ h
    cases es with
    | nil => exact ⟨(), [], h⟩
    | cons _ _ => cases h
  | cons p ps ih =>
    intro es L K r ha h
    simp only [roAll, Bool.and_eq_true] at ha
    cases es with
    | nil => cases h
    | cons e es =>
      simp only [argsK] at h
      unfold argK at h
      rw [ha.1] at h
      simp only [cond_true] at h
      split at h
      · obtain ⟨l, b, π, c, h⟩ := hcur_ex h
        split at h
        · obtain ⟨x, bs, h⟩ := ih ha.2 h; exact ⟨_, _, h⟩
        · cases h
      · unfold asT at h
        split at h
        · split at h
          · obtain ⟨x, bs, h⟩ := ih ha.2 h; exact ⟨_, _, h⟩
          · cases h
        · simp only [Bool.cond_eq_ite] at h
          split at h
          · split at h
            · obtain ⟨x, bs, h⟩ := ih ha.2 h; exact ⟨_, _, h⟩
            · cases h
          · cases h
        · cases h
theorem resK_ro {R : Type} : ∀ {rs : List (Ty × Md)} {x : (tupT rs).T} {k : Nat} {σ : St} {K : St → List Ent0 → Option R} {r : R}, roAll rs = true → resK rs x k σ K = some r → ∃ es, K σ es = some r := by
  intro rs
  induction rs with
  | nil => intro x k σ K r _ h; exact ⟨[], h⟩
  | cons p rs ih =>
    intro x k σ K r ha h
    simp only [roAll, Bool.and_eq_true, decide_eq_true_eq] at ha
    simp only [resK, ha.1, noOwn, cond_true] at h
    obtain ⟨es, h⟩ := ih ha.2 h
    exact ⟨_, h⟩
theorem opK_isV {V : Env} {o : Oper} (hv : isV V o = true) {σ' : St} (hk : opK V σ o some = some σ') : σ'.L = σ.L ∧ σ'.U = σ.U := by
  have one : ∀ (f : (Ent0 → Option St) → Option St) (g : Option Ent0), (∀ K, f K = g.bind K) → f (fun e => some (σ.setV o.dst e)) = some σ' → σ'.L = σ.L ∧ σ'.U = σ.U := fun f g hf h => by
    rw [hf] at h; exact bind_setV h
  unfold isV at hv
  unfold opK at hk
  split at hk
  · split at hk
    · injection hk with hk; rw [← hk]; exact setT_LU
    · split at hk
      · injection hk with hk; rw [← hk]; exact setV_LU
      · cases hk
  · split at hk
    · injection hk with hk; rw [← hk]; exact setT_LU
    · split at hk
      · injection hk with hk; rw [← hk]; exact setV_LU
      · cases hk
  · split at hk
    · split at hk
      · split at hk
        · injection hk with hk; rw [← hk]; exact setV_LU
        · cases hk
      · split at hk
        · injection hk with hk; rw [← hk]; exact setV_LU
        · cases hk
    · cases hk
  · rename_i t ho; rw [ho] at hv; cases hv
  · rename_i t x ho; rw [ho] at hv; cases hv
  · rename_i t x ho; rw [ho] at hv; cases hv
  · rename_i t l x ho; rw [ho] at hv; cases hv
  · split at hk
    · split at hk
      · exact one _ _ (fun K => (xLoad_bind K _ _ _ some).symm) hk
      · cases hk
    · cases hk
  · rename_i t l x ho; rw [ho] at hv; cases hv
  · split at hk
    · exact one _ _ (fun K => (xNil_bind K _ _ some).symm) hk
    · cases hk
  · split at hk
    · split at hk
      · exact one _ _ (fun K => (xCmp_bind K _ _ _ _ _ _ _ some).symm) hk
      · cases hk
    · cases hk
  · split at hk
    · exact one _ _ (fun K => (xUn_bind K _ _ some).symm) hk
    · cases hk
  · rename_i s t x ho; rw [ho] at hv; cases hv
  · rename_i t l x ho; rw [ho] at hv; cases hv
  · rename_i t x l h m ho; rw [ho] at hv; cases hv
  · split at hk
    · exact one _ _ (fun K => (xFieldAddr_bind K _ _ _ _ _ some).symm) hk
    · cases hk
  · split at hk
    · exact one _ _ (fun K => (xField_bind K _ _ _ _ _ some).symm) hk
    · cases hk
  · split at hk
    · split at hk
      · exact one _ _ (fun K => (xIxA_bind K _ _ _ _ _ some).symm) hk
      · cases hk
    · cases hk
  · split at hk
    · split at hk
      · exact one _ _ (fun K => (xIndex_bind K _ _ _ _ some).symm) hk
      · cases hk
    · cases hk
  · split at hk
    · split at hk
      · injection hk with hk; rw [← hk]; exact setV_LU
      · cases hk
    · cases hk
  · rename_i c ho
    rw [ho] at hv
    simp only at hv
    split at hk
    · rename_i b hc
      rw [hc] at hv
      unfold builtinK at hk
      split at hk
      · split at hk
        · exact one _ _ (fun K => (xLen_bind K _ _ _ _ some).symm) hk
        · cases hk
      · split at hk
        · exact one _ _ (fun K => (xCap_bind K _ _ _ _ some).symm) hk
        · cases hk
      · cases hv
      · split at hk
        · split at hk
          · exact one _ _ (fun K => (xMin_bind K _ _ some).symm) hk
          · cases hk
        · cases hk
      · split at hk
        · split at hk
          · exact one _ _ (fun K => (xMax_bind K _ _ some).symm) hk
          · cases hk
        · cases hk
      · cases hk
    · rename_i f hc
      rw [hc] at hv
      simp only at hv
      cases hf : V.CT f with
      | none => rw [hf] at hv; cases hv
      | some ce =>
      rw [hf] at hv hk
      simp only [Bool.and_eq_true] at hv
      simp only at hk
      obtain ⟨hro, hfl⟩ := hv
      split at hk
      · rename_i es hes
        rw [hfl] at hk
        simp only [cond_true] at hk
        unfold roCall at hro
        simp only [Bool.and_eq_true] at hro
        obtain ⟨r1, r2, r3⟩ := hro
        unfold callK at hk
        obtain ⟨x, bs, hk⟩ := argsK_ro r1 hk
        simp only [Bool.cond_eq_ite] at hk
        split at hk
        · unfold callB at hk
          cases hden : ce.den x with
          | none => rw [hden] at hk; cases hk
          | some y =>
          rw [hden] at hk
          simp only at hk
          split at hk
          · rename_i L2 hL2
            have hL2 := mutsK_ro r3 hL2
            subst hL2
            split at hk
            · obtain ⟨es', hk⟩ := resK_ro r2 hk
              injection hk with hk
              rw [← hk]
              exact ⟨rfl, rfl⟩
            · injection hk with hk
              rw [← hk]
              exact ⟨rfl, rfl⟩
          · cases hk
        · cases hk
      · cases hk
    · cases hk
  · cases hk
end
end Go.Proofs.YtgonfcjdhbjkcaaDoor.Rf
/- Layer 36: regions that draw: what each operation reads and writes; the orders do not matter. -/
set_option linter.unusedVariables false
set_option linter.unusedSimpArgs false
namespace Go.Proofs.YtgonfcjdhbjkcaaDoor.Rf
open Go

/-- Is the operation wanted, as far as a state tells? -/
def gval (σ : St) (ops : List Oper) (o : Oper) : Option Bool :=
  match o.guard with
  | none => some true
  | some (j, want) => match gslot ops j with
    | some s => (match σ.E s with
      | some (.one (.val .bool b)) => some ((b : Bool) == want)
      | some (.one (.cst v)) => (match v with
        | .bool b => some (b == want)
        | _ => some false)
      | _ => none)
    | none => none
def gslots (ops : List Oper) (o : Oper) : List Nat := match o.guard with
  | none => []
  | some (j, _) => match gslot ops j with | some s => [s] | none => []

/-- What an operation did to a state: one slot, some labels. -/
structure Tr where
  o : Oper
  st : St
  run : Bool
  e : Option Ent
  /-- the labels it may have changed -/
  T : Nat → Bool
  L' : Nat → Option Lab
  U' : Nat → Bool
  re : List Nat
  /-- the labels it saw -/
  TR : Nat → Bool
  anc : List Nat

def Tr.U (t : Tr) (σ : St) : St := ⟨match t.o.dst with | some d => upd σ.E d t.e | none => σ.E, mrgL t.T t.L' σ.L, mrgU t.T t.U' σ.U⟩

/-- What two operations that no one orders must keep. -/
structure Apart (s t : Tr) : Prop where
  r1 : ∀ d, s.o.dst = some d → d ∉ t.re
  r2 : ∀ d, t.o.dst = some d → d ∉ s.re
  w : ∀ d, s.o.dst = some d → t.o.dst ≠ some d
  l1 : ∀ l, s.T l = true → t.TR l = true → False
  l2 : ∀ l, t.T l = true → s.TR l = true → False
  l3 : ∀ l, s.T l = true → t.T l = true → False

def Ag (t : Tr) (σ1 σ2 : St) : Prop := (∀ x ∈ t.re, σ1.E x = σ2.E x) ∧ ∀ l, t.TR l = true → σ1.L l = σ2.L l ∧ σ1.U l = σ2.U l

/-- The states at a set of operations. -/
def foldD (D : Nat → Bool) : List Tr → Nat → St → St
  | [], _, σ => σ
  | t :: tr, m, σ => foldD D tr (m + 1) (bif D m then t.U σ else σ)

section
theorem Ag.refl (t : Tr) (σ : St) : Ag t σ σ := ⟨fun _ _ => rfl, fun _ _ => ⟨rfl, rfl⟩⟩
theorem Ag.both {t s : Tr} {σ1 σ2 : St} (h : Ag t σ1 σ2) : Ag t (s.U σ1) (s.U σ2) := by
  refine ⟨fun x hx => ?_, fun l hl => ?_⟩
  · simp only [Tr.U]
    cases s.o.dst with
    | none => exact h.1 x hx
    | some d =>
      by_cases e : x = d
      · subst e; simp only [upd_same]
      · simp only [upd_ne _ _ e]; exact h.1 x hx
  · simp only [Tr.U, mrgL, mrgU]
    cases s.T l
    · exact h.2 l hl
    · exact ⟨rfl, rfl⟩
theorem Ag.one {t s : Tr} {σ : St} (h : Apart s t) : Ag t (s.U σ) σ := by
  refine ⟨fun x hx => ?_, fun l hl => ?_⟩
  · simp only [Tr.U]
    cases hd : s.o.dst with
    | none => rfl
    | some d => exact upd_ne _ _ (fun e => h.r1 d hd (e ▸ hx))
  · simp only [Tr.U, mrgL, mrgU]
    cases hT : s.T l
    · exact ⟨rfl, rfl⟩
    · exact (h.l1 l hT hl).elim
theorem Ag.trans {t : Tr} {σ1 σ2 σ3 : St} (h : Ag t σ1 σ2) (k : Ag t σ2 σ3) : Ag t σ1 σ3 := ⟨fun x hx => (h.1 x hx).trans (k.1 x hx), fun l hl => ⟨(h.2 l hl).1.trans (k.2 l hl).1, (h.2 l hl).2.trans (k.2 l hl).2⟩⟩
theorem Ag.symm {t : Tr} {σ1 σ2 : St} (h : Ag t σ1 σ2) : Ag t σ2 σ1 := ⟨fun x hx => (h.1 x hx).symm, fun l hl => ⟨(h.2 l hl).1.symm, (h.2 l hl).2.symm⟩⟩
theorem Apart.symm {s t : Tr} (h : Apart s t) : Apart t s := ⟨h.r2, h.r1, fun d h1 h2 => h.w d h2 h1, h.l2, h.l1, fun l h1 h2 => h.l3 l h2 h1⟩

theorem U_comm {s t : Tr} (h : Apart s t) (σ : St) : s.U (t.U σ) = t.U (s.U σ) := by
  have hE : (s.U (t.U σ)).E = (t.U (s.U σ)).E := by
    simp only [Tr.U]
    cases hs : s.o.dst with
    | none => cases t.o.dst <;> rfl
    | some d =>
      cases ht : t.o.dst with
      | none => rfl
      | some d' =>
        have hne : d ≠ d' := fun e => h.w d hs (by rw [ht, e])
        funext j
        by_cases e1 : j = d
        · subst e1; simp only [upd_same, upd_ne _ _ hne]
        · by_cases e2 : j = d'
          · subst e2; simp only [upd_ne _ _ e1, upd_same]
          · simp only [upd_ne _ _ e1, upd_ne _ _ e2]
  have hL : (s.U (t.U σ)).L = (t.U (s.U σ)).L := by
    funext l
    simp only [Tr.U, mrgL]
    cases h1 : s.T l <;> cases h2 : t.T l <;> first | rfl | exact (h.l3 l h1 h2).elim
  have hU : (s.U (t.U σ)).U = (t.U (s.U σ)).U := by
    funext l
    simp only [Tr.U, mrgU]
    cases h1 : s.T l <;> cases h2 : t.T l <;> first | rfl | exact (h.l3 l h1 h2).elim
  cases h1 : s.U (t.U σ) with
  | mk E1 L1 U1 =>
    cases h2 : t.U (s.U σ) with
    | mk E2 L2 U2 =>
      rw [h1, h2] at hE hL hU
      simp only at hE hL hU
      rw [hE, hL, hU]

theorem foldD_ext {D D' : Nat → Bool} : ∀ (tr : List Tr) (m : Nat) (σ : St), (∀ k, m ≤ k → k < m + tr.length → D k = D' k) → foldD D tr m σ = foldD D' tr m σ := by
  intro tr
  induction tr with
  | nil => intro m σ _; rfl
  | cons t tr ih =>
    intro m σ h
    simp only [foldD]
    rw [h m (Nat.le_refl _) (by simp)]
    exact ih (m + 1) _ (fun k h1 h2 => h k (by omega) (by simp at h2 ⊢; omega))

/-- One more operation, done last. -/
theorem foldD_add {D : Nat → Bool} {i : Nat} {t : Tr} : ∀ (tr : List Tr) (m : Nat) (σ : St), (m ≤ i) → tr[i - m]? = some t → D i = false → (∀ k s, i < k → D k = true → m ≤ k → tr[k - m]? = some s → Apart s t) →
    foldD (fun k => D k || Nat.beq k i) tr m σ = t.U (foldD D tr m σ) := by
  have later : ∀ (tr : List Tr) (m : Nat) (σ : St), i < m → (∀ k s, D k = true → m ≤ k → tr[k - m]? = some s → Apart s t) → foldD (fun k => D k || Nat.beq k i) tr m (t.U σ) = t.U (foldD D tr m σ) := by
    intro tr
    induction tr with
    | nil => intro m σ _ _; rfl
    | cons s tr ih =>
      intro m σ hm ha
      have hne : Nat.beq m i = false := by
        cases hb : Nat.beq m i
        · rfl
        · have := Nat.eq_of_beq_eq_true hb; omega
      simp only [foldD, hne, Bool.or_false]
      cases hD : D m
      · exact ih (m + 1) σ (by omega) (fun k s' h1 h2 h3 => ha k s' h1 (by omega) (by rw [show k - m = (k - (m + 1)) + 1 by omega]; exact h3))
      · simp only [cond_true]
        rw [U_comm (ha m s hD (Nat.le_refl _) (by simp))]
        exact ih (m + 1) _ (by omega) (fun k s' h1 h2 h3 => ha k s' h1 (by omega) (by rw [show k - m = (k - (m + 1)) + 1 by omega]; exact h3))
  intro tr
  induction tr with
  | nil => intro m σ _ h; simp at h
  | cons s tr ih =>
    intro m σ hm ht hD ha
    by_cases e : m = i
    · subst e
      simp at ht
      subst ht
      simp only [foldD, hD, Nat.beq_refl, Bool.false_or, cond_true, cond_false]
      exact later tr (m + 1) σ (Nat.lt_succ_self _) (fun k s' h1 h2 h3 => ha k s' (by omega) h1 (by omega) (by rw [show k - m = (k - (m + 1)) + 1 by omega]; exact h3))
    · have hne : Nat.beq m i = false := by
        cases hb : Nat.beq m i
        · rfl
        · exact absurd (Nat.eq_of_beq_eq_true hb) e
      simp only [foldD, hne, Bool.or_false]
      exact ih (m + 1) _ (by omega) (by rw [show i - m = (i - (m + 1)) + 1 by omega] at ht; exact ht) hD (fun k s' h0 h1 h2 h3 => ha k s' h0 h1 (by omega) (by rw [show k - m = (k - (m + 1)) + 1 by omega]; exact h3))

/-- At every set that is closed, an operation sees what it saw on the way written. -/
theorem foldD_ag {D : Nat → Bool} {i : Nat} {t : Tr} : ∀ (tr : List Tr) (m : Nat) (σ1 σ2 : St), m ≤ i → i - m ≤ tr.length → Ag t σ1 σ2 → D i = false → (∀ k s, m ≤ k → k < i → D k = false → tr[k - m]? = some s → Apart s t) → (∀ k s, i < k → D k = true → tr[k - m]? = some s → Apart s t) →
    Ag t (foldD D tr m σ1) (foldD (fun _ => true) (tr.take (i - m)) m σ2) := by
  have later : ∀ (tr : List Tr) (m : Nat) (σ1 : St), i < m → (∀ k s, m ≤ k → D k = true → tr[k - m]? = some s → Apart s t) → Ag t (foldD D tr m σ1) σ1 := by
    intro tr
    induction tr with
    | nil => intro m σ1 _ _; exact Ag.refl _ _
    | cons s tr ih =>
      intro m σ1 hm ha
      simp only [foldD]
      have hs : ∀ k s', m + 1 ≤ k → D k = true → tr[k - (m + 1)]? = some s' → Apart s' t := fun k s' h1 h2 h3 => ha k s' (by omega) h2 (by rw [show k - m = (k - (m + 1)) + 1 by omega]; exact h3)
      cases hD : D m
      · exact ih (m + 1) σ1 (by omega) hs
      · exact (ih (m + 1) _ (by omega) hs).trans (Ag.one (ha m s (Nat.le_refl _) hD (by simp)))
  intro tr
  induction tr with
  | nil => intro m σ1 σ2 _ _ h _ _ _; simpa [foldD] using h
  | cons s tr ih =>
    intro m σ1 σ2 hm hl h hD h1 h2
    by_cases e : m = i
    · subst e
      simp only [Nat.sub_self, List.take_zero, foldD, hD, cond_false]
      exact (later tr (m + 1) σ1 (Nat.lt_succ_self _) (fun k s' q1 q2 q3 => h2 k s' (by omega) q2 (by rw [show k - m = (k - (m + 1)) + 1 by omega]; exact q3))).trans h
    · rw [show i - m = (i - (m + 1)) + 1 by omega, List.take_succ_cons]
      simp only [foldD, cond_true]
      refine ih (m + 1) _ _ (by omega) (by simp at hl; omega) ?_ hD (fun k s' q1 q2 q3 q4 => h1 k s' (by omega) q2 q3 (by rw [show k - m = (k - (m + 1)) + 1 by omega]; exact q4)) (fun k s' q1 q2 q3 => h2 k s' q1 q2 (by rw [show k - m = (k - (m + 1)) + 1 by omega]; exact q3))
      cases hDm : D m
      · exact h.trans (Ag.one (h1 m s (Nat.le_refl _) (by omega) hDm (by simp))).symm
      · exact h.both
end
end Go.Proofs.YtgonfcjdhbjkcaaDoor.Rf
/- Layer 37: regions that draw: soundness over all orders. -/
set_option linter.unusedVariables false
set_option linter.unusedSimpArgs false
namespace Go.Proofs.YtgonfcjdhbjkcaaDoor.Rf
open Go

/-- A step does what its mark says, wherever the state is alike in what it looks at. -/
def StepT (V : Env) (t : Tr) : Prop := ∀ {P : Program} {B : Base} {σ : St} {a : Act} {w : World} {Q : Exit → Act → World → Prop}, EnvOk P V → Inv B σ a w → (∀ d, t.o.dst = some d → d < B.N) → Ag t σ t.st → t.o.wp P a w (fun a' w' => Inv B (t.U σ) a' w') Q
/-- A way through a region, and all that was looked at on it. -/
structure GoodP (V : Env) (ops : List Oper) (tr : List Tr) (σ0 : St) : Prop where
  op : ∀ (i : Nat) (t : Tr), tr[i]? = some t → ops[i]? = some t.o
  st : ∀ (i : Nat) (t : Tr), tr[i]? = some t → t.st = foldD (fun _ => true) (tr.take i) 0 σ0
  gv : ∀ (i : Nat) (t : Tr), tr[i]? = some t → gval t.st ops t.o = some t.run ∧ ∀ s ∈ gslots ops t.o, s ∈ t.re
  run : ∀ (i : Nat) (t : Tr), tr[i]? = some t → t.run = true → StepT V t
  skip : ∀ (i : Nat) (t : Tr), tr[i]? = some t → t.run = false → ∀ σ, σ.setV t.o.dst (.cst undef) = t.U σ
  edge : ∀ (i : Nat) (t : Tr) (e : Edge), tr[i]? = some t → e ∈ t.o.after → Region.binds .any e = true → e.on < i
  anc : ∀ (i : Nat) (t : Tr) (m : Nat), tr[i]? = some t → m ∈ t.anc → m < i ∧ ∃ e : Edge, e ∈ t.o.after ∧ Region.binds .any e = true ∧ (m = e.on ∨ ∃ s : Tr, tr[e.on]? = some s ∧ m ∈ s.anc)
  apart : ∀ (i j : Nat) (s t : Tr), i < j → tr[i]? = some s → tr[j]? = some t → i ∉ t.anc → Apart s t
structure Good (V : Env) (ops : List Oper) (tr : List Tr) (σ0 : St) : Prop extends GoodP V ops tr σ0 where
  len : tr.length = ops.length

section
variable {P : Program} {B : Base} {V : Env} {ops : Array Oper} {tr : List Tr} {σ0 : St}

theorem gval_loc {σ σ' : St} {ops : List Oper} {o : Oper} (h : ∀ s ∈ gslots ops o, σ.E s = σ'.E s) : gval σ ops o = gval σ' ops o := by
  unfold gslots at h
  unfold gval
  cases hg : o.guard with
  | none => rfl
  | some p =>
    obtain ⟨j, want⟩ := p
    rw [hg] at h
    simp only at h ⊢
    cases hs : gslot ops j with
    | none => rfl
    | some s => rw [hs] at h; simp only at h ⊢; rw [h s (by simp)]

theorem gval_ok {σ : St} {a : Act} {w : World} (h : Inv B σ a w) {o : Oper} {b : Bool} (hg : gval σ ops.toList o = some b) : Region.wanted o (yielded ops a.tmps) = b := by
  obtain ⟨F, Sg, cg, h⟩ := h
  unfold gval at hg
  unfold Region.wanted
  split at hg
  · rename_i hg'; rw [hg']; exact Option.some.inj hg
  · rename_i j want hg'
    rw [hg']
    simp only
    cases hs : gslot ops.toList j with
    | none => rw [hs] at hg; cases hg
    | some s =>
    rw [hs] at hg
    simp only at hg
    split at hg
    · rename_i b' hE
      have hv := val_bool (L := σ.L) (U := σ.U) (cg := cg) (h.ent s _ hE)
      rw [yield_bool hs hv]
      have hg := Option.some.inj hg
      rw [← hg]
      cases b' <;> cases want <;> rfl
    · rename_i v hE
      have hv : a.tmps.getD s undef = v := h.ent s _ hE
      split at hg
      · rename_i b'
        rw [yield_bool hs hv]
        have hg := Option.some.inj hg
        rw [← hg]
        cases b' <;> cases want <;> rfl
      · rename_i hnb
        rw [yield_other hs (fun b hb => by rw [hv] at hb; exact hnb b hb)]
        have hg := Option.some.inj hg
        rw [← hg]
        rfl
    · cases hg

theorem keysOf_loc {σ σ' : St} : ∀ {ts : List Nat}, (∀ t ∈ ts, σ.E t = σ'.E t) → keysOf σ ts = keysOf σ' ts := by
  intro ts
  induction ts with
  | nil => intro _; rfl
  | cons t ts ih => intro h; simp only [keysOf]; rw [h t (by simp), ih (fun t ht => h t (by simp [ht]))]
theorem visO_loc {σ σ' : St} {o : Oper} (h : ∀ t ∈ looks o, σ.E t = σ'.E t) : visO σ o = visO σ' o := by
  unfold visO; rw [keysOf_loc h]
theorem memB_mem {t : Nat} {l : List Nat} (h : memB t l = true) : t ∈ l := keep_mem h
theorem restr_loc {σ σ' : St} {o : Oper} (h : ∀ t ∈ looks o, σ.E t = σ'.E t) (hl : ∀ l, visO σ' o l = true → σ.L l = σ'.L l ∧ σ.U l = σ'.U l) : restr σ o = restr σ' o := by
  unfold restr
  rw [visO_loc h]
  have e1 : (fun t => bif memB t (looks o) then σ.E t else none) = fun t => bif memB t (looks o) then σ'.E t else none := by
    funext t
    cases hm : memB t (looks o)
    · rfl
    · exact h t (memB_mem hm)
  have e2 : restrL σ.L (visO σ' o) = restrL σ'.L (visO σ' o) := by
    funext l
    unfold restrL
    cases hv : visO σ' o l
    · rfl
    · exact (hl l hv).1
  have e3 : raiseU σ.U (visO σ' o) = raiseU σ'.U (visO σ' o) := by
    funext l
    unfold raiseU
    cases hv : visO σ' o l
    · rfl
    · exact (hl l hv).2
  rw [e1, e2, e3]

theorem StepT.of {t : Tr} (h : (∀ x ∈ looks t.o, x ∈ t.re) ∧ (∀ l, visO t.st t.o l = true → t.TR l = true) ∧ calm V t.o = true ∧ ∃ σ', opK V (restr t.st t.o) t.o some = some σ' ∧ keysIn (visO t.st t.o) t.o.dst σ' = true ∧ ∀ σ, Ag t σ t.st → mergeSt (visO t.st t.o) t.o.dst σ σ' = t.U σ) : StepT V t := by
  intro P B σ a w Q hV hi hd hag
  obtain ⟨r1, r2, r3, σ', r4, r5, r6⟩ := h
  have hlk : ∀ x ∈ looks t.o, σ.E x = t.st.E x := fun x hx => hag.1 x (r1 x hx)
  have hre := restr_loc hlk (fun l hl => hag.2 l (r2 l hl))
  have hvi := visO_loc hlk
  refine Oper.wp_weak (Q := Q) (stepL hV hi r3 hd (by rw [hre]; exact r4) (by rw [hvi]; exact r5)) (fun a' w' hp => ?_) (fun _ _ _ h => h)
  rw [hvi, r6 _ hag] at hp
  exact hp
/-- What a move copies: a name of what is owned. -/
def mvE (σ : St) (o : Oper) : Option Ent0 := match o.op with
  | .move (.tmp t) | .assign (.tmp t) => (match σ.E t with
    | some (.one (.hdr l n p c)) => some (.hdr l n p c)
    | some (.one (.adr l n p c)) => some (.adr l n p c)
    | _ => none)
  | _ => none
theorem mvE_ex {σ : St} {o : Oper} {e : Ent0} (h : mvE σ o = some e) : ∃ x, (o.op = .move (.tmp x) ∨ o.op = .assign (.tmp x)) ∧ looks o = [x] ∧ σ.E x = some (.one e) := by
  unfold mvE at h
  split at h
  · rename_i x ho
    refine ⟨x, .inl ho, by unfold looks; rw [ho]; rfl, ?_⟩
    split at h
    · rename_i hx; injection h with h; rw [← h]; exact hx
    · rename_i hx; injection h with h; rw [← h]; exact hx
    · cases h
  · rename_i x ho
    refine ⟨x, .inr ho, by unfold looks; rw [ho]; rfl, ?_⟩
    split at h
    · rename_i hx; injection h with h; rw [← h]; exact hx
    · rename_i hx; injection h with h; rw [← h]; exact hx
    · cases h
  · cases h
theorem StepT.mv {t : Tr} {e : Ent0} (h : mvE t.st t.o = some e) (hre : ∀ x ∈ looks t.o, x ∈ t.re) (hU : ∀ σ : St, σ.setV t.o.dst e = t.U σ) : StepT V t := by
  intro P B σ a w Q hV hi hd hag
  obtain ⟨x, hx, hl, hE⟩ := mvE_ex h
  have hE' : σ.E x = some (.one e) := by rw [hag.1 x (hre x (by rw [hl]; simp))]; exact hE
  have hk : opK V σ t.o some = some (t.U σ) := by
    rw [← hU]
    unfold opK
    rcases hx with hx | hx <;> rw [hx] <;> simp only [opdT, opd, hE']
  obtain ⟨F, Sg, cg, hg⟩ := hi
  refine Oper.wp_weak (Q := Q) (opK_ok hV hg hd hk) (fun a' w' hp => ?_) (fun _ _ _ h => h)
  obtain ⟨σ', q1, q2, _⟩ := hp
  injection q1 with q1
  rw [← q1]; exact q2
theorem countP_lt {p p' : Nat → Bool} : ∀ {l : List Nat} {i : Nat}, (∀ k, p' k = true → p k = true) → i ∈ l → p i = true → p' i = false → l.countP p' < l.countP p := by
  intro l
  induction l with
  | nil => intro i _ h; simp at h
  | cons x xs ih =>
    intro i hp hi h1 h2
    have hle : xs.countP p' ≤ xs.countP p := List.countP_mono_left (fun k _ h => hp k h)
    rw [List.countP_cons, List.countP_cons]
    rcases List.mem_cons.1 hi with rfl | hi
    · rw [h1, h2]; simp; omega
    · have := ih hp hi h1 h2
      by_cases hx : p' x = true
      · rw [hx, hp x hx]; simp; omega
      · have : p' x = false := by simpa using hx
        rw [this]; simp; omega

theorem drawAny (G : Good V ops.toList tr σ0) (hV : EnvOk P V) (hN : dstOk B.N ops.toList = true) {Q : Exit → Act → World → Prop} (hQ : ∀ a w, Inv B (foldD (fun _ => true) tr 0 σ0) a w → Q .normal a w) :
    ∀ (fuel : Nat) (listed : Array Bool) (a : Act) (w : World), listed.size = ops.size → (∀ (i : Nat) (t : Tr) (e : Edge), tr[i]? = some t → listed.getD i false = true → e ∈ t.o.after → Region.binds .any e = true → listed.getD e.on false = true) → (List.range ops.size).countP (fun k => !listed.getD k false) ≤ fuel →
      Inv B (foldD (fun k => listed.getD k false) tr 0 σ0) a w → wpAny P .any ops Q fuel listed a w := by
  have hlen : tr.length = ops.size := by rw [G.len]; simp
  have trOf : ∀ i : Nat, i < ops.size → ∃ t, tr[i]? = some t := fun i hi => ⟨tr[i]'(by omega), by simp [show i < tr.length by omega]⟩
  have opOf : ∀ (i : Nat) (t : Tr), tr[i]? = some t → ops[i]? = some t.o := fun i t h => by rw [← Array.getElem?_toList]; exact G.op i t h
  have hdst : ∀ (i : Nat) (t : Tr), tr[i]? = some t → ∀ d, t.o.dst = some d → d < B.N := fun i t h => by
    have : ∀ l : List Oper, dstOk B.N l = true → ∀ o ∈ l, ∀ d, o.dst = some d → d < B.N := by
      intro l
      induction l with
      | nil => intro _ o ho; simp at ho
      | cons x l ihl =>
        intro hl o ho d hd
        simp only [dstOk, Bool.and_eq_true] at hl
        rcases List.mem_cons.1 ho with rfl | ho
        · rw [hd] at hl; exact Nat.le_of_ble_eq_true hl.1
        · exact ihl hl.2 o ho d hd
    exact this _ hN _ (List.mem_of_getElem? (G.op i t h))
  -- nothing ready: all done
  have done : ∀ (listed : Array Bool) (a : Act) (w : World), listed.size = ops.size → Region.ready .any ops listed = [] → Inv B (foldD (fun k => listed.getD k false) tr 0 σ0) a w → Q .normal a w := by
    intro listed a w hs hr h
    have all : ∀ k, k < ops.size → listed.getD k false = true := by
      intro k
      induction k using Nat.strongRecOn with
      | _ k ih =>
        intro hk
        cases hl : listed.getD k false with
        | true => rfl
        | false =>
          exfalso
          obtain ⟨t, ht⟩ := trOf k hk
          have : k ∈ Region.ready .any ops listed := by
            rw [mem_ready]
            refine ⟨?_, t.o, opOf k t ht, fun e he hb => ?_⟩
            · rw [Array.getD_eq_getD_getElem?] at hl ⊢
              simp [show k < listed.size by omega] at hl ⊢
              exact hl
            · have := G.edge k t e ht he hb
              exact ih e.on this (by omega)
          rw [hr] at this
          simp at this
    have e : foldD (fun k => listed.getD k false) tr 0 σ0 = foldD (fun _ => true) tr 0 σ0 := foldD_ext tr 0 σ0 (fun k _ hk => all k (by omega))
    rw [e] at h
    exact hQ a w h
  intro fuel
  induction fuel with
  | zero =>
    intro listed a w hs hcl hc h
    have hr : Region.ready .any ops listed = [] := by
      cases hr : Region.ready .any ops listed with
      | nil => rfl
      | cons i is =>
        exfalso
        have hm : i ∈ Region.ready .any ops listed := by rw [hr]; simp
        obtain ⟨h1, o, h2, _⟩ := mem_ready.1 hm
        have hi : i < ops.size := (Array.getElem?_eq_some_iff.1 h2).1
        have : 0 < (List.range ops.size).countP (fun k => !listed.getD k false) := by
          rw [List.countP_pos_iff]
          refine ⟨i, by simpa using hi, ?_⟩
          rw [Array.getD_eq_getD_getElem?] at h1 ⊢
          simp [show i < listed.size by omega] at h1 ⊢
          exact h1
        omega
    exact ⟨hr, done listed a w hs hr h⟩
  | succ fuel ih =>
    intro listed a w hs hcl hc h
    refine ⟨fun hr => done listed a w hs hr h, fun i hi => ?_⟩
    obtain ⟨h1, o, h2, h3⟩ := mem_ready.1 hi
    have hisz : i < ops.size := (Array.getElem?_eq_some_iff.1 h2).1
    obtain ⟨t, ht⟩ := trOf i hisz
    have hot := opOf i t ht
    have hlf : listed.getD i false = false := by
      rw [Array.getD_eq_getD_getElem?] at h1 ⊢
      simp [show i < listed.size by omega] at h1 ⊢
      exact h1
    -- what is listed is closed
    have hanc : ∀ (j : Nat) (s : Tr), tr[j]? = some s → (∀ e : Edge, e ∈ s.o.after → Region.binds .any e = true → listed.getD e.on false = true) → ∀ m ∈ s.anc, listed.getD m false = true := by
      intro j
      induction j using Nat.strongRecOn with
      | _ j ihj =>
        intro s hs' he m hm
        obtain ⟨_, e, q1, q2, q3⟩ := G.anc j s m hs' hm
        rcases q3 with rfl | ⟨s2, q4, q5⟩
        · exact he e q1 q2
        · exact ihj e.on (G.edge j s e hs' q1 q2) s2 q4 (fun e2 he2 hb2 => hcl e.on s2 e2 q4 (he e q1 q2) he2 hb2) m q5
    have hti : t.o = o := by rw [hot] at h2; injection h2
    have hanci : ∀ m ∈ t.anc, listed.getD m false = true := hanc i t ht (fun e he hb => h3 e (hti ▸ he) hb)
    have hanck : ∀ (k : Nat) (s : Tr), tr[k]? = some s → listed.getD k false = true → i ∉ s.anc := fun k s hk hl hm => by
      have := hanc k s hk (fun e he hb => hcl k s e hk hl he hb) i hm
      rw [hlf] at this; cases this
    have hAp1 : ∀ (k : Nat) (s : Tr), 0 ≤ k → k < i → listed.getD k false = false → tr[k - 0]? = some s → Apart s t := fun k s _ hk hl hsk => G.apart k i s t hk hsk ht (fun hm => by rw [hanci k hm] at hl; cases hl)
    have hAp2 : ∀ (k : Nat) (s : Tr), i < k → listed.getD k false = true → tr[k - 0]? = some s → Apart s t := fun k s hk hl hsk => (G.apart i k t s hk ht hsk (hanck k s hsk hl)).symm
    have hag : Ag t (foldD (fun k => listed.getD k false) tr 0 σ0) t.st := by
      rw [G.st i t ht]
      exact foldD_ag tr 0 σ0 σ0 (Nat.zero_le _) (by omega) (Ag.refl _ _) hlf hAp1 hAp2
    have hadd : foldD (fun k => (listed.setIfInBounds i true).getD k false) tr 0 σ0 = t.U (foldD (fun k => listed.getD k false) tr 0 σ0) := by
      rw [← foldD_add (D := fun k => listed.getD k false) tr 0 σ0 (Nat.zero_le _) (by simpa using ht) hlf (fun k s h1 h2 _ h4 => hAp2 k s h1 h2 h4)]
      refine foldD_ext tr 0 σ0 (fun k _ hk => ?_)
      by_cases e : k = i
      · subst e
        simp [show k < listed.size by omega, Nat.beq_refl]
      · rw [getD_set_ne false (Ne.symm e)]
        have : Nat.beq k i = false := by
          cases hb : Nat.beq k i
          · rfl
          · exact absurd (Nat.eq_of_beq_eq_true hb) e
        simp only [this, Bool.or_false]
    have next : ∀ a' w', Inv B (t.U (foldD (fun k => listed.getD k false) tr 0 σ0)) a' w' → wpAny P .any ops Q fuel (listed.setIfInBounds i true) a' w' := by
      intro a' w' h'
      refine ih (listed.setIfInBounds i true) a' w' (by simpa using hs) ?_ ?_ (by rw [hadd]; exact h')
      · intro j s e hj hl he hb
        by_cases e' : j = i
        · subst e'
          have : s = t := by rw [ht] at hj; injection hj with hj; exact hj.symm
          subst this
          have hlt := G.edge j s e ht he hb
          rw [getD_set_ne false (by omega)]
          exact h3 e (hti ▸ he) hb
        · rw [getD_set_ne false (Ne.symm e')] at hl
          exact getD_set_true (hcl j s e hj hl he hb)
      · have := countP_lt (p := fun k => !listed.getD k false) (p' := fun k => !(listed.setIfInBounds i true).getD k false) (l := List.range ops.size) (i := i) (fun k hk => by
          cases hl : listed.getD k false with
          | false => rfl
          | true => rw [getD_set_true hl] at hk; simp at hk) (by simpa using hisz) (by simp only [hlf]; rfl) (by simp [show i < listed.size by omega])
        omega
    have hgv := G.gv i t ht
    have hgs : gval (foldD (fun k => listed.getD k false) tr 0 σ0) ops.toList t.o = some t.run := by
      rw [gval_loc (σ' := t.st) (fun s hs => hag.1 s (hgv.2 s hs))]; exact hgv.1
    have hw := gval_ok h hgs
    unfold wpOp
    rw [hot]
    simp only
    cases hrun : t.run with
    | true =>
      rw [hrun] at hw
      rw [if_pos hw]
      left
      exact Oper.wp_weak (Q := Q) (G.run i t ht hrun hV h (hdst i t ht) hag) (fun a' w' hp => next a' w' hp) (fun _ _ _ h => h)
    | false =>
      rw [hrun] at hw
      rw [if_neg (by rw [hw]; simp)]
      refine next _ _ ?_
      rw [← G.skip i t ht hrun]
      obtain ⟨F, Sg, cg, h⟩ := h
      exact h.setV (hdst i t ht) (e := .cst undef) rfl
end
end Go.Proofs.YtgonfcjdhbjkcaaDoor.Rf
/- Layer 38: regions that draw: the machine. -/
set_option linter.unusedVariables false
set_option linter.unusedSimpArgs false
namespace Go.Proofs.YtgonfcjdhbjkcaaDoor.Rf
open Go

structure Fp where
  v : Bool
  re : List Nat
  dst : Option Nat
  ks : List Nat

def noMem (d : Option Nat) (l : List Nat) : Bool := match d with | some d => !memB d l | none => true
def notOwn (k : Nat) (d : Option Nat) : Bool := match d with | some d => !Nat.beq (k / 8) d | none => true
def okL1 (ks2 : List Nat) (d2 : Option Nat) : List Nat → Bool
  | [] => true
  | k :: ks => (!memB k ks2 && notOwn k d2) && okL1 ks2 d2 ks
def okL2 (d1 : Option Nat) : List Nat → Bool
  | [] => true
  | k :: ks => notOwn k d1 && okL2 d1 ks
def neO (d d' : Option Nat) : Bool := match d, d' with | some d, some d' => !Nat.beq d d' | _, _ => true
def okPair (f g : Fp) : Bool := noMem f.dst g.re && (noMem g.dst f.re && (neO f.dst g.dst && ((f.v && g.v) || (okL1 g.ks g.dst f.ks && okL2 f.dst g.ks))))
def okAll (fp : Fp) (an : List Nat) : List (Fp × List Nat) → Nat → Bool
  | [], _ => true
  | p :: ps, j => (memB j an || okPair p.1 fp) && okAll fp an ps (j + 1)
def edgesOk (i : Nat) : List Edge → Bool
  | [] => true
  | e :: es => (!Region.binds .any e || Nat.blt e.on i) && edgesOk i es
/-- A list, its parts reckoned first. -/
def strictN {R : Type} (n : Nat) (k : Nat → R) : R := Nat.rec (k 0) (fun m _ => k (m + 1)) n
def strictL {R : Type} : List Nat → (List Nat → R) → R
  | [], k => k []
  | x :: xs, k => strictN x fun x => strictL xs fun xs => k (x :: xs)
theorem strictN_eq {R : Type} (n : Nat) (k : Nat → R) : strictN n k = k n := by cases n <;> rfl
theorem strictL_eq {R : Type} : ∀ (l : List Nat) (k : List Nat → R), strictL l k = k l
  | [], _ => rfl
  | x :: xs, k => by rw [strictL, strictN_eq, strictL_eq xs]
def uniN : List Nat → List Nat → List Nat
  | [], l => l
  | x :: xs, l => bif memB x l then uniN xs l else x :: uniN xs l
theorem uniN_mem {m : Nat} : ∀ {xs l : List Nat}, m ∈ uniN xs l → m ∈ xs ∨ m ∈ l
  | [], l, h => .inr h
  | x :: xs, l, h => by
    simp only [uniN] at h
    cases hb : memB x l
    · rw [hb] at h
      simp only [cond_false, List.mem_cons] at h
      rcases h with h | h
      · exact .inl (by simp [h])
      · exact (uniN_mem h).imp (fun h => by simp [h]) id
    · rw [hb] at h
      exact (uniN_mem h).imp (fun h => by simp [h]) id
def ancOf (acc : List (Fp × List Nat)) : List Edge → List Nat
  | [] => []
  | e :: es => bif Region.binds .any e then strictL (ancOf acc es) fun r => bif memB e.on r then r else e.on :: uniN (match acc[e.on]? with | some p => p.2 | none => []) r else ancOf acc es

def nextSt (V : Env) (σ : St) (o : Oper) (σ' : St) : St := bif isV V o then ⟨updO σ.E o.dst σ'.E, σ.L, σ.U⟩ else mergeSt (visO σ o) o.dst σ σ'

def drawK {R : Type} (V : Env) (ops : List Oper) : List Oper → Nat → List (Fp × List Nat) → St → (St → Option R) → Option R
  | [], _, _, σ, K => K σ
  | o :: rest, i, acc, σ, K =>
    bif edgesOk i o.after.toList then
      guardK σ ops o
        (fun σ1 => match mvE σ1 o with
          | some e => strictL (ancOf acc o.after.toList) fun an => bif okAll ⟨true, gslots ops o ++ looks o, o.dst, []⟩ an acc 0 then
            drawK V ops rest (i + 1) (acc ++ [(⟨true, gslots ops o ++ looks o, o.dst, []⟩, an)]) (σ1.setV o.dst e) K else none
          | none => strictL (ancOf acc o.after.toList) fun an => strictL (keysOf σ1 (looks o)) fun ks => bif calm V o && okAll ⟨isV V o, gslots ops o ++ looks o, o.dst, ks⟩ an acc 0 then
          opK V (restr σ1 o) o fun σ' => bif keysIn (visO σ1 o) o.dst σ' then
            drawK V ops rest (i + 1) (acc ++ [(⟨isV V o, gslots ops o ++ looks o, o.dst, ks⟩, an)]) (nextSt V σ1 o σ') K else none
          else none)
        (fun σ1 => strictL (ancOf acc o.after.toList) fun an => bif okAll ⟨true, gslots ops o, o.dst, []⟩ an acc 0 then
            drawK V ops rest (i + 1) (acc ++ [(⟨true, gslots ops o, o.dst, []⟩, an)]) (σ1.setV o.dst (.cst undef)) K else none)
    else none

section
variable {R : Type} {V : Env}

def Tr.fp (V : Env) (t : Tr) : Fp := bif t.run then (match mvE t.st t.o with | some _ => ⟨true, t.re, t.o.dst, []⟩ | none => ⟨isV V t.o, t.re, t.o.dst, keysOf t.st (looks t.o)⟩) else ⟨true, t.re, t.o.dst, []⟩
theorem Tr.fp_dst (t : Tr) : (t.fp V).dst = t.o.dst := by
  unfold Tr.fp; cases t.run
  · rfl
  · simp only [cond_true]; split <;> rfl
theorem Tr.fp_re (t : Tr) : (t.fp V).re = t.re := by
  unfold Tr.fp; cases t.run
  · rfl
  · simp only [cond_true]; split <;> rfl

theorem okL1_mem {ks2 : List Nat} {d2 : Option Nat} {ks : List Nat} (h : okL1 ks2 d2 ks = true) {k : Nat} (hk : memB k ks = true) : memB k ks2 = false ∧ notOwn k d2 = true := by
  induction ks with
  | nil => cases hk
  | cons x xs ih =>
    simp only [okL1, Bool.and_eq_true, Bool.not_eq_true'] at h
    simp only [memB, Bool.or_eq_true] at hk
    rcases hk with hk | hk
    · rw [Nat.eq_of_beq_eq_true hk]; exact h.1
    · exact ih h.2 hk
theorem okL2_mem {d1 : Option Nat} {ks : List Nat} (h : okL2 d1 ks = true) {k : Nat} (hk : memB k ks = true) : notOwn k d1 = true := by
  induction ks with
  | nil => cases hk
  | cons x xs ih =>
    simp only [okL2, Bool.and_eq_true] at h
    simp only [memB, Bool.or_eq_true] at hk
    rcases hk with hk | hk
    · rw [Nat.eq_of_beq_eq_true hk]; exact h.1
    · exact ih h.2 hk
theorem memB_of {t : Nat} {l : List Nat} (h : t ∈ l) : memB t l = true := by
  induction l with
  | nil => simp at h
  | cons x xs ih =>
    simp only [memB, Bool.or_eq_true]
    rcases List.mem_cons.1 h with rfl | h
    · exact .inl (Nat.beq_refl _)
    · exact .inr (ih h)
theorem vis_disj {ks1 ks2 : List Nat} {d1 d2 : Option Nat} (h1 : okL1 ks2 d2 ks1 = true) (h2 : okL2 d1 ks2 = true) (hd : neO d1 d2 = true) {l : Nat} (v1 : visT ks1 d1 l = true) (v2 : visT ks2 d2 l = true) : False := by
  unfold visT at v1 v2
  simp only [Bool.or_eq_true] at v1 v2
  rcases v1 with v1 | v1
  · obtain ⟨q1, q2⟩ := okL1_mem h1 v1
    rcases v2 with v2 | v2
    · rw [q1] at v2; cases v2
    · cases d2 with
      | none => cases v2
      | some d2 => simp only [notOwn] at q2 v2; rw [v2] at q2; cases q2
  · cases d1 with
    | none => cases v1
    | some d1 =>
      simp only at v1
      rcases v2 with v2 | v2
      · have q := okL2_mem h2 v2
        simp only [notOwn] at q
        rw [v1] at q; cases q
      · cases d2 with
        | none => cases v2
        | some d2 =>
          simp only [neO] at hd v2
          have e1 := Nat.eq_of_beq_eq_true v1
          have e2 := Nat.eq_of_beq_eq_true v2
          rw [← e1, ← e2, Nat.beq_refl] at hd
          cases hd

/-- A step's marks are true. -/
structure Loc (V : Env) (t : Tr) : Prop where
  t1 : ∀ l, t.T l = true → (t.fp V).v = false ∧ visT (t.fp V).ks t.o.dst l = true
  t2 : ∀ l, t.TR l = true → visT (t.fp V).ks t.o.dst l = true

theorem apart_of {s t : Tr} (hs : Loc V s) (ht : Loc V t) (h : okPair (s.fp V) (t.fp V) = true) : Apart s t := by
  unfold okPair at h
  simp only [Bool.and_eq_true, Bool.or_eq_true] at h
  obtain ⟨h1, h2, h3, h4⟩ := h
  have dis : ∀ l, ((s.fp V).v = false ∨ (t.fp V).v = false) → visT (s.fp V).ks s.o.dst l = true → visT (t.fp V).ks t.o.dst l = true → False := by
    intro l hv v1 v2
    rcases h4 with h4 | h4
    · rcases hv with hv | hv
      · rw [hv] at h4; exact absurd h4.1 (by simp)
      · rw [hv] at h4; exact absurd h4.2 (by simp)
    · exact vis_disj h4.1 h4.2 h3 (by rw [Tr.fp_dst]; exact v1) (by rw [Tr.fp_dst]; exact v2)
  refine ⟨fun d hd hm => ?_, fun d hd hm => ?_, fun d hd hd' => ?_, fun l a b => dis l (.inl (hs.t1 l a).1) (hs.t1 l a).2 (ht.t2 l b), fun l a b => dis l (.inr (ht.t1 l a).1) (hs.t2 l b) (ht.t1 l a).2, fun l a b => dis l (.inl (hs.t1 l a).1) (hs.t1 l a).2 (ht.t1 l b).2⟩
  · have e : (s.fp V).dst = some d := (Tr.fp_dst s).trans hd
    rw [e] at h1
    simp only [noMem, Bool.not_eq_true'] at h1
    have : memB d t.re = true := memB_of hm
    rw [show (t.fp V).re = t.re from Tr.fp_re t] at h1
    rw [this] at h1; cases h1
  · have e : (t.fp V).dst = some d := (Tr.fp_dst t).trans hd
    rw [e] at h2
    simp only [noMem, Bool.not_eq_true'] at h2
    have : memB d s.re = true := memB_of hm
    rw [show (s.fp V).re = s.re from Tr.fp_re s] at h2
    rw [this] at h2; cases h2
  · have e1 : (s.fp V).dst = some d := (Tr.fp_dst s).trans hd
    have e2 : (t.fp V).dst = some d := (Tr.fp_dst t).trans hd'
    rw [e1, e2] at h3
    simp [neO, Nat.beq_refl] at h3

theorem okAll_get {fp : Fp} {an : List Nat} : ∀ {acc : List (Fp × List Nat)} {j : Nat}, okAll fp an acc j = true → ∀ k p, acc[k]? = some p → j + k ∉ an → okPair p.1 fp = true := by
  intro acc
  induction acc with
  | nil => intro j _ k p h; simp at h
  | cons q acc ih =>
    intro j h k p hk hn
    simp only [okAll, Bool.and_eq_true, Bool.or_eq_true] at h
    cases k with
    | zero =>
      simp at hk
      subst hk
      rcases h.1 with h1 | h1
      · exact absurd (keep_mem h1) hn
      · exact h1
    | succ k =>
      simp at hk
      exact ih h.2 k p hk (by rw [show j + 1 + k = j + (k + 1) by omega]; exact hn)
theorem edgesOk_get {i : Nat} {es : List Edge} (h : edgesOk i es = true) : ∀ e ∈ es, Region.binds .any e = true → e.on < i := by
  induction es with
  | nil => intro e he; simp at he
  | cons x xs ih =>
    intro e he hb
    simp only [edgesOk, Bool.and_eq_true, Bool.or_eq_true, Bool.not_eq_true'] at h
    rcases List.mem_cons.1 he with rfl | he
    · rcases h.1 with h1 | h1
      · rw [hb] at h1; cases h1
      · exact Nat.le_of_ble_eq_true h1
    · exact ih h.2 e he hb
theorem ancOf_get {acc : List (Fp × List Nat)} {es : List Edge} {m : Nat} (h : m ∈ ancOf acc es) : ∃ e, e ∈ es ∧ Region.binds .any e = true ∧ (m = e.on ∨ ∃ p, acc[e.on]? = some p ∧ m ∈ p.2) := by
  induction es with
  | nil => simp [ancOf] at h
  | cons x xs ih =>
    simp only [ancOf] at h
    cases hb : Region.binds .any x
    · rw [hb] at h
      obtain ⟨e, q1, q2, q3⟩ := ih h
      exact ⟨e, by simp [q1], q2, q3⟩
    · rw [hb] at h
      simp only [cond_true, strictL_eq] at h
      have tail : m ∈ ancOf acc xs → ∃ e, e ∈ x :: xs ∧ Region.binds .any e = true ∧ (m = e.on ∨ ∃ p, acc[e.on]? = some p ∧ m ∈ p.2) := fun h => by
        obtain ⟨e, q1, q2, q3⟩ := ih h
        exact ⟨e, by simp [q1], q2, q3⟩
      cases hm : memB x.on (ancOf acc xs)
      · rw [hm] at h
        simp only [cond_false, List.mem_cons] at h
        rcases h with h | h
        · exact ⟨x, by simp, hb, .inl h⟩
        · rcases uniN_mem h with h | h
          · cases ha : acc[x.on]? with
            | none => rw [ha] at h; simp at h
            | some p => rw [ha] at h; exact ⟨x, by simp, hb, .inr ⟨p, ha, h⟩⟩
          · exact tail h
      · rw [hm] at h; exact tail h

theorem guardK_gval {σ : St} {ops : List Oper} {o : Oper} {Ky Kn : St → Option R} {r : R} (hk : guardK σ ops o Ky Kn = some r) : (gval σ ops o = some true ∧ Ky σ = some r) ∨ (gval σ ops o = some false ∧ Kn σ = some r) := by
  unfold guardK at hk
  unfold gval
  split at hk
  · rename_i hg; rw [hg]; exact .inl ⟨rfl, hk⟩
  · rename_i j want hg
    rw [hg]
    simp only
    cases hs : gslot ops j with
    | none => rw [hs] at hk; cases hk
    | some s =>
    rw [hs] at hk
    simp only at hk ⊢
    split at hk
    · rename_i b hE
      rw [hE]
      simp only
      split at hk
      · rw [setE_same hE] at hk
        cases want
        · exact .inr ⟨rfl, hk⟩
        · exact .inl ⟨rfl, hk⟩
      · rw [setE_same hE] at hk
        cases want
        · exact .inl ⟨rfl, hk⟩
        · exact .inr ⟨rfl, hk⟩
    · rename_i v hE
      rw [hE]
      simp only
      split at hk
      · rename_i b
        cases b <;> cases want
        · exact .inl ⟨rfl, hk⟩
        · exact .inr ⟨rfl, hk⟩
        · exact .inr ⟨rfl, hk⟩
        · exact .inl ⟨rfl, hk⟩
      · rename_i hnb
        refine .inr ⟨?_, hk⟩
        split
        · rename_i b; exact absurd rfl (hnb b)
        · rfl
    · cases hk
end
end Go.Proofs.YtgonfcjdhbjkcaaDoor.Rf
/- Layer 39: regions that draw: what the machine says of them is true. -/
set_option linter.unusedVariables false
set_option linter.unusedSimpArgs false
namespace Go.Proofs.YtgonfcjdhbjkcaaDoor.Rf
open Go

section
variable {R : Type} {V : Env} {ops : List Oper} {σ0 : St}

theorem foldD_snoc {D : Nat → Bool} : ∀ (tr : List Tr) (m : Nat) (σ : St) (t : Tr), foldD D (tr ++ [t]) m σ = bif D (m + tr.length) then t.U (foldD D tr m σ) else foldD D tr m σ := by
  intro tr
  induction tr with
  | nil => intro m σ t; simp only [List.nil_append, foldD, List.length_nil, Nat.add_zero]
  | cons s tr ih =>
    intro m σ t
    simp only [List.cons_append, foldD, List.length_cons]
    rw [ih, show m + 1 + tr.length = m + (tr.length + 1) by omega]

theorem snoc_get {tr : List Tr} {t : Tr} {i : Nat} {s : Tr} (h : (tr ++ [t])[i]? = some s) : (i < tr.length ∧ tr[i]? = some s) ∨ (i = tr.length ∧ s = t) := by
  rcases Nat.lt_or_ge i tr.length with hi | hi
  · rw [List.getElem?_append_left hi] at h; exact .inl ⟨hi, h⟩
  · rw [List.getElem?_append_right hi] at h
    cases hk : i - tr.length with
    | zero => rw [hk] at h; simp at h; exact .inr ⟨by omega, h.symm⟩
    | succ n => rw [hk] at h; simp at h
theorem get_lt {tr : List Tr} {i : Nat} {s : Tr} (h : tr[i]? = some s) : i < tr.length := (List.getElem?_eq_some_iff.1 h).1
theorem get_snoc {tr : List Tr} {t : Tr} {i : Nat} {s : Tr} (h : tr[i]? = some s) : (tr ++ [t])[i]? = some s := by
  rw [List.getElem?_append_left (get_lt h)]; exact h
theorem take_snoc {tr : List Tr} {t : Tr} {i : Nat} (h : i ≤ tr.length) : (tr ++ [t]).take i = tr.take i := List.take_append_of_le_length h

theorem GoodP.snoc {tr : List Tr} (G : GoodP V ops tr σ0) {t : Tr} (h1 : ops[tr.length]? = some t.o) (h2 : t.st = foldD (fun _ => true) tr 0 σ0) (h3 : gval t.st ops t.o = some t.run ∧ ∀ s ∈ gslots ops t.o, s ∈ t.re)
    (h4 : t.run = true → StepT V t)
    (h5 : t.run = false → ∀ σ, σ.setV t.o.dst (.cst undef) = t.U σ) (h6 : ∀ e, e ∈ t.o.after → Region.binds .any e = true → e.on < tr.length)
    (h7 : ∀ m, m ∈ t.anc → ∃ e : Edge, e ∈ t.o.after ∧ Region.binds .any e = true ∧ (m = e.on ∨ ∃ s : Tr, tr[e.on]? = some s ∧ m ∈ s.anc))
    (h8 : ∀ i s, tr[i]? = some s → i ∉ t.anc → Apart s t) : GoodP V ops (tr ++ [t]) σ0 where
  op := fun i s hs => by
    rcases snoc_get hs with ⟨_, hs⟩ | ⟨rfl, rfl⟩
    · exact G.op i s hs
    · exact h1
  st := fun i s hs => by
    rcases snoc_get hs with ⟨hi, hs⟩ | ⟨rfl, rfl⟩
    · rw [take_snoc (by omega)]; exact G.st i s hs
    · rw [take_snoc (Nat.le_refl _), List.take_length]; exact h2
  gv := fun i s hs => by
    rcases snoc_get hs with ⟨_, hs⟩ | ⟨rfl, rfl⟩
    · exact G.gv i s hs
    · exact h3
  run := fun i s hs => by
    rcases snoc_get hs with ⟨_, hs⟩ | ⟨rfl, rfl⟩
    · exact G.run i s hs
    · exact h4
  skip := fun i s hs => by
    rcases snoc_get hs with ⟨_, hs⟩ | ⟨rfl, rfl⟩
    · exact G.skip i s hs
    · exact h5
  edge := fun i s e hs he hb => by
    rcases snoc_get hs with ⟨_, hs⟩ | ⟨rfl, rfl⟩
    · exact G.edge i s e hs he hb
    · exact h6 e he hb
  anc := fun i s m hs hm => by
    rcases snoc_get hs with ⟨_, hs⟩ | ⟨rfl, rfl⟩
    · obtain ⟨q1, e, q2, q3, q4⟩ := G.anc i s m hs hm
      refine ⟨q1, e, q2, q3, q4.imp id ?_⟩
      rintro ⟨s2, q5, q6⟩
      exact ⟨s2, get_snoc q5, q6⟩
    · obtain ⟨e, q2, q3, q4⟩ := h7 m hm
      have hlt := h6 e q2 q3
      refine ⟨?_, e, q2, q3, q4.imp id ?_⟩
      · rcases q4 with rfl | ⟨s2, q5, q6⟩
        · exact hlt
        · have := (G.anc _ s2 m q5 q6).1; omega
      · rintro ⟨s2, q5, q6⟩
        exact ⟨s2, get_snoc q5, q6⟩
  apart := fun i j s u hij hs hu hn => by
    rcases snoc_get hu with ⟨hj, hu⟩ | ⟨rfl, rfl⟩
    · rcases snoc_get hs with ⟨_, hs⟩ | ⟨rfl, rfl⟩
      · exact G.apart i j s u hij hs hu hn
      · omega
    · rcases snoc_get hs with ⟨_, hs⟩ | ⟨e, rfl⟩
      · exact h8 i s hs hn
      · omega

theorem setV_U {σ : St} {dst : Option Nat} {e : Ent0} : σ.setV dst e = ⟨match dst with | some d => upd σ.E d (some (.one e)) | none => σ.E, σ.L, σ.U⟩ := by
  cases dst <;> rfl

theorem drawK_good {K : St → Option R} {r : R} : ∀ (rest : List Oper) (i : Nat) (acc : List (Fp × List Nat)) (σ : St) (tr0 : List Tr), drawK V ops rest i acc σ K = some r → ops.drop i = rest → tr0.length = i → acc = tr0.map (fun t => ((t.fp V), t.anc)) → σ = foldD (fun _ => true) tr0 0 σ0 → GoodP V ops tr0 σ0 → (∀ t ∈ tr0, Loc V t) →
    ∃ tr, Good V ops tr σ0 ∧ K (foldD (fun _ => true) tr 0 σ0) = some r := by
  intro rest
  induction rest with
  | nil =>
    intro i acc σ tr0 hk hd hl ha hσ G _
    subst hσ
    have hle : ops.length ≤ i := by
      have := congrArg List.length hd
      simp at this; omega
    have hge : i ≤ ops.length := by
      rcases Nat.eq_zero_or_pos tr0.length with h0 | h0
      · omega
      · have ⟨t, ht⟩ : ∃ t, tr0[tr0.length - 1]? = some t := ⟨tr0[tr0.length - 1]'(by omega), by simp [show tr0.length - 1 < tr0.length by omega]⟩
        have := (List.getElem?_eq_some_iff.1 (G.op _ t ht)).1
        omega
    exact ⟨tr0, ⟨G, by omega⟩, hk⟩
  | cons o rest ih =>
    intro i acc σ tr0 hk hd hl ha hσ G hloc
    have hoi : ops[i]? = some o := by
      have := congrArg (·[0]?) hd
      simpa using this
    have hd' : ops.drop (i + 1) = rest := by rw [← List.tail_drop, hd]; rfl
    simp only [drawK, strictL_eq] at hk
    cases hed : edgesOk i o.after.toList
    · rw [hed] at hk; cases hk
    rw [hed] at hk
    simp only [cond_true] at hk
    have hedge : ∀ e, e ∈ o.after → Region.binds .any e = true → e.on < tr0.length := fun e he hb => by rw [hl]; exact edgesOk_get hed e (by simpa using he) hb
    have hanc : ∀ m, m ∈ ancOf acc o.after.toList → ∃ e : Edge, e ∈ o.after ∧ Region.binds .any e = true ∧ (m = e.on ∨ ∃ s : Tr, tr0[e.on]? = some s ∧ m ∈ s.anc) := fun m hm => by
      obtain ⟨e, q1, q2, q3⟩ := ancOf_get hm
      refine ⟨e, by simpa using q1, q2, q3.imp id ?_⟩
      rintro ⟨p, q4, q5⟩
      rw [ha, List.getElem?_map] at q4
      obtain ⟨s, q6, rfl⟩ := Option.map_eq_some_iff.1 q4
      exact ⟨s, q6, q5⟩
    have hap : ∀ (t : Tr), Loc V t → t.anc = ancOf acc o.after.toList → okAll (t.fp V) (ancOf acc o.after.toList) acc 0 = true → ∀ k s, tr0[k]? = some s → k ∉ t.anc → Apart s t := fun t ht hta hok k s hs hn => by
      refine apart_of (hloc s (List.mem_of_getElem? hs)) ht (okAll_get hok k ((s.fp V), s.anc) (by rw [ha, List.getElem?_map, hs]; rfl) (by rw [Nat.zero_add, ← hta]; exact hn))
    rcases guardK_gval hk with ⟨hg, hk⟩ | ⟨hg, hk⟩
    · cases hmv : mvE σ o with
      | some e0 =>
      rw [hmv] at hk
      simp only at hk
      cases hc : okAll ⟨true, gslots ops o ++ looks o, o.dst, []⟩ (ancOf acc o.after.toList) acc 0
      · rw [hc] at hk; cases hk
      rw [hc] at hk
      simp only [cond_true] at hk
      let t : Tr := { o := o, st := σ, run := true, e := some (.one e0), T := fun _ => false, L' := fun _ => none, U' := fun _ => false, re := gslots ops o ++ looks o, TR := fun _ => false, anc := ancOf acc o.after.toList }
      have hfp : (t.fp V) = ⟨true, gslots ops o ++ looks o, o.dst, []⟩ := by simp [t, Tr.fp, hmv]
      have hlt : Loc V t := ⟨fun l hl => (by cases hl), fun l hl => (by cases hl)⟩
      have hU : ∀ σ1 : St, σ1.setV o.dst e0 = t.U σ1 := fun σ1 => setV_U
      refine ih (i + 1) _ _ (tr0 ++ [t]) hk hd' (by simp [hl]) (by rw [ha, List.map_append, ← hfp, ← ha]; rfl) (by rw [foldD_snoc, ← hσ]; exact hU σ) ?_ (fun s hs => by
        rcases List.mem_append.1 hs with hs | hs
        · exact hloc s hs
        · simp at hs; rw [hs]; exact hlt)
      exact G.snoc (by rw [hl]; exact hoi) hσ ⟨hg, fun s hs => List.mem_append.2 (.inl hs)⟩ (fun _ => StepT.mv (t := t) hmv (fun x hx => List.mem_append.2 (.inr hx)) hU) (fun h => (by cases h)) hedge hanc (hap t hlt rfl (by rw [hfp]; exact hc))
      | none =>
      rw [hmv] at hk
      simp only at hk
      cases hc : calm V o && okAll ⟨isV V o, gslots ops o ++ looks o, o.dst, keysOf σ (looks o)⟩ (ancOf acc o.after.toList) acc 0
      · rw [hc] at hk; cases hk
      rw [hc] at hk
      simp only [cond_true] at hk
      simp only [Bool.and_eq_true] at hc
      have hb := opK_bind (fun σ' => bif keysIn (visO σ o) o.dst σ' then drawK V ops rest (i + 1) (acc ++ [(⟨isV V o, gslots ops o ++ looks o, o.dst, keysOf σ (looks o)⟩, ancOf acc o.after.toList)]) (nextSt V σ o σ') K else none) V (restr σ o) o some
      rw [show (opK V (restr σ o) o fun e => (some e).bind fun σ' => bif keysIn (visO σ o) o.dst σ' then drawK V ops rest (i + 1) (acc ++ [(⟨isV V o, gslots ops o ++ looks o, o.dst, keysOf σ (looks o)⟩, ancOf acc o.after.toList)]) (nextSt V σ o σ') K else none) = some r from hk] at hb
      obtain ⟨σ', hop, hk⟩ := Option.bind_eq_some_iff.1 hb
      cases hin : keysIn (visO σ o) o.dst σ'
      · rw [hin] at hk; cases hk
      rw [hin] at hk
      simp only [cond_true] at hk
      let t : Tr := { o := o, st := σ, run := true, e := match o.dst with | some d => σ'.E d | none => none, T := fun l => bif isV V o then false else visO σ o l, L' := σ'.L, U' := σ'.U, re := gslots ops o ++ looks o, TR := visO σ o, anc := ancOf acc o.after.toList }
      have hfp : (t.fp V) = ⟨isV V o, gslots ops o ++ looks o, o.dst, keysOf σ (looks o)⟩ := by simp [t, Tr.fp, hmv]
      have hlt : Loc V t := by
        refine ⟨fun l hl => ?_, fun l hl => by rw [hfp]; exact hl⟩
        rw [hfp]
        simp only [t] at hl
        cases hv : isV V o
        · rw [hv] at hl; exact ⟨rfl, hl⟩
        · rw [hv] at hl; cases hl
      have hU : ∀ σ1, Ag t σ1 σ → mergeSt (visO σ o) o.dst σ1 σ' = t.U σ1 := by
        intro σ1 hag
        have hE : updO σ1.E o.dst σ'.E = match o.dst with | some d => upd σ1.E d (match o.dst with | some d => σ'.E d | none => none) | none => σ1.E := by
          unfold updO
          cases o.dst <;> rfl
        unfold mergeSt Tr.U
        simp only [t]
        cases hv : isV V o
        · simp only [cond_false]
          rw [hE]
          try rfl
        · simp only [cond_true]
          obtain ⟨he1, he2⟩ := opK_isV hv hop
          have e1 : σ'.L = restrL σ.L (visO σ o) := he1
          have e2 : σ'.U = raiseU σ.U (visO σ o) := he2
          have f1 : mrgL (visO σ o) σ'.L σ1.L = mrgL (fun _ => false) σ'.L σ1.L := by
            funext l
            unfold mrgL
            cases hvl : visO σ o l
            · rfl
            · rw [e1]; simp only [restrL, hvl, cond_true, cond_false]; exact (hag.2 l hvl).1.symm
          have f2 : mrgU (visO σ o) σ'.U σ1.U = mrgU (fun _ => false) σ'.U σ1.U := by
            funext l
            unfold mrgU
            cases hvl : visO σ o l
            · rfl
            · rw [e2]; simp only [raiseU, hvl, cond_true, cond_false]; exact (hag.2 l hvl).2.symm
          rw [hE, f1, f2]
          try rfl
      have hnext : nextSt V σ o σ' = t.U σ := by
        unfold nextSt
        cases hv : isV V o
        · exact hU σ (Ag.refl _ _)
        · simp only [cond_true, Tr.U, t, hv]
          unfold updO
          cases o.dst <;> rfl
      refine ih (i + 1) _ _ (tr0 ++ [t]) hk hd' (by simp [hl]) (by rw [ha, List.map_append, ← hfp, ← ha]; rfl) (by rw [foldD_snoc, ← hσ]; exact hnext) ?_ (fun s hs => by
        rcases List.mem_append.1 hs with hs | hs
        · exact hloc s hs
        · simp at hs; rw [hs]; exact hlt)
      exact G.snoc (by rw [hl]; exact hoi) hσ ⟨hg, fun s hs => List.mem_append.2 (.inl hs)⟩ (fun _ => StepT.of (t := t) ⟨fun x hx => List.mem_append.2 (.inr hx), fun l hl => hl, hc.1, σ', hop, hin, hU⟩) (fun h => (by cases h)) hedge hanc (hap t hlt rfl (by rw [hfp]; exact hc.2))
    · cases hc : okAll ⟨true, gslots ops o, o.dst, []⟩ (ancOf acc o.after.toList) acc 0
      · rw [hc] at hk; cases hk
      rw [hc] at hk
      simp only [cond_true] at hk
      let t : Tr := { o := o, st := σ, run := false, e := some (.one (.cst undef)), T := fun _ => false, L' := fun _ => none, U' := fun _ => false, re := gslots ops o, TR := fun _ => false, anc := ancOf acc o.after.toList }
      have hfp : (t.fp V) = ⟨true, gslots ops o, o.dst, []⟩ := by simp [t, Tr.fp]
      have hlt : Loc V t := ⟨fun l hl => (by cases hl), fun l hl => (by cases hl)⟩
      have hU : ∀ σ1 : St, σ1.setV o.dst (.cst undef) = t.U σ1 := fun σ1 => setV_U
      refine ih (i + 1) _ _ (tr0 ++ [t]) hk hd' (by simp [hl]) (by rw [ha, List.map_append, ← hfp, ← ha]; rfl) (by rw [foldD_snoc, ← hσ]; exact hU σ) ?_ (fun s hs => by
        rcases List.mem_append.1 hs with hs | hs
        · exact hloc s hs
        · simp at hs; rw [hs]; exact hlt)
      exact G.snoc (by rw [hl]; exact hoi) hσ ⟨hg, fun s hs => hs⟩ (fun h => (by cases h)) (fun _ => hU) hedge hanc (hap t hlt rfl (by rw [hfp]; exact hc))
end
end Go.Proofs.YtgonfcjdhbjkcaaDoor.Rf
/- Layer 44: code whose frame is a usual one; channels of one goroutine: communications that do not wait. -/
set_option linter.unusedVariables false
set_option linter.unusedSimpArgs false
namespace Go.Proofs.YtgonfcjdhbjkcaaDoor.Rf
open Go

/-! ### Code in a usual frame -/
def wpN (P : Program) (c : Code) (Q : Exit → Act → World → Prop) (a : Act) (w : World) : Prop :=
  ∀ (b : Frame) (k : List Item) (cs : List Frame), b.kind = .normal → ∃ e a' w', Q e a' w' ∧ Arrives P (lone (b.at a (.code c :: k)) cs w) b k cs e a' w'

section
variable {P : Program} {Q : Exit → Act → World → Prop} {a : Act} {w : World}
theorem wpN_of {c : Code} (h : c.wp P Q a w) : wpN P c Q a w := fun b k cs _ => h b k cs
theorem wpN_mono {c : Code} {Q' : Exit → Act → World → Prop} (h : wpN P c Q a w) (hq : ∀ e a w, Q e a w → Q' e a w) : wpN P c Q' a w := by
  intro b k cs hb
  obtain ⟨e, a', w', q, r⟩ := h b k cs hb
  exact ⟨e, a', w', hq e a' w' q, r⟩
theorem wpN_seq {x y : Code} (h : wpN P x (Exit.then (wpN P y Q) Q) a w) : wpN P (.seq x y) Q a w := by
  intro b k cs hb
  obtain ⟨e, a1, w1, hq, har⟩ := h b (.code y :: k) cs hb
  by_cases he : e = .normal
  · subst he
    obtain ⟨e2, a2, w2, hq2, har2⟩ := hq b k cs hb
    exact ⟨e2, a2, w2, hq2, .of_steps (.head step_seq har) har2⟩
  · refine ⟨e, a1, w1, ?_, .of_steps (.one step_seq) (.pass (x := .code y) rfl (fun _ _ => .inl he) har)⟩
    cases e <;> first | exact absurd rfl he | exact hq
theorem wpN_cond {c : Operand} {x y : Code} {t : Bool} (hc : a.eval c = .bool t) (h : wpN P (if t then x else y) Q a w) : wpN P (.cond c x y) Q a w := by
  intro b k cs hb
  obtain ⟨e, a1, w1, hq, har⟩ := h b k cs hb
  exact ⟨e, a1, w1, hq, .of_steps (.one (step_cond hc)) har⟩
theorem wpN_block {id : Nat} {c : Code} (h : wpN P c (Exit.inBlock id Q) a w) : wpN P (.block id c) Q a w := by
  intro b k cs hb
  obtain ⟨e, a1, w1, hq, har⟩ := h b (.inBlock id :: k) cs hb
  cases e with
  | normal => exact ⟨.normal, a1, w1, hq, .head step_block (Steps.trans har (.one step_inBlock))⟩
  | exit j =>
    by_cases hj : j = id
    · have hq : Q .normal a1 w1 := by simpa [Exit.inBlock, hj] using hq
      exact ⟨.normal, a1, w1, hq, .head step_block (har k (by simp [exitTo, hj]))⟩
    · have hq : Q (.exit j) a1 w1 := by simpa [Exit.inBlock, hj] using hq
      have hn : (id == j) = false := by simpa using fun e : id = j => hj e.symm
      exact ⟨.exit j, a1, w1, hq, fun k' hk => .head step_block (har k' (by simp [exitTo, hn, hk]))⟩
  | goto l => exact ⟨_, a1, w1, hq, fun k' hk => .head step_block (har k' (by simp [gotoIn, hk]))⟩
  | ret => exact ⟨_, a1, w1, hq, .of_steps (.one step_block) har⟩
  | panic _ => exact ⟨_, a1, w1, hq, .of_steps (.one step_block) har⟩
  | outgrown => exact ⟨_, a1, w1, hq, .of_steps (b := b) (k := k) (cs := cs) (e := .outgrown) (.one step_block) har⟩
theorem wpN_loop {c : Code} (I : Nat → Act → World → Prop) (h0 : ∀ a w, ¬ I 0 a w) (round : ∀ m a w, I (m + 1) a w → wpN P c (Exit.then (I m) Q) a w) (m : Nat) (a : Act) (w : World) (h : I m a w) : wpN P (.loop c) Q a w := by
  intro b k cs hb
  have key : ∀ m a w, I m a w → ∃ e a' w', Q e a' w' ∧ Arrives P (lone (b.at a (.code c :: .inLoop c :: k)) cs w) b k cs e a' w' := by
    intro m
    induction m with
    | zero => intro a w h; exact absurd h (h0 a w)
    | succ m ih =>
      intro a w hI
      obtain ⟨e, a1, w1, hq, har⟩ := round m a w hI b (.inLoop c :: k) cs hb
      by_cases he : e = .normal
      · subst he
        obtain ⟨e2, a2, w2, hq2, har2⟩ := ih a1 w1 hq
        exact ⟨e2, a2, w2, hq2, .of_steps (Steps.trans har (.one step_inLoop)) har2⟩
      · refine ⟨e, a1, w1, ?_, .pass (x := .inLoop c) rfl (fun _ _ => .inl he) har⟩
        cases e <;> first | exact absurd rfl he | exact hq
  obtain ⟨e, a', w', hq, har⟩ := key m a w h
  exact ⟨e, a', w', hq, .of_steps (.one step_loop) har⟩

theorem calls_of_wpN {f : FuncId} {fn : Func} {c : Code} {args : Array Value} {R : Ending → World → Prop} (hf : P.funcs[f]? = some fn) (hb : fn.body = some c)
    (h : wpN P c (bodyPost P fn R) { tmps := args ++ Array.replicate (fn.ntmps - args.size) undef, defers := [] } w) : Calls P f args w R := by
  intro cs
  have hen : Frame.enter P f args .normal = ({ (default : Frame) with fn := f, kind := .normal } : Frame).at { tmps := args ++ Array.replicate (fn.ntmps - args.size) undef, defers := [] } [.code c] := by
    simp [Frame.enter, Frame.at, hf, hb]
  obtain ⟨e, a', w', hq, har⟩ := h { (default : Frame) with fn := f, kind := .normal } [] cs rfl
  rw [← hen] at har
  cases e with
  | normal =>
    obtain ⟨hd, v, hr, hR⟩ := hq
    exact ⟨.returned v, w', _, hR, Steps.trans har (.one step_end), rfl, rfl, hd, rfl, fn, hf, hr⟩
  | ret =>
    obtain ⟨hd, v, hr, hR⟩ := hq
    obtain ⟨todo, hs⟩ := har
    exact ⟨.returned v, w', _, hR, hs, rfl, rfl, hd, rfl, fn, hf, hr⟩
  | panic chain =>
    obtain ⟨hd, hR⟩ := hq
    obtain ⟨todo, hs⟩ := har
    exact ⟨.panicked chain, w', _, hR, hs, rfl, rfl, hd, fn, hf⟩
  | exit id => exact hq.elim
  | goto l => exact hq.elim
  | outgrown => exact ⟨.outgrown, w', { (default : Frame) with fn := f, kind := .normal }, hq, har.resolve_left (by simp), rfl, trivial⟩
end

/-! ### Channels: how many may wait, and what waits -/
def chHas (x : Nat × List Int) : Bool := !(List.isEmpty x.2)
def chHd (x : Nat × List Int) : Int := x.2.headD 0
def chTl (x : Nat × List Int) : Nat × List Int := (x.1, x.2.tail)
def chRoom (x : Nat × List Int) : Bool := Nat.blt (List.length x.2) x.1
def chPut (x : Nat × List Int) (v : Int) : Nat × List Int := (x.1, bif chRoom x then x.2 ++ [v] else x.2)
def chIx (b : Bool) : Int := bif b then 0 else -1

def chSet {R : Type} (σ : St) (l : Nat) (b : Lab) (π : List Stp) (y : Nat × List Int) (K : St → Option R) : Option R :=
  match setM b.t b.m π (.own .ro) with
  | some mr => setP b.t b.x π .chan y fun x' => K (σ.withL (upd σ.L l (some ⟨b.v + 1, b.t, mr, x'⟩)))
  | none => none
def chanK {R : Type} (σ : St) (e : Ent0) (K : Nat → Lab → List Stp → Nat × List Int → Option R) : Option R :=
  match e with
  | .hdr l n π c => hcur σ (.hdr l n π c) fun l b π c => match c with
    | ⟨.chan, x⟩ => bif (atM b.t b.m π).isOwn then K l b π x else none
    | _ => none
  | _ => none
/-- A new channel. -/
def xMkChan {R : Type} (TT : Tab) (σ : St) (t : TypeId) (dst : Nat) (e : Ent0) (K : St → Option R) : Option R :=
  match TT t with
  | some d => (match d.kd with
    | .chan te => (match TT te with
      | some de => bif σ.U (dst * 8) || !(Nat.beq de.bytes 8) then none else isIdx e fun n => bif decide (0 ≤ n) && decide (n ≤ 1024) then K (σ.mk' σ.L (dst * 8) dst ⟨0, .chan, .own .ro, (n.toNat, [])⟩) else none
      | none => none)
    | _ => none)
  | none => none

def isI64 (k : TK) : Bool := match k with | .int .i64 => true | _ => false
/-- One communication. -/
def commK {R : Type} (V : Env) (σ : St) (o : Oper) (K : St → Option R) : Option R :=
  match o.op with
  | .select cs false => (match cs.toList with
    | [c] => (match opd σ c.chan with
      | some e => chanK σ e fun l b π x => (match V.TT c.elem with
        | some td => bif isI64 td.kd then (match c.send with
          | none => chSet σ l b π (chTl x) fun σ' => K (σ'.setT o.dst [.val (.int .i64) (chIx (chHas x)), .val .bool (chHas x), .val (.int .i64) (chHd x)])
          | some y => (match opd σ y with
            | some ey => asT ey (.int .i64) fun n => chSet σ l b π (chPut x n) fun σ' => K (σ'.setT o.dst [.val (.int .i64) (chIx (chRoom x)), .val .bool false])
            | none => none)) else none
        | none => none)
      | none => none)
    | _ => none)
  | .makeChan t x => (match o.dst with | some d => (match opd σ x with | some e => xMkChan V.TT σ t d e K | none => none) | none => none)
  | .send c y => (match opd σ c with
    | some e => chanK σ e fun l b π x => (match opd σ y with
      | some ey => asT ey (.int .i64) fun n => bif chRoom x then chSet σ l b π (chPut x n) fun σ' => K (σ'.setU o.dst) else none
      | none => none)
    | none => none)
  | _ => none
def isComm : Op → Bool
  | .select .. | .send .. | .makeChan .. => true
  | _ => false
def isPl : Op → Bool
  | .move _ | .nilCheck _ | .fieldAddr .. | .load .. => true
  | _ => false
def hasComm : List Oper → Bool
  | [] => false
  | o :: os => isComm o.op || hasComm os
noncomputable def opsC {R : Type} (V : Env) (ops : List Oper) : List Oper → St → (St → Option R) → Option R
  | [], _, _ => none
  | o :: rest, σ, K => (match o.guard with
    | some _ => none
    | none => bif isComm o.op then commK V σ o fun σ1 => opsK V ops rest σ1 K else bif isPl o.op then opK V σ o fun σ1 => opsC V ops rest σ1 K else none)

section
variable {P : Program} {B : Base} {F : BSet} {Sg : Nat → BSet} {cg : Nat → List Value} {σ : St} {a : Act} {w : World}

theorem heap_ne {w : World} {c cap s r : Nat} {buf : Array Value} {cl tm : Bool} {k : Nat} (h : k ≠ c) : (w.setChan c cap buf cl s r tm).heap[k]? = w.heap[k]? := by
  simp only [World.setChan]; rw [Array.getElem?_setIfInBounds_ne (by omega)]

theorem chanK_ok (h : InvG B F Sg cg σ a w) {R : Type} {e : Ent0} {K : Nat → Lab → List Stp → Nat × List Int → Option R} {r : R} (hk : chanK σ e K = some r) {v : Value} (he : EntOk F w σ.L σ.U cg e v) :
    ∃ l b π x cb buf s rr, K l b π x = some r ∧ v = .chan (some cb) ∧ w.heap[cb]? = some (.chan x.1 buf false s rr false) ∧ buf.toList = x.2.map (fun n => .int .i64 n) ∧ (∀ n ∈ x.2, inK .i64 n) ∧ List.length x.2 ≤ x.1 ∧ x.1 ≤ maxLen ∧
      ∀ (y : Nat × List Int) (buf' : Array Value) (s' rr' : Nat) (K' : St → Option R) (r' : R), y.1 = x.1 → buf'.toList = y.2.map (fun n => .int .i64 n) → (∀ n ∈ y.2, inK .i64 n) → List.length y.2 ≤ x.1 → chSet σ l b π y K' = some r' →
        ∃ σ' Sg', K' σ' = some r' ∧ σ'.E = σ.E ∧ InvG B F Sg' cg σ' a (w.setChan cb x.1 buf' false s' rr' false) := by
  unfold chanK at hk
  split at hk
  case h_2 => cases hk
  obtain ⟨l, b, π, c, hl, hk, hg, ho, ds, s0, S', hres, hrep, hsub, hfoc, hv⟩ := hcur_ok h hk he
  split at hk
  case h_2 => cases hk
  rename_i x
  cases hm : atM b.t b.m π with
  | ro => rw [hm] at hk; cases hk
  | pr _ _ => rw [hm] at hk; cases hk
  | own m1 =>
  simp only [hm] at hrep
  rw [hm] at hk
  obtain ⟨cb, buf, s, rr, rfl, hb, h1, ⟨h2, h3, h4⟩, hS⟩ := hrep
  simp [VR, Ty.agg] at hv
  have hk : K l b π x = some r := hk
  refine ⟨l, b, π, x, cb, buf, s, rr, hk, hv.1.symm, hb, h1, h2, h3, h4, ?_⟩
  intro y buf' s' rr' K' r' hy1 hyb hyk hyl hset
  obtain ⟨y1, y2⟩ := y
  simp only at hy1 hyb hyk hyl
  subst hy1
  unfold chSet at hset
  cases hM : setM b.t b.m π (.own .ro) with
  | none => rw [hM] at hset; cases hset
  | some mr =>
  rw [hM] at hset
  simp only at hset
  rw [setP_eq] at hset
  obtain ⟨x', hx', hset⟩ := Option.bind_eq_some_iff.1 hset
  have hlt : cb < w.heap.size := by
    rcases Nat.lt_or_ge cb w.heap.size with h0 | h0
    · exact h0
    · rw [Array.getElem?_eq_none h0] at hb; cases hb
  have hoth : ∀ k, k ≠ cb → (w.setChan cb x.1 buf' false s' rr' false).heap[k]? = w.heap[k]? := fun k hk => heap_ne hk
  have hFw : ∀ k, F k → (w.setChan cb x.1 buf' false s' rr' false).heap[k]? = w.heap[k]? := fun k hk => hoth k (fun e => h.disF l b hl cb (hsub cb hS) (e ▸ hk))
  have hnew : Rep F (w.setChan cb x.1 buf' false s' rr' false) .chan (.own .ro) (x.1, y2) [.chan (some cb)] S' :=
    ⟨cb, buf', s', rr', rfl, Conc.heap_setChan _ _ _ _ _ _ _ _ hlt, hyb, ⟨hyk, hyl, h4⟩, hS⟩
  have hrep : Rep F (w.setChan cb x.1 buf' false s' rr' false) b.t mr x' (cg l) (fun k => (Sg l k ∧ ¬ S' k) ∨ S' k) := by
    rcases hfoc with ⟨pre, post, hc, _, w2⟩ | ⟨bb, o, _, hSb, hnb, hlies, w2⟩
    · rw [hc]
      exact w2 F _ (x.1, y2) _ S' x' (.own .ro) mr (setM_ok _ _ _ _ _ hM) (Sub.refl _) hx' hnew rfl (fun k a _ => a) (fun k _ hn => hoth k (fun e => hn (e ▸ hS))) hFw
    · obtain ⟨c, e, hbb, l1, r1, hcl, hll⟩ := hlies
      have hbc : bb ≠ cb := fun e => hnb (e ▸ hS)
      exact w2 F _ (x.1, y2) _ S' x' (.own .ro) mr (setM_ok _ _ _ _ _ hM) (Sub.refl _) hx' hnew rfl (fun k a _ => a) (fun k _ hn _ => hoth k (fun e => hn (e ▸ hS))) ⟨c, c, e, l1, r1, hbb, (hoth bb hbc).trans hbb, hcl, hcl, hll⟩ hFw
  exact ⟨_, _, hset, rfl, h.relab (w' := w.setChan cb x.1 buf' false s' rr' false) rfl rfl rfl (by rw [Conc.size_setChan]; exact Nat.le_refl _) hl (fun k _ hn => hoth k (fun e => hn (e ▸ hsub cb hS))) (b' := ⟨b.v + 1, b.t, mr, x'⟩) (fun _ h => h) (fun _ _ h => h) (Nat.lt_succ_self _) (Sub.refl _) hrep (upd σ.L l (some ⟨b.v + 1, b.t, mr, x'⟩)) (upd_same _ _ _) (fun j hj => by rw [upd_ne _ _ hj]; exact .inr rfl) (fun k hk => .inl hk) (fun k hk => .inl (hk.elim (fun h => h.1) (fun h => hsub k h)))⟩

theorem xMkChan_ok (h : InvG B F Sg cg σ a w) {R : Type} {TT : Tab} (hT : TabOk P TT) {t : TypeId} {dst : Nat} (hN : dst < B.N) {e : Ent0} {K : St → Option R} {r : R} (hk : xMkChan TT σ t dst e K = some r) {v : Value} (he : EntOk F w σ.L σ.U cg e v) :
    ∃ σ' z w' Sg' cg', K σ' = some r ∧ (Instr.makeChan t v).run P w = .ok z w' ∧ InvG B F Sg' cg' σ' (a.put (some dst) z) w' ∧ EF σ σ' dst := by
  unfold xMkChan at hk
  cases ht : TT t with
  | none => rw [ht] at hk; cases hk
  | some d =>
  rw [ht] at hk
  simp only at hk
  split at hk
  case h_2 => cases hk
  rename_i te hkd
  have hd := (hT t d ht).desc
  rw [hkd] at hd
  obtain ⟨dir, hd⟩ := hd
  cases hte : TT te with
  | none => rw [hte] at hk; cases hk
  | some de =>
  rw [hte] at hk
  simp only at hk
  cases hU : σ.U (dst * 8) || !(Nat.beq de.bytes 8)
  · rw [hU] at hk
    simp only [cond_false] at hk
    simp only [Bool.or_eq_false_iff, Bool.not_eq_false'] at hU
    obtain ⟨hU, hb8⟩ := hU
    have hb8 := Nat.eq_of_beq_eq_true hb8
    obtain ⟨i, z, hi, hi1, hi2, hi3, hi4⟩ := (hT te de hte).info
    obtain ⟨k, n, hk, rfl, hn⟩ := isIdx_ok hk he
    cases hr : decide (0 ≤ n) && decide (n ≤ 1024)
    · rw [hr] at hk; cases hk
    rw [hr] at hk
    simp only [cond_true] at hk
    simp only [Bool.and_eq_true, decide_eq_true_eq] at hr
    obtain ⟨m, rfl⟩ : ∃ m : Nat, n = (m : Int) := ⟨n.toNat, by omega⟩
    have hrun := Conc.run_makeChan (w := w) hd hi k m (by omega) (by rw [hi2, hb8]; omega)
    simp only [Int.toNat_natCast] at hk
    have i1 := h.addLab (w' := w.alloc (.chan m #[] false 0 0 false)) rfl rfl rfl (by rw [alloc_size]; omega) (l := dst * 8) (b := ⟨0, .chan, .own .ro, (m, [])⟩) hU (upd σ.L (dst * 8) (some ⟨0, .chan, .own .ro, (m, [])⟩)) (fun k hk _ => alloc_old _ _ hk) (cs := [.chan (some w.heap.size)]) (S2 := fun k => k = w.heap.size)
      ⟨w.heap.size, #[], 0, 0, rfl, alloc_new _ _, rfl, ⟨fun n hn => by simp at hn, Nat.zero_le _, by simp only [maxLen]; omega⟩, rfl⟩ (upd_same _ _ _) (fun j hj => by rw [upd_ne _ _ hj]; exact .inr rfl) (fun k hk => by
        subst hk
        refine ⟨fun j bj hj hbj hs => ?_, fun hf => Nat.lt_irrefl _ (h.fl _ hf), by rw [alloc_size]; exact Nat.lt_succ_self _, fun hlt => ?_⟩
        · rw [upd_ne _ _ hj] at hbj
          exact Nat.lt_irrefl _ (h.lt j bj hbj _ hs)
        · have := h.fr.size; omega)
    exact ⟨_, _, _, _, _, hk, hrun, i1.putT hN (e := .one (.hdr (dst * 8) 0 [] ⟨.chan, (m, [])⟩)) (root_ok i1 (l := dst * 8) (b := ⟨0, .chan, .own .ro, (m, [])⟩) (upd_same _ _ _) (by simp [VR, Ty.agg, Value.oneCell'])), ef_mk⟩
  · rw [hU] at hk; cases hk

/-! ### One communication is one step -/
theorem chRoom_iff {x : Nat × List Int} : chRoom x = true ↔ List.length x.2 < x.1 := by unfold chRoom; rw [Nat.blt_eq]
theorem ents2 {L : Nat → Option Lab} {U : Nat → Bool} {e1 e2 : Ent0} {v1 v2 : Value} (h1 : EntOk F w L U cg e1 v1) (h2 : EntOk F w L U cg e2 v2) : EntOkT F w L U cg (.tup [e1, e2]) (.tuple #[v1, v2]) :=
  ⟨[v1, v2], rfl, _, _, rfl, h1, _, _, rfl, h2, rfl⟩
theorem ents3 {L : Nat → Option Lab} {U : Nat → Bool} {e1 e2 e3 : Ent0} {v1 v2 v3 : Value} (h1 : EntOk F w L U cg e1 v1) (h2 : EntOk F w L U cg e2 v2) (h3 : EntOk F w L U cg e3 v3) : EntOkT F w L U cg (.tup [e1, e2, e3]) (.tuple #[v1, v2, v3]) :=
  ⟨[v1, v2, v3], rfl, _, _, rfl, h1, _, _, rfl, h2, _, _, rfl, h3, rfl⟩
theorem ent_i {L : Nat → Option Lab} {U : Nat → Bool} {n m : Int} (h : n = m) (hm : inK .i64 m) : EntOk F w L U cg (.val (.int .i64) n) (.int .i64 m) := by subst h; exact mk_int hm
theorem ent_b {L : Nat → Option Lab} {U : Nat → Bool} {n m : Bool} (h : n = m) : EntOk F w L U cg (.val .bool n) (.bool m) := by subst h; exact mk_bool
theorem in0 : inK .i64 0 := by simp [inK, kLo, kHi]
theorem in1 : inK .i64 (-1) := by simp [inK, kLo, kHi]
def Step1 (P : Program) (o : Oper) (a : Act) (w : World) (v : Value) (w' : World) : Prop :=
  ∀ (ops : Array Oper) (i : Nat) (rest : List Nat) (b : Frame) (k : List Item) (cs : List Frame), ops[i]? = some o → Region.wanted o (yielded ops a.tmps) = true → b.kind = .normal →
    step P (lone (b.at a (.inRegion ops (i :: rest) :: k)) cs w) = .next (lone (b.at (a.put o.dst v) (.inRegion ops rest :: k)) cs w')

theorem step1_value {o : Oper} {v : Value} {w' : World} (hr : (execOp a.eval o).run P w = .ok (.value v) w') : Step1 P o a w v w' := by
  intro ops i rest b k cs ho hw hb
  have hfin : (b.at a (.inRegion ops (i :: rest) :: k)).finish v = b.at (a.put o.dst v) (.inRegion ops rest :: k) := by rw [Frame.finish_at, ho]; rfl
  exact step_lone_go (by rw [stepG_op ho hw, ← hfin]; simp [stepG.apply, hr])
theorem step1_comm {o : Oper} {cases : Array CommCase} {bl : Bool} {sh : CommShape} {v : Value} {w' : World} (hr : (execOp a.eval o).run P w = .ok (.comm cases bl sh) w)
    (hs : ∀ (fr : Frame) (cs : List Frame) (es : Array Event), stepG P true (Conc.G fr cs) w = .comm (Conc.G fr cs) cases bl sh w es → step P (Conc.solo (Conc.G fr cs) w) = .next (Conc.solo (Conc.G (fr.finish v) cs) w')) : Step1 P o a w v w' := by
  intro ops i rest b k cs ho hw hb
  have hfin : (b.at a (.inRegion ops (i :: rest) :: k)).finish v = b.at (a.put o.dst v) (.inRegion ops rest :: k) := by rw [Frame.finish_at, ho]; rfl
  rw [Conc.lone_eq_solo, Conc.lone_eq_solo, ← hfin]
  exact hs _ _ _ (Conc.stepG_comm ho hw (by rw [hb]; simp) hr)

theorem commK_ok {R : Type} {V : Env} (hV : EnvOk P V) (h : InvG B F Sg cg σ a w) {o : Oper} {K : St → Option R} {r : R} (hN : ∀ d, o.dst = some d → d < B.N) (hk : commK V σ o K = some r) :
    ∃ σ' v w', K σ' = some r ∧ Inv B σ' (a.put o.dst v) w' ∧ ESo σ σ' o.dst ∧ Step1 P o a w v w' := by
  unfold commK at hk
  split at hk
  · rename_i cs ho
    split at hk
    case h_2 => cases hk
    rename_i c hc
    obtain ⟨cch, csd, cel⟩ := c
    have hcs : cs = #[⟨cch, csd, cel⟩] := by rw [← Array.toArray_toList (xs := cs), hc]
    subst hcs
    cases ho1 : opd σ cch with
    | none => rw [ho1] at hk; cases hk
    | some e =>
    rw [ho1] at hk
    simp only at hk
    obtain ⟨l, b, π, x, cb, buf, s, rr, hk, hv, hb, h1, h2, h3, h4, hset⟩ := chanK_ok h hk (opd_ok h ho1)
    cases ht : V.TT cel with
    | none => rw [ht] at hk; cases hk
    | some td =>
    rw [ht] at hk
    simp only at hk
    cases hi : isI64 td.kd
    · rw [hi] at hk; cases hk
    rw [hi] at hk
    simp only [cond_true] at hk
    have hkd : td.kd = .int .i64 := by
      unfold isI64 at hi
      split at hi
      · assumption
      · cases hi
    obtain ⟨inf, hinf, hz⟩ := (hV.tab _ _ ht).zi _ hkd
    have hbs : buf.size = List.length x.2 := by rw [← Array.length_toList, h1, List.length_map]
    cases csd with
    | none =>
      simp only at hk
      have hrun : (execOp a.eval o).run P w = .ok (.comm #[Conc.rcase cb (.int .i64 0)] false .select) w := by
        simp [execOp, ho, Conc.rcase, hv, zeroValue, typeInfo, hinf, hz]
      obtain ⟨xc, xl⟩ := x
      cases xl with
      | nil =>
        have hb0 : buf = #[] := by
          rw [← Array.toArray_toList (xs := buf), h1]; rfl
        subst hb0
        obtain ⟨σ', Sg', hk, hE, hi'⟩ := hset (chTl (xc, [])) #[] s rr _ _ rfl rfl (fun n hn => by simp [chTl] at hn) (by simp [chTl]) hk
        have hw' : w.setChan cb xc #[] false s rr false = w := by
          simp only [World.setChan]
          have : w.heap.setIfInBounds cb (.chan xc #[] false s rr false) = w.heap := by
            apply Array.ext_getElem?
            intro j
            by_cases hj : j = cb
            · subst hj
              have hlt : j < w.heap.size := by
                rcases Nat.lt_or_ge j w.heap.size with h0 | h0
                · exact h0
                · rw [Array.getElem?_eq_none h0] at hb; cases hb
              rw [Array.getElem?_setIfInBounds_self_of_lt hlt, hb]
            · rw [Array.getElem?_setIfInBounds_ne (by omega)]
          rw [this]
        rw [hw'] at hi'
        refine ⟨_, .tuple #[goInt (-1), .bool false, .int .i64 0], w, hk, ?_, ?_, step1_comm hrun (fun fr cs es hst => Conc.step_lone_select_default hst hb)⟩
        · exact hi'.setT hN (ents3 (ent_i rfl in1) (ent_b rfl) (ent_i rfl in0))
        · intro j hj
          have := eso_setT (σ := σ') (dst := o.dst) (es := [.val (.int .i64) (chIx (chHas (xc, []))), .val .bool (chHas (xc, [])), .val (.int .i64) (chHd (xc, []))]) j hj
          rw [hE] at this
          exact this
      | cons n ns =>
        have hb0 : buf = (Value.int .i64 n :: ns.map (fun n => .int .i64 n)).toArray := by
          rw [← Array.toArray_toList (xs := buf), h1]; rfl
        subst hb0
        have hext : ((Value.int .i64 n :: ns.map (fun n => .int .i64 n)).toArray.extract 1 (Value.int .i64 n :: ns.map (fun n => .int .i64 n)).toArray.size).toList = ns.map (fun n => .int .i64 n) := by simp [List.take_of_length_le]
        obtain ⟨σ', Sg', hk, hE, hi'⟩ := hset (chTl (xc, n :: ns)) ((Value.int .i64 n :: ns.map (fun n => .int .i64 n)).toArray.extract 1 (Value.int .i64 n :: ns.map (fun n => .int .i64 n)).toArray.size) s (rr + 1) _ _ rfl hext (fun m hm => h2 m (by simp [chTl] at hm; simp [hm])) (by simp [chTl] at h3 ⊢; omega) hk
        refine ⟨_, .tuple #[goInt 0, .bool true, .int .i64 n], w.setChan cb xc ((Value.int .i64 n :: ns.map (fun n => .int .i64 n)).toArray.extract 1 (Value.int .i64 n :: ns.map (fun n => .int .i64 n)).toArray.size) false s (rr + 1) false, hk, ?_, ?_, step1_comm hrun (fun fr cs es hst => Conc.step_lone_select_recv_buf hst hb (by simp))⟩
        · exact hi'.setT hN (ents3 (ent_i rfl in0) (ent_b rfl) (ent_i rfl (h2 n (by simp))))
        · intro j hj
          have := eso_setT (σ := σ') (dst := o.dst) (es := [.val (.int .i64) (chIx (chHas (xc, n :: ns))), .val .bool (chHas (xc, n :: ns)), .val (.int .i64) (chHd (xc, n :: ns))]) j hj
          rw [hE] at this
          exact this
    | some y =>
      simp only at hk
      cases ho2 : opd σ y with
      | none => rw [ho2] at hk; cases hk
      | some ey =>
      rw [ho2] at hk
      simp only at hk
      obtain ⟨n, cy, hk, hry, hvy⟩ := asT_ok hk (opd_ok h ho2)
      obtain ⟨hy, hn⟩ := vr_int hry hvy
      have hrun : (execOp a.eval o).run P w = .ok (.comm #[Conc.scase cb (.int .i64 n) (.int .i64 0)] false .select) w := by
        simp [execOp, ho, Conc.scase, hv, hy, zeroValue, typeInfo, hinf, hz]
      obtain ⟨xc, xl⟩ := x
      simp only at hbs h3
      cases hroom : chRoom (xc, xl)
      · have hfull : xc ≤ buf.size := by
          have : ¬ List.length xl < xc := fun hh => by rw [chRoom_iff.2 hh] at hroom; cases hroom
          omega
        have hput : chPut (xc, xl) n = (xc, xl) := by simp [chPut, hroom]
        rw [hput] at hk
        obtain ⟨σ', Sg', hk, hE, hi'⟩ := hset (xc, xl) buf s rr _ _ rfl h1 h2 h3 hk
        have hw' : w.setChan cb xc buf false s rr false = w := by
          simp only [World.setChan]
          have : w.heap.setIfInBounds cb (.chan xc buf false s rr false) = w.heap := by
            apply Array.ext_getElem?
            intro j
            by_cases hj : j = cb
            · subst hj
              have hlt : j < w.heap.size := by
                rcases Nat.lt_or_ge j w.heap.size with h0 | h0
                · exact h0
                · rw [Array.getElem?_eq_none h0] at hb; cases hb
              rw [Array.getElem?_setIfInBounds_self_of_lt hlt, hb]
            · rw [Array.getElem?_setIfInBounds_ne (by omega)]
          rw [this]
        rw [hw'] at hi'
        refine ⟨_, .tuple #[goInt (-1), .bool false], w, hk, ?_, ?_, step1_comm hrun (fun fr cs es hst => Conc.step_lone_select_send_full hst hb hfull)⟩
        · exact hi'.setT hN (ents2 (ent_i (by rw [hroom]; rfl) in1) (ent_b rfl))
        · intro j hj
          have := eso_setT (σ := σ') (dst := o.dst) (es := [.val (.int .i64) (chIx (chRoom (xc, xl))), .val .bool false]) j hj
          rw [hE] at this
          exact this
      · have hlt : buf.size < xc := by
          have : List.length xl < xc := chRoom_iff.1 hroom
          omega
        obtain ⟨σ', Sg', hk, hE, hi'⟩ := hset (chPut (xc, xl) n) (buf.push (.int .i64 n)) (s + 1) rr _ _ rfl (by simp [chPut, hroom, h1]) (fun m hm => by
          simp [chPut, hroom] at hm
          rcases hm with hm | rfl
          · exact h2 m hm
          · exact hn) (by have := chRoom_iff.1 hroom; simp [chPut, hroom] at this ⊢; omega) hk
        refine ⟨_, .tuple #[goInt 0, .bool false], _, hk, ?_, ?_, step1_comm hrun (fun fr cs es hst => Conc.step_lone_select_send_room hst hb hlt)⟩
        · exact hi'.setT hN (ents2 (ent_i (by rw [hroom]; rfl) in0) (ent_b rfl))
        · intro j hj
          have := eso_setT (σ := σ') (dst := o.dst) (es := [.val (.int .i64) (chIx (chRoom (xc, xl))), .val .bool false]) j hj
          rw [hE] at this
          exact this
  · rename_i t x ho
    cases hd : o.dst with
    | none => rw [hd] at hk; cases hk
    | some d =>
    rw [hd] at hk
    simp only at hk
    cases ho1 : opd σ x with
    | none => rw [ho1] at hk; cases hk
    | some e =>
    rw [ho1] at hk
    simp only at hk
    obtain ⟨σ', z, w', Sg', cg', g1, g2, g3, g4⟩ := xMkChan_ok h hV.tab (hN d hd) hk (opd_ok h ho1)
    refine ⟨σ', z, w', g1, ⟨F, Sg', cg', g3⟩, eso_ef g4, ?_⟩
    have := step1_value (P := P) (o := o) (a := a) (w := w) (v := z) (w' := w') (by simp [execOp, ho, g2])
    exact this
  · rename_i c y ho
    cases ho1 : opd σ c with
    | none => rw [ho1] at hk; cases hk
    | some e =>
    rw [ho1] at hk
    simp only at hk
    obtain ⟨l, b, π, x, cb, buf, s, rr, hk, hv, hb, h1, h2, h3, h4, hset⟩ := chanK_ok h hk (opd_ok h ho1)
    cases ho2 : opd σ y with
    | none => rw [ho2] at hk; cases hk
    | some ey =>
    rw [ho2] at hk
    simp only at hk
    obtain ⟨n, cy, hk, hry, hvy⟩ := asT_ok hk (opd_ok h ho2)
    obtain ⟨hy, hn⟩ := vr_int hry hvy
    obtain ⟨xc, xl⟩ := x
    simp only at h1 h2 h3
    cases hroom : chRoom (xc, xl)
    · rw [hroom] at hk; cases hk
    rw [hroom] at hk
    simp only [cond_true] at hk
    have hbs : buf.size = List.length xl := by rw [← Array.length_toList, h1, List.length_map]
    have hlt : buf.size < xc := by
      have : List.length xl < xc := chRoom_iff.1 hroom
      omega
    have hrun : (execOp a.eval o).run P w = .ok (.comm #[Conc.scase cb (.int .i64 n) (.tuple #[])] true .send) w := by
      simp [execOp, ho, Conc.scase, hv, hy]
    obtain ⟨σ', Sg', hk, hE, hi'⟩ := hset (chPut (xc, xl) n) (buf.push (.int .i64 n)) (s + 1) rr _ _ rfl (by simp [chPut, hroom, h1]) (fun m hm => by
      simp [chPut, hroom] at hm
      rcases hm with hm | rfl
      · exact h2 m hm
      · exact hn) (by have := chRoom_iff.1 hroom; simp [chPut, hroom] at this ⊢; omega) hk
    exact ⟨_, undef, _, hk, hi'.setU hN, eso_setU hE, step1_comm hrun (fun fr cs es hst => Conc.step_lone_send_room hst hb hlt)⟩
  · cases hk

/-- What gives a value, and no more. -/
theorem plain_step {o : Oper} (hp : isPl o.op = true) (hn : ∀ x, o.op = .nilCheck x → ∀ w' n, (execOp a.eval { o with op := .nilCheck x }).run P w = .ok n w' → ∃ v, n = .value v) {next : Act → World → Prop} (h : o.wp P a w next (fun _ _ _ => False)) : ∃ v w', next (a.put o.dst v) w' ∧ Step1 P o a w v w' := by
  unfold Oper.wp at h
  have key : ∀ n w', (execOp a.eval o).run P w = .ok n w' → ∃ v, n = .value v := by
    intro n w' hr
    unfold execOp at hr
    cases ho : o.op <;> rw [ho] at hp hr <;> simp only [isPl, Bool.false_eq_true] at hp
    case move x =>
      simp only [Sem.run_pure] at hr
      injection hr with hr _
      exact ⟨_, hr.symm⟩
    case nilCheck x => exact hn x ho w' n hr
    case load t x =>
      simp only [Sem.run_bind] at hr
      generalize Sem.run P _ w = q at hr
      cases q with
      | ok v w1 =>
        simp only [Result.andThen_ok, Sem.run_pure] at hr
        injection hr with hr _
        exact ⟨_, hr.symm⟩
      | halt x w1 => simp [Result.andThen] at hr
    case fieldAddr s x f =>
      simp only [Sem.run_bind] at hr
      generalize Sem.run P _ w = q at hr
      cases q with
      | ok v w1 =>
        simp only [Result.andThen_ok, Sem.run_pure] at hr
        injection hr with hr _
        exact ⟨_, hr.symm⟩
      | halt x w1 => simp [Result.andThen] at hr
  cases hr : (execOp a.eval o).run P w with
  | ok n w' =>
    obtain ⟨v, rfl⟩ := key n w' hr
    rw [hr] at h
    exact ⟨v, w', h, step1_value hr⟩
  | halt x w' =>
    rw [hr] at h
    cases x <;> simp only [Oper.upon] at h

theorem dst_of {N : Nat} {l : List Oper} (h : dstOk N l = true) : ∀ o ∈ l, ∀ d, o.dst = some d → d < N := by
  induction l with
  | nil => intro o ho; simp at ho
  | cons x l ih =>
    intro o ho d hd
    simp only [dstOk, Bool.and_eq_true] at h
    rcases List.mem_cons.1 ho with rfl | ho
    · rw [hd] at h; exact Nat.le_of_ble_eq_true h.1
    · exact ih h.2 o ho d hd

theorem opsC_ok {R : Type} {V : Env} (hV : EnvOk P V) {ops : Array Oper} (hN : dstOk B.N ops.toList = true) {K : St → Option R} {r : R} {Q : Exit → Act → World → Prop} : ∀ (rest : List Oper) (i : Nat) (σ : St) (a : Act) (w : World), ops.toList.drop i = rest → Inv B σ a w → opsC V ops.toList rest σ K = some r →
    (∀ σ' a' w', K σ' = some r → Inv B σ' a' w' → ES σ σ' (wrOps rest) → Q .normal a' w') → ∀ (b : Frame) (k : List Item) (cs : List Frame), b.kind = .normal → ∃ e a' w', Q e a' w' ∧ Arrives P (lone (b.at a (.inRegion ops (List.range' i rest.length) :: k)) cs w) b k cs e a' w' := by
  intro rest
  induction rest with
  | nil => intro i σ a w hd h hk; cases hk
  | cons o rest ih =>
    intro i σ a w hd h hk hQ b k cs hb
    have hoi : ops[i]? = some o := by
      rw [← Array.getElem?_toList]
      have := congrArg (·[0]?) hd
      simpa using this
    have hdst := dst_of hN o (List.mem_of_getElem? (by rw [Array.getElem?_toList]; exact hoi))
    have hd' : ops.toList.drop (i + 1) = rest := by
      rw [← List.tail_drop, hd]; rfl
    have wr : ∀ j, wrOps (o :: rest) j = false → o.dst ≠ some j ∧ wrOps rest j = false := fun j hj => by
      simp only [wrOps, Bool.or_eq_false_iff] at hj
      refine ⟨fun e => ?_, hj.2⟩
      rw [e] at hj
      simp [Nat.beq_refl] at hj
    simp only [opsC] at hk
    split at hk
    · cases hk
    rename_i hg
    have hw : Region.wanted o (yielded ops a.tmps) = true := by unfold Region.wanted; rw [hg]
    rw [List.length_cons, List.range'_succ]
    cases hc : isComm o.op
    · rw [hc] at hk
      simp only [cond_false] at hk
      cases hp : isPl o.op
      · rw [hp] at hk; cases hk
      rw [hp] at hk
      simp only [cond_true] at hk
      obtain ⟨F, Sg, cg, h⟩ := h
      have hnil : ∀ x, o.op = .nilCheck x → ∀ w' n, (execOp a.eval { o with op := .nilCheck x }).run P w = .ok n w' → ∃ v, n = .value v := by
        intro x hx w' n hr
        have hk' := hk
        unfold opK at hk'
        rw [hx] at hk'
        simp only at hk'
        cases ho1 : opd σ x with
        | none => rw [ho1] at hk'; cases hk'
        | some e =>
        rw [ho1] at hk'
        obtain ⟨_, ad, hv⟩ := xNil_ok h hk' (opd_ok h ho1)
        simp only [execOp, hv, Sem.run_pure] at hr
        injection hr with hr _
        exact ⟨_, hr.symm⟩
      obtain ⟨v, w', ⟨σ', g1, g2, g3⟩, hst⟩ := plain_step hp hnil (opK_ok hV h hdst hk)
      obtain ⟨e, a2, w2, q1, q2⟩ := ih (i + 1) σ' _ w' hd' g2 g1 (fun σ'' a'' w'' q1 q2 q3 => hQ σ'' a'' w'' q1 q2 (fun j hj => (g3 j (wr j hj).1).trans (q3 j (wr j hj).2))) b k cs hb
      exact ⟨e, a2, w2, q1, .of_steps (.one (hst ops i _ b k cs hoi hw hb)) q2⟩
    · rw [hc] at hk
      simp only [cond_true] at hk
      obtain ⟨F, Sg, cg, h⟩ := h
      obtain ⟨σ', v, w', g1, g2, g3, hst⟩ := commK_ok hV h hdst hk
      have hops := opsK_ok (Q := Q) hV hN rest (i + 1) σ' _ w' hd' g2 g1 (fun σ'' a'' w'' q1 q2 q3 => hQ σ'' a'' w'' q1 q2 (fun j hj => (g3 j (wr j hj).1).trans (q3 j (wr j hj).2)))
      obtain ⟨e, a2, w2, q1, q2⟩ := wp_ops _ _ _ hops b k cs
      exact ⟨e, a2, w2, q1, .of_steps (.one (hst ops i _ b k cs hoi hw hb)) q2⟩

theorem regionC_ok {R : Type} {V : Env} (hV : EnvOk P V) {id : Nat} {ops : Array Oper} (hN : dstOk B.N ops.toList = true) (h : Inv B σ a w) {K : St → Option R} {r : R} {Q : Exit → Act → World → Prop} (hk : opsC V ops.toList ops.toList σ K = some r)
    (hQ : ∀ σ' a' w', K σ' = some r → Inv B σ' a' w' → ES σ σ' (wrOps ops.toList) → Q .normal a' w') : wpN P (Code.region id ops false) Q a w := by
  intro b k cs hb
  obtain ⟨e, a2, w2, q1, q2⟩ := opsC_ok hV hN ops.toList 0 σ a w rfl h hk hQ b k cs hb
  refine ⟨e, a2, w2, q1, .of_steps (.one step_region) ?_⟩
  rw [List.range_eq_range', ← Array.length_toList]
  exact q2
end
end Go.Proofs.YtgonfcjdhbjkcaaDoor.Rf
/- Layer 28: code. -/
set_option linter.unusedVariables false
set_option linter.unusedSimpArgs false
namespace Go.Proofs.YtgonfcjdhbjkcaaDoor.Rf
open Go

/-- Marks on code: where ways meet, and how. -/
inductive Ann where
  | nop
  | seq (x y : Ann)
  | cond (j : Option Spec) (x y : Ann)
  | block (j : Option Spec) (x : Ann)
  | loop (s : Spec) (x : Ann)
  | reg (j : Option Spec) (fz : List Nat)
  | rgf (j : Option Spec) (pf fz : List Nat)
def Ann.a1 : Ann → Ann
  | .seq x _ => x
  | .cond _ x _ => x
  | .block _ x => x
  | .loop _ x => x
  | _ => .nop
def Ann.a2 : Ann → Ann
  | .seq _ y => y
  | .cond _ _ y => y
  | _ => .nop
def Ann.j : Ann → Option Spec
  | .cond j _ _ => j
  | .block j _ => j
  | .loop s _ => some s
  | .reg j _ => j
  | .rgf j _ _ => j
  | _ => none
def Ann.fz : Ann → List Nat
  | .reg _ l => l
  | .rgf _ _ l => l
  | _ => []
/-- What is read alone from before a region on. -/
def Ann.pf : Ann → List Nat
  | .rgf _ l _ => l
  | _ => []
/-- What slots name is read alone from now on. -/
def frzS (σ : St) : List Nat → St
  | [] => σ
  | s :: ss => match σ.E s with
    | some (.one (.hdr l _ _ _)) => (match σ.L l with | some b => frzS (σ.frz l b) ss | none => frzS σ ss)
    | _ => frzS σ ss

structure Ks (R : Type) where
  nrm : St → Option R
  ext : Nat → St → Option R
  ret : St → Option R

/-- Ways that meet. -/
def joinB {A R : Type} (J : A → Option R) (body : (A → Option R) → Option R) : Option R := body J
/-- A loop. -/
def loopB {A R : Type} (body : A → (A → Option R) → Option R) : Nat → A → Option R
  | 0, _ => none
  | n + 1, x => body x (loopB body n)

def withJ {R : Type} (o : Option Spec) (W : Nat → Bool) (σ : St) (K : St → Option R) (body : (St → Option R) → Option R) : Option R :=
  match o with
  | none => body K
  | some s => bif specOk σ s W then joinB (fun x => K (stJ σ s x)) (fun j => body fun σ1 => arrK σ s σ1 j) else none

def wrC : Code → Nat → Bool
  | .region _ ops _, j => wrOps ops.toList j
  | .seq x y, j => wrC x j || wrC y j
  | .cond _ x y, j => wrC x j || wrC y j
  | .block _ x, j => wrC x j
  | .loop x, j => wrC x j
  | _, _ => false

noncomputable def regK {R : Type} (V : Env) (N : Nat) (ops : Array Oper) (draw : Bool) (σ : St) (K : St → Option R) : Option R :=
  bif dstOk N ops.toList then (bif draw then drawK V ops.toList ops.toList 0 [] σ K else bif hasComm ops.toList then opsC V ops.toList ops.toList σ K else opsK V ops.toList ops.toList σ K) else none

noncomputable def exec {R : Type} (V : Env) (N n : Nat) : Code → Ann → St → Ks R → Option R
  | .skip, _, σ, k => k.nrm σ
  | .region _ ops draw, an, σ, k => withJ an.j (wrOps ops.toList) σ k.nrm fun nrm => regK V N ops draw (frzS σ an.pf) fun σ1 => nrm (frzS σ1 an.fz)
  | .seq x y, an, σ, k => exec V N n x an.a1 σ { k with nrm := fun σ1 => exec V N n y an.a2 σ1 k }
  | .cond c x y, an, σ, k => withJ an.j (fun j => wrC x j || wrC y j) σ k.nrm fun nrm => (match opd σ c with
    | some (.val .bool b) => (match (b : Bool) with
      | true => exec V N n x an.a1 σ { k with nrm := nrm }
      | false => exec V N n y an.a2 σ { k with nrm := nrm })
    | _ => none)
  | .block id x, an, σ, k => withJ an.j (wrC x) σ k.nrm fun nrm => exec V N n x an.a1 σ { nrm := nrm, ext := fun i σ1 => bif Nat.beq i id then nrm σ1 else k.ext i σ1, ret := k.ret }
  | .loop x, an, σ, k => (match an.j with
    | some s => bif specOk σ s (wrC x) then arrK σ s σ fun x0 => loopB (fun y cont => exec V N n x an.a1 (stJ σ s y) { k with nrm := fun σ1 => arrK σ s σ1 cont }) n x0 else none
    | none => none)
  | .exit id, _, σ, k => k.ext id σ
  | .ret, _, σ, k => k.ret σ
  | _, _, _, _ => none

/-- What holds where code is left. -/
def Post {R : Type} (B : Base) (σ : St) (W : Nat → Bool) (k : Ks R) (r : R) : Exit → Act → World → Prop
  | .normal, a, w => ∃ σ', k.nrm σ' = some r ∧ Inv B σ' a w ∧ ES σ σ' W
  | .exit id, a, w => ∃ σ', k.ext id σ' = some r ∧ Inv B σ' a w ∧ ES σ σ' W
  | .ret, a, w => ∃ σ', k.ret σ' = some r ∧ Inv B σ' a w
  | _, _, _ => False

section
variable {P : Program} {B : Base} {σ : St} {a : Act} {w : World}

theorem Post.imp {R : Type} {σ σ1 : St} {W W1 : Nat → Bool} {k k1 : Ks R} {r : R} (hes : ES σ σ1 W) (hW : ∀ j, W j = false → W1 j = false) (hn : ∀ σ' a w, k1.nrm σ' = some r → Inv B σ' a w → ES σ σ' W → ∃ σ'', k.nrm σ'' = some r ∧ Inv B σ'' a w ∧ ES σ σ'' W)
    (he : ∀ i σ', k1.ext i σ' = k.ext i σ') (hr : ∀ σ', k1.ret σ' = k.ret σ') {e : Exit} {a : Act} {w : World} (h : Post B σ1 W1 k1 r e a w) : Post B σ W k r e a w := by
  cases e with
  | normal =>
    obtain ⟨σ', h1, h2, h3⟩ := h
    exact hn σ' a w h1 h2 (hes.trans h3 (fun _ h => h) hW)
  | exit id =>
    obtain ⟨σ', h1, h2, h3⟩ := h
    exact ⟨σ', by rw [← he]; exact h1, h2, hes.trans h3 (fun _ h => h) hW⟩
  | ret =>
    obtain ⟨σ', h1, h2⟩ := h
    exact ⟨σ', by rw [← hr]; exact h1, h2⟩
  | goto _ => exact h
  | panic _ => exact h
  | outgrown => exact h

theorem withJ_ok {R : Type} {o : Option Spec} {c : Code} {W : Nat → Bool} (h : Inv B σ a w) {k : Ks R} {r : R} {body : (St → Option R) → Option R} (hk : withJ o W σ k.nrm body = some r) (main : ∀ nrm, body nrm = some r → wpN P c (Post B σ W { k with nrm := nrm } r) a w) :
    wpN P c (Post B σ W k r) a w := by
  unfold withJ at hk
  split at hk
  · exact main _ hk
  · rename_i s
    cases hs : specOk σ s W
    · rw [hs] at hk; cases hk
    rw [hs] at hk
    simp only [cond_true] at hk
    have hv : VerOk σ := by obtain ⟨F, Sg, cg, h⟩ := h; exact h.ver
    have hvf : FixOk B σ := by obtain ⟨F, Sg, cg, h⟩ := h; exact h.fixOk
    refine wpN_mono (main _ hk) (fun e a' w' hp => Post.imp (k := k) (k1 := { k with nrm := fun σ1 => arrK σ s σ1 fun x => k.nrm (stJ σ s x) }) (ES.refl _ _) (fun _ h => h) (fun σ' a w h1 h2 h3 => ?_) (fun _ _ => rfl) (fun _ => rfl) hp)
    have h1 : (arrK σ s σ' fun x => k.nrm (stJ σ s x)) = some r := h1
    obtain ⟨x, g1, g2⟩ := arr_ok h2 hv hvf h3 hs h1
    exact ⟨_, g1, g2, stJ_es hs x⟩

theorem foldD_none : ∀ (tr : List Tr) (m : Nat) (σ : St), foldD (fun _ => false) tr m σ = σ := by
  intro tr
  induction tr with
  | nil => intro m σ; rfl
  | cons t tr ih => intro m σ; simp only [foldD, cond_false]; exact ih _ _
theorem foldD_E {D : Nat → Bool} {j : Nat} : ∀ (tr : List Tr) (m : Nat) (σ : St), (∀ t ∈ tr, t.o.dst ≠ some j) → (foldD D tr m σ).E j = σ.E j := by
  intro tr
  induction tr with
  | nil => intro m σ _; rfl
  | cons t tr ih =>
    intro m σ h
    simp only [foldD]
    rw [ih _ _ (fun t ht => h t (by simp [ht]))]
    cases D m
    · rfl
    · simp only [cond_true, Tr.U]
      cases hd : t.o.dst with
      | none => rfl
      | some d => exact upd_ne _ _ (fun e => h t (by simp) (by rw [hd, e]))
theorem wrOps_mem {ops : List Oper} {j : Nat} (h : wrOps ops j = false) : ∀ o ∈ ops, o.dst ≠ some j := by
  induction ops with
  | nil => intro o ho; simp at ho
  | cons x xs ih =>
    simp only [wrOps, Bool.or_eq_false_iff] at h
    intro o ho
    rcases List.mem_cons.1 ho with rfl | ho
    · intro e
      rw [e] at h
      simp [Nat.beq_refl] at h
    · exact ih h.2 o ho

theorem regK_ok {R : Type} {V : Env} (hV : EnvOk P V) {id : Nat} {ops : Array Oper} {draw : Bool} (h : Inv B σ a w) {k : Ks R} {r : R} (hk : regK V B.N ops draw σ k.nrm = some r) : wpN P (Code.region id ops draw) (Post B σ (wrOps ops.toList) k r) a w := by
  unfold regK at hk
  cases hN : dstOk B.N ops.toList
  · rw [hN] at hk; cases hk
  rw [hN] at hk
  simp only [cond_true] at hk
  cases draw
  · simp only [cond_false] at hk
    cases hc : hasComm ops.toList
    · rw [hc] at hk
      exact wpN_of (region_ok hV hN h hk (fun σ' a' w' h1 h2 h3 => ⟨σ', h1, h2, h3⟩))
    · rw [hc] at hk
      exact regionC_ok hV hN h hk (fun σ' a' w' h1 h2 h3 => ⟨σ', h1, h2, h3⟩)
  · simp only [cond_true] at hk
    obtain ⟨tr, G, hK⟩ := drawK_good (σ0 := σ) ops.toList 0 [] σ [] hk rfl rfl rfl rfl
      { op := fun i t h => (by simp at h), st := fun i t h => (by simp at h), gv := fun i t h => (by simp at h), run := fun i t h => (by simp at h), skip := fun i t h => (by simp at h), edge := fun i t e h => (by simp at h), anc := fun i t m h => (by simp at h), apart := fun i j s t _ h => (by simp at h) } (fun t ht => (by simp at ht))
    have hES : ES σ (foldD (fun _ => true) tr 0 σ) (wrOps ops.toList) := by
      intro j hj
      refine .inl (foldD_E tr 0 σ (fun t ht => ?_))
      obtain ⟨i, hi⟩ := List.mem_iff_getElem?.1 ht
      exact wrOps_mem hj t.o (List.mem_of_getElem? (G.op i t hi))
    refine wpN_of (wp_region_any hV.mix (drawAny G hV hN (B := B) (fun a' w' h' => ⟨_, hK, h', hES⟩) ops.size _ a _ (by simp) (fun i t e _ hl => ?_) ?_ ?_))
    · simp [Array.getD_eq_getD_getElem?, Array.getElem?_replicate] at hl
      split at hl <;> simp at hl
    · exact Nat.le_trans List.countP_le_length (by simp)
    · rw [show foldD (fun k => (Array.replicate ops.size false).getD k false) tr 0 σ = σ by
        rw [← foldD_none tr 0 σ]
        rw [foldD_none tr 0 σ]
        refine (foldD_ext tr 0 σ (D' := fun _ => false) (fun k _ _ => ?_)).trans (foldD_none tr 0 σ)
        simp [Array.getD_eq_getD_getElem?, Array.getElem?_replicate]
        split <;> rfl]
      obtain ⟨F, Sg, cg, h⟩ := h
      exact ⟨F, Sg, cg, h.world rfl rfl rfl (Nat.le_refl _) (fun _ _ => rfl)⟩

theorem frzS_ok : ∀ (ss : List Nat) {σ : St}, Inv B σ a w → Inv B (frzS σ ss) a w ∧ ∀ j, ER (σ.E j) ((frzS σ ss).E j) := by
  intro ss
  induction ss with
  | nil => intro σ h; exact ⟨h, fun _ => .refl _⟩
  | cons s ss ih =>
    intro σ h
    simp only [frzS]
    split
    · rename_i l n π c hE
      cases hl : σ.L l with
      | none => simp only; exact ih h
      | some b =>
        simp only
        obtain ⟨F, Sg, cg, h⟩ := h
        obtain ⟨g1, g2⟩ := ih ⟨_, Sg, cg, h.frz hl⟩
        exact ⟨g1, fun j => (frz_er j).trans (g2 j)⟩
    · exact ih h

theorem exec_ok {R : Type} {V : Env} (hV : EnvOk P V) (n : Nat) : ∀ (c : Code) (an : Ann) (σ : St) (k : Ks R) (r : R) (a : Act) (w : World), exec V B.N n c an σ k = some r → Inv B σ a w → wpN P c (Post B σ (wrC c) k r) a w := by
  intro c
  induction c with
  | skip => intro an σ k r a w hk h; exact wpN_of (wp_skip ⟨σ, hk, h, ES.refl _ _⟩)
  | region id ops draw =>
    intro an σ k r a w hk h
    refine withJ_ok h hk (fun nrm hk => ?_)
    obtain ⟨h', hpre⟩ := frzS_ok an.pf h
    have hwp := regK_ok (id := id) hV (k := { k with nrm := fun σ1 => nrm (frzS σ1 an.fz) }) h' hk
    refine wpN_mono hwp (fun e a' w' hp => ?_)
    cases e with
    | normal =>
      obtain ⟨σ1, q1, q2, q3⟩ := hp
      obtain ⟨g1, g2⟩ := frzS_ok an.fz q2
      exact ⟨_, q1, g1, fun j hj => (hpre j).trans ((q3 j hj).trans (g2 j))⟩
    | exit i => obtain ⟨σ1, q1, q2, q3⟩ := hp; exact ⟨σ1, q1, q2, fun j hj => (hpre j).trans (q3 j hj)⟩
    | ret => exact hp
    | goto _ => exact hp
    | panic _ => exact hp
    | outgrown => exact hp
  | seq x y ihx ihy =>
    intro an σ k r a w hk h
    simp only [exec] at hk
    have wx : ∀ j, wrC (.seq x y) j = false → wrC x j = false := fun j hj => by simp only [wrC, Bool.or_eq_false_iff] at hj; exact hj.1
    have wy : ∀ j, wrC (.seq x y) j = false → wrC y j = false := fun j hj => by simp only [wrC, Bool.or_eq_false_iff] at hj; exact hj.2
    refine wpN_seq (wpN_mono (ihx an.a1 σ _ r a w hk h) (fun e a' w' hp => ?_))
    cases e with
    | normal =>
      obtain ⟨σ1, h1, h2, h3⟩ := hp
      exact wpN_mono (ihy an.a2 σ1 k r a' w' h1 h2) (fun e a'' w'' hp => Post.imp (h3.mono wx) wy (fun σ' a w q1 q2 q3 => ⟨σ', q1, q2, q3⟩) (fun _ _ => rfl) (fun _ => rfl) hp)
    | exit id => obtain ⟨σ1, h1, h2, h3⟩ := hp; exact ⟨σ1, h1, h2, h3.mono wx⟩
    | ret => exact hp
    | goto _ => exact hp
    | panic _ => exact hp
    | outgrown => exact hp
  | cond c x y ihx ihy =>
    intro an σ k r a w hk h
    refine withJ_ok (W := wrC (.cond c x y)) h hk (fun nrm hk => ?_)
    have wx : ∀ j, wrC (.cond c x y) j = false → wrC x j = false := fun j hj => by simp only [wrC, Bool.or_eq_false_iff] at hj; exact hj.1
    have wy : ∀ j, wrC (.cond c x y) j = false → wrC y j = false := fun j hj => by simp only [wrC, Bool.or_eq_false_iff] at hj; exact hj.2
    split at hk
    · rename_i b hc
      have hcv : a.eval c = .bool b := by obtain ⟨F, Sg, cg, h⟩ := h; exact val_bool (opd_ok h hc)
      refine wpN_cond hcv ?_
      split at hk
      · exact wpN_mono (ihx an.a1 σ _ r a w hk h) (fun e a' w' hp => Post.imp (k := { k with nrm := nrm }) (ES.refl _ _) wx (fun σ' a w q1 q2 q3 => ⟨σ', q1, q2, q3⟩) (fun _ _ => rfl) (fun _ => rfl) hp)
      · exact wpN_mono (ihy an.a2 σ _ r a w hk h) (fun e a' w' hp => Post.imp (k := { k with nrm := nrm }) (ES.refl _ _) wy (fun σ' a w q1 q2 q3 => ⟨σ', q1, q2, q3⟩) (fun _ _ => rfl) (fun _ => rfl) hp)
    · cases hk
  | block id x ihx =>
    intro an σ k r a w hk h
    refine withJ_ok (W := wrC (.block id x)) h hk (fun nrm hk => ?_)
    refine wpN_block (wpN_mono (ihx an.a1 σ _ r a w hk h) (fun e a' w' hp => ?_))
    cases e with
    | normal => exact hp
    | exit i =>
      obtain ⟨σ1, h1, h2, h3⟩ := hp
      simp only at h1
      show (if i = id then _ else _ : Prop)
      cases hb : Nat.beq i id
      · rw [hb] at h1
        rw [if_neg (fun e => by rw [e, Nat.beq_refl] at hb; cases hb)]
        exact ⟨σ1, h1, h2, h3⟩
      · rw [hb] at h1
        rw [if_pos (Nat.eq_of_beq_eq_true hb)]
        exact ⟨σ1, h1, h2, h3⟩
    | ret => exact hp
    | goto _ => exact hp
    | panic _ => exact hp
    | outgrown => exact hp
  | loop x ihx =>
    intro an σ k r a w hk h
    simp only [exec] at hk
    cases hj : an.j with
    | none => rw [hj] at hk; cases hk
    | some s =>
    rw [hj] at hk
    simp only at hk
    cases hs : specOk σ s (wrC x)
    · rw [hs] at hk; cases hk
    rw [hs] at hk
    simp only [cond_true] at hk
    have hv : VerOk σ := by obtain ⟨F, Sg, cg, h⟩ := h; exact h.ver
    have hvf : FixOk B σ := by obtain ⟨F, Sg, cg, h⟩ := h; exact h.fixOk
    obtain ⟨x0, hk, h0⟩ := arr_ok h hv hvf (ES.refl σ (wrC x)) hs hk
    refine wpN_loop (fun m a w => ∃ y, loopB (fun y cont => exec V B.N n x an.a1 (stJ σ s y) { k with nrm := fun σ1 => arrK σ s σ1 cont }) m y = some r ∧ Inv B (stJ σ s y) a w) (fun a w h => by obtain ⟨y, h1, _⟩ := h; cases h1) ?_ n a w ⟨x0, hk, h0⟩
    rintro m a w ⟨y, h1, h2⟩
    simp only [loopB] at h1
    refine wpN_mono (ihx an.a1 _ _ r a w h1 h2) (fun e a' w' hp => ?_)
    cases e with
    | normal =>
      obtain ⟨σ1, q1, q2, q3⟩ := hp
      exact arr_ok q2 hv hvf ((stJ_es hs y).trans q3 (fun _ h => h) (fun _ h => h)) hs q1
    | exit i => obtain ⟨σ1, q1, q2, q3⟩ := hp; exact ⟨σ1, q1, q2, (stJ_es hs y).trans q3 (fun _ h => h) (fun _ h => h)⟩
    | ret => exact hp
    | goto _ => exact hp
    | panic _ => exact hp
    | outgrown => exact hp
  | exit id => intro an σ k r a w hk h; exact wpN_of (wp_exit ⟨σ, hk, h, ES.refl _ _⟩)
  | ret => intro an σ k r a w hk h; exact wpN_of (wp_ret ⟨σ, hk, h⟩)
  | rangeFunc f ps x y _ _ => intro an σ k r a w hk h; cases hk
  | scope x _ => intro an σ k r a w hk h; cases hk
  | label l => intro an σ k r a w hk h; cases hk
  | goto l => intro an σ k r a w hk h; cases hk
  | refuse s => intro an σ k r a w hk h; cases hk
end
end Go.Proofs.YtgonfcjdhbjkcaaDoor.Rf
/- Layer 29: functions. -/
set_option linter.unusedVariables false
set_option linter.unusedSimpArgs false
namespace Go.Proofs.YtgonfcjdhbjkcaaDoor.Rf
open Go

/-- The state a function begins with. -/
def initSt : (ps : List (Ty × Md)) → (tupT ps).T → Nat → St
  | [], _, _ => ⟨fun _ => none, fun _ => none, fun _ => false⟩
  | p :: ps, x, i => bif noOwn p.2 then (initSt ps x.2 (i + 1)).setE i (.val p.1 x.1)
    else { E := upd (initSt ps x.2 (i + 1)).E i (some (.one (.hdr (i * 8 + 6) 0 [] ⟨p.1, x.1⟩))), L := upd (initSt ps x.2 (i + 1)).L (i * 8 + 6) (some ⟨0, p.1, p.2, x.1⟩), U := fun j => Nat.beq j (i * 8 + 6) || (initSt ps x.2 (i + 1)).U j }

def resE (TT : Tab) (σ : St) : ResultVar → Option Ent0
  | .tmp t => match σ.E t with
    | some (.one e) => some e
    | _ => none
  | .cell a t => match σ.E a with
    | some (.one e) => (match TT t with | some td => xLoad td σ e some | none => none)
    | _ => none
def slotEnts (TT : Tab) (σ : St) : List ResultVar → Option (List Ent0)
  | [] => some []
  | t :: ts => match resE TT σ t with
    | some e => (match slotEnts TT σ ts with | some es => some (e :: es) | none => none)
    | none => none

def mutK {R : Type} : (ms : List (Ty × Md)) → List Nat → (Nat → Option Lab) → ((tupT ms).T → (Nat → Option Lab) → Option R) → Option R
  | [], [], L, K => K () L
  | p :: ms, i :: mi, L, K => match L (i * 8 + 6) with
    | some ⟨_, t, m, x⟩ => if h : t = p.1 then (bif decide (m = p.2) && !p.1.agg then mutK ms mi (upd L (i * 8 + 6) none) fun ys L' => K (h ▸ x, ys) L' else none) else none
    | none => none
  | _, _, _, _ => none

def miOk (ps : List (Ty × Md)) : List Nat → Bool
  | [] => true
  | i :: mi => (match ps[i]? with | some p => !noOwn p.2 && !p.1.agg | none => false) && miOk ps mi
/-- What a function gives back. -/
def retK (TT : Tab) (rs : List (Ty × Md)) (mi : List Nat) (ms : List (Ty × Md)) (rv : List ResultVar) (σ : St) : Option ((tupT rs).T × (tupT ms).T) :=
  match slotEnts TT σ rv with
  | some es => argsK σ rs es σ.L fun x L bs => mutK ms mi L fun ys L' => bif bs.all fun l => (L' l).isSome then some (x, ys) else none
  | none => none

/-- A function's code, run. -/
noncomputable def runFn (V : Env) (N n : Nat) (c : Code) (an : Ann) (ps rs : List (Ty × Md)) (mi : List Nat) (ms : List (Ty × Md)) (rv : List ResultVar) (x : (tupT ps).T) : Option ((tupT rs).T × (tupT ms).T) :=
  exec V N n c an (initSt ps x 0) { nrm := retK V.TT rs mi ms rv, ext := fun _ _ => none, ret := retK V.TT rs mi ms rv }

section
variable {P : Program} {F : BSet} {w : World} {a : Act}

theorem init_ok {B : Base} {vs : List Value} {S : BSet} (hB : B.w0 = w ∧ B.S0 = S ∧ B.F0 = F ∧ (∀ l, B.fix l = none)) (hsz : a.tmps.size = B.N) (hde : a.defers = []) (ha : ∀ t, t < vs.length → a.tmps.getD t undef = vs.getD t undef) (hSF : Dis S F) (hF : ∀ k, F k → k < w.heap.size) (hS : ∀ k, S k → k < w.heap.size) :
    ∀ (ps : List (Ty × Md)) (x : (tupT ps).T) (i : Nat) (S' : BSet), Args F w ps x (vs.drop i) S' → Sub S' S → ∃ Sg cg, InvG B F Sg cg (initSt ps x i) a w ∧ (∀ l b, (initSt ps x i).L l = some b → Sub (Sg l) S') ∧ (∀ l, (initSt ps x i).U l = true → i * 8 ≤ l ∧ l % 8 = 6 ∧ ∀ b, (initSt ps x i).L l = some b → cg l = (vs.getD (l / 8) undef).cells.toList) := by
  obtain ⟨hB1, hB2, hB3, hB4⟩ := hB
  intro ps
  induction ps with
  | nil =>
    intro x i S' h hsub
    refine ⟨fun _ => BSet.none, fun _ => [], ?_, fun l b h => (by cases h), fun l h => (by cases h)⟩
    exact
    { fr := ⟨by rw [hB1], by rw [hB1], by rw [hB1], by rw [hB1]; exact Nat.le_refl _, fun k _ _ => by rw [hB1]⟩
      size := hsz
      defers := hde
      f0 := by rw [hB3]; exact Sub.refl _
      fl := hF
      fs := fun k hk _ _ => by rw [hB3]; exact hk
      lab := fun l b h => by cases h
      dis := fun l l' b b' _ h => by cases h
      disF := fun l b h => by cases h
      lt := fun l b h => by cases h
      may := fun l b h => by cases h
      used := fun l b h => by cases h
      fix := fun l cs h => by rw [hB4] at h; cases h
      ent := fun t e h => by cases h }
  | cons p ps ih =>
    intro x i S' h hsub
    obtain ⟨v, vs', cs, S1, S2, e, h1, h2, h3, s1, s2, d⟩ := h
    have hi : i < vs.length := by
      rcases Nat.lt_or_ge i vs.length with h | h
      · exact h
      · rw [List.drop_eq_nil_of_le h] at e; cases e
    have hv : vs.getD i undef = v := by
      rw [List.drop_eq_getElem_cons hi] at e
      injection e with e1 e2
      simp [hi, e1]
    have hvs' : vs' = vs.drop (i + 1) := by
      rw [← List.tail_drop, e]; rfl
    rw [hvs'] at h3
    obtain ⟨Sg, cg, g1, g2, g3⟩ := ih x.2 (i + 1) S2 h3 (s2.trans hsub)
    have hslot : a.tmps.getD i undef = v := by rw [ha i hi, hv]
    simp only [initSt]
    cases hm : noOwn p.2
    · simp only [cond_false]
      have hU : (initSt ps x.2 (i + 1)).U (i * 8 + 6) = false := by
        cases hu : (initSt ps x.2 (i + 1)).U (i * 8 + 6)
        · rfl
        · have := (g3 _ hu).1; omega
      have i1 := g1.addLab (w' := w) rfl rfl rfl (Nat.le_refl _) (l := i * 8 + 6) (b := ⟨0, p.1, p.2, x.1⟩) hU (upd (initSt ps x.2 (i + 1)).L (i * 8 + 6) (some ⟨0, p.1, p.2, x.1⟩)) (fun _ _ _ => rfl) h1 (upd_same _ _ _) (fun j hj => .inr (upd_ne _ _ hj))
        (fun k hk => ⟨fun j bj hj hbj hs => by rw [upd_ne _ _ hj] at hbj; exact d k hk (g2 j bj hbj k hs), fun hf => hSF k (hsub k (s1 k hk)) hf, hS k (hsub k (s1 k hk)), fun _ => by rw [hB2]; exact hsub k (s1 k hk)⟩)
      refine ⟨_, _, i1.setEnt (s := i) (e := .one (.hdr (i * 8 + 6) 0 [] ⟨p.1, x.1⟩)) (root_ok i1 (l := i * 8 + 6) (b := ⟨0, p.1, p.2, x.1⟩) (upd_same _ _ _) (by rw [hslot]; simpa using h2)), fun l b hl => ?_, fun l hl => ?_⟩
      · rcases upd_some hl with ⟨e, _⟩ | ⟨e, e'⟩
        · rw [if_pos e]; exact s1
        · rw [if_neg e]; exact (g2 l b e').trans s2
      · by_cases e : l = i * 8 + 6
        · refine ⟨by omega, by omega, fun b _ => ?_⟩
          rw [if_pos e, show l / 8 = i by omega, hv, h2.cells]
        · have hl' : (initSt ps x.2 (i + 1)).U l = true := by
            simp only [Bool.or_eq_true] at hl
            rcases hl with hl | hl
            · exact absurd (Nat.eq_of_beq_eq_true hl) e
            · exact hl
          obtain ⟨q1, q2, q3⟩ := g3 l hl'
          refine ⟨by omega, q2, fun b hb => ?_⟩
          rw [if_neg e]
          simp only [upd_ne _ _ e] at hb
          exact q3 b hb
    · simp only [cond_true]
      refine ⟨Sg, cg, g1.setEnt (s := i) (e := .one (.val p.1 x.1)) ⟨cs, rep_noOwn _ _ hm _ _ _ _ h1, by rw [hslot]; exact h2⟩, fun l b hl => (g2 l b hl).trans s2, fun l hl => ?_⟩
      obtain ⟨q1, q2, q3⟩ := g3 l hl
      exact ⟨by omega, q2, q3⟩

theorem cell_of_load {t : TypeId} {v z : Value} (h : (Instr.loadAt t v).run P w = .ok z w) : (do loadVar t (← asAddr v) : Sem Value).run P w = .ok z w := by
  unfold Instr.loadAt Instr.sureAddr at h
  split at h
  · simpa [asAddr] using h
  · simp [stuck] at h
theorem slotEnts_ok {B : Base} {Sg : Nat → BSet} {cg : Nat → List Value} {σ : St} (h : InvG B F Sg cg σ a w) {TT : Tab} (hT : TabOk P TT) {f : ResultVar → Sem Value} (hf : ∀ t, f (.tmp t) = pure (a.tmps.getD t undef)) (hf2 : ∀ t u, f (.cell t u) = (do loadVar u (← asAddr (a.tmps.getD t undef)) : Sem Value)) :
    ∀ {ts : List ResultVar} {es : List Ent0}, slotEnts TT σ ts = some es → ∃ vs, EntsOk F w σ.L σ.U cg es vs ∧ (List.mapM f ts).run P w = .ok vs w := by
  intro ts
  induction ts with
  | nil => intro es he; simp only [slotEnts, Option.some.injEq] at he; subst he; exact ⟨[], rfl, by simp [Sem.run_pure]⟩
  | cons t ts ih =>
    intro es he
    simp only [slotEnts] at he
    cases h1 : resE TT σ t with
    | none => rw [h1] at he; cases he
    | some e =>
    rw [h1] at he
    simp only at he
    cases h2 : slotEnts TT σ ts with
    | none => rw [h2] at he; cases he
    | some es' =>
    rw [h2] at he
    simp only [Option.some.injEq] at he
    subst he
    obtain ⟨vs, g1, g2⟩ := ih h2
    have one : ∃ z, EntOk F w σ.L σ.U cg e z ∧ (f t).run P w = .ok z w := by
      cases t with
      | tmp t =>
        simp only [resE] at h1
        split at h1
        · rename_i e' hE
          injection h1 with h1
          subst h1
          exact ⟨_, h.ent t _ hE, by rw [hf, Sem.run_pure]⟩
        · cases h1
      | cell t u =>
        simp only [resE] at h1
        split at h1
        · rename_i e' hE
          cases hu : TT u with
          | none => rw [hu] at h1; cases h1
          | some td =>
            rw [hu] at h1
            obtain ⟨e2, z, k1, k2, k3⟩ := xLoad_ok h (hT u td hu) h1 (h.ent t _ hE)
            injection k1 with k1
            subst k1
            exact ⟨z, k3, by rw [hf2]; exact cell_of_load k2⟩
        · cases h1
    obtain ⟨z, o1, o2⟩ := one
    refine ⟨z :: vs, ⟨_, _, rfl, o1, g1⟩, ?_⟩
    rw [List.mapM_cons]
    simp only [Sem.run_bind, o2, Result.andThen_ok, g2, Sem.run_pure]

theorem mutK_ok {B : Base} {Sg : Nat → BSet} {cg : Nat → List Value} {σ : St} (h : InvG B F Sg cg σ a w) {F2 : BSet} (hFF : Sub F F2) {vs : List Value} {mi0 : List Nat} (hfix : ∀ i, i ∈ mi0 → ∀ b, σ.L (i * 8 + 6) = some b → b.t.agg = false → VR b.t (cg (i * 8 + 6)) (vs.getD i undef)) {R : Type} : ∀ (ms : List (Ty × Md)) (mi : List Nat) (L : Nat → Option Lab) (K : (tupT ms).T → (Nat → Option Lab) → Option R) (r : R), mutK ms mi L K = some r → (∀ i ∈ mi, i ∈ mi0) → (∀ j, L j = none ∨ L j = σ.L j) →
    ∃ ys L' Sm, K ys L' = some r ∧ Args F2 w ms ys (mi.map fun i => vs.getD i undef) Sm ∧ (∀ j, L' j = none ∨ L' j = L j) ∧ (∀ k, Sm k → ∃ l2 b2, L l2 = some b2 ∧ σ.L l2 = some b2 ∧ L' l2 = none ∧ Sg l2 k) := by
  intro ms
  induction ms with
  | nil =>
    intro mi L K r hk hmi hL
    cases mi with
    | nil => exact ⟨(), L, BSet.none, hk, rfl, fun _ => .inr rfl, fun _ h => h.elim⟩
    | cons _ _ => cases hk
  | cons p ms ih =>
    intro mi L K r hk hmi hL
    cases mi with
    | nil => cases hk
    | cons i mi =>
      simp only [mutK] at hk
      cases hl : L (i * 8 + 6) with
      | none => rw [hl] at hk; cases hk
      | some b =>
        rw [hl] at hk
        obtain ⟨v, t, m, x⟩ := b
        simp only at hk
        split at hk
        · rename_i ht
          cases hm : decide (m = p.2) && !p.1.agg
          · rw [hm] at hk; cases hk
          rw [hm] at hk
          simp only [cond_true] at hk
          simp only [Bool.and_eq_true, Bool.not_eq_true'] at hm
          obtain ⟨hm, hag⟩ := hm
          replace hm := of_decide_eq_true hm
          have hσ : σ.L (i * 8 + 6) = some ⟨v, t, m, x⟩ := by
            rcases hL (i * 8 + 6) with e | e
            · rw [e] at hl; cases hl
            · rw [← e]; exact hl
          have hLu : ∀ j, upd L (i * 8 + 6) none j = none ∨ upd L (i * 8 + 6) none j = L j := fun j => by
            by_cases e : j = i * 8 + 6
            · subst e; exact .inl (upd_same _ _ _)
            · exact .inr (upd_ne _ _ e)
          obtain ⟨ys, L', Sm, g1, g2, g3, g4⟩ := ih mi _ _ r hk (fun i hi => hmi i (by simp [hi])) (fun j => by
            rcases hLu j with e | e
            · exact .inl e
            · rw [e]; exact hL j)
          have hrep := rep_frame hFF (fun _ _ => rfl) _ _ _ _ _ _ (h.lab _ _ hσ) (Sub.refl _) (fun _ _ => rfl)
          have hvr := hfix i (hmi i (by simp)) _ hσ (show t.agg = false by rw [ht]; exact hag)
          have hL'i : L' (i * 8 + 6) = none := by
            rcases g3 (i * 8 + 6) with e | e
            · exact e
            · rw [e]; exact upd_same _ _ _
          obtain ⟨p1, p2⟩ := p
          simp only at ht hm
          subst ht; subst hm
          refine ⟨(x, ys), L', (Sg (i * 8 + 6)).or Sm, g1, ⟨_, _, _, Sg (i * 8 + 6), Sm, rfl, hrep, hvr, g2, fun k h => .inl h, fun k h => .inr h, fun k h1 h2 => ?_⟩, fun j => ?_, fun k hk => ?_⟩
          · obtain ⟨l2, b2, q1, q2, q3, q4⟩ := g4 k h2
            by_cases e : i * 8 + 6 = l2
            · subst e; rw [upd_same] at q1; cases q1
            · exact h.dis _ l2 _ b2 e hσ q2 k h1 q4
          · rcases g3 j with e | e
            · exact .inl e
            · rw [e]; exact hLu j
          · rcases hk with hk | hk
            · exact ⟨_, _, hl, hσ, hL'i, hk⟩
            · obtain ⟨l2, b2, q1, q2, q3, q4⟩ := g4 k hk
              refine ⟨l2, b2, ?_, q2, q3, q4⟩
              rcases hLu l2 with e | e
              · rw [e] at q1; cases q1
              · rw [← e]; exact q1
        · cases hk

theorem run_results {B : Base} {Sg : Nat → BSet} {cg : Nat → List Value} {σ : St} (h : InvG B F Sg cg σ a w) {TT : Tab} (hT : TabOk P TT) {fn : Func} {rv : List ResultVar} (hr : fn.results = rv.toArray) {es : List Ent0} (he : slotEnts TT σ rv = some es) : ∃ vs, EntsOk F w σ.L σ.U cg es vs ∧ (results fn a.tmps).run P w = .ok (retV vs) w := by
  unfold results
  rw [hr, Sem.run_bind, Array.mapM_eq_mapM_toList]
  generalize hf : (fun x : ResultVar => (match x with
    | .tmp t => pure (a.tmps.getD t undef)
    | .cell c t => do loadVar t (← asAddr (a.tmps.getD c undef)) : Sem Value)) = f
  obtain ⟨vs, g1, g2⟩ := slotEnts_ok h hT (f := f) (fun t => by rw [← hf]) (fun t u => by rw [← hf]) he
  refine ⟨vs, g1, ?_⟩
  rw [show Sem.run P (List.toArray <$> List.mapM f rv.toArray.toList) w = .ok vs.toArray w by
    change Sem.run P (List.mapM f rv >>= fun l => pure l.toArray) w = _
    simp only [Sem.run_bind, g2, Result.andThen_ok, Sem.run_pure]]
  simp only [Result.andThen_ok, Sem.run_pure]
  congr 1
  cases vs with
  | nil => simp [retV]
  | cons t rv =>
    cases rv with
    | nil => simp [retV]
    | cons t2 rv => simp [retV]

theorem Args.get : ∀ {ps : List (Ty × Md)} {x : (tupT ps).T} {vs : List Value} {S : BSet} (i : Nat) (p : Ty × Md), Args F w ps x vs S → ps[i]? = some p → ∃ cs, VR p.1 cs (vs.getD i undef) := by
  intro ps
  induction ps with
  | nil => intro x vs S i p _ h; simp at h
  | cons q ps ih =>
    rintro x vs S i p ⟨v, vs', cs, S1, S2, rfl, h1, h2, h3, _⟩ hi
    cases i with
    | zero => simp at hi; subst hi; exact ⟨cs, h2⟩
    | succ i => simp at hi; simpa using ih i p h3 hi
theorem init_U : ∀ (ps : List (Ty × Md)) (x : (tupT ps).T) (i j : Nat) (p : Ty × Md), ps[j]? = some p → noOwn p.2 = false → (initSt ps x i).U ((i + j) * 8 + 6) = true := by
  intro ps
  induction ps with
  | nil => intro x i j p h; simp at h
  | cons q ps ih =>
    intro x i j p h hp
    cases j with
    | zero =>
      simp at h
      subst h
      simp only [initSt, hp, cond_false, Nat.add_zero, Nat.beq_refl, Bool.true_or]
    | succ j =>
      simp at h
      have := ih x.2 (i + 1) j p h hp
      rw [show i + 1 + j = i + (j + 1) by omega] at this
      simp only [initSt]
      cases noOwn q.2
      · simp only [cond_false, this, Bool.or_true]
      · exact this
theorem miOk_get {ps : List (Ty × Md)} : ∀ {mi : List Nat}, miOk ps mi = true → ∀ i ∈ mi, ∃ p, ps[i]? = some p ∧ noOwn p.2 = false ∧ p.1.agg = false := by
  intro mi
  induction mi with
  | nil => intro _ i h; simp at h
  | cons j mi ih =>
    intro h i hi
    simp only [miOk, Bool.and_eq_true] at h
    rcases List.mem_cons.1 hi with rfl | hi
    · cases hp : ps[i]? with
      | none => rw [hp] at h; exact absurd h.1 (by simp)
      | some p =>
        rw [hp] at h
        simp only [Bool.and_eq_true, Bool.not_eq_true'] at h
        exact ⟨p, rfl, h.1⟩
    · exact ih h.2 i hi

theorem fn_ok {V : Env} (hV : EnvOk P V) {f : FuncId} {fn : Func} {c : Code} (hf : P.funcs[f]? = some fn) (hb : fn.body = some c) {ps rs : List (Ty × Md)} {mi : List Nat} {ms : List (Ty × Md)} {rv : List ResultVar} (hr : fn.results = rv.toArray) {N : Nat} (hN : fn.ntmps = N) (hps : ps.length ≤ N) (hmi : miOk ps mi = true) (an : Ann) (n : Nat) :
    FnOk P f ⟨ps, rs, mi, ms, runFn V N n c an ps rs mi ms rv⟩ := by
  intro x r hx F w S vs hargs hSF hF hS hG
  refine calls_of_wpN hf hb ?_
  have hlen := hargs.len
  simp only at hlen
  have hx : runFn V N n c an ps rs mi ms rv x = some r := hx
  have hargs : Args F w ps x vs S := hargs
  generalize ha0 : ({ tmps := vs.toArray ++ Array.replicate (fn.ntmps - vs.toArray.size) undef, defers := [] } : Act) = a0
  have hsz : a0.tmps.size = N := by rw [← ha0]; simp; omega
  have hde : a0.defers = [] := by rw [← ha0]
  have hget : ∀ t, t < vs.length → a0.tmps.getD t undef = vs.getD t undef := fun t ht => by
    rw [← ha0]
    simp only [Array.getD_eq_getD_getElem?]
    rw [Array.getElem?_append_left (by simpa using ht)]
    simp
  obtain ⟨Sg, cg, i0, _, i2⟩ := init_ok (a := a0) (B := ⟨w, S, F, N, fun _ => none, hG, fun p hp h => hSF p h (hG p hp).1, fun p hp => hF p (hG p hp).1⟩) ⟨rfl, rfl, rfl, fun _ => rfl⟩ hsz hde hget hSF hF hS ps x 0 S (by simpa using hargs) (Sub.refl _)
  let B : Base := ⟨w, S, F, N, fun l => if (initSt ps x 0).U l = true then some ((vs.getD (l / 8) undef).cells.toList) else none, hG, fun p hp h => hSF p h (hG p hp).1, fun p hp => hF p (hG p hp).1⟩
  have i1 : InvG B F Sg cg (initSt ps x 0) a0 w :=
    { i0 with
      fr := i0.fr
      fix := fun l cs hl => by
        simp only [B] at hl
        by_cases hu : (initSt ps x 0).U l = true
        · rw [if_pos hu] at hl
          injection hl with hl
          obtain ⟨_, q2, q3⟩ := i2 l hu
          exact ⟨⟨hu, q2⟩, fun b hb => by rw [← hl]; exact q3 b hb⟩
        · rw [if_neg hu] at hl; cases hl }
  have hwp := exec_ok (B := B) hV n c an (initSt ps x 0) _ r a0 w hx ⟨F, Sg, cg, i1⟩
  have fin : ∀ (σ' : St) (a' : Act) (w' : World), retK V.TT rs mi ms rv σ' = some r → Inv B σ' a' w' → a'.defers = [] ∧ ∃ v, (results fn a'.tmps).run P w' = .ok v w' ∧ FnPost ⟨ps, rs, mi, ms, runFn V N n c an ps rs mi ms rv⟩ r F w S vs (.returned v) w' := by
    rintro σ' a' w' hk ⟨F', Sg', cg', h⟩
    unfold retK at hk
    cases hes : slotEnts V.TT σ' rv with
    | none => rw [hes] at hk; cases hk
    | some es =>
    rw [hes] at hk
    simp only at hk
    obtain ⟨ws, hents, hrun⟩ := run_results h hV.tab hr hes
    refine ⟨h.defers, _, hrun, ?_⟩
    obtain ⟨x', L1, bs, Sr, hk, hA, hL1, hSr, hbs⟩ := argsK_ok h rs es _ σ'.L _ r hk hents (fun _ => .inr rfl)
    have hFF : Sub F' (fun k => F' k ∨ ∃ l ∈ bs, Sg' l k) := fun k hk => .inl hk
    obtain ⟨ys, L2, Sm, hk, hM, hL2, hSm⟩ := mutK_ok h hFF (vs := vs) (mi0 := mi) (fun i hi b hb hag => by
      obtain ⟨p, hp, ho, hpa⟩ := miOk_get hmi i hi
      have hU := init_U ps x 0 i p hp ho
      rw [Nat.zero_add] at hU
      have hq := (h.fix (i * 8 + 6) ((vs.getD i undef).cells.toList) (by
        simp only [B]
        rw [if_pos hU, show (i * 8 + 6) / 8 = i by omega])).2 b hb
      obtain ⟨cs, hcs⟩ := hargs.get i p hp
      rw [hq, hcs.cells]
      unfold VR at hcs ⊢
      rw [hpa] at hcs
      rw [hag]
      exact hcs) ms mi L1 _ r hk (fun _ h => h) hL1
    cases hall : bs.all fun l => (L2 l).isSome
    · rw [hall] at hk; cases hk
    rw [hall] at hk
    simp only [cond_true, Option.some.injEq] at hk
    subst hk
    simp only [List.all_eq_true] at hall
    have hbl : ∀ l ∈ bs, ∃ b, L2 l = some b ∧ L1 l = some b ∧ σ'.L l = some b := fun l hl => by
      obtain ⟨b, hb⟩ := Option.isSome_iff_exists.1 (hall l hl)
      have h1 : L1 l = some b := by
        rcases hL2 l with e | e
        · rw [e] at hb; cases hb
        · rw [← e]; exact hb
      refine ⟨b, hb, h1, ?_⟩
      rcases hL1 l with e | e
      · rw [e] at h1; cases h1
      · rw [← e]; exact h1
    have hSbs : ∀ k, Sr k ∨ Sm k → ¬ ∃ l ∈ bs, Sg' l k := by
      rintro k hk ⟨l, hl, hlk⟩
      obtain ⟨b, q1, q2, q3⟩ := hbl l hl
      rcases hk with hk | hk
      · obtain ⟨l2, b2, e1, e2, e3, e4⟩ := hSr k hk
        by_cases e : l2 = l
        · subst e; rw [e3] at q2; cases q2
        · exact h.dis l2 l b2 b e e2 q3 k e4 hlk
      · obtain ⟨l2, b2, e1, e2, e3, e4⟩ := hSm k hk
        by_cases e : l2 = l
        · subst e; rw [e3] at q1; cases q1
        · exact h.dis l2 l b2 b e e2 q3 k e4 hlk
    refine ⟨_, fun k => F' k ∨ ∃ l ∈ bs, Sg' l k, Sr, Sm, rfl, hA _ hFF (fun l hl k hk => .inr ⟨l, hl, hk⟩), hM, ?_, h.fr, ?_, ?_, ?_, ?_⟩
    · intro k h1 h2
      obtain ⟨l2, b2, e1, e2, e3, e4⟩ := hSr k h1
      obtain ⟨l3, b3, f1, f2, f3, f4⟩ := hSm k h2
      by_cases e : l2 = l3
      · subst e; rw [e3] at f1; cases f1
      · exact h.dis l2 l3 b2 b3 e e2 f2 k e4 f4
    · exact fun k hk => .inl (h.f0 k hk)
    · rintro k (hk | ⟨l, hl, hk⟩)
      · exact h.fl k hk
      · obtain ⟨b, _, _, q3⟩ := hbl l hl; exact h.lt l b q3 k hk
    · rintro k (hk | ⟨l, hl, hk⟩) hlt hns
      · exact h.fs k hk hlt hns
      · obtain ⟨b, _, _, q3⟩ := hbl l hl; exact absurd (h.may l b q3 k hk hlt) hns
    · intro k hk
      have hl2 : ∃ l2 b2, σ'.L l2 = some b2 ∧ Sg' l2 k := by
        rcases hk with hk | hk
        · obtain ⟨l2, b2, e1, e2, e3, e4⟩ := hSr k hk; exact ⟨l2, b2, e2, e4⟩
        · obtain ⟨l2, b2, e1, e2, e3, e4⟩ := hSm k hk; exact ⟨l2, b2, e2, e4⟩
      obtain ⟨l2, b2, e2, e4⟩ := hl2
      exact ⟨h.lt l2 b2 e2 k e4, fun hf => hf.elim (h.disF l2 b2 e2 k e4) (hSbs k hk), fun hlt => h.may l2 b2 e2 k e4 hlt⟩
  exact wpN_mono hwp (fun e a' w' hp => by
    cases e with
    | normal => obtain ⟨σ', h1, h2, _⟩ := hp; exact fin σ' a' w' h1 h2
    | ret => obtain ⟨σ', h1, h2⟩ := hp; exact fin σ' a' w' h1 h2
    | exit i => obtain ⟨σ', h1, _⟩ := hp; cases h1
    | goto _ => exact hp.elim
    | panic _ => exact hp.elim
    | outgrown => exact hp.elim)
end
end Go.Proofs.YtgonfcjdhbjkcaaDoor.Rf
/- Layer 30: tables. -/
set_option linter.unusedVariables false
set_option linter.unusedSimpArgs false
namespace Go.Proofs.YtgonfcjdhbjkcaaDoor.Rf
open Go

/-- A table as a list. -/
def lookT : List (Nat × TD) → Tab
  | [] => fun _ => none
  | p :: ps => fun t => bif Nat.beq t p.1 then some p.2 else lookT ps t
def allT (P : Program) : List (Nat × TD) → Prop
  | [] => True
  | p :: ps => TOk P p.1 p.2 ∧ allT P ps
theorem lookT_ok {P : Program} : ∀ {l : List (Nat × TD)}, allT P l → TabOk P (lookT l) := by
  intro l
  induction l with
  | nil => intro _ t d h; cases h
  | cons p ps ih =>
    intro hl t d h
    simp only [lookT] at h
    cases hb : Nat.beq t p.1
    · rw [hb] at h; exact ih hl.2 t d h
    · rw [hb] at h
      simp only [cond_true, Option.some.injEq] at h
      subst h
      rw [Nat.eq_of_beq_eq_true hb]
      exact hl.1

theorem info_of {P : Program} {t : Nat} {i : TypeInfo} {d : TD} {z : Value} (h : ∀ w : World, (typeInfo t).run P w = .ok i w) (h1 : i.size = d.ty.width) (h2 : i.bytes = d.bytes) (h3 : i.zero = some z) (h4 : z.cells.toList = d.zero) : ∃ i z, P.info? t = some i ∧ i.size = d.ty.width ∧ i.bytes = d.bytes ∧ i.zero = some z ∧ z.cells.toList = d.zero := by
  refine ⟨i, z, ?_, h1, h2, h3, h4⟩
  have h0 := h default
  cases hi : P.info? t with
  | none => simp [typeInfo, hi] at h0
  | some j =>
    simp [typeInfo, hi] at h0
    rw [h0]

theorem zi_of {P : Program} {t : Nat} {i : TypeInfo} {d : TD} {k0 : IntKind} (hd : d.kd = .int k0) (h : ∀ w : World, (typeInfo t).run P w = .ok i w) (h3 : i.zero = some (.int k0 0)) : ∀ k, d.kd = .int k → ∃ i, P.info? t = some i ∧ i.zero = some (.int k 0) := by
  intro k hk
  rw [hd] at hk
  cases hk
  have h0 := h default
  cases hi : P.info? t with
  | none => simp [typeInfo, hi] at h0
  | some j =>
    simp [typeInfo, hi] at h0
    exact ⟨j, rfl, by rw [h0]; exact h3⟩
theorem zi_no {P : Program} {t : Nat} {d : TD} (hd : (match d.kd with | .int _ => false | _ => true) = true) : ∀ k, d.kd = .int k → ∃ i, P.info? t = some i ∧ i.zero = some (.int k 0) := by
  intro k hk
  rw [hk] at hd
  cases hd

/-- Functions as a list. -/
def lookC : List (FuncId × Callee) → FuncId → Option Callee
  | [], _ => none
  | p :: ps, f => bif Nat.beq f p.1 then some p.2 else lookC ps f
def allC (P : Program) : List (FuncId × Callee) → Prop
  | [] => True
  | p :: ps => (FnOk P p.1 p.2 ∧ Plain P p.1) ∧ allC P ps
theorem lookC_ok {P : Program} : ∀ {l : List (FuncId × Callee)}, allC P l → ∀ f c, lookC l f = some c → FnOk P f c ∧ Plain P f := by
  intro l
  induction l with
  | nil => intro _ f c h; cases h
  | cons p ps ih =>
    intro hl f c h
    simp only [lookC] at h
    cases hb : Nat.beq f p.1
    · rw [hb] at h; exact ih hl.2 f c h
    · rw [hb] at h
      simp only [cond_true, Option.some.injEq] at h
      subst h
      rw [Nat.eq_of_beq_eq_true hb]
      exact hl.1
/-- The same function, computed otherwise. -/
theorem FnOk.of_eq {P : Program} {f : FuncId} {ps rs : List (Ty × Md)} {mi : List Nat} {ms : List (Ty × Md)} {den den' : (tupT ps).T → Option ((tupT rs).T × (tupT ms).T)} (h : FnOk P f ⟨ps, rs, mi, ms, den⟩) (he : ∀ x, den' x = den x) : FnOk P f ⟨ps, rs, mi, ms, den'⟩ := by
  have : den' = den := funext he
  rw [this]; exact h
end Go.Proofs.YtgonfcjdhbjkcaaDoor.Rf
/- Layer 40: what a claim reads of an argument, as the frame means it. -/
set_option linter.unusedVariables false
set_option linter.unusedSimpArgs false
namespace Go.Proofs.YtgonfcjdhbjkcaaDoor.Rf
open Go

/-- A type of the program is read as a pure type. -/
def rdFs (rd : TypeId → Ty → Bool) : List (TypeId × Nat) → Ty → Nat → Bool
  | [], u, _ => (match u with | .unit => true | _ => false)
  | [p], u, k => Nat.beq p.2 k && rd p.1 u
  | p :: q :: fs, u, k => (match u with
    | .pair a b => Nat.beq p.2 k && (rd p.1 a && rdFs rd (q :: fs) b (k + a.width))
    | _ => false)
def rdOk (TT : Tab) : Nat → TypeId → Ty → Bool
  | 0, _, _ => false
  | n + 1, t, ty => match TT t with
    | none => false
    | some d => decide (d.ty = ty) && (match d.kd with
      | .int k => decide (ty = .int k)
      | .bool => decide (ty = .bool)
      | .str => decide (ty = .str)
      | .slice e => (match ty with | .sl u => rdOk TT n e u && Nat.blt 0 u.width | _ => false)
      | .array m e => (match ty with | .arr m' u => Nat.beq m m' && rdOk TT n e u | _ => false)
      | .struct fs => (match ty with | .st u => rdFs (rdOk TT n) fs u 0 | _ => false)
      | _ => false)

theorem rd_width {TT : Tab} {P : Program} (hT : TabOk P TT) {n : Nat} {t : TypeId} {ty : Ty} (h : rdOk TT n t ty = true) : P.cellsOf t = ty.width := by
  cases n with
  | zero => cases h
  | succ n =>
    simp only [rdOk] at h
    cases hd : TT t with
    | none => rw [hd] at h; cases h
    | some d =>
      rw [hd] at h
      simp only [Bool.and_eq_true, decide_eq_true_eq] at h
      obtain ⟨i, z, h1, h2, _⟩ := (hT t d hd).info
      simp [Program.cellsOf, h1, h2, h.1]

theorem mapM_some {α β : Type} {f : α → Option β} : ∀ {l : List α} {xs : List β}, l.mapM f = some xs → xs.length = l.length ∧ ∀ (i : Nat) (a : α), l[i]? = some a → ∃ x : β, xs[i]? = some x ∧ f a = some x := by
  intro l
  induction l with
  | nil => intro xs h; simp at h; subst h; exact ⟨rfl, fun i a h => by simp at h⟩
  | cons a l ih =>
    intro xs h
    rw [List.mapM_cons] at h
    cases ha : f a with
    | none => rw [ha] at h; cases h
    | some b =>
      rw [ha] at h
      cases hl : l.mapM f with
      | none => rw [hl] at h; cases h
      | some bs =>
        rw [hl] at h
        have h : some (b :: bs) = some xs := h
        injection h with h
        subst h
        obtain ⟨h1, h2⟩ := ih hl
        refine ⟨by simp [h1], fun i x hi => ?_⟩
        cases i with
        | zero => simp at hi; subst hi; exact ⟨b, rfl, ha⟩
        | succ i => simp at hi; simpa using h2 i x hi

section
variable {H : Type} {enc : TypeId × Value → H} {P : Program} {w : World}

theorem cells_at {a : Addr} {n : Nat} {cs : List Value} (h : w.cells? 0 a n = some cs) : cs.length = n ∧ At w a cs := by
  unfold World.cells? at h
  rw [if_pos (Nat.zero_le _)] at h
  obtain ⟨h1, h2⟩ := mapM_some h
  refine ⟨by simpa using h1, fun j v hj => ?_⟩
  have hlt : j < n := by have := (List.getElem?_eq_some_iff.1 hj).1; simp at h1; omega
  obtain ⟨x, hx, hc⟩ := h2 j j (by simp [hlt])
  rw [hj] at hx
  injection hx with hx
  rw [hx]; exact hc

/-- A row of cells, piece by piece. -/
theorem row_rep {t : Ty} {F : BSet} {a : Addr} {len : Nat} (h : ∀ i, i < len → ∃ cs x, w.cells? 0 (a.add (i * t.width)) t.width = some cs ∧ Rep F w t .ro x cs BSet.none) : ∃ (xs : List t.T) (ds : List Value), xs.length = len ∧ At w a ds ∧ ds.length = len * t.width ∧ RepL (Rep F w t .ro) xs ds BSet.none := by
  induction len with
  | zero => exact ⟨[], [], rfl, fun j v hj => by simp at hj, by simp, rfl⟩
  | succ len ih =>
    obtain ⟨xs, ds, h1, h2, h3, h4⟩ := ih (fun i hi => h i (by omega))
    obtain ⟨cs, x, h5, h6⟩ := h len (by omega)
    obtain ⟨h7, h8⟩ := cells_at h5
    refine ⟨xs ++ [x], ds ++ cs, by simp [h1], fun j v hj => ?_, by rw [List.length_append, h3, h7, Nat.succ_mul], ?_⟩
    · rcases Nat.lt_or_ge j ds.length with hlt | hge
      · rw [List.getElem?_append_left hlt] at hj; exact h2 j v hj
      · rw [List.getElem?_append_right hge] at hj
        have := h8 (j - ds.length) v hj
        rw [add_add, ← h3] at this
        rw [show ds.length + (j - ds.length) = j by omega] at this
        exact this
    · have h7 : RepL (Rep F w t .ro) [x] cs BSet.none := ⟨cs, [], BSet.none, BSet.none, by simp, h6, rfl, Sub.refl _, Sub.refl _, fun _ h => h.elim⟩
      exact (RepL.append h4 h7 (fun _ h => h.elim)).mono (fun k h => h.elim id id)

theorem cell_lt {a : Addr} {v : Value} (h : w.cell? a = some v) : a.block < w.heap.size := by
  rcases Nat.lt_or_ge a.block w.heap.size with h' | h'
  · exact h'
  · simp [World.cell?, Array.getElem?_eq_none h'] at h

def LtB (w : World) : BSet := fun k => k < w.heap.size

theorem fs_rep {TT : Tab} (hT : TabOk P TT) {n : Nat} {F : BSet} {g : TypeId → List Value → Prop}
    (ih : ∀ t ty cs, rdOk TT n t ty = true → g t cs → ∃ x, Rep F w ty .ro x cs BSet.none) :
    ∀ (fs : List (TypeId × Nat)) (u : Ty) (k : Nat) (cs : List Value), rdFs (rdOk TT n) fs u k = true → k ≤ cs.length → (cs.length = k + u.width) →
      (∀ f ∈ fs, g f.1 ((cs.drop f.2).take (P.cellsOf f.1))) → ∃ x, Rep F w u .ro x (cs.drop k) BSet.none := by
  intro fs
  induction fs with
  | nil =>
    intro u k cs h hk hl _
    cases u <;> simp only [rdFs, Bool.false_eq_true] at h
    exact ⟨(), List.drop_eq_nil_of_le (by simp [Ty.width] at hl; omega)⟩
  | cons p fs ihf =>
    intro u k cs h hk hl hg
    cases fs with
    | nil =>
      simp only [rdFs, Bool.and_eq_true] at h
      obtain ⟨x, hx⟩ := ih p.1 u _ h.2 (hg p (by simp))
      rw [Nat.eq_of_beq_eq_true h.1, rd_width hT h.2, List.take_of_length_le (by rw [List.length_drop]; omega)] at hx
      exact ⟨x, hx⟩
    | cons q fs =>
      simp only [rdFs] at h
      cases u <;> simp only [Bool.false_eq_true, Bool.and_eq_true] at h
      rename_i a b
      obtain ⟨h1, h2, h3⟩ := h
      simp only [Ty.width] at hl
      obtain ⟨x, hx⟩ := ih p.1 a _ h2 (hg p (by simp))
      obtain ⟨y, hy⟩ := ihf b (k + a.width) cs h3 (by omega) (by omega) (fun f hf => hg f (by simp only [List.mem_cons] at hf ⊢; exact .inr hf))
      rw [Nat.eq_of_beq_eq_true h1, rd_width hT h2] at hx
      refine ⟨(x, y), _, _, BSet.none, BSet.none, ?_, hx, hy, Sub.refl _, Sub.refl _, fun _ h => h.elim⟩
      rw [← List.drop_drop]
      exact (List.take_append_drop _ _).symm

theorem trod_rep {TT : Tab} (hT : TabOk P TT) {spare : Nat → Bool} {held : Bool} : ∀ (n : Nat) (t : TypeId) (ty : Ty), rdOk TT n t ty = true → ∀ (fuel : Nat) (cs : List Value) (d : DataW H × List MemPlace), DataW.trod enc P w 0 spare held fuel t cs = some d → ∃ x, Rep (LtB w) w ty .ro x cs BSet.none := by
  intro n
  induction n with
  | zero => intro t ty h; cases h
  | succ n ih =>
    intro t ty h fuel cs d hd
    have hwid := rd_width hT h
    simp only [rdOk] at h
    cases hdd : TT t with
    | none => rw [hdd] at h; cases h
    | some td =>
    rw [hdd] at h
    simp only [Bool.and_eq_true, decide_eq_true_eq] at h
    obtain ⟨hty, h⟩ := h
    have hdesc := (hT t td hdd).desc
    split at h
    · rename_i k hk
      rw [hk] at hdesc
      have h := of_decide_eq_true h
      subst h
      obtain ⟨m, rfl, _, hwf⟩ := DataW.trod_int hdesc.1 hd
      refine ⟨m, rfl, ?_⟩
      simp only [Lit.wf, Bool.and_eq_true, decide_eq_true_eq] at hwf
      revert hwf
      cases k <;> simp [inK, kLo, kHi, IntKind.min, IntKind.max, IntKind.signed, IntKind.bits] <;> omega
    · rename_i hk
      rw [hk] at hdesc
      have h := of_decide_eq_true h
      subst h
      obtain ⟨m, rfl, _⟩ := DataW.trod_bool hdesc.1 hd
      exact ⟨m, rfl⟩
    · rename_i hk
      rw [hk] at hdesc
      have h := of_decide_eq_true h
      subst h
      obtain ⟨m, rfl, _, hs⟩ := DataW.trod_string hdesc.1 hd
      exact ⟨sbytes m, m, rfl, rfl, hs⟩
    · rename_i e hk
      rw [hk] at hdesc
      cases ty <;> simp only [Bool.false_eq_true] at h
      rename_i u
      simp only [Bool.and_eq_true] at h
      obtain ⟨h, hw0⟩ := h
      have hw0 := show 0 < u.width by simpa [Nat.blt_eq] using hw0
      rcases DataW.trod_slice hdesc hd with ⟨rfl, _⟩ | ⟨a, len, cap, elems, rest, m, _, rfl, _, _, h1, h2, h3, h4, _⟩
      · exact ⟨[], none, 0, rfl, Nat.le_refl _, Nat.zero_le _, fun h => absurd h (Nat.lt_irrefl _)⟩
      · have hcell := rd_width hT h
        have hrow : ∀ i, i < len → ∃ cs x, w.cells? 0 (a.add (i * u.width)) u.width = some cs ∧ Rep (LtB w) w u .ro x cs BSet.none := fun i hi => by
          have := h4 i hi
          rw [hcell] at this
          cases hc : w.cells? 0 (a.add (i * u.width)) u.width with
          | none => rw [hc] at this; simp [List.getElem?_eq_getElem (show i < elems.length by omega)] at this
          | some cs =>
            rw [hc] at this
            simp only [Option.bind_some] at this
            rw [List.getElem?_eq_getElem (show i < elems.length by omega)] at this
            obtain ⟨x, hx⟩ := ih e u h _ _ _ this
            exact ⟨cs, x, rfl, hx⟩
        obtain ⟨xs, ds, g1, g2, g3, g4⟩ := row_rep hrow
        refine ⟨xs, some a, cap, ?_, by rw [g1]; exact h1, h2, fun hp => ⟨a, rfl, ?_, ds, g2, g4⟩⟩
        · show _ = [Value.slice (some a) (List.length xs) cap]; rw [g1]
        · have h0 : 0 < ds.length := by rw [g3]; rw [g1] at hp; exact Nat.mul_pos hp hw0
          have hcc := g2 0 ds[0] (by simp [h0])
          have := cell_lt hcc
          rwa [add_block] at this
    · rename_i m e hk
      rw [hk] at hdesc
      cases ty <;> simp only [Bool.false_eq_true] at h
      rename_i m' u
      simp only [Bool.and_eq_true] at h
      obtain ⟨h, hw0⟩ := h
      have h := Nat.eq_of_beq_eq_true h
      subst h
      obtain ⟨xs, k, _, _, g1, g2, g3⟩ := DataW.trod_array hdesc hd
      have hcell := rd_width hT hw0
      rw [hwid] at g1
      have key : ∀ j, j ≤ m → ∃ ys : List u.T, ys.length = j ∧ RepL (Rep (LtB w) w u .ro) ys (cs.take (j * u.width)) BSet.none := by
        intro j
        induction j with
        | zero => intro _; exact ⟨[], rfl, by simp [RepL]⟩
        | succ j ihj =>
          intro hj
          obtain ⟨ys, q1, q2⟩ := ihj (by omega)
          have := g3 j (by omega)
          rw [hcell, List.getElem?_eq_getElem (show j < xs.length by omega)] at this
          obtain ⟨x, hx⟩ := ih e u hw0 _ _ _ this
          refine ⟨ys ++ [x], by simp [q1], ?_⟩
          have e1 : cs.take ((j + 1) * u.width) = cs.take (j * u.width) ++ (cs.drop (j * u.width)).take u.width := by
            rw [Nat.succ_mul, List.take_add]
          rw [e1]
          have h7 : RepL (Rep (LtB w) w u .ro) [x] ((cs.drop (j * u.width)).take u.width) BSet.none := ⟨_, [], BSet.none, BSet.none, (List.append_nil _).symm, hx, rfl, Sub.refl _, Sub.refl _, fun _ h => h.elim⟩
          exact (RepL.append q2 h7 (fun _ h => h.elim)).mono (fun k h => h.elim id id)
      obtain ⟨ys, q1, q2⟩ := key m (Nat.le_refl _)
      rw [List.take_of_length_le (by rw [g1]; exact Nat.le_refl _)] at q2
      exact ⟨ys, q1, q2⟩
    · rename_i fs hk
      rw [hk] at hdesc
      obtain ⟨f, hf1, hf2⟩ := hdesc
      cases ty <;> simp only [Bool.false_eq_true] at h
      rename_i u
      obtain ⟨xs, k, _, _, g1, g2, g3⟩ := DataW.trod_struct hf1 hd
      rw [hwid] at g1
      obtain ⟨x, hx⟩ := fs_rep hT (F := LtB w) (g := fun t cs => ∃ d, DataW.trod enc P w 0 spare held k t cs = some d) (fun t ty cs hr hg => by obtain ⟨d, hg⟩ := hg; exact ih t ty hr _ _ _ hg) fs u 0 cs h (Nat.zero_le _) (by rw [g1]; simp [Ty.width]) (fun p hp => by
        rw [← hf2] at hp
        obtain ⟨fl, hfl, rfl⟩ := List.mem_map.1 hp
        obtain ⟨i, hi⟩ := List.mem_iff_getElem?.1 hfl
        have hi' : f[i]? = some fl := by simpa using hi
        have hlt : i < f.size := (Array.getElem?_eq_some_iff.1 hi').1
        exact ⟨_, (g3 i fl hi').trans (List.getElem?_eq_getElem (show i < xs.length by omega))⟩)
      rw [List.drop_zero] at hx
      exact ⟨x, hx⟩
    · cases h
end

/-! ### What a value that can be read keeps to -/
def WfT : (t : Ty) → t.T → Prop
  | .int k, n => inK k n
  | .bool, _ => True
  | .str, s => List.length s ≤ maxLen ∧ ∀ c ∈ (s : List Int), 0 ≤ c ∧ c ≤ 255
  | .unit, _ => True
  | .pair a b, x => WfT a x.1 ∧ WfT b x.2
  | .st t, x => WfT t x
  | .sl t, x => List.length x ≤ maxLen ∧ ∀ y ∈ (x : List t.T), WfT t y
  | .arr n t, x => List.length x = n ∧ ∀ y ∈ (x : List t.T), WfT t y
  | .box t, x => WfT t x
  | .ptr _, none => True
  | .ptr t, some x => WfT t x
  | .junk, _ => True
  | .hol _, _ => True
  | .chan, _ => True
  | .fn _, _ => True
  | .may _, _ => True

theorem repL_all {α : Type} {R : α → List Value → BSet → Prop} {p : α → Prop} (hp : ∀ y c S, R y c S → p y) : ∀ {x : List α} {cs : List Value} {S : BSet}, RepL R x cs S → ∀ y ∈ x, p y := by
  intro x
  induction x with
  | nil => intro cs S _ y hy; simp at hy
  | cons z zs ih =>
    rintro cs S ⟨c1, c2, S1, S2, rfl, h1, h2, _⟩ y hy
    rcases List.mem_cons.1 hy with rfl | hy
    · exact hp _ _ _ h1
    · exact ih h2 y hy

theorem rep_wf {F : BSet} {w : World} : ∀ (t : Ty) (m : Md) (x : t.T) (cs : List Value) (S : BSet), Rep F w t m x cs S → WfT t x := by
  intro t
  induction t with
  | int k => intro m x cs S h; exact h.2
  | bool => intro m x cs S h; trivial
  | str =>
    rintro m x cs S ⟨u, rfl, rfl, hs⟩
    refine ⟨by simpa [sbytes] using hs, fun c hc => ?_⟩
    obtain ⟨b, _, rfl⟩ := List.mem_map.1 hc
    have := b.toNat_lt
    omega
  | unit => intro m x cs S h; trivial
  | junk => intro m x cs S h; trivial
  | hol t ih => intro m x cs S h; trivial
  | chan => intro m x cs S h; trivial
  | fn f => intro m x cs S h; trivial
  | may t ih => intro m x cs S h; trivial
  | pair a b iha ihb =>
    rintro m x cs S ⟨c1, c2, S1, S2, rfl, h1, h2, _⟩
    exact ⟨iha _ _ _ _ h1, ihb _ _ _ _ h2⟩
  | st t ih => intro m x cs S h; exact ih m x cs S h
  | arr n t ih => rintro m x cs S ⟨hn, h⟩; exact ⟨hn, repL_all (fun y c S => ih m.el y c S) h⟩
  | sl t ih =>
    have ro : ∀ (x : List t.T) (cs : List Value), RoSl F w (Rep F w t .ro) x cs → List.length x ≤ maxLen ∧ ∀ y ∈ x, WfT t y := by
      rintro x cs ⟨a, cap, rfl, h1, h2, h3⟩
      refine ⟨Nat.le_trans h1 h2, fun y hy => ?_⟩
      obtain ⟨ad, rfl, _, ds, _, hr⟩ := h3 (List.length_pos_of_mem hy)
      exact repL_all (fun y c S => ih .ro y c S) hr y hy
    intro m x cs S h
    cases m with
    | ro => exact ro x cs h
    | pr _ _ => exact ro x cs h
    | own m =>
      obtain ⟨a, cap, rfl, h1, h2, h3⟩ := h
      refine ⟨Nat.le_trans h1 h2, fun y hy => ?_⟩
      rcases h3 with rfl | ⟨b, off, c, e, rfl, hb, hc, hS, S1, hr, s1, n1⟩
      · have := List.length_pos_of_mem hy; omega
      · exact repL_all (fun y c S => ih m y c S) hr y hy
  | box t ih =>
    intro m x cs S h
    cases m with
    | own m => obtain ⟨b, c, e, rfl, hb, hS, S1, hr, _⟩ := h; exact ih m x _ _ hr
    | ro => obtain ⟨a, rfl, _, ds, _, hr⟩ := h; exact ih .ro x _ _ hr
    | pr _ _ => obtain ⟨a, rfl, _, ds, _, hr⟩ := h; exact ih .ro x _ _ hr
  | ptr t ih =>
    intro m x cs S h
    cases x with
    | none => trivial
    | some x =>
      cases m with
      | own m => obtain ⟨b, c, e, rfl, hb, hS, S1, hr, _⟩ := h; exact ih m x _ _ hr
      | ro => obtain ⟨a, rfl, _, ds, _, hr⟩ := h; exact ih .ro x _ _ hr
      | pr _ _ => obtain ⟨a, rfl, _, ds, _, hr⟩ := h; exact ih .ro x _ _ hr
end Go.Proofs.YtgonfcjdhbjkcaaDoor.Rf
/- Layer 41: a law's row: what is handed over, and 'true' behind it. -/
set_option linter.unusedVariables false
set_option linter.unusedSimpArgs false
namespace Go.Proofs.YtgonfcjdhbjkcaaDoor.Rf
open Go Go.ChangeShapes Go.RowKit

section
variable {H : Type} {enc : TypeId × Value → H} {P : Program} {w : World}

theorem okWide_vr {TT : Tab} (hT : TabOk P TT) {n : Nat} {t : TypeId} {ty : Ty} (h : rdOk TT n t ty = true) {r : Reach} {base : Nat} {v : Value} (hv : Value.okWide P w r base t v) : VR ty v.cells.toList v := by
  cases n with
  | zero => cases h
  | succ n =>
    simp only [rdOk] at h
    cases hdd : TT t with
    | none => rw [hdd] at h; cases h
    | some td =>
    rw [hdd] at h
    simp only [Bool.and_eq_true, decide_eq_true_eq] at h
    obtain ⟨hty, h⟩ := h
    have hdesc := (hT t td hdd).desc
    split at h
    · rename_i k hk
      rw [hk] at hdesc
      have h := of_decide_eq_true h
      subst h
      simp only [Value.okWide, hdesc.1, Cell.okWide, Cell.ok] at hv
      cases v <;> simp_all [VR, Ty.agg, Value.cells, Value.oneCell']
    · rename_i hk
      rw [hk] at hdesc
      have h := of_decide_eq_true h
      subst h
      simp only [Value.okWide, hdesc.1, Cell.okWide, Cell.ok] at hv
      cases v <;> simp_all [VR, Ty.agg, Value.cells, Value.oneCell']
    · rename_i hk
      rw [hk] at hdesc
      have h := of_decide_eq_true h
      subst h
      simp only [Value.okWide, hdesc.1, Cell.okWide, Cell.ok] at hv
      cases v <;> simp_all [VR, Ty.agg, Value.cells, Value.oneCell']
    · rename_i e hk
      rw [hk] at hdesc
      cases ty <;> simp only [Bool.false_eq_true] at h
      simp only [Value.okWide, hdesc, Cell.okWide, Cell.ok] at hv
      cases v <;> simp_all [VR, Ty.agg, Value.cells, Value.oneCell']
    · rename_i m e hk
      rw [hk] at hdesc
      cases ty <;> simp only [Bool.false_eq_true] at h
      simp only [Value.okWide, hdesc] at hv
      obtain ⟨cs, rfl, _⟩ := hv
      simp [VR, Ty.agg, Value.cells]
    · rename_i fs hk
      rw [hk] at hdesc
      obtain ⟨f, hf1, hf2⟩ := hdesc
      cases ty <;> simp only [Bool.false_eq_true] at h
      simp only [Value.okWide, hf1] at hv
      obtain ⟨cs, rfl, _⟩ := hv
      simp [VR, Ty.agg, Value.cells]
    · cases h

def rdAll (TT : Tab) (n : Nat) : List TypeId → List (Ty × Md) → Bool
  | [], [] => true
  | t :: ts, p :: ps => rdOk TT n t p.1 && decide (p.2 = .ro) && rdAll TT n ts ps
  | _, _ => false

def WfA : (ps : List (Ty × Md)) → (tupT ps).T → Prop
  | [], _ => True
  | p :: ps, x => WfT p.1 x.1 ∧ WfA ps x.2

theorem args_wf {F : BSet} : ∀ {ps : List (Ty × Md)} {x : (tupT ps).T} {vs : List Value} {S : BSet}, Args F w ps x vs S → WfA ps x := by
  intro ps
  induction ps with
  | nil => intro x vs S _; trivial
  | cons p ps ih =>
    rintro x vs S ⟨v, vs', cs, S1, S2, rfl, h1, h2, h3, _⟩
    exact ⟨rep_wf _ _ _ _ _ h1, ih h3⟩

theorem args_of {TT : Tab} (hT : TabOk P TT) {n : Nat} {r : Reach} {base : Nat} {spare : Nat → Bool} {held : Bool} : ∀ (ts : List TypeId) (ps : List (Ty × Md)) (vs : List Value) (ds : List (DataW H)) (pl : List MemPlace), rdAll TT n ts ps = true → DataW.TrodAll enc P w 0 spare held ts vs ds pl →
    (∀ (j : Nat) t v, ts[j]? = some t → vs[j]? = some v → Value.okWide P w r base t v) → ∃ x, Args (LtB w) w ps x vs BSet.none := by
  intro ts
  induction ts with
  | nil =>
    intro ps vs ds pl h hA _
    cases ps <;> simp only [rdAll, Bool.false_eq_true] at h
    obtain ⟨rfl, _⟩ := trodAll_nil hA
    exact ⟨(), rfl⟩
  | cons t ts ih =>
    intro ps vs ds pl h hA hv
    cases ps with
    | nil => cases h
    | cons p ps =>
      simp only [rdAll, Bool.and_eq_true, decide_eq_true_eq] at h
      obtain ⟨⟨h1, h2⟩, h3⟩ := h
      obtain ⟨v, vs1, d, ds1, a, b, rfl, rfl, rfl, ⟨fuel, g1⟩, g2⟩ := trodAll_cons hA
      obtain ⟨x, hx⟩ := trod_rep hT n t p.1 h1 fuel _ _ g1
      obtain ⟨y, hy⟩ := ih ps vs1 ds1 b h3 g2 (fun j t v ht hv' => hv (j + 1) t v (by simpa using ht) (by simpa using hv'))
      rw [← h2] at hx
      exact ⟨(x, y), v, vs1, _, BSet.none, BSet.none, rfl, hx, okWide_vr hT h1 (hv 0 t v rfl rfl), hy, Sub.refl _, Sub.refl _, fun _ h => h.elim⟩

theorem Fr.below {w' : World} (h : Fr w BSet.none w') : Below w.heap.size w w' := ⟨h.os, h.tape, h.output, h.size, fun k hk => h.block k hk (fun h => h)⟩

/-- A law: what its function computes is 'true', whatever it is handed. -/
theorem law_calls {TT : Tab} (hT : TabOk P TT) {n : Nat} {f : FuncId} {ps : List (Ty × Md)} {den : (tupT ps).T → Option ((tupT [(Ty.bool, Md.ro)]).T × (tupT []).T)} (hf : FnOk P f ⟨ps, [(.bool, .ro)], [], [], den⟩)
    (all : ∀ x, WfA ps x → den x = some ((true, ()), ())) {r : Reach} {base : Nat} {ts : List TypeId} {args : Array Value} {ds : List (DataW H)} {pl : List MemPlace} {held : Bool} {spare : Nat → Bool} (hr : rdAll TT n ts ps = true) (hA : DataW.TrodAll enc P w 0 spare held ts args.toList ds pl)
    (hv : ∀ (j : Nat) t v, ts[j]? = some t → args[j]? = some v → Value.okWide P w r base t v) (hG : Gh (LtB w) w) : Calls P f args w fun e w' => e = .returned (.bool true) ∧ Below w.heap.size w w' := by
  obtain ⟨x, hx⟩ := args_of hT ts ps args.toList ds pl hr hA (fun j t v h1 h2 => hv j t v h1 (by simpa using h2))
  have := hf x _ (all x (args_wf hx)) (LtB w) w BSet.none args.toList hx (fun _ h => h.elim) (fun _ h => h) (fun _ h => h.elim) hG
  refine Calls.mono (by simpa using this) fun e w' hp => ?_
  cases e with
  | panicked _ => exact hp.elim
  | outgrown => exact hp.elim
  | returned v =>
    obtain ⟨ws, F', Sr, Sm, hrv, ⟨v1, r1, cs, S1, S2, rfl, h1, h2, h3, _⟩, _, _, fr, _⟩ := hp
    cases h3
    simp only [Rep] at h1
    subst h1
    simp only [VR, Ty.agg, Bool.false_eq_true, if_false] at h2
    obtain ⟨h2, _⟩ := h2
    simp only [List.cons.injEq, and_true] at h2
    subst h2
    simp only [RetV, retV] at hrv
    exact ⟨by rw [hrv], fr.below⟩

theorem trodAll_len : ∀ (ts : List TypeId) (vs : List Value) (ds : List (DataW H)) (ps : List MemPlace) {spare : Nat → Bool} {held : Bool}, DataW.TrodAll enc P w 0 spare held ts vs ds ps → ds.length = ts.length := by
  intro ts
  induction ts with
  | nil => intro vs ds ps _ _ h; obtain ⟨rfl, rfl, rfl⟩ := trodAll_nil h; rfl
  | cons t ts ih =>
    intro vs ds ps _ _ h
    obtain ⟨v, vs1, d, ds1, a, b, rfl, rfl, rfl, h1, h2⟩ := trodAll_cons h
    simp [ih vs1 ds1 b h2]

theorem trodAll_stays (hl : laidOutB P = true) {w' : World} (hb : Below w.heap.size w w') : ∀ (ts : List TypeId) (vs : List Value) (ds : List (DataW H)) (ps : List MemPlace), (ts.all fun t => P.readableRec t && decide (t < P.types.size)) = true → DataW.TrodAll enc P w 0 (fun _ => true) true ts vs ds ps → (∀ x ∈ ps, x.block < w.heap.size) →
    DataW.TrodAll enc P w' 0 (fun b => decide (b < w.heap.size)) true ts vs ds ps := by
  intro ts
  induction ts with
  | nil => intro vs ds ps _ h _; obtain ⟨rfl, rfl, rfl⟩ := trodAll_nil h; exact rfl
  | cons t ts ih =>
    intro vs ds ps ha h hlt
    simp only [List.all_cons, Bool.and_eq_true, decide_eq_true_eq] at ha
    obtain ⟨v, vs1, d, ds1, a, b, rfl, rfl, rfl, h1, h2⟩ := trodAll_cons h
    exact ⟨a, b, Below.trod hl ha.1.1 ha.1.2 h1 hb (fun x hx => hlt x (by simp [hx])), ih vs1 ds1 b (by simpa using ha.2) h2 (fun x hx => hlt x (by simp [hx])), rfl⟩

theorem law_post (hl : laidOutB P = true) {fn : Func} {s : ChangeSpec} {args : Array Value} {ds gs : List (DataW H)} {before : List MemPlace} {w' : World} (hv : s.vars = []) (hrt : ∃ t, fn.resultTypes = #[t] ∧ P.underlying t = some .bool)
    (hfn : ∀ ds : List (DataW H), ds.length = fn.params.size → s.fn H ds = { results := [.lit (.bool true)], args := ds }) (hrd : (fn.params.toList.all fun t => P.readableRec t && decide (t < P.types.size)) = true)
    (hW : DataW.Whole enc P fn.params.toList s.vars false w args.toList ds gs before) (hb : Below w.heap.size w w') : s.post enc P fn false true false false w args (.bool true) w' := by
  have hW' := hW
  obtain ⟨p, q, hA, hV, rfl, hfz, _⟩ := hW
  rw [hv] at hV
  obtain ⟨rfl, rfl⟩ := trodVars_none hV
  have hlen := trodAll_len _ _ _ _ hA
  have hf : s.fn H (ds ++ []) = { results := [.lit (.bool true)], args := ds } := by rw [List.append_nil]; exact hfn ds (by simpa using hlen)
  obtain ⟨t, hrt, htb⟩ := hrt
  have hlt : ∀ x ∈ p, x.block < w.heap.size := fun x hx => by simpa using hW'.lt x (by simpa using hx)
  refine ⟨ds, [], p ++ [], [], p, [], hW', ?_, ?_, ?_, ?_, fun h => by cases h⟩
  · rw [hf, hrt]
    exact trodAll_mk1 (shut_bool htb true)
  · rw [hf]
    exact trodAll_stays hl hb _ _ _ _ hrd hA hlt
  · rw [hv, hf]; exact rfl
  · exact World.keptBut_mono (fun x hx => hx) (hb.frame _)
end
end Go.Proofs.YtgonfcjdhbjkcaaDoor.Rf
