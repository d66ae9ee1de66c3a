/- Layer 0 of the frame: pure types, what they mean in memory ('Rep'), and what keeps that meaning. -/
import Derived.Below
import Derived.Calls
import Derived.Orders
import Derived.Laws.IdiomCopy
import Derived.Laws.Cells
import Derived.Laws.Entries
import Derived.Deep.AppendSrc
import Derived.Laws.StructEq
import Derived.Laws.Small
set_option linter.unusedVariables false
set_option linter.unusedSimpArgs false
namespace Go.Proofs.YtgonfcjdhbjkcaaDoor.Rf
open Go

/-- Pure types. -/
inductive Ty where
  | int (k : IntKind)
  | bool
  | str
  | unit
  | pair (a b : Ty)
  | st (t : Ty)
  | sl (t : Ty)
  | arr (n : Nat) (t : Ty)
  | box (t : Ty)
  | ptr (t : Ty)
  | junk
  | hol (t : Ty)
  | may (t : Ty)
  | chan
  | fn (f : Nat)
  deriving DecidableEq, Inhabited

/-- What is owned: 'own e': the row (or the box) and what its elements say; 'ro': read alone. -/
inductive Md where
  | ro
  | own (e : Md)
  | pr (a b : Md)
  deriving DecidableEq, Inhabited

def Md.fst : Md → Md
  | .pr a _ => a
  | _ => .ro
def Md.snd : Md → Md
  | .pr _ b => b
  | _ => .ro
def Md.el : Md → Md
  | .own e => e
  | _ => .ro

@[reducible] def Ty.T : Ty → Type
  | .int _ => Int
  | .bool => Bool
  | .str => List Int
  | .unit => Unit
  | .pair a b => a.T × b.T
  | .st t => t.T
  | .sl t => List t.T
  | .arr _ t => List t.T
  | .box t => t.T
  | .ptr t => Option t.T
  | .junk => Unit
  | .hol t => List t.T × Nat
  | .may t => Option t.T
  | .chan => Nat × List Int
  | .fn _ => Unit

def Ty.width : Ty → Nat
  | .unit => 0
  | .pair a b => a.width + b.width
  | .st t => t.width
  | .arr n t => n * t.width
  | _ => 1

/-- No row and no pointer within. -/
def Ty.flat : Ty → Bool
  | .pair a b => a.flat && b.flat
  | .st t => t.flat
  | .arr _ t => t.flat
  | .sl _ | .box _ | .ptr _ | .hol _ | .may _ | .chan => false
  | _ => true

/-- Is the value an aggregate? -/
def Ty.agg : Ty → Bool
  | .st _ | .arr _ _ => true
  | _ => false

def kLo : IntKind → Int
  | .i8 => -128
  | .i16 => -32768
  | .i32 => -2147483648
  | .i64 => -9223372036854775808
  | _ => 0
def kHi : IntKind → Int
  | .i8 => 127
  | .i16 => 32767
  | .i32 => 2147483647
  | .i64 => 9223372036854775807
  | .u8 => 255
  | .u16 => 65535
  | .u32 => 4294967295
  | .u64 => 18446744073709551615
def inK (k : IntKind) (n : Int) : Prop := kLo k ≤ n ∧ n ≤ kHi k

theorem inK_wrap (k : IntKind) (n : Int) : inK k (k.wrap n) := by
  cases k <;> simp [inK, kLo, kHi, IntKind.wrap, IntKind.bits, IntKind.signed] <;> (try split) <;> omega
theorem wrap_inK {k : IntKind} {n : Int} (h : inK k n) : k.wrap n = n := by
  obtain ⟨h1, h2⟩ := h
  cases k <;> simp [kLo, kHi] at h1 h2 <;> simp [IntKind.wrap, IntKind.bits, IntKind.signed] <;> (try split) <;> omega

/-- A string's bytes. -/
def sbytes (u : ByteArray) : List Int := u.data.toList.map fun b => (b.toNat : Int)

abbrev BSet := Nat → Prop
def BSet.none : BSet := fun _ => False
def BSet.or (A B : BSet) : BSet := fun k => A k ∨ B k
def Dis (A B : BSet) : Prop := ∀ k, A k → B k → False
def Sub (A B : BSet) : Prop := ∀ k, A k → B k
theorem Sub.refl (A : BSet) : Sub A A := fun _ h => h
theorem Sub.trans {A B C : BSet} (h : Sub A B) (k : Sub B C) : Sub A C := fun x hx => k x (h x hx)
theorem Dis.symm {A B : BSet} (h : Dis A B) : Dis B A := fun k a b => h k b a
theorem Dis.mono {A B A' B' : BSet} (h : Dis A B) (ha : Sub A' A) (hb : Sub B' B) : Dis A' B' := fun k a b => h k (ha k a) (hb k b)
theorem Dis.none (A : BSet) : Dis A BSet.none := fun _ _ h => h

/-- What lies at an address. -/
def At (w : World) (a : Addr) (ds : List Value) : Prop := ∀ j v, ds[j]? = some v → w.cell? (a.add j) = some v

/-- A row of elements, one behind the other. -/
def RepL {α : Type} (R : α → List Value → BSet → Prop) : List α → List Value → BSet → Prop
  | [], cs, _ => cs = []
  | y :: ys, cs, S => ∃ c1 c2 S1 S2, cs = c1 ++ c2 ∧ R y c1 S1 ∧ RepL R ys c2 S2 ∧ Sub S1 S ∧ Sub S2 S ∧ Dis S1 S2

/-- A row's own words: its element's type, and which of its cells may not be written: none. -/
structure Mark (n : Nat) where
  t : TypeId
  a : Nat
  b : Nat
  ok : ∀ j, j < n → ¬ (a ≤ j ∧ j < b)
def Mark.free (n : Nat) (t : TypeId) : Mark n := ⟨t, 0, 0, fun j _ h => by omega⟩
def Mark.to {n m : Nat} (e : Mark n) (h : m ≤ n) : Mark m := ⟨e.t, e.a, e.b, fun j hj => e.ok j (Nat.lt_of_lt_of_le hj h)⟩
theorem Mark.frz {w : World} {b : Nat} {c : Array Value} {e : Mark c.size} (hb : w.heap[b]? = some (.cells c e.t (e.a, e.b))) {a : Addr} (ha : a.block = b) (hj : a.off < c.size) : w.frozen? a = false := by
  have h := e.ok a.off hj
  simp only [World.frozen?, ha, hb]
  rcases Nat.lt_or_ge a.off e.a with h1 | h1
  · have : decide (e.a ≤ a.off) = false := decide_eq_false (by omega)
    simp [this]
  · have : decide (a.off < e.b) = false := decide_eq_false (fun h2 => h ⟨h1, h2⟩)
    simp [this]

def OwnSl (w : World) (sz : Nat) {α : Type} (R : α → List Value → BSet → Prop) (x : List α) (cs : List Value) (S : BSet) : Prop :=
  ∃ a cap, cs = [.slice a x.length cap] ∧ x.length ≤ cap ∧ cap ≤ maxLen ∧
    (cap = 0 ∨ ∃ (b off : Nat) (c : Array Value) (e : Mark c.size), a = some ⟨b, off, none⟩ ∧ w.heap[b]? = some (.cells c e.t (e.a, e.b)) ∧ off + cap * sz ≤ c.size ∧ S b ∧
      ∃ S', RepL R x ((c.toList.drop off).take (x.length * sz)) S' ∧ Sub S' S ∧ ¬ S' b)
def RoSl (F : BSet) (w : World) {α : Type} (R : α → List Value → BSet → Prop) (x : List α) (cs : List Value) : Prop :=
  ∃ a cap, cs = [.slice a x.length cap] ∧ x.length ≤ cap ∧ cap ≤ maxLen ∧
    (0 < x.length → ∃ ad, a = some ad ∧ F ad.block ∧ ∃ ds, At w ad ds ∧ RepL R x ds BSet.none)
def OwnBox (w : World) {α : Type} (R : α → List Value → BSet → Prop) (x : α) (cs : List Value) (S : BSet) : Prop :=
  ∃ (b : Nat) (c : Array Value) (e : Mark c.size), cs = [.pointer (some ⟨b, 0, none⟩)] ∧ w.heap[b]? = some (.cells c e.t (e.a, e.b)) ∧ S b ∧ ∃ S', R x c.toList S' ∧ Sub S' S ∧ ¬ S' b
def RoBox (F : BSet) (w : World) {α : Type} (R : α → List Value → BSet → Prop) (x : α) (cs : List Value) : Prop :=
  ∃ ad, cs = [.pointer (some ad)] ∧ F ad.block ∧ ∃ ds, At w ad ds ∧ R x ds BSet.none

/-- A row of which one element is anything. -/
def holed {α : Type} (x : List α) (j : Nat) : List (Option α) := (x.map some).set j none
def Ropt {α : Type} (R : α → List Value → BSet → Prop) : Option α → List Value → BSet → Prop
  | some y, c, S => R y c S ∧ c.length = 1
  | none, c, _ => ∃ z : Value, c = [z] ∧ z.oneCell' = true

/-- THE MEANING: cells cs, in a world, are x; all that it owns lies in S; what is read alone lies in F. -/
def Rep (F : BSet) (w : World) : (t : Ty) → Md → t.T → List Value → BSet → Prop
  | .int k, _, n, cs, _ => cs = [.int k n] ∧ inK k n
  | .bool, _, b, cs, _ => cs = [.bool b]
  | .str, _, s, cs, _ => ∃ u : ByteArray, cs = [.string u] ∧ s = sbytes u ∧ u.size ≤ maxLen
  | .unit, _, _, cs, _ => cs = []
  | .pair a b, m, x, cs, S => ∃ c1 c2 S1 S2, cs = c1 ++ c2 ∧ Rep F w a m.fst x.1 c1 S1 ∧ Rep F w b m.snd x.2 c2 S2 ∧ Sub S1 S ∧ Sub S2 S ∧ Dis S1 S2
  | .st t, m, x, cs, S => Rep F w t m x cs S
  | .sl t, .own m, x, cs, S => OwnSl w t.width (Rep F w t m) x cs S
  | .sl t, .ro, x, cs, _ => RoSl F w (Rep F w t .ro) x cs
  | .sl t, .pr _ _, x, cs, _ => RoSl F w (Rep F w t .ro) x cs
  | .arr n t, m, x, cs, S => x.length = n ∧ RepL (Rep F w t m.el) x cs S
  | .box t, .own m, x, cs, S => OwnBox w (Rep F w t m) x cs S
  | .box t, .ro, x, cs, _ => RoBox F w (Rep F w t .ro) x cs
  | .box t, .pr _ _, x, cs, _ => RoBox F w (Rep F w t .ro) x cs
  | .ptr _, _, none, cs, _ => cs = [.pointer none]
  | .ptr t, .own m, some x, cs, S => OwnBox w (Rep F w t m) x cs S
  | .ptr t, .ro, some x, cs, _ => RoBox F w (Rep F w t .ro) x cs
  | .ptr t, .pr _ _, some x, cs, _ => RoBox F w (Rep F w t .ro) x cs
  | .junk, _, _, cs, _ => ∃ z : Value, cs = [z] ∧ z.oneCell' = true
  | .may t, m, x, cs, S => Ropt (Rep F w t m) x cs S
  | .hol t, .own m, x, cs, S => x.2 < x.1.length ∧ OwnSl w 1 (Ropt (Rep F w t m)) (holed x.1 x.2) cs S
  | .hol _, .ro, _, cs, _ => ∃ z : Value, cs = [z] ∧ z.oneCell' = true
  | .hol _, .pr _ _, _, cs, _ => ∃ z : Value, cs = [z] ∧ z.oneCell' = true
  | .chan, .own _, x, cs, S => ∃ (b : Nat) (buf : Array Value) (s r : Nat), cs = [.chan (some b)] ∧ w.heap[b]? = some (.chan x.1 buf false s r false) ∧ buf.toList = x.2.map (fun n => .int .i64 n) ∧ ((∀ n ∈ x.2, inK .i64 n) ∧ x.2.length ≤ x.1 ∧ x.1 ≤ maxLen) ∧ S b
  | .chan, .ro, _, cs, _ => ∃ z : Value, cs = [z] ∧ z.oneCell' = true
  | .chan, .pr _ _, _, cs, _ => ∃ z : Value, cs = [z] ∧ z.oneCell' = true
  | .fn f, _, _, cs, _ => cs = [.func (.func f) #[] #[]]

/-! ### Rows -/
section
variable {α : Type} {R R' : α → List Value → BSet → Prop}
theorem RepL.mono {x : List α} : ∀ {cs : List Value} {S S' : BSet}, RepL R x cs S → Sub S S' → RepL R x cs S' := by
  induction x with
  | nil => intro cs S S' h _; exact h
  | cons y ys ih =>
    rintro cs S S' ⟨c1, c2, S1, S2, rfl, h1, h2, s1, s2, d⟩ hs
    exact ⟨c1, c2, S1, S2, rfl, h1, h2, s1.trans hs, s2.trans hs, d⟩
theorem RepL.imp {x : List α} : ∀ {cs : List Value} {S : BSet}, (∀ y ∈ x, ∀ c T, Sub T S → R y c T → R' y c T) → RepL R x cs S → RepL R' x cs S := by
  induction x with
  | nil => intro cs S _ h; exact h
  | cons y ys ih =>
    rintro cs S hi ⟨c1, c2, S1, S2, rfl, h1, h2, s1, s2, d⟩
    exact ⟨c1, c2, S1, S2, rfl, hi y (by simp) _ _ s1 h1, ih (fun z hz c T hT hr => hi z (by simp [hz]) c T (hT.trans s2) hr) h2, s1, s2, d⟩
theorem RepL.nil {S : BSet} : RepL R [] [] S := rfl
theorem RepL.len {sz : Nat} (hw : ∀ y c S, R y c S → c.length = sz) : ∀ {x : List α} {cs : List Value} {S : BSet}, RepL R x cs S → cs.length = x.length * sz := by
  intro x
  induction x with
  | nil => intro cs S h; cases h; simp
  | cons y ys ih =>
    rintro cs S ⟨c1, c2, S1, S2, rfl, h1, h2, _, _, _⟩
    rw [List.length_append, hw _ _ _ h1, ih h2, List.length_cons, Nat.add_mul, Nat.one_mul, Nat.add_comm]
theorem RepL.append {x y : List α} : ∀ {cs ds : List Value} {S T : BSet}, RepL R x cs S → RepL R y ds T → Dis S T → RepL R (x ++ y) (cs ++ ds) (S.or T) := by
  induction x with
  | nil => rintro cs ds S T h hy _; cases h; exact hy.mono (fun k h => .inr h)
  | cons z zs ih =>
    rintro cs ds S T ⟨c1, c2, S1, S2, rfl, h1, h2, s1, s2, d⟩ hy hd
    refine ⟨c1, c2 ++ ds, S1, S2.or T, by simp, h1, ih h2 hy (hd.mono s2 (Sub.refl _)), fun k h => .inl (s1 k h), fun k h => h.imp (s2 k) id, fun k a b => ?_⟩
    exact b.elim (fun b => d k a b) (fun b => hd k (s1 k a) b)
theorem RepL.split {x y : List α} : ∀ {cs : List Value} {S : BSet}, RepL R (x ++ y) cs S → ∃ c1 c2 S1 S2, cs = c1 ++ c2 ∧ RepL R x c1 S1 ∧ RepL R y c2 S2 ∧ Sub S1 S ∧ Sub S2 S ∧ Dis S1 S2 := by
  induction x with
  | nil => intro cs S h; exact ⟨[], cs, BSet.none, S, rfl, rfl, h, fun _ h => h.elim, Sub.refl _, fun _ h => h.elim⟩
  | cons z zs ih =>
    rintro cs S ⟨c1, c2, S1, S2, rfl, h1, h2, s1, s2, d⟩
    obtain ⟨d1, d2, T1, T2, rfl, k1, k2, t1, t2, e⟩ := ih h2
    refine ⟨c1 ++ d1, d2, S1.or T1, T2, by simp, ⟨c1, d1, S1, T1, rfl, h1, k1, fun k h => .inl h, fun k h => .inr h, d.mono (Sub.refl _) t1⟩, k2, fun k h => h.elim (s1 k) (fun h => s2 k (t1 k h)), t2.trans s2, fun k a b => ?_⟩
    exact a.elim (fun a => d k a (t2 k b)) (fun a => e k a b)
end

theorem rep_width (F : BSet) (w : World) : ∀ (t : Ty) (m : Md) (x : t.T) (cs : List Value) (S : BSet), Rep F w t m x cs S → cs.length = t.width := by
  intro t
  induction t with
  | int k => rintro m x cs S ⟨rfl, _⟩; rfl
  | bool => rintro m x cs S rfl; rfl
  | str => rintro m x cs S ⟨u, rfl, _⟩; rfl
  | unit => rintro m x cs S rfl; rfl
  | junk => rintro m x cs S ⟨z, rfl, _⟩; rfl
  | fn f => rintro m x cs S rfl; rfl
  | chan =>
    intro m x cs S h
    cases m with
    | own m => obtain ⟨b, buf, s, r, rfl, _⟩ := h; rfl
    | ro => obtain ⟨z, rfl, _⟩ := h; rfl
    | pr _ _ => obtain ⟨z, rfl, _⟩ := h; rfl
  | hol t ih =>
    intro m x cs S h
    cases m with
    | own m => obtain ⟨_, a, cap, rfl, _⟩ := h; rfl
    | ro => obtain ⟨z, rfl, _⟩ := h; rfl
    | pr _ _ => obtain ⟨z, rfl, _⟩ := h; rfl
  | may t ih =>
    intro m x cs S h
    cases x with
    | none => obtain ⟨z, rfl, _⟩ := h; rfl
    | some x => exact h.2
  | pair a b iha ihb => rintro m x cs S ⟨c1, c2, S1, S2, rfl, h1, h2, _⟩; simp [Ty.width, iha _ _ _ _ h1, ihb _ _ _ _ h2]
  | st t ih => intro m x cs S h; exact ih m x cs S h
  | sl t ih =>
    intro m x cs S h
    cases m with
    | own m => obtain ⟨a, cap, rfl, _⟩ := h; rfl
    | ro => obtain ⟨a, cap, rfl, _⟩ := h; rfl
    | pr _ _ => obtain ⟨a, cap, rfl, _⟩ := h; rfl
  | arr n t ih =>
    rintro m x cs S ⟨hn, h⟩
    simp only [Ty.width]
    rw [RepL.len (fun y c S h => ih m.el y c S h) h, hn]
  | box t ih =>
    intro m x cs S h
    cases m with
    | own m => obtain ⟨b, c, e, rfl, _⟩ := h; rfl
    | ro => obtain ⟨a, rfl, _⟩ := h; rfl
    | pr _ _ => obtain ⟨a, rfl, _⟩ := h; rfl
  | ptr t ih =>
    intro m x cs S h
    cases x with
    | none => simp only [Rep] at h; subst h; rfl
    | some x =>
      cases m with
      | own m => obtain ⟨b, c, e, rfl, _⟩ := h; rfl
      | ro => obtain ⟨a, rfl, _⟩ := h; rfl
      | pr _ _ => obtain ⟨a, rfl, _⟩ := h; rfl

theorem cell_congr {w w' : World} {a : Addr} (h : w'.heap[a.block]? = w.heap[a.block]?) : w'.cell? a = w.cell? a := by simp [World.cell?, h]
theorem add_block (a : Addr) (n : Nat) : (a.add n).block = a.block := by unfold Addr.add; split <;> rfl
theorem At.congr {w w' : World} {a : Addr} {ds : List Value} (h : At w a ds) (hb : w'.heap[a.block]? = w.heap[a.block]?) : At w' a ds := by
  intro j v hj
  exact (cell_congr (a := a.add j) (by rw [add_block]; exact hb)).trans (h j v hj)

/-- The same elsewhere, and more that is read alone. -/
theorem rep_frame {F F' : BSet} {w w' : World} (hF : Sub F F') (hFw : ∀ k, F k → w'.heap[k]? = w.heap[k]?) :
    ∀ (t : Ty) (m : Md) (x : t.T) (cs : List Value) (S S' : BSet), Rep F w t m x cs S → Sub S S' → (∀ k, S k → w'.heap[k]? = w.heap[k]?) → Rep F' w' t m x cs S' := by
  intro t
  induction t with
  | int k => intro m x cs S S' h _ _; exact h
  | bool => intro m x cs S S' h _ _; exact h
  | str => intro m x cs S S' h _ _; exact h
  | unit => intro m x cs S S' h _ _; exact h
  | junk => intro m x cs S S' h _ _; exact h
  | fn f => intro m x cs S S' h _ _; exact h
  | chan =>
    intro m x cs S S' h hs hw
    cases m with
    | ro => exact h
    | pr _ _ => exact h
    | own m =>
      obtain ⟨b, buf, s, r, rfl, hb, h1, h2, hS⟩ := h
      exact ⟨b, buf, s, r, rfl, (hw b hS).trans hb, h1, h2, hs _ hS⟩
  | hol t ih =>
    intro m x cs S S' h hs hw
    cases m with
    | ro => exact h
    | pr _ _ => exact h
    | own m =>
      obtain ⟨hj, a, cap, rfl, h1, h2, h3⟩ := h
      refine ⟨hj, a, cap, rfl, h1, h2, h3.imp id ?_⟩
      rintro ⟨b, off, c, e, rfl, hb, hc, hS, S1, hr, s1, n1⟩
      exact ⟨b, off, c, e, rfl, (hw b hS).trans hb, hc, hs _ hS, S1, RepL.imp (fun y _ c T hT hr => by
        cases y with
        | none => exact hr
        | some y => exact ⟨ih m y c T T hr.1 (Sub.refl _) (fun k hk => hw k (s1 k (hT k hk))), hr.2⟩) hr, s1.trans hs, n1⟩
  | may t ih =>
    intro m x cs S S' h hs hw
    cases x with
    | none => exact h
    | some x => exact ⟨ih m x cs S S' h.1 hs hw, h.2⟩
  | pair a b iha ihb =>
    rintro m x cs S S' ⟨c1, c2, S1, S2, rfl, h1, h2, s1, s2, d⟩ hs hw
    exact ⟨c1, c2, S1, S2, rfl, iha _ _ _ _ _ h1 (Sub.refl _) (fun k h => hw k (s1 k h)), ihb _ _ _ _ _ h2 (Sub.refl _) (fun k h => hw k (s2 k h)), s1.trans hs, s2.trans hs, d⟩
  | st t ih => intro m x cs S S' h hs hw; exact ih m x cs S S' h hs hw
  | arr n t ih =>
    rintro m x cs S S' ⟨hn, h⟩ hs hw
    exact ⟨hn, (RepL.imp (fun y _ c T hT hr => ih m.el y c T T hr (Sub.refl _) (fun k hk => hw k (hT k hk))) h).mono hs⟩
  | sl t ih =>
    have ro : ∀ (x : List t.T) (cs : List Value), RoSl F w (Rep F w t .ro) x cs → RoSl F' w' (Rep F' w' t .ro) x cs := by
      rintro x cs ⟨a, cap, rfl, h1, h2, h3⟩
      refine ⟨a, cap, rfl, h1, h2, fun hp => ?_⟩
      obtain ⟨ad, rfl, hf, ds, hat, hr⟩ := h3 hp
      exact ⟨ad, rfl, hF _ hf, ds, hat.congr (hFw _ hf), RepL.imp (fun y _ c T hT hr => ih .ro y c T T hr (Sub.refl _) (fun k hk => (hT k hk).elim)) hr⟩
    intro m x cs S S' h hs hw
    cases m with
    | ro => exact ro x cs h
    | pr _ _ => exact ro x cs h
    | own m =>
      obtain ⟨a, cap, rfl, h1, h2, h3⟩ := h
      refine ⟨a, cap, rfl, h1, h2, h3.imp id ?_⟩
      rintro ⟨b, off, c, e, rfl, hb, hc, hS, S1, hr, s1, n1⟩
      exact ⟨b, off, c, e, rfl, (hw b hS).trans hb, hc, hs _ hS, S1, RepL.imp (fun y _ c T hT hr => ih m y c T T hr (Sub.refl _) (fun k hk => hw k (s1 k (hT k hk)))) hr, s1.trans hs, n1⟩
  | box t ih =>
    intro m x cs S S' h hs hw
    cases m with
    | own m =>
      obtain ⟨b, c, e, rfl, hb, hS, S1, hr, s1, n1⟩ := h
      exact ⟨b, c, e, rfl, (hw b hS).trans hb, hs _ hS, S1, ih m x _ _ _ hr (Sub.refl _) (fun k hk => hw k (s1 k hk)), s1.trans hs, n1⟩
    | ro =>
      obtain ⟨ad, rfl, hf, ds, hat, hr⟩ := h
      exact ⟨ad, rfl, hF _ hf, ds, hat.congr (hFw _ hf), ih .ro x _ _ _ hr (Sub.refl _) (fun k hk => hk.elim)⟩
    | pr _ _ =>
      obtain ⟨ad, rfl, hf, ds, hat, hr⟩ := h
      exact ⟨ad, rfl, hF _ hf, ds, hat.congr (hFw _ hf), ih .ro x _ _ _ hr (Sub.refl _) (fun k hk => hk.elim)⟩
  | ptr t ih =>
    intro m x cs S S' h hs hw
    cases x with
    | none => cases m <;> exact h
    | some x =>
    cases m with
    | own m =>
      obtain ⟨b, c, e, rfl, hb, hS, S1, hr, s1, n1⟩ := h
      exact ⟨b, c, e, rfl, (hw b hS).trans hb, hs _ hS, S1, ih m x _ _ _ hr (Sub.refl _) (fun k hk => hw k (s1 k hk)), s1.trans hs, n1⟩
    | ro =>
      obtain ⟨ad, rfl, hf, ds, hat, hr⟩ := h
      exact ⟨ad, rfl, hF _ hf, ds, hat.congr (hFw _ hf), ih .ro x _ _ _ hr (Sub.refl _) (fun k hk => hk.elim)⟩
    | pr _ _ =>
      obtain ⟨ad, rfl, hf, ds, hat, hr⟩ := h
      exact ⟨ad, rfl, hF _ hf, ds, hat.congr (hFw _ hf), ih .ro x _ _ _ hr (Sub.refl _) (fun k hk => hk.elim)⟩

theorem rep_mono {F : BSet} {w : World} {t : Ty} {m : Md} {x : t.T} {cs : List Value} {S S' : BSet} (h : Rep F w t m x cs S) (hs : Sub S S') : Rep F w t m x cs S' :=
  rep_frame (Sub.refl F) (fun _ _ => rfl) t m x cs S S' h hs (fun _ _ => rfl)

/-- Flat: no memory at all, whatever the words. -/
theorem rep_flat {F F' : BSet} {w w' : World} : ∀ (t : Ty), t.flat = true → ∀ (m m' : Md) (x : t.T) (cs : List Value) (S S' : BSet), Rep F w t m x cs S → Rep F' w' t m' x cs S' := by
  intro t
  induction t with
  | int k => intro _ m m' x cs S S' h; exact h
  | bool => intro _ m m' x cs S S' h; exact h
  | str => intro _ m m' x cs S S' h; exact h
  | unit => intro _ m m' x cs S S' h; exact h
  | junk => intro _ m m' x cs S S' h; exact h
  | fn f => intro _ m m' x cs S S' h; exact h
  | chan => intro hf; simp [Ty.flat] at hf
  | pair a b iha ihb =>
    rintro hf m m' x cs S S' ⟨c1, c2, S1, S2, rfl, h1, h2, s1, s2, d⟩
    simp [Ty.flat] at hf
    exact ⟨c1, c2, BSet.none, BSet.none, rfl, iha hf.1 _ _ _ _ _ _ h1, ihb hf.2 _ _ _ _ _ _ h2, fun _ h => h.elim, fun _ h => h.elim, fun _ h => h.elim⟩
  | st t ih => intro hf m m' x cs S S' h; exact ih hf m m' x cs S S' h
  | arr n t ih =>
    rintro hf m m' x cs S S' ⟨hn, h⟩
    refine ⟨hn, ?_⟩
    clear hn
    induction x generalizing cs S S' with
    | nil => exact h
    | cons y ys ihx =>
      obtain ⟨c1, c2, S1, S2, rfl, h1, h2, s1, s2, d⟩ := h
      exact ⟨c1, c2, BSet.none, BSet.none, rfl, ih hf _ _ _ _ _ _ h1, ihx _ _ _ h2, fun _ h => h.elim, fun _ h => h.elim, fun _ h => h.elim⟩
  | sl t ih => intro hf; simp [Ty.flat] at hf
  | box t ih => intro hf; simp [Ty.flat] at hf
  | ptr t ih => intro hf; simp [Ty.flat] at hf
  | hol t ih => intro hf; simp [Ty.flat] at hf
  | may t ih => intro hf; simp [Ty.flat] at hf
end Go.Proofs.YtgonfcjdhbjkcaaDoor.Rf
/- Layer 1: freezing; what needs no memory that is read alone; paths into values: reading and writing at a path. -/
set_option linter.unusedVariables false
set_option linter.unusedSimpArgs false
namespace Go.Proofs.YtgonfcjdhbjkcaaDoor.Rf
open Go

theorem rep_freeze {F F' : BSet} {w : World} (hF : Sub F F') : ∀ (t : Ty) (m : Md) (x : t.T) (cs : List Value) (S S' : BSet), Rep F w t m x cs S → Sub S F' → Rep F' w t .ro x cs S' := by
  intro t
  induction t with
  | int k => intro m x cs S S' h _; exact h
  | bool => intro m x cs S S' h _; exact h
  | str => intro m x cs S S' h _; exact h
  | unit => intro m x cs S S' h _; exact h
  | junk => intro m x cs S S' h _; exact h
  | fn f => intro m x cs S S' h _; exact h
  | chan =>
    intro m x cs S S' h _
    cases m with
    | ro => exact h
    | pr _ _ => exact h
    | own m => obtain ⟨b, buf, s, r, rfl, _⟩ := h; exact ⟨_, rfl, rfl⟩
  | hol t ih =>
    intro m x cs S S' h _
    cases m with
    | ro => exact h
    | pr _ _ => exact h
    | own m => obtain ⟨_, a, cap, rfl, _⟩ := h; exact ⟨_, rfl, rfl⟩
  | may t ih =>
    intro m x cs S S' h hs
    cases x with
    | none => exact h
    | some x => exact ⟨ih m x cs S S' h.1 hs, h.2⟩
  | pair a b iha ihb =>
    rintro m x cs S S' ⟨c1, c2, S1, S2, rfl, h1, h2, s1, s2, d⟩ hs
    exact ⟨c1, c2, BSet.none, BSet.none, rfl, iha _ _ _ _ _ h1 (s1.trans hs), ihb _ _ _ _ _ h2 (s2.trans hs), fun _ h => h.elim, fun _ h => h.elim, fun _ h => h.elim⟩
  | st t ih => intro m x cs S S' h hs; exact ih m x cs S S' h hs
  | arr n t ih =>
    rintro m x cs S S' ⟨hn, h⟩ hs
    refine ⟨hn, ?_⟩
    clear hn
    induction x generalizing cs S S' with
    | nil => exact h
    | cons y ys ihx =>
      obtain ⟨c1, c2, S1, S2, rfl, h1, h2, s1, s2, d⟩ := h
      exact ⟨c1, c2, BSet.none, BSet.none, rfl, ih _ _ _ _ _ h1 (s1.trans hs), ihx _ _ _ h2 (s2.trans hs), fun _ h => h.elim, fun _ h => h.elim, fun _ h => h.elim⟩
  | sl t ih =>
    have row : ∀ (m : Md) (x : List t.T) (cs : List Value) (S : BSet), RepL (Rep F w t m) x cs S → Sub S F' → RepL (Rep F' w t .ro) x cs BSet.none := by
      intro m x
      induction x with
      | nil => intro cs S h _; exact h
      | cons y ys ihx =>
        rintro cs S ⟨c1, c2, S1, S2, rfl, h1, h2, s1, s2, d⟩ hs
        exact ⟨c1, c2, BSet.none, BSet.none, rfl, ih _ _ _ _ _ h1 (s1.trans hs), ihx _ _ h2 (s2.trans hs), fun _ h => h.elim, fun _ h => h.elim, fun _ h => h.elim⟩
    intro m x cs S S' h hs
    cases m with
    | ro =>
      obtain ⟨a, cap, rfl, h1, h2, h3⟩ := h
      refine ⟨a, cap, rfl, h1, h2, fun hp => ?_⟩
      obtain ⟨ad, rfl, hf, ds, hat, hr⟩ := h3 hp
      exact ⟨ad, rfl, hF _ hf, ds, hat, row _ _ _ _ hr (fun _ h => h.elim)⟩
    | pr _ _ =>
      obtain ⟨a, cap, rfl, h1, h2, h3⟩ := h
      refine ⟨a, cap, rfl, h1, h2, fun hp => ?_⟩
      obtain ⟨ad, rfl, hf, ds, hat, hr⟩ := h3 hp
      exact ⟨ad, rfl, hF _ hf, ds, hat, row _ _ _ _ hr (fun _ h => h.elim)⟩
    | own m =>
      obtain ⟨a, cap, rfl, h1, h2, h3⟩ := h
      refine ⟨a, cap, rfl, h1, h2, fun hp => ?_⟩
      rcases h3 with rfl | ⟨b, off, c, e, rfl, hb, hc, hS, S1, hr, s1, n1⟩
      · omega
      · refine ⟨_, rfl, hs _ hS, _, ?_, row _ _ _ _ hr (s1.trans hs)⟩
        intro j v hj
        rw [List.getElem?_take] at hj
        split at hj
        · rw [List.getElem?_drop] at hj
          rw [Addr.add_lit]
          simp [World.cell?, hb]
          simpa using hj
        · cases hj
  | box t ih =>
    intro m x cs S S' h hs
    cases m with
    | ro =>
      obtain ⟨ad, rfl, hf, ds, hat, hr⟩ := h
      exact ⟨ad, rfl, hF _ hf, ds, hat, ih _ _ _ _ _ hr (fun _ h => h.elim)⟩
    | pr _ _ =>
      obtain ⟨ad, rfl, hf, ds, hat, hr⟩ := h
      exact ⟨ad, rfl, hF _ hf, ds, hat, ih _ _ _ _ _ hr (fun _ h => h.elim)⟩
    | own m =>
      obtain ⟨b, c, e, rfl, hb, hS, S1, hr, s1, n1⟩ := h
      refine ⟨_, rfl, hs _ hS, c.toList, ?_, ih _ _ _ _ _ hr (s1.trans hs)⟩
      intro j v hj
      rw [Addr.add_lit]
      simp [World.cell?, hb]
      simpa using hj
  | ptr t ih =>
    intro m x cs S S' h hs
    cases x with
    | none => cases m <;> exact h
    | some x =>
    cases m with
    | ro =>
      obtain ⟨ad, rfl, hf, ds, hat, hr⟩ := h
      exact ⟨ad, rfl, hF _ hf, ds, hat, ih _ _ _ _ _ hr (fun _ h => h.elim)⟩
    | pr _ _ =>
      obtain ⟨ad, rfl, hf, ds, hat, hr⟩ := h
      exact ⟨ad, rfl, hF _ hf, ds, hat, ih _ _ _ _ _ hr (fun _ h => h.elim)⟩
    | own m =>
      obtain ⟨b, c, e, rfl, hb, hS, S1, hr, s1, n1⟩ := h
      refine ⟨_, rfl, hs _ hS, c.toList, ?_, ih _ _ _ _ _ hr (s1.trans hs)⟩
      intro j v hj
      rw [Addr.add_lit]
      simp [World.cell?, hb]
      simpa using hj

/-- Nothing that is read alone lies within. -/
def closed : Ty → Md → Bool
  | .pair a b, m => closed a m.fst && closed b m.snd
  | .st t, m => closed t m
  | .arr _ t, m => closed t m.el
  | .sl t, .own e => closed t e
  | .sl _, _ => false
  | .box t, .own e => closed t e
  | .box _, _ => false
  | .ptr t, .own e => closed t e
  | .ptr _, _ => false
  | .hol t, .own e => closed t e
  | .may t, m => closed t m
  | _, _ => true

theorem rep_closed {F F' : BSet} {w : World} : ∀ (t : Ty) (m : Md), closed t m = true → ∀ (x : t.T) (cs : List Value) (S : BSet), Rep F w t m x cs S → Rep F' w t m x cs S := by
  intro t
  induction t with
  | int k => intro m _ x cs S h; exact h
  | bool => intro m _ x cs S h; exact h
  | str => intro m _ x cs S h; exact h
  | unit => intro m _ x cs S h; exact h
  | junk => intro m _ x cs S h; exact h
  | fn f => intro m _ x cs S h; exact h
  | chan => intro m _ x cs S h; cases m <;> exact h
  | hol t ih =>
    intro m hc x cs S h
    cases m with
    | ro => exact h
    | pr _ _ => exact h
    | own m =>
      obtain ⟨hj, a, cap, rfl, h1, h2, h3⟩ := h
      refine ⟨hj, a, cap, rfl, h1, h2, h3.imp id ?_⟩
      rintro ⟨b, off, c, e, rfl, hb, hc', hS, S1, hr, r⟩
      exact ⟨b, off, c, e, rfl, hb, hc', hS, S1, RepL.imp (fun y _ c T _ hr => by
        cases y with
        | none => exact hr
        | some y => exact ⟨ih m hc y c T hr.1, hr.2⟩) hr, r⟩
  | may t ih =>
    intro m hc x cs S h
    cases x with
    | none => exact h
    | some x => exact ⟨ih m hc x cs S h.1, h.2⟩
  | pair a b iha ihb =>
    rintro m hc x cs S ⟨c1, c2, S1, S2, rfl, h1, h2, r⟩
    simp [closed] at hc
    exact ⟨c1, c2, S1, S2, rfl, iha _ hc.1 _ _ _ h1, ihb _ hc.2 _ _ _ h2, r⟩
  | st t ih => intro m hc x cs S h; exact ih m hc x cs S h
  | arr n t ih =>
    rintro m hc x cs S ⟨hn, h⟩
    exact ⟨hn, RepL.imp (fun y _ c T _ hr => ih m.el hc y c T hr) h⟩
  | sl t ih =>
    intro m hc x cs S h
    cases m with
    | ro => simp [closed] at hc
    | pr _ _ => simp [closed] at hc
    | own m =>
      obtain ⟨a, cap, rfl, h1, h2, h3⟩ := h
      refine ⟨a, cap, rfl, h1, h2, h3.imp id ?_⟩
      rintro ⟨b, off, c, e, rfl, hb, hc', hS, S1, hr, r⟩
      exact ⟨b, off, c, e, rfl, hb, hc', hS, S1, RepL.imp (fun y _ c T _ hr => ih m hc y c T hr) hr, r⟩
  | box t ih =>
    intro m hc x cs S h
    cases m with
    | ro => simp [closed] at hc
    | pr _ _ => simp [closed] at hc
    | own m =>
      obtain ⟨b, c, e, rfl, hb, hS, S1, hr, r⟩ := h
      exact ⟨b, c, e, rfl, hb, hS, S1, ih m hc _ _ _ hr, r⟩
  | ptr t ih =>
    intro m hc x cs S h
    cases x with
    | none => cases m <;> exact h
    | some x =>
    cases m with
    | ro => simp [closed] at hc
    | pr _ _ => simp [closed] at hc
    | own m =>
      obtain ⟨b, c, e, rfl, hb, hS, S1, hr, r⟩ := h
      exact ⟨b, c, e, rfl, hb, hS, S1, ih m hc _ _ _ hr, r⟩

/-! ### Paths -/
/-- A value of some type. -/
structure V where
  t : Ty
  x : t.T

inductive Stp where
  | st | fst | snd
  | idx (i : Int)
  | ai (i : Int)
  | deref

/-- The value at a path, handed on. -/
def getP {R : Type} : (t : Ty) → t.T → List Stp → ((u : Ty) → u.T → Option R) → Option R
  | t, x, [], K => K t x
  | .st t, x, .st :: π, K => getP t x π K
  | .pair a _, x, .fst :: π, K => getP a x.1 π K
  | .pair _ b, x, .snd :: π, K => getP b x.2 π K
  | .sl t, x, .idx i :: π, K => if 0 ≤ i then (match (x : List t.T)[i.toNat]? with | some y => getP t y π K | none => none) else none
  | .arr _ t, x, .ai i :: π, K => if 0 ≤ i then (match (x : List t.T)[i.toNat]? with | some y => getP t y π K | none => none) else none
  | .box t, x, .deref :: π, K => getP t x π K
  | .ptr t, x, .deref :: π, K => match (x : Option t.T) with | some y => getP t y π K | none => none
  | _, _, _ :: _, _ => none

/-- The value with another one at a path, handed on. -/
def setP {R : Type} : (t : Ty) → t.T → List Stp → (u : Ty) → u.T → (t.T → Option R) → Option R
  | t, _, [], u, y, K => if h : u = t then K (h ▸ y) else none
  | .st t, x, .st :: π, u, y, K => setP t x π u y K
  | .pair a _, x, .fst :: π, u, y, K => setP a x.1 π u y fun z => K (z, x.2)
  | .pair _ b, x, .snd :: π, u, y, K => setP b x.2 π u y fun z => K (x.1, z)
  | .sl t, x, .idx i :: π, u, y, K => if 0 ≤ i then (match (x : List t.T)[i.toNat]? with | some z => setP t z π u y fun z' => K ((x : List t.T).set i.toNat z') | none => none) else none
  | .arr _ t, x, .ai i :: π, u, y, K => if 0 ≤ i then (match (x : List t.T)[i.toNat]? with | some z => setP t z π u y fun z' => K ((x : List t.T).set i.toNat z') | none => none) else none
  | .box t, x, .deref :: π, u, y, K => setP t x π u y K
  | .ptr t, x, .deref :: π, u, y, K => match (x : Option t.T) with | some z => setP t z π u y fun z' => K (some z') | none => none
  | _, _, _ :: _, _, _, _ => none

def atM : Ty → Md → List Stp → Md
  | _, m, [] => m
  | .st t, m, .st :: π => atM t m π
  | .pair a _, m, .fst :: π => atM a m.fst π
  | .pair _ b, m, .snd :: π => atM b m.snd π
  | .sl t, m, .idx _ :: π => atM t m.el π
  | .arr _ t, m, .ai _ :: π => atM t m.el π
  | .box t, m, .deref :: π => atM t m.el π
  | .ptr t, m, .deref :: π => atM t m.el π
  | _, _, _ :: _ => .ro

def atT : Ty → List Stp → Ty
  | t, [] => t
  | .st t, .st :: π => atT t π
  | .pair a _, .fst :: π => atT a π
  | .pair _ b, .snd :: π => atT b π
  | .sl t, .idx _ :: π => atT t π
  | .arr _ t, .ai _ :: π => atT t π
  | .box t, .deref :: π => atT t π
  | .ptr t, .deref :: π => atT t π
  | _, _ :: _ => .unit

def Md.isOwn : Md → Bool
  | .own _ => true
  | _ => false

/-- The words when the part at a path has others (m'): mres. -/
def SetM : Ty → Md → List Stp → Md → Md → Prop
  | _, _, [], m', r => r = m'
  | .st t, m, .st :: π, m', r => SetM t m π m' r
  | .pair a _, m, .fst :: π, m', r => ∃ q, SetM a m.fst π m' q ∧ ((r = m ∧ q = m.fst) ∨ r = .pr q m.snd)
  | .pair _ b, m, .snd :: π, m', r => ∃ q, SetM b m.snd π m' q ∧ ((r = m ∧ q = m.snd) ∨ r = .pr m.fst q)
  | .sl t, m, .idx _ :: π, m', r => ∃ e, m = .own e ∧ SetM t e π m' e ∧ r = m
  | .arr _ t, m, .ai _ :: π, m', r => SetM t m.el π m' m.el ∧ r = m
  | .box t, m, .deref :: π, m', r => ∃ e q, m = .own e ∧ SetM t e π m' q ∧ r = .own q
  | .ptr t, m, .deref :: π, m', r => ∃ e q, m = .own e ∧ SetM t e π m' q ∧ r = .own q
  | _, _, _ :: _, _, _ => False

/-- The same, computed. -/
def setM : Ty → Md → List Stp → Md → Option Md
  | _, _, [], m' => some m'
  | .st t, m, .st :: π, m' => setM t m π m'
  | .pair a _, m, .fst :: π, m' => match setM a m.fst π m' with
    | some q => some (if q = m.fst then m else .pr q m.snd)
    | none => none
  | .pair _ b, m, .snd :: π, m' => match setM b m.snd π m' with
    | some q => some (if q = m.snd then m else .pr m.fst q)
    | none => none
  | .sl t, m, .idx _ :: π, m' => match m with
    | .own e => match setM t e π m' with
      | some q => if q = e then some m else none
      | none => none
    | _ => none
  | .arr _ t, m, .ai _ :: π, m' => match setM t m.el π m' with
    | some q => if q = m.el then some m else none
    | none => none
  | .box t, m, .deref :: π, m' => match m with
    | .own e => match setM t e π m' with
      | some q => some (.own q)
      | none => none
    | _ => none
  | .ptr t, m, .deref :: π, m' => match m with
    | .own e => match setM t e π m' with
      | some q => some (.own q)
      | none => none
    | _ => none
  | _, _, _ :: _, _ => none

/-- Is what a path goes through owned? -/
def ownP : Ty → Md → List Stp → Bool
  | _, _, [] => true
  | .st t, m, .st :: π => ownP t m π
  | .pair a _, m, .fst :: π => ownP a m.fst π
  | .pair _ b, m, .snd :: π => ownP b m.snd π
  | .sl t, m, .idx _ :: π => m.isOwn && ownP t m.el π
  | .arr _ t, m, .ai _ :: π => ownP t m.el π
  | .box t, m, .deref :: π => m.isOwn && ownP t m.el π
  | .ptr t, m, .deref :: π => m.isOwn && ownP t m.el π
  | _, _, _ :: _ => false

def cellsAt (w : World) (b o n : Nat) : List Value :=
  match w.heap[b]? with
  | some (.cells c _ _) => (c.toList.drop o).take n
  | _ => []

/-- Where a path leads: the cells there; the block and the place, if it lies in memory. -/
def resolve (w : World) : Ty → List Value → Option (Nat × Nat) → List Stp → Option (List Value × Option (Nat × Nat))
  | _, cs, s, [] => some (cs, s)
  | .st t, cs, s, .st :: π => resolve w t cs s π
  | .pair a _, cs, s, .fst :: π => resolve w a (cs.take a.width) s π
  | .pair a b, cs, s, .snd :: π => resolve w b (cs.drop a.width) (s.map fun p => (p.1, p.2 + a.width)) π
  | .sl t, cs, _, .idx i :: π => match cs with
    | [.slice (some ⟨b, off, none⟩) len _] => if 0 ≤ i ∧ i.toNat < len then resolve w t (cellsAt w b (off + i.toNat * t.width) t.width) (some (b, off + i.toNat * t.width)) π else none
    | _ => none
  | .arr n t, cs, s, .ai i :: π => if 0 ≤ i ∧ i.toNat < n then resolve w t ((cs.drop (i.toNat * t.width)).take t.width) (s.map fun p => (p.1, p.2 + i.toNat * t.width)) π else none
  | .box t, cs, _, .deref :: π => match cs with
    | [.pointer (some ⟨b, 0, none⟩)] => resolve w t (cellsAt w b 0 t.width) (some (b, 0)) π
    | _ => none
  | .ptr t, cs, _, .deref :: π => match cs with
    | [.pointer (some ⟨b, 0, none⟩)] => resolve w t (cellsAt w b 0 t.width) (some (b, 0)) π
    | _ => none
  | _, _, _, _ :: _ => none
end Go.Proofs.YtgonfcjdhbjkcaaDoor.Rf
/- Layer 2: a part of a value is found where the path leads, and can be given another value there. -/
set_option linter.unusedVariables false
set_option linter.unusedSimpArgs false
namespace Go.Proofs.YtgonfcjdhbjkcaaDoor.Rf
open Go

def get? (t : Ty) (x : t.T) (π : List Stp) : Option V := getP t x π fun u y => some ⟨u, y⟩
def set? (t : Ty) (x : t.T) (π : List Stp) (u : Ty) (y : u.T) : Option t.T := setP t x π u y some

theorem getP_eq : ∀ (π : List Stp) {R : Type} (t : Ty) (x : t.T) (K : (u : Ty) → u.T → Option R), getP t x π K = (get? t x π).bind fun v => K v.t v.x := by
  intro π
  induction π with
  | nil => intro R t x K; cases t <;> rfl
  | cons s π ih =>
    intro R t x K
    unfold get?
    cases t <;> cases s <;> simp only [getP, Option.bind_none] <;> first
      | rfl
      | exact ih _ _ K
      | (split
         · split
           · exact ih _ _ K
           · rfl
         · rfl)
      | (split
         · exact ih _ _ K
         · rfl)

theorem setP_eq : ∀ (π : List Stp) {R : Type} (t : Ty) (x : t.T) (u : Ty) (y : u.T) (K : t.T → Option R), setP t x π u y K = (set? t x π u y).bind K := by
  intro π
  induction π with
  | nil => intro R t x u y K; unfold set?; cases t <;> (simp only [setP]; split <;> rfl)
  | cons s π ih =>
    intro R t x u y K
    have up : ∀ {β : Type} (a : Ty) (z : a.T) (f : a.T → β) (K : β → Option R), (setP a z π u y fun w => K (f w)) = (setP a z π u y fun w => some (f w)).bind K := by
      intro β a z f K
      rw [ih]
      have : (setP a z π u y fun w => some (f w)) = (set? a z π u y).bind fun w => some (f w) := by
        exact ih _ _ _ _ _
      rw [this]
      cases set? a z π u y <;> rfl
    unfold set?
    cases t <;> cases s <;> simp only [setP, Option.bind_none]
    case st.st => exact ih _ _ _ _ _
    case box.deref => exact ih _ _ _ _ _
    case pair.fst => exact up _ _ (fun z => (z, x.2)) K
    case pair.snd => exact up _ _ (fun z => (x.1, z)) K
    case sl.idx i =>
      split
      · cases hx : (x : List _)[i.toNat]? with
        | none => rfl
        | some z => exact up _ z (fun z' => (x : List _).set i.toNat z') K
      · rfl
    case arr.ai i =>
      split
      · cases hx : (x : List _)[i.toNat]? with
        | none => rfl
        | some z => exact up _ z (fun z' => (x : List _).set i.toNat z') K
      · rfl
    case ptr.deref =>
      cases x with
      | none => rfl
      | some z => exact up _ z some K

section
variable {α : Type} {R : α → List Value → BSet → Prop} {sz : Nat}
theorem RepL.focus (hw : ∀ y c S, R y c S → c.length = sz) : ∀ {x : List α} {i : Nat} {y : α} {cs : List Value} {S : BSet}, x[i]? = some y → RepL R x cs S →
    ∃ c S1 pre post, R y c S1 ∧ Sub S1 S ∧ cs = pre ++ c ++ post ∧ pre.length = i * sz ∧
      ∀ (R' : α → List Value → BSet → Prop) (y' : α) (c' : List Value) (Q : BSet), (∀ z c T, Sub T S → (∀ k, T k → ¬ S1 k) → R z c T → R' z c T) → R' y' c' Q → (∀ k, Q k → S k → S1 k) →
        RepL R' (x.set i y') (pre ++ c' ++ post) (fun k => (S k ∧ ¬ S1 k) ∨ Q k) := by
  intro x
  induction x with
  | nil => intro i y cs S hy; simp at hy
  | cons z zs ih =>
    rintro i y cs S hy ⟨c1, c2, S1, S2, rfl, h1, h2, s1, s2, d⟩
    cases i with
    | zero =>
      simp only [List.getElem?_cons_zero, Option.some.injEq] at hy
      subst hy
      refine ⟨c1, S1, [], c2, h1, s1, by simp, by simp, fun R' y' c' Q hR hy' hQ => ?_⟩
      refine ⟨c', c2, Q, S2, by simp, hy', RepL.imp (fun z _ c T hT hr => hR z c T (hT.trans s2) (fun k hk hk1 => d k hk1 (hT k hk)) hr) h2, fun k h => .inr h, fun k h => .inl ⟨s2 k h, fun h1 => d k h1 h⟩, fun k a b => d k (hQ k a (s2 k b)) b⟩
    | succ i =>
      simp only [List.getElem?_cons_succ] at hy
      obtain ⟨c, T1, pre, post, hr, t1, rfl, hp, hwand⟩ := ih hy h2
      refine ⟨c, T1, c1 ++ pre, post, hr, t1.trans s2, by simp, by rw [List.length_append, hw _ _ _ h1, hp, Nat.add_mul, Nat.one_mul, Nat.add_comm], fun R' y' c' Q hR hy' hQ => ?_⟩
      refine ⟨c1, pre ++ c' ++ post, S1, fun k => (S2 k ∧ ¬ T1 k) ∨ Q k, by simp, hR _ _ _ s1 (fun k a b => d k a (t1 k b)) h1, hwand R' y' c' Q (fun z c T hT hn hr => hR z c T (hT.trans s2) hn hr) hy' (fun k a b => hQ k a (s2 k b)), fun k h => .inl ⟨s1 k h, fun h1 => d k h (t1 k h1)⟩, fun k h => h.imp (fun h => ⟨s2 k h.1, h.2⟩) id, fun k a b => ?_⟩
      exact b.elim (fun b => d k a b.1) (fun b => d k a (t1 k (hQ k b (s1 k a))))
end

/-- The cells cs lie at a place. -/
def Lies (w : World) (b o : Nat) (cs : List Value) : Prop := ∃ (c : Array Value) (e : Mark c.size), w.heap[b]? = some (.cells c e.t (e.a, e.b)) ∧ (∃ l r, c.toList = l ++ cs ++ r ∧ l.length = o)
/-- Block b is another one only in that es stands where ds stood. -/
def Upd (w w' : World) (b o : Nat) (ds es : List Value) : Prop := ∃ (c c' : Array Value) (e : Mark c.size) (l r : List Value), w.heap[b]? = some (.cells c e.t (e.a, e.b)) ∧ w'.heap[b]? = some (.cells c' e.t (e.a, e.b)) ∧ c.toList = l ++ ds ++ r ∧ c'.toList = l ++ es ++ r ∧ l.length = o

/-- What a focus gives. -/
def Foc (F : BSet) (w : World) (t : Ty) (m : Md) (x : t.T) (cs : List Value) (S : BSet) (s : Option (Nat × Nat)) (π : List Stp) (u : Ty) (ds : List Value) (s' : Option (Nat × Nat)) (S' : BSet) : Prop :=
  (∃ pre post, cs = pre ++ ds ++ post ∧ s' = s.map (fun p => (p.1, p.2 + pre.length)) ∧
    ∀ F' w' y' es R x' m' mr, SetM t m π m' mr → Sub F F' → set? t x π u y' = some x' → Rep F' w' u m' y' es R → es.length = ds.length → (∀ k, R k → S k → S' k) →
      (∀ k, S k → ¬ S' k → w'.heap[k]? = w.heap[k]?) → (∀ k, F k → w'.heap[k]? = w.heap[k]?) →
      Rep F' w' t mr x' (pre ++ es ++ post) (fun k => (S k ∧ ¬ S' k) ∨ R k)) ∨
  (∃ b o, s' = some (b, o) ∧ S b ∧ ¬ S' b ∧ Lies w b o ds ∧
    ∀ F' w' y' es R x' m' mr, SetM t m π m' mr → Sub F F' → set? t x π u y' = some x' → Rep F' w' u m' y' es R → es.length = ds.length → (∀ k, R k → S k → S' k) →
      (∀ k, S k → ¬ S' k → k ≠ b → w'.heap[k]? = w.heap[k]?) → Upd w w' b o ds es → (∀ k, F k → w'.heap[k]? = w.heap[k]?) →
      Rep F' w' t mr x' cs (fun k => (S k ∧ ¬ S' k) ∨ R k))

theorem take_width {a b : List Value} {n : Nat} (h : a.length = n) : (a ++ b).take n = a := by rw [← h]; simp
theorem drop_width {a b : List Value} {n : Nat} (h : a.length = n) : (a ++ b).drop n = b := by rw [← h]; simp

theorem cellsAt_lies {w : World} {b o : Nat} {cs : List Value} (h : Lies w b o cs) : cellsAt w b o cs.length = cs := by
  obtain ⟨c, e, hb, l, r, hc, hl⟩ := h
  unfold cellsAt
  rw [hb]
  simp only [hc]
  rw [← hl, List.append_assoc, List.drop_append_of_le_length (Nat.le_refl _), List.drop_length, List.nil_append, List.take_append_of_le_length (Nat.le_refl _), List.take_length]

theorem splice_row {c c' l ds r : List Value} {off n : Nat} {pre d post : List Value} (hrow : (c.drop off).take n = pre ++ d ++ post) (hn : off + n ≤ c.length) (hc : c = l ++ ds ++ r)
    {pre2 post2 es : List Value} (hd : d = pre2 ++ ds ++ post2) (hl : l.length = off + pre.length + pre2.length) (hc' : c' = l ++ es ++ r) (he : es.length = ds.length) :
    (c'.drop off).take n = pre ++ (pre2 ++ es ++ post2) ++ post := by
  subst hd
  have hlen : n = (pre ++ (pre2 ++ ds ++ post2) ++ post).length := by
    rw [← hrow, List.length_take, List.length_drop]; omega
  have e1 : c = c.take off ++ ((pre ++ (pre2 ++ ds ++ post2) ++ post) ++ (c.drop off).drop n) := by
    rw [← hrow, List.take_append_drop, List.take_append_drop]
  have e2 : c = (c.take off ++ pre ++ pre2) ++ ds ++ (post2 ++ post ++ (c.drop off).drop n) := by
    rw [e1]
    have : (c.take off ++ ((pre ++ (pre2 ++ ds ++ post2) ++ post) ++ (c.drop off).drop n)).take off = c.take off := by rw [← e1]
    have h3 : ((c.take off ++ ((pre ++ (pre2 ++ ds ++ post2) ++ post) ++ (c.drop off).drop n)).drop off).drop n = (c.drop off).drop n := by rw [← e1]
    rw [this, h3]
    simp
  have ht : (c.take off).length = off := by rw [List.length_take]; omega
  have hl2 : l.length = (c.take off ++ pre ++ pre2).length := by simp only [List.length_append, ht]; omega
  have e3 : l ++ (ds ++ r) = (c.take off ++ pre ++ pre2) ++ (ds ++ (post2 ++ post ++ (c.drop off).drop n)) := by
    rw [← List.append_assoc, ← hc, ← List.append_assoc]; exact e2
  obtain ⟨k1, k2⟩ := List.append_inj e3 hl2
  have k3 := List.append_cancel_left k2
  rw [hc', k1, k3]
  rw [List.append_assoc, List.append_assoc, List.append_assoc (c.take off), List.drop_append_of_le_length (by omega)]
  rw [show (c.take off).drop off = [] from List.drop_eq_nil_of_le (by omega), List.nil_append]
  rw [show pre ++ (pre2 ++ (es ++ (post2 ++ post ++ (c.drop off).drop n))) = (pre ++ (pre2 ++ es ++ post2) ++ post) ++ (c.drop off).drop n by simp]
  have hn2 : n = (pre ++ (pre2 ++ es ++ post2) ++ post).length := by rw [hlen]; simp only [List.length_append]; omega
  conv => lhs; rw [hn2]
  rw [List.take_append_of_le_length (Nat.le_refl _), List.take_length]

theorem get?_nil (t : Ty) (x : t.T) : get? t x [] = some ⟨t, x⟩ := by unfold get?; cases t <;> rfl

theorem focus_ai {F : BSet} {w : World} {n : Nat} {t : Ty} {m : Md} {x : List t.T} {cs : List Value} {S : BSet} {s : Option (Nat × Nat)} {π : List Stp} {u : Ty} {y : u.T} {z : t.T} {i : Int}
    (ih : ∀ (m : Md) (x : t.T) (cs : List Value) (S : BSet) (s : Option (Nat × Nat)), Rep F w t m x cs S → get? t x π = some ⟨u, y⟩ → ownP t m π = true → ∃ ds s' S', resolve w t cs s π = some (ds, s') ∧ Rep F w u (atM t m π) y ds S' ∧ Sub S' S ∧ Foc F w t m x cs S s π u ds s' S')
    (h0 : 0 ≤ i) (hz : x[i.toNat]? = some z) (hg : get? t z π = some ⟨u, y⟩) (ho : ownP t m.el π = true) (hn : x.length = n) (h : RepL (Rep F w t m.el) x cs S) :
    ∃ ds s' S', resolve w (.arr n t) cs s (.ai i :: π) = some (ds, s') ∧ Rep F w u (atM t m.el π) y ds S' ∧ Sub S' S ∧ Foc F w (.arr n t) m x cs S s (.ai i :: π) u ds s' S' := by
  obtain ⟨c, S1, pre, post, hr, s1, rfl, hp, wand⟩ := RepL.focus (fun y c S h => rep_width F w t m.el y c S h) hz h
  have hcl := rep_width F w t _ _ _ _ hr
  have hi : i.toNat < n := by rw [← hn]; exact (List.getElem?_eq_some_iff.1 hz).1
  have hc : ((pre ++ c ++ post).drop (i.toNat * t.width)).take t.width = c := by rw [List.append_assoc, drop_width hp, take_width hcl]
  obtain ⟨ds, s', S', hres, hrep, s2, hfoc⟩ := ih m.el z c S1 (s.map fun p => (p.1, p.2 + i.toNat * t.width)) hr hg ho
  refine ⟨ds, s', S', ?_, hrep, s2.trans s1, ?_⟩
  · simp only [resolve]
    rw [if_pos ⟨h0, hi⟩, hc]
    exact hres
  · have hset : ∀ (y' : u.T) (x' : List t.T), set? (.arr n t) x (.ai i :: π) u y' = some x' → ∃ z', set? t z π u y' = some z' ∧ x' = x.set i.toNat z' := by
      intro y' x' hs
      unfold set? at hs
      simp only [setP] at hs
      rw [if_pos h0, hz] at hs
      simp only at hs
      rw [setP_eq] at hs
      obtain ⟨z', h1, h2⟩ := Option.bind_eq_some_iff.1 hs
      exact ⟨z', h1, (Option.some.inj h2).symm⟩
    rcases hfoc with ⟨pre2, post2, rfl, rfl, w2⟩ | ⟨b, o, rfl, hb, hnb, hl, w2⟩
    · refine .inl ⟨pre ++ pre2, post2 ++ post, by simp, ?_, ?_⟩
      · cases s with
        | none => rfl
        | some p => simp [hp, Nat.add_assoc]
      · intro F' w' y' es R x' m' mr hM hF hs hy he hR hS hFw
        obtain ⟨z', hz', rfl⟩ := hset _ _ hs
        obtain ⟨hM, rfl⟩ := hM
        refine ⟨by rw [List.length_set]; exact hn, ?_⟩
        have := wand (Rep F' w' t mr.el) z' (pre2 ++ es ++ post2) (fun k => (S1 k ∧ ¬ S' k) ∨ R k)
          (fun q c T hT hn hr => rep_frame hF hFw t _ _ _ _ _ hr (Sub.refl _) (fun k hk => hS k (hT k hk) (fun h' => hn k hk (s2 k h'))))
          (w2 F' w' y' es R z' m' _ hM hF hz' hy he (fun k a b => hR k a (s1 k b)) (fun k a b => hS k (s1 k a) b) hFw)
          (fun k a b => a.elim (fun a => a.1) (fun a => s2 k (hR k a b)))
        have e : pre ++ pre2 ++ es ++ (post2 ++ post) = pre ++ (pre2 ++ es ++ post2) ++ post := by simp
        rw [e]
        refine this.mono (fun k hk => ?_)
        rcases hk with ⟨a, b⟩ | (⟨a, b⟩ | a)
        · exact .inl ⟨a, fun h' => b (s2 k h')⟩
        · exact .inl ⟨s1 k a, b⟩
        · exact .inr a
    · refine .inr ⟨b, o, rfl, s1 b hb, hnb, hl, ?_⟩
      intro F' w' y' es R x' m' mr hM hF hs hy he hR hS hU hFw
      obtain ⟨z', hz', rfl⟩ := hset _ _ hs
      obtain ⟨hM, rfl⟩ := hM
      refine ⟨by rw [List.length_set]; exact hn, ?_⟩
      have := wand (Rep F' w' t mr.el) z' c (fun k => (S1 k ∧ ¬ S' k) ∨ R k)
        (fun q c T hT hn hr => rep_frame hF hFw t _ _ _ _ _ hr (Sub.refl _) (fun k hk => hS k (hT k hk) (fun h' => hn k hk (s2 k h')) (fun e => hn k hk (e ▸ hb))))
        (w2 F' w' y' es R z' m' _ hM hF hz' hy he (fun k a b => hR k a (s1 k b)) (fun k a b c => hS k (s1 k a) b c) hU hFw)
        (fun k a b => a.elim (fun a => a.1) (fun a => s2 k (hR k a b)))
      refine this.mono (fun k hk => ?_)
      rcases hk with ⟨a, b⟩ | (⟨a, b⟩ | a)
      · exact .inl ⟨a, fun h' => b (s2 k h')⟩
      · exact .inl ⟨s1 k a, b⟩
      · exact .inr a

theorem focus_idx {F : BSet} {w : World} {t : Ty} {m : Md} {x : List t.T} {cs : List Value} {S : BSet} {s : Option (Nat × Nat)} {π : List Stp} {u : Ty} {y : u.T} {z : t.T} {i : Int}
    (ih : ∀ (m : Md) (x : t.T) (cs : List Value) (S : BSet) (s : Option (Nat × Nat)), Rep F w t m x cs S → get? t x π = some ⟨u, y⟩ → ownP t m π = true → ∃ ds s' S', resolve w t cs s π = some (ds, s') ∧ Rep F w u (atM t m π) y ds S' ∧ Sub S' S ∧ Foc F w t m x cs S s π u ds s' S')
    (h0 : 0 ≤ i) (hz : x[i.toNat]? = some z) (hg : get? t z π = some ⟨u, y⟩) (ho : ownP t m π = true) (h : OwnSl w t.width (Rep F w t m) x cs S) :
    ∃ ds s' S', resolve w (.sl t) cs s (.idx i :: π) = some (ds, s') ∧ Rep F w u (atM t m π) y ds S' ∧ Sub S' S ∧ Foc F w (.sl t) (.own m) x cs S s (.idx i :: π) u ds s' S' := by
  obtain ⟨a, cap, rfl, h1, h2, h3⟩ := h
  have hi : i.toNat < x.length := (List.getElem?_eq_some_iff.1 hz).1
  rcases h3 with rfl | ⟨b, off, c, e, rfl, hb, hc, hS, S1, hr, s1, n1⟩
  · omega
  have hw := fun y c S (h : Rep F w t m y c S) => rep_width F w t m y c S h
  obtain ⟨d, T, pre, post, hd, t1, hrow, hp, wand⟩ := RepL.focus hw hz hr
  have hdl := hw _ _ _ hd
  have hrl := RepL.len hw hr
  have hcl : off + x.length * t.width ≤ c.toList.length := by
    rw [Array.length_toList]
    exact Nat.le_trans (Nat.add_le_add_left (Nat.mul_le_mul_right _ h1) _) hc
  have hlies : Lies w b (off + i.toNat * t.width) d := by
    refine ⟨c, e, hb, c.toList.take off ++ pre, post ++ (c.toList.drop off).drop (x.length * t.width), ?_, ?_⟩
    · rw [show c.toList.take off ++ pre ++ d ++ (post ++ (c.toList.drop off).drop (x.length * t.width)) = c.toList.take off ++ ((pre ++ d ++ post) ++ (c.toList.drop off).drop (x.length * t.width)) by simp]
      rw [← hrow, List.take_append_drop, List.take_append_drop]
    · rw [List.length_append, List.length_take, hp]; omega
  obtain ⟨ds, s', S', hres, hrep, s2, hfoc⟩ := ih m z d T (some (b, off + i.toNat * t.width)) hd hg ho
  refine ⟨ds, s', S', ?_, hrep, (s2.trans t1).trans s1, ?_⟩
  · simp only [resolve]
    rw [if_pos ⟨h0, hi⟩]
    have := cellsAt_lies hlies
    rw [hdl] at this
    rw [this]
    exact hres
  · have nb : ¬ S' b := fun h' => n1 (t1 b (s2 b h'))
    have hset : ∀ (y' : u.T) (x' : List t.T), set? (.sl t) x (.idx i :: π) u y' = some x' → ∃ z', set? t z π u y' = some z' ∧ x' = x.set i.toNat z' := by
      intro y' x' hs
      unfold set? at hs
      simp only [setP] at hs
      rw [if_pos h0, hz] at hs
      simp only at hs
      rw [setP_eq] at hs
      obtain ⟨z', h1, h2⟩ := Option.bind_eq_some_iff.1 hs
      exact ⟨z', h1, (Option.some.inj h2).symm⟩
    rcases hfoc with ⟨pre2, post2, rfl, rfl, w2⟩ | ⟨b2, o2, rfl, hb2, hnb2, hl2, w2⟩
    · refine .inr ⟨b, off + i.toNat * t.width + pre2.length, rfl, hS, nb, ?_, ?_⟩
      · obtain ⟨c0, e0, hb0, l, r, hc0, hl⟩ := hlies
        exact ⟨c0, e0, hb0, l ++ pre2, post2 ++ r, by rw [hc0]; simp, by rw [List.length_append, hl]⟩
      · intro F' w' y' es R x' m' mr hM hF hs hy he hR hk hU hFw
        obtain ⟨z', hz', rfl⟩ := hset _ _ hs
        obtain ⟨e', hme, hM, rfl⟩ := hM
        injection hme with hme
        subst hme
        obtain ⟨c1, c', e1, l, r, hb1, hb', hc1, hc', hl⟩ := hU
        have hcc : c1 = c := by rw [hb] at hb1; injection hb1 with hb1; injection hb1 with hb1 _ _; exact hb1.symm
        subst hcc
        have hsz : c'.size = c1.size := by
          rw [← Array.length_toList, ← Array.length_toList, hc1, hc']; simp [he]
        refine ⟨some ⟨b, off, none⟩, cap, by rw [List.length_set], by rw [List.length_set]; exact h1, h2, .inr ⟨b, off, c', e1.to (Nat.le_of_eq hsz), rfl, hb', by rw [hsz]; exact hc, .inl ⟨hS, nb⟩, ?_⟩⟩
        have hrow' := splice_row hrow hcl hc1 rfl (by rw [hp]; exact hl) hc' he
        have := wand (Rep F' w' t m) z' (pre2 ++ es ++ post2) (fun k => (T k ∧ ¬ S' k) ∨ R k)
          (fun q c T' hT hn hr => rep_frame hF hFw t _ _ _ _ _ hr (Sub.refl _) (fun k hk' => hk k (s1 k (hT k hk')) (fun h' => hn k hk' (s2 k h')) (fun e => n1 (e ▸ hT k hk'))))
          (w2 F' w' y' es R z' m' _ hM hF hz' hy he (fun k a b => hR k a (s1 k (t1 k b))) (fun k a b' => hk k (s1 k (t1 k a)) b' (fun e => n1 (t1 _ (e ▸ a)))) hFw)
          (fun k a b => a.elim (fun a => a.1) (fun a => s2 k (hR k a (s1 k b))))
        refine ⟨_, by rw [List.length_set, hrow']; exact this, fun k hk => ?_, ?_⟩
        · rcases hk with ⟨a, b⟩ | (⟨a, b⟩ | a)
          · exact .inl ⟨s1 k a, fun h' => b (s2 k h')⟩
          · exact .inl ⟨s1 k (t1 k a), b⟩
          · exact .inr a
        · rintro (⟨a, _⟩ | (⟨a, _⟩ | a))
          · exact n1 a
          · exact n1 (t1 b a)
          · exact nb (hR b a hS)
    · refine .inr ⟨b2, o2, rfl, s1 _ (t1 _ hb2), hnb2, hl2, ?_⟩
      intro F' w' y' es R x' m' mr hM hF hs hy he hR hk hU hFw
      obtain ⟨z', hz', rfl⟩ := hset _ _ hs
      obtain ⟨e', hme, hM, rfl⟩ := hM
      injection hme with hme
      subst hme
      have hne : b ≠ b2 := fun e => n1 (t1 b (e ▸ hb2))
      refine ⟨some ⟨b, off, none⟩, cap, by rw [List.length_set], by rw [List.length_set]; exact h1, h2, .inr ⟨b, off, c, e, rfl, (hk b hS nb hne).trans hb, hc, .inl ⟨hS, nb⟩, ?_⟩⟩
      have := wand (Rep F' w' t m) z' d (fun k => (T k ∧ ¬ S' k) ∨ R k)
          (fun q c T' hT hn hr => rep_frame hF hFw t _ _ _ _ _ hr (Sub.refl _) (fun k hk' => hk k (s1 k (hT k hk')) (fun h' => hn k hk' (s2 k h')) (fun e => hn k hk' (e ▸ hb2))))
          (w2 F' w' y' es R z' m' _ hM hF hz' hy he (fun k a b => hR k a (s1 k (t1 k b))) (fun k a b c => hk k (s1 k (t1 k a)) b c) hU hFw)
          (fun k a b => a.elim (fun a => a.1) (fun a => s2 k (hR k a (s1 k b))))
      refine ⟨_, by rw [List.length_set, hrow]; exact this, fun k hk => ?_, ?_⟩
      · rcases hk with ⟨a, b⟩ | (⟨a, b⟩ | a)
        · exact .inl ⟨s1 k a, fun h' => b (s2 k h')⟩
        · exact .inl ⟨s1 k (t1 k a), b⟩
        · exact .inr a
      · rintro (⟨a, _⟩ | (⟨a, _⟩ | a))
        · exact n1 a
        · exact n1 (t1 b a)
        · exact nb (hR b a hS)

theorem focus_box {F : BSet} {w : World} {t : Ty} {m : Md} {z : t.T} {cs : List Value} {S : BSet} {π : List Stp} {u : Ty} {y : u.T}
    (ih : ∀ (m : Md) (x : t.T) (cs : List Value) (S : BSet) (s : Option (Nat × Nat)), Rep F w t m x cs S → get? t x π = some ⟨u, y⟩ → ownP t m π = true → ∃ ds s' S', resolve w t cs s π = some (ds, s') ∧ Rep F w u (atM t m π) y ds S' ∧ Sub S' S ∧ Foc F w t m x cs S s π u ds s' S')
    (hg : get? t z π = some ⟨u, y⟩) (ho : ownP t m π = true) (h : OwnBox w (Rep F w t m) z cs S) :
    ∃ p ds s' S', cs = [.pointer (some ⟨p, 0, none⟩)] ∧ resolve w t (cellsAt w p 0 t.width) (some (p, 0)) π = some (ds, s') ∧ Rep F w u (atM t m π) y ds S' ∧ Sub S' S ∧
      ∃ b o, s' = some (b, o) ∧ S b ∧ ¬ S' b ∧ Lies w b o ds ∧
    ∀ F' w' y' es R z' m' mr, SetM t m π m' mr → Sub F F' → set? t z π u y' = some z' → Rep F' w' u m' y' es R → es.length = ds.length → (∀ k, R k → S k → S' k) →
      (∀ k, S k → ¬ S' k → k ≠ b → w'.heap[k]? = w.heap[k]?) → Upd w w' b o ds es → (∀ k, F k → w'.heap[k]? = w.heap[k]?) →
      OwnBox w' (Rep F' w' t mr) z' cs (fun k => (S k ∧ ¬ S' k) ∨ R k) := by
  obtain ⟨p, c, e, rfl, hb, hS, S1, hr, s1, n1⟩ := h
  have hcl := rep_width F w t m z _ _ hr
  have hlies : Lies w p 0 c.toList := ⟨c, e, hb, [], [], by simp, rfl⟩
  obtain ⟨ds, s', S', hres, hrep, s2, hfoc⟩ := ih m z c.toList S1 (some (p, 0)) hr hg ho
  have hcc := cellsAt_lies hlies
  rw [hcl] at hcc
  have np : ¬ S' p := fun h' => n1 (s2 p h')
  refine ⟨p, ds, s', S', rfl, by rw [hcc]; exact hres, hrep, s2.trans s1, ?_⟩
  rcases hfoc with ⟨pre2, post2, hc2, rfl, w2⟩ | ⟨b2, o2, rfl, hb2, hnb2, hl2, w2⟩
  · refine ⟨p, 0 + pre2.length, rfl, hS, np, ⟨c, e, hb, pre2, post2, hc2, by simp⟩, ?_⟩
    intro F' w' y' es R z' m' mr hM hF hs hy he hR hk hU hFw
    obtain ⟨c1, c', e1, l, r, hb1, hb', hc1, hc', hl⟩ := hU
    have hcc : c1 = c := by rw [hb] at hb1; injection hb1 with hb1; injection hb1 with hb1 _ _; exact hb1.symm
    subst hcc
    have hsz : c'.size = c1.size := by
      rw [← Array.length_toList, ← Array.length_toList, hc1, hc']; simp [he]
    refine ⟨p, c', e1.to (Nat.le_of_eq hsz), rfl, hb', .inl ⟨hS, np⟩, fun k => (S1 k ∧ ¬ S' k) ∨ R k, ?_, fun k hk => hk.imp (fun h => ⟨s1 k h.1, h.2⟩) id, ?_⟩
    · have := w2 F' w' y' es R z' m' mr hM hF hs hy he (fun k a b => hR k a (s1 k b)) (fun k a b => hk k (s1 k a) b (fun e => n1 (e ▸ a))) hFw
      have e3 : l ++ (ds ++ r) = pre2 ++ (ds ++ post2) := by rw [← List.append_assoc, ← hc1, ← List.append_assoc]; exact hc2
      obtain ⟨k1, k2⟩ := List.append_inj e3 (by omega)
      have k3 := List.append_cancel_left k2
      rw [hc', k1, k3]
      exact this
    · rintro (⟨a, _⟩ | a)
      · exact n1 a
      · exact np (hR p a hS)
  · refine ⟨b2, o2, rfl, s1 _ hb2, hnb2, hl2, ?_⟩
    intro F' w' y' es R z' m' mr hM hF hs hy he hR hk hU hFw
    have hne : p ≠ b2 := fun e => n1 (e ▸ hb2)
    refine ⟨p, c, e, rfl, (hk p hS np hne).trans hb, .inl ⟨hS, np⟩, fun k => (S1 k ∧ ¬ S' k) ∨ R k, ?_, fun k hk => hk.imp (fun h => ⟨s1 k h.1, h.2⟩) id, ?_⟩
    · exact w2 F' w' y' es R z' m' mr hM hF hs hy he (fun k a b => hR k a (s1 k b)) (fun k a b c => hk k (s1 k a) b c) hU hFw
    · rintro (⟨a, _⟩ | a)
      · exact n1 a
      · exact np (hR p a hS)

theorem set?_of {t : Ty} {x : t.T} {π : List Stp} {u : Ty} {y : u.T} {β : Type} {f : t.T → β} {r : β} (h : setP t x π u y (fun z => some (f z)) = some r) : ∃ z, set? t x π u y = some z ∧ r = f z := by
  rw [setP_eq] at h
  obtain ⟨z, h1, h2⟩ := Option.bind_eq_some_iff.1 h
  exact ⟨z, h1, (Option.some.inj h2).symm⟩

/-- THE FOCUS. -/
theorem focus (F : BSet) (w : World) : ∀ (π : List Stp) (t : Ty) (m : Md) (x : t.T) (cs : List Value) (S : BSet) (s : Option (Nat × Nat)) (u : Ty) (y : u.T),
    Rep F w t m x cs S → get? t x π = some ⟨u, y⟩ → ownP t m π = true →
    ∃ ds s' S', resolve w t cs s π = some (ds, s') ∧ Rep F w u (atM t m π) y ds S' ∧ Sub S' S ∧ Foc F w t m x cs S s π u ds s' S' := by
  intro π
  induction π with
  | nil =>
    intro t m x cs S s u y h hg _
    rw [get?_nil] at hg
    injection hg with hg
    injection hg with h1 h2
    subst h1
    cases h2
    refine ⟨cs, s, S, ?_, ?_, Sub.refl _, .inl ⟨[], [], by simp, ?_, ?_⟩⟩
    · cases t <;> rfl
    · cases t <;> exact h
    · cases s <;> rfl
    · intro F' w' y' es R x' m' mr hM _ hs hy _ _ _ _
      have hx : x' = y' := by
        unfold set? at hs
        cases t <;> (simp only [setP] at hs; first | exact (Option.some.inj ((dif_pos trivial).symm.trans hs)).symm | (rw [dif_pos trivial] at hs; done))
      subst hx
      have hm : mr = m' := by cases t <;> exact hM
      subst hm
      simp only [List.nil_append, List.append_nil]
      exact rep_mono hy (fun k h => Or.inr h)
  | cons p0 π ih =>
    intro t m x cs S s u y h hg ho
    unfold get? at hg
    cases t <;> cases p0 <;> simp only [getP, reduceCtorEq] at hg
    case st.st t =>
      simp only [ownP] at ho
      obtain ⟨ds, s', S', h1, h2, h3, h4⟩ := ih t m x cs S s u y h hg ho
      exact ⟨ds, s', S', h1, h2, h3, h4⟩
    case pair.fst a b =>
      obtain ⟨c1, c2, S1, S2, rfl, h1, h2, s1, s2, d⟩ := h
      simp only [ownP] at ho
      have hcl := rep_width _ _ _ _ _ _ _ h1
      obtain ⟨ds, s', S', hres, hrep, s3, hfoc⟩ := ih a m.fst x.1 c1 S1 s u y h1 hg ho
      refine ⟨ds, s', S', ?_, hrep, s3.trans s1, ?_⟩
      · simp only [resolve]; rw [take_width hcl]; exact hres
      · rcases hfoc with ⟨pre2, post2, rfl, rfl, w2⟩ | ⟨b2, o2, rfl, hb2, hnb2, hl2, w2⟩
        · refine .inl ⟨pre2, post2 ++ c2, by simp, rfl, ?_⟩
          intro F' w' y' es R x' m' mr hM hF hs hy he hR hS hFw
          obtain ⟨q, hM, hq⟩ := hM
          obtain ⟨z, hz, rfl⟩ := set?_of (f := fun z => (z, x.2)) hs
          have e1 : mr.fst = q ∧ mr.snd = m.snd := by rcases hq with ⟨rfl, rfl⟩ | rfl <;> exact ⟨rfl, rfl⟩
          refine ⟨pre2 ++ es ++ post2, c2, fun k => (S1 k ∧ ¬ S' k) ∨ R k, S2, by simp, ?_, ?_, ?_, ?_, ?_⟩
          · rw [e1.1]; exact w2 F' w' y' es R z m' q hM hF hz hy he (fun k a b => hR k a (s1 k b)) (fun k a b => hS k (s1 k a) b) hFw
          · rw [e1.2]; exact rep_frame hF hFw _ _ _ _ _ _ h2 (Sub.refl _) (fun k hk => hS k (s2 k hk) (fun h' => d k (s3 k h') hk))
          · exact fun k hk => hk.imp (fun h => ⟨s1 k h.1, h.2⟩) id
          · exact fun k hk => .inl ⟨s2 k hk, fun h' => d k (s3 k h') hk⟩
          · exact fun k a b => a.elim (fun a => d k a.1 b) (fun a => d k (s3 k (hR k a (s2 k b))) b)
        · refine .inr ⟨b2, o2, rfl, s1 _ hb2, hnb2, hl2, ?_⟩
          intro F' w' y' es R x' m' mr hM hF hs hy he hR hS hU hFw
          obtain ⟨q, hM, hq⟩ := hM
          obtain ⟨z, hz, rfl⟩ := set?_of (f := fun z => (z, x.2)) hs
          have e1 : mr.fst = q ∧ mr.snd = m.snd := by rcases hq with ⟨rfl, rfl⟩ | rfl <;> exact ⟨rfl, rfl⟩
          refine ⟨c1, c2, fun k => (S1 k ∧ ¬ S' k) ∨ R k, S2, rfl, ?_, ?_, ?_, ?_, ?_⟩
          · rw [e1.1]; exact w2 F' w' y' es R z m' q hM hF hz hy he (fun k a b => hR k a (s1 k b)) (fun k a b c => hS k (s1 k a) b c) hU hFw
          · rw [e1.2]; exact rep_frame hF hFw _ _ _ _ _ _ h2 (Sub.refl _) (fun k hk => hS k (s2 k hk) (fun h' => d k (s3 k h') hk) (fun e => d k (e ▸ hb2) hk))
          · exact fun k hk => hk.imp (fun h => ⟨s1 k h.1, h.2⟩) id
          · exact fun k hk => .inl ⟨s2 k hk, fun h' => d k (s3 k h') hk⟩
          · exact fun k a b => a.elim (fun a => d k a.1 b) (fun a => d k (s3 k (hR k a (s2 k b))) b)
    case pair.snd a b =>
      obtain ⟨c1, c2, S1, S2, rfl, h1, h2, s1, s2, d⟩ := h
      simp only [ownP] at ho
      have hcl := rep_width _ _ _ _ _ _ _ h1
      obtain ⟨ds, s', S', hres, hrep, s3, hfoc⟩ := ih b m.snd x.2 c2 S2 (s.map fun p => (p.1, p.2 + a.width)) u y h2 hg ho
      refine ⟨ds, s', S', ?_, hrep, s3.trans s2, ?_⟩
      · simp only [resolve]; rw [drop_width hcl]; exact hres
      · rcases hfoc with ⟨pre2, post2, rfl, rfl, w2⟩ | ⟨b2, o2, rfl, hb2, hnb2, hl2, w2⟩
        · refine .inl ⟨c1 ++ pre2, post2, by simp, ?_, ?_⟩
          · cases s with
            | none => rfl
            | some p => simp [hcl, Nat.add_assoc]
          intro F' w' y' es R x' m' mr hM hF hs hy he hR hS hFw
          obtain ⟨q, hM, hq⟩ := hM
          obtain ⟨z, hz, rfl⟩ := set?_of (f := fun z => (x.1, z)) hs
          have e1 : mr.fst = m.fst ∧ mr.snd = q := by rcases hq with ⟨rfl, rfl⟩ | rfl <;> exact ⟨rfl, rfl⟩
          refine ⟨c1, pre2 ++ es ++ post2, S1, fun k => (S2 k ∧ ¬ S' k) ∨ R k, by simp, ?_, ?_, ?_, ?_, ?_⟩
          · rw [e1.1]; exact rep_frame hF hFw _ _ _ _ _ _ h1 (Sub.refl _) (fun k hk => hS k (s1 k hk) (fun h' => d k hk (s3 k h')))
          · rw [e1.2]; exact w2 F' w' y' es R z m' q hM hF hz hy he (fun k a b => hR k a (s2 k b)) (fun k a b => hS k (s2 k a) b) hFw
          · exact fun k hk => .inl ⟨s1 k hk, fun h' => d k hk (s3 k h')⟩
          · exact fun k hk => hk.imp (fun h => ⟨s2 k h.1, h.2⟩) id
          · exact fun k a b => b.elim (fun b => d k a b.1) (fun b => d k a (s3 k (hR k b (s1 k a))))
        · refine .inr ⟨b2, o2, rfl, s2 _ hb2, hnb2, hl2, ?_⟩
          intro F' w' y' es R x' m' mr hM hF hs hy he hR hS hU hFw
          obtain ⟨q, hM, hq⟩ := hM
          obtain ⟨z, hz, rfl⟩ := set?_of (f := fun z => (x.1, z)) hs
          have e1 : mr.fst = m.fst ∧ mr.snd = q := by rcases hq with ⟨rfl, rfl⟩ | rfl <;> exact ⟨rfl, rfl⟩
          refine ⟨c1, c2, S1, fun k => (S2 k ∧ ¬ S' k) ∨ R k, rfl, ?_, ?_, ?_, ?_, ?_⟩
          · rw [e1.1]; exact rep_frame hF hFw _ _ _ _ _ _ h1 (Sub.refl _) (fun k hk => hS k (s1 k hk) (fun h' => d k hk (s3 k h')) (fun e => d k hk (e ▸ hb2)))
          · rw [e1.2]; exact w2 F' w' y' es R z m' q hM hF hz hy he (fun k a b => hR k a (s2 k b)) (fun k a b c => hS k (s2 k a) b c) hU hFw
          · exact fun k hk => .inl ⟨s1 k hk, fun h' => d k hk (s3 k h')⟩
          · exact fun k hk => hk.imp (fun h => ⟨s2 k h.1, h.2⟩) id
          · exact fun k a b => b.elim (fun b => d k a b.1) (fun b => d k a (s3 k (hR k b (s1 k a))))
    case sl.idx t i =>
      split at hg
      · rename_i h0
        cases hz : (x : List t.T)[i.toNat]? with
        | none => rw [hz] at hg; simp at hg
        | some z =>
          rw [hz] at hg
          simp only [ownP, Bool.and_eq_true] at ho
          cases m with
          | ro => simp [Md.isOwn] at ho
          | pr _ _ => simp [Md.isOwn] at ho
          | own m => exact focus_idx (fun m x cs S s h1 h2 h3 => ih t m x cs S s u y h1 h2 h3) h0 hz hg ho.2 h
      · cases hg
    case arr.ai n t i =>
      split at hg
      · rename_i h0
        cases hz : (x : List t.T)[i.toNat]? with
        | none => rw [hz] at hg; simp at hg
        | some z =>
          rw [hz] at hg
          simp only [ownP] at ho
          exact focus_ai (fun m x cs S s h1 h2 h3 => ih t m x cs S s u y h1 h2 h3) h0 hz hg ho h.1 h.2
      · cases hg
    case box.deref t =>
      simp only [ownP, Bool.and_eq_true] at ho
      cases m with
      | ro => simp [Md.isOwn] at ho
      | pr _ _ => simp [Md.isOwn] at ho
      | own m =>
        obtain ⟨p, ds, s', S', rfl, hres, hrep, s1, b, o, h1, h2, h3, h4, h5⟩ := focus_box (fun m x cs S s h1 h2 h3 => ih t m x cs S s u y h1 h2 h3) hg ho.2 h
        refine ⟨ds, s', S', by simp only [resolve]; exact hres, hrep, s1, .inr ⟨b, o, h1, h2, h3, h4, ?_⟩⟩
        intro F' w' y' es R x' m' mr hM hF hs hy he hR hS hU hFw
        obtain ⟨e', q, hme, hM, rfl⟩ := hM
        injection hme with hme
        subst hme
        exact h5 F' w' y' es R x' m' q hM hF hs hy he hR hS hU hFw
    case ptr.deref t =>
      simp only [ownP, Bool.and_eq_true] at ho
      cases x with
      | none => simp at hg
      | some z =>
      cases m with
      | ro => simp [Md.isOwn] at ho
      | pr _ _ => simp [Md.isOwn] at ho
      | own m =>
        obtain ⟨p, ds, s', S', rfl, hres, hrep, s1, b, o, h1, h2, h3, h4, h5⟩ := focus_box (fun m x cs S s h1 h2 h3 => ih t m x cs S s u y h1 h2 h3) hg ho.2 h
        refine ⟨ds, s', S', by simp only [resolve]; exact hres, hrep, s1, .inr ⟨b, o, h1, h2, h3, h4, ?_⟩⟩
        intro F' w' y' es R x' m' mr hM hF hs hy he hR hS hU hFw
        obtain ⟨e', q, hme, hM, rfl⟩ := hM
        injection hme with hme
        subst hme
        obtain ⟨z', hz', rfl⟩ := set?_of (f := fun z => some z) hs
        exact h5 F' w' y' es R z' m' q hM hF hz' hy he hR hS hU hFw
end Go.Proofs.YtgonfcjdhbjkcaaDoor.Rf
/- Layer 3: the pure machine's states, what they mean, and small operations on entries. -/
set_option linter.unusedVariables false
set_option linter.unusedSimpArgs false
namespace Go.Proofs.YtgonfcjdhbjkcaaDoor.Rf
open Go

/-- What a type of the program is. -/
inductive TK where
  | int (k : IntKind) | bool | str
  | slice (e : TypeId) | array (n : Nat) (e : TypeId)
  | struct (fs : List (TypeId × Nat))
  | pointer (e : TypeId)
  | chan (e : TypeId)
  | other
structure TD where
  kd : TK
  bytes : Nat
  ty : Ty
  zero : List Value

def TK.agg : TK → Bool
  | .struct _ | .array _ _ => true
  | _ => false

structure TOk (P : Program) (t : TypeId) (d : TD) : Prop where
  info : ∃ i z, P.info? t = some i ∧ i.size = d.ty.width ∧ i.bytes = d.bytes ∧ i.zero = some z ∧ z.cells.toList = d.zero
  desc : match d.kd with
    | .int k => P.underlying t = some (.int k) ∧ d.ty = .int k
    | .bool => P.underlying t = some .bool ∧ d.ty = .bool
    | .str => P.underlying t = some .string ∧ d.ty = .str
    | .slice e => P.underlying t = some (.slice e)
    | .array n e => P.underlying t = some (.array n e)
    | .struct fs => ∃ f : Array Field, P.underlying t = some (.struct f) ∧ f.toList.map (fun x => (x.type, x.offset)) = fs
    | .pointer e => P.underlying t = some (.pointer e)
    | .chan e => ∃ dir, P.underlying t = some (.chan dir e)
    | .other => ∃ q, P.underlying t = some q ∧ (∀ fs, q ≠ .struct fs) ∧ (∀ n e, q ≠ .array n e)
  agg : d.ty.agg = d.kd.agg
  zlen : d.zero.length = d.ty.width
  zi : ∀ k, d.kd = .int k → ∃ i, P.info? t = some i ∧ i.zero = some (.int k 0)

structure Lab where
  v : Nat
  t : Ty
  m : Md
  x : t.T

inductive Ent0 where
  | val (t : Ty) (x : t.T)
  | cst (v : Value)
  | hdr (l v : Nat) (π : List Stp) (c : V)
  | adr (l v : Nat) (π : List Stp) (c : V)
  | radr (t : Ty) (x : t.T)
inductive Ent where
  | one (e : Ent0)
  | tup (es : List Ent0)

structure St where
  E : Nat → Option Ent
  L : Nat → Option Lab
  U : Nat → Bool

def upd {α : Type} (f : Nat → Option α) (k : Nat) (v : Option α) : Nat → Option α := fun j => bif Nat.beq j k then v else f j
theorem upd_same {α : Type} (f : Nat → Option α) (k : Nat) (v : Option α) : upd f k v k = v := by simp [upd]
theorem upd_ne {α : Type} (f : Nat → Option α) {k j : Nat} (v : Option α) (h : j ≠ k) : upd f k v j = f j := by
  unfold upd
  cases hb : Nat.beq j k
  · rfl
  · exact absurd (Nat.eq_of_beq_eq_true hb) h
theorem upd_some {α : Type} {f : Nat → Option α} {k j : Nat} {v : Option α} {r : α} (h : upd f k v j = some r) : (j = k ∧ v = some r) ∨ (j ≠ k ∧ f j = some r) := by
  by_cases e : j = k
  · subst e; rw [upd_same] at h; exact .inl ⟨rfl, h⟩
  · rw [upd_ne _ _ e] at h; exact .inr ⟨e, h⟩

def St.setE (σ : St) (d : Nat) (e : Ent0) : St := { σ with E := upd σ.E d (some (.one e)) }
def St.setL (σ : St) (l : Nat) (b : Lab) : St := { σ with L := upd σ.L l (some b) }
def St.newL (σ : St) (l : Nat) (b : Lab) : St := { σ with L := upd σ.L l (some b), U := fun j => Nat.beq j l || σ.U j }
def St.delL (σ : St) (l : Nat) : St := { σ with L := upd σ.L l none }

/-- A value and its cells. -/
def VR (t : Ty) (cs : List Value) (v : Value) : Prop := if t.agg then v = .agg cs.toArray else cs = [v] ∧ v.oneCell' = true
theorem VR.cells {t : Ty} {cs : List Value} {v : Value} (h : VR t cs v) : v.cells.toList = cs := by
  unfold VR at h
  split at h
  · subst h; rfl
  · obtain ⟨rfl, h1⟩ := h
    cases v <;> first | rfl | (simp [Value.oneCell'] at h1)

/-- Where a path leads, by the root's own cells alone. -/
def rootAddr : Ty → List Value → Option (Nat × Nat) → List Stp → Option (Nat × Nat)
  | _, _, s, [] => s
  | .st t, cs, s, .st :: π => rootAddr t cs s π
  | .pair a _, cs, s, .fst :: π => rootAddr a (cs.take a.width) s π
  | .pair a b, cs, s, .snd :: π => rootAddr b (cs.drop a.width) (s.map fun p => (p.1, p.2 + a.width)) π
  | .sl t, cs, s, .idx i :: π => match s, cs with
    | none, [.slice (some ⟨b, off, none⟩) len _] => if 0 ≤ i ∧ i.toNat < len then rootAddr t [] (some (b, off + i.toNat * t.width)) π else none
    | _, _ => none
  | .hol t, cs, s, .idx i :: π => match s, cs with
    | none, [.slice (some ⟨b, off, none⟩) len _] => if 0 ≤ i ∧ i.toNat < len then rootAddr t [] (some (b, off + i.toNat * t.width)) π else none
    | _, _ => none
  | .arr n t, cs, s, .ai i :: π => if 0 ≤ i ∧ i.toNat < n then rootAddr t ((cs.drop (i.toNat * t.width)).take t.width) (s.map fun p => (p.1, p.2 + i.toNat * t.width)) π else none
  | .box t, cs, s, .deref :: π => match s, cs with
    | none, [.pointer (some ⟨b, 0, none⟩)] => rootAddr t [] (some (b, 0)) π
    | _, _ => none
  | .ptr t, cs, s, .deref :: π => match s, cs with
    | none, [.pointer (some ⟨b, 0, none⟩)] => rootAddr t [] (some (b, 0)) π
    | _, _ => none
  | _, _, _, _ :: _ => none

/-- Does a path go through memory once at most (from a root that is no memory)? -/
def short : Nat → List Stp → Bool
  | _, [] => true
  | n, .idx _ :: π => match n with | 0 => short 1 π | _ => false
  | n, .deref :: π => match n with | 0 => short 1 π | _ => false
  | n, _ :: π => short n π

def EntOk (F : BSet) (w : World) (L : Nat → Option Lab) (U : Nat → Bool) (cg : Nat → List Value) : Ent0 → Value → Prop
  | .val t x, v => ∃ cs, Rep F w t .ro x cs BSet.none ∧ VR t cs v
  | .cst u, v => v = u
  | .hdr l n π c, v => U l = true ∧ ∀ b, L l = some b → n ≤ b.v ∧ (π = [] → VR b.t (cg l) v) ∧ (n = b.v → ownP b.t b.m π = true ∧ get? b.t b.x π = some c ∧ ∀ ds s, resolve w b.t (cg l) none π = some (ds, s) → VR (atT b.t π) ds v)
  | .adr l n π c, v => U l = true ∧ ∀ b, L l = some b → n ≤ b.v ∧ (short 0 π = true → ∀ p o, rootAddr b.t (cg l) none π = some (p, o) → v = .pointer (some ⟨p, o, none⟩)) ∧
      (n = b.v → ownP b.t b.m π = true ∧ get? b.t b.x π = some c ∧ ∀ ds p o, resolve w b.t (cg l) none π = some (ds, some (p, o)) → v = .pointer (some ⟨p, o, none⟩))
  | .radr t x, v => ∃ a ds, v = .pointer (some a) ∧ F a.block ∧ At w a ds ∧ Rep F w t .ro x ds BSet.none

def EntsOk (F : BSet) (w : World) (L : Nat → Option Lab) (U : Nat → Bool) (cg : Nat → List Value) : List Ent0 → List Value → Prop
  | [], vs => vs = []
  | e :: es, vs => ∃ v r, vs = v :: r ∧ EntOk F w L U cg e v ∧ EntsOk F w L U cg es r

def EntOkT (F : BSet) (w : World) (L : Nat → Option Lab) (U : Nat → Bool) (cg : Nat → List Value) : Ent → Value → Prop
  | .one e, v => EntOk F w L U cg e v
  | .tup es, v => ∃ vs : List Value, v = .tuple vs.toArray ∧ EntsOk F w L U cg es vs

/-- What stays since the call was entered. -/
structure Fr (w0 : World) (S0 : BSet) (w : World) : Prop where
  os : w.os = w0.os
  tape : w.tape = w0.tape
  output : w.output = w0.output
  size : w0.heap.size ≤ w.heap.size
  block : ∀ k, k < w0.heap.size → ¬ S0 k → w.heap[k]? = w0.heap[k]?

/-- Blocks of package variables that library functions look into: each one int, read alone. -/
def GK : List Nat := [0]
def Gh (F : BSet) (w : World) : Prop := ∀ p ∈ GK, F p ∧ ∃ n, w.cell? ⟨p, 0, none⟩ = some (.int .i64 n)
theorem Gh.step {F F' : BSet} {w w' : World} (h : Gh F w) (hs : Sub F F') (hb : ∀ p ∈ GK, w'.heap[p]? = w.heap[p]?) : Gh F' w' := by
  intro p hp
  obtain ⟨h1, n, h2⟩ := h p hp
  exact ⟨hs p h1, n, (cell_congr (a := ⟨p, 0, none⟩) (hb p hp)).trans h2⟩

/-- What a call begins with: its world, what it may write, what is read alone, how many slots. -/
structure Base where
  w0 : World
  S0 : BSet
  F0 : BSet
  N : Nat
  /-- What labels stand for from the beginning: arguments that are changed in place. -/
  fix : Nat → Option (List Value)
  gh : Gh F0 w0
  ghs : ∀ p ∈ GK, ¬ S0 p
  ghl : ∀ p ∈ GK, p < w0.heap.size

structure InvG (B : Base) (F : BSet) (Sg : Nat → BSet) (cg : Nat → List Value) (σ : St) (a : Act) (w : World) : Prop where
  fr : Fr B.w0 B.S0 w
  size : a.tmps.size = B.N
  defers : a.defers = []
  f0 : Sub B.F0 F
  fl : ∀ k, F k → k < w.heap.size
  fs : ∀ k, F k → k < B.w0.heap.size → ¬ B.S0 k → B.F0 k
  lab : ∀ l b, σ.L l = some b → Rep F w b.t b.m b.x (cg l) (Sg l)
  dis : ∀ l l' b b', l ≠ l' → σ.L l = some b → σ.L l' = some b' → Dis (Sg l) (Sg l')
  disF : ∀ l b, σ.L l = some b → Dis (Sg l) F
  lt : ∀ l b, σ.L l = some b → ∀ k, Sg l k → k < w.heap.size
  may : ∀ l b, σ.L l = some b → ∀ k, Sg l k → k < B.w0.heap.size → B.S0 k
  used : ∀ l b, σ.L l = some b → σ.U l = true
  fix : ∀ l cs, B.fix l = some cs → (σ.U l = true ∧ l % 8 = 6) ∧ ∀ b, σ.L l = some b → cg l = cs
  ent : ∀ t e, σ.E t = some e → EntOkT F w σ.L σ.U cg e (a.tmps.getD t undef)

def Inv (B : Base) (σ : St) (a : Act) (w : World) : Prop := ∃ F Sg cg, InvG B F Sg cg σ a w

/-! ### How meanings stay -/
/-- The same value found, the same way, where what is owned is the same. -/
theorem resolve_congr {F : BSet} {w w' : World} : ∀ (π : List Stp) (t : Ty) (m : Md) (x : t.T) (cs : List Value) (S : BSet) (s : Option (Nat × Nat)), Rep F w t m x cs S → ownP t m π = true → (get? t x π).isSome = true →
    (∀ k, S k → w'.heap[k]? = w.heap[k]?) → resolve w' t cs s π = resolve w t cs s π := by
  intro π
  induction π with
  | nil => intro t m x cs S s _ _ _ _; cases t <;> rfl
  | cons p0 π ih =>
    intro t m x cs S s h ho hg hw
    unfold get? at hg
    cases t <;> cases p0 <;> simp only [getP, Option.isSome_none, reduceCtorEq] at hg
    case st.st t => exact ih t m x cs S s h ho hg hw
    case pair.fst a b =>
      obtain ⟨c1, c2, S1, S2, rfl, h1, h2, s1, s2, d⟩ := h
      simp only [resolve]
      rw [take_width (rep_width _ _ _ _ _ _ _ h1)]
      exact ih a _ _ _ _ _ h1 ho hg (fun k hk => hw k (s1 k hk))
    case pair.snd a b =>
      obtain ⟨c1, c2, S1, S2, rfl, h1, h2, s1, s2, d⟩ := h
      simp only [resolve]
      rw [drop_width (rep_width _ _ _ _ _ _ _ h1)]
      exact ih b _ _ _ _ _ h2 ho hg (fun k hk => hw k (s2 k hk))
    case sl.idx t i =>
      split at hg
      · rename_i h0
        cases hz : (x : List t.T)[i.toNat]? with
        | none => rw [hz] at hg; simp at hg
        | some z =>
          rw [hz] at hg
          simp only [ownP, Bool.and_eq_true] at ho
          cases m with
          | ro => simp [Md.isOwn] at ho
          | pr _ _ => simp [Md.isOwn] at ho
          | own m =>
            obtain ⟨a, cap, rfl, h1, h2, h3⟩ := h
            have hi : i.toNat < List.length x := (List.getElem?_eq_some_iff.1 hz).1
            rcases h3 with rfl | ⟨b, off, c, e, rfl, hb, hc, hS, S1, hr, s1, n1⟩
            · omega
            have hW := fun y c S (h : Rep F w t m y c S) => rep_width F w t m y c S h
            obtain ⟨d, T, pre, post, hd, t1, hrow, hp, _⟩ := RepL.focus hW hz hr
            have hcell : cellsAt w b (off + i.toNat * t.width) t.width = d := by
              have hdl := hW _ _ _ hd
              have hrl := RepL.len hW hr
              have hcl : off + x.length * t.width ≤ c.toList.length := by
                rw [Array.length_toList]
                exact Nat.le_trans (Nat.add_le_add_left (Nat.mul_le_mul_right _ h1) _) hc
              have hlies : Lies w b (off + i.toNat * t.width) d := by
                refine ⟨c, e, hb, c.toList.take off ++ pre, post ++ (c.toList.drop off).drop (x.length * t.width), ?_, ?_⟩
                · rw [show c.toList.take off ++ pre ++ d ++ (post ++ (c.toList.drop off).drop (x.length * t.width)) = c.toList.take off ++ ((pre ++ d ++ post) ++ (c.toList.drop off).drop (x.length * t.width)) by simp]
                  rw [← hrow, List.take_append_drop, List.take_append_drop]
                · rw [List.length_append, List.length_take, hp]; omega
              have := cellsAt_lies hlies
              rwa [hdl] at this
            have hcell' : cellsAt w' b (off + i.toNat * t.width) t.width = d := by
              rw [← hcell]; unfold cellsAt; rw [hw b hS]
            simp only [resolve]
            rw [if_pos ⟨h0, hi⟩, if_pos ⟨h0, hi⟩, hcell, hcell']
            exact ih t m z d T _ hd ho.2 hg (fun k hk => hw k (s1 k (t1 k hk)))
      · simp at hg
    case arr.ai n t i =>
      split at hg
      · rename_i h0
        cases hz : (x : List t.T)[i.toNat]? with
        | none => rw [hz] at hg; simp at hg
        | some z =>
          rw [hz] at hg
          obtain ⟨hn, h⟩ := h
          have hW := fun y c S (h : Rep F w t m.el y c S) => rep_width F w t m.el y c S h
          obtain ⟨d, T, pre, post, hd, t1, rfl, hp, _⟩ := RepL.focus hW hz h
          have hdl := hW _ _ _ hd
          have hi : i.toNat < n := by rw [← hn]; exact (List.getElem?_eq_some_iff.1 hz).1
          have hc : ((pre ++ d ++ post).drop (i.toNat * t.width)).take t.width = d := by rw [List.append_assoc, drop_width hp, take_width hdl]
          simp only [resolve]
          rw [if_pos ⟨h0, hi⟩, if_pos ⟨h0, hi⟩, hc]
          exact ih t m.el z d T _ hd ho hg (fun k hk => hw k (t1 k hk))
      · simp at hg
    case box.deref t =>
      simp only [ownP, Bool.and_eq_true] at ho
      cases m with
      | ro => simp [Md.isOwn] at ho
      | pr _ _ => simp [Md.isOwn] at ho
      | own m =>
        obtain ⟨p, c, e, rfl, hb, hS, S1, hr, s1, n1⟩ := h
        have hcl := rep_width F w t m x _ _ hr
        have hcell : cellsAt w p 0 t.width = c.toList := by
          have := cellsAt_lies (w := w) (b := p) (o := 0) (cs := c.toList) ⟨c, e, hb, [], [], by simp, rfl⟩
          rwa [hcl] at this
        have hcell' : cellsAt w' p 0 t.width = c.toList := by rw [← hcell]; unfold cellsAt; rw [hw p hS]
        simp only [resolve]
        rw [hcell, hcell']
        exact ih t m x _ S1 _ hr ho.2 hg (fun k hk => hw k (s1 k hk))
    case ptr.deref t =>
      simp only [ownP, Bool.and_eq_true] at ho
      cases x with
      | none => simp at hg
      | some z =>
      cases m with
      | ro => simp [Md.isOwn] at ho
      | pr _ _ => simp [Md.isOwn] at ho
      | own m =>
        obtain ⟨p, c, e, rfl, hb, hS, S1, hr, s1, n1⟩ := h
        have hcl := rep_width F w t m z _ _ hr
        have hcell : cellsAt w p 0 t.width = c.toList := by
          have := cellsAt_lies (w := w) (b := p) (o := 0) (cs := c.toList) ⟨c, e, hb, [], [], by simp, rfl⟩
          rwa [hcl] at this
        have hcell' : cellsAt w' p 0 t.width = c.toList := by rw [← hcell]; unfold cellsAt; rw [hw p hS]
        simp only [resolve]
        rw [hcell, hcell']
        exact ih t m z _ S1 _ hr ho.2 hg (fun k hk => hw k (s1 k hk))
end Go.Proofs.YtgonfcjdhbjkcaaDoor.Rf
/- Layer 4: how states stay when the world grows, when a slot is given a value; constants; operations on numbers. -/
set_option linter.unusedVariables false
set_option linter.unusedSimpArgs false
namespace Go.Proofs.YtgonfcjdhbjkcaaDoor.Rf
open Go

theorem EntOk.frame {F F' : BSet} {w w' : World} {L : Nat → Option Lab} {U : Nat → Bool} {cg : Nat → List Value} {Sg : Nat → BSet} {e : Ent0} {v : Value} (h : EntOk F w L U cg e v) (hF : Sub F F') (hFw : ∀ k, F k → w'.heap[k]? = w.heap[k]?)
    (hlab : ∀ l b, L l = some b → Rep F w b.t b.m b.x (cg l) (Sg l)) (hw : ∀ l b, L l = some b → ∀ k, Sg l k → w'.heap[k]? = w.heap[k]?) : EntOk F' w' L U cg e v := by
  cases e with
  | val t x =>
    obtain ⟨cs, h1, h2⟩ := h
    exact ⟨cs, rep_frame hF hFw t .ro x cs _ _ h1 (Sub.refl _) (fun _ h => h.elim), h2⟩
  | cst u => exact h
  | radr t x =>
    obtain ⟨a, ds, h1, h2, h3, h4⟩ := h
    exact ⟨a, ds, h1, hF _ h2, h3.congr (hFw _ h2), rep_frame hF hFw t .ro x ds _ _ h4 (Sub.refl _) (fun _ h => h.elim)⟩
  | hdr l n π c =>
    refine ⟨h.1, fun b hb => ?_⟩
    obtain ⟨h0, h1, h2⟩ := h.2 b hb
    refine ⟨h0, h1, fun hn => ?_⟩
    obtain ⟨h3, h4, h5⟩ := h2 hn
    refine ⟨h3, h4, ?_⟩
    rw [resolve_congr π b.t b.m b.x (cg l) (Sg l) none (hlab l b hb) h3 (by rw [h4]; rfl) (hw l b hb)]
    exact h5
  | adr l n π c =>
    refine ⟨h.1, fun b hb => ?_⟩
    obtain ⟨h0, h1, h2⟩ := h.2 b hb
    refine ⟨h0, h1, fun hn => ?_⟩
    obtain ⟨h3, h4, h5⟩ := h2 hn
    refine ⟨h3, h4, ?_⟩
    rw [resolve_congr π b.t b.m b.x (cg l) (Sg l) none (hlab l b hb) h3 (by rw [h4]; rfl) (hw l b hb)]
    exact h5

theorem EntsOk.imp {F F' : BSet} {w w' : World} {L L' : Nat → Option Lab} {U U' : Nat → Bool} {cg cg' : Nat → List Value} (hi : ∀ e v, EntOk F w L U cg e v → EntOk F' w' L' U' cg' e v) : ∀ {es : List Ent0} {vs : List Value}, EntsOk F w L U cg es vs → EntsOk F' w' L' U' cg' es vs := by
  intro es
  induction es with
  | nil => intro vs h; exact h
  | cons e es ih => rintro vs ⟨v, r, rfl, h1, h2⟩; exact ⟨v, r, rfl, hi _ _ h1, ih h2⟩
theorem EntOkT.imp {F F' : BSet} {w w' : World} {L L' : Nat → Option Lab} {U U' : Nat → Bool} {cg cg' : Nat → List Value} (hi : ∀ e v, EntOk F w L U cg e v → EntOk F' w' L' U' cg' e v) {e : Ent} {v : Value} (h : EntOkT F w L U cg e v) : EntOkT F' w' L' U' cg' e v := by
  cases e with
  | one e => exact hi _ _ h
  | tup es => obtain ⟨vs, h1, h2⟩ := h; exact ⟨vs, h1, h2.imp hi⟩

/-- The world grows; what is owned and what is read alone stays. -/
theorem InvG.world {B : Base} {F : BSet} {Sg : Nat → BSet} {cg : Nat → List Value} {σ : St} {a : Act} {w w' : World} (h : InvG B F Sg cg σ a w) (ho : w'.os = w.os) (ht : w'.tape = w.tape) (hou : w'.output = w.output) (hs : w.heap.size ≤ w'.heap.size)
    (hb : ∀ k, k < w.heap.size → w'.heap[k]? = w.heap[k]?) : InvG B F Sg cg σ a w' :=
  { fr := ⟨ho.trans h.fr.os, ht.trans h.fr.tape, hou.trans h.fr.output, Nat.le_trans h.fr.size hs, fun k hk hn => (hb k (Nat.lt_of_lt_of_le hk h.fr.size)).trans (h.fr.block k hk hn)⟩
    size := h.size
    defers := h.defers
    f0 := h.f0
    fl := fun k hk => Nat.lt_of_lt_of_le (h.fl k hk) hs
    fs := h.fs
    lab := fun l b hl => rep_frame (Sub.refl _) (fun k hk => hb k (h.fl k hk)) _ _ _ _ _ _ (h.lab l b hl) (Sub.refl _) (fun k hk => hb k (h.lt l b hl k hk))
    dis := h.dis
    disF := h.disF
    lt := fun l b hl k hk => Nat.lt_of_lt_of_le (h.lt l b hl k hk) hs
    may := h.may
    used := h.used
    fix := h.fix
    ent := fun t e he => (h.ent t e he).imp fun e v hv => hv.frame (Sub.refl _) (fun k hk => hb k (h.fl k hk)) h.lab (fun l b hl k hk => hb k (h.lt l b hl k hk)) }

theorem getD_put {a : Act} {d t : Nat} {v : Value} (hd : d < a.tmps.size) : (a.put (some d) v).tmps.getD t undef = if t = d then v else a.tmps.getD t undef := by
  simp only [Act.put, Array.getD_eq_getD_getElem?]
  by_cases h : t = d
  · subst h; rw [if_pos rfl, Array.getElem?_setIfInBounds_self_of_lt hd]; rfl
  · rw [if_neg h, Array.getElem?_setIfInBounds_ne (Ne.symm h)]

theorem InvG.putT {B : Base} {F : BSet} {Sg : Nat → BSet} {cg : Nat → List Value} {σ : St} {a : Act} {w : World} (h : InvG B F Sg cg σ a w) {d : Nat} (hd : d < B.N) {e : Ent} {v : Value} (he : EntOkT F w σ.L σ.U cg e v) : InvG B F Sg cg { σ with E := upd σ.E d (some e) } (a.put (some d) v) w :=
  { h with
    size := by simp [Act.put, h.size]
    defers := h.defers
    ent := fun t e' he' => by
      rw [getD_put (by rw [h.size]; exact hd)]
      rcases upd_some he' with ⟨rfl, e1⟩ | ⟨hn, e1⟩
      · rw [if_pos rfl]; injection e1 with e1; subst e1; exact he
      · rw [if_neg hn]; exact h.ent t e' e1 }
theorem InvG.putU {B : Base} {F : BSet} {Sg : Nat → BSet} {cg : Nat → List Value} {σ : St} {a : Act} {w : World} (h : InvG B F Sg cg σ a w) {d : Nat} (hd : d < B.N) {v : Value} : InvG B F Sg cg { σ with E := upd σ.E d none } (a.put (some d) v) w :=
  { h with
    size := by simp [Act.put, h.size]
    defers := h.defers
    ent := fun t e' he' => by
      rw [getD_put (by rw [h.size]; exact hd)]
      rcases upd_some he' with ⟨rfl, e1⟩ | ⟨hn, e1⟩
      · cases e1
      · rw [if_neg hn]; exact h.ent t e' e1 }

/-! ### Constants -/
def inKb (k : IntKind) (n : Int) : Bool := decide (kLo k ≤ n) && decide (n ≤ kHi k)
theorem inKb_iff {k : IntKind} {n : Int} (h : inKb k n = true) : inK k n := by
  simp [inKb] at h; exact h

def rdL {α : Type} (f : List Value → Option α) (sz : Nat) : Nat → List Value → Option (List α)
  | 0, cs => match cs with | [] => some [] | _ :: _ => none
  | n + 1, cs => match f (cs.take sz) with
    | some x => match rdL f sz n (cs.drop sz) with
      | some xs => some (x :: xs)
      | none => none
    | none => none

/-- A constant's cells as what they are. -/
def rdC : (t : Ty) → List Value → Option t.T
  | .int k, cs => match cs with | [.int k' n] => bif (decide (k' = k) && inKb k n) then some n else none | _ => none
  | .bool, cs => match cs with | [.bool b] => some b | _ => none
  | .str, cs => match cs with | [.string u] => bif Nat.ble u.size maxLen then some (sbytes u) else none | _ => none
  | .unit, cs => match cs with | [] => some () | _ => none
  | .pair a b, cs => match rdC a (cs.take a.width) with
    | some x => match rdC b (cs.drop a.width) with
      | some y => some (x, y)
      | none => none
    | none => none
  | .st t, cs => rdC t cs
  | .arr n t, cs => rdL (rdC t) t.width n cs
  | .sl _, cs => match cs with | [.slice none 0 0] => some [] | _ => none
  | .box _, _ => none
  | .ptr _, cs => match cs with | [.pointer none] => some none | _ => none
  | .junk, _ => none
  | .hol _, _ => none
  | .chan, cs => match cs with | [.chan none] => some (0, []) | _ => none
  | .fn _, _ => none
  | .may _, _ => none

theorem rdL_ok {α : Type} {R : α → List Value → BSet → Prop} {f : List Value → Option α} {sz : Nat} (hf : ∀ cs x, f cs = some x → R x cs BSet.none) : ∀ (n : Nat) (cs : List Value) (xs : List α), rdL f sz n cs = some xs → xs.length = n ∧ RepL R xs cs BSet.none := by
  intro n
  induction n with
  | zero =>
    intro cs xs h
    cases cs with
    | nil => simp only [rdL, Option.some.injEq] at h; subst h; exact ⟨rfl, rfl⟩
    | cons _ _ => simp [rdL] at h
  | succ n ih =>
    intro cs xs h
    simp only [rdL] at h
    cases h1 : f (cs.take sz) with
    | none => rw [h1] at h; cases h
    | some x =>
      rw [h1] at h
      simp only at h
      cases h2 : rdL f sz n (cs.drop sz) with
      | none => rw [h2] at h; cases h
      | some ys =>
        rw [h2] at h
        simp only [Option.some.injEq] at h
        subst h
        obtain ⟨h3, h4⟩ := ih _ _ h2
        exact ⟨by simp [h3], cs.take sz, cs.drop sz, BSet.none, BSet.none, (List.take_append_drop _ _).symm, hf _ _ h1, h4, Sub.refl _, Sub.refl _, fun _ h => h.elim⟩

/-- A channel that is nil is not owned. -/
def okM : Ty → Md → Bool
  | .pair a b, m => okM a m.fst && okM b m.snd
  | .st t, m => okM t m
  | .arr _ t, m => okM t m.el
  | .chan, m => match m with | .own _ => false | _ => true
  | _, _ => true
theorem okM_ro : ∀ (t : Ty), okM t .ro = true := by
  intro t
  induction t with
  | pair a b iha ihb => simp [okM, Md.fst, Md.snd, iha, ihb]
  | st t ih => exact ih
  | arr n t ih => exact ih
  | _ => rfl

theorem rdC_ok {F : BSet} {w : World} : ∀ (t : Ty) (m : Md) (cs : List Value) (x : t.T), okM t m = true → rdC t cs = some x → Rep F w t m x cs BSet.none := by
  intro t
  induction t with
  | int k =>
    intro m cs x hm h
    unfold rdC at h
    split at h
    · rename_i k' n
      cases hb : (decide (k' = k) && inKb k n)
      · rw [hb] at h; cases h
      · rw [hb] at h
        simp only [cond_true, Option.some.injEq] at h
        simp at hb
        obtain ⟨rfl, hb⟩ := hb
        subst h
        exact ⟨rfl, inKb_iff hb⟩
    · cases h
  | bool => intro m cs x hm h; unfold rdC at h; split at h <;> simp at h; subst h; rfl
  | str =>
    intro m cs x hm h
    unfold rdC at h
    split at h
    · rename_i u
      cases hb : Nat.ble u.size maxLen
      · rw [hb] at h; cases h
      · rw [hb] at h
        simp only [cond_true, Option.some.injEq] at h
        subst h
        exact ⟨u, rfl, rfl, Nat.le_of_ble_eq_true hb⟩
    · cases h
  | unit => intro m cs x hm h; unfold rdC at h; split at h <;> simp at h; rfl
  | pair a b iha ihb =>
    intro m cs x hm h
    simp only [okM, Bool.and_eq_true] at hm
    simp only [rdC] at h
    cases h1 : rdC a (cs.take a.width) with
    | none => rw [h1] at h; cases h
    | some y =>
      rw [h1] at h
      simp only at h
      cases h2 : rdC b (cs.drop a.width) with
      | none => rw [h2] at h; cases h
      | some z =>
        rw [h2] at h
        simp only [Option.some.injEq] at h
        subst h
        exact ⟨cs.take a.width, cs.drop a.width, BSet.none, BSet.none, (List.take_append_drop _ _).symm, iha _ _ _ hm.1 h1, ihb _ _ _ hm.2 h2, Sub.refl _, Sub.refl _, fun _ h => h.elim⟩
  | st t ih => intro m cs x hm h; exact ih m cs x hm h
  | arr n t ih => intro m cs x hm h; exact rdL_ok (R := Rep F w t m.el) (fun cs x h => ih m.el cs x hm h) n cs x h
  | sl t ih =>
    intro m cs x hm h
    unfold rdC at h
    split at h <;> simp at h
    subst h
    cases m with
    | ro => exact ⟨none, 0, rfl, Nat.le_refl _, by simp [maxLen], fun h => absurd h (by simp)⟩
    | pr _ _ => exact ⟨none, 0, rfl, Nat.le_refl _, by simp [maxLen], fun h => absurd h (by simp)⟩
    | own m => exact ⟨none, 0, rfl, Nat.le_refl _, by simp [maxLen], .inl rfl⟩
  | box t ih => intro m cs x hm h; simp [rdC] at h
  | junk => intro m cs x hm h; simp [rdC] at h
  | hol t ih => intro m cs x hm h; simp [rdC] at h
  | chan =>
    intro m cs x hm h
    unfold rdC at h
    split at h <;> simp at h
    cases m with
    | own _ => cases hm
    | ro => exact ⟨.chan none, rfl, rfl⟩
    | pr _ _ => exact ⟨.chan none, rfl, rfl⟩
  | fn f => intro m cs x hm h; simp [rdC] at h
  | may t ih => intro m cs x hm h; simp [rdC] at h
  | ptr t ih =>
    intro m cs x hm h
    unfold rdC at h
    split at h <;> simp at h
    subst h
    cases m <;> rfl

def Value.isAgg : Value → Bool
  | .agg _ => true
  | _ => false
def vrC (t : Ty) (v : Value) : Bool := bif t.agg then Value.isAgg v else v.oneCell'
theorem vrC_ok {t : Ty} {v : Value} (h : vrC t v = true) : VR t v.cells.toList v := by
  unfold vrC at h
  unfold VR
  cases ha : t.agg
  · rw [ha] at h
    simp only [cond_false] at h
    rw [if_neg (by simp)]
    cases v <;> first | exact ⟨rfl, rfl⟩ | (simp [Value.oneCell'] at h)
  · rw [ha] at h
    simp only [cond_true] at h
    rw [if_pos rfl]
    cases v <;> first | rfl | (simp [Value.isAgg] at h)

def cstE : Value → Ent0
  | .int k n => bif inKb k n then .val (.int k) n else .cst (.int k n)
  | .bool b => .val .bool b
  | .string u => bif Nat.ble u.size maxLen then .val .str (sbytes u) else .cst (.string u)
  | v => .cst v
theorem cstE_ok {F : BSet} {w : World} {L : Nat → Option Lab} {U : Nat → Bool} {cg : Nat → List Value} (v : Value) : EntOk F w L U cg (cstE v) v := by
  unfold cstE
  split
  · rename_i k n
    cases hb : inKb k n
    · exact rfl
    · exact ⟨[.int k n], ⟨rfl, inKb_iff hb⟩, by simp [VR, Ty.agg, Value.oneCell']⟩
  · exact ⟨_, rfl, by simp [VR, Ty.agg, Value.oneCell']⟩
  · rename_i u
    cases hb : Nat.ble u.size maxLen
    · exact rfl
    · exact ⟨[.string u], ⟨u, rfl, rfl, Nat.le_of_ble_eq_true hb⟩, by simp [VR, Ty.agg, Value.oneCell']⟩
  · exact rfl

def opd (σ : St) : Operand → Option Ent0
  | .tmp t => match σ.E t with
    | some (.one e) => some e
    | _ => none
  | .const v => some (cstE v)
  | .func f => some (.val (.fn f) ())
  | _ => none
theorem opd_ok {B : Base} {F : BSet} {Sg : Nat → BSet} {cg : Nat → List Value} {σ : St} {a : Act} {w : World} (h : InvG B F Sg cg σ a w) {x : Operand} {e : Ent0} (he : opd σ x = some e) : EntOk F w σ.L σ.U cg e (a.eval x) := by
  unfold opd at he
  split at he
  · rename_i t
    split at he
    · rename_i e' h'
      injection he with he
      subst he
      have := h.ent t _ h'
      exact this
    · cases he
  · injection he with he; subst he; exact cstE_ok _
  · rename_i f
    injection he with he; subst he
    exact ⟨[.func (.func f) #[] #[]], rfl, by simp [VR, Ty.agg, Value.oneCell', Act.eval]⟩
  · cases he

/-- An operand as a value of a type. -/
def asT {R : Type} (e : Ent0) (want : Ty) (K : want.T → Option R) : Option R :=
  match e with
  | .val t x => if h : t = want then K (h ▸ x) else none
  | .cst v => bif vrC want v then (match rdC want v.cells.toList with | some x => K x | none => none) else none
  | _ => none
theorem asT_ok {R : Type} {F : BSet} {w : World} {L : Nat → Option Lab} {U : Nat → Bool} {cg : Nat → List Value} {e : Ent0} {want : Ty} {K : want.T → Option R} {r : R} (h : asT e want K = some r) {v : Value} (he : EntOk F w L U cg e v) :
    ∃ x cs, K x = some r ∧ Rep F w want .ro x cs BSet.none ∧ VR want cs v := by
  unfold asT at h
  split at h
  · rename_i t x
    split at h
    · rename_i ht
      subst ht
      obtain ⟨cs, h1, h2⟩ := he
      exact ⟨x, cs, h, h1, h2⟩
    · cases h
  · rename_i u
    have hv : v = u := he
    subst hv
    cases hb : vrC want v
    · rw [hb] at h; cases h
    · rw [hb] at h
      simp only [cond_true] at h
      cases hc : rdC want v.cells.toList with
      | none => rw [hc] at h; cases h
      | some x => rw [hc] at h; exact ⟨x, _, h, rdC_ok _ _ _ _ (okM_ro _) hc, vrC_ok hb⟩
  · cases h

theorem vr_int {F : BSet} {w : World} {k : IntKind} {m : Md} {x : Int} {cs : List Value} {S : BSet} {v : Value} (h : Rep F w (.int k) m x cs S) (hv : VR (.int k) cs v) : v = .int k x ∧ inK k x := by
  obtain ⟨rfl, h2⟩ := h
  simp [VR, Ty.agg] at hv
  exact ⟨hv.1.symm, h2⟩
theorem vr_bool {F : BSet} {w : World} {m : Md} {x : Bool} {cs : List Value} {S : BSet} {v : Value} (h : Rep F w .bool m x cs S) (hv : VR .bool cs v) : v = .bool x := by
  have h' : cs = [.bool x] := h
  subst h'
  simp [VR, Ty.agg] at hv
  exact hv.1.symm
theorem vr_str {F : BSet} {w : World} {m : Md} {x : List Int} {cs : List Value} {S : BSet} {v : Value} (h : Rep F w .str m x cs S) (hv : VR .str cs v) : ∃ u, v = .string u ∧ x = sbytes u ∧ u.size ≤ maxLen := by
  obtain ⟨u, rfl, h2, h3⟩ := h
  simp [VR, Ty.agg] at hv
  exact ⟨u, hv.1.symm, h2, h3⟩
theorem mk_int {F : BSet} {w : World} {L : Nat → Option Lab} {U : Nat → Bool} {cg : Nat → List Value} {k : IntKind} {x : Int} (h : inK k x) : EntOk F w L U cg (.val (.int k) x) (.int k x) :=
  ⟨[.int k x], ⟨rfl, h⟩, by simp [VR, Ty.agg, Value.oneCell']⟩
theorem mk_bool {F : BSet} {w : World} {L : Nat → Option Lab} {U : Nat → Bool} {cg : Nat → List Value} {b : Bool} : EntOk F w L U cg (.val .bool b) (.bool b) :=
  ⟨[.bool b], rfl, by simp [VR, Ty.agg, Value.oneCell']⟩
theorem mk_str {F : BSet} {w : World} {L : Nat → Option Lab} {U : Nat → Bool} {cg : Nat → List Value} {u : ByteArray} (h : u.size ≤ maxLen) : EntOk F w L U cg (.val .str (sbytes u)) (.string u) :=
  ⟨[.string u], ⟨u, rfl, rfl, h⟩, by simp [VR, Ty.agg, Value.oneCell']⟩
end Go.Proofs.YtgonfcjdhbjkcaaDoor.Rf
/- Layer 5: operations that touch no memory. -/
set_option linter.unusedVariables false
set_option linter.unusedSimpArgs false
namespace Go.Proofs.YtgonfcjdhbjkcaaDoor.Rf
open Go

def bitI (op : BinOp) (k : IntKind) (x y : Int) : Int :=
  match op with
  | .and => k.wrap (BitVec.ofInt k.bits x &&& BitVec.ofInt k.bits y).toNat
  | .or => k.wrap (BitVec.ofInt k.bits x ||| BitVec.ofInt k.bits y).toNat
  | .xor => k.wrap (BitVec.ofInt k.bits x ^^^ BitVec.ofInt k.bits y).toNat
  | _ => k.wrap (BitVec.ofInt k.bits x &&& ~~~ BitVec.ofInt k.bits y).toNat

/-- Are two rows of bytes in order? -/
def strLess : List Int → List Int → Bool
  | _, [] => false
  | [], _ :: _ => true
  | a :: x, b :: y => decide (a < b) || (decide (a = b) && strLess x y)

def isShift : BinOp → Bool
  | .shl | .shr => true
  | _ => false
def isBool : Option TD → Bool
  | some d => match d.kd with | .bool => true | _ => false
  | none => false

/-- An operation on two numbers, truths or strings. -/
def xBin {R : Type} (td : Option TD) (op : BinOp) : Ent0 → Ent0 → (Ent0 → Option R) → Option R
  | .val (.int k) a, .val (.int k') b, K =>
    match op with
    | .shl => if b < 0 then none else K (.val (.int k) (k.wrap (a * 2 ^ min b.toNat k.bits)))
    | .shr => if b < 0 then none else K (.val (.int k) (Int.fdiv a (2 ^ min b.toNat k.bits)))
    | op => bif decide (k = k') then (match op with
      | .add => K (.val (.int k) (k.wrap (a + b)))
      | .sub => K (.val (.int k) (k.wrap (a - b)))
      | .mul => K (.val (.int k) (k.wrap (a * b)))
      | .quo => if b = 0 then none else K (.val (.int k) (k.wrap (Int.tdiv a b)))
      | .rem => if b = 0 then none else K (.val (.int k) (Int.tmod a b))
      | .and => K (.val (.int k) (bitI .and k a b))
      | .or => K (.val (.int k) (bitI .or k a b))
      | .xor => K (.val (.int k) (bitI .xor k a b))
      | .andNot => K (.val (.int k) (bitI .andNot k a b))
      | .eql => K (.val .bool (decide (a = b)))
      | .neq => K (.val .bool (!decide (a = b)))
      | .lss => K (.val .bool (decide (a < b)))
      | .leq => K (.val .bool (decide (a ≤ b)))
      | .gtr => K (.val .bool (decide (b < a)))
      | .geq => K (.val .bool (decide (b ≤ a)))
      | _ => none) else none
  | .val .bool a, .val .bool b, K => bif isBool td then (match op with
      | .eql => K (.val .bool (a == b))
      | .neq => K (.val .bool (!(a == b)))
      | _ => none) else none
  | .val .str a, .val .str b, K => match op with
      | .add => if List.length a + List.length b ≤ 9223372036854775807 then K (.val .str (List.append a b)) else none
      | .eql => K (.val .bool (decide ((a : List Int) = b)))
      | .neq => K (.val .bool (!decide ((a : List Int) = b)))
      | .lss => K (.val .bool (strLess a b))
      | .leq => K (.val .bool (strLess a b || decide ((a : List Int) = b)))
      | .gtr => K (.val .bool (!(strLess a b || decide ((a : List Int) = b))))
      | .geq => K (.val .bool (!strLess a b))
      | _ => none
  | _, _, _ => none

theorem sbytes_inj {u v : ByteArray} : (sbytes u = sbytes v) = (u = v) := by
  apply propext
  constructor
  · intro h
    unfold sbytes at h
    have := (List.map_inj_right (f := fun b : UInt8 => (b.toNat : Int)) (fun x y e => UInt8.toNat_inj.1 (by have e' : (x.toNat : Int) = y.toNat := e; omega))).1 h
    cases u; cases v
    simp at this
    rw [this]
  · rintro rfl; rfl
theorem sbytes_length (u : ByteArray) : (sbytes u).length = u.size := by simp [sbytes]
theorem sbytes_append (u v : ByteArray) : sbytes (u ++ v) = sbytes u ++ sbytes v := by simp [sbytes, ByteArray.data_append]
theorem toList_eq (u : ByteArray) : u.toList = u.data.toList := ByteArray.toList_eq u

theorem strLess_ok (x y : List UInt8) : strLess (x.map fun b => (b.toNat : Int)) (y.map fun b => (b.toNat : Int)) = Op.bytesLess x y := by
  induction x generalizing y with
  | nil => cases y <;> rfl
  | cons a x ih =>
    cases y with
    | nil => rfl
    | cons b y =>
      simp only [List.map_cons, strLess, Op.bytesLess, ih]
      congr 1
      · rw [Bool.eq_iff_iff]; simp [UInt8.lt_iff_toNat_lt]
      · congr 1
        rw [Bool.eq_iff_iff]; simp [← UInt8.toNat_inj]; omega

theorem inK_tmod {k : IntKind} {a b : Int} (ha : inK k a) (hb : inK k b) : inK k (a.tmod b) := by
  have h0 : b = 0 ∨ (a.tmod b).natAbs < b.natAbs := by
    rcases Int.decEq b 0 with h | h
    · right
      have h1 : (a.tmod b).natAbs = a.natAbs % b.natAbs := Int.natAbs_tmod a b
      rw [h1]
      exact Nat.mod_lt _ (by omega)
    · exact .inl h
  have h1 : (a.tmod b).natAbs ≤ a.natAbs := by rw [Int.natAbs_tmod]; exact Nat.mod_le _ _
  have h2 : 0 ≤ a → 0 ≤ a.tmod b := fun h => Int.tmod_nonneg b h
  have h3 : a ≤ 0 → a.tmod b ≤ 0 := fun h => by
    have := Int.tmod_nonneg b (show 0 ≤ -a by omega)
    rw [Int.neg_tmod] at this
    omega
  clear h0
  generalize a.tmod b = e at *
  unfold inK at *
  cases k <;> simp [kLo, kHi] at * <;> omega
theorem inK_fdiv {k : IntKind} {a : Int} (ha : inK k a) (n : Nat) : inK k (Int.fdiv a (2 ^ n)) := by
  have hp : (0 : Int) < 2 ^ n := Int.pow_pos (by omega)
  rw [Int.fdiv_eq_ediv_of_nonneg _ (by omega)]
  have h1 : 0 ≤ a → 0 ≤ a / 2 ^ n ∧ a / 2 ^ n ≤ a := fun h => ⟨Int.ediv_nonneg h (by omega), Int.ediv_le_self _ h⟩
  have h2 : a < 0 → a ≤ a / 2 ^ n ∧ a / 2 ^ n < 0 := fun h => ⟨by
    rw [Int.le_ediv_iff_mul_le hp]
    have : a * 2 ^ n ≤ a * 1 := Int.mul_le_mul_of_nonpos_left (by omega) (by omega)
    omega, Int.ediv_neg_of_neg_of_pos h hp⟩
  unfold inK at *
  cases k <;> simp [kLo, kHi] at * <;> omega

section
variable {P : Program} {F : BSet} {w : World} {L : Nat → Option Lab} {U : Nat → Bool} {cg : Nat → List Value}

theorem val_int {k : IntKind} {x : Int} {v : Value} (h : EntOk F w L U cg (.val (.int k) x) v) : v = .int k x ∧ inK k x := by
  obtain ⟨cs, h1, h2⟩ := h; exact vr_int h1 h2
theorem val_bool {x : Bool} {v : Value} (h : EntOk F w L U cg (.val .bool x) v) : v = .bool x := by
  obtain ⟨cs, h1, h2⟩ := h; exact vr_bool h1 h2
theorem val_str {x : List Int} {v : Value} (h : EntOk F w L U cg (.val .str x) v) : ∃ u, v = .string u ∧ x = sbytes u ∧ u.size ≤ maxLen := by
  obtain ⟨cs, h1, h2⟩ := h; exact vr_str h1 h2
theorem mk_str' {u : ByteArray} {x : List Int} (h : u.size ≤ maxLen) (hx : x = sbytes u) : EntOk F w L U cg (.val .str x) (.string u) := hx ▸ mk_str h

theorem xBin_ok {R : Type} {td : Option TD} {op : BinOp} {t : TypeId} {x y : Ent0} {ox oy : Operand} {K : Ent0 → Option R} {r : R} (h : xBin td op x y K = some r) (htd : ∀ d, td = some d → TOk P t d) {u v : Value} (hx : EntOk F w L U cg x u) (hy : EntOk F w L U cg y v) :
    ∃ e z, K e = some r ∧ (do eqGuard op t ox oy u v; binOp op t u v : Sem Value).run P w = .ok z w ∧ EntOk F w L U cg e z := by
  unfold xBin at h
  split at h
  · rename_i k a k' b
    obtain ⟨rfl, ha⟩ := val_int hx
    obtain ⟨rfl, hb⟩ := val_int hy
    split at h
    · split at h
      · cases h
      · rename_i hb0
        exact ⟨_, _, h, by simp [binOp, Op.shift, hb0, go_sem], mk_int (inK_wrap _ _)⟩
    · split at h
      · cases h
      · rename_i hb0
        exact ⟨_, _, h, by simp [binOp, Op.shift, hb0, go_sem], mk_int (inK_fdiv ha _)⟩
    · rename_i op hsl hsr
      cases hk : decide (k = k')
      · rw [hk] at h; cases h
      rw [hk] at h
      simp only [cond_true] at h
      simp at hk
      subst hk
      split at h
      case h_1 => exact ⟨_, _, h, by simp [binOp, Op.intArith, go_sem], mk_int (inK_wrap _ _)⟩
      case h_2 => exact ⟨_, _, h, by simp [binOp, Op.intArith, go_sem], mk_int (inK_wrap _ _)⟩
      case h_3 => exact ⟨_, _, h, by simp [binOp, Op.intArith, go_sem], mk_int (inK_wrap _ _)⟩
      case h_4 =>
        split at h
        · cases h
        · rename_i hb0; exact ⟨_, _, h, by simp [binOp, Op.intDiv, hb0, go_sem], mk_int (inK_wrap _ _)⟩
      case h_5 =>
        split at h
        · cases h
        · rename_i hb0; exact ⟨_, _, h, by simp [binOp, Op.intDiv, hb0, go_sem], mk_int (inK_tmod ha hb)⟩
      case h_6 => exact ⟨_, _, h, by simp [binOp, Op.intBits, bitI, go_sem], mk_int (inK_wrap _ _)⟩
      case h_7 => exact ⟨_, _, h, by simp [binOp, Op.intBits, bitI, go_sem], mk_int (inK_wrap _ _)⟩
      case h_8 => exact ⟨_, _, h, by simp [binOp, Op.intBits, bitI, go_sem], mk_int (inK_wrap _ _)⟩
      case h_9 => exact ⟨_, _, h, by simp [binOp, Op.intBits, bitI, go_sem], mk_int (inK_wrap _ _)⟩
      case h_10 => exact ⟨_, .bool (decide (a = b)), h, by simp [binOp, Op.intCmp, go_sem]; rfl, mk_bool⟩
      case h_11 => exact ⟨_, .bool (!decide (a = b)), h, by simp [binOp, Op.intCmp, go_sem]; rfl, mk_bool⟩
      case h_12 => exact ⟨_, _, h, by simp [binOp, Op.intCmp, go_sem], mk_bool⟩
      case h_13 => exact ⟨_, _, h, by simp [binOp, Op.intCmp, go_sem], mk_bool⟩
      case h_14 => exact ⟨_, _, h, by simp [binOp, Op.intCmp, go_sem], mk_bool⟩
      case h_15 => exact ⟨_, _, h, by simp [binOp, Op.intCmp, go_sem], mk_bool⟩
      case h_16 => cases h
  · rename_i a b
    obtain rfl := val_bool hx
    obtain rfl := val_bool hy
    cases hb : isBool td
    · rw [hb] at h; cases h
    rw [hb] at h
    simp only [cond_true] at h
    have hu : P.underlying t = some .bool := by
      unfold isBool at hb
      split at hb
      · rename_i d
        have := (htd d rfl).desc
        split at hb
        · rename_i hk; rw [hk] at this; exact this.1
        · cases hb
      · cases hb
    split at h
    · exact ⟨_, _, h, by simp [binOp, run_equal_bool w t a b hu, go_sem], mk_bool⟩
    · exact ⟨_, _, h, by simp [binOp, run_equal_bool w t a b hu, go_sem], mk_bool⟩
    · cases h
  · rename_i a b
    obtain ⟨u, rfl, rfl, hu⟩ := val_str hx
    obtain ⟨v, rfl, rfl, hv⟩ := val_str hy
    have e1 : decide (sbytes u = sbytes v) = (u.toList == v.toList) := by
      rw [toList_eq, toList_eq, Bool.eq_iff_iff]
      simp only [decide_eq_true_eq, beq_iff_eq, sbytes_inj]
      constructor
      · rintro rfl; rfl
      · intro h; cases u; cases v; simp at h; rw [h]
    have e2 : strLess (sbytes u) (sbytes v) = Op.bytesLess u.toList v.toList := by
      rw [toList_eq, toList_eq]; exact strLess_ok _ _
    split at h
    · split at h
      · rename_i hl
        rw [sbytes_length, sbytes_length] at hl
        have hn : ¬ (9223372036854775807 < ((u.size : Int) + (v.size : Int))) := by omega
        refine ⟨_, .string (u ++ v), h, by simp [binOp, Op.stringOp, hn, go_sem], mk_str' ?_ ?_⟩
        · rw [ByteArray.size_append]; simp only [maxLen]; omega
        · rw [sbytes_append]; rfl
      · cases h
    · exact ⟨_, _, h, by simp [binOp, Op.stringOp, go_sem]; rfl, by rw [← e1]; exact mk_bool⟩
    · exact ⟨_, _, h, by simp [binOp, Op.stringOp, go_sem]; rfl, by rw [← e1]; exact mk_bool⟩
    · exact ⟨_, _, h, by simp [binOp, Op.stringOp, go_sem]; rfl, by rw [← e2]; exact mk_bool⟩
    · exact ⟨_, _, h, by simp [binOp, Op.stringOp, go_sem]; rfl, by rw [← e1, ← e2]; exact mk_bool⟩
    · exact ⟨_, .bool (!(Op.bytesLess u.toList v.toList || (u.toList == v.toList))), h, by simp [binOp, Op.stringOp, go_sem], by rw [← e1, ← e2]; exact mk_bool⟩
    · exact ⟨_, _, h, by simp [binOp, Op.stringOp, go_sem]; rfl, by rw [← e2]; exact mk_bool⟩
    · cases h
  · cases h
end
end Go.Proofs.YtgonfcjdhbjkcaaDoor.Rf
/- Layer 6: places: loads and stores. -/
set_option linter.unusedVariables false
set_option linter.unusedSimpArgs false
namespace Go.Proofs.YtgonfcjdhbjkcaaDoor.Rf
open Go

/-- Types of one cell. -/
def Ty.scal : Ty → Bool
  | .int _ | .bool | .str | .sl _ | .box _ | .ptr _ | .chan | .fn _ => true
  | _ => false
/-- Types of values. -/
def Ty.vty (t : Ty) : Bool := t.scal || t.agg

theorem rep_scal {F : BSet} {w : World} {t : Ty} (ht : t.scal = true) {m : Md} {x : t.T} {cs : List Value} {S : BSet} (h : Rep F w t m x cs S) : ∃ z, cs = [z] ∧ z.oneCell' = true := by
  cases t <;> simp [Ty.scal] at ht
  case int k => obtain ⟨rfl, _⟩ := h; exact ⟨_, rfl, rfl⟩
  case bool => have h' : cs = [.bool x] := h; subst h'; exact ⟨_, rfl, rfl⟩
  case str => obtain ⟨u, rfl, _⟩ := h; exact ⟨_, rfl, rfl⟩
  case sl t => cases m <;> (obtain ⟨a, cap, rfl, _⟩ := h; exact ⟨_, rfl, rfl⟩)
  case box t =>
    cases m with
    | own m => obtain ⟨b, c, e, rfl, _⟩ := h; exact ⟨_, rfl, rfl⟩
    | ro => obtain ⟨a, rfl, _⟩ := h; exact ⟨_, rfl, rfl⟩
    | pr _ _ => obtain ⟨a, rfl, _⟩ := h; exact ⟨_, rfl, rfl⟩
  case chan =>
    cases m with
    | own m => obtain ⟨b, buf, s, r, rfl, _⟩ := h; exact ⟨_, rfl, rfl⟩
    | ro => exact h
    | pr _ _ => exact h
  case fn f => have h' : cs = [.func (.func f) #[] #[]] := h; subst h'; exact ⟨_, rfl, rfl⟩
  case ptr t =>
    cases x with
    | none => simp only [Rep] at h; subst h; exact ⟨_, rfl, rfl⟩
    | some x =>
    cases m with
    | own m => obtain ⟨b, c, e, rfl, _⟩ := h; exact ⟨_, rfl, rfl⟩
    | ro => obtain ⟨a, rfl, _⟩ := h; exact ⟨_, rfl, rfl⟩
    | pr _ _ => obtain ⟨a, rfl, _⟩ := h; exact ⟨_, rfl, rfl⟩

theorem repL_one {α : Type} {R : α → List Value → BSet → Prop} (hR : ∀ y c S, R y c S → ∀ v ∈ c, v.oneCell' = true) : ∀ {x : List α} {cs : List Value} {S : BSet}, RepL R x cs S → ∀ v ∈ cs, v.oneCell' = true := by
  intro x
  induction x with
  | nil => intro cs S h; cases h; simp
  | cons y ys ih =>
    rintro cs S ⟨c1, c2, S1, S2, rfl, h1, h2, _⟩ v hv
    rcases List.mem_append.1 hv with hv | hv
    · exact hR _ _ _ h1 v hv
    · exact ih h2 v hv
theorem rep_one {F : BSet} {w : World} : ∀ (t : Ty) (m : Md) (x : t.T) (cs : List Value) (S : BSet), Rep F w t m x cs S → ∀ v ∈ cs, v.oneCell' = true := by
  intro t
  induction t with
  | unit => intro m x cs S h; have h' : cs = [] := h; subst h'; simp
  | junk => rintro m x cs S ⟨z, rfl, hz⟩ v hv; simp at hv; subst hv; exact hz
  | pair a b iha ihb =>
    rintro m x cs S ⟨c1, c2, S1, S2, rfl, h1, h2, _⟩ v hv
    rcases List.mem_append.1 hv with hv | hv
    · exact iha _ _ _ _ h1 v hv
    · exact ihb _ _ _ _ h2 v hv
  | st t ih => intro m x cs S h; exact ih m x cs S h
  | arr n t ih => rintro m x cs S ⟨_, h⟩; exact repL_one (fun y c S h => ih m.el y c S h) h
  | int k => intro m x cs S h v hv; obtain ⟨z, rfl, hz⟩ := rep_scal rfl h; simp at hv; subst hv; exact hz
  | bool => intro m x cs S h v hv; obtain ⟨z, rfl, hz⟩ := rep_scal rfl h; simp at hv; subst hv; exact hz
  | str => intro m x cs S h v hv; obtain ⟨z, rfl, hz⟩ := rep_scal rfl h; simp at hv; subst hv; exact hz
  | may t ih =>
    intro m x cs S h v hv
    cases x with
    | none => obtain ⟨z, rfl, hz⟩ := h; simp at hv; subst hv; exact hz
    | some x => exact ih m x cs S h.1 v hv
  | fn f => intro m x cs S h v hv; have h' : cs = [.func (.func f) #[] #[]] := h; subst h'; simp at hv; subst hv; rfl
  | chan =>
    intro m x cs S h v hv
    cases m with
    | own m => obtain ⟨b, buf, s, r, rfl, _⟩ := h; simp at hv; subst hv; rfl
    | ro => obtain ⟨z, rfl, hz⟩ := h; simp at hv; subst hv; exact hz
    | pr _ _ => obtain ⟨z, rfl, hz⟩ := h; simp at hv; subst hv; exact hz
  | hol t _ =>
    intro m x cs S h v hv
    cases m with
    | own m => obtain ⟨_, a, cap, rfl, _⟩ := h; simp at hv; subst hv; rfl
    | ro => obtain ⟨z, rfl, hz⟩ := h; simp at hv; subst hv; exact hz
    | pr _ _ => obtain ⟨z, rfl, hz⟩ := h; simp at hv; subst hv; exact hz
  | sl t _ => intro m x cs S h v hv; obtain ⟨z, rfl, hz⟩ := rep_scal rfl h; simp at hv; subst hv; exact hz
  | box t _ => intro m x cs S h v hv; obtain ⟨z, rfl, hz⟩ := rep_scal rfl h; simp at hv; subst hv; exact hz
  | ptr t _ => intro m x cs S h v hv; obtain ⟨z, rfl, hz⟩ := rep_scal rfl h; simp at hv; subst hv; exact hz

/-- All is read alone. -/
def noOwn : Md → Bool
  | .ro => true
  | .own _ => false
  | .pr a b => noOwn a && noOwn b
theorem noOwn_fst {m : Md} (h : noOwn m = true) : noOwn m.fst = true := by cases m <;> simp_all [noOwn, Md.fst]
theorem noOwn_snd {m : Md} (h : noOwn m = true) : noOwn m.snd = true := by cases m <;> simp_all [noOwn, Md.snd]
theorem noOwn_el {m : Md} (h : noOwn m = true) : m.el = .ro := by cases m <;> simp_all [noOwn, Md.el]
theorem rep_noOwn {F : BSet} {w : World} : ∀ (t : Ty) (m : Md), noOwn m = true → ∀ (x : t.T) (cs : List Value) (S S' : BSet), Rep F w t m x cs S → Rep F w t .ro x cs S' := by
  intro t
  induction t with
  | int k => intro m _ x cs S S' h; exact h
  | bool => intro m _ x cs S S' h; exact h
  | str => intro m _ x cs S S' h; exact h
  | unit => intro m _ x cs S S' h; exact h
  | junk => intro m _ x cs S S' h; exact h
  | hol t ih => intro m hm x cs S S' h; cases m <;> first | exact h | simp [noOwn] at hm
  | chan => intro m hm x cs S S' h; cases m <;> first | exact h | simp [noOwn] at hm
  | fn f => intro m hm x cs S S' h; exact h
  | may t ih =>
    intro m hm x cs S S' h
    cases x with
    | none => exact h
    | some x => exact ⟨ih m hm x cs S S' h.1, h.2⟩
  | pair a b iha ihb =>
    rintro m hm x cs S S' ⟨c1, c2, S1, S2, rfl, h1, h2, _⟩
    exact ⟨c1, c2, BSet.none, BSet.none, rfl, iha _ (noOwn_fst hm) _ _ _ _ h1, ihb _ (noOwn_snd hm) _ _ _ _ h2, fun _ h => h.elim, fun _ h => h.elim, fun _ h => h.elim⟩
  | st t ih => intro m hm x cs S S' h; exact ih m hm x cs S S' h
  | arr n t ih =>
    rintro m hm x cs S S' ⟨hn, h⟩
    rw [noOwn_el hm] at h
    refine ⟨hn, ?_⟩
    clear hn
    induction x generalizing cs S S' with
    | nil => exact h
    | cons y ys ihx =>
      obtain ⟨c1, c2, S1, S2, rfl, h1, h2, _⟩ := h
      exact ⟨c1, c2, BSet.none, BSet.none, rfl, ih .ro rfl _ _ _ _ h1, ihx _ _ _ h2, fun _ h => h.elim, fun _ h => h.elim, fun _ h => h.elim⟩
  | sl t ih => intro m hm x cs S S' h; cases m <;> first | exact h | simp [noOwn] at hm
  | box t ih => intro m hm x cs S S' h; cases m <;> first | exact h | simp [noOwn] at hm
  | ptr t ih =>
    intro m hm x cs S S' h
    cases x with
    | none => cases m <;> exact h
    | some x => cases m <;> first | exact h | simp [noOwn] at hm

/-! ### Where paths lead -/
theorem resolve_app {w : World} : ∀ (π ρ : List Stp) (t : Ty) (cs : List Value) (s : Option (Nat × Nat)), resolve w t cs s (π ++ ρ) = (resolve w t cs s π).bind fun p => resolve w (atT t π) p.1 p.2 ρ := by
  intro π
  induction π with
  | nil => intro ρ t cs s; cases t <;> simp [resolve, atT]
  | cons p0 π ih =>
    intro ρ t cs s
    cases t <;> cases p0 <;> simp only [List.cons_append, resolve, atT, Option.bind_none, ih]
    case sl.idx => repeat' (first | rfl | split)
    case arr.ai => repeat' (first | rfl | split)
    case box.deref => repeat' (first | rfl | split)
    case ptr.deref => repeat' (first | rfl | split)

def crosses : List Stp → Bool
  | [] => false
  | .idx _ :: _ => true
  | .deref :: _ => true
  | _ :: π => crosses π
theorem resolve_some {w : World} : ∀ (π : List Stp) (t : Ty) (cs : List Value) (p : Nat × Nat) (ds : List Value) (s : Option (Nat × Nat)), resolve w t cs (some p) π = some (ds, s) → ∃ q, s = some q := by
  intro π
  induction π with
  | nil => intro t cs p ds s h; cases t <;> (simp only [resolve, Option.some.injEq, Prod.mk.injEq] at h; exact ⟨p, h.2.symm⟩)
  | cons p0 π ih =>
    intro t cs p ds s h
    cases t <;> cases p0 <;> simp only [resolve, reduceCtorEq] at h
    case st.st => exact ih _ _ _ _ _ h
    case pair.fst => exact ih _ _ _ _ _ h
    case pair.snd => exact ih _ _ _ _ _ h
    case sl.idx => (split at h <;> (try split at h) <;> first | exact ih _ _ _ _ _ h | cases h)
    case arr.ai => (split at h <;> first | exact ih _ _ _ _ _ h | cases h)
    case box.deref => (split at h <;> first | exact ih _ _ _ _ _ h | cases h)
    case ptr.deref => (split at h <;> first | exact ih _ _ _ _ _ h | cases h)
theorem resolve_cross {w : World} : ∀ (π : List Stp) (t : Ty) (cs : List Value) (s0 : Option (Nat × Nat)) (ds : List Value) (s : Option (Nat × Nat)), crosses π = true → resolve w t cs s0 π = some (ds, s) → ∃ q, s = some q := by
  intro π
  induction π with
  | nil => intro t cs s0 ds s hc; simp [crosses] at hc
  | cons p0 π ih =>
    intro t cs s0 ds s hc h
    cases t <;> cases p0 <;> simp only [resolve, reduceCtorEq] at h
    case st.st => exact ih _ _ _ _ _ hc h
    case pair.fst => exact ih _ _ _ _ _ hc h
    case pair.snd => exact ih _ _ _ _ _ hc h
    case sl.idx => (split at h <;> (try split at h) <;> first | exact resolve_some _ _ _ _ _ _ h | cases h)
    case arr.ai => (split at h <;> first | exact ih _ _ _ _ _ hc h | cases h)
    case box.deref => (split at h <;> first | exact resolve_some _ _ _ _ _ _ h | cases h)
    case ptr.deref => (split at h <;> first | exact resolve_some _ _ _ _ _ _ h | cases h)
theorem rootAddr_inner {w : World} : ∀ (π : List Stp) (t : Ty) (cs cs2 : List Value) (p : Nat × Nat) (ds : List Value) (s : Option (Nat × Nat)), short 1 π = true → resolve w t cs (some p) π = some (ds, s) → rootAddr t cs2 (some p) π = s := by
  intro π
  induction π with
  | nil => intro t cs cs2 p ds s _ h; cases t <;> (simp only [resolve, Option.some.injEq, Prod.mk.injEq] at h; exact h.2)
  | cons p0 π ih =>
    intro t cs cs2 p ds s hs h
    cases t <;> cases p0 <;> simp only [resolve, reduceCtorEq] at h <;> simp only [short, Bool.false_eq_true] at hs
    case st.st => exact ih _ _ _ _ _ _ hs h
    case pair.fst => exact ih _ _ _ _ _ _ hs h
    case pair.snd => exact ih _ _ _ _ _ _ hs h
    case arr.ai =>
      split at h
      · rename_i hc; simp only [rootAddr]; rw [if_pos hc]; exact ih _ _ _ _ _ _ hs h
      · cases h
theorem rootAddr_of {w : World} : ∀ (π : List Stp) (t : Ty) (cs : List Value) (p : Nat × Nat) (ds : List Value), short 0 π = true → resolve w t cs none π = some (ds, some p) → rootAddr t cs none π = some p := by
  intro π
  induction π with
  | nil => intro t cs p ds _ h; cases t <;> simp [resolve] at h
  | cons p0 π ih =>
    intro t cs p ds hs h
    cases t <;> cases p0 <;> simp only [resolve, reduceCtorEq, Option.map_none] at h <;> simp only [short] at hs
    case st.st => exact ih _ _ _ _ hs h
    case pair.fst => exact ih _ _ _ _ hs h
    case pair.snd => exact ih _ _ _ _ hs h
    case sl.idx =>
      split at h
      · split at h
        · rename_i hc; simp only [rootAddr]; rw [if_pos hc]; exact rootAddr_inner _ _ _ _ _ _ _ hs h
        · cases h
      · cases h
    case arr.ai =>
      split at h
      · rename_i hc; simp only [rootAddr]; rw [if_pos hc]; exact ih _ _ _ _ hs h
      · cases h
    case box.deref =>
      split at h
      · simp only [rootAddr]; exact rootAddr_inner _ _ _ _ _ _ _ hs h
      · cases h
    case ptr.deref =>
      split at h
      · simp only [rootAddr]; exact rootAddr_inner _ _ _ _ _ _ _ hs h
      · cases h

theorem get?_app : ∀ (π ρ : List Stp) (t : Ty) (x : t.T), get? t x (π ++ ρ) = (get? t x π).bind fun v => get? v.t v.x ρ := by
  intro π
  induction π with
  | nil => intro ρ t x; rw [get?_nil]; rfl
  | cons p0 π ih =>
    intro ρ t x
    unfold get?
    cases t <;> cases p0 <;> simp only [List.cons_append, getP, Option.bind_none]
    case st.st => exact ih _ _ _
    case pair.fst => exact ih _ _ _
    case pair.snd => exact ih _ _ _
    case sl.idx => (split <;> (try split) <;> first | exact ih _ _ _ | rfl)
    case arr.ai => (split <;> (try split) <;> first | exact ih _ _ _ | rfl)
    case box.deref => exact ih _ _ _
    case ptr.deref => (split <;> first | exact ih _ _ _ | rfl)
theorem get?_atT : ∀ (π : List Stp) (t : Ty) (x : t.T) (v : V), get? t x π = some v → v.t = atT t π := by
  intro π
  induction π with
  | nil => intro t x v h; rw [get?_nil] at h; injection h with h; subst h; cases t <;> rfl
  | cons p0 π ih =>
    intro t x v h
    unfold get? at h
    cases t <;> cases p0 <;> simp only [getP, reduceCtorEq] at h
    case st.st => exact ih _ _ _ h
    case pair.fst => exact ih _ _ _ h
    case pair.snd => exact ih _ _ _ h
    case sl.idx => (split at h <;> (try split at h) <;> first | exact ih _ _ _ h | cases h)
    case arr.ai => (split at h <;> (try split at h) <;> first | exact ih _ _ _ h | cases h)
    case box.deref => exact ih _ _ _ h
    case ptr.deref => (split at h <;> first | exact ih _ _ _ h | cases h)
theorem ownP_app : ∀ (π ρ : List Stp) (t : Ty) (m : Md), ownP t m (π ++ ρ) = (ownP t m π && ownP (atT t π) (atM t m π) ρ) := by
  intro π
  induction π with
  | nil => intro ρ t m; cases t <;> simp [ownP, atT, atM]
  | cons p0 π ih =>
    intro ρ t m
    cases t <;> cases p0 <;> simp only [List.cons_append, ownP, atT, atM, ih, Bool.and_assoc, Bool.false_and]
end Go.Proofs.YtgonfcjdhbjkcaaDoor.Rf
/- Layer 7: pointers as places; loading, addresses of parts and of elements. -/
set_option linter.unusedVariables false
set_option linter.unusedSimpArgs false
namespace Go.Proofs.YtgonfcjdhbjkcaaDoor.Rf
open Go

/-- What a focus gives behind a pointer. -/
def FocB (F : BSet) (w : World) (t : Ty) (m : Md) (x : t.T) (cs : List Value) (S : BSet) (π : List Stp) (u : Ty) (ds : List Value) (p o : Nat) (S' : BSet) : Prop :=
  S p ∧ ¬ S' p ∧ Lies w p o ds ∧
    ∀ F' w' y' es R x' m' mr, SetM t m π m' mr → Sub F F' → set? t x π u y' = some x' → Rep F' w' u m' y' es R → es.length = ds.length → (∀ k, R k → S k → S' k) →
      (∀ k, S k → ¬ S' k → k ≠ p → w'.heap[k]? = w.heap[k]?) → Upd w w' p o ds es → (∀ k, F k → w'.heap[k]? = w.heap[k]?) →
      Rep F' w' t mr x' cs (fun k => (S k ∧ ¬ S' k) ∨ R k)

/-- What a pointer's value points to. -/
def derefK {R : Type} : V → (V → Option R) → Option R
  | ⟨.box t, x⟩, K => K ⟨t, x⟩
  | ⟨.ptr t, x⟩, K => match (x : Option t.T) with
    | some y => K ⟨t, y⟩
    | none => none
  | _, _ => none

/-- A pointer as a place of something that is owned. -/
def plc {R : Type} (σ : St) (e : Ent0) (K : Nat → Lab → List Stp → V → Option R) : Option R :=
  match e with
  | .adr l n π c => match σ.L l with
    | some b => bif crosses π then (bif Nat.beq n b.v then K l b π c else bif short 0 π && ownP b.t b.m π then getP b.t b.x π fun u y => K l b π ⟨u, y⟩ else none) else none
    | none => none
  | .hdr l n π c => match σ.L l with
    | some b => bif ownP b.t b.m (π ++ [.deref]) then (bif Nat.beq n b.v then derefK c fun q => K l b (π ++ [.deref]) q else bif π.isEmpty then derefK ⟨b.t, b.x⟩ fun q => K l b (π ++ [.deref]) q else none) else none
    | none => none
  | _ => none

section
variable {P : Program} {B : Base} {F : BSet} {Sg : Nat → BSet} {cg : Nat → List Value} {σ : St} {a : Act} {w : World}

theorem focB (h : InvG B F Sg cg σ a w) {l : Nat} {b : Lab} (hl : σ.L l = some b) {π : List Stp} (hc : crosses π = true) {u : Ty} {y : u.T} (hg : get? b.t b.x π = some ⟨u, y⟩) (ho : ownP b.t b.m π = true) :
    ∃ ds p o S', resolve w b.t (cg l) none π = some (ds, some (p, o)) ∧ Rep F w u (atM b.t b.m π) y ds S' ∧ Sub S' (Sg l) ∧ FocB F w b.t b.m b.x (cg l) (Sg l) π u ds p o S' := by
  obtain ⟨ds, s', S', h1, h2, h3, h4⟩ := focus F w π b.t b.m b.x (cg l) (Sg l) none u y (h.lab l b hl) hg ho
  obtain ⟨⟨p, o⟩, rfl⟩ := resolve_cross _ _ _ _ _ _ hc h1
  rcases h4 with ⟨_, _, _, h5, _⟩ | ⟨p', o', h5, h6⟩
  · simp at h5
  · injection h5 with h5
    injection h5 with h5 h7
    subst h5; subst h7
    exact ⟨ds, p, o, S', h1, h2, h3, h6⟩

theorem resolve_nil (w : World) (t : Ty) (cs : List Value) (s : Option (Nat × Nat)) : resolve w t cs s [] = some (cs, s) := by cases t <;> rfl
theorem crosses_deref (π : List Stp) : crosses (π ++ [.deref]) = true := by
  induction π with
  | nil => rfl
  | cons p π ih => cases p <;> first | rfl | exact ih

theorem derefK_ok {R : Type} {c : V} {K : V → Option R} {r : R} (h : derefK c K = some r) : ∃ q, K q = some r ∧ get? c.t c.x [.deref] = some q ∧ (c.t = .box q.t ∨ c.t = .ptr q.t) := by
  unfold derefK at h
  split at h
  · rename_i t x; exact ⟨⟨t, x⟩, h, by cases t <;> rfl, .inl rfl⟩
  · rename_i t x
    split at h
    · rename_i y; exact ⟨⟨t, y⟩, h, by cases t <;> rfl, .inr rfl⟩
    · cases h
  · cases h

theorem vr_deref {t : Ty} {q : Ty} (ht : t = .box q ∨ t = .ptr q) {cs : List Value} {s : Option (Nat × Nat)} {v : Value} (hv : VR t cs v) {ds : List Value} {p o : Nat} (hr : resolve w t cs s [.deref] = some (ds, some (p, o))) : v = .pointer (some ⟨p, o, none⟩) := by
  rcases ht with rfl | rfl
  · simp only [resolve] at hr
    split at hr
    · injection hr with hr
      injection hr with _ hr
      injection hr with hr
      injection hr with q1 q2
      subst q1; subst q2
      simp [VR, Ty.agg] at hv
      exact hv.1.symm
    · cases hr
  · simp only [resolve] at hr
    split at hr
    · injection hr with hr
      injection hr with _ hr
      injection hr with hr
      injection hr with q1 q2
      subst q1; subst q2
      simp [VR, Ty.agg] at hv
      exact hv.1.symm
    · cases hr

theorem plc_ok (h : InvG B F Sg cg σ a w) {R : Type} {e : Ent0} {K : Nat → Lab → List Stp → V → Option R} {r : R} (hk : plc σ e K = some r) {v : Value} (he : EntOk F w σ.L σ.U cg e v) :
    ∃ l b π c, σ.L l = some b ∧ K l b π c = some r ∧ crosses π = true ∧ get? b.t b.x π = some c ∧ ownP b.t b.m π = true ∧
      ∃ ds p o S', v = .pointer (some ⟨p, o, none⟩) ∧ resolve w b.t (cg l) none π = some (ds, some (p, o)) ∧ Rep F w c.t (atM b.t b.m π) c.x ds S' ∧ Sub S' (Sg l) ∧ FocB F w b.t b.m b.x (cg l) (Sg l) π c.t ds p o S' := by
  unfold plc at hk
  split at hk
  · rename_i l n π c
    cases hl : σ.L l with
    | none => rw [hl] at hk; cases hk
    | some b =>
      rw [hl] at hk
      simp only at hk
      cases hc : crosses π
      · rw [hc] at hk; cases hk
      rw [hc] at hk
      simp only [cond_true] at hk
      obtain ⟨hu, he2⟩ := he
      obtain ⟨_, h1, h2⟩ := he2 b hl
      cases hn : Nat.beq n b.v
      · rw [hn] at hk
        simp only [cond_false] at hk
        cases hs : short 0 π && ownP b.t b.m π
        · rw [hs] at hk; cases hk
        rw [hs] at hk
        simp only [cond_true] at hk
        simp only [Bool.and_eq_true] at hs
        rw [getP_eq] at hk
        obtain ⟨c', hg, hk⟩ := Option.bind_eq_some_iff.1 hk
        obtain ⟨ds, p, o, S', h3, h4, h5, h6⟩ := focB h hl hc hg hs.2
        exact ⟨l, b, π, c', hl, hk, hc, hg, hs.2, ds, p, o, S', h1 hs.1 _ _ (rootAddr_of _ _ _ _ _ hs.1 h3), h3, h4, h5, h6⟩
      · rw [hn] at hk
        simp only [cond_true] at hk
        obtain ⟨h3, hg, h4⟩ := h2 (Nat.eq_of_beq_eq_true hn)
        obtain ⟨ds, p, o, S', h5, h6, h7, h8⟩ := focB h hl hc hg h3
        exact ⟨l, b, π, c, hl, hk, hc, hg, h3, ds, p, o, S', h4 _ _ _ h5, h5, h6, h7, h8⟩
  · rename_i l n π c
    cases hl : σ.L l with
    | none => rw [hl] at hk; cases hk
    | some b =>
      rw [hl] at hk
      simp only at hk
      cases ho : ownP b.t b.m (π ++ [.deref])
      · rw [ho] at hk; cases hk
      rw [ho] at hk
      simp only [cond_true] at hk
      obtain ⟨hu, he2⟩ := he
      obtain ⟨_, h1, h2⟩ := he2 b hl
      have fin : ∀ (c : V) (q : V), get? b.t b.x π = some c → get? c.t c.x [.deref] = some q → (c.t = .box q.t ∨ c.t = .ptr q.t) → (∀ ds s, resolve w b.t (cg l) none π = some (ds, s) → VR c.t ds v) → K l b (π ++ [.deref]) q = some r → 
          ∃ l b π c, σ.L l = some b ∧ K l b π c = some r ∧ crosses π = true ∧ get? b.t b.x π = some c ∧ ownP b.t b.m π = true ∧
      ∃ ds p o S', v = .pointer (some ⟨p, o, none⟩) ∧ resolve w b.t (cg l) none π = some (ds, some (p, o)) ∧ Rep F w c.t (atM b.t b.m π) c.x ds S' ∧ Sub S' (Sg l) ∧ FocB F w b.t b.m b.x (cg l) (Sg l) π c.t ds p o S' := by
        intro c q hg hq ht hv hk
        have hg2 : get? b.t b.x (π ++ [.deref]) = some q := by rw [get?_app, hg]; exact hq
        obtain ⟨ds, p, o, S', h5, h6, h7, h8⟩ := focB h hl (crosses_deref π) hg2 ho
        refine ⟨l, b, π ++ [.deref], q, hl, hk, crosses_deref π, hg2, ho, ds, p, o, S', ?_, h5, h6, h7, h8⟩
        rw [resolve_app] at h5
        obtain ⟨⟨ds1, s1⟩, hr1, hr2⟩ := Option.bind_eq_some_iff.1 h5
        have e1 := get?_atT _ _ _ _ hg
        rw [← e1] at hr2
        exact vr_deref ht (hv _ _ hr1) hr2
      cases hn : Nat.beq n b.v
      · rw [hn] at hk
        simp only [cond_false] at hk
        cases hp : π.isEmpty
        · rw [hp] at hk; cases hk
        rw [hp] at hk
        simp only [cond_true] at hk
        have : π = [] := by cases π <;> simp_all
        subst this
        obtain ⟨q, hk, hq, ht⟩ := derefK_ok hk
        refine fin ⟨b.t, b.x⟩ q (get?_nil _ _) hq ht (fun ds s hr => ?_) hk
        rw [resolve_nil] at hr
        injection hr with hr
        injection hr with hr _
        subst hr
        exact h1 rfl
      · rw [hn] at hk
        simp only [cond_true] at hk
        obtain ⟨h3, hg, h4⟩ := h2 (Nat.eq_of_beq_eq_true hn)
        obtain ⟨q, hk, hq, ht⟩ := derefK_ok hk
        refine fin c q hg hq ht (fun ds s hr => ?_) hk
        rw [get?_atT _ _ _ _ hg]
        exact h4 _ _ hr
  · cases hk

/-! ### Loading -/
theorem lies_at {b o : Nat} {ds : List Value} (h : Lies w b o ds) : At w ⟨b, o, none⟩ ds := by
  obtain ⟨c, e, hb, l, r, hc, hl⟩ := h
  intro j v hj
  rw [Addr.add_lit]
  have hjl : j < ds.length := (List.getElem?_eq_some_iff.1 hj).1
  have : c.toList[o + j]? = some v := by
    rw [hc, ← hl, List.append_assoc, List.getElem?_append_right (by omega), Nat.add_sub_cancel_left, List.getElem?_append_left hjl]
    exact hj
  simp [World.cell?, hb]
  simpa using this

theorem run_isAgg {t : TypeId} {d : TD} (hd : TOk P t d) : (isAgg t).run P w = .ok d.ty.agg w := by
  rw [hd.agg]
  have := hd.desc
  unfold isAgg
  cases hk : d.kd <;> rw [hk] at this <;> simp only at this
  case int k => simp [run_underlying this.1, TK.agg]
  case bool => simp [run_underlying this.1, TK.agg]
  case str => simp [run_underlying this.1, TK.agg]
  case slice e => simp [run_underlying this, TK.agg]
  case array n e => simp [run_underlying this, TK.agg]
  case struct fs => obtain ⟨f, h1, _⟩ := this; simp [run_underlying h1, TK.agg]
  case pointer e => simp [run_underlying this, TK.agg]
  case chan e => obtain ⟨dir, h1⟩ := this; simp [run_underlying h1, TK.agg]
  case other =>
    obtain ⟨q, h1, h2, h3⟩ := this
    simp only [Sem.run_bind, run_underlying h1, Result.andThen_ok, TK.agg]
    cases q <;> first | rfl | exact absurd rfl (h2 _) | exact absurd rfl (h3 _ _)

theorem run_sizeOf {t : TypeId} {d : TD} (hd : TOk P t d) : (sizeOf t).run P w = .ok d.ty.width w := by
  obtain ⟨i, z, h1, h2, _⟩ := hd.info
  simp [sizeOf, typeInfo, h1, h2]

theorem run_load_At {t : TypeId} {d : TD} (hd : TOk P t d) {ad : Addr} {ds : List Value} (hat : At w ad ds) (hl : ds.length = d.ty.width) (hv : d.ty.agg = true ∨ ∃ z, ds = [z] ∧ z.oneCell' = true) :
    ∃ z, (Instr.loadAt t (.pointer (some ad))).run P w = .ok z w ∧ VR d.ty ds z := by
  unfold Instr.loadAt loadVar
  cases ha : d.ty.agg
  · rcases hv with hv | ⟨z, rfl, hz⟩
    · rw [ha] at hv; cases hv
    have h0 := hat 0 z rfl
    rw [Addr.add_zero'] at h0
    refine ⟨z, ?_, by simp [VR, ha, hz]⟩
    simp [Instr.sureAddr, run_isAgg hd, ha, go_sem, h0]
  · refine ⟨.agg ds.toArray, ?_, by simp [VR, ha]⟩
    have := run_loadCells_list (P := P) w ad ds hat
    rw [hl] at this
    simp [Instr.sureAddr, run_isAgg hd, ha, run_sizeOf hd, this]

theorem vty_cells {t : Ty} (ht : t.vty = true) {m : Md} {x : t.T} {cs : List Value} {S : BSet} (h : Rep F w t m x cs S) : t.agg = true ∨ ∃ z, cs = [z] ∧ z.oneCell' = true := by
  unfold Ty.vty at ht
  simp only [Bool.or_eq_true] at ht
  rcases ht with ht | ht
  · exact .inr (rep_scal ht h)
  · exact .inl ht

/-- A value of a pointer that is read alone. -/
def roPtr {R : Type} (e : Ent0) (K : (t : Ty) → t.T → Option R) : Option R :=
  match e with
  | .radr t x => K t x
  | .val (.box t) x => K t x
  | .val (.ptr t) x => match (x : Option t.T) with
    | some y => K t y
    | none => none
  | _ => none
theorem roPtr_ok {R : Type} {L : Nat → Option Lab} {U : Nat → Bool} {e : Ent0} {K : (t : Ty) → t.T → Option R} {r : R} (h : roPtr e K = some r) {v : Value} (he : EntOk F w L U cg e v) :
    ∃ t x ad ds, K t x = some r ∧ v = .pointer (some ad) ∧ F ad.block ∧ At w ad ds ∧ Rep F w t .ro x ds BSet.none := by
  unfold roPtr at h
  split at h
  · rename_i t x
    obtain ⟨ad, ds, h1, h2, h3, h4⟩ := he
    exact ⟨t, x, ad, ds, h, h1, h2, h3, h4⟩
  · rename_i t x
    obtain ⟨cs, h1, h2⟩ := he
    obtain ⟨ad, rfl, h3, ds, h4, h5⟩ := h1
    simp [VR, Ty.agg] at h2
    exact ⟨t, x, ad, ds, h, h2.1.symm, h3, h4, h5⟩
  · rename_i t x
    split at h
    · rename_i y
      obtain ⟨cs, h1, h2⟩ := he
      obtain ⟨ad, rfl, h3, ds, h4, h5⟩ := h1
      simp [VR, Ty.agg] at h2
      exact ⟨t, y, ad, ds, h, h2.1.symm, h3, h4, h5⟩
    · cases h
  · cases h

/-- What is loaded from a place of something owned: a value, or a name for what lies there. -/
def outE (c : V) (l : Nat) (b : Lab) (π : List Stp) : Ent0 := bif c.t.flat || noOwn (atM b.t b.m π) then .val c.t c.x else .hdr l b.v π c

def Ent0.owned : Ent0 → Bool
  | .adr .. => true
  | .hdr .. => true
  | _ => false

def xLoad {R : Type} (d : TD) (σ : St) (e : Ent0) (K : Ent0 → Option R) : Option R :=
  bif d.ty.vty then
    (bif e.owned then plc σ e fun l b π c => bif decide (c.t = d.ty) then K (outE c l b π) else none
    else roPtr e fun t x => bif decide (t = d.ty) then K (.val t x) else none)
  else none

theorem outE_ok (h : InvG B F Sg cg σ a w) {l : Nat} {b : Lab} (hl : σ.L l = some b) {π : List Stp} {c : V} (hg : get? b.t b.x π = some c) (ho : ownP b.t b.m π = true) {ds : List Value} {s : Option (Nat × Nat)} {S' : BSet} (hr : resolve w b.t (cg l) none π = some (ds, s)) (hrep : Rep F w c.t (atM b.t b.m π) c.x ds S') {z : Value} (hz : VR c.t ds z) :
    EntOk F w σ.L σ.U cg (outE c l b π) z := by
  unfold outE
  cases hc : c.t.flat || noOwn (atM b.t b.m π)
  · refine ⟨h.used l b hl, fun b' hb' => ?_⟩
    rw [hl] at hb'
    injection hb' with hb'
    subst hb'
    have ht : c.t = atT b.t π := get?_atT _ _ _ _ hg
    refine ⟨Nat.le_refl _, ?_, fun _ => ⟨ho, hg, fun ds' s' hr' => ?_⟩⟩
    · rintro rfl
      rw [resolve_nil] at hr
      injection hr with hr
      injection hr with hr _
      subst hr
      have e2 : atT b.t [] = b.t := by cases b.t <;> rfl
      rw [e2] at ht
      rw [← ht]
      exact hz
    · rw [hr] at hr'
      injection hr' with hr'
      injection hr' with hr' _
      subst hr'
      rw [← ht]
      exact hz
  · simp only [Bool.or_eq_true] at hc
    refine ⟨ds, ?_, hz⟩
    rcases hc with hc | hc
    · exact rep_flat c.t hc _ _ _ _ _ _ hrep
    · exact rep_noOwn c.t _ hc _ _ _ _ hrep

theorem xLoad_ok (h : InvG B F Sg cg σ a w) {R : Type} {t : TypeId} {d : TD} (hd : TOk P t d) {e : Ent0} {K : Ent0 → Option R} {r : R} (hk : xLoad d σ e K = some r) {v : Value} (he : EntOk F w σ.L σ.U cg e v) :
    ∃ e' z, K e' = some r ∧ (Instr.loadAt t v).run P w = .ok z w ∧ EntOk F w σ.L σ.U cg e' z := by
  unfold xLoad at hk
  cases hvt : d.ty.vty
  · rw [hvt] at hk; cases hk
  rw [hvt] at hk
  simp only [cond_true] at hk
  cases hown : e.owned
  · rw [hown] at hk
    simp only [cond_false] at hk
    obtain ⟨t', x, ad, ds, hk, rfl, h2, h3, h4⟩ := roPtr_ok hk he
    cases hud : decide (t' = d.ty)
    · rw [hud] at hk; cases hk
    rw [hud] at hk
    simp only [cond_true] at hk
    have hud := of_decide_eq_true hud
    subst hud
    obtain ⟨z, h5, h6⟩ := run_load_At hd h3 (rep_width _ _ _ _ _ _ _ h4) (vty_cells hvt h4)
    exact ⟨_, z, hk, h5, ds, h4, h6⟩
  · rw [hown] at hk
    simp only [cond_true] at hk
    obtain ⟨l, b, π, c, hl, hk, hc, hg, ho, ds, p, o, S', rfl, h1, h2, h3, h4⟩ := plc_ok h hk he
    cases hud : decide (c.t = d.ty)
    · rw [hud] at hk; cases hk
    rw [hud] at hk
    simp only [cond_true] at hk
    have hud := of_decide_eq_true hud
    have hw := rep_width _ _ _ _ _ _ _ h2
    have hvc := vty_cells (by rw [hud]; exact hvt) h2
    rw [hud] at hw hvc
    obtain ⟨z, h5, h6⟩ := run_load_At hd (lies_at h4.2.2.1) hw hvc
    rw [← hud] at h6
    exact ⟨_, z, hk, h5, outE_ok h hl hg ho h1 h2 h6⟩
end
end Go.Proofs.YtgonfcjdhbjkcaaDoor.Rf
/- Layer 8: addresses of fields and of elements; fields of values; lengths. -/
set_option linter.unusedVariables false
set_option linter.unusedSimpArgs false
namespace Go.Proofs.YtgonfcjdhbjkcaaDoor.Rf
open Go

def fldPath (n f : Nat) : List Stp := .st :: (List.replicate f .snd ++ bif Nat.blt (f + 1) n then [.fst] else [])

def inlineOff : Ty → List Stp → Option Nat
  | _, [] => some 0
  | .st t, .st :: π => inlineOff t π
  | .pair a _, .fst :: π => inlineOff a π
  | .pair a b, .snd :: π => match inlineOff b π with | some k => some (a.width + k) | none => none
  | .arr _ t, .ai i :: π => match inlineOff t π with | some k => some (i.toNat * t.width + k) | none => none
  | _, _ :: _ => none

theorem inline_res {w : World} : ∀ (π : List Stp) (t : Ty) (cs : List Value) (p o k : Nat) (ds : List Value) (s : Option (Nat × Nat)), inlineOff t π = some k → resolve w t cs (some (p, o)) π = some (ds, s) → s = some (p, o + k) := by
  intro π
  induction π with
  | nil => intro t cs p o k ds s hk h; rw [resolve_nil] at h; have : k = 0 := by cases t <;> simp [inlineOff] at hk <;> exact hk.symm
           subst this; injection h with h; injection h with _ h; exact h.symm
  | cons p0 π ih =>
    intro t cs p o k ds s hk h
    cases t <;> cases p0 <;> simp only [resolve, reduceCtorEq] at h <;> simp only [inlineOff, reduceCtorEq] at hk
    case st.st => exact ih _ _ _ _ _ _ _ hk h
    case pair.fst => exact ih _ _ _ _ _ _ _ hk h
    case pair.snd =>
      split at hk
      · rename_i k' hk'
        injection hk with hk
        subst hk
        rw [ih _ _ _ _ _ _ _ hk' h, Nat.add_assoc]
      · cases hk
    case arr.ai =>
      split at h
      · split at hk
        · rename_i k' hk'
          injection hk with hk
          subst hk
          rw [ih _ _ _ _ _ _ _ hk' h, Nat.add_assoc]
        · cases hk
      · cases h

theorem add_add (a : Addr) (k j : Nat) : (a.add k).add j = a.add (k + j) := by
  unfold Addr.add
  rcases Nat.eq_zero_or_pos k with rfl | hk
  · simp
  · rcases Nat.eq_zero_or_pos j with rfl | hj
    · simp
    · rw [if_neg (by omega), if_neg (by omega), if_neg (by omega)]
      simp [Nat.add_assoc]
theorem At.part {w : World} {ad : Addr} {pre ds post : List Value} (h : At w ad (pre ++ ds ++ post)) : At w (ad.add pre.length) ds := by
  intro j v hj
  rw [add_add]
  apply h
  have hjl : j < ds.length := (List.getElem?_eq_some_iff.1 hj).1
  rw [List.append_assoc, List.getElem?_append_right (by omega), Nat.add_sub_cancel_left, List.getElem?_append_left hjl]
  exact hj

theorem inline_ro {F : BSet} {w : World} : ∀ (π : List Stp) (t : Ty) (x : t.T) (ad : Addr) (ds : List Value) (k : Nat) (c : V), inlineOff t π = some k → get? t x π = some c → At w ad ds → Rep F w t .ro x ds BSet.none → ∃ ds', At w (ad.add k) ds' ∧ Rep F w c.t .ro c.x ds' BSet.none := by
  intro π
  induction π with
  | nil =>
    intro t x ad ds k c hk hg h hr
    rw [get?_nil] at hg
    injection hg with hg
    subst hg
    have : k = 0 := by cases t <;> simp [inlineOff] at hk <;> exact hk.symm
    subst this
    exact ⟨ds, by rw [Addr.add_zero']; exact h, hr⟩
  | cons p0 π ih =>
    intro t x ad ds k c hk hg h hr
    unfold get? at hg
    cases t <;> cases p0 <;> simp only [getP, reduceCtorEq] at hg <;> simp only [inlineOff, reduceCtorEq] at hk
    case st.st => exact ih _ _ _ _ _ _ hk hg h hr
    case pair.fst a b =>
      obtain ⟨c1, c2, S1, S2, rfl, h1, h2, _⟩ := hr
      exact ih _ _ ad c1 _ _ hk hg (by have := At.part (pre := []) (ds := c1) (post := c2) (by simpa using h); rw [List.length_nil, Addr.add_zero'] at this; exact this) (rep_noOwn a _ rfl _ _ _ _ h1)
    case pair.snd a b =>
      obtain ⟨c1, c2, S1, S2, rfl, h1, h2, _⟩ := hr
      split at hk
      · rename_i k' hk'
        injection hk with hk
        subst hk
        have hp := At.part (pre := c1) (ds := c2) (post := []) (by simpa using h)
        rw [rep_width _ _ _ _ _ _ _ h1] at hp
        rw [← add_add]
        exact ih _ _ _ c2 _ _ hk' hg hp (rep_noOwn b _ rfl _ _ _ _ h2)
      · cases hk
    case arr.ai n t i =>
      split at hg
      · cases hz : (x : List t.T)[i.toNat]? with
        | none => rw [hz] at hg; simp at hg
        | some z =>
          rw [hz] at hg
          split at hk
          · rename_i k' hk'
            injection hk with hk
            subst hk
            obtain ⟨d, T, pre, post, hd, t1, rfl, hp, _⟩ := RepL.focus (fun y c S h => rep_width F w t _ y c S h) hz hr.2
            have hp2 := At.part h
            rw [hp] at hp2
            rw [← add_add]
            exact ih _ _ _ d _ _ hk' hg hp2 (rep_noOwn t _ rfl _ _ _ _ hd)
          · cases hk
      · cases hg

section
variable {P : Program} {B : Base} {F : BSet} {Sg : Nat → BSet} {cg : Nat → List Value} {σ : St} {a : Act} {w : World}

/-- A place within a place. -/
theorem adr_ok (h : InvG B F Sg cg σ a w) {l : Nat} {b : Lab} (hl : σ.L l = some b) {π : List Stp} {c : V} (hcr : crosses π = true) (hg : get? b.t b.x π = some c) (ho : ownP b.t b.m π = true) {p o : Nat}
    (hr : ∀ ds s, resolve w b.t (cg l) none π = some (ds, s) → s = some (p, o)) : EntOk F w σ.L σ.U cg (.adr l b.v π c) (.pointer (some ⟨p, o, none⟩)) := by
  obtain ⟨ds, p', o', S', h1, _⟩ := focB h hl hcr hg ho
  have e1 := hr _ _ h1
  injection e1 with e1
  injection e1 with e1 e2
  subst e1; subst e2
  refine ⟨h.used l b hl, fun b' hb' => ?_⟩
  rw [hl] at hb'
  injection hb' with hb'
  subst hb'
  refine ⟨Nat.le_refl _, fun hs p2 o2 hr2 => ?_, fun _ => ⟨ho, hg, fun ds2 p2 o2 hr2 => ?_⟩⟩
  · rw [rootAddr_of _ _ _ _ _ hs h1] at hr2
    injection hr2 with hr2
    injection hr2 with q1 q2
    subst q1; subst q2; rfl
  · rw [h1] at hr2
    injection hr2 with hr2
    injection hr2 with _ hr2
    injection hr2 with hr2
    injection hr2 with q1 q2
    subst q1; subst q2; rfl

theorem crosses_idx (π : List Stp) (i : Int) : crosses (π ++ [.idx i]) = true := by
  induction π with
  | nil => rfl
  | cons p π ih => cases p <;> first | rfl | exact ih
theorem crosses_app {π ρ : List Stp} (h : crosses π = true) : crosses (π ++ ρ) = true := by
  induction π with
  | nil => simp [crosses] at h
  | cons p π ih => cases p <;> first | rfl | exact ih h

theorem inline_own : ∀ (φ : List Stp) (t : Ty) (m : Md) (k : Nat), inlineOff t φ = some k → ownP t m φ = true := by
  intro φ
  induction φ with
  | nil => intro t m k _; cases t <;> rfl
  | cons p φ ih =>
    intro t m k h
    cases t <;> cases p <;> simp only [inlineOff, reduceCtorEq] at h <;> simp only [ownP]
    case st.st => exact ih _ _ _ h
    case pair.fst => exact ih _ _ _ h
    case pair.snd => (split at h <;> first | exact ih _ _ _ (by assumption) | cases h)
    case arr.ai => (split at h <;> first | exact ih _ _ _ (by assumption) | cases h)

abbrev Tab := TypeId → Option TD
def TabOk (P : Program) (TT : Tab) : Prop := ∀ t d, TT t = some d → TOk P t d

/-- The field f of a struct type: its path and its type, handed on. -/
def fldK {R : Type} (TT : Tab) (s f : Nat) (K : TD → Nat → List Stp → TD → Option R) : Option R :=
  match TT s with
  | none => none
  | some d => match d.kd with
    | .struct fs => match fs[f]? with
      | none => none
      | some q => match TT q.1 with
        | none => none
        | some df => bif Nat.beq df.ty.width 0 then none else
          match inlineOff d.ty (fldPath fs.length f) with
          | none => none
          | some k => bif Nat.beq k q.2 then K d k (fldPath fs.length f) df else none
    | _ => none

theorem fldK_ok {R : Type} {TT : Tab} (hT : TabOk P TT) {s f : Nat} {K : TD → Nat → List Stp → TD → Option R} {r : R} (h : fldK TT s f K = some r) :
    ∃ d k φ df fields fl, K d k φ df = some r ∧ TOk P s d ∧ inlineOff d.ty φ = some k ∧ P.underlying s = some (.struct fields) ∧ fields[f]? = some fl ∧ fl.offset = k ∧ TOk P fl.type df ∧ df.ty.width ≠ 0 := by
  unfold fldK at h
  cases h1 : TT s with
  | none => rw [h1] at h; cases h
  | some d =>
    rw [h1] at h
    simp only at h
    have hd := hT s d h1
    split at h
    · rename_i fs hk
      cases h2 : fs[f]? with
      | none => rw [h2] at h; cases h
      | some q =>
        rw [h2] at h
        simp only at h
        cases h3 : TT q.1 with
        | none => rw [h3] at h; cases h
        | some df =>
          rw [h3] at h
          simp only at h
          cases h4 : Nat.beq df.ty.width 0
          · rw [h4] at h
            simp only [cond_false] at h
            cases h5 : inlineOff d.ty (fldPath fs.length f) with
            | none => rw [h5] at h; cases h
            | some k =>
              rw [h5] at h
              simp only at h
              cases h6 : Nat.beq k q.2
              · rw [h6] at h; cases h
              rw [h6] at h
              simp only [cond_true] at h
              have hds := hd.desc
              rw [hk] at hds
              simp only at hds
              obtain ⟨fields, hu, hf⟩ := hds
              have hq : (fields.toList.map (fun x => (x.type, x.offset)))[f]? = some q := by rw [hf]; exact h2
              rw [List.getElem?_map] at hq
              obtain ⟨fl, hfl, hq⟩ := Option.map_eq_some_iff.1 hq
              subst hq
              refine ⟨d, k, _, df, fields, fl, h, hd, h5, hu, by simpa using hfl, (Nat.eq_of_beq_eq_true h6).symm, hT _ _ h3, fun h0 => ?_⟩
              rw [h0] at h4
              cases h4
          · rw [h4] at h; cases h
    · cases h

def offIs (o : Option Nat) (k : Nat) : Bool := match o with | some k' => Nat.beq k' k | none => false
theorem offIs_eq {o : Option Nat} {k : Nat} (h : offIs o k = true) : o = some k := by
  cases o with
  | none => cases h
  | some k' => rw [Nat.eq_of_beq_eq_true h]
def xFieldAddr {R : Type} (TT : Tab) (σ : St) (s : TypeId) (e : Ent0) (f : Nat) (K : Ent0 → Option R) : Option R :=
  fldK TT s f fun d k φ df =>
    bif e.owned then plc σ e fun l b π c => bif offIs (inlineOff c.t φ) k then getP c.t c.x φ fun u y => K (.adr l b.v (π ++ φ) ⟨u, y⟩) else none
    else roPtr e fun t x => bif decide (t = d.ty) then getP t x φ fun u y => bif decide (u = df.ty) then K (.radr u y) else none else none

theorem xFieldAddr_ok (h : InvG B F Sg cg σ a w) {R : Type} {TT : Tab} (hT : TabOk P TT) {s : TypeId} {f : Nat} {e : Ent0} {K : Ent0 → Option R} {r : R} (hk : xFieldAddr TT σ s e f K = some r) {v : Value} (he : EntOk F w σ.L σ.U cg e v) :
    ∃ e' z, K e' = some r ∧ (Instr.fieldAt s v f).run P w = .ok z w ∧ EntOk F w σ.L σ.U cg e' z := by
  obtain ⟨d, k, φ, df, fields, fl, hk, hd, hin, hu, hfl, hoff, hdf, hw0⟩ := fldK_ok hT hk
  have hrun : ∀ ad : Addr, (Instr.fieldAt s (.pointer (some ad)) f).run P w = .ok (.pointer (some (ad.add k))) w := by
    intro ad
    simp [Instr.fieldAt, run_underlying hu, hfl, Instr.sureAddr, fieldPlace, run_sizeOf hdf, hw0, hoff]
  cases hown : e.owned
  · rw [hown] at hk
    simp only [cond_false] at hk
    obtain ⟨t', x, ad, ds, hk, rfl, h2, h3, h4⟩ := roPtr_ok hk he
    cases hud : decide (t' = d.ty)
    · rw [hud] at hk; cases hk
    rw [hud] at hk
    simp only [cond_true] at hk
    have hud := of_decide_eq_true hud
    subst hud
    rw [getP_eq] at hk
    obtain ⟨c, hg, hk⟩ := Option.bind_eq_some_iff.1 hk
    cases hud : decide (c.t = df.ty)
    · rw [hud] at hk; cases hk
    rw [hud] at hk
    simp only [cond_true] at hk
    obtain ⟨ds', h5, h6⟩ := inline_ro _ _ _ _ _ _ _ hin hg h3 h4
    exact ⟨_, _, hk, hrun ad, _, ds', rfl, by rw [add_block]; exact h2, h5, h6⟩
  · rw [hown] at hk
    simp only [cond_true] at hk
    obtain ⟨l, b, π, c, hl, hk, hc, hg, ho, ds, p, o, S', rfl, h1, h2, h3, h4⟩ := plc_ok h hk he
    cases hud : offIs (inlineOff c.t φ) k
    · rw [hud] at hk; cases hk
    rw [hud] at hk
    simp only [cond_true] at hk
    rw [getP_eq] at hk
    obtain ⟨c', hg', hk⟩ := Option.bind_eq_some_iff.1 hk
    have hin' : inlineOff c.t φ = some k := offIs_eq hud
    have hat := get?_atT _ _ _ _ hg
    refine ⟨_, _, hk, ?_, adr_ok h hl (crosses_app hc) (by rw [get?_app, hg]; exact hg') (by rw [ownP_app, ho, ← hat, inline_own _ _ _ _ hin']; rfl) (p := p) (o := o + k) (fun ds2 s2 hr => ?_)⟩
    · rw [hrun, Addr.add_lit]
    · rw [resolve_app, h1] at hr
      simp only [Option.bind_some] at hr
      rw [← hat] at hr
      exact inline_res _ _ _ _ _ _ _ _ hin' hr

/-- What a name stands for now. -/
def hcur {R : Type} (σ : St) (e : Ent0) (K : Nat → Lab → List Stp → V → Option R) : Option R :=
  match e with
  | .hdr l n π c => match σ.L l with
    | some b => bif Nat.beq n b.v then K l b π c else bif π.isEmpty then K l b [] ⟨b.t, b.x⟩ else none
    | none => none
  | _ => none

theorem hcur_ok (h : InvG B F Sg cg σ a w) {R : Type} {e : Ent0} {K : Nat → Lab → List Stp → V → Option R} {r : R} (hk : hcur σ e K = some r) {v : Value} (he : EntOk F w σ.L σ.U cg e v) :
    ∃ l b π c, σ.L l = some b ∧ K l b π c = some r ∧ get? b.t b.x π = some c ∧ ownP b.t b.m π = true ∧
      ∃ ds s S', resolve w b.t (cg l) none π = some (ds, s) ∧ Rep F w c.t (atM b.t b.m π) c.x ds S' ∧ Sub S' (Sg l) ∧ Foc F w b.t b.m b.x (cg l) (Sg l) none π c.t ds s S' ∧ VR c.t ds v := by
  unfold hcur at hk
  split at hk
  · rename_i l n π c
    cases hl : σ.L l with
    | none => rw [hl] at hk; cases hk
    | some b =>
      rw [hl] at hk
      simp only at hk
      obtain ⟨hu, he2⟩ := he
      obtain ⟨_, h1, h2⟩ := he2 b hl
      cases hn : Nat.beq n b.v
      · rw [hn] at hk
        simp only [cond_false] at hk
        cases hp : π.isEmpty
        · rw [hp] at hk; cases hk
        rw [hp] at hk
        simp only [cond_true] at hk
        have : π = [] := by cases π <;> simp_all
        subst this
        have ho : ownP b.t b.m [] = true := by cases b.t <;> rfl
        obtain ⟨ds, s, S', h3, h4, h5, h6⟩ := focus F w [] b.t b.m b.x (cg l) (Sg l) none b.t b.x (h.lab l b hl) (get?_nil _ _) ho
        refine ⟨l, b, [], ⟨b.t, b.x⟩, hl, hk, get?_nil _ _, ho, ds, s, S', h3, h4, h5, h6, ?_⟩
        rw [resolve_nil] at h3
        injection h3 with h3
        injection h3 with h3 _
        subst h3
        exact h1 rfl
      · rw [hn] at hk
        simp only [cond_true] at hk
        obtain ⟨h3, hg, h4⟩ := h2 (Nat.eq_of_beq_eq_true hn)
        obtain ⟨ds, s, S', h5, h6, h7, h8⟩ := focus F w π b.t b.m b.x (cg l) (Sg l) none c.t c.x (h.lab l b hl) hg h3
        refine ⟨l, b, π, c, hl, hk, hg, h3, ds, s, S', h5, h6, h7, h8, ?_⟩
        rw [get?_atT _ _ _ _ hg]
        exact h4 _ _ h5
  · cases hk

def isIdx (e : Ent0) {R : Type} (K : Int → Option R) : Option R :=
  match e with
  | .val (.int _) i => K i
  | _ => none

def xIndexAddr {R : Type} (TT : Tab) (σ : St) (t : TypeId) (ex ei : Ent0) (K : Ent0 → Option R) : Option R :=
  isIdx ei fun i =>
  match TT t with
  | none => none
  | some d => match d.kd with
    | .slice e => match TT e with
      | none => none
      | some de => match ex with
        | .val (.sl t') xs => bif decide (t' = de.ty) then (if 0 ≤ i then (match (xs : List t'.T)[i.toNat]? with | some y => K (.radr t' y) | none => none) else none) else none
        | .hdr .. => hcur σ ex fun l b π c => bif decide (c.t = .sl de.ty) && ownP b.t b.m (π ++ [.idx i]) then getP c.t c.x [.idx i] fun u y => K (.adr l b.v (π ++ [.idx i]) ⟨u, y⟩) else none
        | _ => none
    | .array n e => match TT e with
      | none => none
      | some de =>
        bif ex.owned then plc σ ex fun l b π c => bif decide (c.t = .arr n de.ty) then getP c.t c.x [.ai i] fun u y => K (.adr l b.v (π ++ [.ai i]) ⟨u, y⟩) else none
        else roPtr ex fun t' x => bif decide (t' = .arr n de.ty) then getP t' x [.ai i] fun u y => K (.radr u y) else none
    | _ => none

theorem run_indexAt_slice {t e : TypeId} {de : TD} (hu : P.underlying t = some (.slice e)) (hde : TOk P e de) {k : IntKind} {i : Int} {len cap : Nat} {ad : Addr} (h0 : 0 ≤ i) (h1 : i.toNat < len) :
    (Instr.indexAt t (.slice (some ad) len cap) (.int k i)).run P w = .ok (.pointer (some (ad.add (i.toNat * de.ty.width)))) w := by
  have h2 : i < (len : Int) := by omega
  simp [Instr.indexAt, asIntOf, run_underlying hu, h0, h2, run_sizeOf hde]
theorem run_indexAt_array {t e : TypeId} {n : Nat} {de : TD} (hu : P.underlying t = some (.array n e)) (hde : TOk P e de) {k : IntKind} {i : Int} {ad : Addr} (h0 : 0 ≤ i) (h1 : i.toNat < n) :
    (Instr.indexAt t (.pointer (some ad)) (.int k i)).run P w = .ok (.pointer (some (ad.add (i.toNat * de.ty.width)))) w := by
  have h2 : i < (n : Int) := by omega
  simp [Instr.indexAt, asIntOf, run_underlying hu, Instr.sureAddr, h0, h2, run_sizeOf hde]

theorem get?_idx {t : Ty} {xs : List t.T} {i : Int} {c : V} (h : get? (.sl t) xs [.idx i] = some c) : 0 ≤ i ∧ ∃ y, xs[i.toNat]? = some y ∧ c = ⟨t, y⟩ := by
  unfold get? at h
  simp only [getP] at h
  split at h
  · rename_i h0
    cases hz : xs[i.toNat]? with
    | none => rw [hz] at h; cases h
    | some y =>
      rw [hz] at h
      exact ⟨h0, y, rfl, (Option.some.inj h).symm⟩
  · cases h
theorem get?_ai {n : Nat} {t : Ty} {xs : List t.T} {i : Int} {c : V} (h : get? (.arr n t) xs [.ai i] = some c) : 0 ≤ i ∧ ∃ y, xs[i.toNat]? = some y ∧ c = ⟨t, y⟩ := by
  unfold get? at h
  simp only [getP] at h
  split at h
  · rename_i h0
    cases hz : xs[i.toNat]? with
    | none => rw [hz] at h; cases h
    | some y =>
      rw [hz] at h
      exact ⟨h0, y, rfl, (Option.some.inj h).symm⟩
  · cases h

theorem ro_row {t : Ty} {xs : List t.T} {cs : List Value} (h : Rep F w (.sl t) .ro xs cs BSet.none) {v : Value} (hv : VR (.sl t) cs v) : ∃ ao cap, v = .slice ao xs.length cap ∧ xs.length ≤ cap ∧ cap ≤ maxLen ∧
    (0 < xs.length → ∃ ad, ao = some ad ∧ F ad.block ∧ ∃ ds, At w ad ds ∧ RepL (Rep F w t .ro) xs ds BSet.none) := by
  obtain ⟨ao, cap, rfl, h1, h2, h3⟩ := h
  simp [VR, Ty.agg] at hv
  exact ⟨ao, cap, hv.1.symm, h1, h2, h3⟩

theorem isIdx_ok {R : Type} {L : Nat → Option Lab} {U : Nat → Bool} {e : Ent0} {K : Int → Option R} {r : R} (h : isIdx e K = some r) {v : Value} (he : EntOk F w L U cg e v) : ∃ k i, K i = some r ∧ v = .int k i ∧ inK k i := by
  unfold isIdx at h
  split at h
  · rename_i k i; obtain ⟨h1, h2⟩ := val_int he; exact ⟨k, i, h, h1, h2⟩
  · cases h

theorem xIndexAddr_ok (h : InvG B F Sg cg σ a w) {R : Type} {TT : Tab} (hT : TabOk P TT) {t : TypeId} {ex ei : Ent0} {K : Ent0 → Option R} {r : R} (hk : xIndexAddr TT σ t ex ei K = some r) {v vi : Value} (he : EntOk F w σ.L σ.U cg ex v) (hi : EntOk F w σ.L σ.U cg ei vi) :
    ∃ e' z, K e' = some r ∧ (Instr.indexAt t v vi).run P w = .ok z w ∧ EntOk F w σ.L σ.U cg e' z := by
  unfold xIndexAddr at hk
  obtain ⟨k, i, hk, rfl, _⟩ := isIdx_ok hk hi
  cases h1 : TT t with
  | none => rw [h1] at hk; cases hk
  | some d =>
  rw [h1] at hk
  simp only at hk
  have hd := (hT t d h1).desc
  split at hk
  · rename_i e hkd
    rw [hkd] at hd
    simp only at hd
    cases h2 : TT e with
    | none => rw [h2] at hk; cases hk
    | some de =>
    rw [h2] at hk
    simp only at hk
    have hde := hT e de h2
    split at hk
    · rename_i t' xs _hk0
      cases hud : decide (t' = de.ty)
      · rw [hud] at hk; cases hk
      rw [hud] at hk
      simp only [cond_true] at hk
      have hud := of_decide_eq_true hud
      subst hud
      split at hk
      · rename_i h0
        cases hz : (xs : List de.ty.T)[i.toNat]? with
        | none => rw [hz] at hk; cases hk
        | some y =>
          rw [hz] at hk
          simp only at hk
          obtain ⟨cs, hr, hv⟩ := he
          obtain ⟨ao, cap, rfl, h3, h4, h5⟩ := ro_row hr hv
          have hlt : i.toNat < List.length xs := (List.getElem?_eq_some_iff.1 hz).1
          obtain ⟨ad, rfl, hf, ds, hat, hrow⟩ := h5 (by omega)
          obtain ⟨dd, T, pre, post, hdd, _, rfl, hp, _⟩ := RepL.focus (fun y c S h => rep_width F w de.ty _ y c S h) hz hrow
          refine ⟨_, _, hk, run_indexAt_slice hd hde h0 hlt, _, dd, rfl, by rw [add_block]; exact hf, ?_, rep_noOwn _ _ rfl _ _ _ _ hdd⟩
          rw [← hp]
          exact At.part hat
      · cases hk
    · rename_i l0 n0 π0 c0
      obtain ⟨l, b, π, c, hl, hk, hg, ho, ds, s, S', hr, hrep, hsub, hfoc, hv⟩ := hcur_ok h hk he
      cases hud : decide (c.t = .sl de.ty) && ownP b.t b.m (π ++ [.idx i])
      · rw [hud] at hk; cases hk
      rw [hud] at hk
      simp only [cond_true] at hk
      simp only [Bool.and_eq_true, decide_eq_true_eq] at hud
      obtain ⟨hct, ho2⟩ := hud
      obtain ⟨ct, cx⟩ := c
      simp only at hct
      subst hct
      simp only at hk hg hr hrep hv hfoc
      rw [getP_eq] at hk
      obtain ⟨c', hg', hk⟩ := Option.bind_eq_some_iff.1 hk
      obtain ⟨h0, y, hy, rfl⟩ := get?_idx hg'
      have hlt : i.toNat < List.length cx := (List.getElem?_eq_some_iff.1 hy).1
      have hg2 : get? b.t b.x (π ++ [.idx i]) = some ⟨de.ty, y⟩ := by rw [get?_app, hg]; exact hg'
      have hcr : crosses (π ++ [.idx i]) = true := by
        exact crosses_idx π i
      obtain ⟨ds2, p, o, S2, h3, _⟩ := focB h hl hcr hg2 ho2
      have hat := get?_atT _ _ _ _ hg
      simp only at hat
      have h3' := h3
      rw [resolve_app, hr] at h3'
      simp only [Option.bind_some] at h3'
      rw [← hat] at h3'
      simp only [resolve] at h3'
      split at h3'
      · rename_i bb off len cp
        split at h3'
        · rename_i hc
          injection h3' with h3'
          injection h3' with _ h3'
          injection h3' with h3'
          injection h3' with q1 q2
          subst q1; subst q2
          simp [VR, Ty.agg] at hv
          obtain ⟨rfl, _⟩ := hv
          refine ⟨_, .pointer (some ⟨bb, off + i.toNat * de.ty.width, none⟩), hk, ?_, adr_ok h hl hcr hg2 ho2 (fun ds3 s3 hr3 => ?_)⟩
          · rw [run_indexAt_slice hd hde h0 hc.2, Addr.add_lit]
          · rw [h3] at hr3
            injection hr3 with hr3
            injection hr3 with _ hr3
            exact hr3.symm
        · cases h3'
      · cases h3'
    · cases hk
  · rename_i n e hkd
    rw [hkd] at hd
    simp only at hd
    cases h2 : TT e with
    | none => rw [h2] at hk; cases hk
    | some de =>
    rw [h2] at hk
    simp only at hk
    have hde := hT e de h2
    cases hown : ex.owned
    · rw [hown] at hk
      simp only [cond_false] at hk
      obtain ⟨t', x, ad, ds, hk, rfl, h3, h4, h5⟩ := roPtr_ok hk he
      cases hud : decide (t' = .arr n de.ty)
      · rw [hud] at hk; cases hk
      rw [hud] at hk
      simp only [cond_true] at hk
      have hud := of_decide_eq_true hud
      subst hud
      rw [getP_eq] at hk
      obtain ⟨c, hg, hk⟩ := Option.bind_eq_some_iff.1 hk
      obtain ⟨h0, y, hy, rfl⟩ := get?_ai hg
      have hlt : i.toNat < n := by rw [← h5.1]; exact (List.getElem?_eq_some_iff.1 hy).1
      have hin : inlineOff (.arr n de.ty) [.ai i] = some (i.toNat * de.ty.width) := by
        have : inlineOff de.ty [] = some 0 := by cases de.ty <;> rfl
        simp [inlineOff, this]
      obtain ⟨ds', h6, h7⟩ := inline_ro _ _ _ _ _ _ _ hin hg h4 h5
      exact ⟨_, _, hk, run_indexAt_array hd hde h0 hlt, _, ds', rfl, by rw [add_block]; exact h3, h6, h7⟩
    · rw [hown] at hk
      simp only [cond_true] at hk
      obtain ⟨l, b, π, c, hl, hk, hc, hg, ho, ds, p, o, S', rfl, h3, h4, h5, h6⟩ := plc_ok h hk he
      cases hud : decide (c.t = .arr n de.ty)
      · rw [hud] at hk; cases hk
      rw [hud] at hk
      simp only [cond_true] at hk
      have hud := of_decide_eq_true hud
      obtain ⟨ct, cx⟩ := c
      simp only at hud
      subst hud
      rw [getP_eq] at hk
      obtain ⟨c', hg', hk⟩ := Option.bind_eq_some_iff.1 hk
      obtain ⟨h0, y, hy, rfl⟩ := get?_ai hg'
      have hlt : i.toNat < n := by rw [← h4.1]; exact (List.getElem?_eq_some_iff.1 hy).1
      have hin : inlineOff (.arr n de.ty) [.ai i] = some (i.toNat * de.ty.width) := by
        have : inlineOff de.ty [] = some 0 := by cases de.ty <;> rfl
        simp [inlineOff, this]
      have hat := get?_atT _ _ _ _ hg
      refine ⟨_, .pointer (some ⟨p, o + i.toNat * de.ty.width, none⟩), hk, ?_, adr_ok h hl (crosses_app hc) (by rw [get?_app, hg]; exact hg') (by rw [ownP_app, ho, ← hat, inline_own _ _ _ _ hin]; rfl) (fun ds2 s2 hr => ?_)⟩
      · rw [run_indexAt_array hd hde h0 hlt, Addr.add_lit]
      · rw [resolve_app, h3] at hr
        simp only [Option.bind_some] at hr
        rw [← hat] at hr
        exact inline_res _ _ _ _ _ _ _ _ hin hr
  · cases hk
end
end Go.Proofs.YtgonfcjdhbjkcaaDoor.Rf
/- Layer 9: states behind a change of memory; stores; new variables. -/
set_option linter.unusedVariables false
set_option linter.unusedSimpArgs false
namespace Go.Proofs.YtgonfcjdhbjkcaaDoor.Rf
open Go

theorem setCells_heap (b : Nat) : ∀ (es : List Value) (o : Nat) (w : World) (c : Array Value) (e : TypeId) (fr : Nat × Nat), w.heap[b]? = some (.cells c e fr) → o + es.length ≤ c.size →
    (∀ k, k ≠ b → (w.setCells b o es).heap[k]? = w.heap[k]?) ∧ (∃ c', (w.setCells b o es).heap[b]? = some (.cells c' e fr) ∧ c'.toList = c.toList.take o ++ es ++ c.toList.drop (o + es.length)) ∧
    (w.setCells b o es).heap.size = w.heap.size ∧ (w.setCells b o es).os = w.os ∧ (w.setCells b o es).tape = w.tape ∧ (w.setCells b o es).output = w.output
  | [], o, w, c, e, fr, hb, hc => ⟨fun _ _ => rfl, ⟨c, hb, by simp⟩, rfl, rfl, rfl, rfl⟩
  | v :: r, o, w, c, e, fr, hb, hc => by
    simp only [List.length_cons] at hc
    have hlt : b < w.heap.size := (Array.getElem?_eq_some_iff.1 hb).1
    have h1 : (w.setCell ⟨b, o, none⟩ v).heap[b]? = some (.cells (c.setIfInBounds o v) e fr) := by
      simp [World.setCell, Array.getElem?_modify, hb]
    have h2 : ∀ k, k ≠ b → (w.setCell ⟨b, o, none⟩ v).heap[k]? = w.heap[k]? := by
      intro k hk
      simp [World.setCell, Array.getElem?_modify, Ne.symm hk]
    obtain ⟨i1, ⟨c', i2, i3⟩, i4, i5, i6, i7⟩ := setCells_heap b r (o + 1) (w.setCell ⟨b, o, none⟩ v) (c.setIfInBounds o v) e fr h1 (by simp; omega)
    refine ⟨fun k hk => (i1 k hk).trans (h2 k hk), ⟨c', i2, ?_⟩, i4.trans (by simp [World.setCell]), i5, i6, i7⟩
    rw [i3]
    have ho : o < c.toList.length := by simp; omega
    rw [Array.toList_setIfInBounds, List.take_set, List.drop_set_of_lt (by omega)]
    rw [List.take_succ_eq_append_getElem ho, List.set_append_right _ _ (by rw [List.length_take]; omega)]
    have e1 : o - (List.take o c.toList).length = 0 := by rw [List.length_take]; omega
    rw [e1]
    simp only [List.set_cons_zero, List.length_cons, List.append_assoc, List.cons_append, List.nil_append]
    rw [show o + 1 + r.length = o + (r.length + 1) by omega]

theorem upd_lies {w : World} {p o : Nat} {ds es : List Value} (h : Lies w p o ds) (he : es.length = ds.length) :
    Upd w (w.setCells p o es) p o ds es ∧ (∀ k, k ≠ p → (w.setCells p o es).heap[k]? = w.heap[k]?) ∧ (w.setCells p o es).heap.size = w.heap.size ∧ (w.setCells p o es).os = w.os ∧ (w.setCells p o es).tape = w.tape ∧ (w.setCells p o es).output = w.output := by
  obtain ⟨c, e, hb, l, r, hc, hl⟩ := h
  have hlen : o + es.length ≤ c.size := by
    have : c.toList.length = (l ++ ds ++ r).length := by rw [hc]
    simp only [Array.length_toList, List.length_append] at this
    omega
  obtain ⟨i1, ⟨c', i2, i3⟩, i4, i5, i6, i7⟩ := setCells_heap p es o w c e.t (e.a, e.b) hb hlen
  refine ⟨⟨c, c', e, l, r, hb, i2, hc, ?_, hl⟩, i1, i4, i5, i6, i7⟩
  rw [i3, hc, ← hl]
  congr 1
  · congr 1
    rw [List.append_assoc, List.take_append_of_le_length (Nat.le_refl _), List.take_length]
  · rw [show l.length + es.length = (l ++ ds).length by rw [List.length_append, he]]
    rw [List.drop_append_of_le_length (Nat.le_refl _), List.drop_length, List.nil_append]

theorem lies_store {P : Program} {w : World} {p o : Nat} {ds : List Value} (h : Lies w p o ds) {t : TypeId} {d : TD} (hd : TOk P t d) {v : Value} {es : List Value} (hv : v.cells.toList = es) (hw : es.length = d.ty.width) (hl : es.length = ds.length) (h1 : ∀ u ∈ es, u.oneCell' = true) :
    (Instr.storeAt t (.pointer (some ⟨p, o, none⟩)) v).run P w = .ok () (w.setCells p o es) := by
  obtain ⟨c, e, hb, l, r, hc, hlo⟩ := h
  have hlen : o + es.length ≤ c.size := by
    have : c.toList.length = (l ++ ds ++ r).length := by rw [hc]
    simp only [Array.length_toList, List.length_append] at this
    omega
  have hst := run_storeCells_cells (P := P) p o es 0 w (fun j hj => by
      simp only [Nat.add_zero]
      simp [World.cell?, hb]
      omega)
    (fun j hj => by simp only [Nat.add_zero]; exact Mark.frz (e := e) hb rfl (by show o + j < c.size; omega)) h1
  have hsz : v.cells.size = d.ty.width := by rw [← Array.length_toList, hv, hw]
  simp only [Nat.add_zero] at hst
  simp [Instr.storeAt, Instr.sureAddr, storeVar, run_sizeOf hd, hsz, hv, hst]

section
variable {P : Program} {B : Base} {F : BSet} {Sg : Nat → BSet} {cg : Nat → List Value} {σ : St} {a : Act} {w : World}

/-- A label's content changes; others may go. -/
theorem InvG.relab (h : InvG B F Sg cg σ a w) {w' : World} (ho : w'.os = w.os) (ht : w'.tape = w.tape) (hou : w'.output = w.output) (hs : w.heap.size ≤ w'.heap.size) {l : Nat} {b b' : Lab} (hl : σ.L l = some b)
    (hb : ∀ k, k < w.heap.size → ¬ Sg l k → w'.heap[k]? = w.heap[k]?) (hVR : ∀ v, VR b.t (cg l) v → VR b'.t (cg l) v) (hRA : ∀ π q, rootAddr b'.t (cg l) none π = some q → rootAddr b.t (cg l) none π = some q) (hv : b.v < b'.v) {F' : BSet} (hFF : Sub F F') {S2 : BSet} (hrep : Rep F' w' b'.t b'.m b'.x (cg l) S2) (L' : Nat → Option Lab) (hLl : L' l = some b') (hL : ∀ j, j ≠ l → L' j = none ∨ L' j = σ.L j)
    (hF' : ∀ k, F' k → F k ∨ (w.heap.size ≤ k ∧ k < w'.heap.size ∧ ¬ S2 k))
    (hS2 : ∀ k, S2 k → Sg l k ∨ (∃ l2 b2, l2 ≠ l ∧ σ.L l2 = some b2 ∧ L' l2 = none ∧ Sg l2 k) ∨ (w.heap.size ≤ k ∧ k < w'.heap.size)) : InvG B F' (fun j => if j = l then S2 else Sg j) cg { σ with L := L' } a w' := by
  have hLs : ∀ j bj, j ≠ l → L' j = some bj → σ.L j = some bj := fun j bj hj hb => by
    rcases hL j hj with e | e
    · rw [e] at hb; cases hb
    · rw [← e]; exact hb
  have hFw : ∀ k, F k → w'.heap[k]? = w.heap[k]? := fun k hk => hb k (h.fl k hk) (fun hs => h.disF l b hl k hs hk)
  have hoth : ∀ j bj, j ≠ l → σ.L j = some bj → ∀ k, Sg j k → w'.heap[k]? = w.heap[k]? := fun j bj hj hbj k hk => hb k (h.lt j bj hbj k hk) (fun hs => h.dis j l bj b hj hbj hl k hk hs)
  have hdisS2 : ∀ j bj, j ≠ l → L' j = some bj → Dis S2 (Sg j) := by
    intro j bj hj hbj k h2 hk
    have hbj' := hLs j bj hj hbj
    rcases hS2 k h2 with h3 | ⟨l2, b2, hne, hb2, hn2, h3⟩ | h3
    · exact h.dis l j b bj (Ne.symm hj) hl hbj' k h3 hk
    · by_cases e : l2 = j
      · subst e; rw [hn2] at hbj; cases hbj
      · exact h.dis l2 j b2 bj e hb2 hbj' k h3 hk
    · have := h.lt j bj hbj' k hk; omega
  refine
  { fr := ⟨ho.trans h.fr.os, ht.trans h.fr.tape, hou.trans h.fr.output, Nat.le_trans h.fr.size hs, fun k hk hn => (hb k (Nat.lt_of_lt_of_le hk h.fr.size) (fun hsk => hn (h.may l b hl k hsk hk))).trans (h.fr.block k hk hn)⟩
    size := h.size
    defers := h.defers
    f0 := h.f0.trans hFF
    fl := fun k hk => by
      rcases hF' k hk with hk | hk
      · exact Nat.lt_of_lt_of_le (h.fl k hk) hs
      · exact hk.2.1
    fs := fun k hk h1 h2 => by
      rcases hF' k hk with hk | hk
      · exact h.fs k hk h1 h2
      · have := h.fr.size; omega
    lab := ?_
    dis := ?_
    disF := ?_
    lt := ?_
    may := ?_
    used := ?_
    fix := fun l' cs' hf => ⟨(h.fix l' cs' hf).1, fun b2 hb2 => by
      by_cases e : l' = l
      · subst e; exact (h.fix l' cs' hf).2 b hl
      · exact (h.fix l' cs' hf).2 b2 (hLs l' b2 e hb2)⟩
    ent := ?_ }
  · intro j bj hbj
    by_cases hj : j = l
    · subst hj; simp only at hbj; rw [hLl] at hbj; injection hbj with hbj; subst hbj; rw [if_pos rfl]; exact hrep
    · simp only [if_neg hj]; exact rep_frame hFF hFw _ _ _ _ _ _ (h.lab j bj (hLs j bj hj hbj)) (Sub.refl _) (hoth j bj hj (hLs j bj hj hbj))
  · intro i j bi bj hij hbi hbj
    simp only at hbi hbj
    by_cases hi : i = l
    · subst hi; rw [if_pos rfl, if_neg (Ne.symm hij)]; exact hdisS2 j bj (Ne.symm hij) hbj
    · by_cases hj : j = l
      · subst hj; rw [if_neg hi, if_pos rfl]; exact (hdisS2 i bi hi hbi).symm
      · rw [if_neg hi, if_neg hj]; exact h.dis i j bi bj hij (hLs i bi hi hbi) (hLs j bj hj hbj)
  · intro j bj hbj
    simp only at hbj
    by_cases hj : j = l
    · subst hj; rw [if_pos rfl]
      intro k h2 hf
      rcases hF' k hf with hf | hf
      · rcases hS2 k h2 with h3 | ⟨l2, b2, hne, hb2, hn2, h3⟩ | h3
        · exact h.disF _ b hl k h3 hf
        · exact h.disF l2 b2 hb2 k h3 hf
        · have := h.fl k hf; omega
      · exact hf.2.2 h2
    · rw [if_neg hj]
      intro k hk hf
      rcases hF' k hf with hf | hf
      · exact h.disF j bj (hLs j bj hj hbj) k hk hf
      · have := h.lt j bj (hLs j bj hj hbj) k hk; omega
  · intro j bj hbj k hk
    simp only at hbj
    by_cases hj : j = l
    · subst hj; rw [if_pos rfl] at hk
      rcases hS2 k hk with h3 | ⟨l2, b2, hne, hb2, hn2, h3⟩ | h3
      · exact Nat.lt_of_lt_of_le (h.lt _ b hl k h3) hs
      · exact Nat.lt_of_lt_of_le (h.lt l2 b2 hb2 k h3) hs
      · exact h3.2
    · rw [if_neg hj] at hk; exact Nat.lt_of_lt_of_le (h.lt j bj (hLs j bj hj hbj) k hk) hs
  · intro j bj hbj k hk hlt
    simp only at hbj
    by_cases hj : j = l
    · subst hj; rw [if_pos rfl] at hk
      rcases hS2 k hk with h3 | ⟨l2, b2, hne, hb2, hn2, h3⟩ | h3
      · exact h.may _ b hl k h3 hlt
      · exact h.may l2 b2 hb2 k h3 hlt
      · have := h.fr.size; omega
    · rw [if_neg hj] at hk; exact h.may j bj (hLs j bj hj hbj) k hk hlt
  · intro j bj hbj
    simp only at hbj ⊢
    by_cases hj : j = l
    · subst hj; exact h.used _ b hl
    · exact h.used j bj (hLs j bj hj hbj)
  · intro t e he
    refine (h.ent t e he).imp fun e v hv => ?_
    cases e with
    | val t x =>
      obtain ⟨cs, h1, h2⟩ := hv
      exact ⟨cs, rep_frame hFF hFw t .ro x cs _ _ h1 (Sub.refl _) (fun _ h => h.elim), h2⟩
    | cst u => exact hv
    | radr t x =>
      obtain ⟨ad, ds, h1, h2, h3, h4⟩ := hv
      exact ⟨ad, ds, h1, hFF _ h2, h3.congr (hFw _ h2), rep_frame hFF hFw t .ro x ds _ _ h4 (Sub.refl _) (fun _ h => h.elim)⟩
    | hdr j n π c =>
      refine ⟨hv.1, fun bj hbj => ?_⟩
      have hbj : L' j = some bj := hbj
      by_cases hj : j = l
      · subst hj
        rw [hLl] at hbj; injection hbj with hbj; subst hbj
        obtain ⟨h0, h1, h2⟩ := hv.2 b hl
        exact ⟨by omega, fun hp => hVR _ (h1 hp), fun hn => by omega⟩
      · have hbj' := hLs j bj hj hbj
        obtain ⟨h0, h1, h2⟩ := hv.2 bj hbj'
        refine ⟨h0, h1, fun hn => ?_⟩
        obtain ⟨h3, h4, h5⟩ := h2 hn
        refine ⟨h3, h4, ?_⟩
        rw [resolve_congr π bj.t bj.m bj.x (cg j) (Sg j) none (h.lab j bj hbj') h3 (by rw [h4]; rfl) (hoth j bj hj hbj')]
        exact h5
    | adr j n π c =>
      refine ⟨hv.1, fun bj hbj => ?_⟩
      have hbj : L' j = some bj := hbj
      by_cases hj : j = l
      · subst hj
        rw [hLl] at hbj; injection hbj with hbj; subst hbj
        obtain ⟨h0, h1, h2⟩ := hv.2 b hl
        exact ⟨by omega, fun hp p o hr => h1 hp p o (hRA _ _ hr), fun hn => by omega⟩
      · have hbj' := hLs j bj hj hbj
        obtain ⟨h0, h1, h2⟩ := hv.2 bj hbj'
        refine ⟨h0, h1, fun hn => ?_⟩
        obtain ⟨h3, h4, h5⟩ := h2 hn
        refine ⟨h3, h4, ?_⟩
        rw [resolve_congr π bj.t bj.m bj.x (cg j) (Sg j) none (h.lab j bj hbj') h3 (by rw [h4]; rfl) (hoth j bj hj hbj')]
        exact h5
end
end Go.Proofs.YtgonfcjdhbjkcaaDoor.Rf
/- Layer 10: new labels, frozen labels; stores; new variables. -/
set_option linter.unusedVariables false
set_option linter.unusedSimpArgs false
namespace Go.Proofs.YtgonfcjdhbjkcaaDoor.Rf
open Go

section
variable {P : Program} {B : Base} {F : BSet} {Sg : Nat → BSet} {cg : Nat → List Value} {σ : St} {a : Act} {w : World}

/-- A new label; others may go, and what they owned may change. -/
theorem InvG.addLab (h : InvG B F Sg cg σ a w) {w' : World} (ho : w'.os = w.os) (ht : w'.tape = w.tape) (hou : w'.output = w.output) (hs : w.heap.size ≤ w'.heap.size) {l : Nat} {b : Lab} (hU : σ.U l = false) (L' : Nat → Option Lab)
    (hb : ∀ k, k < w.heap.size → ¬ (∃ l2 b2, σ.L l2 = some b2 ∧ L' l2 = none ∧ Sg l2 k) → w'.heap[k]? = w.heap[k]?) {cs : List Value} {S2 : BSet} (hrep : Rep F w' b.t b.m b.x cs S2) (hLl : L' l = some b) (hL : ∀ j, j ≠ l → L' j = none ∨ L' j = σ.L j)
    (hS2 : ∀ k, S2 k → (∀ j bj, j ≠ l → L' j = some bj → ¬ Sg j k) ∧ ¬ F k ∧ k < w'.heap.size ∧ (k < B.w0.heap.size → B.S0 k)) :
    InvG B F (fun j => if j = l then S2 else Sg j) (fun j => if j = l then cs else cg j) { σ with L := L', U := fun j => Nat.beq j l || σ.U j } a w' := by
  have hLn : σ.L l = none := by
    cases hl : σ.L l with
    | none => rfl
    | some b => have := h.used l b hl; rw [hU] at this; cases this
  have hLs : ∀ j bj, j ≠ l → L' j = some bj → σ.L j = some bj := fun j bj hj hb => by
    rcases hL j hj with e | e
    · rw [e] at hb; cases hb
    · rw [← e]; exact hb
  have hFw : ∀ k, F k → w'.heap[k]? = w.heap[k]? := fun k hk => hb k (h.fl k hk) (fun ⟨l2, b2, h1, _, h3⟩ => h.disF l2 b2 h1 k h3 hk)
  have hoth : ∀ j bj, j ≠ l → L' j = some bj → ∀ k, Sg j k → w'.heap[k]? = w.heap[k]? := fun j bj hj hbj k hk => by
    have hbj' := hLs j bj hj hbj
    refine hb k (h.lt j bj hbj' k hk) (fun ⟨l2, b2, h1, h2, h3⟩ => ?_)
    by_cases e : l2 = j
    · subst e; rw [h2] at hbj; cases hbj
    · exact h.dis l2 j b2 bj e h1 hbj' k h3 hk
  have hdisS2 : ∀ j bj, j ≠ l → L' j = some bj → Dis S2 (Sg j) := by
    intro j bj hj hbj k h2 hk
    exact (hS2 k h2).1 j bj hj hbj hk
  refine
  { fr := ⟨ho.trans h.fr.os, ht.trans h.fr.tape, hou.trans h.fr.output, Nat.le_trans h.fr.size hs, fun k hk hn => (hb k (Nat.lt_of_lt_of_le hk h.fr.size) (fun ⟨l2, b2, h1, _, h3⟩ => hn (h.may l2 b2 h1 k h3 hk))).trans (h.fr.block k hk hn)⟩
    size := h.size
    defers := h.defers
    f0 := h.f0
    fl := fun k hk => Nat.lt_of_lt_of_le (h.fl k hk) hs
    fs := h.fs
    lab := ?_
    dis := ?_
    disF := ?_
    lt := ?_
    may := ?_
    used := ?_
    fix := fun l' cs' hf => by
      have hne : l' ≠ l := fun e => by have := (h.fix l' cs' hf).1.1; rw [e, hU] at this; cases this
      refine ⟨⟨by simp [(h.fix l' cs' hf).1.1], (h.fix l' cs' hf).1.2⟩, fun b2 hb2 => ?_⟩
      simp only [if_neg hne]
      exact (h.fix l' cs' hf).2 b2 (hLs l' b2 hne hb2)
    ent := ?_ }
  · intro j bj hbj
    simp only at hbj
    by_cases hj : j = l
    · subst hj; rw [hLl] at hbj; injection hbj with hbj; subst hbj; rw [if_pos rfl, if_pos rfl]; exact hrep
    · rw [if_neg hj, if_neg hj]; exact rep_frame (Sub.refl _) hFw _ _ _ _ _ _ (h.lab j bj (hLs j bj hj hbj)) (Sub.refl _) (hoth j bj hj hbj)
  · intro i j bi bj hij hbi hbj
    simp only at hbi hbj
    by_cases hi : i = l
    · subst hi; rw [if_pos rfl, if_neg (Ne.symm hij)]; exact hdisS2 j bj (Ne.symm hij) hbj
    · by_cases hj : j = l
      · subst hj; rw [if_neg hi, if_pos rfl]; exact (hdisS2 i bi hi hbi).symm
      · rw [if_neg hi, if_neg hj]; exact h.dis i j bi bj hij (hLs i bi hi hbi) (hLs j bj hj hbj)
  · intro j bj hbj
    simp only at hbj
    by_cases hj : j = l
    · subst hj; rw [if_pos rfl]
      intro k h2 hf
      exact (hS2 k h2).2.1 hf
    · rw [if_neg hj]; exact h.disF j bj (hLs j bj hj hbj)
  · intro j bj hbj k hk
    simp only at hbj
    by_cases hj : j = l
    · subst hj; rw [if_pos rfl] at hk
      exact (hS2 k hk).2.2.1
    · rw [if_neg hj] at hk; exact Nat.lt_of_lt_of_le (h.lt j bj (hLs j bj hj hbj) k hk) hs
  · intro j bj hbj k hk hlt
    simp only at hbj
    by_cases hj : j = l
    · subst hj; rw [if_pos rfl] at hk
      exact (hS2 k hk).2.2.2 hlt
    · rw [if_neg hj] at hk; exact h.may j bj (hLs j bj hj hbj) k hk hlt
  · intro j bj hbj
    simp only at hbj ⊢
    by_cases hj : j = l
    · subst hj; simp [Nat.beq_refl]
    · rw [h.used j bj (hLs j bj hj hbj)]; simp
  · intro t e he
    refine (h.ent t e he).imp fun e v hv => ?_
    have old : ∀ j, σ.U j = true → j ≠ l := fun j hu e => by subst e; rw [hU] at hu; cases hu
    cases e with
    | val t x =>
      obtain ⟨cs, h1, h2⟩ := hv
      exact ⟨cs, rep_frame (Sub.refl _) hFw t .ro x cs _ _ h1 (Sub.refl _) (fun _ h => h.elim), h2⟩
    | cst u => exact hv
    | radr t x =>
      obtain ⟨ad, ds, h1, h2, h3, h4⟩ := hv
      exact ⟨ad, ds, h1, h2, h3.congr (hFw _ h2), rep_frame (Sub.refl _) hFw t .ro x ds _ _ h4 (Sub.refl _) (fun _ h => h.elim)⟩
    | hdr j n π c =>
      have hj := old j hv.1
      refine ⟨by simp [hv.1], fun bj hbj => ?_⟩
      have hbj : L' j = some bj := hbj
      obtain ⟨h0, h1, h2⟩ := hv.2 bj (hLs j bj hj hbj)
      simp only [if_neg hj]
      refine ⟨h0, h1, fun hn => ?_⟩
      obtain ⟨h3, h4, h5⟩ := h2 hn
      refine ⟨h3, h4, ?_⟩
      rw [resolve_congr π bj.t bj.m bj.x (cg j) (Sg j) none (h.lab j bj (hLs j bj hj hbj)) h3 (by rw [h4]; rfl) (hoth j bj hj hbj)]
      exact h5
    | adr j n π c =>
      have hj := old j hv.1
      refine ⟨by simp [hv.1], fun bj hbj => ?_⟩
      have hbj : L' j = some bj := hbj
      obtain ⟨h0, h1, h2⟩ := hv.2 bj (hLs j bj hj hbj)
      simp only [if_neg hj]
      refine ⟨h0, h1, fun hn => ?_⟩
      obtain ⟨h3, h4, h5⟩ := h2 hn
      refine ⟨h3, h4, ?_⟩
      rw [resolve_congr π bj.t bj.m bj.x (cg j) (Sg j) none (h.lab j bj (hLs j bj hj hbj)) h3 (by rw [h4]; rfl) (hoth j bj hj hbj)]
      exact h5

/-- What a label owned is read alone from now on. -/
theorem InvG.freeze (h : InvG B F Sg cg σ a w) {l : Nat} {b : Lab} (hl : σ.L l = some b) : InvG B (F.or (Sg l)) Sg cg { σ with L := upd σ.L l none } a w := by
  have hLs : ∀ j bj, upd σ.L l none j = some bj → j ≠ l ∧ σ.L j = some bj := fun j bj hb => by
    rcases upd_some hb with ⟨_, e⟩ | e
    · cases e
    · exact e
  have hF : Sub F (F.or (Sg l)) := fun k h => .inl h
  refine
  { fr := h.fr
    size := h.size
    defers := h.defers
    f0 := h.f0.trans hF
    fl := fun k hk => hk.elim (h.fl k) (h.lt l b hl k)
    fs := fun k hk h1 h2 => hk.elim (fun hk => h.fs k hk h1 h2) (fun hk => absurd (h.may l b hl k hk h1) h2)
    lab := fun j bj hbj => rep_frame hF (fun _ _ => rfl) _ _ _ _ _ _ (h.lab j bj (hLs j bj hbj).2) (Sub.refl _) (fun _ _ => rfl)
    dis := fun i j bi bj hij hbi hbj => h.dis i j bi bj hij (hLs i bi hbi).2 (hLs j bj hbj).2
    disF := fun j bj hbj k hk hf => hf.elim (h.disF j bj (hLs j bj hbj).2 k hk) (fun hf => h.dis j l bj b (hLs j bj hbj).1 (hLs j bj hbj).2 hl k hk hf)
    lt := fun j bj hbj => h.lt j bj (hLs j bj hbj).2
    may := fun j bj hbj => h.may j bj (hLs j bj hbj).2
    used := fun j bj hbj => h.used j bj (hLs j bj hbj).2
    fix := fun j cs' hf => ⟨(h.fix j cs' hf).1, fun b2 hb2 => (h.fix j cs' hf).2 b2 (hLs j b2 hb2).2⟩
    ent := ?_ }
  intro t e he
  refine (h.ent t e he).imp fun e v hv => ?_
  cases e with
  | val t x => obtain ⟨cs, h1, h2⟩ := hv; exact ⟨cs, rep_frame hF (fun _ _ => rfl) t .ro x cs _ _ h1 (Sub.refl _) (fun _ h => h.elim), h2⟩
  | cst u => exact hv
  | radr t x => obtain ⟨ad, ds, h1, h2, h3, h4⟩ := hv; exact ⟨ad, ds, h1, .inl h2, h3, rep_frame hF (fun _ _ => rfl) t .ro x ds _ _ h4 (Sub.refl _) (fun _ h => h.elim)⟩
  | hdr j n π c => exact ⟨hv.1, fun bj hbj => hv.2 bj (hLs j bj hbj).2⟩
  | adr j n π c => exact ⟨hv.1, fun bj hbj => hv.2 bj (hLs j bj hbj).2⟩

/-! ### Stores -/
def zM : Ty → Md
  | .sl _ => .own .ro
  | .pair a b => .pr (zM a) (zM b)
  | .st t => zM t
  | .ptr _ => .own .ro
  | _ => .ro
theorem okM_zM : ∀ (t : Ty), okM t (zM t) = true := by
  intro t
  induction t with
  | pair a b iha ihb => simp [okM, zM, Md.fst, Md.snd, iha, ihb]
  | st t ih => exact ih
  | arr n t ih => exact okM_ro t
  | _ => rfl
def valM (e : Ent0) (u : Ty) : Md := match e with | .cst _ => zM u | _ => .ro

theorem asT_okM {R : Type} {L : Nat → Option Lab} {U : Nat → Bool} {e : Ent0} {want : Ty} {K : want.T → Option R} {r : R} (h : asT e want K = some r) {v : Value} (he : EntOk F w L U cg e v) :
    ∃ x cs, K x = some r ∧ Rep F w want (valM e want) x cs BSet.none ∧ VR want cs v := by
  unfold asT at h
  split at h
  · rename_i t x
    split at h
    · rename_i ht
      subst ht
      obtain ⟨cs, h1, h2⟩ := he
      exact ⟨x, cs, h, h1, h2⟩
    · cases h
  · rename_i u
    have hv : v = u := he
    subst hv
    cases hb : vrC want v
    · rw [hb] at h; cases h
    · rw [hb] at h
      simp only [cond_true] at h
      cases hc : rdC want v.cells.toList with
      | none => rw [hc] at h; cases h
      | some x => rw [hc] at h; exact ⟨x, _, h, rdC_ok _ _ _ _ (by unfold valM; exact okM_zM _) hc, vrC_ok hb⟩
  · cases h

theorem setM_ok : ∀ (π : List Stp) (t : Ty) (m m' r : Md), setM t m π m' = some r → SetM t m π m' r := by
  intro π
  induction π with
  | nil => intro t m m' r h; cases t <;> (simp only [setM, Option.some.injEq] at h; exact h.symm)
  | cons p π ih =>
    intro t m m' r h
    cases t <;> cases p <;> simp only [setM, reduceCtorEq] at h <;> simp only [SetM]
    case st.st => exact ih _ _ _ _ h
    case pair.fst =>
      split at h
      · rename_i q hq
        injection h with h
        refine ⟨q, ih _ _ _ _ hq, ?_⟩
        split at h
        · rename_i hq2; exact .inl ⟨h.symm, hq2⟩
        · exact .inr h.symm
      · cases h
    case pair.snd =>
      split at h
      · rename_i q hq
        injection h with h
        refine ⟨q, ih _ _ _ _ hq, ?_⟩
        split at h
        · rename_i hq2; exact .inl ⟨h.symm, hq2⟩
        · exact .inr h.symm
      · cases h
    case sl.idx =>
      split at h
      · split at h
        · rename_i q hq
          split at h
          · rename_i hq2; subst hq2; injection h with h; exact ⟨_, rfl, ih _ _ _ _ hq, h.symm⟩
          · cases h
        · cases h
      · cases h
    case arr.ai =>
      split at h
      · rename_i q hq
        split at h
        · rename_i hq2; injection h with h; exact ⟨by have := ih _ _ _ _ hq; rw [hq2] at this; exact this, h.symm⟩
        · cases h
      · cases h
    case box.deref =>
      split at h
      · split at h
        · rename_i q hq; injection h with h; exact ⟨_, _, rfl, ih _ _ _ _ hq, h.symm⟩
        · cases h
      · cases h
    case ptr.deref =>
      split at h
      · split at h
        · rename_i q hq; injection h with h; exact ⟨_, _, rfl, ih _ _ _ _ hq, h.symm⟩
        · cases h
      · cases h

def St.withL (σ : St) (L : Nat → Option Lab) : St := { σ with L := L }

def xStore {R : Type} (d : TD) (σ : St) (ep ev : Ent0) (K : St → Option R) : Option R :=
  plc σ ep fun l b π c =>
    bif decide (c.t = d.ty) && c.t.vty then
      (match ev with
      | .hdr l2 _ π2 _ => bif π2.isEmpty && !(Nat.beq l l2) then (match σ.L l2 with
        | some b2 => match setM b.t b.m π b2.m with
          | some mr => setP b.t b.x π b2.t b2.x fun x' => bif decide (b2.t = c.t) then K (σ.withL (upd (upd σ.L l2 none) l (some ⟨b.v + 1, b.t, mr, x'⟩))) else none
          | none => none
        | none => none) else none
      | ev => asT ev c.t fun y => match setM b.t b.m π (bif c.t.flat then atM b.t b.m π else valM ev c.t) with
        | some mr => setP b.t b.x π c.t y fun x' => K (σ.withL (upd σ.L l (some ⟨b.v + 1, b.t, mr, x'⟩)))
        | none => none)
    else none

theorem xStore_ok (h : InvG B F Sg cg σ a w) {R : Type} {t : TypeId} {d : TD} (hd : TOk P t d) {ep ev : Ent0} {K : St → Option R} {r : R} (hk : xStore d σ ep ev K = some r) {vp v : Value} (hp : EntOk F w σ.L σ.U cg ep vp) (hv : EntOk F w σ.L σ.U cg ev v) :
    ∃ σ' w' Sg', K σ' = some r ∧ (Instr.storeAt t vp v).run P w = .ok () w' ∧ InvG B F Sg' cg σ' a w' ∧ σ'.E = σ.E := by
  unfold xStore at hk
  obtain ⟨l, b, π, c, hl, hk, hc, hg, ho, ds, p, o, S', rfl, h1, h2, h3, h4⟩ := plc_ok h hk hp
  cases hud : decide (c.t = d.ty) && c.t.vty
  · rw [hud] at hk; cases hk
  rw [hud] at hk
  simp only [cond_true] at hk
  simp only [Bool.and_eq_true, decide_eq_true_eq] at hud
  obtain ⟨hct, hvt⟩ := hud
  obtain ⟨hSp, hnp, hlies, wand⟩ := h4
  have hdl := rep_width _ _ _ _ _ _ _ h2
  -- the common end
  have fin : ∀ (es : List Value) (y : c.t.T) (m' mr : Md) (x' : b.t.T) (Rw : BSet) (L' : Nat → Option Lab), Rep F w c.t m' y es Rw → VR c.t es v → SetM b.t b.m π m' mr → set? b.t b.x π c.t y = some x' →
      (∀ k, Rw k → ∃ l2 b2, l2 ≠ l ∧ σ.L l2 = some b2 ∧ L' l2 = none ∧ Sg l2 k) → L' l = some ⟨b.v + 1, b.t, mr, x'⟩ → (∀ j, j ≠ l → L' j = none ∨ L' j = σ.L j) →
      ∃ w' Sg', (Instr.storeAt t (.pointer (some ⟨p, o, none⟩)) v).run P w = .ok () w' ∧ InvG B F Sg' cg (σ.withL L') a w' := by
    intro es y m' mr x' Rw L' hy hv hM hset hR hLl hL
    have hel := rep_width _ _ _ _ _ _ _ hy
    have hleq : es.length = ds.length := by rw [hel, hdl]
    obtain ⟨u1, u2, u3, u4, u5, u6⟩ := upd_lies hlies hleq
    have hrun := lies_store hlies hd hv.cells (by rw [hel, hct]) hleq (rep_one _ _ _ _ _ hy)
    have hRp : ¬ Rw p := fun hrp => by
      obtain ⟨l2, b2, hne, hb2, _, hk2⟩ := hR p hrp
      exact h.dis l2 l b2 b hne hb2 hl p hk2 hSp
    have hFp : ∀ k, F k → k ≠ p := fun k hk e => h.disF l b hl p hSp (e ▸ hk)
    have hy' : Rep F (w.setCells p o es) c.t m' y es Rw := rep_frame (Sub.refl _) (fun k hk => u2 k (hFp k hk)) _ _ _ _ _ _ hy (Sub.refl _) (fun k hk => u2 k (fun e => hRp (e ▸ hk)))
    have hrep := wand F (w.setCells p o es) y es Rw x' m' mr hM (Sub.refl _) hset hy' hleq
      (fun k hk hs => by obtain ⟨l2, b2, hne, hb2, _, hk2⟩ := hR k hk; exact (h.dis l2 l b2 b hne hb2 hl k hk2 hs).elim)
      (fun k _ _ hne => u2 k hne) u1 (fun k hk => u2 k (hFp k hk))
    refine ⟨_, _, hrun, h.relab u4 u5 u6 (by rw [u3]; exact Nat.le_refl _) hl (fun k _ hn => u2 k (fun e => hn (e ▸ hSp))) (b' := ⟨b.v + 1, b.t, mr, x'⟩) (fun _ h => h) (fun _ _ h => h) (Nat.lt_succ_self _) (Sub.refl _) hrep L' hLl hL (fun k hk => .inl hk) (fun k hk => ?_)⟩
    rcases hk with hk | hk
    · exact .inl hk.1
    · exact .inr (.inl (hR k hk))
  split at hk
  · rename_i l2 n2 π2 c2 _hk0
    cases hb : π2.isEmpty && !(Nat.beq l l2)
    · rw [hb] at hk; cases hk
    rw [hb] at hk
    simp only [cond_true] at hk
    simp only [Bool.and_eq_true, Bool.not_eq_true'] at hb
    have hp2 : π2 = [] := by cases π2 <;> simp_all
    subst hp2
    have hne : l ≠ l2 := fun e => by subst e; simp [Nat.beq_refl] at hb
    cases hl2 : σ.L l2 with
    | none => rw [hl2] at hk; cases hk
    | some b2 =>
    rw [hl2] at hk
    simp only at hk
    cases hM : setM b.t b.m π b2.m with
    | none => rw [hM] at hk; cases hk
    | some mr =>
    rw [hM] at hk
    simp only at hk
    rw [setP_eq] at hk
    obtain ⟨x', hset, hk'⟩ := Option.bind_eq_some_iff.1 hk
    cases hud : decide (b2.t = c.t)
    · rw [hud] at hk'; cases hk'
    rw [hud] at hk'
    simp only [cond_true] at hk'
    have hud := of_decide_eq_true hud
    have hv2 := (hv.2 b2 hl2).2.1 rfl
    have hrep2 := h.lab l2 b2 hl2
    obtain ⟨v2, t2, m2, x2⟩ := b2
    simp only at hud hM hset hv2 hrep2
    subst hud
    obtain ⟨w', Sg', e1, e2⟩ := fin (cg l2) x2 m2 mr x' (Sg l2) (upd (upd σ.L l2 none) l (some ⟨b.v + 1, b.t, mr, x'⟩)) hrep2 hv2 (setM_ok _ _ _ _ _ hM) hset
      (fun k hk => ⟨l2, _, Ne.symm hne, hl2, by rw [upd_ne _ _ (Ne.symm hne), upd_same], hk⟩) (upd_same _ _ _)
      (fun j hj => by
        rw [upd_ne _ _ hj]
        by_cases e : j = l2
        · subst e; rw [upd_same]; exact .inl rfl
        · rw [upd_ne _ _ e]; exact .inr rfl)
    exact ⟨_, w', Sg', hk', e1, e2, rfl⟩
  · skip
    obtain ⟨y, es, hk, hy, hvr⟩ := asT_okM hk hv
    cases hM : setM b.t b.m π (bif c.t.flat then atM b.t b.m π else valM ev c.t) with
    | none => rw [hM] at hk; cases hk
    | some mr =>
    rw [hM] at hk
    simp only at hk
    rw [setP_eq] at hk
    obtain ⟨x', hset, hk⟩ := Option.bind_eq_some_iff.1 hk
    have hy' : Rep F w c.t (bif c.t.flat then atM b.t b.m π else valM ev c.t) y es BSet.none := by
      cases hf : c.t.flat
      · exact hy
      · exact rep_flat _ hf _ _ _ _ _ _ hy
    obtain ⟨w', Sg', e1, e2⟩ := fin es y _ mr x' BSet.none (upd σ.L l (some ⟨b.v + 1, b.t, mr, x'⟩)) hy' hvr (setM_ok _ _ _ _ _ hM) hset (fun k hk => hk.elim) (upd_same _ _ _) (fun j hj => by rw [upd_ne _ _ hj]; exact .inr rfl)
    exact ⟨_, w', Sg', hk, e1, e2, rfl⟩
end
end Go.Proofs.YtgonfcjdhbjkcaaDoor.Rf
/- Layer 11: a part is taken out of a box: what was there becomes a label of its own. -/
set_option linter.unusedVariables false
set_option linter.unusedSimpArgs false
namespace Go.Proofs.YtgonfcjdhbjkcaaDoor.Rf
open Go

/-- No element of a row on the way. -/
def noIdx : List Stp → Bool
  | [] => true
  | .idx _ :: _ => false
  | .ai _ :: _ => false
  | _ :: π => noIdx π

/-- The value with another part, of whatever type, at a path. -/
def replP : (t : Ty) → t.T → List Stp → V → Option V
  | _, _, [], c => some c
  | .st t, x, .st :: π, c => match replP t x π c with | some v => some ⟨.st v.t, v.x⟩ | none => none
  | .pair a b, x, .fst :: π, c => match replP a x.1 π c with | some v => some ⟨.pair v.t b, (v.x, x.2)⟩ | none => none
  | .pair a b, x, .snd :: π, c => match replP b x.2 π c with | some v => some ⟨.pair a v.t, (x.1, v.x)⟩ | none => none
  | .box t, x, .deref :: π, c => match replP t x π c with | some v => some ⟨.box v.t, v.x⟩ | none => none
  | _, _, _ :: _, _ => none

def replM : Md → List Stp → Md → Md
  | _, [], m' => m'
  | m, .st :: π, m' => replM m π m'
  | m, .fst :: π, m' => .pr (replM m.fst π m') m.snd
  | m, .snd :: π, m' => .pr m.fst (replM m.snd π m')
  | m, .deref :: π, m' => .own (replM m.el π m')
  | m, _ :: _, _ => m

/-- What a focus gives when the part's type turns. -/
def FocR (F : BSet) (w : World) (t : Ty) (m : Md) (x : t.T) (cs : List Value) (S : BSet) (s : Option (Nat × Nat)) (π : List Stp) (ds : List Value) (s' : Option (Nat × Nat)) (S' : BSet) : Prop :=
  (∃ pre post, cs = pre ++ ds ++ post ∧ s' = s.map (fun p => (p.1, p.2 + pre.length)) ∧
    ∀ F' w' (c : V) es R v' m', replP t x π c = some v' → Sub F F' → Rep F' w' c.t m' c.x es R → es.length = ds.length → (∀ k, R k → S k → S' k) →
      (∀ k, S k → ¬ S' k → w'.heap[k]? = w.heap[k]?) → (∀ k, F k → w'.heap[k]? = w.heap[k]?) →
      Rep F' w' v'.t (replM m π m') v'.x (pre ++ es ++ post) (fun k => (S k ∧ ¬ S' k) ∨ R k)) ∨
  (∃ b o, s' = some (b, o) ∧ S b ∧ ¬ S' b ∧ Lies w b o ds ∧
    ∀ F' w' (c : V) es R v' m', replP t x π c = some v' → Sub F F' → Rep F' w' c.t m' c.x es R → es.length = ds.length → (∀ k, R k → S k → S' k) →
      (∀ k, S k → ¬ S' k → k ≠ b → w'.heap[k]? = w.heap[k]?) → Upd w w' b o ds es → (∀ k, F k → w'.heap[k]? = w.heap[k]?) →
      Rep F' w' v'.t (replM m π m') v'.x cs (fun k => (S k ∧ ¬ S' k) ∨ R k))

theorem focusR (F : BSet) (w : World) : ∀ (π : List Stp) (t : Ty) (m : Md) (x : t.T) (cs : List Value) (S : BSet) (s : Option (Nat × Nat)) (c : V),
    Rep F w t m x cs S → get? t x π = some c → ownP t m π = true → (∃ c' v, replP t x π c' = some v) →
    ∃ ds s' S', resolve w t cs s π = some (ds, s') ∧ Rep F w c.t (atM t m π) c.x ds S' ∧ Sub S' S ∧ FocR F w t m x cs S s π ds s' S' := by
  intro π
  induction π with
  | nil =>
    intro t m x cs S s c h hg _ _
    rw [get?_nil] at hg
    injection hg with hg
    subst hg
    refine ⟨cs, s, S, resolve_nil _ _ _ _, ?_, Sub.refl _, .inl ⟨[], [], by simp, ?_, ?_⟩⟩
    · cases t <;> exact h
    · cases s <;> rfl
    · intro F' w' c es R v' m' hs _ hy _ _ _ _
      have hx : v' = c := by cases t <;> (simp only [replP, Option.some.injEq] at hs; exact hs.symm)
      subst hx
      have hm : replM m [] m' = m' := by cases m <;> rfl
      rw [hm]
      simp only [List.nil_append, List.append_nil]
      exact rep_mono hy (fun k h => Or.inr h)
  | cons p0 π ih =>
    intro t m x cs S s c h hg ho hx
    unfold get? at hg
    obtain ⟨c0, v0, hx⟩ := hx
    cases t <;> cases p0 <;> simp only [getP, reduceCtorEq] at hg <;> simp only [replP, reduceCtorEq] at hx
    case st.st t =>
      simp only [ownP] at ho
      have hx' : ∃ c' v, replP t x π c' = some v := by
        split at hx
        · exact ⟨_, _, by assumption⟩
        · cases hx
      obtain ⟨ds, s', S', h1, h2, h3, h4⟩ := ih t m x cs S s c h hg ho hx'
      refine ⟨ds, s', S', h1, h2, h3, ?_⟩
      have key : ∀ {c : V} {v' : V}, replP (.st t) x (.st :: π) c = some v' → ∃ v, replP t x π c = some v ∧ v' = ⟨.st v.t, v.x⟩ := by
        intro c v' hs
        simp only [replP] at hs
        split at hs
        · rename_i v hv; injection hs with hs; exact ⟨v, hv, hs.symm⟩
        · cases hs
      rcases h4 with ⟨pre, post, e1, e2, w2⟩ | ⟨b, o, e1, e2, e3, e4, w2⟩
      · refine .inl ⟨pre, post, e1, e2, ?_⟩
        intro F' w' c es R v' m' hs hF hy he hR hS hFw
        obtain ⟨v, hv, rfl⟩ := key hs
        exact w2 F' w' c es R v m' hv hF hy he hR hS hFw
      · refine .inr ⟨b, o, e1, e2, e3, e4, ?_⟩
        intro F' w' c es R v' m' hs hF hy he hR hS hU hFw
        obtain ⟨v, hv, rfl⟩ := key hs
        exact w2 F' w' c es R v m' hv hF hy he hR hS hU hFw
    case pair.fst a b =>
      obtain ⟨c1, c2, S1, S2, rfl, h1, h2, s1, s2, d⟩ := h
      simp only [ownP] at ho
      have hx' : ∃ c' v, replP a x.1 π c' = some v := by
        split at hx
        · exact ⟨_, _, by assumption⟩
        · cases hx
      have hcl := rep_width _ _ _ _ _ _ _ h1
      obtain ⟨ds, s', S', hres, hrep, s3, hfoc⟩ := ih a m.fst x.1 c1 S1 s c h1 hg ho hx'
      have key : ∀ {c : V} {v' : V}, replP (.pair a b) x (.fst :: π) c = some v' → ∃ v, replP a x.1 π c = some v ∧ v' = ⟨.pair v.t b, (v.x, x.2)⟩ := by
        intro c v' hs
        simp only [replP] at hs
        split at hs
        · rename_i v hv; injection hs with hs; exact ⟨v, hv, hs.symm⟩
        · cases hs
      refine ⟨ds, s', S', ?_, hrep, s3.trans s1, ?_⟩
      · simp only [resolve]; rw [take_width hcl]; exact hres
      · rcases hfoc with ⟨pre2, post2, rfl, rfl, w2⟩ | ⟨b2, o2, rfl, hb2, hnb2, hl2, w2⟩
        · refine .inl ⟨pre2, post2 ++ c2, by simp, rfl, ?_⟩
          intro F' w' c es R v' m' hs hF hy he hR hS hFw
          obtain ⟨z, hz, rfl⟩ := key hs
          refine ⟨pre2 ++ es ++ post2, c2, fun k => (S1 k ∧ ¬ S' k) ∨ R k, S2, by simp, ?_, ?_, ?_, ?_, ?_⟩
          · exact w2 F' w' c es R z m' hz hF hy he (fun k a b => hR k a (s1 k b)) (fun k a b => hS k (s1 k a) b) hFw
          · exact rep_frame hF hFw _ _ _ _ _ _ h2 (Sub.refl _) (fun k hk => hS k (s2 k hk) (fun h' => d k (s3 k h') hk))
          · exact fun k hk => hk.imp (fun h => ⟨s1 k h.1, h.2⟩) id
          · exact fun k hk => .inl ⟨s2 k hk, fun h' => d k (s3 k h') hk⟩
          · exact fun k a b => a.elim (fun a => d k a.1 b) (fun a => d k (s3 k (hR k a (s2 k b))) b)
        · refine .inr ⟨b2, o2, rfl, s1 _ hb2, hnb2, hl2, ?_⟩
          intro F' w' c es R v' m' hs hF hy he hR hS hU hFw
          obtain ⟨z, hz, rfl⟩ := key hs
          refine ⟨c1, c2, fun k => (S1 k ∧ ¬ S' k) ∨ R k, S2, rfl, ?_, ?_, ?_, ?_, ?_⟩
          · exact w2 F' w' c es R z m' hz hF hy he (fun k a b => hR k a (s1 k b)) (fun k a b c => hS k (s1 k a) b c) hU hFw
          · exact rep_frame hF hFw _ _ _ _ _ _ h2 (Sub.refl _) (fun k hk => hS k (s2 k hk) (fun h' => d k (s3 k h') hk) (fun e => d k (e ▸ hb2) hk))
          · exact fun k hk => hk.imp (fun h => ⟨s1 k h.1, h.2⟩) id
          · exact fun k hk => .inl ⟨s2 k hk, fun h' => d k (s3 k h') hk⟩
          · exact fun k a b => a.elim (fun a => d k a.1 b) (fun a => d k (s3 k (hR k a (s2 k b))) b)
    case pair.snd a b =>
      obtain ⟨c1, c2, S1, S2, rfl, h1, h2, s1, s2, d⟩ := h
      simp only [ownP] at ho
      have hx' : ∃ c' v, replP b x.2 π c' = some v := by
        split at hx
        · exact ⟨_, _, by assumption⟩
        · cases hx
      have hcl := rep_width _ _ _ _ _ _ _ h1
      obtain ⟨ds, s', S', hres, hrep, s3, hfoc⟩ := ih b m.snd x.2 c2 S2 (s.map fun p => (p.1, p.2 + a.width)) c h2 hg ho hx'
      have key : ∀ {c : V} {v' : V}, replP (.pair a b) x (.snd :: π) c = some v' → ∃ v, replP b x.2 π c = some v ∧ v' = ⟨.pair a v.t, (x.1, v.x)⟩ := by
        intro c v' hs
        simp only [replP] at hs
        split at hs
        · rename_i v hv; injection hs with hs; exact ⟨v, hv, hs.symm⟩
        · cases hs
      refine ⟨ds, s', S', ?_, hrep, s3.trans s2, ?_⟩
      · simp only [resolve]; rw [drop_width hcl]; exact hres
      · rcases hfoc with ⟨pre2, post2, rfl, rfl, w2⟩ | ⟨b2, o2, rfl, hb2, hnb2, hl2, w2⟩
        · refine .inl ⟨c1 ++ pre2, post2, by simp, ?_, ?_⟩
          · cases s with
            | none => rfl
            | some p => simp [hcl, Nat.add_assoc]
          intro F' w' c es R v' m' hs hF hy he hR hS hFw
          obtain ⟨z, hz, rfl⟩ := key hs
          refine ⟨c1, pre2 ++ es ++ post2, S1, fun k => (S2 k ∧ ¬ S' k) ∨ R k, by simp, ?_, ?_, ?_, ?_, ?_⟩
          · exact rep_frame hF hFw _ _ _ _ _ _ h1 (Sub.refl _) (fun k hk => hS k (s1 k hk) (fun h' => d k hk (s3 k h')))
          · exact w2 F' w' c es R z m' hz hF hy he (fun k a b => hR k a (s2 k b)) (fun k a b => hS k (s2 k a) b) hFw
          · exact fun k hk => .inl ⟨s1 k hk, fun h' => d k hk (s3 k h')⟩
          · exact fun k hk => hk.imp (fun h => ⟨s2 k h.1, h.2⟩) id
          · exact fun k a b => b.elim (fun b => d k a b.1) (fun b => d k a (s3 k (hR k b (s1 k a))))
        · refine .inr ⟨b2, o2, rfl, s2 _ hb2, hnb2, hl2, ?_⟩
          intro F' w' c es R v' m' hs hF hy he hR hS hU hFw
          obtain ⟨z, hz, rfl⟩ := key hs
          refine ⟨c1, c2, S1, fun k => (S2 k ∧ ¬ S' k) ∨ R k, rfl, ?_, ?_, ?_, ?_, ?_⟩
          · exact rep_frame hF hFw _ _ _ _ _ _ h1 (Sub.refl _) (fun k hk => hS k (s1 k hk) (fun h' => d k hk (s3 k h')) (fun e => d k hk (e ▸ hb2)))
          · exact w2 F' w' c es R z m' hz hF hy he (fun k a b => hR k a (s2 k b)) (fun k a b c => hS k (s2 k a) b c) hU hFw
          · exact fun k hk => .inl ⟨s1 k hk, fun h' => d k hk (s3 k h')⟩
          · exact fun k hk => hk.imp (fun h => ⟨s2 k h.1, h.2⟩) id
          · exact fun k a b => b.elim (fun b => d k a b.1) (fun b => d k a (s3 k (hR k b (s1 k a))))
    case box.deref t =>
      simp only [ownP, Bool.and_eq_true] at ho
      have hx' : ∃ c' v, replP t x π c' = some v := by
        split at hx
        · exact ⟨_, _, by assumption⟩
        · cases hx
      cases m with
      | ro => simp [Md.isOwn] at ho
      | pr _ _ => simp [Md.isOwn] at ho
      | own m =>
        obtain ⟨p, cc, e, rfl, hb, hS0, S1, hr, s1, n1⟩ := h
        have hcl := rep_width F w t m x _ _ hr
        have hlies : Lies w p 0 cc.toList := ⟨cc, e, hb, [], [], by simp, rfl⟩
        obtain ⟨ds, s', S', hres, hrep, s2, hfoc⟩ := ih t m x cc.toList S1 (some (p, 0)) c hr hg ho.2 hx'
        have hcc := cellsAt_lies hlies
        rw [hcl] at hcc
        have np : ¬ S' p := fun h' => n1 (s2 p h')
        have key : ∀ {c : V} {v' : V}, replP (.box t) x (.deref :: π) c = some v' → ∃ v, replP t x π c = some v ∧ v' = ⟨.box v.t, v.x⟩ := by
          intro c v' hs
          simp only [replP] at hs
          split at hs
          · rename_i v hv; injection hs with hs; exact ⟨v, hv, hs.symm⟩
          · cases hs
        refine ⟨ds, s', S', by simp only [resolve]; rw [hcc]; exact hres, hrep, s2.trans s1, ?_⟩
        rcases hfoc with ⟨pre2, post2, hc2, rfl, w2⟩ | ⟨b2, o2, rfl, hb2, hnb2, hl2, w2⟩
        · refine .inr ⟨p, 0 + pre2.length, rfl, hS0, np, ⟨cc, e, hb, pre2, post2, hc2, by simp⟩, ?_⟩
          intro F' w' c es R v' m' hs hF hy he hR hk hU hFw
          obtain ⟨z, hz, rfl⟩ := key hs
          obtain ⟨c1, c', e1, l, r, hb1, hb', hc1, hc', hl⟩ := hU
          have hcc : c1 = cc := by rw [hb] at hb1; injection hb1 with hb1; injection hb1 with hb1 _ _; exact hb1.symm
          subst hcc
          have hsz : c'.size = c1.size := by
            rw [← Array.length_toList, ← Array.length_toList, hc1, hc']; simp [he]
          refine ⟨p, c', e1.to (Nat.le_of_eq hsz), rfl, hb', .inl ⟨hS0, np⟩, fun k => (S1 k ∧ ¬ S' k) ∨ R k, ?_, fun k hk => hk.imp (fun h => ⟨s1 k h.1, h.2⟩) id, ?_⟩
          · have := w2 F' w' c es R z m' hz hF hy he (fun k a b => hR k a (s1 k b)) (fun k a b => hk k (s1 k a) b (fun e => n1 (e ▸ a))) hFw
            have e3 : l ++ (ds ++ r) = pre2 ++ (ds ++ post2) := by rw [← List.append_assoc, ← hc1, ← List.append_assoc]; exact hc2
            obtain ⟨k1, k2⟩ := List.append_inj e3 (by omega)
            have k3 := List.append_cancel_left k2
            rw [hc', k1, k3]
            exact this
          · rintro (⟨a, _⟩ | a)
            · exact n1 a
            · exact np (hR p a hS0)
        · refine .inr ⟨b2, o2, rfl, s1 _ hb2, hnb2, hl2, ?_⟩
          intro F' w' c es R v' m' hs hF hy he hR hk hU hFw
          obtain ⟨z, hz, rfl⟩ := key hs
          have hne : p ≠ b2 := fun e => n1 (e ▸ hb2)
          refine ⟨p, cc, e, rfl, (hk p hS0 np hne).trans hb, .inl ⟨hS0, np⟩, fun k => (S1 k ∧ ¬ S' k) ∨ R k, ?_, fun k hk => hk.imp (fun h => ⟨s1 k h.1, h.2⟩) id, ?_⟩
          · exact w2 F' w' c es R z m' hz hF hy he (fun k a b => hR k a (s1 k b)) (fun k a b c => hk k (s1 k a) b c) hU hFw
          · rintro (⟨a, _⟩ | a)
            · exact n1 a
            · exact np (hR p a hS0)

/-- Types of one cell that no path enters from memory. -/
def Ty.atom : Ty → Bool
  | .sl _ | .box _ | .ptr _ | .junk | .int _ | .bool | .str => true
  | _ => false

theorem atom_width {t : Ty} (h : t.atom = true) : t.width = 1 := by cases t <;> simp [Ty.atom] at h <;> rfl
theorem rootAddr_atom {t : Ty} (h : t.atom = true) (cs : List Value) (p q : Nat × Nat) (ρ : List Stp) (hr : rootAddr t cs (some p) ρ = some q) : ρ = [] ∧ p = q := by
  cases ρ with
  | nil => cases t <;> (simp only [rootAddr, Option.some.injEq] at hr; exact ⟨rfl, hr⟩)
  | cons s ρ => cases t <;> simp [Ty.atom] at h <;> cases s <;> simp [rootAddr] at hr

theorem rootAddr_any : ∀ (ρ : List Stp) (t : Ty) (cs cs' : List Value) (p q : Nat × Nat), rootAddr t cs' (some p) ρ = some q → rootAddr t cs (some p) ρ = some q := by
  intro ρ
  induction ρ with
  | nil => intro t cs cs' p q h; cases t <;> exact h
  | cons s ρ ih =>
    intro t cs cs' p q h
    cases t <;> cases s <;> simp only [rootAddr, reduceCtorEq, Option.map_some] at h ⊢
    case st.st => exact ih _ _ _ _ _ h
    case pair.fst => exact ih _ _ _ _ _ h
    case pair.snd => exact ih _ _ _ _ _ h
    case arr.ai =>
      split at h
      · rename_i hc; rw [if_pos hc]; exact ih _ _ _ _ _ h
      · cases h

theorem repl_root : ∀ (π : List Stp) (t : Ty) (x : t.T) (c c' : V) (v : V) (cs cs' : List Value) (p q : Nat × Nat) (ρ : List Stp), get? t x π = some c → c.t.atom = true → c'.t.atom = true → replP t x π c' = some v →
    rootAddr v.t cs' (some p) ρ = some q → rootAddr t cs (some p) ρ = some q ∧ v.t.width = t.width := by
  intro π
  induction π with
  | nil =>
    intro t x c c' v cs cs' p q ρ hg h1 h2 hr ha
    rw [get?_nil] at hg
    injection hg with hg
    subst hg
    have hv : v = c' := by cases t <;> (simp only [replP, Option.some.injEq] at hr; exact hr.symm)
    subst hv
    obtain ⟨rfl, rfl⟩ := rootAddr_atom h2 _ _ _ _ ha
    exact ⟨by cases t <;> rfl, by rw [atom_width h1, atom_width h2]⟩
  | cons p0 π ih =>
    intro t x c c' v cs cs' p q ρ hg h1 h2 hr ha
    unfold get? at hg
    cases t <;> cases p0 <;> simp only [getP, reduceCtorEq] at hg <;> simp only [replP, reduceCtorEq] at hr
    case st.st t =>
      split at hr
      · rename_i v2 hv2
        injection hr with hr
        subst hr
        cases ρ with
        | nil => simp only [rootAddr] at ha ⊢; exact ⟨ha, (ih t x c c' v2 cs cs' p p [] hg h1 h2 hv2 (by cases v2.t <;> rfl)).2⟩
        | cons s ρ =>
          cases s <;> simp only [rootAddr, reduceCtorEq] at ha ⊢
          exact ih t x c c' v2 cs cs' p q ρ hg h1 h2 hv2 ha
      · cases hr
    case pair.fst a b =>
      split at hr
      · rename_i v2 hv2
        injection hr with hr
        subst hr
        have hw := (ih a x.1 c c' v2 cs cs' p p [] hg h1 h2 hv2 (by cases v2.t <;> rfl)).2
        cases ρ with
        | nil => simp only [rootAddr] at ha ⊢; exact ⟨ha, by simp only [Ty.width, hw]⟩
        | cons s ρ =>
          cases s <;> simp only [rootAddr, reduceCtorEq] at ha ⊢
          · exact ⟨(ih a x.1 c c' v2 _ _ p q ρ hg h1 h2 hv2 ha).1, by simp only [Ty.width, hw]⟩
          · simp only [Option.map_some, hw] at ha ⊢
            refine ⟨?_, by simp only [Ty.width, hw]⟩
            have : ∀ (t : Ty) (cs cs' : List Value) (p q : Nat × Nat) (ρ : List Stp), rootAddr t cs' (some p) ρ = some q → rootAddr t cs (some p) ρ = some q := fun t cs cs' p q ρ h => rootAddr_any ρ t cs cs' p q h
            exact this _ _ _ _ _ _ ha
      · cases hr
    case pair.snd a b =>
      split at hr
      · rename_i v2 hv2
        injection hr with hr
        subst hr
        have hw := (ih b x.2 c c' v2 cs cs' p p [] hg h1 h2 hv2 (by cases v2.t <;> rfl)).2
        cases ρ with
        | nil => simp only [rootAddr] at ha ⊢; exact ⟨ha, by simp only [Ty.width, hw]⟩
        | cons s ρ =>
          cases s <;> simp only [rootAddr, reduceCtorEq] at ha ⊢
          · exact ⟨rootAddr_any ρ a _ _ _ _ ha, by simp only [Ty.width, hw]⟩
          · simp only [Option.map_some] at ha ⊢
            exact ⟨(ih b x.2 c c' v2 _ _ _ q ρ hg h1 h2 hv2 ha).1, by simp only [Ty.width, hw]⟩
      · cases hr
    case box.deref t =>
      split at hr
      · rename_i v2 hv2
        injection hr with hr
        subst hr
        cases ρ with
        | nil => simp only [rootAddr] at ha ⊢; exact ⟨ha, rfl⟩
        | cons s ρ => cases s <;> simp only [rootAddr, reduceCtorEq] at ha
      · cases hr
end Go.Proofs.YtgonfcjdhbjkcaaDoor.Rf
/- Layer 12: taking a row out of a box, and storing one where one was taken. -/
set_option linter.unusedVariables false
set_option linter.unusedSimpArgs false
namespace Go.Proofs.YtgonfcjdhbjkcaaDoor.Rf
open Go

section
variable {P : Program} {B : Base} {F : BSet} {Sg : Nat → BSet} {cg : Nat → List Value} {σ : St} {a : Act} {w : World}

theorem upd_refl {p o : Nat} {ds : List Value} (h : Lies w p o ds) : Upd w w p o ds ds := by
  obtain ⟨c, e, hb, l, r, hc, hl⟩ := h
  exact ⟨c, c, e, l, r, hb, hb, hc, hc, hl⟩

theorem repl_box {t0 : Ty} {x : (Ty.box t0).T} {π : List Stp} {c' : V} {v : V} (h : replP (.box t0) x (.deref :: π) c' = some v) : ∃ v0, replP t0 x π c' = some v0 ∧ v = ⟨.box v0.t, v0.x⟩ := by
  simp only [replP] at h
  split at h
  · rename_i v2 hv2; injection h with h; exact ⟨v2, hv2, h.symm⟩
  · cases h

theorem root_box {t0 : Ty} {x : (Ty.box t0).T} {π : List Stp} {c c' v : V} (hg : get? (.box t0) x (.deref :: π) = some c) (h1 : c.t.atom = true) (h2 : c'.t.atom = true) (hr : replP (.box t0) x (.deref :: π) c' = some v) (cs : List Value) :
    (∀ u, VR (.box t0) cs u → VR v.t cs u) ∧ (∀ ρ q, rootAddr v.t cs none ρ = some q → rootAddr (.box t0) cs none ρ = some q) := by
  obtain ⟨v0, hv0, rfl⟩ := repl_box hr
  refine ⟨fun u hu => hu, fun ρ q ha => ?_⟩
  cases ρ with
  | nil => simp [rootAddr] at ha
  | cons s ρ =>
    cases s <;> simp only [rootAddr, reduceCtorEq] at ha ⊢
    split at ha
    · exact (repl_root π t0 x c c' v0 _ _ _ q ρ hg h1 h2 hv0 ha).1
    · cases ha

/-- A row is taken out. -/
theorem InvG.take (h : InvG B F Sg cg σ a w) {l : Nat} {v0 : Nat} {t0 : Ty} {m0 : Md} {x0 : (Ty.box t0).T} (hl : σ.L l = some ⟨v0, .box t0, m0, x0⟩) {π : List Stp} {c : V} (hg : get? (.box t0) x0 (.deref :: π) = some c) (ho : ownP (.box t0) m0 (.deref :: π) = true) (hat : c.t.atom = true)
    {v' : V} (hr : replP (.box t0) x0 (.deref :: π) ⟨.junk, ()⟩ = some v') {d : Nat} (hU : σ.U d = false) (hv : ∃ t', c.t = .sl t') :
    ∃ ds s Sg' cg', resolve w (.box t0) (cg l) none (.deref :: π) = some (ds, s) ∧
      InvG B F Sg' cg' { σ with L := upd (upd σ.L l (some ⟨v0 + 1, v'.t, replM m0 (.deref :: π) .ro, v'.x⟩)) d (some ⟨0, c.t, atM (.box t0) m0 (.deref :: π), c.x⟩), U := fun j => Nat.beq j d || σ.U j } a w ∧ cg' d = ds ∧ (∀ j, j ≠ d → cg' j = cg j) := by
  obtain ⟨ds, s', S', h1, h2, h3, h4⟩ := focusR F w (.deref :: π) (.box t0) m0 x0 (cg l) (Sg l) none c (h.lab l _ hl) hg ho ⟨_, _, hr⟩
  obtain ⟨⟨p, o⟩, rfl⟩ := resolve_cross (.deref :: π) _ _ _ _ _ rfl h1
  have hdl : l ≠ d := fun e => by subst e; rw [h.used l _ hl] at hU; cases hU
  obtain ⟨z, rfl, hz⟩ : ∃ z, ds = [z] ∧ z.oneCell' = true := by
    obtain ⟨t', ht⟩ := hv
    obtain ⟨ct, cx⟩ := c
    simp only at ht
    subst ht
    exact rep_scal rfl h2
  rcases h4 with ⟨_, _, _, h5, _⟩ | ⟨p', o', h5, hSp, hnp, hlies, wand⟩
  · simp at h5
  injection h5 with h5
  injection h5 with e1 e2
  subst e1; subst e2
  have hrep := wand F w ⟨.junk, ()⟩ [z] BSet.none v' .ro hr (Sub.refl _) ⟨z, rfl, hz⟩ rfl (fun k hk => hk.elim) (fun _ _ _ _ => rfl) (upd_refl hlies) (fun _ _ => rfl)
  have hroot := root_box hg hat rfl hr (cg l)
  have i1 := h.relab rfl rfl rfl (Nat.le_refl _) hl (fun _ _ _ => rfl) (b' := ⟨v0 + 1, v'.t, replM m0 (.deref :: π) .ro, v'.x⟩) hroot.1 hroot.2 (Nat.lt_succ_self _) (Sub.refl _) hrep (upd σ.L l (some ⟨v0 + 1, v'.t, replM m0 (.deref :: π) .ro, v'.x⟩)) (upd_same _ _ _) (fun j hj => by rw [upd_ne _ _ hj]; exact .inr rfl) (fun k hk => .inl hk)
    (fun k hk => by rcases hk with hk | hk; exact .inl hk.1; exact hk.elim)
  have i2 := i1.addLab (w' := w) rfl rfl rfl (Nat.le_refl _) (l := d) (b := ⟨0, c.t, atM (.box t0) m0 (.deref :: π), c.x⟩) hU (upd (upd σ.L l (some ⟨v0 + 1, v'.t, replM m0 (.deref :: π) .ro, v'.x⟩)) d (some ⟨0, c.t, atM (.box t0) m0 (.deref :: π), c.x⟩)) (fun _ _ _ => rfl) h2 (upd_same _ _ _)
    (fun j hj => by rw [upd_ne _ _ hj]; exact .inr rfl)
    (fun k hk => ⟨fun j bj hj hbj hs => by
        rw [upd_ne _ _ hj] at hbj
        by_cases e : j = l
        · subst e; rw [if_pos rfl] at hs; rcases hs with hs | hs; exact hs.2 hk; exact hs.elim
        · rw [if_neg e] at hs; rw [upd_ne _ _ e] at hbj; exact h.dis j l bj _ e hbj hl k hs (h3 k hk),
      fun hf => h.disF l _ hl k (h3 k hk) hf, h.lt l _ hl k (h3 k hk), h.may l _ hl k (h3 k hk)⟩)
  refine ⟨[z], some (p, o), _, _, h1, i2, by simp, fun j hj => by simp [hj]⟩

def isJunk : Ty → Bool
  | .junk => true
  | _ => false

/-- A value is stored where one was taken. -/
def xPut {R : Type} (d : TD) (σ : St) (ep ev : Ent0) (K : St → Option R) : Option R :=
  plc σ ep fun l b π c =>
    bif isJunk c.t && d.ty.atom && d.ty.vty then
      (match b, π with
      | ⟨v0, .box t0, m0, x0⟩, .deref :: π0 =>
        (match ev with
        | .hdr l2 _ π2 _ => bif π2.isEmpty && !(Nat.beq l l2) then (match σ.L l2 with
          | some b2 => bif decide (b2.t = d.ty) then (match replP (.box t0) x0 (.deref :: π0) ⟨b2.t, b2.x⟩ with
            | some v' => K (σ.withL (upd (upd σ.L l2 none) l (some ⟨v0 + 1, v'.t, replM m0 (.deref :: π0) b2.m, v'.x⟩)))
            | none => none) else none
          | none => none) else none
        | ev => asT ev d.ty fun y => match replP (.box t0) x0 (.deref :: π0) ⟨d.ty, y⟩ with
          | some v' => K (σ.withL (upd σ.L l (some ⟨v0 + 1, v'.t, replM m0 (.deref :: π0) (valM ev d.ty), v'.x⟩)))
          | none => none)
      | _, _ => none)
    else none

theorem xPut_ok (h : InvG B F Sg cg σ a w) {R : Type} {t : TypeId} {d : TD} (hd : TOk P t d) {ep ev : Ent0} {K : St → Option R} {r : R} (hk : xPut d σ ep ev K = some r) {vp v : Value} (hp : EntOk F w σ.L σ.U cg ep vp) (hv : EntOk F w σ.L σ.U cg ev v) :
    ∃ σ' w' Sg', K σ' = some r ∧ (Instr.storeAt t vp v).run P w = .ok () w' ∧ InvG B F Sg' cg σ' a w' ∧ σ'.E = σ.E := by
  unfold xPut at hk
  obtain ⟨l, b, π, c, hl, hk1, hc, hg, ho, ds, p, o, S', rfl, h1, h2, h3, h4⟩ := plc_ok h hk hp
  clear hk
  cases hud : isJunk c.t && d.ty.atom && d.ty.vty
  · rw [hud] at hk1; cases hk1
  rw [hud] at hk1
  simp only [cond_true] at hk1
  simp only [Bool.and_eq_true] at hud
  obtain ⟨⟨hjk, hat⟩, hvt⟩ := hud
  have hjt : c.t = .junk := by cases hct : c.t <;> rw [hct] at hjk <;> first | rfl | cases hjk
  obtain ⟨v0, bt, m0, x0⟩ := b
  cases bt with
  | box t0 =>
    cases π with
    | nil => simp at hk1
    | cons s0 π0 =>
    cases s0 with
    | deref =>
      simp only at hk1 hg ho h1 h2 h4 h3
      have fin : ∀ (es : List Value) (y : d.ty.T) (m' : Md) (v' : V) (Rw : BSet) (L' : Nat → Option Lab), Rep F w d.ty m' y es Rw → VR d.ty es v → replP (.box t0) x0 (.deref :: π0) ⟨d.ty, y⟩ = some v' →
          (∀ k, Rw k → ∃ l2 b2, l2 ≠ l ∧ σ.L l2 = some b2 ∧ L' l2 = none ∧ Sg l2 k) → L' l = some ⟨v0 + 1, v'.t, replM m0 (.deref :: π0) m', v'.x⟩ → (∀ j, j ≠ l → L' j = none ∨ L' j = σ.L j) →
          ∃ w' Sg', (Instr.storeAt t (.pointer (some ⟨p, o, none⟩)) v).run P w = .ok () w' ∧ InvG B F Sg' cg (σ.withL L') a w' := by
        intro es y m' v' Rw L' hy hv hset hR hLl hL
        obtain ⟨ds2, s2, S2, f1, f2, f3, f4⟩ := focusR F w (.deref :: π0) (.box t0) m0 x0 (cg l) (Sg l) none c (h.lab l _ hl) hg ho ⟨_, _, hset⟩
        rw [h1] at f1
        injection f1 with f1
        injection f1 with f1 f1'
        subst f1; subst f1'
        rcases f4 with ⟨_, _, _, f5, _⟩ | ⟨p', o', f5, hSp, hnp, hlies, wand⟩
        · simp at f5
        injection f5 with f5
        injection f5 with e1 e2
        subst e1; subst e2
        have hel := rep_width _ _ _ _ _ _ _ hy
        have hdl := rep_width _ _ _ _ _ _ _ h2
        have hleq : es.length = ds.length := by rw [hel, hdl, hjt, atom_width hat]; rfl
        obtain ⟨u1, u2, u3, u4, u5, u6⟩ := upd_lies hlies hleq
        have hrun := lies_store hlies hd hv.cells hel hleq (rep_one _ _ _ _ _ hy)
        have hRp : ¬ Rw p := fun hrp => by
          obtain ⟨l2, b2, hne, hb2, _, hk2⟩ := hR p hrp
          exact h.dis l2 l b2 _ hne hb2 hl p hk2 hSp
        have hFp : ∀ k, F k → k ≠ p := fun k hk e => h.disF l _ hl p hSp (e ▸ hk)
        have hy' : Rep F (w.setCells p o es) d.ty m' y es Rw := rep_frame (Sub.refl _) (fun k hk => u2 k (hFp k hk)) _ _ _ _ _ _ hy (Sub.refl _) (fun k hk => u2 k (fun e => hRp (e ▸ hk)))
        have hrep := wand F (w.setCells p o es) ⟨d.ty, y⟩ es Rw v' m' hset (Sub.refl _) hy' hleq
          (fun k hk hs => by obtain ⟨l2, b2, hne, hb2, _, hk2⟩ := hR k hk; exact (h.dis l2 l b2 _ hne hb2 hl k hk2 hs).elim)
          (fun k _ _ hne => u2 k hne) u1 (fun k hk => u2 k (hFp k hk))
        have hroot := root_box hg (by rw [hjt]; rfl) hat hset (cg l)
        refine ⟨_, _, hrun, h.relab u4 u5 u6 (by rw [u3]; exact Nat.le_refl _) hl (fun k _ hn => u2 k (fun e => hn (e ▸ hSp))) (b' := ⟨v0 + 1, v'.t, replM m0 (.deref :: π0) m', v'.x⟩) hroot.1 hroot.2 (Nat.lt_succ_self _) (Sub.refl _) hrep L' hLl hL (fun k hk => .inl hk) (fun k hk => ?_)⟩
        rcases hk with hk | hk
        · exact .inl hk.1
        · exact .inr (.inl (hR k hk))
      split at hk1
      · rename_i l2 n2 π2 c2
        cases hb : π2.isEmpty && !(Nat.beq l l2)
        · rw [hb] at hk1; cases hk1
        rw [hb] at hk1
        simp only [cond_true] at hk1
        simp only [Bool.and_eq_true, Bool.not_eq_true'] at hb
        have hp2 : π2 = [] := by cases π2 <;> simp_all
        subst hp2
        have hne : l ≠ l2 := fun e => by subst e; simp [Nat.beq_refl] at hb
        cases hl2 : σ.L l2 with
        | none => rw [hl2] at hk1; cases hk1
        | some b2 =>
        rw [hl2] at hk1
        simp only at hk1
        cases hud : decide (b2.t = d.ty)
        · rw [hud] at hk1; cases hk1
        rw [hud] at hk1
        simp only [cond_true] at hk1
        have hud := of_decide_eq_true hud
        have hv2 := (hv.2 b2 hl2).2.1 rfl
        have hrep2 := h.lab l2 b2 hl2
        cases hset : replP (.box t0) x0 (.deref :: π0) ⟨b2.t, b2.x⟩ with
        | none => rw [hset] at hk1; cases hk1
        | some v' =>
        rw [hset] at hk1
        simp only at hk1
        obtain ⟨d1, d2, dty, d4⟩ := d
        simp only at hud
        subst hud
        obtain ⟨w', Sg', e1, e2⟩ := fin (cg l2) b2.x b2.m v' (Sg l2) (upd (upd σ.L l2 none) l (some ⟨v0 + 1, v'.t, replM m0 (.deref :: π0) b2.m, v'.x⟩)) hrep2 hv2 hset
          (fun k hk => ⟨l2, _, Ne.symm hne, hl2, by rw [upd_ne _ _ (Ne.symm hne), upd_same], hk⟩) (upd_same _ _ _)
          (fun j hj => by
            rw [upd_ne _ _ hj]
            by_cases e : j = l2
            · subst e; rw [upd_same]; exact .inl rfl
            · rw [upd_ne _ _ e]; exact .inr rfl)
        exact ⟨_, w', Sg', hk1, e1, e2, rfl⟩
      · obtain ⟨y, es, hk2, hy, hvr⟩ := asT_okM hk1 hv
        cases hset : replP (.box t0) x0 (.deref :: π0) ⟨d.ty, y⟩ with
        | none => rw [hset] at hk2; cases hk2
        | some v' =>
        rw [hset] at hk2
        simp only at hk2
        obtain ⟨w', Sg', e1, e2⟩ := fin es y _ v' BSet.none (upd σ.L l (some ⟨v0 + 1, v'.t, replM m0 (.deref :: π0) (valM ev d.ty), v'.x⟩)) hy hvr hset (fun k hk => hk.elim) (upd_same _ _ _) (fun j hj => by rw [upd_ne _ _ hj]; exact .inr rfl)
        exact ⟨_, w', Sg', hk2, e1, e2, rfl⟩
    | _ => simp at hk1
  | _ => simp at hk1
end
end Go.Proofs.YtgonfcjdhbjkcaaDoor.Rf
/- Layer 43: a row of rows with a hole: one row is taken out of it, and one is put back. -/
set_option linter.unusedVariables false
set_option linter.unusedSimpArgs false
namespace Go.Proofs.YtgonfcjdhbjkcaaDoor.Rf
open Go

def isSl : Ty → Bool
  | .sl _ => true
  | _ => false
theorem isSl_ok {t : Ty} (h : isSl t = true) : ∃ t', t = .sl t' := by cases t <;> simp [isSl] at h; exact ⟨_, rfl⟩

section
variable {α : Type} {R : α → List Value → BSet → Prop}
theorem repL_some (hw : ∀ y c S, R y c S → c.length = 1) : ∀ {x : List α} {cs : List Value} {S : BSet}, RepL R x cs S → RepL (Ropt R) (x.map some) cs S := by
  intro x
  induction x with
  | nil => intro cs S h; exact h
  | cons y ys ih =>
    rintro cs S ⟨c1, c2, S1, S2, rfl, h1, h2, r⟩
    exact ⟨c1, c2, S1, S2, rfl, ⟨h1, hw _ _ _ h1⟩, ih h2, r⟩
theorem repL_unsome : ∀ {x : List α} {cs : List Value} {S : BSet}, RepL (Ropt R) (x.map some) cs S → RepL R x cs S := by
  intro x
  induction x with
  | nil => intro cs S h; exact h
  | cons y ys ih =>
    rintro cs S ⟨c1, c2, S1, S2, rfl, h1, h2, r⟩
    exact ⟨c1, c2, S1, S2, rfl, h1.1, ih h2, r⟩
theorem holed_put (x : List α) (j : Nat) (y : α) : (holed x j).set j (some y) = (x.set j y).map some := by
  unfold holed
  rw [List.set_set, List.map_set]
end

theorem rep_may_of {F : BSet} {w : World} {t : Ty} (ht : t.width = 1) {m : Md} {x : List t.T} {cs : List Value} {S : BSet} (h : Rep F w (.sl t) (.own m) x cs S) : Rep F w (.sl (.may t)) (.own m) (x.map some) cs S := by
  obtain ⟨a, cap, rfl, h1, h2, h3⟩ := h
  refine ⟨a, cap, by rw [List.length_map], by rw [List.length_map]; exact h1, h2, h3.imp id ?_⟩
  rintro ⟨b, off, c, e, rfl, hb, hc, hS, S1, hr, s1, n1⟩
  rw [ht] at hc hr
  refine ⟨b, off, c, e, rfl, hb, hc, hS, S1, ?_, s1, n1⟩
  rw [List.length_map]
  exact repL_some (fun y c S h => by rw [rep_width _ _ _ _ _ _ _ h, ht]) hr
theorem rep_of_may {F : BSet} {w : World} {t : Ty} (ht : t.width = 1) {m : Md} {x : List t.T} {cs : List Value} {S : BSet} (h : Rep F w (.sl (.may t)) (.own m) (x.map some) cs S) : Rep F w (.sl t) (.own m) x cs S := by
  obtain ⟨a, cap, rfl, h1, h2, h3⟩ := h
  refine ⟨a, cap, by rw [List.length_map], by rw [List.length_map] at h1; exact h1, h2, h3.imp id ?_⟩
  rintro ⟨b, off, c, e, rfl, hb, hc, hS, S1, hr, s1, n1⟩
  rw [List.length_map] at hr
  refine ⟨b, off, c, e, rfl, hb, by rw [ht]; exact hc, hS, S1, ?_, s1, n1⟩
  rw [ht]
  exact repL_unsome hr
theorem rep_hol {F : BSet} {w : World} {t : Ty} {m : Md} {x : List t.T} {j : Nat} (hj : j < x.length) {cs : List Value} {S : BSet} (h : Rep F w (.sl (.may t)) (.own m) (holed x j) cs S) : Rep F w (.hol t) (.own m) (x, j) cs S := ⟨hj, h⟩
theorem hol_rep {F : BSet} {w : World} {t : Ty} {m : Md} {x : List t.T × Nat} {cs : List Value} {S : BSet} (h : Rep F w (.hol t) (.own m) x cs S) : x.2 < x.1.length ∧ Rep F w (.sl (.may t)) (.own m) (holed x.1 x.2) cs S := h

theorem resolve_may {w : World} {t : Ty} (ht : t.width = 1) (cs : List Value) (s : Option (Nat × Nat)) (i : Int) : resolve w (.sl t) cs s [.idx i] = resolve w (.sl (.may t)) cs s [.idx i] := by
  have e : (Ty.may t).width = 1 := rfl
  simp only [resolve, ht, e, resolve_nil]

section
variable {P : Program} {B : Base} {F : BSet} {Sg : Nat → BSet} {cg : Nat → List Value} {σ : St} {a : Act} {w : World}

/-- A row is taken out of a row of rows. -/
theorem InvG.takeI (h : InvG B F Sg cg σ a w) {l : Nat} {v0 : Nat} {t0 : Ty} {m0 : Md} {x0 : List t0.T} (hl : σ.L l = some ⟨v0, .sl t0, .own m0, x0⟩) {i : Int} (hi : 0 ≤ i) {y : t0.T} (hy : x0[i.toNat]? = some y) (ht : ∃ t', t0 = .sl t') {d : Nat} (hU : σ.U d = false) :
    ∃ ds s Sg' cg', resolve w (.sl t0) (cg l) none [.idx i] = some (ds, s) ∧
      InvG B F Sg' cg' { σ with L := upd (upd σ.L l (some ⟨v0 + 1, .hol t0, .own m0, (x0, i.toNat)⟩)) d (some ⟨0, t0, m0, y⟩), U := fun j => Nat.beq j d || σ.U j } a w ∧ cg' d = ds ∧ (∀ j, j ≠ d → cg' j = cg j) := by
  have hw1 : t0.width = 1 := by obtain ⟨t', rfl⟩ := ht; rfl
  have hm := rep_may_of hw1 (h.lab l _ hl)
  have hlen : i.toNat < x0.length := (List.getElem?_eq_some_iff.1 hy).1
  have hg : get? (.sl (.may t0)) (x0.map some) [.idx i] = some ⟨.may t0, some y⟩ := by simp [get?, getP, hi, hy]
  obtain ⟨ds, s', S', h1, h2, h3, h4⟩ := focus F w [.idx i] (.sl (.may t0)) (.own m0) (x0.map some) (cg l) (Sg l) none (.may t0) (some y) hm hg rfl
  obtain ⟨⟨p, o⟩, rfl⟩ := resolve_cross [.idx i] _ _ _ _ _ rfl h1
  have hdl : l ≠ d := fun e => by subst e; rw [h.used l _ hl] at hU; cases hU
  have h2' : Rep F w t0 m0 y ds S' := h2.1
  obtain ⟨z, rfl, hz⟩ : ∃ z, ds = [z] ∧ z.oneCell' = true := by
    obtain ⟨t', rfl⟩ := ht
    exact rep_scal rfl h2'
  rcases h4 with ⟨_, _, _, h5, _⟩ | ⟨p', o', h5, hSp, hnp, hlies, wand⟩
  · simp at h5
  injection h5 with h5
  injection h5 with e1 e2
  subst e1; subst e2
  have hset : set? (.sl (.may t0)) (x0.map some) [.idx i] (.may t0) none = some ((x0.map some).set i.toNat none) := by simp [set?, setP, hi, hy]
  have hrep0 := wand F w none [z] BSet.none _ m0 (.own m0) ⟨m0, rfl, rfl, rfl⟩ (Sub.refl _) hset ⟨z, rfl, hz⟩ rfl (fun k hk => hk.elim) (fun _ _ _ _ => rfl) (upd_refl hlies) (fun _ _ => rfl)
  have hrep := rep_hol (t := t0) hlen hrep0
  have i1 := h.relab rfl rfl rfl (Nat.le_refl _) hl (fun _ _ _ => rfl) (b' := ⟨v0 + 1, .hol t0, .own m0, (x0, i.toNat)⟩) (fun u hu => hu) (fun ρ q ha => by
      cases ρ with
      | nil => simp [rootAddr] at ha
      | cons s ρ => cases s <;> simp only [rootAddr, reduceCtorEq] at ha ⊢; exact ha) (Nat.lt_succ_self _) (Sub.refl _) hrep (upd σ.L l (some ⟨v0 + 1, .hol t0, .own m0, (x0, i.toNat)⟩)) (upd_same _ _ _) (fun j hj => by rw [upd_ne _ _ hj]; exact .inr rfl) (fun k hk => .inl hk)
    (fun k hk => by rcases hk with hk | hk; exact .inl hk.1; exact hk.elim)
  have i2 := i1.addLab (w' := w) rfl rfl rfl (Nat.le_refl _) (l := d) (b := ⟨0, t0, m0, y⟩) hU (upd (upd σ.L l (some ⟨v0 + 1, .hol t0, .own m0, (x0, i.toNat)⟩)) d (some ⟨0, t0, m0, y⟩)) (fun _ _ _ => rfl) h2' (upd_same _ _ _)
    (fun j hj => by rw [upd_ne _ _ hj]; exact .inr rfl)
    (fun k hk => ⟨fun j bj hj hbj hs => by
        rw [upd_ne _ _ hj] at hbj
        by_cases e : j = l
        · subst e; rw [if_pos rfl] at hs; rcases hs with hs | hs; exact hs.2 hk; exact hs.elim
        · rw [if_neg e] at hs; rw [upd_ne _ _ e] at hbj; exact h.dis j l bj _ e hbj hl k hs (h3 k hk),
      fun hf => h.disF l _ hl k (h3 k hk) hf, h.lt l _ hl k (h3 k hk), h.may l _ hl k (h3 k hk)⟩)
  exact ⟨[z], some (p, o), _, _, (resolve_may hw1 _ _ _).trans h1, i2, by simp, fun j hj => by simp [hj]⟩

/-- Is there a hole where it is to be stored? -/
def isHole (σ : St) (ep : Ent0) : Bool := match ep with
  | .adr l _ [.idx _] _ => (match σ.L l with
    | some ⟨_, .hol _, _, _⟩ => true
    | _ => false)
  | _ => false

/-- A row is put back. -/
def xPutI {R : Type} (d : TD) (σ : St) (ep ev : Ent0) (K : St → Option R) : Option R :=
  match ep with
  | .adr l _ [.idx i] _ => (match σ.L l with
    | some ⟨v0, .hol t0, .own m0, x0⟩ => (match ev with
      | .hdr l2 _ [] _ => (match σ.L l2 with
        | some b2 => bif !(Nat.beq l l2) && isSl t0 && decide (d.ty = t0) && decide (b2.m = m0) then
            (if h : b2.t = t0 then (if 0 ≤ i ∧ i.toNat = x0.2 then K (σ.withL (upd (upd σ.L l2 none) l (some ⟨v0 + 1, .sl t0, .own m0, (x0.1.set x0.2 (h ▸ b2.x) : List t0.T)⟩))) else none) else none) else none
        | none => none)
      | _ => none)
    | _ => none)
  | _ => none

theorem xPutI_ok (h : InvG B F Sg cg σ a w) {R : Type} {t : TypeId} {d : TD} (hd : TOk P t d) {ep ev : Ent0} {K : St → Option R} {r : R} (hk : xPutI d σ ep ev K = some r) {vp v : Value} (hp : EntOk F w σ.L σ.U cg ep vp) (hv : EntOk F w σ.L σ.U cg ev v) :
    ∃ σ' w' Sg', K σ' = some r ∧ (Instr.storeAt t vp v).run P w = .ok () w' ∧ InvG B F Sg' cg σ' a w' ∧ σ'.E = σ.E := by
  unfold xPutI at hk
  split at hk
  case h_2 => cases hk
  rename_i l n i c
  split at hk
  case h_2 => cases hk
  rename_i v0 t0 m0 x0 hl
  split at hk
  case h_2 => cases hk
  rename_i l2 n2 c2
  cases hl2 : σ.L l2 with
  | none => rw [hl2] at hk; cases hk
  | some b2 =>
  rw [hl2] at hk
  simp only at hk
  cases hud : !(Nat.beq l l2) && isSl t0 && decide (d.ty = t0) && decide (b2.m = m0)
  · rw [hud] at hk; cases hk
  rw [hud] at hk
  simp only [cond_true] at hk
  simp only [Bool.and_eq_true, Bool.not_eq_true', decide_eq_true_eq] at hud
  obtain ⟨⟨⟨hne, hsl⟩, hdt⟩, hm2⟩ := hud
  have hne : l ≠ l2 := fun e => by subst e; simp [Nat.beq_refl] at hne
  split at hk
  case isFalse => cases hk
  rename_i ht2
  split at hk
  case isFalse => cases hk
  rename_i hidx
  obtain ⟨hi0, hij⟩ := hidx
  have hw1 : t0.width = 1 := by obtain ⟨t', rfl⟩ := isSl_ok hsl; rfl
  obtain ⟨hj, hrep⟩ := hol_rep (h.lab l _ hl)
  obtain ⟨v2, t2, m2, x2⟩ := b2
  simp only at ht2 hm2
  subst ht2
  subst hm2
  have hlen : x0.2 < (holed x0.1 x0.2).length := by unfold holed; simpa using hj
  have hget : (holed x0.1 x0.2)[i.toNat]? = some none := by
    rw [hij]; unfold holed; simp [hj]
  have hg : get? (.sl (.may t2)) (holed x0.1 x0.2) [.idx i] = some ⟨.may t2, none⟩ := by simp [get?, getP, hi0, hget]
  obtain ⟨ds, s', S', h1, h2, h3, h4⟩ := focus F w [.idx i] (.sl (.may t2)) (.own m2) (holed x0.1 x0.2) (cg l) (Sg l) none (.may t2) none hrep hg rfl
  obtain ⟨⟨p, o⟩, rfl⟩ := resolve_cross [.idx i] _ _ _ _ _ rfl h1
  obtain ⟨z, rfl, hz⟩ := h2
  rcases h4 with ⟨_, _, _, h5, _⟩ | ⟨p', o', h5, hSp, hnp, hlies, wand⟩
  · simp at h5
  injection h5 with h5
  injection h5 with e1 e2
  subst e1; subst e2
  have hvp : vp = .pointer (some ⟨p, o, none⟩) := by
    refine (hp.2 _ hl).2.1 rfl p o ?_
    have e : (Ty.may t2).width = 1 := rfl
    simp only [resolve, e, Nat.mul_one] at h1
    simp only [rootAddr, hw1, Nat.mul_one]
    split at h1
    · rename_i b off len _ hcs
      simp only [hcs]
      split at h1
      · rename_i hlt
        rw [if_pos hlt]
        injection h1 with h1
        injection h1 with _ h1
      · cases h1
    · cases h1
  have hv2 := (hv.2 _ hl2).2.1 rfl
  have hrep2 := h.lab l2 _ hl2
  have hel := rep_width _ _ _ _ _ _ _ hrep2
  simp only [hw1] at hel
  have hleq : (cg l2).length = [z].length := hel
  obtain ⟨u1, u2, u3, u4, u5, u6⟩ := upd_lies hlies hleq
  have hrun := lies_store hlies hd hv2.cells (by rw [hdt, hw1]; exact hel) hleq (rep_one _ _ _ _ _ hrep2)
  have hRp : ¬ Sg l2 p := fun hk2 => h.dis l2 l _ _ (Ne.symm hne) hl2 hl p hk2 hSp
  have hFp : ∀ k, F k → k ≠ p := fun k hk e => h.disF l _ hl p hSp (e ▸ hk)
  have hy' : Rep F (w.setCells p o (cg l2)) t2 m2 x2 (cg l2) (Sg l2) := rep_frame (Sub.refl _) (fun k hk => u2 k (hFp k hk)) _ _ _ _ _ _ hrep2 (Sub.refl _) (fun k hk => u2 k (fun e => hRp (e ▸ hk)))
  have hset : set? (.sl (.may t2)) (holed x0.1 x0.2) [.idx i] (.may t2) (some x2) = some ((holed x0.1 x0.2).set i.toNat (some x2)) := by simp [set?, setP, hi0, hget]
  have hrep3 := wand F (w.setCells p o (cg l2)) (some x2) (cg l2) (Sg l2) _ m2 (.own m2) ⟨m2, rfl, rfl, rfl⟩ (Sub.refl _) hset ⟨hy', hel⟩ hleq
    (fun k hk hs => (h.dis l2 l _ _ (Ne.symm hne) hl2 hl k hk hs).elim) (fun k _ _ hne => u2 k hne) u1 (fun k hk => u2 k (hFp k hk))
  rw [hij, holed_put] at hrep3
  have hrep4 := rep_of_may hw1 hrep3
  refine ⟨_, _, _, hk, by rw [hvp]; exact hrun, h.relab u4 u5 u6 (by rw [u3]; exact Nat.le_refl _) hl (fun k _ hn => u2 k (fun e => hn (e ▸ hSp))) (b' := ⟨v0 + 1, .sl t2, .own m2, x0.1.set x0.2 x2⟩) (fun u hu => hu) (fun ρ q ha => by
      cases ρ with
      | nil => simp [rootAddr] at ha
      | cons s ρ => cases s <;> simp only [rootAddr, reduceCtorEq] at ha ⊢; exact ha) (Nat.lt_succ_self _) (Sub.refl _) hrep4 _ (upd_same _ _ _) (fun j hj => by
        rw [upd_ne _ _ hj]
        by_cases e : j = l2
        · subst e; rw [upd_same]; exact .inl rfl
        · rw [upd_ne _ _ e]; exact .inr rfl) (fun k hk => .inl hk) (fun k hk => ?_), rfl⟩
  rcases hk with hk | hk
  · exact .inl hk.1
  · exact .inr (.inl ⟨l2, _, Ne.symm hne, hl2, by rw [upd_ne _ _ (Ne.symm hne), upd_same], hk⟩)

/-- A store: where a row was taken out of a row of rows, or elsewhere. -/
def xSt {R : Type} (d : TD) (σ : St) (ep ev : Ent0) (K : St → Option R) : Option R := bif isHole σ ep then xPutI d σ ep ev K else xStore d σ ep ev K
theorem xSt_ok (h : InvG B F Sg cg σ a w) {R : Type} {t : TypeId} {d : TD} (hd : TOk P t d) {ep ev : Ent0} {K : St → Option R} {r : R} (hk : xSt d σ ep ev K = some r) {vp v : Value} (hp : EntOk F w σ.L σ.U cg ep vp) (hv : EntOk F w σ.L σ.U cg ev v) :
    ∃ σ' w' Sg', K σ' = some r ∧ (Instr.storeAt t vp v).run P w = .ok () w' ∧ InvG B F Sg' cg σ' a w' ∧ σ'.E = σ.E := by
  unfold xSt at hk
  cases hh : isHole σ ep
  · rw [hh] at hk; exact xStore_ok h hd hk hp hv
  · rw [hh] at hk; exact xPutI_ok h hd hk hp hv

/-- Is this a row with a hole? -/
def isHolE (σ : St) (ex : Ent0) : Bool := match ex with
  | .hdr l _ [] _ => (match σ.L l with
    | some ⟨_, .hol _, _, _⟩ => true
    | _ => false)
  | _ => false
/-- The hole's address. -/
def xHoleAddr {R : Type} (TT : Tab) (σ : St) (t : TypeId) (ex ei : Ent0) (K : Ent0 → Option R) : Option R :=
  match ex with
  | .hdr l _ [] _ => (match σ.L l with
    | some ⟨v0, .hol t0, .own _, x0⟩ => isIdx ei fun i => (match TT t with
      | some d => (match d.kd with
        | .slice e => (match TT e with
          | some de => bif Nat.blt 0 v0 && decide (de.ty = t0) then (if 0 ≤ i ∧ i.toNat = x0.2 then K (.adr l 0 [.idx i] ⟨.junk, ()⟩) else none) else none
          | none => none)
        | _ => none)
      | none => none)
    | _ => none)
  | _ => none
theorem xHoleAddr_ok (h : InvG B F Sg cg σ a w) {R : Type} {TT : Tab} (hT : TabOk P TT) {t : TypeId} {ex ei : Ent0} {K : Ent0 → Option R} {r : R} (hk : xHoleAddr TT σ t ex ei K = some r) {v vi : Value} (he : EntOk F w σ.L σ.U cg ex v) (hi : EntOk F w σ.L σ.U cg ei vi) :
    ∃ e' z, K e' = some r ∧ (Instr.indexAt t v vi).run P w = .ok z w ∧ EntOk F w σ.L σ.U cg e' z := by
  unfold xHoleAddr at hk
  split at hk
  case h_2 => cases hk
  rename_i l n c
  split at hk
  case h_2 => cases hk
  rename_i v0 t0 m0 x0 hl
  obtain ⟨k, i, hk, rfl, _⟩ := isIdx_ok hk hi
  cases h1 : TT t with
  | none => rw [h1] at hk; cases hk
  | some d =>
  rw [h1] at hk
  simp only at hk
  have hd := (hT t d h1).desc
  split at hk
  case h_2 => cases hk
  rename_i e hkd
  rw [hkd] at hd
  simp only at hd
  cases h2 : TT e with
  | none => rw [h2] at hk; cases hk
  | some de =>
  rw [h2] at hk
  simp only at hk
  have hde := hT e de h2
  cases hb : Nat.blt 0 v0 && decide (de.ty = t0)
  · rw [hb] at hk; cases hk
  rw [hb] at hk
  simp only [cond_true] at hk
  simp only [Bool.and_eq_true, decide_eq_true_eq] at hb
  obtain ⟨hv0, hty⟩ := hb
  have hv0 : 0 < v0 := Nat.le_of_ble_eq_true hv0
  split at hk
  case isFalse => cases hk
  rename_i hij
  obtain ⟨i0, hij⟩ := hij
  obtain ⟨hj, ao, cap, hcs, hlc, _, h3⟩ := h.lab l _ hl
  have hlen : List.length (holed x0.1 x0.2) = x0.1.length := by unfold holed; simp
  simp only at hj
  have hvr := (he.2 _ hl).2.1 rfl
  simp only [VR, Ty.agg] at hvr
  rcases h3 with h3 | ⟨b, off, c', e', rfl, _⟩
  · simp only [hlen] at hlc; omega
  simp only [hlen] at hcs
  have hvv : v = .slice (some ⟨b, off, none⟩) x0.1.length cap := by
    have := hvr.1
    rw [hcs] at this
    injection this with this
    exact this.symm
  subst hvv
  refine ⟨_, _, hk, run_indexAt_slice hd hde i0 (by omega), he.1, fun bb hbb => ?_⟩
  rw [hl] at hbb
  injection hbb with hbb
  subst hbb
  refine ⟨Nat.zero_le _, fun _ p o hr => ?_, fun h0 => absurd h0 (Nat.ne_of_lt hv0)⟩
  simp only [hcs, rootAddr] at hr
  rw [if_pos ⟨i0, by omega⟩] at hr
  have hr' : (b, off + i.toNat * t0.width) = (p, o) := Option.some.inj hr
  injection hr' with e1 e2
  rw [Addr.add_lit, hty, ← e1, ← e2]

def xIxA {R : Type} (TT : Tab) (σ : St) (t : TypeId) (ex ei : Ent0) (K : Ent0 → Option R) : Option R := bif isHolE σ ex then xHoleAddr TT σ t ex ei K else xIndexAddr TT σ t ex ei K
theorem xIxA_ok (h : InvG B F Sg cg σ a w) {R : Type} {TT : Tab} (hT : TabOk P TT) {t : TypeId} {ex ei : Ent0} {K : Ent0 → Option R} {r : R} (hk : xIxA TT σ t ex ei K = some r) {v vi : Value} (he : EntOk F w σ.L σ.U cg ex v) (hi : EntOk F w σ.L σ.U cg ei vi) :
    ∃ e' z, K e' = some r ∧ (Instr.indexAt t v vi).run P w = .ok z w ∧ EntOk F w σ.L σ.U cg e' z := by
  unfold xIxA at hk
  cases hh : isHolE σ ex
  · rw [hh] at hk; exact xIndexAddr_ok h hT hk he hi
  · rw [hh] at hk; exact xHoleAddr_ok h hT hk he hi
end
end Go.Proofs.YtgonfcjdhbjkcaaDoor.Rf
