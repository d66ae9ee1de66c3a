/- The functions' machines and what they leave. Printed by wip/dev/drive2.py. -/
import Derived.Test.YtfnjdegejgocfaaFnA
set_option linter.unusedVariables false
set_option linter.unusedSimpArgs false
namespace Go.Proofs.Ytfnjdegejgocfaa.Rf
open Go
noncomputable def c89 : Code := match Try.f89.body with | some c => c | none => .skip
def an89 : Ann := .nop
noncomputable def V89 (n : Nat) (q : (tupT [(y12, .ro)]).T → Option ((tupT [(y9, .ro)]).T × (tupT []).T)) : Env := ⟨lookT tab, lookC [(89, ⟨[(y12, .ro)], [(y9, .ro)], [], [], q⟩)], fun _ => false, fun _ => false⟩
noncomputable def m89 (n : Nat) (q : (tupT [(y12, .ro)]).T → Option ((tupT [(y9, .ro)]).T × (tupT []).T)) (x : (tupT [(y12, .ro)]).T) := runFn (V89 n q) 20 n c89 an89 [(y12, .ro)] [(y9, .ro)] [] [] [.tmp 2] x

theorem plain89 : Plain Try.prog 89 := ⟨_, Try.func89, by kernel_rfl, by kernel_rfl⟩
theorem V89_ok (n : Nat) (q : (Int × Unit) → Option (((List Int) × Unit) × Unit)) (hq : FnOk Try.prog 89 ⟨[(y12, .ro)], [(y9, .ro)], [], [], q⟩) : EnvOk Try.prog (V89 n q) := ⟨tab_ok, lookC_ok (⟨⟨hq, plain89⟩, trivial⟩), mix, fun t h => by cases h⟩
/-- bosket/spot.natural: one call -/
noncomputable def p89b (n : Nat) (q : (Int × Unit) → Option (((List Int) × Unit) × Unit)) (x : (Int × Unit)) : Option (((List Int) × Unit) × Unit) := (fun (v1 : Nat) => (fun v2 => (fun (v3 : (Int × Unit)) => (bif (decide (v3.1 < (10 : Int))) then (some ((((IntKind.wrap .u8 (IntKind.wrap .u64 ((48 : Int) + v3.1))) :: ([] : List Int)), ()), ())) else (if (10 : Int) = 0 then none else (callB (v2 ((IntKind.wrap .u64 (Int.tdiv v3.1 (10 : Int))), ())) (fun (v4 : (((List Int) × Unit) × Unit)) => (if (10 : Int) = 0 then none else (if List.length v4.1.1 + List.length ((IntKind.wrap .u8 (IntKind.wrap .u64 ((48 : Int) + (Int.tmod v3.1 (10 : Int))))) :: ([] : List Int)) ≤ 9223372036854775807 then (some (((v4.1.1 ++ ((IntKind.wrap .u8 (IntKind.wrap .u64 ((48 : Int) + (Int.tmod v3.1 (10 : Int))))) :: ([] : List Int))), ()), ())) else none))))))))) n q x
theorem e89 (n : Nat) (q : (Int × Unit) → Option (((List Int) × Unit) × Unit)) (x : (Int × Unit)) : p89b n q x = m89 n q x := by kernel_rfl
noncomputable def p89r (n : Nat) : Nat → (Int × Unit) → Option (((List Int) × Unit) × Unit)
  | 0, _ => none
  | d + 1, x => p89b n (p89r n d) x
theorem okb89 (n : Nat) (q : (Int × Unit) → Option (((List Int) × Unit) × Unit)) (hq : FnOk Try.prog 89 ⟨[(y12, .ro)], [(y9, .ro)], [], [], q⟩) : FnOk Try.prog 89 ⟨[(y12, .ro)], [(y9, .ro)], [], [], p89b n q⟩ := (fn_ok (V89_ok n q hq) Try.func89 (c := c89) rfl (rv := [.tmp 2]) (by rw [Try.results89]) (N := 20) Try.ntmps89 (by decide) rfl an89 n).of_eq (e89 n q)
theorem okr89 (n : Nat) : ∀ d, FnOk Try.prog 89 ⟨[(y12, .ro)], [(y9, .ro)], [], [], p89r n d⟩
  | 0 => fun x r h => by cases h
  | d + 1 => okb89 n (p89r n d) (okr89 n d)
/-- bosket/spot.natural -/
noncomputable def p89 (n : Nat) (x : (Int × Unit)) : Option (((List Int) × Unit) × Unit) := p89r n n x
theorem ok89 (n : Nat) : FnOk Try.prog 89 ⟨[(y12, .ro)], [(y9, .ro)], [], [], p89 n⟩ := okr89 n n
noncomputable def c88 : Code := match Try.f88.body with | some c => c | none => .skip
def an88 : Ann := .nop
noncomputable def V88 (n : Nat) : Env := ⟨lookT tab, lookC [(89, ⟨[(y12, .ro)], [(y9, .ro)], [], [], p89 n⟩)], fun _ => false, fun _ => false⟩
noncomputable def m88 (n : Nat) (x : (tupT [(y2, .ro)]).T) := runFn (V88 n) 13 n c88 an88 [(y2, .ro)] [(y9, .ro)] [] [] [.tmp 2] x

theorem plain88 : Plain Try.prog 88 := ⟨_, Try.func88, by kernel_rfl, by kernel_rfl⟩
theorem V88_ok (n : Nat) : EnvOk Try.prog (V88 n) := ⟨tab_ok, lookC_ok (⟨⟨ok89 n, plain89⟩, trivial⟩), mix, fun t h => by cases h⟩
/-- bosket/spot.digits -/
noncomputable def p88 (n : Nat) (x : (Int × Unit)) : Option (((List Int) × Unit) × Unit) := (fun (v1 : Nat) => (fun (v2 : (Int × Unit)) => (bif (decide (v2.1 < (0 : Int))) then (callB (p89 v1 ((IntKind.wrap .u64 (IntKind.wrap .i64 ((0 : Int) - v2.1))), ())) (fun (v3 : (((List Int) × Unit) × Unit)) => (if List.length ((45 : Int) :: ([] : List Int)) + List.length v3.1.1 ≤ 9223372036854775807 then (some (((((45 : Int) :: ([] : List Int)) ++ v3.1.1), ()), ())) else none))) else (callB (p89 v1 ((IntKind.wrap .u64 v2.1), ())) (fun (v4 : (((List Int) × Unit) × Unit)) => (some ((v4.1.1, ()), ()))))))) n x
theorem e88 (n : Nat) (x : (Int × Unit)) : p88 n x = m88 n x := by kernel_rfl
theorem ok88 (n : Nat) : FnOk Try.prog 88 ⟨[(y2, .ro)], [(y9, .ro)], [], [], p88 n⟩ := (fn_ok (V88_ok n) Try.func88 (c := c88) rfl (rv := [.tmp 2]) (by rw [Try.results88]) (N := 13) Try.ntmps88 (by decide) rfl an88 n).of_eq (e88 n)
noncomputable def c87 : Code := match Try.f87.body with | some c => c | none => .skip
def an87 : Ann := .nop
noncomputable def V87 (n : Nat) : Env := ⟨lookT tab, lookC [(88, ⟨[(y2, .ro)], [(y9, .ro)], [], [], p88 n⟩)], fun _ => false, fun _ => false⟩
noncomputable def m87 (n : Nat) (x : (tupT [(y2, .ro)]).T) := runFn (V87 n) 5 n c87 an87 [(y2, .ro)] [(y9, .ro)] [] [] [.tmp 2] x

theorem plain87 : Plain Try.prog 87 := ⟨_, Try.func87, by kernel_rfl, by kernel_rfl⟩
theorem V87_ok (n : Nat) : EnvOk Try.prog (V87 n) := ⟨tab_ok, lookC_ok (⟨⟨ok88 n, plain88⟩, trivial⟩), mix, fun t h => by cases h⟩
/-- bosket/spot.Digits -/
noncomputable def p87 (n : Nat) (x : (Int × Unit)) : Option (((List Int) × Unit) × Unit) := (fun (v1 : Nat) => (fun (v2 : (Int × Unit)) => (callB (p88 v1 (v2.1, ())) (fun (v3 : (((List Int) × Unit) × Unit)) => (some ((v3.1.1, ()), ())))))) n x
theorem e87 (n : Nat) (x : (Int × Unit)) : p87 n x = m87 n x := by kernel_rfl
theorem ok87 (n : Nat) : FnOk Try.prog 87 ⟨[(y2, .ro)], [(y9, .ro)], [], [], p87 n⟩ := (fn_ok (V87_ok n) Try.func87 (c := c87) rfl (rv := [.tmp 2]) (by rw [Try.results87]) (N := 5) Try.ntmps87 (by decide) rfl an87 n).of_eq (e87 n)
noncomputable def c82 : Code := match Try.f82.body with | some c => c | none => .skip
def an82 : Ann := (.seq .nop (.seq .nop (.seq (.seq .nop (.block none (.loop ⟨[], [.hdr 3 31 y129 (.own .ro), .val 9 y2], [7, 8]⟩ (.seq .nop (.seq .nop (.seq (.block none (.seq .nop (.seq (.seq .nop (.cond (some ⟨[], [.hdr 3 31 y129 (.own .ro)], [5, 7, 8, 9]⟩) .nop .nop)) .nop))) .nop)))))) .nop)))
noncomputable def V82 (n : Nat) : Env := ⟨lookT tab, lookC [(87, ⟨[(y2, .ro)], [(y9, .ro)], [], [], p87 n⟩)], fun _ => false, fun _ => false⟩
noncomputable def m82 (n : Nat) (x : (tupT [(y30, .ro)]).T) := runFn (V82 n) 27 n c82 an82 [(y30, .ro)] [(y9, .ro)] [] [] [.tmp 2] x

theorem plain82 : Plain Try.prog 82 := ⟨_, Try.func82, by kernel_rfl, by kernel_rfl⟩
theorem V82_ok (n : Nat) : EnvOk Try.prog (V82 n) := ⟨tab_ok, lookC_ok (⟨⟨ok87 n, plain87⟩, trivial⟩), mix, fun t h => by cases h⟩
/-- bosket/emit.Row -/
noncomputable def p82 (n : Nat) (x : ((List Int) × Unit)) : Option (((List Int) × Unit) × Unit) := (fun (v1 : Nat) => (fun (v2 : ((List Int) × Unit)) => (loopB (fun (v3 : (Unit × ((List Int) × (Int × Unit)))) => (fun v4 => (bif (decide (v3.2.2.1 < ((List.length v2.1 : Nat) : Int))) then (if (0 : Int) ≤ v3.2.2.1 then (match v2.1[(v3.2.2.1).toNat]? with | some v5 => (joinB (fun (v6 : (Unit × ((List Int) × Unit))) => (callB (p87 v1 (v5, ())) (fun (v7 : (((List Int) × Unit) × Unit)) => (if (List.length v6.2.1 + List.length v7.1.1) * 1 ≤ 140737488355328 then (if List.length v6.2.1 + List.length v7.1.1 ≤ 9223372036854775807 then (v4 ((), ((v6.2.1 ++ v7.1.1), ((IntKind.wrap .i64 (v3.2.2.1 + (1 : Int))), ())))) else none) else none)))) (fun v8 => (bif (decide ((0 : Int) < v3.2.2.1)) then (if (List.length v3.2.1 + List.length ((44 : Int) :: ((32 : Int) :: ([] : List Int)))) * 1 ≤ 140737488355328 then (if List.length v3.2.1 + List.length ((44 : Int) :: ((32 : Int) :: ([] : List Int))) ≤ 9223372036854775807 then (v8 ((), ((v3.2.1 ++ ((44 : Int) :: ((32 : Int) :: ([] : List Int)))), ()))) else none) else none) else (v8 ((), (v3.2.1, ())))))) | none => none) else none) else (if (List.length v3.2.1 + List.length ((125 : Int) :: ([] : List Int))) * 1 ≤ 140737488355328 then (if List.length v3.2.1 + List.length ((125 : Int) :: ([] : List Int)) ≤ 9223372036854775807 then (some (((v3.2.1 ++ ((125 : Int) :: ([] : List Int))), ()), ())) else none) else none)))) v1 ((), (((123 : Int) :: ([] : List Int)), ((0 : Int), ())))))) n x
theorem e82 (n : Nat) (x : ((List Int) × Unit)) : p82 n x = m82 n x := by kernel_rfl
theorem ok82 (n : Nat) : FnOk Try.prog 82 ⟨[(y30, .ro)], [(y9, .ro)], [], [], p82 n⟩ := (fn_ok (V82_ok n) Try.func82 (c := c82) rfl (rv := [.tmp 2]) (by rw [Try.results82]) (N := 27) Try.ntmps82 (by decide) rfl an82 n).of_eq (e82 n)
noncomputable def c66 : Code := match Try.f66.body with | some c => c | none => .skip
def an66 : Ann := (.seq .nop (.seq .nop (.seq (.seq .nop (.block none (.loop ⟨[], [.hdr 5 47 y129 (.own .ro), .val 14 y2], [12, 13]⟩ .nop))) .nop)))
noncomputable def V66 (n : Nat) : Env := ⟨lookT tab, lookC [(82, ⟨[(y30, .ro)], [(y9, .ro)], [], [], p82 n⟩)], fun _ => false, fun _ => false⟩
noncomputable def m66 (n : Nat) (x : (tupT [(y9, .ro), (y81, .ro)]).T) := runFn (V66 n) 28 n c66 an66 [(y9, .ro), (y81, .ro)] [(y9, .ro)] [] [] [.tmp 4] x

theorem plain66 : Plain Try.prog 66 := ⟨_, Try.func66, by kernel_rfl, by kernel_rfl⟩
theorem V66_ok (n : Nat) : EnvOk Try.prog (V66 n) := ⟨tab_ok, lookC_ok (⟨⟨ok82 n, plain82⟩, trivial⟩), mix, fun t h => by cases h⟩
/-- bosket/emit.Rows -/
noncomputable def p66 (n : Nat) (x : ((List Int) × ((List (List Int)) × Unit))) : Option (((List Int) × Unit) × Unit) := (fun (v1 : Nat) => (fun (v2 : ((List Int) × ((List (List Int)) × Unit))) => (if List.length ((118 : Int) :: ((97 : Int) :: ((114 : Int) :: ((32 : Int) :: ([] : List Int))))) + List.length v2.1 ≤ 9223372036854775807 then (if List.length (((118 : Int) :: ((97 : Int) :: ((114 : Int) :: ((32 : Int) :: ([] : List Int))))) ++ v2.1) + List.length ((32 : Int) :: ((61 : Int) :: ((32 : Int) :: ((91 : Int) :: ((93 : Int) :: ((91 : Int) :: ((93 : Int) :: ((105 : Int) :: ((110 : Int) :: ((116 : Int) :: ((123 : Int) :: ((10 : Int) :: ([] : List Int))))))))))))) ≤ 9223372036854775807 then (loopB (fun (v3 : (Unit × ((List Int) × (Int × Unit)))) => (fun v4 => (bif (decide (v3.2.2.1 < ((List.length v2.2.1 : Nat) : Int))) then (if (0 : Int) ≤ v3.2.2.1 then (match v2.2.1[(v3.2.2.1).toNat]? with | some v5 => (callB (p82 v1 (v5, ())) (fun (v6 : (((List Int) × Unit) × Unit)) => (if List.length ((9 : Int) :: ([] : List Int)) + List.length v6.1.1 ≤ 9223372036854775807 then (if List.length (((9 : Int) :: ([] : List Int)) ++ v6.1.1) + List.length ((44 : Int) :: ((10 : Int) :: ([] : List Int))) ≤ 9223372036854775807 then (if (List.length v3.2.1 + List.length ((((9 : Int) :: ([] : List Int)) ++ v6.1.1) ++ ((44 : Int) :: ((10 : Int) :: ([] : List Int))))) * 1 ≤ 140737488355328 then (if List.length v3.2.1 + List.length ((((9 : Int) :: ([] : List Int)) ++ v6.1.1) ++ ((44 : Int) :: ((10 : Int) :: ([] : List Int)))) ≤ 9223372036854775807 then (v4 ((), ((v3.2.1 ++ ((((9 : Int) :: ([] : List Int)) ++ v6.1.1) ++ ((44 : Int) :: ((10 : Int) :: ([] : List Int))))), ((IntKind.wrap .i64 (v3.2.2.1 + (1 : Int))), ())))) else none) else none) else none) else none))) | none => none) else none) else (if (List.length v3.2.1 + List.length ((125 : Int) :: ((10 : Int) :: ([] : List Int)))) * 1 ≤ 140737488355328 then (if List.length v3.2.1 + List.length ((125 : Int) :: ((10 : Int) :: ([] : List Int))) ≤ 9223372036854775807 then (some (((v3.2.1 ++ ((125 : Int) :: ((10 : Int) :: ([] : List Int)))), ()), ())) else none) else none)))) v1 ((), (((((118 : Int) :: ((97 : Int) :: ((114 : Int) :: ((32 : Int) :: ([] : List Int))))) ++ v2.1) ++ ((32 : Int) :: ((61 : Int) :: ((32 : Int) :: ((91 : Int) :: ((93 : Int) :: ((91 : Int) :: ((93 : Int) :: ((105 : Int) :: ((110 : Int) :: ((116 : Int) :: ((123 : Int) :: ((10 : Int) :: ([] : List Int)))))))))))))), ((0 : Int), ())))) else none) else none))) n x
theorem e66 (n : Nat) (x : ((List Int) × ((List (List Int)) × Unit))) : p66 n x = m66 n x := by kernel_rfl
theorem ok66 (n : Nat) : FnOk Try.prog 66 ⟨[(y9, .ro), (y81, .ro)], [(y9, .ro)], [], [], p66 n⟩ := (fn_ok (V66_ok n) Try.func66 (c := c66) rfl (rv := [.tmp 4]) (by rw [Try.results66]) (N := 28) Try.ntmps66 (by decide) rfl an66 n).of_eq (e66 n)
noncomputable def c24 : Code := match Try.f24.body with | some c => c | none => .skip
def an24 : Ann := (.seq .nop (.seq (.reg (some ⟨[], [.val 0 y4], []⟩) []) .nop))
noncomputable def V24 (n : Nat) : Env := ⟨lookT tab, lookC [(66, ⟨[(y9, .ro), (y81, .ro)], [(y9, .ro)], [], [], p66 n⟩)], fun _ => false, fun _ => false⟩
noncomputable def m24 (n : Nat) (x : (tupT []).T) := runFn (V24 n) 8 n c24 an24 [] [(y4, .ro)] [] [] [.tmp 0] x

theorem plain24 : Plain Try.prog 24 := ⟨_, Try.func24, by kernel_rfl, by kernel_rfl⟩
theorem V24_ok (n : Nat) : EnvOk Try.prog (V24 n) := ⟨tab_ok, lookC_ok (⟨⟨ok66 n, plain66⟩, trivial⟩), mix, fun t h => by cases h⟩
/-- bosket/bosketlaw45.awake -/
noncomputable def p24 (n : Nat) (x : Unit) : Option ((Bool × Unit) × Unit) := (fun (v1 : Nat) => (fun (v2 : Unit) => (joinB (fun (v3 : (Unit × (Bool × Unit))) => (some ((v3.2.1, ()), ()))) (fun v4 => (callB (p66 v1 (((97 : Int) :: ([] : List Int)), ((((1 : Int) :: ((-2 : Int) :: ([] : List Int))) :: (([] : List Int) :: ([] : List (List Int)))), ()))) (fun (v5 : (((List Int) × Unit) × Unit)) => (bif (decide (v5.1.1 = ((118 : Int) :: ((97 : Int) :: ((114 : Int) :: ((32 : Int) :: ((97 : Int) :: ((32 : Int) :: ((61 : Int) :: ((32 : Int) :: ((91 : Int) :: ((93 : Int) :: ((91 : Int) :: ((93 : Int) :: ((105 : Int) :: ((110 : Int) :: ((116 : Int) :: ((123 : Int) :: ((10 : Int) :: ((9 : Int) :: ((123 : Int) :: ((49 : Int) :: ((44 : Int) :: ((32 : Int) :: ((45 : Int) :: ((50 : Int) :: ((125 : Int) :: ((44 : Int) :: ((10 : Int) :: ((9 : Int) :: ((123 : Int) :: ((125 : Int) :: ((44 : Int) :: ((10 : Int) :: ((125 : Int) :: ((10 : Int) :: ([] : List Int))))))))))))))))))))))))))))))))))))) then (v4 ((), (true, ()))) else (v4 ((), (false, ())))))))))) n x
theorem e24 (n : Nat) (x : Unit) : p24 n x = m24 n x := by kernel_rfl
theorem ok24 (n : Nat) : FnOk Try.prog 24 ⟨[], [(y4, .ro)], [], [], p24 n⟩ := (fn_ok (V24_ok n) Try.func24 (c := c24) rfl (rv := [.tmp 0]) (by rw [Try.results24]) (N := 8) Try.ntmps24 (by decide) rfl an24 n).of_eq (e24 n)
noncomputable def c25 : Code := match Try.f25.body with | some c => c | none => .skip
def an25 : Ann := (.seq (.reg none [1]) (.seq .nop (.seq (.seq (.reg (some ⟨[], [.val 23 y4], [1]⟩) []) .nop) .nop)))
noncomputable def V25 (n : Nat) : Env := ⟨lookT tab, lookC [], fun _ => false, fun _ => false⟩
noncomputable def m25 (n : Nat) (x : (tupT [(y46, .ro)]).T) := runFn (V25 n) 33 n c25 an25 [(y46, .ro)] [(y2, .ro)] [] [] [.tmp 2] x

theorem plain25 : Plain Try.prog 25 := ⟨_, Try.func25, by kernel_rfl, by kernel_rfl⟩
theorem V25_ok (n : Nat) : EnvOk Try.prog (V25 n) := ⟨tab_ok, lookC_ok (trivial), mix, fun t h => by cases h⟩
/-- bosket/bosketref45.Action -/
noncomputable def p25 (n : Nat) (x : ((Int × Int) × Unit)) : Option ((Int × Unit) × Unit) := (fun (v1 : Nat) => (fun (v2 : ((Int × Int) × Unit)) => (bif (decide (v2.1.1 = (3 : Int))) then (some (((1073741824 : Int), ()), ())) else (joinB (fun (v3 : (Unit × (Bool × Unit))) => (bif v3.2.1 then (some (((0 : Int), ()), ())) else (bif (decide (v2.1.1 = (2 : Int))) then (some (((IntKind.wrap .i64 ((-1 : Int) - v2.1.2)), ()), ())) else (some (((IntKind.wrap .i64 ((1 : Int) + v2.1.2)), ()), ()))))) (fun v4 => (bif (decide (v2.1.2 < (0 : Int))) then (v4 ((), (true, ()))) else (bif (decide ((1073741822 : Int) < v2.1.2)) then (v4 ((), (true, ()))) else (bif (decide (v2.1.1 < (1 : Int))) then (v4 ((), (true, ()))) else (v4 ((), ((decide ((2 : Int) < v2.1.1)), ()))))))))))) n x
theorem e25 (n : Nat) (x : ((Int × Int) × Unit)) : p25 n x = m25 n x := by kernel_rfl
theorem ok25 (n : Nat) : FnOk Try.prog 25 ⟨[(y46, .ro)], [(y2, .ro)], [], [], p25 n⟩ := (fn_ok (V25_ok n) Try.func25 (c := c25) rfl (rv := [.tmp 2]) (by rw [Try.results25]) (N := 33) Try.ntmps25 (by decide) rfl an25 n).of_eq (e25 n)
noncomputable def c26 : Code := match Try.f26.body with | some c => c | none => .skip
def an26 : Ann := (.seq .nop (.seq (.block none (.seq .nop (.cond none .nop (.seq (.reg (some ⟨[(32, (.box y46), (.own (.pr .ro .ro)))], [.val 10 y4], [0, 4]⟩) []) (.cond none .nop (.seq (.reg (some ⟨[(32, (.box y46), (.own (.pr .ro .ro)))], [.val 20 y4], [0, 4]⟩) []) .nop)))))) (.seq (.reg none [4]) .nop)))
noncomputable def V26 (n : Nat) : Env := ⟨lookT tab, lookC [], fun _ => false, fun _ => false⟩
noncomputable def m26 (n : Nat) (x : (tupT [(y2, .ro), (y2, .ro)]).T) := runFn (V26 n) 31 n c26 an26 [(y2, .ro), (y2, .ro)] [(y46, .ro)] [] [] [.cell 4 47] x

theorem plain26 : Plain Try.prog 26 := ⟨_, Try.func26, by kernel_rfl, by kernel_rfl⟩
theorem V26_ok (n : Nat) : EnvOk Try.prog (V26 n) := ⟨tab_ok, lookC_ok (trivial), mix, fun t h => by cases h⟩
/-- bosket/emit.ReadAction -/
noncomputable def p26 (n : Nat) (x : (Int × (Int × Unit))) : Option (((Int × Int) × Unit) × Unit) := (fun (v1 : Nat) => (fun (v2 : (Int × (Int × Unit))) => (bif (decide (v2.1 = (1073741824 : Int))) then (some ((((3 : Int), v2.2.1), ()), ())) else (joinB (fun (v3 : (((Int × Int) × Unit) × (Bool × Unit))) => (bif v3.2.1 then (some ((((1 : Int), (IntKind.wrap .i64 (v2.1 - (1 : Int)))), ()), ())) else (joinB (fun (v4 : (((Int × Int) × Unit) × (Bool × Unit))) => (bif v4.2.1 then (some ((((2 : Int), (IntKind.wrap .i64 ((-1 : Int) - v2.1))), ()), ())) else (some ((((0 : Int), (0 : Int)), ()), ())))) (fun v5 => (bif (decide (v2.1 < (0 : Int))) then (v5 ((v3.1.1, ()), ((decide ((-1073741824 : Int) < v2.1)), ()))) else (v5 ((v3.1.1, ()), (false, ())))))))) (fun v6 => (bif (decide ((0 : Int) < v2.1)) then (v6 ((((0 : Int), (0 : Int)), ()), ((decide (v2.1 < (1073741824 : Int))), ()))) else (v6 ((((0 : Int), (0 : Int)), ()), (false, ()))))))))) n x
theorem e26 (n : Nat) (x : (Int × (Int × Unit))) : p26 n x = m26 n x := by kernel_rfl
theorem ok26 (n : Nat) : FnOk Try.prog 26 ⟨[(y2, .ro), (y2, .ro)], [(y46, .ro)], [], [], p26 n⟩ := (fn_ok (V26_ok n) Try.func26 (c := c26) rfl (rv := [.cell 4 47]) (by rw [Try.results26]) (N := 31) Try.ntmps26 (by decide) rfl an26 n).of_eq (e26 n)
noncomputable def c27 : Code := match Try.f27.body with | some c => c | none => .skip
def an27 : Ann := (.seq (.reg none [1]) (.seq .nop (.seq (.seq (.reg (some ⟨[], [.val 13 y4], [1]⟩) []) .nop) .nop)))
noncomputable def V27 (n : Nat) : Env := ⟨lookT tab, lookC [], fun _ => false, fun _ => false⟩
noncomputable def m27 (n : Nat) (x : (tupT [(y46, .ro)]).T) := runFn (V27 n) 26 n c27 an27 [(y46, .ro)] [(y2, .ro)] [] [] [.tmp 2] x

theorem plain27 : Plain Try.prog 27 := ⟨_, Try.func27, by kernel_rfl, by kernel_rfl⟩
theorem V27_ok (n : Nat) : EnvOk Try.prog (V27 n) := ⟨tab_ok, lookC_ok (trivial), mix, fun t h => by cases h⟩
/-- bosket/emit.Action -/
noncomputable def p27 (n : Nat) (x : ((Int × Int) × Unit)) : Option ((Int × Unit) × Unit) := (fun (v1 : Nat) => (fun (v2 : ((Int × Int) × Unit)) => (bif (decide (v2.1.1 = (3 : Int))) then (some (((1073741824 : Int), ()), ())) else (joinB (fun (v3 : (Unit × (Bool × Unit))) => (bif v3.2.1 then (some (((0 : Int), ()), ())) else (bif (decide (v2.1.1 = (1 : Int))) then (some (((IntKind.wrap .i64 (v2.1.2 + (1 : Int))), ()), ())) else (bif (decide (v2.1.1 = (2 : Int))) then (some (((IntKind.wrap .i64 ((-1 : Int) - v2.1.2)), ()), ())) else (some (((0 : Int), ()), ())))))) (fun v4 => (bif (decide (v2.1.2 < (0 : Int))) then (v4 ((), (true, ()))) else (v4 ((), ((decide ((1073741823 : Int) ≤ v2.1.2)), ()))))))))) n x
theorem e27 (n : Nat) (x : ((Int × Int) × Unit)) : p27 n x = m27 n x := by kernel_rfl
theorem ok27 (n : Nat) : FnOk Try.prog 27 ⟨[(y46, .ro)], [(y2, .ro)], [], [], p27 n⟩ := (fn_ok (V27_ok n) Try.func27 (c := c27) rfl (rv := [.tmp 2]) (by rw [Try.results27]) (N := 26) Try.ntmps27 (by decide) rfl an27 n).of_eq (e27 n)
noncomputable def c5 : Code := match Try.f5.body with | some c => c | none => .skip
def an5 : Ann := (.seq (.reg none [3]) (.seq .nop (.seq .nop (.seq (.reg none [8]) (.seq .nop (.seq (.seq (.reg (some ⟨[], [.val 33 y4], [1, 2, 8]⟩) []) .nop) (.seq .nop (.seq (.reg (some ⟨[], [.val 6 y4], []⟩) []) .nop))))))))
noncomputable def V5 (n : Nat) : Env := ⟨lookT tab, lookC [(24, ⟨[], [(y4, .ro)], [], [], p24 n⟩), (25, ⟨[(y46, .ro)], [(y2, .ro)], [], [], p25 n⟩), (26, ⟨[(y2, .ro), (y2, .ro)], [(y46, .ro)], [], [], p26 n⟩), (27, ⟨[(y46, .ro)], [(y2, .ro)], [], [], p27 n⟩)], fun _ => false, fun t => Nat.beq t 47⟩
noncomputable def m5 (n : Nat) (x : (tupT [(y46, .ro), (y2, .ro), (y2, .ro)]).T) := runFn (V5 n) 60 n c5 an5 [(y46, .ro), (y2, .ro), (y2, .ro)] [(y4, .ro)] [] [] [.tmp 6] x

theorem eq47 : EqOk Try.prog 47 := ⟨by kernel_rfl, by kernel_rfl, by kernel_rfl⟩
theorem plain5 : Plain Try.prog 5 := ⟨_, Try.func5, by kernel_rfl, by kernel_rfl⟩
theorem V5_ok (n : Nat) : EnvOk Try.prog (V5 n) := ⟨tab_ok, lookC_ok (⟨⟨ok24 n, plain24⟩, ⟨⟨ok25 n, plain25⟩, ⟨⟨ok26 n, plain26⟩, ⟨⟨ok27 n, plain27⟩, trivial⟩⟩⟩⟩), mix, fun t h => by
  simp only [V5, Bool.or_eq_true] at h
  rw [Nat.eq_of_beq_eq_true h]; exact eq47⟩
/-- bosket/bosketlaw45.EmitActions -/
noncomputable def p5 (n : Nat) (x : ((Int × Int) × (Int × (Int × Unit)))) : Option ((Bool × Unit) × Unit) := (fun (v1 : Nat) => (fun (v2 : ((Int × Int) × (Int × (Int × Unit)))) => (callB (p24 v1 ()) (fun (v3 : ((Bool × Unit) × Unit)) => (bif (!v3.1.1) then (some ((false, ()), ())) else (callB (p25 v1 ((v2.1.1, v2.1.2), ())) (fun (v4 : ((Int × Unit) × Unit)) => (callB (p26 v1 (v2.2.1, (v2.2.2.1, ()))) (fun (v5 : (((Int × Int) × Unit) × Unit)) => (callB (p27 v1 (v2.1, ())) (fun (v6 : ((Int × Unit) × Unit)) => (bif (!(decide (v6.1.1 = v4.1.1))) then (some ((false, ()), ())) else (joinB (fun (v7 : (Unit × (Bool × Unit))) => (bif v7.2.1 then (some (((bif (decide (v5.1.1.1 = (0 : Int))) then (decide (v5.1.1.2 = (0 : Int))) else false), ()), ())) else (bif (decide (v2.2.1 = (1073741824 : Int))) then (some (((bif (decide (v5.1.1.1 = (3 : Int))) then (decide (v5.1.1.2 = v2.2.2.1)) else false), ()), ())) else (joinB (fun (v8 : (Unit × (Bool × Unit))) => (some ((v8.2.1, ()), ()))) (fun v9 => (callB (p27 v1 (v5.1.1, ())) (fun (v10 : ((Int × Unit) × Unit)) => (bif (decide (v10.1.1 = v2.2.1)) then (bif ((decide (v5.1.1.1 = (1 : Int))) == (decide ((0 : Int) < v2.2.1))) then (v9 ((), ((decide ((0 : Int) ≤ v5.1.1.2)), ()))) else (v9 ((), (false, ())))) else (v9 ((), (false, ()))))))))))) (fun v11 => (bif (decide (v2.2.1 = (0 : Int))) then (v11 ((), (true, ()))) else (bif (decide ((1073741824 : Int) < v2.2.1)) then (v11 ((), (true, ()))) else (v11 ((), ((decide (v2.2.1 ≤ (-1073741824 : Int))), ()))))))))))))))))))) n x
theorem e5 (n : Nat) (x : ((Int × Int) × (Int × (Int × Unit)))) : p5 n x = m5 n x := by kernel_rfl
theorem ok5 (n : Nat) : FnOk Try.prog 5 ⟨[(y46, .ro), (y2, .ro), (y2, .ro)], [(y4, .ro)], [], [], p5 n⟩ := (fn_ok (V5_ok n) Try.func5 (c := c5) rfl (rv := [.tmp 6]) (by rw [Try.results5]) (N := 60) Try.ntmps5 (by decide) rfl an5 n).of_eq (e5 n)
end Go.Proofs.Ytfnjdegejgocfaa.Rf
