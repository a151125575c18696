import PyProof.Rows.All
import Wide.All
import OpenK.AllK
import Wide.FinOn
import PySem.Challenge.RW_ui0509_14
open PySem PySem.W PyProof.Rows PySem.Spec PySem.Calls
set_option Elab.async false
set_option maxRecDepth 100000
set_option maxHeartbeats 8000000
set_option rowWalk.seconds 1500
set_option compiler.extract_closed false
set_option linter.all false
namespace HD
open PySem PySem.W PyProof.Rows PySem.Spec PySem.Calls
abbrev pw : Program := PySem.Challenge.pw_ui0509_14
def nth : List Stmt → Nat → Stmt
  | [], _ => .Pass ⟨0, 0, 0, 0⟩
  | x :: _, 0 => x
  | _ :: r, n + 1 => nth r n
def bodyS : Stmt → List Stmt
  | .FunctionDef _ _ b .. => b
  | .ClassDef _ _ _ b .. => b
  | .If _ b .. => b
  | _ => []
def argsS : Stmt → Arguments
  | .FunctionDef _ a .. => a
  | _ => ⟨[], [], none, [], [], none, []⟩
def scopeS : Stmt → Scope
  | .FunctionDef _ _ _ _ _ _ s .. => s
  | _ => ⟨.function, [], false, false, []⟩
abbrev lf (o : Obj) : BT := .node o .nil .nil
@[reducible] noncomputable def fa0 : {x : Arguments // x = argsS (nth pw.main.body 0)} := ⟨_, by conv => (rhs; whnf)⟩
@[reducible] noncomputable def fb0 : {x : List Stmt // x = bodyS (nth pw.main.body 0)} := ⟨_, by conv => (rhs; whnf)⟩
@[reducible] noncomputable def fs0 : {x : Scope // x = scopeS (nth pw.main.body 0)} := ⟨_, by conv => (rhs; whnf)⟩
@[reducible] noncomputable def fa3 : {x : Arguments // x = argsS (nth pw.main.body 3)} := ⟨_, by conv => (rhs; whnf)⟩
@[reducible] noncomputable def fb3 : {x : List Stmt // x = bodyS (nth pw.main.body 3)} := ⟨_, by conv => (rhs; whnf)⟩
@[reducible] noncomputable def fs3 : {x : Scope // x = scopeS (nth pw.main.body 3)} := ⟨_, by conv => (rhs; whnf)⟩
@[reducible] noncomputable def fa4 : {x : Arguments // x = argsS (nth pw.main.body 4)} := ⟨_, by conv => (rhs; whnf)⟩
@[reducible] noncomputable def fb4 : {x : List Stmt // x = bodyS (nth pw.main.body 4)} := ⟨_, by conv => (rhs; whnf)⟩
@[reducible] noncomputable def fs4 : {x : Scope // x = scopeS (nth pw.main.body 4)} := ⟨_, by conv => (rhs; whnf)⟩
@[reducible] noncomputable def fa5 : {x : Arguments // x = argsS (nth pw.main.body 5)} := ⟨_, by conv => (rhs; whnf)⟩
@[reducible] noncomputable def fb5 : {x : List Stmt // x = bodyS (nth pw.main.body 5)} := ⟨_, by conv => (rhs; whnf)⟩
@[reducible] noncomputable def fs5 : {x : Scope // x = scopeS (nth pw.main.body 5)} := ⟨_, by conv => (rhs; whnf)⟩
@[reducible] noncomputable def fa11 : {x : Arguments // x = argsS (nth pw.main.body 11)} := ⟨_, by conv => (rhs; whnf)⟩
@[reducible] noncomputable def fb11 : {x : List Stmt // x = bodyS (nth pw.main.body 11)} := ⟨_, by conv => (rhs; whnf)⟩
@[reducible] noncomputable def fs11 : {x : Scope // x = scopeS (nth pw.main.body 11)} := ⟨_, by conv => (rhs; whnf)⟩
@[reducible] noncomputable def fa12 : {x : Arguments // x = argsS (nth pw.main.body 12)} := ⟨_, by conv => (rhs; whnf)⟩
@[reducible] noncomputable def fb12 : {x : List Stmt // x = bodyS (nth pw.main.body 12)} := ⟨_, by conv => (rhs; whnf)⟩
@[reducible] noncomputable def fs12 : {x : Scope // x = scopeS (nth pw.main.body 12)} := ⟨_, by conv => (rhs; whnf)⟩
@[reducible] noncomputable def fa13 : {x : Arguments // x = argsS (nth pw.main.body 13)} := ⟨_, by conv => (rhs; whnf)⟩
@[reducible] noncomputable def fb13 : {x : List Stmt // x = bodyS (nth pw.main.body 13)} := ⟨_, by conv => (rhs; whnf)⟩
@[reducible] noncomputable def fs13 : {x : Scope // x = scopeS (nth pw.main.body 13)} := ⟨_, by conv => (rhs; whnf)⟩
@[reducible] noncomputable def fa14 : {x : Arguments // x = argsS (nth pw.main.body 14)} := ⟨_, by conv => (rhs; whnf)⟩
@[reducible] noncomputable def fb14 : {x : List Stmt // x = bodyS (nth pw.main.body 14)} := ⟨_, by conv => (rhs; whnf)⟩
@[reducible] noncomputable def fs14 : {x : Scope // x = scopeS (nth pw.main.body 14)} := ⟨_, by conv => (rhs; whnf)⟩
@[reducible] noncomputable def fa15 : {x : Arguments // x = argsS (nth pw.main.body 15)} := ⟨_, by conv => (rhs; whnf)⟩
@[reducible] noncomputable def fb15 : {x : List Stmt // x = bodyS (nth pw.main.body 15)} := ⟨_, by conv => (rhs; whnf)⟩
@[reducible] noncomputable def fs15 : {x : Scope // x = scopeS (nth pw.main.body 15)} := ⟨_, by conv => (rhs; whnf)⟩
@[reducible] noncomputable def fa16 : {x : Arguments // x = argsS (nth pw.main.body 16)} := ⟨_, by conv => (rhs; whnf)⟩
@[reducible] noncomputable def fb16 : {x : List Stmt // x = bodyS (nth pw.main.body 16)} := ⟨_, by conv => (rhs; whnf)⟩
@[reducible] noncomputable def fs16 : {x : Scope // x = scopeS (nth pw.main.body 16)} := ⟨_, by conv => (rhs; whnf)⟩
@[reducible] noncomputable def fa17 : {x : Arguments // x = argsS (nth pw.main.body 17)} := ⟨_, by conv => (rhs; whnf)⟩
@[reducible] noncomputable def fb17 : {x : List Stmt // x = bodyS (nth pw.main.body 17)} := ⟨_, by conv => (rhs; whnf)⟩
@[reducible] noncomputable def fs17 : {x : Scope // x = scopeS (nth pw.main.body 17)} := ⟨_, by conv => (rhs; whnf)⟩
@[reducible] noncomputable def fa18 : {x : Arguments // x = argsS (nth pw.main.body 18)} := ⟨_, by conv => (rhs; whnf)⟩
@[reducible] noncomputable def fb18 : {x : List Stmt // x = bodyS (nth pw.main.body 18)} := ⟨_, by conv => (rhs; whnf)⟩
@[reducible] noncomputable def fs18 : {x : Scope // x = scopeS (nth pw.main.body 18)} := ⟨_, by conv => (rhs; whnf)⟩
@[reducible] noncomputable def fa19 : {x : Arguments // x = argsS (nth pw.main.body 19)} := ⟨_, by conv => (rhs; whnf)⟩
@[reducible] noncomputable def fb19 : {x : List Stmt // x = bodyS (nth pw.main.body 19)} := ⟨_, by conv => (rhs; whnf)⟩
@[reducible] noncomputable def fs19 : {x : Scope // x = scopeS (nth pw.main.body 19)} := ⟨_, by conv => (rhs; whnf)⟩
@[reducible] noncomputable def fa24_0 : {x : Arguments // x = argsS (nth (bodyS (nth pw.main.body 24)) 0)} := ⟨_, by conv => (rhs; whnf)⟩
@[reducible] noncomputable def fb24_0 : {x : List Stmt // x = bodyS (nth (bodyS (nth pw.main.body 24)) 0)} := ⟨_, by conv => (rhs; whnf)⟩
@[reducible] noncomputable def fs24_0 : {x : Scope // x = scopeS (nth (bodyS (nth pw.main.body 24)) 0)} := ⟨_, by conv => (rhs; whnf)⟩
@[reducible] noncomputable def fa25_0 : {x : Arguments // x = argsS (nth (bodyS (nth pw.main.body 25)) 0)} := ⟨_, by conv => (rhs; whnf)⟩
@[reducible] noncomputable def fb25_0 : {x : List Stmt // x = bodyS (nth (bodyS (nth pw.main.body 25)) 0)} := ⟨_, by conv => (rhs; whnf)⟩
@[reducible] noncomputable def fs25_0 : {x : Scope // x = scopeS (nth (bodyS (nth pw.main.body 25)) 0)} := ⟨_, by conv => (rhs; whnf)⟩
@[reducible] noncomputable def fa25_1 : {x : Arguments // x = argsS (nth (bodyS (nth pw.main.body 25)) 1)} := ⟨_, by conv => (rhs; whnf)⟩
@[reducible] noncomputable def fb25_1 : {x : List Stmt // x = bodyS (nth (bodyS (nth pw.main.body 25)) 1)} := ⟨_, by conv => (rhs; whnf)⟩
@[reducible] noncomputable def fs25_1 : {x : Scope // x = scopeS (nth (bodyS (nth pw.main.body 25)) 1)} := ⟨_, by conv => (rhs; whnf)⟩
@[reducible] noncomputable def fa26_0 : {x : Arguments // x = argsS (nth (bodyS (nth pw.main.body 26)) 0)} := ⟨_, by conv => (rhs; whnf)⟩
@[reducible] noncomputable def fb26_0 : {x : List Stmt // x = bodyS (nth (bodyS (nth pw.main.body 26)) 0)} := ⟨_, by conv => (rhs; whnf)⟩
@[reducible] noncomputable def fs26_0 : {x : Scope // x = scopeS (nth (bodyS (nth pw.main.body 26)) 0)} := ⟨_, by conv => (rhs; whnf)⟩
@[reducible] noncomputable def fa26_1 : {x : Arguments // x = argsS (nth (bodyS (nth pw.main.body 26)) 1)} := ⟨_, by conv => (rhs; whnf)⟩
@[reducible] noncomputable def fb26_1 : {x : List Stmt // x = bodyS (nth (bodyS (nth pw.main.body 26)) 1)} := ⟨_, by conv => (rhs; whnf)⟩
@[reducible] noncomputable def fs26_1 : {x : Scope // x = scopeS (nth (bodyS (nth pw.main.body 26)) 1)} := ⟨_, by conv => (rhs; whnf)⟩
@[reducible] noncomputable def fa26_2 : {x : Arguments // x = argsS (nth (bodyS (nth pw.main.body 26)) 2)} := ⟨_, by conv => (rhs; whnf)⟩
@[reducible] noncomputable def fb26_2 : {x : List Stmt // x = bodyS (nth (bodyS (nth pw.main.body 26)) 2)} := ⟨_, by conv => (rhs; whnf)⟩
@[reducible] noncomputable def fs26_2 : {x : Scope // x = scopeS (nth (bodyS (nth pw.main.body 26)) 2)} := ⟨_, by conv => (rhs; whnf)⟩
@[reducible] noncomputable def fa26_3 : {x : Arguments // x = argsS (nth (bodyS (nth pw.main.body 26)) 3)} := ⟨_, by conv => (rhs; whnf)⟩
@[reducible] noncomputable def fb26_3 : {x : List Stmt // x = bodyS (nth (bodyS (nth pw.main.body 26)) 3)} := ⟨_, by conv => (rhs; whnf)⟩
@[reducible] noncomputable def fs26_3 : {x : Scope // x = scopeS (nth (bodyS (nth pw.main.body 26)) 3)} := ⟨_, by conv => (rhs; whnf)⟩
@[reducible] noncomputable def fa26_4 : {x : Arguments // x = argsS (nth (bodyS (nth pw.main.body 26)) 4)} := ⟨_, by conv => (rhs; whnf)⟩
@[reducible] noncomputable def fb26_4 : {x : List Stmt // x = bodyS (nth (bodyS (nth pw.main.body 26)) 4)} := ⟨_, by conv => (rhs; whnf)⟩
@[reducible] noncomputable def fs26_4 : {x : Scope // x = scopeS (nth (bodyS (nth pw.main.body 26)) 4)} := ⟨_, by conv => (rhs; whnf)⟩
@[reducible] noncomputable def fa26_5 : {x : Arguments // x = argsS (nth (bodyS (nth pw.main.body 26)) 5)} := ⟨_, by conv => (rhs; whnf)⟩
@[reducible] noncomputable def fb26_5 : {x : List Stmt // x = bodyS (nth (bodyS (nth pw.main.body 26)) 5)} := ⟨_, by conv => (rhs; whnf)⟩
@[reducible] noncomputable def fs26_5 : {x : Scope // x = scopeS (nth (bodyS (nth pw.main.body 26)) 5)} := ⟨_, by conv => (rhs; whnf)⟩
@[reducible] noncomputable def fa26_6 : {x : Arguments // x = argsS (nth (bodyS (nth pw.main.body 26)) 6)} := ⟨_, by conv => (rhs; whnf)⟩
@[reducible] noncomputable def fb26_6 : {x : List Stmt // x = bodyS (nth (bodyS (nth pw.main.body 26)) 6)} := ⟨_, by conv => (rhs; whnf)⟩
@[reducible] noncomputable def fs26_6 : {x : Scope // x = scopeS (nth (bodyS (nth pw.main.body 26)) 6)} := ⟨_, by conv => (rhs; whnf)⟩
@[reducible] noncomputable def fa26_7 : {x : Arguments // x = argsS (nth (bodyS (nth pw.main.body 26)) 7)} := ⟨_, by conv => (rhs; whnf)⟩
@[reducible] noncomputable def fb26_7 : {x : List Stmt // x = bodyS (nth (bodyS (nth pw.main.body 26)) 7)} := ⟨_, by conv => (rhs; whnf)⟩
@[reducible] noncomputable def fs26_7 : {x : Scope // x = scopeS (nth (bodyS (nth pw.main.body 26)) 7)} := ⟨_, by conv => (rhs; whnf)⟩
@[reducible] noncomputable def fa26_8 : {x : Arguments // x = argsS (nth (bodyS (nth pw.main.body 26)) 8)} := ⟨_, by conv => (rhs; whnf)⟩
@[reducible] noncomputable def fb26_8 : {x : List Stmt // x = bodyS (nth (bodyS (nth pw.main.body 26)) 8)} := ⟨_, by conv => (rhs; whnf)⟩
@[reducible] noncomputable def fs26_8 : {x : Scope // x = scopeS (nth (bodyS (nth pw.main.body 26)) 8)} := ⟨_, by conv => (rhs; whnf)⟩
@[reducible] noncomputable def fa26_9 : {x : Arguments // x = argsS (nth (bodyS (nth pw.main.body 26)) 9)} := ⟨_, by conv => (rhs; whnf)⟩
@[reducible] noncomputable def fb26_9 : {x : List Stmt // x = bodyS (nth (bodyS (nth pw.main.body 26)) 9)} := ⟨_, by conv => (rhs; whnf)⟩
@[reducible] noncomputable def fs26_9 : {x : Scope // x = scopeS (nth (bodyS (nth pw.main.body 26)) 9)} := ⟨_, by conv => (rhs; whnf)⟩
@[reducible] noncomputable def fa26_10 : {x : Arguments // x = argsS (nth (bodyS (nth pw.main.body 26)) 10)} := ⟨_, by conv => (rhs; whnf)⟩
@[reducible] noncomputable def fb26_10 : {x : List Stmt // x = bodyS (nth (bodyS (nth pw.main.body 26)) 10)} := ⟨_, by conv => (rhs; whnf)⟩
@[reducible] noncomputable def fs26_10 : {x : Scope // x = scopeS (nth (bodyS (nth pw.main.body 26)) 10)} := ⟨_, by conv => (rhs; whnf)⟩
@[reducible] noncomputable def fa26_11 : {x : Arguments // x = argsS (nth (bodyS (nth pw.main.body 26)) 11)} := ⟨_, by conv => (rhs; whnf)⟩
@[reducible] noncomputable def fb26_11 : {x : List Stmt // x = bodyS (nth (bodyS (nth pw.main.body 26)) 11)} := ⟨_, by conv => (rhs; whnf)⟩
@[reducible] noncomputable def fs26_11 : {x : Scope // x = scopeS (nth (bodyS (nth pw.main.body 26)) 11)} := ⟨_, by conv => (rhs; whnf)⟩
@[reducible] noncomputable def fa26_12 : {x : Arguments // x = argsS (nth (bodyS (nth pw.main.body 26)) 12)} := ⟨_, by conv => (rhs; whnf)⟩
@[reducible] noncomputable def fb26_12 : {x : List Stmt // x = bodyS (nth (bodyS (nth pw.main.body 26)) 12)} := ⟨_, by conv => (rhs; whnf)⟩
@[reducible] noncomputable def fs26_12 : {x : Scope // x = scopeS (nth (bodyS (nth pw.main.body 26)) 12)} := ⟨_, by conv => (rhs; whnf)⟩
@[reducible] noncomputable def fa26_13 : {x : Arguments // x = argsS (nth (bodyS (nth pw.main.body 26)) 13)} := ⟨_, by conv => (rhs; whnf)⟩
@[reducible] noncomputable def fb26_13 : {x : List Stmt // x = bodyS (nth (bodyS (nth pw.main.body 26)) 13)} := ⟨_, by conv => (rhs; whnf)⟩
@[reducible] noncomputable def fs26_13 : {x : Scope // x = scopeS (nth (bodyS (nth pw.main.body 26)) 13)} := ⟨_, by conv => (rhs; whnf)⟩
@[reducible] noncomputable def fa26_14 : {x : Arguments // x = argsS (nth (bodyS (nth pw.main.body 26)) 14)} := ⟨_, by conv => (rhs; whnf)⟩
@[reducible] noncomputable def fb26_14 : {x : List Stmt // x = bodyS (nth (bodyS (nth pw.main.body 26)) 14)} := ⟨_, by conv => (rhs; whnf)⟩
@[reducible] noncomputable def fs26_14 : {x : Scope // x = scopeS (nth (bodyS (nth pw.main.body 26)) 14)} := ⟨_, by conv => (rhs; whnf)⟩
@[reducible] noncomputable def fa26_15 : {x : Arguments // x = argsS (nth (bodyS (nth pw.main.body 26)) 15)} := ⟨_, by conv => (rhs; whnf)⟩
@[reducible] noncomputable def fb26_15 : {x : List Stmt // x = bodyS (nth (bodyS (nth pw.main.body 26)) 15)} := ⟨_, by conv => (rhs; whnf)⟩
@[reducible] noncomputable def fs26_15 : {x : Scope // x = scopeS (nth (bodyS (nth pw.main.body 26)) 15)} := ⟨_, by conv => (rhs; whnf)⟩
@[reducible] noncomputable def fa28 : {x : Arguments // x = argsS (nth pw.main.body 28)} := ⟨_, by conv => (rhs; whnf)⟩
@[reducible] noncomputable def fb28 : {x : List Stmt // x = bodyS (nth pw.main.body 28)} := ⟨_, by conv => (rhs; whnf)⟩
@[reducible] noncomputable def fs28 : {x : Scope // x = scopeS (nth pw.main.body 28)} := ⟨_, by conv => (rhs; whnf)⟩
@[reducible] noncomputable def fa29 : {x : Arguments // x = argsS (nth pw.main.body 29)} := ⟨_, by conv => (rhs; whnf)⟩
@[reducible] noncomputable def fb29 : {x : List Stmt // x = bodyS (nth pw.main.body 29)} := ⟨_, by conv => (rhs; whnf)⟩
@[reducible] noncomputable def fs29 : {x : Scope // x = scopeS (nth pw.main.body 29)} := ⟨_, by conv => (rhs; whnf)⟩
@[reducible] noncomputable def fa31_0 : {x : Arguments // x = argsS (nth (bodyS (nth pw.main.body 31)) 0)} := ⟨_, by conv => (rhs; whnf)⟩
@[reducible] noncomputable def fb31_0 : {x : List Stmt // x = bodyS (nth (bodyS (nth pw.main.body 31)) 0)} := ⟨_, by conv => (rhs; whnf)⟩
@[reducible] noncomputable def fs31_0 : {x : Scope // x = scopeS (nth (bodyS (nth pw.main.body 31)) 0)} := ⟨_, by conv => (rhs; whnf)⟩
@[reducible] noncomputable def fa31_1 : {x : Arguments // x = argsS (nth (bodyS (nth pw.main.body 31)) 1)} := ⟨_, by conv => (rhs; whnf)⟩
@[reducible] noncomputable def fb31_1 : {x : List Stmt // x = bodyS (nth (bodyS (nth pw.main.body 31)) 1)} := ⟨_, by conv => (rhs; whnf)⟩
@[reducible] noncomputable def fs31_1 : {x : Scope // x = scopeS (nth (bodyS (nth pw.main.body 31)) 1)} := ⟨_, by conv => (rhs; whnf)⟩
@[reducible] noncomputable def fa31_2 : {x : Arguments // x = argsS (nth (bodyS (nth pw.main.body 31)) 2)} := ⟨_, by conv => (rhs; whnf)⟩
@[reducible] noncomputable def fb31_2 : {x : List Stmt // x = bodyS (nth (bodyS (nth pw.main.body 31)) 2)} := ⟨_, by conv => (rhs; whnf)⟩
@[reducible] noncomputable def fs31_2 : {x : Scope // x = scopeS (nth (bodyS (nth pw.main.body 31)) 2)} := ⟨_, by conv => (rhs; whnf)⟩
@[reducible] noncomputable def fa31_3 : {x : Arguments // x = argsS (nth (bodyS (nth pw.main.body 31)) 3)} := ⟨_, by conv => (rhs; whnf)⟩
@[reducible] noncomputable def fb31_3 : {x : List Stmt // x = bodyS (nth (bodyS (nth pw.main.body 31)) 3)} := ⟨_, by conv => (rhs; whnf)⟩
@[reducible] noncomputable def fs31_3 : {x : Scope // x = scopeS (nth (bodyS (nth pw.main.body 31)) 3)} := ⟨_, by conv => (rhs; whnf)⟩
@[reducible] noncomputable def fa31_4 : {x : Arguments // x = argsS (nth (bodyS (nth pw.main.body 31)) 4)} := ⟨_, by conv => (rhs; whnf)⟩
@[reducible] noncomputable def fb31_4 : {x : List Stmt // x = bodyS (nth (bodyS (nth pw.main.body 31)) 4)} := ⟨_, by conv => (rhs; whnf)⟩
@[reducible] noncomputable def fs31_4 : {x : Scope // x = scopeS (nth (bodyS (nth pw.main.body 31)) 4)} := ⟨_, by conv => (rhs; whnf)⟩
@[reducible] noncomputable def fa31_5 : {x : Arguments // x = argsS (nth (bodyS (nth pw.main.body 31)) 5)} := ⟨_, by conv => (rhs; whnf)⟩
@[reducible] noncomputable def fb31_5 : {x : List Stmt // x = bodyS (nth (bodyS (nth pw.main.body 31)) 5)} := ⟨_, by conv => (rhs; whnf)⟩
@[reducible] noncomputable def fs31_5 : {x : Scope // x = scopeS (nth (bodyS (nth pw.main.body 31)) 5)} := ⟨_, by conv => (rhs; whnf)⟩
@[reducible] noncomputable def fa33 : {x : Arguments // x = argsS (nth pw.main.body 33)} := ⟨_, by conv => (rhs; whnf)⟩
@[reducible] noncomputable def fb33 : {x : List Stmt // x = bodyS (nth pw.main.body 33)} := ⟨_, by conv => (rhs; whnf)⟩
@[reducible] noncomputable def fs33 : {x : Scope // x = scopeS (nth pw.main.body 33)} := ⟨_, by conv => (rhs; whnf)⟩
@[reducible] noncomputable def fa34 : {x : Arguments // x = argsS (nth pw.main.body 34)} := ⟨_, by conv => (rhs; whnf)⟩
@[reducible] noncomputable def fb34 : {x : List Stmt // x = bodyS (nth pw.main.body 34)} := ⟨_, by conv => (rhs; whnf)⟩
@[reducible] noncomputable def fs34 : {x : Scope // x = scopeS (nth pw.main.body 34)} := ⟨_, by conv => (rhs; whnf)⟩
noncomputable def envH : Env := { scope := pw.main.scope, locals := mainNs, globals := mainNs, cells := [], code := (.ref 13), frame := some 14 }
noncomputable def cE : Code := Code.body (behindTheImports pw) envH
abbrev qH : Pos := (.mk 0 0 0 0)
abbrev annH : Option Value := (.some (.ref 6))
noncomputable def s0H (P : Params) (os : OsState) : Shared := ⟨boot_heap P, ⟨[]⟩, boot_drawn, boot_toks, os⟩
noncomputable def o11 (P : Params) : Obj := (PySem.Obj.mk (.type "tuple") .none (.seq (List.toArray []) 0) (List.toArray []))
noncomputable def o12 (P : Params) : Obj := (PySem.Obj.mk .none .none (.fields (List.toArray [])) (List.toArray []))
noncomputable def o13 (P : Params) : Obj := (PySem.Obj.mk (.type "code") .none (.fields (List.toArray [(.str (Str.ofString "<module>") 182), (.str (Str.ofString "<module>") 183), (.str (Str.ofString "/claim/cut.py") 184), (.int 1 0), (.int 0 0), (.int 0 0), (.int 0 0), (.int 0 0), (.ref 11), (.bool .false), (.int 181 0), (.ref 12), .none, .none, .none, .none, (.int 185 0), (.int 1 0), (.str (Str.ofString "/claim/cut.py") 186)])) (List.toArray []))
noncomputable def o14 (P : Params) : Obj := (PySem.Obj.mk (.type "frame") .none .plain (List.toArray [(.some (.ref 13)), (.some (.ref 3)), (.some (.ref 3)), .none, (.some (.str (Str.ofString "__main__") 164)), .none, (.some (.ref 0))]))
noncomputable def tA (P : Params) : BT := (.node (boot_o_0 P) (.node (boot_o_1 P) (.node (boot_o_3 P) (lf (boot_o_7 P)) (lf (o11 P))) (.node (boot_o_5 P) (lf (boot_o_9 P)) (lf (o13 P)))) (.node (boot_o_2 P) (.node (boot_o_4 P) (lf (boot_o_8 P)) (lf (o12 P))) (.node (boot_o_6 P) (lf (boot_o_10 P)) (lf (o14 P)))))
noncomputable def tAS (P : Params) (os : OsState) : SharedT := ⟨tA P, 15, (.mk [] [] [] 0 [] [] .false (List.toArray []) [] 0 .false .false .false 0 [2000, 10, 10] .false 0 .true [] [] 0 .false), ⟨[]⟩, (.mk 0 0 0 0), 187, os⟩
theorem preH (w : World) : (fun os => topGo treeTable pw w 11 annH 12 (s0H w.params os) (topStub pw)) = fun os => some ((tAS w.params os).abs, ⟨denote treeTable cE, cE, ((.mk 0 0 0 0) : Pos), [topFrame qH]⟩) := by
  rw [PySem.W.Fast.te15667345088766844465, PySem.W.Fast.te14364793385576792824, PySem.W.Fast.te11892475500146522536]; kernel_rfl!
noncomputable def tB (P : Params) : BT := (.node (boot_o_0 P) (.node (boot_o_1 P) (.node (boot_o_3 P) (lf (boot_o_7 P)) (lf (o11 P))) (.node (boot_o_5 P) (lf (boot_o_9 P)) (lf (o13 P)))) (.node (boot_o_2 P) (.node (boot_o_4 P) (lf (boot_o_8 P)) (lf (o12 P))) (.node (boot_o_6 P) (lf (boot_o_10 P)) (lf (o14 P)))))
noncomputable def tBS (P : Params) (os : OsState) : SharedT := ⟨tB P, 15, (.mk [] [] [] 0 [] [] .false (List.toArray []) [] 0 .false .false .false 0 [2000, 10, 10] .false 0 .true [] [] 0 .false), ⟨[]⟩, (.mk 0 0 0 0), 187, os⟩
theorem blockH (w : World) : (fun os => segRunT treeTable pw w 11 annH 1 1 (tAS w.params os) (blockOf (behindTheImports pw) envH cE ((.mk 0 0 0 0) : Pos) [topFrame qH])) = fun os => some (.next, tBS w.params os, cE, ((.mk 0 0 0 0) : Pos)) := by
  unfold blockOf; rw [PySem.W.Fast.te10110043849684766642, PySem.W.Fast.te14364793385576792824, PySem.W.Fast.te1066825118222455980]; kernel_rfl!
noncomputable def o3 (P : Params) : Obj := (PySem.Obj.mk (.type "dict") .none (.dict (List.toArray [(.mk (PySem.PyData.keyHash P (Str.ofString "__name__")) (.str (Str.ofString "__name__") 165) (.str (Str.ofString "heatnet.exact") 241)), (.mk (PySem.PyData.keyHash P (Str.ofString "__doc__")) (.str (Str.ofString "__doc__") 166) .none), (.mk (PySem.PyData.keyHash P (Str.ofString "__package__")) (.str (Str.ofString "__package__") 167) .none), (.mk (PySem.PyData.keyHash P (Str.ofString "__loader__")) (.str (Str.ofString "__loader__") 168) (.builtin "__main__.__loader__#opaque")), (.mk (PySem.PyData.keyHash P (Str.ofString "__spec__")) (.str (Str.ofString "__spec__") 169) .none), (.mk (PySem.PyData.keyHash P (Str.ofString "__annotations__")) (.str (Str.ofString "__annotations__") 170) (.ref 6)), (.mk (PySem.PyData.keyHash P (Str.ofString "__builtins__")) (.str (Str.ofString "__builtins__") 171) (.ref 4)), (.mk (PySem.PyData.keyHash P (Str.ofString "__file__")) (.str (Str.ofString "__file__") 173) (.str (Str.ofString "/claim/cut.py") 172)), (.mk (PySem.PyData.keyHash P (Str.ofString "__cached__")) (.str (Str.ofString "__cached__") 174) .none), (.mk (PySem.PyData.keyHash P (Str.ofString "_wall")) (.str (Str.ofString "_wall") 193) (.ref 21)), (.mk (PySem.PyData.keyHash P (Str.ofString "HeatError")) (.str (Str.ofString "HeatError") 213) (.ref 31)), (.mk (PySem.PyData.keyHash P (Str.ofString "need_number")) (.str (Str.ofString "need_number") 223) (.ref 41)), (.mk (PySem.PyData.keyHash P (Str.ofString "shown")) (.str (Str.ofString "shown") 230) (.ref 48)), (.mk (PySem.PyData.keyHash P (Str.ofString "need_name")) (.str (Str.ofString "need_name") 240) (.ref 55)), (.mk (PySem.PyData.keyHash P (Str.ofString "FIGURES")) (.str (Str.ofString "FIGURES") 244) (.int 2000 243)), (.mk (PySem.PyData.keyHash P (Str.ofString "MOST")) (.str (Str.ofString "MOST") 247) (.int 100000000000000000000000000000000000000000000000000000000000000000000000000000000000000000000000000000000000000000000000000000000000000000000000000000000000000000000000000000000000000000000000000000000000000000000000000000000000000000000000000000000000000000000000000000000000000000000000000000000000000000000000000000000000000000000000000000000000000000000000000000000000000000000000000000000000000000000000000000000000000000000000000000000000000000000000000000000000000000000000000000000000000000000000000000000000000000000000000000000000000000000000000000000000000000000000000000000000000000000000000000000000000000000000000000000000000000000000000000000000000000000000000000000000000000000000000000000000000000000000000000000000000000000000000000000000000000000000000000000000000000000000000000000000000000000000000000000000000000000000000000000000000000000000000000000000000000000000000000000000000000000000000000000000000000000000000000000000000000000000000000000000000000000000000000000000000000000000000000000000000000000000000000000000000000000000000000000000000000000000000000000000000000000000000000000000000000000000000000000000000000000000000000000000000000000000000000000000000000000000000000000000000000000000000000000000000000000000000000000000000000000000000000000000000000000000000000000000000000000000000000000000000000000000000000000000000000000000000000000000000000000000000000000000000000000000000000000000000000000000000000000000000000000000000000000000000000000000000000000000000000000000000000000000000000000000000000000000000000000000000000000000000000000000000000000000000000000000000000000000000000000000000000000000000000000000000000000000000000000000000000000000000000000000000000000000000000000000000000000000000000000000000000000000000000000000000000000000000000000000000000000000000000000000000000000000000000000000000000000000000000000000000000000000000000000000000000000000000000000000000000000000000000000000000000000000000000000000000000000000000000000000000000000 246)), (.mk (PySem.PyData.keyHash P (Str.ofString "NOUGHT")) (.str (Str.ofString "NOUGHT") 250) (.ref 56)), (.mk (PySem.PyData.keyHash P (Str.ofString "ONE")) (.str (Str.ofString "ONE") 253) (.ref 57)), (.mk (PySem.PyData.keyHash P (Str.ofString "divisor")) (.str (Str.ofString "divisor") 261) (.ref 64))]) 19) (List.toArray []))
noncomputable def o12v1 (P : Params) : Obj := (PySem.Obj.mk .none .none (.fields (List.toArray [(.int 1 0), (.int 0 0), (.ref 20), (.int 5 0), (.int 0 0), (.ref 27), (.int 7 0), (.int 0 0), (.ref 40), (.int 11 0), (.int 0 0), (.ref 47), (.int 17 0), (.int 0 0), (.ref 54), (.int 31 0), (.int 0 0), (.ref 63)])) (List.toArray []))
noncomputable def o15 (P : Params) : Obj := (PySem.Obj.mk (.type "tuple") .none (.seq (List.toArray []) 0) (List.toArray []))
noncomputable def o16 (P : Params) : Obj := (PySem.Obj.mk .none .none (.fields (List.toArray [])) (List.toArray []))
noncomputable def o17 (P : Params) : Obj := (PySem.Obj.mk (.type "tuple") .none (.seq (List.toArray [(.str (Str.ofString "k") 190)]) 0) (List.toArray []))
noncomputable def o18 (P : Params) : Obj := (PySem.Obj.mk (.type "tuple") .none (.seq (List.toArray []) 0) (List.toArray []))
noncomputable def o19 (P : Params) : Obj := (PySem.Obj.mk .none .none (.func (FuncData.mk (Str.ofString "_wall") (Str.ofString "_wall") fa0.1 (.stmts fb0.1) fs0.1 0 [] .none .none .none .none .none .none .none 0)) (List.toArray []))
noncomputable def o20 (P : Params) : Obj := (PySem.Obj.mk (.type "code") .none (.fields (List.toArray [(.str (Str.ofString "_wall") 187), (.str (Str.ofString "_wall") 188), (.str (Str.ofString "/claim/cut.py") 189), (.int 1 0), (.int 1 0), (.int 0 0), (.int 0 0), (.int 3 0), (.ref 15), (.bool .true), (.int 181 0), (.ref 16), .none, (.ref 17), (.ref 18), (.ref 19), (.int 191 0), (.int 1 0), (.str (Str.ofString "/claim/cut.py") 192)])) (List.toArray []))
noncomputable def o21 (P : Params) : Obj := (PySem.Obj.mk (.type "function") .none (.func (FuncData.mk (Str.ofString "_wall") (Str.ofString "_wall") fa0.1 (.stmts fb0.1) fs0.1 3 [] .none .none .none (.str (Str.ofString "__main__") 164) .none (.ref 20) .none 0)) (List.toArray []))
noncomputable def o22 (P : Params) : Obj := (PySem.Obj.mk (.type "tuple") .none (.seq (List.toArray [(.type "ValueError")]) 0) (List.toArray []))
noncomputable def o23 (P : Params) : Obj := (PySem.Obj.mk (.type "builtin_function_or_method") .none (.fields (List.toArray [(.builtin "type.__prepare__"), (.type "type")])) (List.toArray []))
noncomputable def o24 (P : Params) : Obj := (PySem.Obj.mk (.type "dict") .none (.dict (List.toArray [(.mk (PySem.PyData.keyHash P (Str.ofString "__module__")) (.str (Str.ofString "__module__") 203) (.str (Str.ofString "heatnet.errors") 194)), (.mk (PySem.PyData.keyHash P (Str.ofString "__qualname__")) (.str (Str.ofString "__qualname__") 205) (.str (Str.ofString "HeatError") 204)), (.mk (PySem.PyData.keyHash P (Str.ofString "__firstlineno__")) (.str (Str.ofString "__firstlineno__") 207) (.int 5 206)), (.mk (PySem.PyData.keyHash P (Str.ofString "__static_attributes__")) (.str (Str.ofString "__static_attributes__") 208) (.ref 29))]) 4) (List.toArray []))
noncomputable def o25 (P : Params) : Obj := (PySem.Obj.mk (.type "tuple") .none (.seq (List.toArray []) 0) (List.toArray []))
noncomputable def o26 (P : Params) : Obj := (PySem.Obj.mk .none .none (.fields (List.toArray [])) (List.toArray []))
noncomputable def o27 (P : Params) : Obj := (PySem.Obj.mk (.type "code") .none (.fields (List.toArray [(.str (Str.ofString "HeatError") 198), (.str (Str.ofString "HeatError") 199), (.str (Str.ofString "/claim/cut.py") 200), (.int 5 0), (.int 0 0), (.int 0 0), (.int 0 0), (.int 0 0), (.ref 25), (.bool .false), (.int 181 0), (.ref 26), .none, .none, .none, .none, (.int 201 0), (.int 5 0), (.str (Str.ofString "/claim/cut.py") 202)])) (List.toArray []))
noncomputable def o28 (P : Params) : Obj := (PySem.Obj.mk (.type "frame") .none .plain (List.toArray [(.some (.ref 27)), (.some (.ref 3)), (.some (.ref 24)), .none, (.some (.str (Str.ofString "heatnet.errors") 194)), .none, (.some (.ref 0))]))
noncomputable def o29 (P : Params) : Obj := (PySem.Obj.mk (.type "tuple") .none (.seq (List.toArray []) 0) (List.toArray []))
noncomputable def o30 (P : Params) : Obj := (PySem.Obj.mk (.type "dict") .none (.dict (List.toArray [(.mk (PySem.PyData.keyHash P (Str.ofString "__module__")) (.str (Str.ofString "__module__") 203) (.str (Str.ofString "heatnet.errors") 194)), (.mk (PySem.PyData.keyHash P (Str.ofString "__firstlineno__")) (.str (Str.ofString "__firstlineno__") 207) (.int 5 206)), (.mk (PySem.PyData.keyHash P (Str.ofString "__static_attributes__")) (.str (Str.ofString "__static_attributes__") 208) (.ref 29)), (.mk (PySem.PyData.keyHash P (Str.ofString "__weakref__")) (.str (Str.ofString "__weakref__") 210) (.ref 32)), (.mk (PySem.PyData.keyHash P (Str.ofString "__doc__")) (.str (Str.ofString "__doc__") 211) .none)]) 3) (List.toArray []))
noncomputable def o31 (P : Params) : Obj := (PySem.Obj.mk (.type "type") .none (.cls (.mk (Str.ofString "HeatError") [(.type "ValueError")] [(.ref 31), (.type "ValueError"), (.type "Exception"), (.type "BaseException"), (.type "object")] 30 (Str.ofString "HeatError") .true [] [] .false .none .false)) (List.toArray [(.some (.ref 22)), .none, (.some (.str (Str.ofString "HeatError") 196)), (.some (.str (Str.ofString "HeatError") 204)), (.some (.builtin "ValueError.__new__")), (.some (.bool .true))]))
noncomputable def o32 (P : Params) : Obj := (PySem.Obj.mk (.type "getset_descriptor") .none (.fields (List.toArray [(.str (Str.ofString "__weakref__") 209), (.ref 31), (.builtin "ExceptionGroup.__weakref__"), .none])) (List.toArray []))
noncomputable def o33 (P : Params) : Obj := (PySem.Obj.mk (.type "super") .none (.fields (List.toArray [(.ref 31), (.ref 31), (.ref 31)])) (List.toArray []))
noncomputable def o34 (P : Params) : Obj := (PySem.Obj.mk (.type "builtin_function_or_method") .none (.fields (List.toArray [(.builtin "object.__init_subclass__"), (.ref 31)])) (List.toArray []))
noncomputable def o35 (P : Params) : Obj := (PySem.Obj.mk (.type "tuple") .none (.seq (List.toArray []) 0) (List.toArray []))
noncomputable def o36 (P : Params) : Obj := (PySem.Obj.mk .none .none (.fields (List.toArray [])) (List.toArray []))
noncomputable def o37 (P : Params) : Obj := (PySem.Obj.mk (.type "tuple") .none (.seq (List.toArray [(.str (Str.ofString "value") 217), (.str (Str.ofString "least") 218), (.str (Str.ofString "most") 219), (.str (Str.ofString "what") 220)]) 0) (List.toArray []))
noncomputable def o38 (P : Params) : Obj := (PySem.Obj.mk (.type "tuple") .none (.seq (List.toArray []) 0) (List.toArray []))
noncomputable def o39 (P : Params) : Obj := (PySem.Obj.mk .none .none (.func (FuncData.mk (Str.ofString "need_number") (Str.ofString "need_number") fa3.1 (.stmts fb3.1) fs3.1 0 [] .none .none .none .none .none .none .none 0)) (List.toArray []))
noncomputable def o40 (P : Params) : Obj := (PySem.Obj.mk (.type "code") .none (.fields (List.toArray [(.str (Str.ofString "need_number") 214), (.str (Str.ofString "need_number") 215), (.str (Str.ofString "/claim/cut.py") 216), (.int 7 0), (.int 4 0), (.int 0 0), (.int 0 0), (.int 3 0), (.ref 35), (.bool .true), (.int 181 0), (.ref 36), .none, (.ref 37), (.ref 38), (.ref 39), (.int 221 0), (.int 7 0), (.str (Str.ofString "/claim/cut.py") 222)])) (List.toArray []))
noncomputable def o41 (P : Params) : Obj := (PySem.Obj.mk (.type "function") .none (.func (FuncData.mk (Str.ofString "need_number") (Str.ofString "need_number") fa3.1 (.stmts fb3.1) fs3.1 3 [] .none .none .none (.str (Str.ofString "heatnet.errors") 194) .none (.ref 40) .none 0)) (List.toArray []))
noncomputable def o42 (P : Params) : Obj := (PySem.Obj.mk (.type "tuple") .none (.seq (List.toArray []) 0) (List.toArray []))
noncomputable def o43 (P : Params) : Obj := (PySem.Obj.mk .none .none (.fields (List.toArray [])) (List.toArray []))
noncomputable def o44 (P : Params) : Obj := (PySem.Obj.mk (.type "tuple") .none (.seq (List.toArray [(.str (Str.ofString "value") 227)]) 0) (List.toArray []))
noncomputable def o45 (P : Params) : Obj := (PySem.Obj.mk (.type "tuple") .none (.seq (List.toArray []) 0) (List.toArray []))
noncomputable def o46 (P : Params) : Obj := (PySem.Obj.mk .none .none (.func (FuncData.mk (Str.ofString "shown") (Str.ofString "shown") fa4.1 (.stmts fb4.1) fs4.1 0 [] .none .none .none .none .none .none .none 0)) (List.toArray []))
noncomputable def o47 (P : Params) : Obj := (PySem.Obj.mk (.type "code") .none (.fields (List.toArray [(.str (Str.ofString "shown") 224), (.str (Str.ofString "shown") 225), (.str (Str.ofString "/claim/cut.py") 226), (.int 11 0), (.int 1 0), (.int 0 0), (.int 0 0), (.int 3 0), (.ref 42), (.bool .true), (.int 181 0), (.ref 43), .none, (.ref 44), (.ref 45), (.ref 46), (.int 228 0), (.int 11 0), (.str (Str.ofString "/claim/cut.py") 229)])) (List.toArray []))
noncomputable def o48 (P : Params) : Obj := (PySem.Obj.mk (.type "function") .none (.func (FuncData.mk (Str.ofString "shown") (Str.ofString "shown") fa4.1 (.stmts fb4.1) fs4.1 3 [] .none .none .none (.str (Str.ofString "heatnet.errors") 194) .none (.ref 47) .none 0)) (List.toArray []))
noncomputable def o49 (P : Params) : Obj := (PySem.Obj.mk (.type "tuple") .none (.seq (List.toArray []) 0) (List.toArray []))
noncomputable def o50 (P : Params) : Obj := (PySem.Obj.mk .none .none (.fields (List.toArray [])) (List.toArray []))
noncomputable def o51 (P : Params) : Obj := (PySem.Obj.mk (.type "tuple") .none (.seq (List.toArray [(.str (Str.ofString "text") 234), (.str (Str.ofString "k") 235), (.str (Str.ofString "sign") 236), (.str (Str.ofString "letter") 237)]) 0) (List.toArray []))
noncomputable def o52 (P : Params) : Obj := (PySem.Obj.mk (.type "tuple") .none (.seq (List.toArray []) 0) (List.toArray []))
noncomputable def o53 (P : Params) : Obj := (PySem.Obj.mk .none .none (.func (FuncData.mk (Str.ofString "need_name") (Str.ofString "need_name") fa5.1 (.stmts fb5.1) fs5.1 0 [] .none .none .none .none .none .none .none 0)) (List.toArray []))
noncomputable def o54 (P : Params) : Obj := (PySem.Obj.mk (.type "code") .none (.fields (List.toArray [(.str (Str.ofString "need_name") 231), (.str (Str.ofString "need_name") 232), (.str (Str.ofString "/claim/cut.py") 233), (.int 17 0), (.int 1 0), (.int 0 0), (.int 0 0), (.int 3 0), (.ref 49), (.bool .true), (.int 181 0), (.ref 50), .none, (.ref 51), (.ref 52), (.ref 53), (.int 238 0), (.int 17 0), (.str (Str.ofString "/claim/cut.py") 239)])) (List.toArray []))
noncomputable def o55 (P : Params) : Obj := (PySem.Obj.mk (.type "function") .none (.func (FuncData.mk (Str.ofString "need_name") (Str.ofString "need_name") fa5.1 (.stmts fb5.1) fs5.1 3 [] .none .none .none (.str (Str.ofString "heatnet.errors") 194) .none (.ref 54) .none 0)) (List.toArray []))
noncomputable def o56 (P : Params) : Obj := (PySem.Obj.mk (.type "tuple") .none (.seq (List.toArray [(.int 0 248), (.int 1 249)]) 0) (List.toArray []))
noncomputable def o57 (P : Params) : Obj := (PySem.Obj.mk (.type "tuple") .none (.seq (List.toArray [(.int 1 251), (.int 1 252)]) 0) (List.toArray []))
noncomputable def o58 (P : Params) : Obj := (PySem.Obj.mk (.type "tuple") .none (.seq (List.toArray []) 0) (List.toArray []))
noncomputable def o59 (P : Params) : Obj := (PySem.Obj.mk .none .none (.fields (List.toArray [])) (List.toArray []))
noncomputable def o60 (P : Params) : Obj := (PySem.Obj.mk (.type "tuple") .none (.seq (List.toArray [(.str (Str.ofString "a") 257), (.str (Str.ofString "b") 258)]) 0) (List.toArray []))
noncomputable def o61 (P : Params) : Obj := (PySem.Obj.mk (.type "tuple") .none (.seq (List.toArray []) 0) (List.toArray []))
noncomputable def o62 (P : Params) : Obj := (PySem.Obj.mk .none .none (.func (FuncData.mk (Str.ofString "divisor") (Str.ofString "divisor") fa11.1 (.stmts fb11.1) fs11.1 0 [] .none .none .none .none .none .none .none 0)) (List.toArray []))
noncomputable def o63 (P : Params) : Obj := (PySem.Obj.mk (.type "code") .none (.fields (List.toArray [(.str (Str.ofString "divisor") 254), (.str (Str.ofString "divisor") 255), (.str (Str.ofString "/claim/cut.py") 256), (.int 31 0), (.int 2 0), (.int 0 0), (.int 0 0), (.int 3 0), (.ref 58), (.bool .true), (.int 181 0), (.ref 59), .none, (.ref 60), (.ref 61), (.ref 62), (.int 259 0), (.int 31 0), (.str (Str.ofString "/claim/cut.py") 260)])) (List.toArray []))
noncomputable def o64 (P : Params) : Obj := (PySem.Obj.mk (.type "function") .none (.func (FuncData.mk (Str.ofString "divisor") (Str.ofString "divisor") fa11.1 (.stmts fb11.1) fs11.1 3 [] .none .none .none (.str (Str.ofString "heatnet.exact") 241) .none (.ref 63) .none 0)) (List.toArray []))
noncomputable def t0 (P : Params) : BT := (.node (boot_o_0 P) (.node (boot_o_1 P) (.node (o3 P) (.node (boot_o_7 P) (.node (o15 P) (.node (o31 P) (lf (o63 P)) .nil) (lf (o47 P))) (.node (o23 P) (lf (o39 P)) (lf (o55 P)))) (.node (o11 P) (.node (o19 P) (lf (o35 P)) (lf (o51 P))) (.node (o27 P) (lf (o43 P)) (lf (o59 P))))) (.node (boot_o_5 P) (.node (boot_o_9 P) (.node (o17 P) (lf (o33 P)) (lf (o49 P))) (.node (o25 P) (lf (o41 P)) (lf (o57 P)))) (.node (o13 P) (.node (o21 P) (lf (o37 P)) (lf (o53 P))) (.node (o29 P) (lf (o45 P)) (lf (o61 P)))))) (.node (boot_o_2 P) (.node (boot_o_4 P) (.node (boot_o_8 P) (.node (o16 P) (.node (o32 P) (lf (o64 P)) .nil) (lf (o48 P))) (.node (o24 P) (lf (o40 P)) (lf (o56 P)))) (.node (o12v1 P) (.node (o20 P) (lf (o36 P)) (lf (o52 P))) (.node (o28 P) (lf (o44 P)) (lf (o60 P))))) (.node (boot_o_6 P) (.node (boot_o_10 P) (.node (o18 P) (lf (o34 P)) (lf (o50 P))) (.node (o26 P) (lf (o42 P)) (lf (o58 P)))) (.node (o14 P) (.node (o22 P) (lf (o38 P)) (lf (o54 P))) (.node (o30 P) (lf (o46 P)) (lf (o62 P)))))))
noncomputable def t0S (P : Params) (os : OsState) : SharedT := ⟨t0 P, 65, (.mk [] [] [] 0 [] [] .false (List.toArray []) [] 0 .false .false .false 0 [2000, 10, 10] .false 0 .true [] [] 0 .false), ⟨[]⟩, (.mk 0 0 0 0), 262, os⟩
set_option maxRecDepth 100000 in
theorem pc0 (w : World) : (fun os => segRunT treeTable pw w 11 annH 1 406 (tBS (w).params os) (piecesOf (((behindTheImports pw).drop 0).take 12) envH cE ((.mk 0 0 0 0) : Pos) [topFrame qH])) = fun os => some (.next, t0S (w).params os, cE, ((.mk 31 0 36 12) : Pos)) := by
  unfold piecesOf; rw [PySem.W.Fast.te10110043849684766642, PySem.W.Fast.te14364793385576792824, PySem.W.Fast.te12563942051412417395]; kernel_rfl!
noncomputable def o3v1 (P : Params) : Obj := (PySem.Obj.mk (.type "dict") .none (.dict (List.toArray [(.mk (PySem.PyData.keyHash P (Str.ofString "__name__")) (.str (Str.ofString "__name__") 165) (.str (Str.ofString "heatnet.net") 328)), (.mk (PySem.PyData.keyHash P (Str.ofString "__doc__")) (.str (Str.ofString "__doc__") 166) .none), (.mk (PySem.PyData.keyHash P (Str.ofString "__package__")) (.str (Str.ofString "__package__") 167) .none), (.mk (PySem.PyData.keyHash P (Str.ofString "__loader__")) (.str (Str.ofString "__loader__") 168) (.builtin "__main__.__loader__#opaque")), (.mk (PySem.PyData.keyHash P (Str.ofString "__spec__")) (.str (Str.ofString "__spec__") 169) .none), (.mk (PySem.PyData.keyHash P (Str.ofString "__annotations__")) (.str (Str.ofString "__annotations__") 170) (.ref 6)), (.mk (PySem.PyData.keyHash P (Str.ofString "__builtins__")) (.str (Str.ofString "__builtins__") 171) (.ref 4)), (.mk (PySem.PyData.keyHash P (Str.ofString "__file__")) (.str (Str.ofString "__file__") 173) (.str (Str.ofString "/claim/cut.py") 172)), (.mk (PySem.PyData.keyHash P (Str.ofString "__cached__")) (.str (Str.ofString "__cached__") 174) .none), (.mk (PySem.PyData.keyHash P (Str.ofString "_wall")) (.str (Str.ofString "_wall") 193) (.ref 21)), (.mk (PySem.PyData.keyHash P (Str.ofString "HeatError")) (.str (Str.ofString "HeatError") 213) (.ref 31)), (.mk (PySem.PyData.keyHash P (Str.ofString "need_number")) (.str (Str.ofString "need_number") 223) (.ref 41)), (.mk (PySem.PyData.keyHash P (Str.ofString "shown")) (.str (Str.ofString "shown") 230) (.ref 48)), (.mk (PySem.PyData.keyHash P (Str.ofString "need_name")) (.str (Str.ofString "need_name") 240) (.ref 55)), (.mk (PySem.PyData.keyHash P (Str.ofString "FIGURES")) (.str (Str.ofString "FIGURES") 244) (.int 2000 243)), (.mk (PySem.PyData.keyHash P (Str.ofString "MOST")) (.str (Str.ofString "MOST") 247) (.int 100000000000000000000000000000000000000000000000000000000000000000000000000000000000000000000000000000000000000000000000000000000000000000000000000000000000000000000000000000000000000000000000000000000000000000000000000000000000000000000000000000000000000000000000000000000000000000000000000000000000000000000000000000000000000000000000000000000000000000000000000000000000000000000000000000000000000000000000000000000000000000000000000000000000000000000000000000000000000000000000000000000000000000000000000000000000000000000000000000000000000000000000000000000000000000000000000000000000000000000000000000000000000000000000000000000000000000000000000000000000000000000000000000000000000000000000000000000000000000000000000000000000000000000000000000000000000000000000000000000000000000000000000000000000000000000000000000000000000000000000000000000000000000000000000000000000000000000000000000000000000000000000000000000000000000000000000000000000000000000000000000000000000000000000000000000000000000000000000000000000000000000000000000000000000000000000000000000000000000000000000000000000000000000000000000000000000000000000000000000000000000000000000000000000000000000000000000000000000000000000000000000000000000000000000000000000000000000000000000000000000000000000000000000000000000000000000000000000000000000000000000000000000000000000000000000000000000000000000000000000000000000000000000000000000000000000000000000000000000000000000000000000000000000000000000000000000000000000000000000000000000000000000000000000000000000000000000000000000000000000000000000000000000000000000000000000000000000000000000000000000000000000000000000000000000000000000000000000000000000000000000000000000000000000000000000000000000000000000000000000000000000000000000000000000000000000000000000000000000000000000000000000000000000000000000000000000000000000000000000000000000000000000000000000000000000000000000000000000000000000000000000000000000000000000000000000000000000000000000000000000000000000000000000 246)), (.mk (PySem.PyData.keyHash P (Str.ofString "NOUGHT")) (.str (Str.ofString "NOUGHT") 250) (.ref 56)), (.mk (PySem.PyData.keyHash P (Str.ofString "ONE")) (.str (Str.ofString "ONE") 253) (.ref 57)), (.mk (PySem.PyData.keyHash P (Str.ofString "divisor")) (.str (Str.ofString "divisor") 261) (.ref 64)), (.mk (PySem.PyData.keyHash P (Str.ofString "frac")) (.str (Str.ofString "frac") 271) (.ref 72)), (.mk (PySem.PyData.keyHash P (Str.ofString "need")) (.str (Str.ofString "need") 279) (.ref 80)), (.mk (PySem.PyData.keyHash P (Str.ofString "plus")) (.str (Str.ofString "plus") 287) (.ref 87)), (.mk (PySem.PyData.keyHash P (Str.ofString "times")) (.str (Str.ofString "times") 295) (.ref 94)), (.mk (PySem.PyData.keyHash P (Str.ofString "over")) (.str (Str.ofString "over") 303) (.ref 101)), (.mk (PySem.PyData.keyHash P (Str.ofString "less")) (.str (Str.ofString "less") 311) (.ref 108)), (.mk (PySem.PyData.keyHash P (Str.ofString "total")) (.str (Str.ofString "total") 320) (.ref 115)), (.mk (PySem.PyData.keyHash P (Str.ofString "show")) (.str (Str.ofString "show") 327) (.ref 122)), (.mk (PySem.PyData.keyHash P (Str.ofString "JOINTS")) (.str (Str.ofString "JOINTS") 331) (.int 60 330)), (.mk (PySem.PyData.keyHash P (Str.ofString "PIPES")) (.str (Str.ofString "PIPES") 333) (.int 90 332)), (.mk (PySem.PyData.keyHash P (Str.ofString "HOURS")) (.str (Str.ofString "HOURS") 335) (.int 24 334))]) 30) (List.toArray []))
noncomputable def o12v2 (P : Params) : Obj := (PySem.Obj.mk .none .none (.fields (List.toArray ((.int 1 0) :: (.int 0 0) :: (.ref 20) :: (.int 5 0) :: (.int 0 0) :: (.ref 27) :: (.int 7 0) :: (.int 0 0) :: (.ref 40) :: (.int 11 0) :: (.int 0 0) :: (.ref 47) :: (.int 17 0) :: (.int 0 0) :: (.ref 54) :: (.int 31 0) :: (.int 0 0) :: (.ref 63) :: (.int 37 0) :: (.int 0 0) :: (.ref 71) :: (.int 47 0) :: (.int 0 0) :: (.ref 79) :: (.int 53 0) :: (.int 0 0) :: (.ref 86) :: (.int 55 0) :: (.int 0 0) :: (.ref 93) :: (.int 57 0) :: (.int 0 0) :: (.ref 100) :: (.int 61 0) :: (.int 0 0) :: (.ref 107) :: (.int 63 0) :: (.int 0 0) :: (.ref 114) :: (.int 68 0) :: (.int 0 0) :: (.ref 121) :: []))) (List.toArray []))
noncomputable def o65 (P : Params) : Obj := (PySem.Obj.mk (.type "tuple") .none (.seq (List.toArray [(.int 1 262)]) 0) (List.toArray []))
noncomputable def o66 (P : Params) : Obj := (PySem.Obj.mk (.type "tuple") .none (.seq (List.toArray []) 0) (List.toArray []))
noncomputable def o67 (P : Params) : Obj := (PySem.Obj.mk .none .none (.fields (List.toArray [])) (List.toArray []))
noncomputable def o68 (P : Params) : Obj := (PySem.Obj.mk (.type "tuple") .none (.seq (List.toArray [(.str (Str.ofString "upper") 266), (.str (Str.ofString "lower") 267), (.str (Str.ofString "by") 268)]) 0) (List.toArray []))
noncomputable def o69 (P : Params) : Obj := (PySem.Obj.mk (.type "tuple") .none (.seq (List.toArray []) 0) (List.toArray []))
noncomputable def o70 (P : Params) : Obj := (PySem.Obj.mk .none .none (.func (FuncData.mk (Str.ofString "frac") (Str.ofString "frac") fa12.1 (.stmts fb12.1) fs12.1 0 [] .none .none .none .none .none .none .none 0)) (List.toArray []))
noncomputable def o71 (P : Params) : Obj := (PySem.Obj.mk (.type "code") .none (.fields (List.toArray [(.str (Str.ofString "frac") 263), (.str (Str.ofString "frac") 264), (.str (Str.ofString "/claim/cut.py") 265), (.int 37 0), (.int 2 0), (.int 0 0), (.int 0 0), (.int 3 0), (.ref 66), (.bool .true), (.int 181 0), (.ref 67), .none, (.ref 68), (.ref 69), (.ref 70), (.int 269 0), (.int 37 0), (.str (Str.ofString "/claim/cut.py") 270)])) (List.toArray []))
noncomputable def o72 (P : Params) : Obj := (PySem.Obj.mk (.type "function") .none (.func (FuncData.mk (Str.ofString "frac") (Str.ofString "frac") fa12.1 (.stmts fb12.1) fs12.1 3 [] (.ref 65) .none .none (.str (Str.ofString "heatnet.exact") 241) .none (.ref 71) .none 0)) (List.toArray []))
noncomputable def o73 (P : Params) : Obj := (PySem.Obj.mk (.type "tuple") .none (.seq (List.toArray [.none]) 0) (List.toArray []))
noncomputable def o74 (P : Params) : Obj := (PySem.Obj.mk (.type "tuple") .none (.seq (List.toArray []) 0) (List.toArray []))
noncomputable def o75 (P : Params) : Obj := (PySem.Obj.mk .none .none (.fields (List.toArray [])) (List.toArray []))
noncomputable def o76 (P : Params) : Obj := (PySem.Obj.mk (.type "tuple") .none (.seq (List.toArray [(.str (Str.ofString "a") 275), (.str (Str.ofString "least") 276)]) 0) (List.toArray []))
noncomputable def o77 (P : Params) : Obj := (PySem.Obj.mk (.type "tuple") .none (.seq (List.toArray []) 0) (List.toArray []))
noncomputable def o78 (P : Params) : Obj := (PySem.Obj.mk .none .none (.func (FuncData.mk (Str.ofString "need") (Str.ofString "need") fa13.1 (.stmts fb13.1) fs13.1 0 [] .none .none .none .none .none .none .none 0)) (List.toArray []))
noncomputable def o79 (P : Params) : Obj := (PySem.Obj.mk (.type "code") .none (.fields (List.toArray [(.str (Str.ofString "need") 272), (.str (Str.ofString "need") 273), (.str (Str.ofString "/claim/cut.py") 274), (.int 47 0), (.int 2 0), (.int 0 0), (.int 0 0), (.int 3 0), (.ref 74), (.bool .true), (.int 181 0), (.ref 75), .none, (.ref 76), (.ref 77), (.ref 78), (.int 277 0), (.int 47 0), (.str (Str.ofString "/claim/cut.py") 278)])) (List.toArray []))
noncomputable def o80 (P : Params) : Obj := (PySem.Obj.mk (.type "function") .none (.func (FuncData.mk (Str.ofString "need") (Str.ofString "need") fa13.1 (.stmts fb13.1) fs13.1 3 [] (.ref 73) .none .none (.str (Str.ofString "heatnet.exact") 241) .none (.ref 79) .none 0)) (List.toArray []))
noncomputable def o81 (P : Params) : Obj := (PySem.Obj.mk (.type "tuple") .none (.seq (List.toArray []) 0) (List.toArray []))
noncomputable def o82 (P : Params) : Obj := (PySem.Obj.mk .none .none (.fields (List.toArray [])) (List.toArray []))
noncomputable def o83 (P : Params) : Obj := (PySem.Obj.mk (.type "tuple") .none (.seq (List.toArray [(.str (Str.ofString "a") 283), (.str (Str.ofString "b") 284)]) 0) (List.toArray []))
noncomputable def o84 (P : Params) : Obj := (PySem.Obj.mk (.type "tuple") .none (.seq (List.toArray []) 0) (List.toArray []))
noncomputable def o85 (P : Params) : Obj := (PySem.Obj.mk .none .none (.func (FuncData.mk (Str.ofString "plus") (Str.ofString "plus") fa14.1 (.stmts fb14.1) fs14.1 0 [] .none .none .none .none .none .none .none 0)) (List.toArray []))
noncomputable def o86 (P : Params) : Obj := (PySem.Obj.mk (.type "code") .none (.fields (List.toArray [(.str (Str.ofString "plus") 280), (.str (Str.ofString "plus") 281), (.str (Str.ofString "/claim/cut.py") 282), (.int 53 0), (.int 2 0), (.int 0 0), (.int 0 0), (.int 3 0), (.ref 81), (.bool .true), (.int 181 0), (.ref 82), .none, (.ref 83), (.ref 84), (.ref 85), (.int 285 0), (.int 53 0), (.str (Str.ofString "/claim/cut.py") 286)])) (List.toArray []))
noncomputable def o87 (P : Params) : Obj := (PySem.Obj.mk (.type "function") .none (.func (FuncData.mk (Str.ofString "plus") (Str.ofString "plus") fa14.1 (.stmts fb14.1) fs14.1 3 [] .none .none .none (.str (Str.ofString "heatnet.exact") 241) .none (.ref 86) .none 0)) (List.toArray []))
noncomputable def o88 (P : Params) : Obj := (PySem.Obj.mk (.type "tuple") .none (.seq (List.toArray []) 0) (List.toArray []))
noncomputable def o89 (P : Params) : Obj := (PySem.Obj.mk .none .none (.fields (List.toArray [])) (List.toArray []))
noncomputable def o90 (P : Params) : Obj := (PySem.Obj.mk (.type "tuple") .none (.seq (List.toArray [(.str (Str.ofString "a") 291), (.str (Str.ofString "b") 292)]) 0) (List.toArray []))
noncomputable def o91 (P : Params) : Obj := (PySem.Obj.mk (.type "tuple") .none (.seq (List.toArray []) 0) (List.toArray []))
noncomputable def o92 (P : Params) : Obj := (PySem.Obj.mk .none .none (.func (FuncData.mk (Str.ofString "times") (Str.ofString "times") fa15.1 (.stmts fb15.1) fs15.1 0 [] .none .none .none .none .none .none .none 0)) (List.toArray []))
noncomputable def o93 (P : Params) : Obj := (PySem.Obj.mk (.type "code") .none (.fields (List.toArray [(.str (Str.ofString "times") 288), (.str (Str.ofString "times") 289), (.str (Str.ofString "/claim/cut.py") 290), (.int 55 0), (.int 2 0), (.int 0 0), (.int 0 0), (.int 3 0), (.ref 88), (.bool .true), (.int 181 0), (.ref 89), .none, (.ref 90), (.ref 91), (.ref 92), (.int 293 0), (.int 55 0), (.str (Str.ofString "/claim/cut.py") 294)])) (List.toArray []))
noncomputable def o94 (P : Params) : Obj := (PySem.Obj.mk (.type "function") .none (.func (FuncData.mk (Str.ofString "times") (Str.ofString "times") fa15.1 (.stmts fb15.1) fs15.1 3 [] .none .none .none (.str (Str.ofString "heatnet.exact") 241) .none (.ref 93) .none 0)) (List.toArray []))
noncomputable def o95 (P : Params) : Obj := (PySem.Obj.mk (.type "tuple") .none (.seq (List.toArray []) 0) (List.toArray []))
noncomputable def o96 (P : Params) : Obj := (PySem.Obj.mk .none .none (.fields (List.toArray [])) (List.toArray []))
noncomputable def o97 (P : Params) : Obj := (PySem.Obj.mk (.type "tuple") .none (.seq (List.toArray [(.str (Str.ofString "a") 299), (.str (Str.ofString "b") 300)]) 0) (List.toArray []))
noncomputable def o98 (P : Params) : Obj := (PySem.Obj.mk (.type "tuple") .none (.seq (List.toArray []) 0) (List.toArray []))
noncomputable def o99 (P : Params) : Obj := (PySem.Obj.mk .none .none (.func (FuncData.mk (Str.ofString "over") (Str.ofString "over") fa16.1 (.stmts fb16.1) fs16.1 0 [] .none .none .none .none .none .none .none 0)) (List.toArray []))
noncomputable def o100 (P : Params) : Obj := (PySem.Obj.mk (.type "code") .none (.fields (List.toArray [(.str (Str.ofString "over") 296), (.str (Str.ofString "over") 297), (.str (Str.ofString "/claim/cut.py") 298), (.int 57 0), (.int 2 0), (.int 0 0), (.int 0 0), (.int 3 0), (.ref 95), (.bool .true), (.int 181 0), (.ref 96), .none, (.ref 97), (.ref 98), (.ref 99), (.int 301 0), (.int 57 0), (.str (Str.ofString "/claim/cut.py") 302)])) (List.toArray []))
noncomputable def o101 (P : Params) : Obj := (PySem.Obj.mk (.type "function") .none (.func (FuncData.mk (Str.ofString "over") (Str.ofString "over") fa16.1 (.stmts fb16.1) fs16.1 3 [] .none .none .none (.str (Str.ofString "heatnet.exact") 241) .none (.ref 100) .none 0)) (List.toArray []))
noncomputable def o102 (P : Params) : Obj := (PySem.Obj.mk (.type "tuple") .none (.seq (List.toArray []) 0) (List.toArray []))
noncomputable def o103 (P : Params) : Obj := (PySem.Obj.mk .none .none (.fields (List.toArray [])) (List.toArray []))
noncomputable def o104 (P : Params) : Obj := (PySem.Obj.mk (.type "tuple") .none (.seq (List.toArray [(.str (Str.ofString "a") 307), (.str (Str.ofString "b") 308)]) 0) (List.toArray []))
noncomputable def o105 (P : Params) : Obj := (PySem.Obj.mk (.type "tuple") .none (.seq (List.toArray []) 0) (List.toArray []))
noncomputable def o106 (P : Params) : Obj := (PySem.Obj.mk .none .none (.func (FuncData.mk (Str.ofString "less") (Str.ofString "less") fa17.1 (.stmts fb17.1) fs17.1 0 [] .none .none .none .none .none .none .none 0)) (List.toArray []))
noncomputable def o107 (P : Params) : Obj := (PySem.Obj.mk (.type "code") .none (.fields (List.toArray [(.str (Str.ofString "less") 304), (.str (Str.ofString "less") 305), (.str (Str.ofString "/claim/cut.py") 306), (.int 61 0), (.int 2 0), (.int 0 0), (.int 0 0), (.int 3 0), (.ref 102), (.bool .true), (.int 181 0), (.ref 103), .none, (.ref 104), (.ref 105), (.ref 106), (.int 309 0), (.int 61 0), (.str (Str.ofString "/claim/cut.py") 310)])) (List.toArray []))
noncomputable def o108 (P : Params) : Obj := (PySem.Obj.mk (.type "function") .none (.func (FuncData.mk (Str.ofString "less") (Str.ofString "less") fa17.1 (.stmts fb17.1) fs17.1 3 [] .none .none .none (.str (Str.ofString "heatnet.exact") 241) .none (.ref 107) .none 0)) (List.toArray []))
noncomputable def o109 (P : Params) : Obj := (PySem.Obj.mk (.type "tuple") .none (.seq (List.toArray []) 0) (List.toArray []))
noncomputable def o110 (P : Params) : Obj := (PySem.Obj.mk .none .none (.fields (List.toArray [])) (List.toArray []))
noncomputable def o111 (P : Params) : Obj := (PySem.Obj.mk (.type "tuple") .none (.seq (List.toArray [(.str (Str.ofString "row") 315), (.str (Str.ofString "out") 316), (.str (Str.ofString "one") 317)]) 0) (List.toArray []))
noncomputable def o112 (P : Params) : Obj := (PySem.Obj.mk (.type "tuple") .none (.seq (List.toArray []) 0) (List.toArray []))
noncomputable def o113 (P : Params) : Obj := (PySem.Obj.mk .none .none (.func (FuncData.mk (Str.ofString "total") (Str.ofString "total") fa18.1 (.stmts fb18.1) fs18.1 0 [] .none .none .none .none .none .none .none 0)) (List.toArray []))
noncomputable def o114 (P : Params) : Obj := (PySem.Obj.mk (.type "code") .none (.fields (List.toArray [(.str (Str.ofString "total") 312), (.str (Str.ofString "total") 313), (.str (Str.ofString "/claim/cut.py") 314), (.int 63 0), (.int 1 0), (.int 0 0), (.int 0 0), (.int 3 0), (.ref 109), (.bool .true), (.int 181 0), (.ref 110), .none, (.ref 111), (.ref 112), (.ref 113), (.int 318 0), (.int 63 0), (.str (Str.ofString "/claim/cut.py") 319)])) (List.toArray []))
noncomputable def o115 (P : Params) : Obj := (PySem.Obj.mk (.type "function") .none (.func (FuncData.mk (Str.ofString "total") (Str.ofString "total") fa18.1 (.stmts fb18.1) fs18.1 3 [] .none .none .none (.str (Str.ofString "heatnet.exact") 241) .none (.ref 114) .none 0)) (List.toArray []))
noncomputable def o116 (P : Params) : Obj := (PySem.Obj.mk (.type "tuple") .none (.seq (List.toArray []) 0) (List.toArray []))
noncomputable def o117 (P : Params) : Obj := (PySem.Obj.mk .none .none (.fields (List.toArray [])) (List.toArray []))
noncomputable def o118 (P : Params) : Obj := (PySem.Obj.mk (.type "tuple") .none (.seq (List.toArray [(.str (Str.ofString "a") 324)]) 0) (List.toArray []))
noncomputable def o119 (P : Params) : Obj := (PySem.Obj.mk (.type "tuple") .none (.seq (List.toArray []) 0) (List.toArray []))
noncomputable def o120 (P : Params) : Obj := (PySem.Obj.mk .none .none (.func (FuncData.mk (Str.ofString "show") (Str.ofString "show") fa19.1 (.stmts fb19.1) fs19.1 0 [] .none .none .none .none .none .none .none 0)) (List.toArray []))
noncomputable def o121 (P : Params) : Obj := (PySem.Obj.mk (.type "code") .none (.fields (List.toArray [(.str (Str.ofString "show") 321), (.str (Str.ofString "show") 322), (.str (Str.ofString "/claim/cut.py") 323), (.int 68 0), (.int 1 0), (.int 0 0), (.int 0 0), (.int 3 0), (.ref 116), (.bool .true), (.int 181 0), (.ref 117), .none, (.ref 118), (.ref 119), (.ref 120), (.int 325 0), (.int 68 0), (.str (Str.ofString "/claim/cut.py") 326)])) (List.toArray []))
noncomputable def o122 (P : Params) : Obj := (PySem.Obj.mk (.type "function") .none (.func (FuncData.mk (Str.ofString "show") (Str.ofString "show") fa19.1 (.stmts fb19.1) fs19.1 3 [] .none .none .none (.str (Str.ofString "heatnet.exact") 241) .none (.ref 121) .none 0)) (List.toArray []))
noncomputable def t1 (P : Params) : BT := (.node (boot_o_0 P) (.node (boot_o_1 P) (.node (o3v1 P) (.node (boot_o_7 P) (.node (o15 P) (.node (o31 P) (lf (o63 P)) (lf (o95 P))) (.node (o47 P) (lf (o79 P)) (lf (o111 P)))) (.node (o23 P) (.node (o39 P) (lf (o71 P)) (lf (o103 P))) (.node (o55 P) (lf (o87 P)) (lf (o119 P))))) (.node (o11 P) (.node (o19 P) (.node (o35 P) (lf (o67 P)) (lf (o99 P))) (.node (o51 P) (lf (o83 P)) (lf (o115 P)))) (.node (o27 P) (.node (o43 P) (lf (o75 P)) (lf (o107 P))) (.node (o59 P) (lf (o91 P)) .nil)))) (.node (boot_o_5 P) (.node (boot_o_9 P) (.node (o17 P) (.node (o33 P) (lf (o65 P)) (lf (o97 P))) (.node (o49 P) (lf (o81 P)) (lf (o113 P)))) (.node (o25 P) (.node (o41 P) (lf (o73 P)) (lf (o105 P))) (.node (o57 P) (lf (o89 P)) (lf (o121 P))))) (.node (o13 P) (.node (o21 P) (.node (o37 P) (lf (o69 P)) (lf (o101 P))) (.node (o53 P) (lf (o85 P)) (lf (o117 P)))) (.node (o29 P) (.node (o45 P) (lf (o77 P)) (lf (o109 P))) (.node (o61 P) (lf (o93 P)) .nil))))) (.node (boot_o_2 P) (.node (boot_o_4 P) (.node (boot_o_8 P) (.node (o16 P) (.node (o32 P) (lf (o64 P)) (lf (o96 P))) (.node (o48 P) (lf (o80 P)) (lf (o112 P)))) (.node (o24 P) (.node (o40 P) (lf (o72 P)) (lf (o104 P))) (.node (o56 P) (lf (o88 P)) (lf (o120 P))))) (.node (o12v2 P) (.node (o20 P) (.node (o36 P) (lf (o68 P)) (lf (o100 P))) (.node (o52 P) (lf (o84 P)) (lf (o116 P)))) (.node (o28 P) (.node (o44 P) (lf (o76 P)) (lf (o108 P))) (.node (o60 P) (lf (o92 P)) .nil)))) (.node (boot_o_6 P) (.node (boot_o_10 P) (.node (o18 P) (.node (o34 P) (lf (o66 P)) (lf (o98 P))) (.node (o50 P) (lf (o82 P)) (lf (o114 P)))) (.node (o26 P) (.node (o42 P) (lf (o74 P)) (lf (o106 P))) (.node (o58 P) (lf (o90 P)) (lf (o122 P))))) (.node (o14 P) (.node (o22 P) (.node (o38 P) (lf (o70 P)) (lf (o102 P))) (.node (o54 P) (lf (o86 P)) (lf (o118 P)))) (.node (o30 P) (.node (o46 P) (lf (o78 P)) (lf (o110 P))) (.node (o62 P) (lf (o94 P)) .nil))))))
noncomputable def t1S (P : Params) (os : OsState) : SharedT := ⟨t1 P, 123, (.mk [] [] [] 0 [] [] .false (List.toArray []) [] 0 .false .false .false 0 [2000, 10, 10] .false 0 .true [] [] 0 .false), ⟨[]⟩, (.mk 0 0 0 0), 336, os⟩
set_option maxRecDepth 100000 in
theorem pc1 (w : World) : (fun os => segRunT treeTable pw w 11 annH 1 281 (t0S (w).params os) (piecesOf (((behindTheImports pw).drop 12).take 12) envH cE ((.mk 31 0 36 12) : Pos) [topFrame qH])) = fun os => some (.next, t1S (w).params os, cE, ((.mk 73 0 73 5) : Pos)) := by
  unfold piecesOf; rw [PySem.W.Fast.te10110043849684766642, PySem.W.Fast.te14364793385576792824, PySem.W.Fast.te12563942051412417395]; kernel_rfl!
noncomputable def o3v2 (P : Params) : Obj := (PySem.Obj.mk (.type "dict") .none (.dict (List.toArray [(.mk (PySem.PyData.keyHash P (Str.ofString "__name__")) (.str (Str.ofString "__name__") 165) (.str (Str.ofString "heatnet.net") 328)), (.mk (PySem.PyData.keyHash P (Str.ofString "__doc__")) (.str (Str.ofString "__doc__") 166) .none), (.mk (PySem.PyData.keyHash P (Str.ofString "__package__")) (.str (Str.ofString "__package__") 167) .none), (.mk (PySem.PyData.keyHash P (Str.ofString "__loader__")) (.str (Str.ofString "__loader__") 168) (.builtin "__main__.__loader__#opaque")), (.mk (PySem.PyData.keyHash P (Str.ofString "__spec__")) (.str (Str.ofString "__spec__") 169) .none), (.mk (PySem.PyData.keyHash P (Str.ofString "__annotations__")) (.str (Str.ofString "__annotations__") 170) (.ref 6)), (.mk (PySem.PyData.keyHash P (Str.ofString "__builtins__")) (.str (Str.ofString "__builtins__") 171) (.ref 4)), (.mk (PySem.PyData.keyHash P (Str.ofString "__file__")) (.str (Str.ofString "__file__") 173) (.str (Str.ofString "/claim/cut.py") 172)), (.mk (PySem.PyData.keyHash P (Str.ofString "__cached__")) (.str (Str.ofString "__cached__") 174) .none), (.mk (PySem.PyData.keyHash P (Str.ofString "_wall")) (.str (Str.ofString "_wall") 193) (.ref 21)), (.mk (PySem.PyData.keyHash P (Str.ofString "HeatError")) (.str (Str.ofString "HeatError") 213) (.ref 31)), (.mk (PySem.PyData.keyHash P (Str.ofString "need_number")) (.str (Str.ofString "need_number") 223) (.ref 41)), (.mk (PySem.PyData.keyHash P (Str.ofString "shown")) (.str (Str.ofString "shown") 230) (.ref 48)), (.mk (PySem.PyData.keyHash P (Str.ofString "need_name")) (.str (Str.ofString "need_name") 240) (.ref 55)), (.mk (PySem.PyData.keyHash P (Str.ofString "FIGURES")) (.str (Str.ofString "FIGURES") 244) (.int 2000 243)), (.mk (PySem.PyData.keyHash P (Str.ofString "MOST")) (.str (Str.ofString "MOST") 247) (.int 100000000000000000000000000000000000000000000000000000000000000000000000000000000000000000000000000000000000000000000000000000000000000000000000000000000000000000000000000000000000000000000000000000000000000000000000000000000000000000000000000000000000000000000000000000000000000000000000000000000000000000000000000000000000000000000000000000000000000000000000000000000000000000000000000000000000000000000000000000000000000000000000000000000000000000000000000000000000000000000000000000000000000000000000000000000000000000000000000000000000000000000000000000000000000000000000000000000000000000000000000000000000000000000000000000000000000000000000000000000000000000000000000000000000000000000000000000000000000000000000000000000000000000000000000000000000000000000000000000000000000000000000000000000000000000000000000000000000000000000000000000000000000000000000000000000000000000000000000000000000000000000000000000000000000000000000000000000000000000000000000000000000000000000000000000000000000000000000000000000000000000000000000000000000000000000000000000000000000000000000000000000000000000000000000000000000000000000000000000000000000000000000000000000000000000000000000000000000000000000000000000000000000000000000000000000000000000000000000000000000000000000000000000000000000000000000000000000000000000000000000000000000000000000000000000000000000000000000000000000000000000000000000000000000000000000000000000000000000000000000000000000000000000000000000000000000000000000000000000000000000000000000000000000000000000000000000000000000000000000000000000000000000000000000000000000000000000000000000000000000000000000000000000000000000000000000000000000000000000000000000000000000000000000000000000000000000000000000000000000000000000000000000000000000000000000000000000000000000000000000000000000000000000000000000000000000000000000000000000000000000000000000000000000000000000000000000000000000000000000000000000000000000000000000000000000000000000000000000000000000000000000000000000000 246)), (.mk (PySem.PyData.keyHash P (Str.ofString "NOUGHT")) (.str (Str.ofString "NOUGHT") 250) (.ref 56)), (.mk (PySem.PyData.keyHash P (Str.ofString "ONE")) (.str (Str.ofString "ONE") 253) (.ref 57)), (.mk (PySem.PyData.keyHash P (Str.ofString "divisor")) (.str (Str.ofString "divisor") 261) (.ref 64)), (.mk (PySem.PyData.keyHash P (Str.ofString "frac")) (.str (Str.ofString "frac") 271) (.ref 72)), (.mk (PySem.PyData.keyHash P (Str.ofString "need")) (.str (Str.ofString "need") 279) (.ref 80)), (.mk (PySem.PyData.keyHash P (Str.ofString "plus")) (.str (Str.ofString "plus") 287) (.ref 87)), (.mk (PySem.PyData.keyHash P (Str.ofString "times")) (.str (Str.ofString "times") 295) (.ref 94)), (.mk (PySem.PyData.keyHash P (Str.ofString "over")) (.str (Str.ofString "over") 303) (.ref 101)), (.mk (PySem.PyData.keyHash P (Str.ofString "less")) (.str (Str.ofString "less") 311) (.ref 108)), (.mk (PySem.PyData.keyHash P (Str.ofString "total")) (.str (Str.ofString "total") 320) (.ref 115)), (.mk (PySem.PyData.keyHash P (Str.ofString "show")) (.str (Str.ofString "show") 327) (.ref 122)), (.mk (PySem.PyData.keyHash P (Str.ofString "JOINTS")) (.str (Str.ofString "JOINTS") 331) (.int 60 330)), (.mk (PySem.PyData.keyHash P (Str.ofString "PIPES")) (.str (Str.ofString "PIPES") 333) (.int 90 332)), (.mk (PySem.PyData.keyHash P (Str.ofString "HOURS")) (.str (Str.ofString "HOURS") 335) (.int 24 334)), (.mk (PySem.PyData.keyHash P (Str.ofString "Pipe")) (.str (Str.ofString "Pipe") 377) (.ref 139))]) 31) (List.toArray []))
noncomputable def o12v3 (P : Params) : Obj := (PySem.Obj.mk .none .none (.fields (List.toArray ((.int 1 0) :: (.int 0 0) :: (.ref 20) :: (.int 5 0) :: (.int 0 0) :: (.ref 27) :: (.int 7 0) :: (.int 0 0) :: (.ref 40) :: (.int 11 0) :: (.int 0 0) :: (.ref 47) :: (.int 17 0) :: (.int 0 0) :: (.ref 54) :: (.int 31 0) :: (.int 0 0) :: (.ref 63) :: (.int 37 0) :: (.int 0 0) :: (.ref 71) :: (.int 47 0) :: (.int 0 0) :: (.ref 79) :: (.int 53 0) :: (.int 0 0) :: (.ref 86) :: (.int 55 0) :: (.int 0 0) :: (.ref 93) :: (.int 57 0) :: (.int 0 0) :: (.ref 100) :: (.int 61 0) :: (.int 0 0) :: (.ref 107) :: (.int 63 0) :: (.int 0 0) :: (.ref 114) :: (.int 68 0) :: (.int 0 0) :: (.ref 121) :: (.int 74 0) :: (.int 0 0) :: (.ref 128) :: []))) (List.toArray []))
noncomputable def o123 (P : Params) : Obj := (PySem.Obj.mk (.type "tuple") .none (.seq (List.toArray []) 0) (List.toArray []))
noncomputable def o124 (P : Params) : Obj := (PySem.Obj.mk (.type "builtin_function_or_method") .none (.fields (List.toArray [(.builtin "type.__prepare__"), (.type "type")])) (List.toArray []))
noncomputable def o125 (P : Params) : Obj := (PySem.Obj.mk (.type "dict") .none (.dict (List.toArray [(.mk (PySem.PyData.keyHash P (Str.ofString "__module__")) (.str (Str.ofString "__module__") 343) (.str (Str.ofString "heatnet.net") 328)), (.mk (PySem.PyData.keyHash P (Str.ofString "__qualname__")) (.str (Str.ofString "__qualname__") 345) (.str (Str.ofString "Pipe") 344)), (.mk (PySem.PyData.keyHash P (Str.ofString "__firstlineno__")) (.str (Str.ofString "__firstlineno__") 347) (.int 74 346)), (.mk (PySem.PyData.keyHash P (Str.ofString "__init__")) (.str (Str.ofString "__init__") 361) (.ref 136)), (.mk (PySem.PyData.keyHash P (Str.ofString "__static_attributes__")) (.str (Str.ofString "__static_attributes__") 370) (.ref 137))]) 5) (List.toArray []))
noncomputable def o126 (P : Params) : Obj := (PySem.Obj.mk (.type "tuple") .none (.seq (List.toArray []) 0) (List.toArray []))
noncomputable def o127 (P : Params) : Obj := (PySem.Obj.mk .none .none (.fields (List.toArray [(.int 76 0), (.int 4 0), (.ref 135)])) (List.toArray []))
noncomputable def o128 (P : Params) : Obj := (PySem.Obj.mk (.type "code") .none (.fields (List.toArray [(.str (Str.ofString "Pipe") 338), (.str (Str.ofString "Pipe") 339), (.str (Str.ofString "/claim/cut.py") 340), (.int 74 0), (.int 0 0), (.int 0 0), (.int 0 0), (.int 0 0), (.ref 126), (.bool .false), (.int 181 0), (.ref 127), .none, .none, .none, .none, (.int 341 0), (.int 74 0), (.str (Str.ofString "/claim/cut.py") 342)])) (List.toArray []))
noncomputable def o129 (P : Params) : Obj := (PySem.Obj.mk (.type "frame") .none .plain (List.toArray [(.some (.ref 128)), (.some (.ref 3)), (.some (.ref 125)), .none, (.some (.str (Str.ofString "heatnet.net") 328)), .none, (.some (.ref 0))]))
noncomputable def o130 (P : Params) : Obj := (PySem.Obj.mk (.type "tuple") .none (.seq (List.toArray []) 0) (List.toArray []))
noncomputable def o131 (P : Params) : Obj := (PySem.Obj.mk .none .none (.fields (List.toArray [])) (List.toArray []))
noncomputable def o132 (P : Params) : Obj := (PySem.Obj.mk (.type "tuple") .none (.seq (List.toArray [(.str (Str.ofString "self") 351), (.str (Str.ofString "name") 352), (.str (Str.ofString "start") 353), (.str (Str.ofString "end") 354), (.str (Str.ofString "length") 355), (.str (Str.ofString "resistance") 356), (.str (Str.ofString "loss") 357), (.str (Str.ofString "litres") 358)]) 0) (List.toArray []))
noncomputable def o133 (P : Params) : Obj := (PySem.Obj.mk (.type "tuple") .none (.seq (List.toArray []) 0) (List.toArray []))
noncomputable def o134 (P : Params) : Obj := (PySem.Obj.mk .none .none (.func (FuncData.mk (Str.ofString "__init__") (Str.ofString "Pipe.__init__") fa24_0.1 (.stmts fb24_0.1) fs24_0.1 0 [] .none .none .none .none .none .none .none 0)) (List.toArray []))
noncomputable def o135 (P : Params) : Obj := (PySem.Obj.mk (.type "code") .none (.fields (List.toArray [(.str (Str.ofString "__init__") 348), (.str (Str.ofString "Pipe.__init__") 349), (.str (Str.ofString "/claim/cut.py") 350), (.int 76 0), (.int 8 0), (.int 0 0), (.int 0 0), (.int 3 0), (.ref 130), (.bool .true), (.int 181 0), (.ref 131), .none, (.ref 132), (.ref 133), (.ref 134), (.int 359 0), (.int 76 0), (.str (Str.ofString "/claim/cut.py") 360)])) (List.toArray []))
noncomputable def o136 (P : Params) : Obj := (PySem.Obj.mk (.type "function") .none (.func (FuncData.mk (Str.ofString "__init__") (Str.ofString "Pipe.__init__") fa24_0.1 (.stmts fb24_0.1) fs24_0.1 3 [] .none .none .none (.str (Str.ofString "heatnet.net") 328) .none (.ref 135) .none 0)) (List.toArray []))
noncomputable def o137 (P : Params) : Obj := (PySem.Obj.mk (.type "tuple") .none (.seq (List.toArray [(.str (Str.ofString "end") 362), (.str (Str.ofString "length") 363), (.str (Str.ofString "litres") 364), (.str (Str.ofString "loss") 365), (.str (Str.ofString "name") 366), (.str (Str.ofString "open") 367), (.str (Str.ofString "resistance") 368), (.str (Str.ofString "start") 369)]) 0) (List.toArray []))
noncomputable def o138 (P : Params) : Obj := (PySem.Obj.mk (.type "dict") .none (.dict (List.toArray [(.mk (PySem.PyData.keyHash P (Str.ofString "__module__")) (.str (Str.ofString "__module__") 343) (.str (Str.ofString "heatnet.net") 328)), (.mk (PySem.PyData.keyHash P (Str.ofString "__firstlineno__")) (.str (Str.ofString "__firstlineno__") 347) (.int 74 346)), (.mk (PySem.PyData.keyHash P (Str.ofString "__init__")) (.str (Str.ofString "__init__") 361) (.ref 136)), (.mk (PySem.PyData.keyHash P (Str.ofString "__static_attributes__")) (.str (Str.ofString "__static_attributes__") 370) (.ref 137)), (.mk (PySem.PyData.keyHash P (Str.ofString "__dict__")) (.str (Str.ofString "__dict__") 372) (.ref 140)), (.mk (PySem.PyData.keyHash P (Str.ofString "__weakref__")) (.str (Str.ofString "__weakref__") 374) (.ref 141)), (.mk (PySem.PyData.keyHash P (Str.ofString "__doc__")) (.str (Str.ofString "__doc__") 375) .none)]) 4) (List.toArray []))
noncomputable def o139 (P : Params) : Obj := (PySem.Obj.mk (.type "type") .none (.cls (.mk (Str.ofString "Pipe") [(.type "object")] [(.ref 139), (.type "object")] 138 (Str.ofString "Pipe") .true [] [] .false .none .false)) (List.toArray [.none, .none, (.some (.str (Str.ofString "Pipe") 336)), (.some (.str (Str.ofString "Pipe") 344)), (.some (.builtin "object.__new__")), (.some (.bool .true))]))
noncomputable def o140 (P : Params) : Obj := (PySem.Obj.mk (.type "getset_descriptor") .none (.fields (List.toArray [(.str (Str.ofString "__dict__") 371), (.ref 139), (.builtin "function.__dict__"), (.builtin "function.__dict__#set")])) (List.toArray []))
noncomputable def o141 (P : Params) : Obj := (PySem.Obj.mk (.type "getset_descriptor") .none (.fields (List.toArray [(.str (Str.ofString "__weakref__") 373), (.ref 139), (.builtin "ExceptionGroup.__weakref__"), .none])) (List.toArray []))
noncomputable def o142 (P : Params) : Obj := (PySem.Obj.mk (.type "super") .none (.fields (List.toArray [(.ref 139), (.ref 139), (.ref 139)])) (List.toArray []))
noncomputable def o143 (P : Params) : Obj := (PySem.Obj.mk (.type "builtin_function_or_method") .none (.fields (List.toArray [(.builtin "object.__init_subclass__"), (.ref 139)])) (List.toArray []))
noncomputable def t2 (P : Params) : BT := (.node (boot_o_0 P) (.node (boot_o_1 P) (.node (o3v2 P) (.node (boot_o_7 P) (.node (o15 P) (.node (o31 P) (.node (o63 P) (lf (o127 P)) .nil) (lf (o95 P))) (.node (o47 P) (.node (o79 P) (lf (o143 P)) .nil) (lf (o111 P)))) (.node (o23 P) (.node (o39 P) (.node (o71 P) (lf (o135 P)) .nil) (lf (o103 P))) (.node (o55 P) (lf (o87 P)) (lf (o119 P))))) (.node (o11 P) (.node (o19 P) (.node (o35 P) (.node (o67 P) (lf (o131 P)) .nil) (lf (o99 P))) (.node (o51 P) (lf (o83 P)) (lf (o115 P)))) (.node (o27 P) (.node (o43 P) (.node (o75 P) (lf (o139 P)) .nil) (lf (o107 P))) (.node (o59 P) (lf (o91 P)) (lf (o123 P)))))) (.node (boot_o_5 P) (.node (boot_o_9 P) (.node (o17 P) (.node (o33 P) (.node (o65 P) (lf (o129 P)) .nil) (lf (o97 P))) (.node (o49 P) (lf (o81 P)) (lf (o113 P)))) (.node (o25 P) (.node (o41 P) (.node (o73 P) (lf (o137 P)) .nil) (lf (o105 P))) (.node (o57 P) (lf (o89 P)) (lf (o121 P))))) (.node (o13 P) (.node (o21 P) (.node (o37 P) (.node (o69 P) (lf (o133 P)) .nil) (lf (o101 P))) (.node (o53 P) (lf (o85 P)) (lf (o117 P)))) (.node (o29 P) (.node (o45 P) (.node (o77 P) (lf (o141 P)) .nil) (lf (o109 P))) (.node (o61 P) (lf (o93 P)) (lf (o125 P))))))) (.node (boot_o_2 P) (.node (boot_o_4 P) (.node (boot_o_8 P) (.node (o16 P) (.node (o32 P) (.node (o64 P) (lf (o128 P)) .nil) (lf (o96 P))) (.node (o48 P) (lf (o80 P)) (lf (o112 P)))) (.node (o24 P) (.node (o40 P) (.node (o72 P) (lf (o136 P)) .nil) (lf (o104 P))) (.node (o56 P) (lf (o88 P)) (lf (o120 P))))) (.node (o12v3 P) (.node (o20 P) (.node (o36 P) (.node (o68 P) (lf (o132 P)) .nil) (lf (o100 P))) (.node (o52 P) (lf (o84 P)) (lf (o116 P)))) (.node (o28 P) (.node (o44 P) (.node (o76 P) (lf (o140 P)) .nil) (lf (o108 P))) (.node (o60 P) (lf (o92 P)) (lf (o124 P)))))) (.node (boot_o_6 P) (.node (boot_o_10 P) (.node (o18 P) (.node (o34 P) (.node (o66 P) (lf (o130 P)) .nil) (lf (o98 P))) (.node (o50 P) (lf (o82 P)) (lf (o114 P)))) (.node (o26 P) (.node (o42 P) (.node (o74 P) (lf (o138 P)) .nil) (lf (o106 P))) (.node (o58 P) (lf (o90 P)) (lf (o122 P))))) (.node (o14 P) (.node (o22 P) (.node (o38 P) (.node (o70 P) (lf (o134 P)) .nil) (lf (o102 P))) (.node (o54 P) (lf (o86 P)) (lf (o118 P)))) (.node (o30 P) (.node (o46 P) (.node (o78 P) (lf (o142 P)) .nil) (lf (o110 P))) (.node (o62 P) (lf (o94 P)) (lf (o126 P))))))))
noncomputable def t2S (P : Params) (os : OsState) : SharedT := ⟨t2 P, 144, (.mk [] [] [] 0 [] [] .false (List.toArray []) [] 0 .false .false .false 0 [2000, 10, 10] .false 0 .true [] [] 0 .false), ⟨[]⟩, (.mk 0 0 0 0), 378, os⟩
set_option maxRecDepth 100000 in
theorem pc2 (w : World) : (fun os => segRunT treeTable pw w 11 annH 1 236 (t1S (w).params os) (piecesOf (((behindTheImports pw).drop 24).take 1) envH cE ((.mk 73 0 73 5) : Pos) [topFrame qH])) = fun os => some (.next, t2S (w).params os, cE, ((.mk 74 0 84 24) : Pos)) := by
  unfold piecesOf; rw [PySem.W.Fast.te10110043849684766642, PySem.W.Fast.te14364793385576792824, PySem.W.Fast.te12563942051412417395]; kernel_rfl!
noncomputable def o3v3 (P : Params) : Obj := (PySem.Obj.mk (.type "dict") .none (.dict (List.toArray [(.mk (PySem.PyData.keyHash P (Str.ofString "__name__")) (.str (Str.ofString "__name__") 165) (.str (Str.ofString "heatnet.net") 328)), (.mk (PySem.PyData.keyHash P (Str.ofString "__doc__")) (.str (Str.ofString "__doc__") 166) .none), (.mk (PySem.PyData.keyHash P (Str.ofString "__package__")) (.str (Str.ofString "__package__") 167) .none), (.mk (PySem.PyData.keyHash P (Str.ofString "__loader__")) (.str (Str.ofString "__loader__") 168) (.builtin "__main__.__loader__#opaque")), (.mk (PySem.PyData.keyHash P (Str.ofString "__spec__")) (.str (Str.ofString "__spec__") 169) .none), (.mk (PySem.PyData.keyHash P (Str.ofString "__annotations__")) (.str (Str.ofString "__annotations__") 170) (.ref 6)), (.mk (PySem.PyData.keyHash P (Str.ofString "__builtins__")) (.str (Str.ofString "__builtins__") 171) (.ref 4)), (.mk (PySem.PyData.keyHash P (Str.ofString "__file__")) (.str (Str.ofString "__file__") 173) (.str (Str.ofString "/claim/cut.py") 172)), (.mk (PySem.PyData.keyHash P (Str.ofString "__cached__")) (.str (Str.ofString "__cached__") 174) .none), (.mk (PySem.PyData.keyHash P (Str.ofString "_wall")) (.str (Str.ofString "_wall") 193) (.ref 21)), (.mk (PySem.PyData.keyHash P (Str.ofString "HeatError")) (.str (Str.ofString "HeatError") 213) (.ref 31)), (.mk (PySem.PyData.keyHash P (Str.ofString "need_number")) (.str (Str.ofString "need_number") 223) (.ref 41)), (.mk (PySem.PyData.keyHash P (Str.ofString "shown")) (.str (Str.ofString "shown") 230) (.ref 48)), (.mk (PySem.PyData.keyHash P (Str.ofString "need_name")) (.str (Str.ofString "need_name") 240) (.ref 55)), (.mk (PySem.PyData.keyHash P (Str.ofString "FIGURES")) (.str (Str.ofString "FIGURES") 244) (.int 2000 243)), (.mk (PySem.PyData.keyHash P (Str.ofString "MOST")) (.str (Str.ofString "MOST") 247) (.int 100000000000000000000000000000000000000000000000000000000000000000000000000000000000000000000000000000000000000000000000000000000000000000000000000000000000000000000000000000000000000000000000000000000000000000000000000000000000000000000000000000000000000000000000000000000000000000000000000000000000000000000000000000000000000000000000000000000000000000000000000000000000000000000000000000000000000000000000000000000000000000000000000000000000000000000000000000000000000000000000000000000000000000000000000000000000000000000000000000000000000000000000000000000000000000000000000000000000000000000000000000000000000000000000000000000000000000000000000000000000000000000000000000000000000000000000000000000000000000000000000000000000000000000000000000000000000000000000000000000000000000000000000000000000000000000000000000000000000000000000000000000000000000000000000000000000000000000000000000000000000000000000000000000000000000000000000000000000000000000000000000000000000000000000000000000000000000000000000000000000000000000000000000000000000000000000000000000000000000000000000000000000000000000000000000000000000000000000000000000000000000000000000000000000000000000000000000000000000000000000000000000000000000000000000000000000000000000000000000000000000000000000000000000000000000000000000000000000000000000000000000000000000000000000000000000000000000000000000000000000000000000000000000000000000000000000000000000000000000000000000000000000000000000000000000000000000000000000000000000000000000000000000000000000000000000000000000000000000000000000000000000000000000000000000000000000000000000000000000000000000000000000000000000000000000000000000000000000000000000000000000000000000000000000000000000000000000000000000000000000000000000000000000000000000000000000000000000000000000000000000000000000000000000000000000000000000000000000000000000000000000000000000000000000000000000000000000000000000000000000000000000000000000000000000000000000000000000000000000000000000000000000000000000 246)), (.mk (PySem.PyData.keyHash P (Str.ofString "NOUGHT")) (.str (Str.ofString "NOUGHT") 250) (.ref 56)), (.mk (PySem.PyData.keyHash P (Str.ofString "ONE")) (.str (Str.ofString "ONE") 253) (.ref 57)), (.mk (PySem.PyData.keyHash P (Str.ofString "divisor")) (.str (Str.ofString "divisor") 261) (.ref 64)), (.mk (PySem.PyData.keyHash P (Str.ofString "frac")) (.str (Str.ofString "frac") 271) (.ref 72)), (.mk (PySem.PyData.keyHash P (Str.ofString "need")) (.str (Str.ofString "need") 279) (.ref 80)), (.mk (PySem.PyData.keyHash P (Str.ofString "plus")) (.str (Str.ofString "plus") 287) (.ref 87)), (.mk (PySem.PyData.keyHash P (Str.ofString "times")) (.str (Str.ofString "times") 295) (.ref 94)), (.mk (PySem.PyData.keyHash P (Str.ofString "over")) (.str (Str.ofString "over") 303) (.ref 101)), (.mk (PySem.PyData.keyHash P (Str.ofString "less")) (.str (Str.ofString "less") 311) (.ref 108)), (.mk (PySem.PyData.keyHash P (Str.ofString "total")) (.str (Str.ofString "total") 320) (.ref 115)), (.mk (PySem.PyData.keyHash P (Str.ofString "show")) (.str (Str.ofString "show") 327) (.ref 122)), (.mk (PySem.PyData.keyHash P (Str.ofString "JOINTS")) (.str (Str.ofString "JOINTS") 331) (.int 60 330)), (.mk (PySem.PyData.keyHash P (Str.ofString "PIPES")) (.str (Str.ofString "PIPES") 333) (.int 90 332)), (.mk (PySem.PyData.keyHash P (Str.ofString "HOURS")) (.str (Str.ofString "HOURS") 335) (.int 24 334)), (.mk (PySem.PyData.keyHash P (Str.ofString "Pipe")) (.str (Str.ofString "Pipe") 377) (.ref 139)), (.mk (PySem.PyData.keyHash P (Str.ofString "Consumer")) (.str (Str.ofString "Consumer") 422) (.ref 167))]) 32) (List.toArray []))
noncomputable def o12v4 (P : Params) : Obj := (PySem.Obj.mk .none .none (.fields (List.toArray ((.int 1 0) :: (.int 0 0) :: (.ref 20) :: (.int 5 0) :: (.int 0 0) :: (.ref 27) :: (.int 7 0) :: (.int 0 0) :: (.ref 40) :: (.int 11 0) :: (.int 0 0) :: (.ref 47) :: (.int 17 0) :: (.int 0 0) :: (.ref 54) :: (.int 31 0) :: (.int 0 0) :: (.ref 63) :: (.int 37 0) :: (.int 0 0) :: (.ref 71) :: (.int 47 0) :: (.int 0 0) :: (.ref 79) :: (.int 53 0) :: (.int 0 0) :: (.ref 86) :: (.int 55 0) :: (.int 0 0) :: (.ref 93) :: (.int 57 0) :: (.int 0 0) :: (.ref 100) :: (.int 61 0) :: (.int 0 0) :: (.ref 107) :: (.int 63 0) :: (.int 0 0) :: (.ref 114) :: (.int 68 0) :: (.int 0 0) :: (.ref 121) :: (.int 74 0) :: (.int 0 0) :: (.ref 128) :: (.int 85 0) :: (.int 0 0) :: (.ref 149) :: []))) (List.toArray []))
noncomputable def o144 (P : Params) : Obj := (PySem.Obj.mk (.type "tuple") .none (.seq (List.toArray []) 0) (List.toArray []))
noncomputable def o145 (P : Params) : Obj := (PySem.Obj.mk (.type "builtin_function_or_method") .none (.fields (List.toArray [(.builtin "type.__prepare__"), (.type "type")])) (List.toArray []))
noncomputable def o146 (P : Params) : Obj := (PySem.Obj.mk (.type "dict") .none (.dict (List.toArray [(.mk (PySem.PyData.keyHash P (Str.ofString "__module__")) (.str (Str.ofString "__module__") 385) (.str (Str.ofString "heatnet.net") 328)), (.mk (PySem.PyData.keyHash P (Str.ofString "__qualname__")) (.str (Str.ofString "__qualname__") 387) (.str (Str.ofString "Consumer") 386)), (.mk (PySem.PyData.keyHash P (Str.ofString "__firstlineno__")) (.str (Str.ofString "__firstlineno__") 389) (.int 85 388)), (.mk (PySem.PyData.keyHash P (Str.ofString "__init__")) (.str (Str.ofString "__init__") 401) (.ref 157)), (.mk (PySem.PyData.keyHash P (Str.ofString "flow")) (.str (Str.ofString "flow") 409) (.ref 164)), (.mk (PySem.PyData.keyHash P (Str.ofString "__static_attributes__")) (.str (Str.ofString "__static_attributes__") 415) (.ref 165))]) 6) (List.toArray []))
noncomputable def o147 (P : Params) : Obj := (PySem.Obj.mk (.type "tuple") .none (.seq (List.toArray []) 0) (List.toArray []))
noncomputable def o148 (P : Params) : Obj := (PySem.Obj.mk .none .none (.fields (List.toArray [(.int 87 0), (.int 4 0), (.ref 156), (.int 94 0), (.int 4 0), (.ref 163)])) (List.toArray []))
noncomputable def o149 (P : Params) : Obj := (PySem.Obj.mk (.type "code") .none (.fields (List.toArray [(.str (Str.ofString "Consumer") 380), (.str (Str.ofString "Consumer") 381), (.str (Str.ofString "/claim/cut.py") 382), (.int 85 0), (.int 0 0), (.int 0 0), (.int 0 0), (.int 0 0), (.ref 147), (.bool .false), (.int 181 0), (.ref 148), .none, .none, .none, .none, (.int 383 0), (.int 85 0), (.str (Str.ofString "/claim/cut.py") 384)])) (List.toArray []))
noncomputable def o150 (P : Params) : Obj := (PySem.Obj.mk (.type "frame") .none .plain (List.toArray [(.some (.ref 149)), (.some (.ref 3)), (.some (.ref 146)), .none, (.some (.str (Str.ofString "heatnet.net") 328)), .none, (.some (.ref 0))]))
noncomputable def o151 (P : Params) : Obj := (PySem.Obj.mk (.type "tuple") .none (.seq (List.toArray []) 0) (List.toArray []))
noncomputable def o152 (P : Params) : Obj := (PySem.Obj.mk .none .none (.fields (List.toArray [])) (List.toArray []))
noncomputable def o153 (P : Params) : Obj := (PySem.Obj.mk (.type "tuple") .none (.seq (List.toArray [(.str (Str.ofString "self") 393), (.str (Str.ofString "name") 394), (.str (Str.ofString "joint") 395), (.str (Str.ofString "demands") 396), (.str (Str.ofString "drop") 397), (.str (Str.ofString "least") 398)]) 0) (List.toArray []))
noncomputable def o154 (P : Params) : Obj := (PySem.Obj.mk (.type "tuple") .none (.seq (List.toArray []) 0) (List.toArray []))
noncomputable def o155 (P : Params) : Obj := (PySem.Obj.mk .none .none (.func (FuncData.mk (Str.ofString "__init__") (Str.ofString "Consumer.__init__") fa25_0.1 (.stmts fb25_0.1) fs25_0.1 0 [] .none .none .none .none .none .none .none 0)) (List.toArray []))
noncomputable def o156 (P : Params) : Obj := (PySem.Obj.mk (.type "code") .none (.fields (List.toArray [(.str (Str.ofString "__init__") 390), (.str (Str.ofString "Consumer.__init__") 391), (.str (Str.ofString "/claim/cut.py") 392), (.int 87 0), (.int 6 0), (.int 0 0), (.int 0 0), (.int 3 0), (.ref 151), (.bool .true), (.int 181 0), (.ref 152), .none, (.ref 153), (.ref 154), (.ref 155), (.int 399 0), (.int 87 0), (.str (Str.ofString "/claim/cut.py") 400)])) (List.toArray []))
noncomputable def o157 (P : Params) : Obj := (PySem.Obj.mk (.type "function") .none (.func (FuncData.mk (Str.ofString "__init__") (Str.ofString "Consumer.__init__") fa25_0.1 (.stmts fb25_0.1) fs25_0.1 3 [] .none .none .none (.str (Str.ofString "heatnet.net") 328) .none (.ref 156) .none 0)) (List.toArray []))
noncomputable def o158 (P : Params) : Obj := (PySem.Obj.mk (.type "tuple") .none (.seq (List.toArray []) 0) (List.toArray []))
noncomputable def o159 (P : Params) : Obj := (PySem.Obj.mk .none .none (.fields (List.toArray [])) (List.toArray []))
noncomputable def o160 (P : Params) : Obj := (PySem.Obj.mk (.type "tuple") .none (.seq (List.toArray [(.str (Str.ofString "self") 405), (.str (Str.ofString "hour") 406)]) 0) (List.toArray []))
noncomputable def o161 (P : Params) : Obj := (PySem.Obj.mk (.type "tuple") .none (.seq (List.toArray []) 0) (List.toArray []))
noncomputable def o162 (P : Params) : Obj := (PySem.Obj.mk .none .none (.func (FuncData.mk (Str.ofString "flow") (Str.ofString "Consumer.flow") fa25_1.1 (.stmts fb25_1.1) fs25_1.1 0 [] .none .none .none .none .none .none .none 0)) (List.toArray []))
noncomputable def o163 (P : Params) : Obj := (PySem.Obj.mk (.type "code") .none (.fields (List.toArray [(.str (Str.ofString "flow") 402), (.str (Str.ofString "Consumer.flow") 403), (.str (Str.ofString "/claim/cut.py") 404), (.int 94 0), (.int 2 0), (.int 0 0), (.int 0 0), (.int 3 0), (.ref 158), (.bool .true), (.int 181 0), (.ref 159), .none, (.ref 160), (.ref 161), (.ref 162), (.int 407 0), (.int 94 0), (.str (Str.ofString "/claim/cut.py") 408)])) (List.toArray []))
noncomputable def o164 (P : Params) : Obj := (PySem.Obj.mk (.type "function") .none (.func (FuncData.mk (Str.ofString "flow") (Str.ofString "Consumer.flow") fa25_1.1 (.stmts fb25_1.1) fs25_1.1 3 [] .none .none .none (.str (Str.ofString "heatnet.net") 328) .none (.ref 163) .none 0)) (List.toArray []))
noncomputable def o165 (P : Params) : Obj := (PySem.Obj.mk (.type "tuple") .none (.seq (List.toArray [(.str (Str.ofString "demands") 410), (.str (Str.ofString "drop") 411), (.str (Str.ofString "joint") 412), (.str (Str.ofString "least") 413), (.str (Str.ofString "name") 414)]) 0) (List.toArray []))
noncomputable def o166 (P : Params) : Obj := (PySem.Obj.mk (.type "dict") .none (.dict (List.toArray [(.mk (PySem.PyData.keyHash P (Str.ofString "__module__")) (.str (Str.ofString "__module__") 385) (.str (Str.ofString "heatnet.net") 328)), (.mk (PySem.PyData.keyHash P (Str.ofString "__firstlineno__")) (.str (Str.ofString "__firstlineno__") 389) (.int 85 388)), (.mk (PySem.PyData.keyHash P (Str.ofString "__init__")) (.str (Str.ofString "__init__") 401) (.ref 157)), (.mk (PySem.PyData.keyHash P (Str.ofString "flow")) (.str (Str.ofString "flow") 409) (.ref 164)), (.mk (PySem.PyData.keyHash P (Str.ofString "__static_attributes__")) (.str (Str.ofString "__static_attributes__") 415) (.ref 165)), (.mk (PySem.PyData.keyHash P (Str.ofString "__dict__")) (.str (Str.ofString "__dict__") 417) (.ref 168)), (.mk (PySem.PyData.keyHash P (Str.ofString "__weakref__")) (.str (Str.ofString "__weakref__") 419) (.ref 169)), (.mk (PySem.PyData.keyHash P (Str.ofString "__doc__")) (.str (Str.ofString "__doc__") 420) .none)]) 4) (List.toArray []))
noncomputable def o167 (P : Params) : Obj := (PySem.Obj.mk (.type "type") .none (.cls (.mk (Str.ofString "Consumer") [(.type "object")] [(.ref 167), (.type "object")] 166 (Str.ofString "Consumer") .true [] [] .false .none .false)) (List.toArray [.none, .none, (.some (.str (Str.ofString "Consumer") 378)), (.some (.str (Str.ofString "Consumer") 386)), (.some (.builtin "object.__new__")), (.some (.bool .true))]))
noncomputable def o168 (P : Params) : Obj := (PySem.Obj.mk (.type "getset_descriptor") .none (.fields (List.toArray [(.str (Str.ofString "__dict__") 416), (.ref 167), (.builtin "function.__dict__"), (.builtin "function.__dict__#set")])) (List.toArray []))
noncomputable def o169 (P : Params) : Obj := (PySem.Obj.mk (.type "getset_descriptor") .none (.fields (List.toArray [(.str (Str.ofString "__weakref__") 418), (.ref 167), (.builtin "ExceptionGroup.__weakref__"), .none])) (List.toArray []))
noncomputable def o170 (P : Params) : Obj := (PySem.Obj.mk (.type "super") .none (.fields (List.toArray [(.ref 167), (.ref 167), (.ref 167)])) (List.toArray []))
noncomputable def o171 (P : Params) : Obj := (PySem.Obj.mk (.type "builtin_function_or_method") .none (.fields (List.toArray [(.builtin "object.__init_subclass__"), (.ref 167)])) (List.toArray []))
noncomputable def t3 (P : Params) : BT := (.node (boot_o_0 P) (.node (boot_o_1 P) (.node (o3v3 P) (.node (boot_o_7 P) (.node (o15 P) (.node (o31 P) (.node (o63 P) (lf (o127 P)) .nil) (.node (o95 P) (lf (o159 P)) .nil)) (.node (o47 P) (.node (o79 P) (lf (o143 P)) .nil) (lf (o111 P)))) (.node (o23 P) (.node (o39 P) (.node (o71 P) (lf (o135 P)) .nil) (.node (o103 P) (lf (o167 P)) .nil)) (.node (o55 P) (.node (o87 P) (lf (o151 P)) .nil) (lf (o119 P))))) (.node (o11 P) (.node (o19 P) (.node (o35 P) (.node (o67 P) (lf (o131 P)) .nil) (.node (o99 P) (lf (o163 P)) .nil)) (.node (o51 P) (.node (o83 P) (lf (o147 P)) .nil) (lf (o115 P)))) (.node (o27 P) (.node (o43 P) (.node (o75 P) (lf (o139 P)) .nil) (.node (o107 P) (lf (o171 P)) .nil)) (.node (o59 P) (.node (o91 P) (lf (o155 P)) .nil) (lf (o123 P)))))) (.node (boot_o_5 P) (.node (boot_o_9 P) (.node (o17 P) (.node (o33 P) (.node (o65 P) (lf (o129 P)) .nil) (.node (o97 P) (lf (o161 P)) .nil)) (.node (o49 P) (.node (o81 P) (lf (o145 P)) .nil) (lf (o113 P)))) (.node (o25 P) (.node (o41 P) (.node (o73 P) (lf (o137 P)) .nil) (.node (o105 P) (lf (o169 P)) .nil)) (.node (o57 P) (.node (o89 P) (lf (o153 P)) .nil) (lf (o121 P))))) (.node (o13 P) (.node (o21 P) (.node (o37 P) (.node (o69 P) (lf (o133 P)) .nil) (.node (o101 P) (lf (o165 P)) .nil)) (.node (o53 P) (.node (o85 P) (lf (o149 P)) .nil) (lf (o117 P)))) (.node (o29 P) (.node (o45 P) (.node (o77 P) (lf (o141 P)) .nil) (lf (o109 P))) (.node (o61 P) (.node (o93 P) (lf (o157 P)) .nil) (lf (o125 P))))))) (.node (boot_o_2 P) (.node (boot_o_4 P) (.node (boot_o_8 P) (.node (o16 P) (.node (o32 P) (.node (o64 P) (lf (o128 P)) .nil) (.node (o96 P) (lf (o160 P)) .nil)) (.node (o48 P) (.node (o80 P) (lf (o144 P)) .nil) (lf (o112 P)))) (.node (o24 P) (.node (o40 P) (.node (o72 P) (lf (o136 P)) .nil) (.node (o104 P) (lf (o168 P)) .nil)) (.node (o56 P) (.node (o88 P) (lf (o152 P)) .nil) (lf (o120 P))))) (.node (o12v4 P) (.node (o20 P) (.node (o36 P) (.node (o68 P) (lf (o132 P)) .nil) (.node (o100 P) (lf (o164 P)) .nil)) (.node (o52 P) (.node (o84 P) (lf (o148 P)) .nil) (lf (o116 P)))) (.node (o28 P) (.node (o44 P) (.node (o76 P) (lf (o140 P)) .nil) (lf (o108 P))) (.node (o60 P) (.node (o92 P) (lf (o156 P)) .nil) (lf (o124 P)))))) (.node (boot_o_6 P) (.node (boot_o_10 P) (.node (o18 P) (.node (o34 P) (.node (o66 P) (lf (o130 P)) .nil) (.node (o98 P) (lf (o162 P)) .nil)) (.node (o50 P) (.node (o82 P) (lf (o146 P)) .nil) (lf (o114 P)))) (.node (o26 P) (.node (o42 P) (.node (o74 P) (lf (o138 P)) .nil) (.node (o106 P) (lf (o170 P)) .nil)) (.node (o58 P) (.node (o90 P) (lf (o154 P)) .nil) (lf (o122 P))))) (.node (o14 P) (.node (o22 P) (.node (o38 P) (.node (o70 P) (lf (o134 P)) .nil) (.node (o102 P) (lf (o166 P)) .nil)) (.node (o54 P) (.node (o86 P) (lf (o150 P)) .nil) (lf (o118 P)))) (.node (o30 P) (.node (o46 P) (.node (o78 P) (lf (o142 P)) .nil) (lf (o110 P))) (.node (o62 P) (.node (o94 P) (lf (o158 P)) .nil) (lf (o126 P))))))))
noncomputable def t3S (P : Params) (os : OsState) : SharedT := ⟨t3 P, 172, (.mk [] [] [] 0 [] [] .false (List.toArray []) [] 0 .false .false .false 0 [2000, 10, 10] .false 0 .true [] [] 0 .false), ⟨[]⟩, (.mk 0 0 0 0), 423, os⟩
set_option maxRecDepth 100000 in
theorem pc3 (w : World) : (fun os => segRunT treeTable pw w 11 annH 1 263 (t2S (w).params os) (piecesOf (((behindTheImports pw).drop 25).take 1) envH cE ((.mk 74 0 84 24) : Pos) [topFrame qH])) = fun os => some (.next, t3S (w).params os, cE, ((.mk 85 0 95 16) : Pos)) := by
  unfold piecesOf; rw [PySem.W.Fast.te10110043849684766642, PySem.W.Fast.te14364793385576792824, PySem.W.Fast.te12563942051412417395]; kernel_rfl!
noncomputable def o3v4 (P : Params) : Obj := (PySem.Obj.mk (.type "dict") .none (.dict (List.toArray [(.mk (PySem.PyData.keyHash P (Str.ofString "__name__")) (.str (Str.ofString "__name__") 165) (.str (Str.ofString "heatnet.net") 328)), (.mk (PySem.PyData.keyHash P (Str.ofString "__doc__")) (.str (Str.ofString "__doc__") 166) .none), (.mk (PySem.PyData.keyHash P (Str.ofString "__package__")) (.str (Str.ofString "__package__") 167) .none), (.mk (PySem.PyData.keyHash P (Str.ofString "__loader__")) (.str (Str.ofString "__loader__") 168) (.builtin "__main__.__loader__#opaque")), (.mk (PySem.PyData.keyHash P (Str.ofString "__spec__")) (.str (Str.ofString "__spec__") 169) .none), (.mk (PySem.PyData.keyHash P (Str.ofString "__annotations__")) (.str (Str.ofString "__annotations__") 170) (.ref 6)), (.mk (PySem.PyData.keyHash P (Str.ofString "__builtins__")) (.str (Str.ofString "__builtins__") 171) (.ref 4)), (.mk (PySem.PyData.keyHash P (Str.ofString "__file__")) (.str (Str.ofString "__file__") 173) (.str (Str.ofString "/claim/cut.py") 172)), (.mk (PySem.PyData.keyHash P (Str.ofString "__cached__")) (.str (Str.ofString "__cached__") 174) .none), (.mk (PySem.PyData.keyHash P (Str.ofString "_wall")) (.str (Str.ofString "_wall") 193) (.ref 21)), (.mk (PySem.PyData.keyHash P (Str.ofString "HeatError")) (.str (Str.ofString "HeatError") 213) (.ref 31)), (.mk (PySem.PyData.keyHash P (Str.ofString "need_number")) (.str (Str.ofString "need_number") 223) (.ref 41)), (.mk (PySem.PyData.keyHash P (Str.ofString "shown")) (.str (Str.ofString "shown") 230) (.ref 48)), (.mk (PySem.PyData.keyHash P (Str.ofString "need_name")) (.str (Str.ofString "need_name") 240) (.ref 55)), (.mk (PySem.PyData.keyHash P (Str.ofString "FIGURES")) (.str (Str.ofString "FIGURES") 244) (.int 2000 243)), (.mk (PySem.PyData.keyHash P (Str.ofString "MOST")) (.str (Str.ofString "MOST") 247) (.int 100000000000000000000000000000000000000000000000000000000000000000000000000000000000000000000000000000000000000000000000000000000000000000000000000000000000000000000000000000000000000000000000000000000000000000000000000000000000000000000000000000000000000000000000000000000000000000000000000000000000000000000000000000000000000000000000000000000000000000000000000000000000000000000000000000000000000000000000000000000000000000000000000000000000000000000000000000000000000000000000000000000000000000000000000000000000000000000000000000000000000000000000000000000000000000000000000000000000000000000000000000000000000000000000000000000000000000000000000000000000000000000000000000000000000000000000000000000000000000000000000000000000000000000000000000000000000000000000000000000000000000000000000000000000000000000000000000000000000000000000000000000000000000000000000000000000000000000000000000000000000000000000000000000000000000000000000000000000000000000000000000000000000000000000000000000000000000000000000000000000000000000000000000000000000000000000000000000000000000000000000000000000000000000000000000000000000000000000000000000000000000000000000000000000000000000000000000000000000000000000000000000000000000000000000000000000000000000000000000000000000000000000000000000000000000000000000000000000000000000000000000000000000000000000000000000000000000000000000000000000000000000000000000000000000000000000000000000000000000000000000000000000000000000000000000000000000000000000000000000000000000000000000000000000000000000000000000000000000000000000000000000000000000000000000000000000000000000000000000000000000000000000000000000000000000000000000000000000000000000000000000000000000000000000000000000000000000000000000000000000000000000000000000000000000000000000000000000000000000000000000000000000000000000000000000000000000000000000000000000000000000000000000000000000000000000000000000000000000000000000000000000000000000000000000000000000000000000000000000000000000000000000000000000 246)), (.mk (PySem.PyData.keyHash P (Str.ofString "NOUGHT")) (.str (Str.ofString "NOUGHT") 250) (.ref 56)), (.mk (PySem.PyData.keyHash P (Str.ofString "ONE")) (.str (Str.ofString "ONE") 253) (.ref 57)), (.mk (PySem.PyData.keyHash P (Str.ofString "divisor")) (.str (Str.ofString "divisor") 261) (.ref 64)), (.mk (PySem.PyData.keyHash P (Str.ofString "frac")) (.str (Str.ofString "frac") 271) (.ref 72)), (.mk (PySem.PyData.keyHash P (Str.ofString "need")) (.str (Str.ofString "need") 279) (.ref 80)), (.mk (PySem.PyData.keyHash P (Str.ofString "plus")) (.str (Str.ofString "plus") 287) (.ref 87)), (.mk (PySem.PyData.keyHash P (Str.ofString "times")) (.str (Str.ofString "times") 295) (.ref 94)), (.mk (PySem.PyData.keyHash P (Str.ofString "over")) (.str (Str.ofString "over") 303) (.ref 101)), (.mk (PySem.PyData.keyHash P (Str.ofString "less")) (.str (Str.ofString "less") 311) (.ref 108)), (.mk (PySem.PyData.keyHash P (Str.ofString "total")) (.str (Str.ofString "total") 320) (.ref 115)), (.mk (PySem.PyData.keyHash P (Str.ofString "show")) (.str (Str.ofString "show") 327) (.ref 122)), (.mk (PySem.PyData.keyHash P (Str.ofString "JOINTS")) (.str (Str.ofString "JOINTS") 331) (.int 60 330)), (.mk (PySem.PyData.keyHash P (Str.ofString "PIPES")) (.str (Str.ofString "PIPES") 333) (.int 90 332)), (.mk (PySem.PyData.keyHash P (Str.ofString "HOURS")) (.str (Str.ofString "HOURS") 335) (.int 24 334)), (.mk (PySem.PyData.keyHash P (Str.ofString "Pipe")) (.str (Str.ofString "Pipe") 377) (.ref 139)), (.mk (PySem.PyData.keyHash P (Str.ofString "Consumer")) (.str (Str.ofString "Consumer") 422) (.ref 167)), (.mk (PySem.PyData.keyHash P (Str.ofString "Net")) (.str (Str.ofString "Net") 604) (.ref 298))]) 33) (List.toArray []))
noncomputable def o12v5 (P : Params) : Obj := (PySem.Obj.mk .none .none (.fields (List.toArray ((.int 1 0) :: (.int 0 0) :: (.ref 20) :: (.int 5 0) :: (.int 0 0) :: (.ref 27) :: (.int 7 0) :: (.int 0 0) :: (.ref 40) :: (.int 11 0) :: (.int 0 0) :: (.ref 47) :: (.int 17 0) :: (.int 0 0) :: (.ref 54) :: (.int 31 0) :: (.int 0 0) :: (.ref 63) :: (.int 37 0) :: (.int 0 0) :: (.ref 71) :: (.int 47 0) :: (.int 0 0) :: (.ref 79) :: (.int 53 0) :: (.int 0 0) :: (.ref 86) :: (.int 55 0) :: (.int 0 0) :: (.ref 93) :: (.int 57 0) :: (.int 0 0) :: (.ref 100) :: (.int 61 0) :: (.int 0 0) :: (.ref 107) :: (.int 63 0) :: (.int 0 0) :: (.ref 114) :: (.int 68 0) :: (.int 0 0) :: (.ref 121) :: (.int 74 0) :: (.int 0 0) :: (.ref 128) :: (.int 85 0) :: (.int 0 0) :: (.ref 149) :: (.int 96 0) :: (.int 0 0) :: (.ref 177) :: []))) (List.toArray []))
noncomputable def o172 (P : Params) : Obj := (PySem.Obj.mk (.type "tuple") .none (.seq (List.toArray []) 0) (List.toArray []))
noncomputable def o173 (P : Params) : Obj := (PySem.Obj.mk (.type "builtin_function_or_method") .none (.fields (List.toArray [(.builtin "type.__prepare__"), (.type "type")])) (List.toArray []))
noncomputable def o174 (P : Params) : Obj := (PySem.Obj.mk (.type "dict") .none (.dict (List.toArray [(.mk (PySem.PyData.keyHash P (Str.ofString "__module__")) (.str (Str.ofString "__module__") 430) (.str (Str.ofString "heatnet.net") 328)), (.mk (PySem.PyData.keyHash P (Str.ofString "__qualname__")) (.str (Str.ofString "__qualname__") 432) (.str (Str.ofString "Net") 431)), (.mk (PySem.PyData.keyHash P (Str.ofString "__firstlineno__")) (.str (Str.ofString "__firstlineno__") 434) (.int 96 433)), (.mk (PySem.PyData.keyHash P (Str.ofString "__init__")) (.str (Str.ofString "__init__") 461) (.ref 193)), (.mk (PySem.PyData.keyHash P (Str.ofString "add_joint")) (.str (Str.ofString "add_joint") 469) (.ref 200)), (.mk (PySem.PyData.keyHash P (Str.ofString "need_joint")) (.str (Str.ofString "need_joint") 477) (.ref 207)), (.mk (PySem.PyData.keyHash P (Str.ofString "add_pipe")) (.str (Str.ofString "add_pipe") 491) (.ref 214)), (.mk (PySem.PyData.keyHash P (Str.ofString "pipe")) (.str (Str.ofString "pipe") 499) (.ref 221)), (.mk (PySem.PyData.keyHash P (Str.ofString "add_consumer")) (.str (Str.ofString "add_consumer") 512) (.ref 229)), (.mk (PySem.PyData.keyHash P (Str.ofString "consumer")) (.str (Str.ofString "consumer") 520) (.ref 236)), (.mk (PySem.PyData.keyHash P (Str.ofString "add_bypass")) (.str (Str.ofString "add_bypass") 529) (.ref 243)), (.mk (PySem.PyData.keyHash P (Str.ofString "set_valve")) (.str (Str.ofString "set_valve") 538) (.ref 250)), (.mk (PySem.PyData.keyHash P (Str.ofString "open_pipes")) (.str (Str.ofString "open_pipes") 544) (.ref 255)), (.mk (PySem.PyData.keyHash P (Str.ofString "at")) (.str (Str.ofString "at") 550) (.ref 260)), (.mk (PySem.PyData.keyHash P (Str.ofString "far")) (.str (Str.ofString "far") 559) (.ref 267)), (.mk (PySem.PyData.keyHash P (Str.ofString "fed")) (.str (Str.ofString "fed") 569) (.ref 274)), (.mk (PySem.PyData.keyHash P (Str.ofString "rings")) (.str (Str.ofString "rings") 576) (.ref 281)), (.mk (PySem.PyData.keyHash P (Str.ofString "unfed")) (.str (Str.ofString "unfed") 583) (.ref 288)), (.mk (PySem.PyData.keyHash P (Str.ofString "lines")) (.str (Str.ofString "lines") 590) (.ref 295)), (.mk (PySem.PyData.keyHash P (Str.ofString "__static_attributes__")) (.str (Str.ofString "__static_attributes__") 597) (.ref 296))]) 20) (List.toArray []))
noncomputable def o175 (P : Params) : Obj := (PySem.Obj.mk (.type "tuple") .none (.seq (List.toArray []) 0) (List.toArray []))
noncomputable def o176 (P : Params) : Obj := (PySem.Obj.mk .none .none (.fields (List.toArray ((.int 98 0) :: (.int 4 0) :: (.ref 192) :: (.int 106 0) :: (.int 4 0) :: (.ref 199) :: (.int 113 0) :: (.int 4 0) :: (.ref 206) :: (.int 118 0) :: (.int 4 0) :: (.ref 213) :: (.int 132 0) :: (.int 4 0) :: (.ref 220) :: (.int 137 0) :: (.int 4 0) :: (.ref 228) :: (.int 149 0) :: (.int 4 0) :: (.ref 235) :: (.int 154 0) :: (.int 4 0) :: (.ref 242) :: (.int 157 0) :: (.int 4 0) :: (.ref 249) :: (.int 160 0) :: (.int 4 0) :: (.ref 254) :: (.int 163 0) :: (.int 4 0) :: (.ref 259) :: (.int 166 0) :: (.int 4 0) :: (.ref 266) :: (.int 169 0) :: (.int 4 0) :: (.ref 273) :: (.int 179 0) :: (.int 4 0) :: (.ref 280) :: (.int 182 0) :: (.int 4 0) :: (.ref 287) :: (.int 185 0) :: (.int 4 0) :: (.ref 294) :: []))) (List.toArray []))
noncomputable def o177 (P : Params) : Obj := (PySem.Obj.mk (.type "code") .none (.fields (List.toArray [(.str (Str.ofString "Net") 425), (.str (Str.ofString "Net") 426), (.str (Str.ofString "/claim/cut.py") 427), (.int 96 0), (.int 0 0), (.int 0 0), (.int 0 0), (.int 0 0), (.ref 175), (.bool .false), (.int 181 0), (.ref 176), .none, .none, .none, .none, (.int 428 0), (.int 96 0), (.str (Str.ofString "/claim/cut.py") 429)])) (List.toArray []))
noncomputable def o178 (P : Params) : Obj := (PySem.Obj.mk (.type "frame") .none .plain (List.toArray [(.some (.ref 177)), (.some (.ref 3)), (.some (.ref 174)), .none, (.some (.str (Str.ofString "heatnet.net") 328)), .none, (.some (.ref 0))]))
noncomputable def o179 (P : Params) : Obj := (PySem.Obj.mk (.type "frame") .none (.dict (List.toArray [(.mk (PySem.PyData.keyHash P (Str.ofString "upper")) (.str (Str.ofString "upper") 436) (.int 10 435)), (.mk (PySem.PyData.keyHash P (Str.ofString "lower")) (.str (Str.ofString "lower") 437) (.int 1 262)), (.mk (PySem.PyData.keyHash P (Str.ofString "by")) (.str (Str.ofString "by") 449) (.int 1 262))]) 3) (List.toArray []))
noncomputable def o180 (P : Params) : Obj := (PySem.Obj.mk (.type "frame") .none (.dict (List.toArray [(.mk (PySem.PyData.keyHash P (Str.ofString "a")) (.str (Str.ofString "a") 440) (.int 1 262)), (.mk (PySem.PyData.keyHash P (Str.ofString "b")) (.str (Str.ofString "b") 441) (.int 0 445))]) 2) (List.toArray []))
noncomputable def o181 (P : Params) : Obj := (PySem.Obj.mk (.type "tuple") .none (.seq (List.toArray [(.int 1 262), (.int 0 445)]) 0) (List.toArray []))
noncomputable def o182 (P : Params) : Obj := (PySem.Obj.mk (.type "tuple_iterator") .none (.fields (List.toArray [.none, (.int 2 0)])) (List.toArray []))
noncomputable def o183 (P : Params) : Obj := (PySem.Obj.mk (.type "tuple") .none (.seq (List.toArray []) 0) (List.toArray []))
noncomputable def o184 (P : Params) : Obj := (PySem.Obj.mk (.type "StopIteration") .none (.fields (List.toArray [(.ref 183), .none, .none, .none, (.bool .false), .none])) (List.toArray []))
noncomputable def o185 (P : Params) : Obj := (PySem.Obj.mk (.type "tuple") .none (.seq (List.toArray [(.int 10 452), (.int 1 453)]) 0) (List.toArray []))
noncomputable def o186 (P : Params) : Obj := (PySem.Obj.mk (.type "tuple") .none (.seq (List.toArray [(.ref 185)]) 0) (List.toArray []))
noncomputable def o187 (P : Params) : Obj := (PySem.Obj.mk (.type "tuple") .none (.seq (List.toArray []) 0) (List.toArray []))
noncomputable def o188 (P : Params) : Obj := (PySem.Obj.mk .none .none (.fields (List.toArray [])) (List.toArray []))
noncomputable def o189 (P : Params) : Obj := (PySem.Obj.mk (.type "tuple") .none (.seq (List.toArray [(.str (Str.ofString "self") 457), (.str (Str.ofString "ground") 458)]) 0) (List.toArray []))
noncomputable def o190 (P : Params) : Obj := (PySem.Obj.mk (.type "tuple") .none (.seq (List.toArray []) 0) (List.toArray []))
noncomputable def o191 (P : Params) : Obj := (PySem.Obj.mk .none .none (.func (FuncData.mk (Str.ofString "__init__") (Str.ofString "Net.__init__") fa26_0.1 (.stmts fb26_0.1) fs26_0.1 0 [] .none .none .none .none .none .none .none 0)) (List.toArray []))
noncomputable def o192 (P : Params) : Obj := (PySem.Obj.mk (.type "code") .none (.fields (List.toArray [(.str (Str.ofString "__init__") 454), (.str (Str.ofString "Net.__init__") 455), (.str (Str.ofString "/claim/cut.py") 456), (.int 98 0), (.int 2 0), (.int 0 0), (.int 0 0), (.int 3 0), (.ref 187), (.bool .true), (.int 181 0), (.ref 188), .none, (.ref 189), (.ref 190), (.ref 191), (.int 459 0), (.int 98 0), (.str (Str.ofString "/claim/cut.py") 460)])) (List.toArray []))
noncomputable def o193 (P : Params) : Obj := (PySem.Obj.mk (.type "function") .none (.func (FuncData.mk (Str.ofString "__init__") (Str.ofString "Net.__init__") fa26_0.1 (.stmts fb26_0.1) fs26_0.1 3 [] (.ref 186) .none .none (.str (Str.ofString "heatnet.net") 328) .none (.ref 192) .none 0)) (List.toArray []))
noncomputable def o194 (P : Params) : Obj := (PySem.Obj.mk (.type "tuple") .none (.seq (List.toArray []) 0) (List.toArray []))
noncomputable def o195 (P : Params) : Obj := (PySem.Obj.mk .none .none (.fields (List.toArray [])) (List.toArray []))
noncomputable def o196 (P : Params) : Obj := (PySem.Obj.mk (.type "tuple") .none (.seq (List.toArray [(.str (Str.ofString "self") 465), (.str (Str.ofString "name") 466)]) 0) (List.toArray []))
noncomputable def o197 (P : Params) : Obj := (PySem.Obj.mk (.type "tuple") .none (.seq (List.toArray []) 0) (List.toArray []))
noncomputable def o198 (P : Params) : Obj := (PySem.Obj.mk .none .none (.func (FuncData.mk (Str.ofString "add_joint") (Str.ofString "Net.add_joint") fa26_1.1 (.stmts fb26_1.1) fs26_1.1 0 [] .none .none .none .none .none .none .none 0)) (List.toArray []))
noncomputable def o199 (P : Params) : Obj := (PySem.Obj.mk (.type "code") .none (.fields (List.toArray [(.str (Str.ofString "add_joint") 462), (.str (Str.ofString "Net.add_joint") 463), (.str (Str.ofString "/claim/cut.py") 464), (.int 106 0), (.int 2 0), (.int 0 0), (.int 0 0), (.int 3 0), (.ref 194), (.bool .true), (.int 181 0), (.ref 195), .none, (.ref 196), (.ref 197), (.ref 198), (.int 467 0), (.int 106 0), (.str (Str.ofString "/claim/cut.py") 468)])) (List.toArray []))
noncomputable def o200 (P : Params) : Obj := (PySem.Obj.mk (.type "function") .none (.func (FuncData.mk (Str.ofString "add_joint") (Str.ofString "Net.add_joint") fa26_1.1 (.stmts fb26_1.1) fs26_1.1 3 [] .none .none .none (.str (Str.ofString "heatnet.net") 328) .none (.ref 199) .none 0)) (List.toArray []))
noncomputable def o201 (P : Params) : Obj := (PySem.Obj.mk (.type "tuple") .none (.seq (List.toArray []) 0) (List.toArray []))
noncomputable def o202 (P : Params) : Obj := (PySem.Obj.mk .none .none (.fields (List.toArray [])) (List.toArray []))
noncomputable def o203 (P : Params) : Obj := (PySem.Obj.mk (.type "tuple") .none (.seq (List.toArray [(.str (Str.ofString "self") 473), (.str (Str.ofString "name") 474)]) 0) (List.toArray []))
noncomputable def o204 (P : Params) : Obj := (PySem.Obj.mk (.type "tuple") .none (.seq (List.toArray []) 0) (List.toArray []))
noncomputable def o205 (P : Params) : Obj := (PySem.Obj.mk .none .none (.func (FuncData.mk (Str.ofString "need_joint") (Str.ofString "Net.need_joint") fa26_2.1 (.stmts fb26_2.1) fs26_2.1 0 [] .none .none .none .none .none .none .none 0)) (List.toArray []))
noncomputable def o206 (P : Params) : Obj := (PySem.Obj.mk (.type "code") .none (.fields (List.toArray [(.str (Str.ofString "need_joint") 470), (.str (Str.ofString "Net.need_joint") 471), (.str (Str.ofString "/claim/cut.py") 472), (.int 113 0), (.int 2 0), (.int 0 0), (.int 0 0), (.int 3 0), (.ref 201), (.bool .true), (.int 181 0), (.ref 202), .none, (.ref 203), (.ref 204), (.ref 205), (.int 475 0), (.int 113 0), (.str (Str.ofString "/claim/cut.py") 476)])) (List.toArray []))
noncomputable def o207 (P : Params) : Obj := (PySem.Obj.mk (.type "function") .none (.func (FuncData.mk (Str.ofString "need_joint") (Str.ofString "Net.need_joint") fa26_2.1 (.stmts fb26_2.1) fs26_2.1 3 [] .none .none .none (.str (Str.ofString "heatnet.net") 328) .none (.ref 206) .none 0)) (List.toArray []))
noncomputable def o208 (P : Params) : Obj := (PySem.Obj.mk (.type "tuple") .none (.seq (List.toArray []) 0) (List.toArray []))
noncomputable def o209 (P : Params) : Obj := (PySem.Obj.mk .none .none (.fields (List.toArray [])) (List.toArray []))
noncomputable def o210 (P : Params) : Obj := (PySem.Obj.mk (.type "tuple") .none (.seq (List.toArray [(.str (Str.ofString "self") 481), (.str (Str.ofString "name") 482), (.str (Str.ofString "start") 483), (.str (Str.ofString "end") 484), (.str (Str.ofString "length") 485), (.str (Str.ofString "resistance") 486), (.str (Str.ofString "loss") 487), (.str (Str.ofString "litres") 488)]) 0) (List.toArray []))
noncomputable def o211 (P : Params) : Obj := (PySem.Obj.mk (.type "tuple") .none (.seq (List.toArray []) 0) (List.toArray []))
noncomputable def o212 (P : Params) : Obj := (PySem.Obj.mk .none .none (.func (FuncData.mk (Str.ofString "add_pipe") (Str.ofString "Net.add_pipe") fa26_3.1 (.stmts fb26_3.1) fs26_3.1 0 [] .none .none .none .none .none .none .none 0)) (List.toArray []))
noncomputable def o213 (P : Params) : Obj := (PySem.Obj.mk (.type "code") .none (.fields (List.toArray [(.str (Str.ofString "add_pipe") 478), (.str (Str.ofString "Net.add_pipe") 479), (.str (Str.ofString "/claim/cut.py") 480), (.int 118 0), (.int 8 0), (.int 0 0), (.int 0 0), (.int 3 0), (.ref 208), (.bool .true), (.int 181 0), (.ref 209), .none, (.ref 210), (.ref 211), (.ref 212), (.int 489 0), (.int 118 0), (.str (Str.ofString "/claim/cut.py") 490)])) (List.toArray []))
noncomputable def o214 (P : Params) : Obj := (PySem.Obj.mk (.type "function") .none (.func (FuncData.mk (Str.ofString "add_pipe") (Str.ofString "Net.add_pipe") fa26_3.1 (.stmts fb26_3.1) fs26_3.1 3 [] .none .none .none (.str (Str.ofString "heatnet.net") 328) .none (.ref 213) .none 0)) (List.toArray []))
noncomputable def o215 (P : Params) : Obj := (PySem.Obj.mk (.type "tuple") .none (.seq (List.toArray []) 0) (List.toArray []))
noncomputable def o216 (P : Params) : Obj := (PySem.Obj.mk .none .none (.fields (List.toArray [])) (List.toArray []))
noncomputable def o217 (P : Params) : Obj := (PySem.Obj.mk (.type "tuple") .none (.seq (List.toArray [(.str (Str.ofString "self") 495), (.str (Str.ofString "name") 496)]) 0) (List.toArray []))
noncomputable def o218 (P : Params) : Obj := (PySem.Obj.mk (.type "tuple") .none (.seq (List.toArray []) 0) (List.toArray []))
noncomputable def o219 (P : Params) : Obj := (PySem.Obj.mk .none .none (.func (FuncData.mk (Str.ofString "pipe") (Str.ofString "Net.pipe") fa26_4.1 (.stmts fb26_4.1) fs26_4.1 0 [] .none .none .none .none .none .none .none 0)) (List.toArray []))
noncomputable def o220 (P : Params) : Obj := (PySem.Obj.mk (.type "code") .none (.fields (List.toArray [(.str (Str.ofString "pipe") 492), (.str (Str.ofString "Net.pipe") 493), (.str (Str.ofString "/claim/cut.py") 494), (.int 132 0), (.int 2 0), (.int 0 0), (.int 0 0), (.int 3 0), (.ref 215), (.bool .true), (.int 181 0), (.ref 216), .none, (.ref 217), (.ref 218), (.ref 219), (.int 497 0), (.int 132 0), (.str (Str.ofString "/claim/cut.py") 498)])) (List.toArray []))
noncomputable def o221 (P : Params) : Obj := (PySem.Obj.mk (.type "function") .none (.func (FuncData.mk (Str.ofString "pipe") (Str.ofString "Net.pipe") fa26_4.1 (.stmts fb26_4.1) fs26_4.1 3 [] .none .none .none (.str (Str.ofString "heatnet.net") 328) .none (.ref 220) .none 0)) (List.toArray []))
noncomputable def o222 (P : Params) : Obj := (PySem.Obj.mk (.type "tuple") .none (.seq (List.toArray [(.ref 56)]) 0) (List.toArray []))
noncomputable def o223 (P : Params) : Obj := (PySem.Obj.mk (.type "tuple") .none (.seq (List.toArray []) 0) (List.toArray []))
noncomputable def o224 (P : Params) : Obj := (PySem.Obj.mk .none .none (.fields (List.toArray [])) (List.toArray []))
noncomputable def o225 (P : Params) : Obj := (PySem.Obj.mk (.type "tuple") .none (.seq (List.toArray [(.str (Str.ofString "self") 503), (.str (Str.ofString "name") 504), (.str (Str.ofString "joint") 505), (.str (Str.ofString "demands") 506), (.str (Str.ofString "drop") 507), (.str (Str.ofString "least") 508), (.str (Str.ofString "one") 509)]) 0) (List.toArray []))
noncomputable def o226 (P : Params) : Obj := (PySem.Obj.mk (.type "tuple") .none (.seq (List.toArray []) 0) (List.toArray []))
noncomputable def o227 (P : Params) : Obj := (PySem.Obj.mk .none .none (.func (FuncData.mk (Str.ofString "add_consumer") (Str.ofString "Net.add_consumer") fa26_5.1 (.stmts fb26_5.1) fs26_5.1 0 [] .none .none .none .none .none .none .none 0)) (List.toArray []))
noncomputable def o228 (P : Params) : Obj := (PySem.Obj.mk (.type "code") .none (.fields (List.toArray [(.str (Str.ofString "add_consumer") 500), (.str (Str.ofString "Net.add_consumer") 501), (.str (Str.ofString "/claim/cut.py") 502), (.int 137 0), (.int 6 0), (.int 0 0), (.int 0 0), (.int 3 0), (.ref 223), (.bool .true), (.int 181 0), (.ref 224), .none, (.ref 225), (.ref 226), (.ref 227), (.int 510 0), (.int 137 0), (.str (Str.ofString "/claim/cut.py") 511)])) (List.toArray []))
noncomputable def o229 (P : Params) : Obj := (PySem.Obj.mk (.type "function") .none (.func (FuncData.mk (Str.ofString "add_consumer") (Str.ofString "Net.add_consumer") fa26_5.1 (.stmts fb26_5.1) fs26_5.1 3 [] (.ref 222) .none .none (.str (Str.ofString "heatnet.net") 328) .none (.ref 228) .none 0)) (List.toArray []))
noncomputable def o230 (P : Params) : Obj := (PySem.Obj.mk (.type "tuple") .none (.seq (List.toArray []) 0) (List.toArray []))
noncomputable def o231 (P : Params) : Obj := (PySem.Obj.mk .none .none (.fields (List.toArray [])) (List.toArray []))
noncomputable def o232 (P : Params) : Obj := (PySem.Obj.mk (.type "tuple") .none (.seq (List.toArray [(.str (Str.ofString "self") 516), (.str (Str.ofString "name") 517)]) 0) (List.toArray []))
noncomputable def o233 (P : Params) : Obj := (PySem.Obj.mk (.type "tuple") .none (.seq (List.toArray []) 0) (List.toArray []))
noncomputable def o234 (P : Params) : Obj := (PySem.Obj.mk .none .none (.func (FuncData.mk (Str.ofString "consumer") (Str.ofString "Net.consumer") fa26_6.1 (.stmts fb26_6.1) fs26_6.1 0 [] .none .none .none .none .none .none .none 0)) (List.toArray []))
noncomputable def o235 (P : Params) : Obj := (PySem.Obj.mk (.type "code") .none (.fields (List.toArray [(.str (Str.ofString "consumer") 513), (.str (Str.ofString "Net.consumer") 514), (.str (Str.ofString "/claim/cut.py") 515), (.int 149 0), (.int 2 0), (.int 0 0), (.int 0 0), (.int 3 0), (.ref 230), (.bool .true), (.int 181 0), (.ref 231), .none, (.ref 232), (.ref 233), (.ref 234), (.int 518 0), (.int 149 0), (.str (Str.ofString "/claim/cut.py") 519)])) (List.toArray []))
noncomputable def o236 (P : Params) : Obj := (PySem.Obj.mk (.type "function") .none (.func (FuncData.mk (Str.ofString "consumer") (Str.ofString "Net.consumer") fa26_6.1 (.stmts fb26_6.1) fs26_6.1 3 [] .none .none .none (.str (Str.ofString "heatnet.net") 328) .none (.ref 235) .none 0)) (List.toArray []))
noncomputable def o237 (P : Params) : Obj := (PySem.Obj.mk (.type "tuple") .none (.seq (List.toArray []) 0) (List.toArray []))
noncomputable def o238 (P : Params) : Obj := (PySem.Obj.mk .none .none (.fields (List.toArray [])) (List.toArray []))
noncomputable def o239 (P : Params) : Obj := (PySem.Obj.mk (.type "tuple") .none (.seq (List.toArray [(.str (Str.ofString "self") 524), (.str (Str.ofString "joint") 525), (.str (Str.ofString "litres") 526)]) 0) (List.toArray []))
noncomputable def o240 (P : Params) : Obj := (PySem.Obj.mk (.type "tuple") .none (.seq (List.toArray []) 0) (List.toArray []))
noncomputable def o241 (P : Params) : Obj := (PySem.Obj.mk .none .none (.func (FuncData.mk (Str.ofString "add_bypass") (Str.ofString "Net.add_bypass") fa26_7.1 (.stmts fb26_7.1) fs26_7.1 0 [] .none .none .none .none .none .none .none 0)) (List.toArray []))
noncomputable def o242 (P : Params) : Obj := (PySem.Obj.mk (.type "code") .none (.fields (List.toArray [(.str (Str.ofString "add_bypass") 521), (.str (Str.ofString "Net.add_bypass") 522), (.str (Str.ofString "/claim/cut.py") 523), (.int 154 0), (.int 3 0), (.int 0 0), (.int 0 0), (.int 3 0), (.ref 237), (.bool .true), (.int 181 0), (.ref 238), .none, (.ref 239), (.ref 240), (.ref 241), (.int 527 0), (.int 154 0), (.str (Str.ofString "/claim/cut.py") 528)])) (List.toArray []))
noncomputable def o243 (P : Params) : Obj := (PySem.Obj.mk (.type "function") .none (.func (FuncData.mk (Str.ofString "add_bypass") (Str.ofString "Net.add_bypass") fa26_7.1 (.stmts fb26_7.1) fs26_7.1 3 [] .none .none .none (.str (Str.ofString "heatnet.net") 328) .none (.ref 242) .none 0)) (List.toArray []))
noncomputable def o244 (P : Params) : Obj := (PySem.Obj.mk (.type "tuple") .none (.seq (List.toArray []) 0) (List.toArray []))
noncomputable def o245 (P : Params) : Obj := (PySem.Obj.mk .none .none (.fields (List.toArray [])) (List.toArray []))
noncomputable def o246 (P : Params) : Obj := (PySem.Obj.mk (.type "tuple") .none (.seq (List.toArray [(.str (Str.ofString "self") 533), (.str (Str.ofString "name") 534), (.str (Str.ofString "is_open") 535)]) 0) (List.toArray []))
noncomputable def o247 (P : Params) : Obj := (PySem.Obj.mk (.type "tuple") .none (.seq (List.toArray []) 0) (List.toArray []))
noncomputable def o248 (P : Params) : Obj := (PySem.Obj.mk .none .none (.func (FuncData.mk (Str.ofString "set_valve") (Str.ofString "Net.set_valve") fa26_8.1 (.stmts fb26_8.1) fs26_8.1 0 [] .none .none .none .none .none .none .none 0)) (List.toArray []))
noncomputable def o249 (P : Params) : Obj := (PySem.Obj.mk (.type "code") .none (.fields (List.toArray [(.str (Str.ofString "set_valve") 530), (.str (Str.ofString "Net.set_valve") 531), (.str (Str.ofString "/claim/cut.py") 532), (.int 157 0), (.int 3 0), (.int 0 0), (.int 0 0), (.int 3 0), (.ref 244), (.bool .true), (.int 181 0), (.ref 245), .none, (.ref 246), (.ref 247), (.ref 248), (.int 536 0), (.int 157 0), (.str (Str.ofString "/claim/cut.py") 537)])) (List.toArray []))
noncomputable def o250 (P : Params) : Obj := (PySem.Obj.mk (.type "function") .none (.func (FuncData.mk (Str.ofString "set_valve") (Str.ofString "Net.set_valve") fa26_8.1 (.stmts fb26_8.1) fs26_8.1 3 [] .none .none .none (.str (Str.ofString "heatnet.net") 328) .none (.ref 249) .none 0)) (List.toArray []))
noncomputable def o251 (P : Params) : Obj := (PySem.Obj.mk (.type "tuple") .none (.seq (List.toArray []) 0) (List.toArray []))
noncomputable def o252 (P : Params) : Obj := (PySem.Obj.mk .none .none (.fields (List.toArray [])) (List.toArray []))
noncomputable def o253 (P : Params) : Obj := (PySem.Obj.mk .none .none (.func (FuncData.mk (Str.ofString "open_pipes") (Str.ofString "Net.open_pipes") fa26_9.1 (.stmts fb26_9.1) fs26_9.1 0 [] .none .none .none .none .none .none .none 0)) (List.toArray []))
noncomputable def o254 (P : Params) : Obj := (PySem.Obj.mk (.type "code") .none (.fields (List.toArray [(.str (Str.ofString "open_pipes") 539), (.str (Str.ofString "Net.open_pipes") 540), (.str (Str.ofString "/claim/cut.py") 541), (.int 160 0), (.int 1 0), (.int 0 0), (.int 0 0), (.int 3 0), (.ref 251), (.bool .true), (.int 181 0), (.ref 252), .none, .none, .none, (.ref 253), (.int 542 0), (.int 160 0), (.str (Str.ofString "/claim/cut.py") 543)])) (List.toArray []))
noncomputable def o255 (P : Params) : Obj := (PySem.Obj.mk (.type "function") .none (.func (FuncData.mk (Str.ofString "open_pipes") (Str.ofString "Net.open_pipes") fa26_9.1 (.stmts fb26_9.1) fs26_9.1 3 [] .none .none .none (.str (Str.ofString "heatnet.net") 328) .none (.ref 254) .none 0)) (List.toArray []))
noncomputable def o256 (P : Params) : Obj := (PySem.Obj.mk (.type "tuple") .none (.seq (List.toArray []) 0) (List.toArray []))
noncomputable def o257 (P : Params) : Obj := (PySem.Obj.mk .none .none (.fields (List.toArray [])) (List.toArray []))
noncomputable def o258 (P : Params) : Obj := (PySem.Obj.mk .none .none (.func (FuncData.mk (Str.ofString "at") (Str.ofString "Net.at") fa26_10.1 (.stmts fb26_10.1) fs26_10.1 0 [] .none .none .none .none .none .none .none 0)) (List.toArray []))
noncomputable def o259 (P : Params) : Obj := (PySem.Obj.mk (.type "code") .none (.fields (List.toArray [(.str (Str.ofString "at") 545), (.str (Str.ofString "Net.at") 546), (.str (Str.ofString "/claim/cut.py") 547), (.int 163 0), (.int 2 0), (.int 0 0), (.int 0 0), (.int 3 0), (.ref 256), (.bool .true), (.int 181 0), (.ref 257), .none, .none, .none, (.ref 258), (.int 548 0), (.int 163 0), (.str (Str.ofString "/claim/cut.py") 549)])) (List.toArray []))
noncomputable def o260 (P : Params) : Obj := (PySem.Obj.mk (.type "function") .none (.func (FuncData.mk (Str.ofString "at") (Str.ofString "Net.at") fa26_10.1 (.stmts fb26_10.1) fs26_10.1 3 [] .none .none .none (.str (Str.ofString "heatnet.net") 328) .none (.ref 259) .none 0)) (List.toArray []))
noncomputable def o261 (P : Params) : Obj := (PySem.Obj.mk (.type "tuple") .none (.seq (List.toArray []) 0) (List.toArray []))
noncomputable def o262 (P : Params) : Obj := (PySem.Obj.mk .none .none (.fields (List.toArray [])) (List.toArray []))
noncomputable def o263 (P : Params) : Obj := (PySem.Obj.mk (.type "tuple") .none (.seq (List.toArray [(.str (Str.ofString "self") 554), (.str (Str.ofString "pipe") 555), (.str (Str.ofString "joint") 556)]) 0) (List.toArray []))
noncomputable def o264 (P : Params) : Obj := (PySem.Obj.mk (.type "tuple") .none (.seq (List.toArray []) 0) (List.toArray []))
noncomputable def o265 (P : Params) : Obj := (PySem.Obj.mk .none .none (.func (FuncData.mk (Str.ofString "far") (Str.ofString "Net.far") fa26_11.1 (.stmts fb26_11.1) fs26_11.1 0 [] .none .none .none .none .none .none .none 0)) (List.toArray []))
noncomputable def o266 (P : Params) : Obj := (PySem.Obj.mk (.type "code") .none (.fields (List.toArray [(.str (Str.ofString "far") 551), (.str (Str.ofString "Net.far") 552), (.str (Str.ofString "/claim/cut.py") 553), (.int 166 0), (.int 3 0), (.int 0 0), (.int 0 0), (.int 3 0), (.ref 261), (.bool .true), (.int 181 0), (.ref 262), .none, (.ref 263), (.ref 264), (.ref 265), (.int 557 0), (.int 166 0), (.str (Str.ofString "/claim/cut.py") 558)])) (List.toArray []))
noncomputable def o267 (P : Params) : Obj := (PySem.Obj.mk (.type "function") .none (.func (FuncData.mk (Str.ofString "far") (Str.ofString "Net.far") fa26_11.1 (.stmts fb26_11.1) fs26_11.1 3 [] .none .none .none (.str (Str.ofString "heatnet.net") 328) .none (.ref 266) .none 0)) (List.toArray []))
noncomputable def o268 (P : Params) : Obj := (PySem.Obj.mk (.type "tuple") .none (.seq (List.toArray []) 0) (List.toArray []))
noncomputable def o269 (P : Params) : Obj := (PySem.Obj.mk .none .none (.fields (List.toArray [])) (List.toArray []))
noncomputable def o270 (P : Params) : Obj := (PySem.Obj.mk (.type "tuple") .none (.seq (List.toArray [(.str (Str.ofString "self") 563), (.str (Str.ofString "out") 564), (.str (Str.ofString "joint") 565), (.str (Str.ofString "pipe") 566)]) 0) (List.toArray []))
noncomputable def o271 (P : Params) : Obj := (PySem.Obj.mk (.type "tuple") .none (.seq (List.toArray []) 0) (List.toArray []))
noncomputable def o272 (P : Params) : Obj := (PySem.Obj.mk .none .none (.func (FuncData.mk (Str.ofString "fed") (Str.ofString "Net.fed") fa26_12.1 (.stmts fb26_12.1) fs26_12.1 0 [] .none .none .none .none .none .none .none 0)) (List.toArray []))
noncomputable def o273 (P : Params) : Obj := (PySem.Obj.mk (.type "code") .none (.fields (List.toArray [(.str (Str.ofString "fed") 560), (.str (Str.ofString "Net.fed") 561), (.str (Str.ofString "/claim/cut.py") 562), (.int 169 0), (.int 1 0), (.int 0 0), (.int 0 0), (.int 3 0), (.ref 268), (.bool .true), (.int 181 0), (.ref 269), .none, (.ref 270), (.ref 271), (.ref 272), (.int 567 0), (.int 169 0), (.str (Str.ofString "/claim/cut.py") 568)])) (List.toArray []))
noncomputable def o274 (P : Params) : Obj := (PySem.Obj.mk (.type "function") .none (.func (FuncData.mk (Str.ofString "fed") (Str.ofString "Net.fed") fa26_12.1 (.stmts fb26_12.1) fs26_12.1 3 [] .none .none .none (.str (Str.ofString "heatnet.net") 328) .none (.ref 273) .none 0)) (List.toArray []))
noncomputable def o275 (P : Params) : Obj := (PySem.Obj.mk (.type "tuple") .none (.seq (List.toArray []) 0) (List.toArray []))
noncomputable def o276 (P : Params) : Obj := (PySem.Obj.mk .none .none (.fields (List.toArray [])) (List.toArray []))
noncomputable def o277 (P : Params) : Obj := (PySem.Obj.mk (.type "tuple") .none (.seq (List.toArray [(.str (Str.ofString "self") 573)]) 0) (List.toArray []))
noncomputable def o278 (P : Params) : Obj := (PySem.Obj.mk (.type "tuple") .none (.seq (List.toArray []) 0) (List.toArray []))
noncomputable def o279 (P : Params) : Obj := (PySem.Obj.mk .none .none (.func (FuncData.mk (Str.ofString "rings") (Str.ofString "Net.rings") fa26_13.1 (.stmts fb26_13.1) fs26_13.1 0 [] .none .none .none .none .none .none .none 0)) (List.toArray []))
noncomputable def o280 (P : Params) : Obj := (PySem.Obj.mk (.type "code") .none (.fields (List.toArray [(.str (Str.ofString "rings") 570), (.str (Str.ofString "Net.rings") 571), (.str (Str.ofString "/claim/cut.py") 572), (.int 179 0), (.int 1 0), (.int 0 0), (.int 0 0), (.int 3 0), (.ref 275), (.bool .true), (.int 181 0), (.ref 276), .none, (.ref 277), (.ref 278), (.ref 279), (.int 574 0), (.int 179 0), (.str (Str.ofString "/claim/cut.py") 575)])) (List.toArray []))
noncomputable def o281 (P : Params) : Obj := (PySem.Obj.mk (.type "function") .none (.func (FuncData.mk (Str.ofString "rings") (Str.ofString "Net.rings") fa26_13.1 (.stmts fb26_13.1) fs26_13.1 3 [] .none .none .none (.str (Str.ofString "heatnet.net") 328) .none (.ref 280) .none 0)) (List.toArray []))
noncomputable def o282 (P : Params) : Obj := (PySem.Obj.mk (.type "tuple") .none (.seq (List.toArray []) 0) (List.toArray []))
noncomputable def o283 (P : Params) : Obj := (PySem.Obj.mk .none .none (.fields (List.toArray [])) (List.toArray []))
noncomputable def o284 (P : Params) : Obj := (PySem.Obj.mk (.type "tuple") .none (.seq (List.toArray [(.str (Str.ofString "self") 580)]) 0) (List.toArray []))
noncomputable def o285 (P : Params) : Obj := (PySem.Obj.mk (.type "tuple") .none (.seq (List.toArray []) 0) (List.toArray []))
noncomputable def o286 (P : Params) : Obj := (PySem.Obj.mk .none .none (.func (FuncData.mk (Str.ofString "unfed") (Str.ofString "Net.unfed") fa26_14.1 (.stmts fb26_14.1) fs26_14.1 0 [] .none .none .none .none .none .none .none 0)) (List.toArray []))
noncomputable def o287 (P : Params) : Obj := (PySem.Obj.mk (.type "code") .none (.fields (List.toArray [(.str (Str.ofString "unfed") 577), (.str (Str.ofString "Net.unfed") 578), (.str (Str.ofString "/claim/cut.py") 579), (.int 182 0), (.int 1 0), (.int 0 0), (.int 0 0), (.int 3 0), (.ref 282), (.bool .true), (.int 181 0), (.ref 283), .none, (.ref 284), (.ref 285), (.ref 286), (.int 581 0), (.int 182 0), (.str (Str.ofString "/claim/cut.py") 582)])) (List.toArray []))
noncomputable def o288 (P : Params) : Obj := (PySem.Obj.mk (.type "function") .none (.func (FuncData.mk (Str.ofString "unfed") (Str.ofString "Net.unfed") fa26_14.1 (.stmts fb26_14.1) fs26_14.1 3 [] .none .none .none (.str (Str.ofString "heatnet.net") 328) .none (.ref 287) .none 0)) (List.toArray []))
noncomputable def o289 (P : Params) : Obj := (PySem.Obj.mk (.type "tuple") .none (.seq (List.toArray []) 0) (List.toArray []))
noncomputable def o290 (P : Params) : Obj := (PySem.Obj.mk .none .none (.fields (List.toArray [])) (List.toArray []))
noncomputable def o291 (P : Params) : Obj := (PySem.Obj.mk (.type "tuple") .none (.seq (List.toArray [(.str (Str.ofString "self") 587)]) 0) (List.toArray []))
noncomputable def o292 (P : Params) : Obj := (PySem.Obj.mk (.type "tuple") .none (.seq (List.toArray []) 0) (List.toArray []))
noncomputable def o293 (P : Params) : Obj := (PySem.Obj.mk .none .none (.func (FuncData.mk (Str.ofString "lines") (Str.ofString "Net.lines") fa26_15.1 (.stmts fb26_15.1) fs26_15.1 0 [] .none .none .none .none .none .none .none 0)) (List.toArray []))
noncomputable def o294 (P : Params) : Obj := (PySem.Obj.mk (.type "code") .none (.fields (List.toArray [(.str (Str.ofString "lines") 584), (.str (Str.ofString "Net.lines") 585), (.str (Str.ofString "/claim/cut.py") 586), (.int 185 0), (.int 1 0), (.int 0 0), (.int 0 0), (.int 3 0), (.ref 289), (.bool .true), (.int 181 0), (.ref 290), .none, (.ref 291), (.ref 292), (.ref 293), (.int 588 0), (.int 185 0), (.str (Str.ofString "/claim/cut.py") 589)])) (List.toArray []))
noncomputable def o295 (P : Params) : Obj := (PySem.Obj.mk (.type "function") .none (.func (FuncData.mk (Str.ofString "lines") (Str.ofString "Net.lines") fa26_15.1 (.stmts fb26_15.1) fs26_15.1 3 [] .none .none .none (.str (Str.ofString "heatnet.net") 328) .none (.ref 294) .none 0)) (List.toArray []))
noncomputable def o296 (P : Params) : Obj := (PySem.Obj.mk (.type "tuple") .none (.seq (List.toArray [(.str (Str.ofString "bypasses") 591), (.str (Str.ofString "consumers") 592), (.str (Str.ofString "ground") 593), (.str (Str.ofString "joints") 594), (.str (Str.ofString "pipes") 595), (.str (Str.ofString "source") 596)]) 0) (List.toArray []))
noncomputable def o297 (P : Params) : Obj := (PySem.Obj.mk (.type "dict") .none (.dict (List.toArray [(.mk (PySem.PyData.keyHash P (Str.ofString "__module__")) (.str (Str.ofString "__module__") 430) (.str (Str.ofString "heatnet.net") 328)), (.mk (PySem.PyData.keyHash P (Str.ofString "__firstlineno__")) (.str (Str.ofString "__firstlineno__") 434) (.int 96 433)), (.mk (PySem.PyData.keyHash P (Str.ofString "__init__")) (.str (Str.ofString "__init__") 461) (.ref 193)), (.mk (PySem.PyData.keyHash P (Str.ofString "add_joint")) (.str (Str.ofString "add_joint") 469) (.ref 200)), (.mk (PySem.PyData.keyHash P (Str.ofString "need_joint")) (.str (Str.ofString "need_joint") 477) (.ref 207)), (.mk (PySem.PyData.keyHash P (Str.ofString "add_pipe")) (.str (Str.ofString "add_pipe") 491) (.ref 214)), (.mk (PySem.PyData.keyHash P (Str.ofString "pipe")) (.str (Str.ofString "pipe") 499) (.ref 221)), (.mk (PySem.PyData.keyHash P (Str.ofString "add_consumer")) (.str (Str.ofString "add_consumer") 512) (.ref 229)), (.mk (PySem.PyData.keyHash P (Str.ofString "consumer")) (.str (Str.ofString "consumer") 520) (.ref 236)), (.mk (PySem.PyData.keyHash P (Str.ofString "add_bypass")) (.str (Str.ofString "add_bypass") 529) (.ref 243)), (.mk (PySem.PyData.keyHash P (Str.ofString "set_valve")) (.str (Str.ofString "set_valve") 538) (.ref 250)), (.mk (PySem.PyData.keyHash P (Str.ofString "open_pipes")) (.str (Str.ofString "open_pipes") 544) (.ref 255)), (.mk (PySem.PyData.keyHash P (Str.ofString "at")) (.str (Str.ofString "at") 550) (.ref 260)), (.mk (PySem.PyData.keyHash P (Str.ofString "far")) (.str (Str.ofString "far") 559) (.ref 267)), (.mk (PySem.PyData.keyHash P (Str.ofString "fed")) (.str (Str.ofString "fed") 569) (.ref 274)), (.mk (PySem.PyData.keyHash P (Str.ofString "rings")) (.str (Str.ofString "rings") 576) (.ref 281)), (.mk (PySem.PyData.keyHash P (Str.ofString "unfed")) (.str (Str.ofString "unfed") 583) (.ref 288)), (.mk (PySem.PyData.keyHash P (Str.ofString "lines")) (.str (Str.ofString "lines") 590) (.ref 295)), (.mk (PySem.PyData.keyHash P (Str.ofString "__static_attributes__")) (.str (Str.ofString "__static_attributes__") 597) (.ref 296)), (.mk (PySem.PyData.keyHash P (Str.ofString "__dict__")) (.str (Str.ofString "__dict__") 599) (.ref 299)), (.mk (PySem.PyData.keyHash P (Str.ofString "__weakref__")) (.str (Str.ofString "__weakref__") 601) (.ref 300)), (.mk (PySem.PyData.keyHash P (Str.ofString "__doc__")) (.str (Str.ofString "__doc__") 602) .none)]) 4) (List.toArray []))
noncomputable def o298 (P : Params) : Obj := (PySem.Obj.mk (.type "type") .none (.cls (.mk (Str.ofString "Net") [(.type "object")] [(.ref 298), (.type "object")] 297 (Str.ofString "Net") .true [] [] .false .none .false)) (List.toArray [.none, .none, (.some (.str (Str.ofString "Net") 423)), (.some (.str (Str.ofString "Net") 431)), (.some (.builtin "object.__new__")), (.some (.bool .true))]))
noncomputable def o299 (P : Params) : Obj := (PySem.Obj.mk (.type "getset_descriptor") .none (.fields (List.toArray [(.str (Str.ofString "__dict__") 598), (.ref 298), (.builtin "function.__dict__"), (.builtin "function.__dict__#set")])) (List.toArray []))
noncomputable def o300 (P : Params) : Obj := (PySem.Obj.mk (.type "getset_descriptor") .none (.fields (List.toArray [(.str (Str.ofString "__weakref__") 600), (.ref 298), (.builtin "ExceptionGroup.__weakref__"), .none])) (List.toArray []))
noncomputable def o301 (P : Params) : Obj := (PySem.Obj.mk (.type "super") .none (.fields (List.toArray [(.ref 298), (.ref 298), (.ref 298)])) (List.toArray []))
noncomputable def o302 (P : Params) : Obj := (PySem.Obj.mk (.type "builtin_function_or_method") .none (.fields (List.toArray [(.builtin "object.__init_subclass__"), (.ref 298)])) (List.toArray []))
noncomputable def t4 (P : Params) : BT := (.node (boot_o_0 P) (.node (boot_o_1 P) (.node (o3v4 P) (.node (boot_o_7 P) (.node (o15 P) (.node (o31 P) (.node (o63 P) (.node (o127 P) (lf (o255 P)) .nil) (lf (o191 P))) (.node (o95 P) (.node (o159 P) (lf (o287 P)) .nil) (lf (o223 P)))) (.node (o47 P) (.node (o79 P) (.node (o143 P) (lf (o271 P)) .nil) (lf (o207 P))) (.node (o111 P) (lf (o175 P)) (lf (o239 P))))) (.node (o23 P) (.node (o39 P) (.node (o71 P) (.node (o135 P) (lf (o263 P)) .nil) (lf (o199 P))) (.node (o103 P) (.node (o167 P) (lf (o295 P)) .nil) (lf (o231 P)))) (.node (o55 P) (.node (o87 P) (.node (o151 P) (lf (o279 P)) .nil) (lf (o215 P))) (.node (o119 P) (lf (o183 P)) (lf (o247 P)))))) (.node (o11 P) (.node (o19 P) (.node (o35 P) (.node (o67 P) (.node (o131 P) (lf (o259 P)) .nil) (lf (o195 P))) (.node (o99 P) (.node (o163 P) (lf (o291 P)) .nil) (lf (o227 P)))) (.node (o51 P) (.node (o83 P) (.node (o147 P) (lf (o275 P)) .nil) (lf (o211 P))) (.node (o115 P) (lf (o179 P)) (lf (o243 P))))) (.node (o27 P) (.node (o43 P) (.node (o75 P) (.node (o139 P) (lf (o267 P)) .nil) (lf (o203 P))) (.node (o107 P) (.node (o171 P) (lf (o299 P)) .nil) (lf (o235 P)))) (.node (o59 P) (.node (o91 P) (.node (o155 P) (lf (o283 P)) .nil) (lf (o219 P))) (.node (o123 P) (lf (o187 P)) (lf (o251 P))))))) (.node (boot_o_5 P) (.node (boot_o_9 P) (.node (o17 P) (.node (o33 P) (.node (o65 P) (.node (o129 P) (lf (o257 P)) .nil) (lf (o193 P))) (.node (o97 P) (.node (o161 P) (lf (o289 P)) .nil) (lf (o225 P)))) (.node (o49 P) (.node (o81 P) (.node (o145 P) (lf (o273 P)) .nil) (lf (o209 P))) (.node (o113 P) (lf (o177 P)) (lf (o241 P))))) (.node (o25 P) (.node (o41 P) (.node (o73 P) (.node (o137 P) (lf (o265 P)) .nil) (lf (o201 P))) (.node (o105 P) (.node (o169 P) (lf (o297 P)) .nil) (lf (o233 P)))) (.node (o57 P) (.node (o89 P) (.node (o153 P) (lf (o281 P)) .nil) (lf (o217 P))) (.node (o121 P) (lf (o185 P)) (lf (o249 P)))))) (.node (o13 P) (.node (o21 P) (.node (o37 P) (.node (o69 P) (.node (o133 P) (lf (o261 P)) .nil) (lf (o197 P))) (.node (o101 P) (.node (o165 P) (lf (o293 P)) .nil) (lf (o229 P)))) (.node (o53 P) (.node (o85 P) (.node (o149 P) (lf (o277 P)) .nil) (lf (o213 P))) (.node (o117 P) (lf (o181 P)) (lf (o245 P))))) (.node (o29 P) (.node (o45 P) (.node (o77 P) (.node (o141 P) (lf (o269 P)) .nil) (lf (o205 P))) (.node (o109 P) (.node (o173 P) (lf (o301 P)) .nil) (lf (o237 P)))) (.node (o61 P) (.node (o93 P) (.node (o157 P) (lf (o285 P)) .nil) (lf (o221 P))) (.node (o125 P) (lf (o189 P)) (lf (o253 P)))))))) (.node (boot_o_2 P) (.node (boot_o_4 P) (.node (boot_o_8 P) (.node (o16 P) (.node (o32 P) (.node (o64 P) (.node (o128 P) (lf (o256 P)) .nil) (lf (o192 P))) (.node (o96 P) (.node (o160 P) (lf (o288 P)) .nil) (lf (o224 P)))) (.node (o48 P) (.node (o80 P) (.node (o144 P) (lf (o272 P)) .nil) (lf (o208 P))) (.node (o112 P) (lf (o176 P)) (lf (o240 P))))) (.node (o24 P) (.node (o40 P) (.node (o72 P) (.node (o136 P) (lf (o264 P)) .nil) (lf (o200 P))) (.node (o104 P) (.node (o168 P) (lf (o296 P)) .nil) (lf (o232 P)))) (.node (o56 P) (.node (o88 P) (.node (o152 P) (lf (o280 P)) .nil) (lf (o216 P))) (.node (o120 P) (lf (o184 P)) (lf (o248 P)))))) (.node (o12v5 P) (.node (o20 P) (.node (o36 P) (.node (o68 P) (.node (o132 P) (lf (o260 P)) .nil) (lf (o196 P))) (.node (o100 P) (.node (o164 P) (lf (o292 P)) .nil) (lf (o228 P)))) (.node (o52 P) (.node (o84 P) (.node (o148 P) (lf (o276 P)) .nil) (lf (o212 P))) (.node (o116 P) (lf (o180 P)) (lf (o244 P))))) (.node (o28 P) (.node (o44 P) (.node (o76 P) (.node (o140 P) (lf (o268 P)) .nil) (lf (o204 P))) (.node (o108 P) (.node (o172 P) (lf (o300 P)) .nil) (lf (o236 P)))) (.node (o60 P) (.node (o92 P) (.node (o156 P) (lf (o284 P)) .nil) (lf (o220 P))) (.node (o124 P) (lf (o188 P)) (lf (o252 P))))))) (.node (boot_o_6 P) (.node (boot_o_10 P) (.node (o18 P) (.node (o34 P) (.node (o66 P) (.node (o130 P) (lf (o258 P)) .nil) (lf (o194 P))) (.node (o98 P) (.node (o162 P) (lf (o290 P)) .nil) (lf (o226 P)))) (.node (o50 P) (.node (o82 P) (.node (o146 P) (lf (o274 P)) .nil) (lf (o210 P))) (.node (o114 P) (lf (o178 P)) (lf (o242 P))))) (.node (o26 P) (.node (o42 P) (.node (o74 P) (.node (o138 P) (lf (o266 P)) .nil) (lf (o202 P))) (.node (o106 P) (.node (o170 P) (lf (o298 P)) .nil) (lf (o234 P)))) (.node (o58 P) (.node (o90 P) (.node (o154 P) (lf (o282 P)) .nil) (lf (o218 P))) (.node (o122 P) (lf (o186 P)) (lf (o250 P)))))) (.node (o14 P) (.node (o22 P) (.node (o38 P) (.node (o70 P) (.node (o134 P) (lf (o262 P)) .nil) (lf (o198 P))) (.node (o102 P) (.node (o166 P) (lf (o294 P)) .nil) (lf (o230 P)))) (.node (o54 P) (.node (o86 P) (.node (o150 P) (lf (o278 P)) .nil) (lf (o214 P))) (.node (o118 P) (lf (o182 P)) (lf (o246 P))))) (.node (o30 P) (.node (o46 P) (.node (o78 P) (.node (o142 P) (lf (o270 P)) .nil) (lf (o206 P))) (.node (o110 P) (.node (o174 P) (lf (o302 P)) .nil) (lf (o238 P)))) (.node (o62 P) (.node (o94 P) (.node (o158 P) (lf (o286 P)) .nil) (lf (o222 P))) (.node (o126 P) (lf (o190 P)) (lf (o254 P)))))))))
noncomputable def t4S (P : Params) (os : OsState) : SharedT := ⟨t4 P, 303, (.mk [] [] [] 0 [] [] .false (List.toArray []) [] 0 .false .false .false 0 [2000, 10, 10] .false 0 .true [] [] 0 .false), ⟨[]⟩, (.mk 0 0 0 0), 605, os⟩
set_option maxRecDepth 100000 in
theorem pc4f (w : World) : (fun os => segRunT treeTable pw (w.withFollow "special-get-raises" false) 11 annH 1 1027 (t3S ((w.withFollow "special-get-raises" false)).params os) (piecesOf (((behindTheImports pw).drop 26).take 1) envH cE ((.mk 85 0 95 16) : Pos) [topFrame qH])) = fun os => some (.next, t4S ((w.withFollow "special-get-raises" false)).params os, cE, ((.mk 96 0 186 16) : Pos)) := by
  unfold piecesOf; rw [PySem.W.Fast.te10110043849684766642, PySem.W.Fast.te14364793385576792824, PySem.W.Fast.te12563942051412417395]; kernel_rfl!
set_option maxRecDepth 100000 in
theorem pc4t (w : World) : (fun os => segRunT treeTable pw (w.withFollow "special-get-raises" true) 11 annH 1 1027 (t3S ((w.withFollow "special-get-raises" true)).params os) (piecesOf (((behindTheImports pw).drop 26).take 1) envH cE ((.mk 85 0 95 16) : Pos) [topFrame qH])) = fun os => some (.next, t4S ((w.withFollow "special-get-raises" true)).params os, cE, ((.mk 96 0 186 16) : Pos)) := by
  unfold piecesOf; rw [PySem.W.Fast.te10110043849684766642, PySem.W.Fast.te14364793385576792824, PySem.W.Fast.te12563942051412417395]; kernel_rfl!
theorem pc4 (w : World) : (fun os => segRunT treeTable pw w 11 annH 1 1027 (t3S (w).params os) (piecesOf (((behindTheImports pw).drop 26).take 1) envH cE ((.mk 85 0 95 16) : Pos) [topFrame qH])) = fun os => some (.next, t4S (w).params os, cE, ((.mk 96 0 186 16) : Pos)) := byRow2 "special-get-raises" (P := fun w => (fun os => segRunT treeTable pw w 11 annH 1 1027 (t3S (w).params os) (piecesOf (((behindTheImports pw).drop 26).take 1) envH cE ((.mk 85 0 95 16) : Pos) [topFrame qH])) = fun os => some (.next, t4S (w).params os, cE, ((.mk 96 0 186 16) : Pos))) (fun w => pc4f w) (fun w => pc4t w) w
noncomputable def o3v5 (P : Params) : Obj := (PySem.Obj.mk (.type "dict") .none (.dict (List.toArray [(.mk (PySem.PyData.keyHash P (Str.ofString "__name__")) (.str (Str.ofString "__name__") 165) (.str (Str.ofString "heatnet.meters") 622)), (.mk (PySem.PyData.keyHash P (Str.ofString "__doc__")) (.str (Str.ofString "__doc__") 166) .none), (.mk (PySem.PyData.keyHash P (Str.ofString "__package__")) (.str (Str.ofString "__package__") 167) .none), (.mk (PySem.PyData.keyHash P (Str.ofString "__loader__")) (.str (Str.ofString "__loader__") 168) (.builtin "__main__.__loader__#opaque")), (.mk (PySem.PyData.keyHash P (Str.ofString "__spec__")) (.str (Str.ofString "__spec__") 169) .none), (.mk (PySem.PyData.keyHash P (Str.ofString "__annotations__")) (.str (Str.ofString "__annotations__") 170) (.ref 6)), (.mk (PySem.PyData.keyHash P (Str.ofString "__builtins__")) (.str (Str.ofString "__builtins__") 171) (.ref 4)), (.mk (PySem.PyData.keyHash P (Str.ofString "__file__")) (.str (Str.ofString "__file__") 173) (.str (Str.ofString "/claim/cut.py") 172)), (.mk (PySem.PyData.keyHash P (Str.ofString "__cached__")) (.str (Str.ofString "__cached__") 174) .none), (.mk (PySem.PyData.keyHash P (Str.ofString "_wall")) (.str (Str.ofString "_wall") 193) (.ref 21)), (.mk (PySem.PyData.keyHash P (Str.ofString "HeatError")) (.str (Str.ofString "HeatError") 213) (.ref 31)), (.mk (PySem.PyData.keyHash P (Str.ofString "need_number")) (.str (Str.ofString "need_number") 223) (.ref 41)), (.mk (PySem.PyData.keyHash P (Str.ofString "shown")) (.str (Str.ofString "shown") 230) (.ref 48)), (.mk (PySem.PyData.keyHash P (Str.ofString "need_name")) (.str (Str.ofString "need_name") 240) (.ref 55)), (.mk (PySem.PyData.keyHash P (Str.ofString "FIGURES")) (.str (Str.ofString "FIGURES") 244) (.int 2000 243)), (.mk (PySem.PyData.keyHash P (Str.ofString "MOST")) (.str (Str.ofString "MOST") 247) (.int 100000000000000000000000000000000000000000000000000000000000000000000000000000000000000000000000000000000000000000000000000000000000000000000000000000000000000000000000000000000000000000000000000000000000000000000000000000000000000000000000000000000000000000000000000000000000000000000000000000000000000000000000000000000000000000000000000000000000000000000000000000000000000000000000000000000000000000000000000000000000000000000000000000000000000000000000000000000000000000000000000000000000000000000000000000000000000000000000000000000000000000000000000000000000000000000000000000000000000000000000000000000000000000000000000000000000000000000000000000000000000000000000000000000000000000000000000000000000000000000000000000000000000000000000000000000000000000000000000000000000000000000000000000000000000000000000000000000000000000000000000000000000000000000000000000000000000000000000000000000000000000000000000000000000000000000000000000000000000000000000000000000000000000000000000000000000000000000000000000000000000000000000000000000000000000000000000000000000000000000000000000000000000000000000000000000000000000000000000000000000000000000000000000000000000000000000000000000000000000000000000000000000000000000000000000000000000000000000000000000000000000000000000000000000000000000000000000000000000000000000000000000000000000000000000000000000000000000000000000000000000000000000000000000000000000000000000000000000000000000000000000000000000000000000000000000000000000000000000000000000000000000000000000000000000000000000000000000000000000000000000000000000000000000000000000000000000000000000000000000000000000000000000000000000000000000000000000000000000000000000000000000000000000000000000000000000000000000000000000000000000000000000000000000000000000000000000000000000000000000000000000000000000000000000000000000000000000000000000000000000000000000000000000000000000000000000000000000000000000000000000000000000000000000000000000000000000000000000000000000000000000000000000000000 246)), (.mk (PySem.PyData.keyHash P (Str.ofString "NOUGHT")) (.str (Str.ofString "NOUGHT") 250) (.ref 56)), (.mk (PySem.PyData.keyHash P (Str.ofString "ONE")) (.str (Str.ofString "ONE") 253) (.ref 57)), (.mk (PySem.PyData.keyHash P (Str.ofString "divisor")) (.str (Str.ofString "divisor") 261) (.ref 64)), (.mk (PySem.PyData.keyHash P (Str.ofString "frac")) (.str (Str.ofString "frac") 271) (.ref 72)), (.mk (PySem.PyData.keyHash P (Str.ofString "need")) (.str (Str.ofString "need") 279) (.ref 80)), (.mk (PySem.PyData.keyHash P (Str.ofString "plus")) (.str (Str.ofString "plus") 287) (.ref 87)), (.mk (PySem.PyData.keyHash P (Str.ofString "times")) (.str (Str.ofString "times") 295) (.ref 94)), (.mk (PySem.PyData.keyHash P (Str.ofString "over")) (.str (Str.ofString "over") 303) (.ref 101)), (.mk (PySem.PyData.keyHash P (Str.ofString "less")) (.str (Str.ofString "less") 311) (.ref 108)), (.mk (PySem.PyData.keyHash P (Str.ofString "total")) (.str (Str.ofString "total") 320) (.ref 115)), (.mk (PySem.PyData.keyHash P (Str.ofString "show")) (.str (Str.ofString "show") 327) (.ref 122)), (.mk (PySem.PyData.keyHash P (Str.ofString "JOINTS")) (.str (Str.ofString "JOINTS") 331) (.int 60 330)), (.mk (PySem.PyData.keyHash P (Str.ofString "PIPES")) (.str (Str.ofString "PIPES") 333) (.int 90 332)), (.mk (PySem.PyData.keyHash P (Str.ofString "HOURS")) (.str (Str.ofString "HOURS") 335) (.int 24 334)), (.mk (PySem.PyData.keyHash P (Str.ofString "Pipe")) (.str (Str.ofString "Pipe") 377) (.ref 139)), (.mk (PySem.PyData.keyHash P (Str.ofString "Consumer")) (.str (Str.ofString "Consumer") 422) (.ref 167)), (.mk (PySem.PyData.keyHash P (Str.ofString "Net")) (.str (Str.ofString "Net") 604) (.ref 298)), (.mk (PySem.PyData.keyHash P (Str.ofString "day_heat")) (.str (Str.ofString "day_heat") 615) (.ref 309)), (.mk (PySem.PyData.keyHash P (Str.ofString "count_days")) (.str (Str.ofString "count_days") 621) (.ref 314))]) 35) (List.toArray []))
noncomputable def o12v6 (P : Params) : Obj := (PySem.Obj.mk .none .none (.fields (List.toArray ((.int 1 0) :: (.int 0 0) :: (.ref 20) :: (.int 5 0) :: (.int 0 0) :: (.ref 27) :: (.int 7 0) :: (.int 0 0) :: (.ref 40) :: (.int 11 0) :: (.int 0 0) :: (.ref 47) :: (.int 17 0) :: (.int 0 0) :: (.ref 54) :: (.int 31 0) :: (.int 0 0) :: (.ref 63) :: (.int 37 0) :: (.int 0 0) :: (.ref 71) :: (.int 47 0) :: (.int 0 0) :: (.ref 79) :: (.int 53 0) :: (.int 0 0) :: (.ref 86) :: (.int 55 0) :: (.int 0 0) :: (.ref 93) :: (.int 57 0) :: (.int 0 0) :: (.ref 100) :: (.int 61 0) :: (.int 0 0) :: (.ref 107) :: (.int 63 0) :: (.int 0 0) :: (.ref 114) :: (.int 68 0) :: (.int 0 0) :: (.ref 121) :: (.int 74 0) :: (.int 0 0) :: (.ref 128) :: (.int 85 0) :: (.int 0 0) :: (.ref 149) :: (.int 96 0) :: (.int 0 0) :: (.ref 177) :: (.int 188 0) :: (.int 0 0) :: (.ref 308) :: (.int 191 0) :: (.int 0 0) :: (.ref 313) :: []))) (List.toArray []))
noncomputable def o303 (P : Params) : Obj := (PySem.Obj.mk (.type "tuple") .none (.seq (List.toArray []) 0) (List.toArray []))
noncomputable def o304 (P : Params) : Obj := (PySem.Obj.mk .none .none (.fields (List.toArray [])) (List.toArray []))
noncomputable def o305 (P : Params) : Obj := (PySem.Obj.mk (.type "tuple") .none (.seq (List.toArray [(.str (Str.ofString "net") 610), (.str (Str.ofString "name") 611), (.str (Str.ofString "one") 612)]) 0) (List.toArray []))
noncomputable def o306 (P : Params) : Obj := (PySem.Obj.mk (.type "tuple") .none (.seq (List.toArray []) 0) (List.toArray []))
noncomputable def o307 (P : Params) : Obj := (PySem.Obj.mk .none .none (.func (FuncData.mk (Str.ofString "day_heat") (Str.ofString "day_heat") fa28.1 (.stmts fb28.1) fs28.1 0 [] .none .none .none .none .none .none .none 0)) (List.toArray []))
noncomputable def o308 (P : Params) : Obj := (PySem.Obj.mk (.type "code") .none (.fields (List.toArray [(.str (Str.ofString "day_heat") 607), (.str (Str.ofString "day_heat") 608), (.str (Str.ofString "/claim/cut.py") 609), (.int 188 0), (.int 2 0), (.int 0 0), (.int 0 0), (.int 3 0), (.ref 303), (.bool .true), (.int 181 0), (.ref 304), .none, (.ref 305), (.ref 306), (.ref 307), (.int 613 0), (.int 188 0), (.str (Str.ofString "/claim/cut.py") 614)])) (List.toArray []))
noncomputable def o309 (P : Params) : Obj := (PySem.Obj.mk (.type "function") .none (.func (FuncData.mk (Str.ofString "day_heat") (Str.ofString "day_heat") fa28.1 (.stmts fb28.1) fs28.1 3 [] .none .none .none (.str (Str.ofString "heatnet.running") 605) .none (.ref 308) .none 0)) (List.toArray []))
noncomputable def o310 (P : Params) : Obj := (PySem.Obj.mk (.type "tuple") .none (.seq (List.toArray []) 0) (List.toArray []))
noncomputable def o311 (P : Params) : Obj := (PySem.Obj.mk .none .none (.fields (List.toArray [])) (List.toArray []))
noncomputable def o312 (P : Params) : Obj := (PySem.Obj.mk .none .none (.func (FuncData.mk (Str.ofString "count_days") (Str.ofString "count_days") fa29.1 (.stmts fb29.1) fs29.1 0 [] .none .none .none .none .none .none .none 0)) (List.toArray []))
noncomputable def o313 (P : Params) : Obj := (PySem.Obj.mk (.type "code") .none (.fields (List.toArray [(.str (Str.ofString "count_days") 616), (.str (Str.ofString "count_days") 617), (.str (Str.ofString "/claim/cut.py") 618), (.int 191 0), (.int 4 0), (.int 0 0), (.int 0 0), (.int 3 0), (.ref 310), (.bool .true), (.int 181 0), (.ref 311), .none, .none, .none, (.ref 312), (.int 619 0), (.int 191 0), (.str (Str.ofString "/claim/cut.py") 620)])) (List.toArray []))
noncomputable def o314 (P : Params) : Obj := (PySem.Obj.mk (.type "function") .none (.func (FuncData.mk (Str.ofString "count_days") (Str.ofString "count_days") fa29.1 (.stmts fb29.1) fs29.1 3 [] .none .none .none (.str (Str.ofString "heatnet.running") 605) .none (.ref 313) .none 0)) (List.toArray []))
noncomputable def t5 (P : Params) : BT := (.node (boot_o_0 P) (.node (boot_o_1 P) (.node (o3v5 P) (.node (boot_o_7 P) (.node (o15 P) (.node (o31 P) (.node (o63 P) (.node (o127 P) (lf (o255 P)) .nil) (lf (o191 P))) (.node (o95 P) (.node (o159 P) (lf (o287 P)) .nil) (lf (o223 P)))) (.node (o47 P) (.node (o79 P) (.node (o143 P) (lf (o271 P)) .nil) (lf (o207 P))) (.node (o111 P) (.node (o175 P) (lf (o303 P)) .nil) (lf (o239 P))))) (.node (o23 P) (.node (o39 P) (.node (o71 P) (.node (o135 P) (lf (o263 P)) .nil) (lf (o199 P))) (.node (o103 P) (.node (o167 P) (lf (o295 P)) .nil) (lf (o231 P)))) (.node (o55 P) (.node (o87 P) (.node (o151 P) (lf (o279 P)) .nil) (lf (o215 P))) (.node (o119 P) (.node (o183 P) (lf (o311 P)) .nil) (lf (o247 P)))))) (.node (o11 P) (.node (o19 P) (.node (o35 P) (.node (o67 P) (.node (o131 P) (lf (o259 P)) .nil) (lf (o195 P))) (.node (o99 P) (.node (o163 P) (lf (o291 P)) .nil) (lf (o227 P)))) (.node (o51 P) (.node (o83 P) (.node (o147 P) (lf (o275 P)) .nil) (lf (o211 P))) (.node (o115 P) (.node (o179 P) (lf (o307 P)) .nil) (lf (o243 P))))) (.node (o27 P) (.node (o43 P) (.node (o75 P) (.node (o139 P) (lf (o267 P)) .nil) (lf (o203 P))) (.node (o107 P) (.node (o171 P) (lf (o299 P)) .nil) (lf (o235 P)))) (.node (o59 P) (.node (o91 P) (.node (o155 P) (lf (o283 P)) .nil) (lf (o219 P))) (.node (o123 P) (lf (o187 P)) (lf (o251 P))))))) (.node (boot_o_5 P) (.node (boot_o_9 P) (.node (o17 P) (.node (o33 P) (.node (o65 P) (.node (o129 P) (lf (o257 P)) .nil) (lf (o193 P))) (.node (o97 P) (.node (o161 P) (lf (o289 P)) .nil) (lf (o225 P)))) (.node (o49 P) (.node (o81 P) (.node (o145 P) (lf (o273 P)) .nil) (lf (o209 P))) (.node (o113 P) (.node (o177 P) (lf (o305 P)) .nil) (lf (o241 P))))) (.node (o25 P) (.node (o41 P) (.node (o73 P) (.node (o137 P) (lf (o265 P)) .nil) (lf (o201 P))) (.node (o105 P) (.node (o169 P) (lf (o297 P)) .nil) (lf (o233 P)))) (.node (o57 P) (.node (o89 P) (.node (o153 P) (lf (o281 P)) .nil) (lf (o217 P))) (.node (o121 P) (.node (o185 P) (lf (o313 P)) .nil) (lf (o249 P)))))) (.node (o13 P) (.node (o21 P) (.node (o37 P) (.node (o69 P) (.node (o133 P) (lf (o261 P)) .nil) (lf (o197 P))) (.node (o101 P) (.node (o165 P) (lf (o293 P)) .nil) (lf (o229 P)))) (.node (o53 P) (.node (o85 P) (.node (o149 P) (lf (o277 P)) .nil) (lf (o213 P))) (.node (o117 P) (.node (o181 P) (lf (o309 P)) .nil) (lf (o245 P))))) (.node (o29 P) (.node (o45 P) (.node (o77 P) (.node (o141 P) (lf (o269 P)) .nil) (lf (o205 P))) (.node (o109 P) (.node (o173 P) (lf (o301 P)) .nil) (lf (o237 P)))) (.node (o61 P) (.node (o93 P) (.node (o157 P) (lf (o285 P)) .nil) (lf (o221 P))) (.node (o125 P) (lf (o189 P)) (lf (o253 P)))))))) (.node (boot_o_2 P) (.node (boot_o_4 P) (.node (boot_o_8 P) (.node (o16 P) (.node (o32 P) (.node (o64 P) (.node (o128 P) (lf (o256 P)) .nil) (lf (o192 P))) (.node (o96 P) (.node (o160 P) (lf (o288 P)) .nil) (lf (o224 P)))) (.node (o48 P) (.node (o80 P) (.node (o144 P) (lf (o272 P)) .nil) (lf (o208 P))) (.node (o112 P) (.node (o176 P) (lf (o304 P)) .nil) (lf (o240 P))))) (.node (o24 P) (.node (o40 P) (.node (o72 P) (.node (o136 P) (lf (o264 P)) .nil) (lf (o200 P))) (.node (o104 P) (.node (o168 P) (lf (o296 P)) .nil) (lf (o232 P)))) (.node (o56 P) (.node (o88 P) (.node (o152 P) (lf (o280 P)) .nil) (lf (o216 P))) (.node (o120 P) (.node (o184 P) (lf (o312 P)) .nil) (lf (o248 P)))))) (.node (o12v6 P) (.node (o20 P) (.node (o36 P) (.node (o68 P) (.node (o132 P) (lf (o260 P)) .nil) (lf (o196 P))) (.node (o100 P) (.node (o164 P) (lf (o292 P)) .nil) (lf (o228 P)))) (.node (o52 P) (.node (o84 P) (.node (o148 P) (lf (o276 P)) .nil) (lf (o212 P))) (.node (o116 P) (.node (o180 P) (lf (o308 P)) .nil) (lf (o244 P))))) (.node (o28 P) (.node (o44 P) (.node (o76 P) (.node (o140 P) (lf (o268 P)) .nil) (lf (o204 P))) (.node (o108 P) (.node (o172 P) (lf (o300 P)) .nil) (lf (o236 P)))) (.node (o60 P) (.node (o92 P) (.node (o156 P) (lf (o284 P)) .nil) (lf (o220 P))) (.node (o124 P) (lf (o188 P)) (lf (o252 P))))))) (.node (boot_o_6 P) (.node (boot_o_10 P) (.node (o18 P) (.node (o34 P) (.node (o66 P) (.node (o130 P) (lf (o258 P)) .nil) (lf (o194 P))) (.node (o98 P) (.node (o162 P) (lf (o290 P)) .nil) (lf (o226 P)))) (.node (o50 P) (.node (o82 P) (.node (o146 P) (lf (o274 P)) .nil) (lf (o210 P))) (.node (o114 P) (.node (o178 P) (lf (o306 P)) .nil) (lf (o242 P))))) (.node (o26 P) (.node (o42 P) (.node (o74 P) (.node (o138 P) (lf (o266 P)) .nil) (lf (o202 P))) (.node (o106 P) (.node (o170 P) (lf (o298 P)) .nil) (lf (o234 P)))) (.node (o58 P) (.node (o90 P) (.node (o154 P) (lf (o282 P)) .nil) (lf (o218 P))) (.node (o122 P) (.node (o186 P) (lf (o314 P)) .nil) (lf (o250 P)))))) (.node (o14 P) (.node (o22 P) (.node (o38 P) (.node (o70 P) (.node (o134 P) (lf (o262 P)) .nil) (lf (o198 P))) (.node (o102 P) (.node (o166 P) (lf (o294 P)) .nil) (lf (o230 P)))) (.node (o54 P) (.node (o86 P) (.node (o150 P) (lf (o278 P)) .nil) (lf (o214 P))) (.node (o118 P) (.node (o182 P) (lf (o310 P)) .nil) (lf (o246 P))))) (.node (o30 P) (.node (o46 P) (.node (o78 P) (.node (o142 P) (lf (o270 P)) .nil) (lf (o206 P))) (.node (o110 P) (.node (o174 P) (lf (o302 P)) .nil) (lf (o238 P)))) (.node (o62 P) (.node (o94 P) (.node (o158 P) (lf (o286 P)) .nil) (lf (o222 P))) (.node (o126 P) (lf (o190 P)) (lf (o254 P)))))))))
noncomputable def t5S (P : Params) (os : OsState) : SharedT := ⟨t5 P, 315, (.mk [] [] [] 0 [] [] .false (List.toArray []) [] 0 .false .false .false 0 [2000, 10, 10] .false 0 .true [] [] 0 .false), ⟨[]⟩, (.mk 0 0 0 0), 624, os⟩
set_option maxRecDepth 100000 in
theorem pc5 (w : World) : (fun os => segRunT treeTable pw w 11 annH 1 76 (t4S (w).params os) (piecesOf (((behindTheImports pw).drop 27).take 4) envH cE ((.mk 96 0 186 16) : Pos) [topFrame qH])) = fun os => some (.next, t5S (w).params os, cE, ((.mk 224 0 224 8) : Pos)) := by
  unfold piecesOf; rw [PySem.W.Fast.te10110043849684766642, PySem.W.Fast.te14364793385576792824, PySem.W.Fast.te12563942051412417395]; kernel_rfl!
noncomputable def o3v6 (P : Params) : Obj := (PySem.Obj.mk (.type "dict") .none (.dict (List.toArray [(.mk (PySem.PyData.keyHash P (Str.ofString "__name__")) (.str (Str.ofString "__name__") 165) (.str (Str.ofString "law_ui0509_14") 714)), (.mk (PySem.PyData.keyHash P (Str.ofString "__doc__")) (.str (Str.ofString "__doc__") 166) .none), (.mk (PySem.PyData.keyHash P (Str.ofString "__package__")) (.str (Str.ofString "__package__") 167) .none), (.mk (PySem.PyData.keyHash P (Str.ofString "__loader__")) (.str (Str.ofString "__loader__") 168) (.builtin "__main__.__loader__#opaque")), (.mk (PySem.PyData.keyHash P (Str.ofString "__spec__")) (.str (Str.ofString "__spec__") 169) .none), (.mk (PySem.PyData.keyHash P (Str.ofString "__annotations__")) (.str (Str.ofString "__annotations__") 170) (.ref 6)), (.mk (PySem.PyData.keyHash P (Str.ofString "__builtins__")) (.str (Str.ofString "__builtins__") 171) (.ref 4)), (.mk (PySem.PyData.keyHash P (Str.ofString "__file__")) (.str (Str.ofString "__file__") 173) (.str (Str.ofString "/claim/cut.py") 172)), (.mk (PySem.PyData.keyHash P (Str.ofString "__cached__")) (.str (Str.ofString "__cached__") 174) .none), (.mk (PySem.PyData.keyHash P (Str.ofString "_wall")) (.str (Str.ofString "_wall") 193) (.ref 21)), (.mk (PySem.PyData.keyHash P (Str.ofString "HeatError")) (.str (Str.ofString "HeatError") 213) (.ref 31)), (.mk (PySem.PyData.keyHash P (Str.ofString "need_number")) (.str (Str.ofString "need_number") 223) (.ref 41)), (.mk (PySem.PyData.keyHash P (Str.ofString "shown")) (.str (Str.ofString "shown") 230) (.ref 48)), (.mk (PySem.PyData.keyHash P (Str.ofString "need_name")) (.str (Str.ofString "need_name") 240) (.ref 55)), (.mk (PySem.PyData.keyHash P (Str.ofString "FIGURES")) (.str (Str.ofString "FIGURES") 244) (.int 2000 243)), (.mk (PySem.PyData.keyHash P (Str.ofString "MOST")) (.str (Str.ofString "MOST") 247) (.int 100000000000000000000000000000000000000000000000000000000000000000000000000000000000000000000000000000000000000000000000000000000000000000000000000000000000000000000000000000000000000000000000000000000000000000000000000000000000000000000000000000000000000000000000000000000000000000000000000000000000000000000000000000000000000000000000000000000000000000000000000000000000000000000000000000000000000000000000000000000000000000000000000000000000000000000000000000000000000000000000000000000000000000000000000000000000000000000000000000000000000000000000000000000000000000000000000000000000000000000000000000000000000000000000000000000000000000000000000000000000000000000000000000000000000000000000000000000000000000000000000000000000000000000000000000000000000000000000000000000000000000000000000000000000000000000000000000000000000000000000000000000000000000000000000000000000000000000000000000000000000000000000000000000000000000000000000000000000000000000000000000000000000000000000000000000000000000000000000000000000000000000000000000000000000000000000000000000000000000000000000000000000000000000000000000000000000000000000000000000000000000000000000000000000000000000000000000000000000000000000000000000000000000000000000000000000000000000000000000000000000000000000000000000000000000000000000000000000000000000000000000000000000000000000000000000000000000000000000000000000000000000000000000000000000000000000000000000000000000000000000000000000000000000000000000000000000000000000000000000000000000000000000000000000000000000000000000000000000000000000000000000000000000000000000000000000000000000000000000000000000000000000000000000000000000000000000000000000000000000000000000000000000000000000000000000000000000000000000000000000000000000000000000000000000000000000000000000000000000000000000000000000000000000000000000000000000000000000000000000000000000000000000000000000000000000000000000000000000000000000000000000000000000000000000000000000000000000000000000000000000000000000000000000 246)), (.mk (PySem.PyData.keyHash P (Str.ofString "NOUGHT")) (.str (Str.ofString "NOUGHT") 250) (.ref 56)), (.mk (PySem.PyData.keyHash P (Str.ofString "ONE")) (.str (Str.ofString "ONE") 253) (.ref 57)), (.mk (PySem.PyData.keyHash P (Str.ofString "divisor")) (.str (Str.ofString "divisor") 261) (.ref 64)), (.mk (PySem.PyData.keyHash P (Str.ofString "frac")) (.str (Str.ofString "frac") 271) (.ref 72)), (.mk (PySem.PyData.keyHash P (Str.ofString "need")) (.str (Str.ofString "need") 279) (.ref 80)), (.mk (PySem.PyData.keyHash P (Str.ofString "plus")) (.str (Str.ofString "plus") 287) (.ref 87)), (.mk (PySem.PyData.keyHash P (Str.ofString "times")) (.str (Str.ofString "times") 295) (.ref 94)), (.mk (PySem.PyData.keyHash P (Str.ofString "over")) (.str (Str.ofString "over") 303) (.ref 101)), (.mk (PySem.PyData.keyHash P (Str.ofString "less")) (.str (Str.ofString "less") 311) (.ref 108)), (.mk (PySem.PyData.keyHash P (Str.ofString "total")) (.str (Str.ofString "total") 320) (.ref 115)), (.mk (PySem.PyData.keyHash P (Str.ofString "show")) (.str (Str.ofString "show") 327) (.ref 122)), (.mk (PySem.PyData.keyHash P (Str.ofString "JOINTS")) (.str (Str.ofString "JOINTS") 331) (.int 60 330)), (.mk (PySem.PyData.keyHash P (Str.ofString "PIPES")) (.str (Str.ofString "PIPES") 333) (.int 90 332)), (.mk (PySem.PyData.keyHash P (Str.ofString "HOURS")) (.str (Str.ofString "HOURS") 335) (.int 24 334)), (.mk (PySem.PyData.keyHash P (Str.ofString "Pipe")) (.str (Str.ofString "Pipe") 377) (.ref 139)), (.mk (PySem.PyData.keyHash P (Str.ofString "Consumer")) (.str (Str.ofString "Consumer") 422) (.ref 167)), (.mk (PySem.PyData.keyHash P (Str.ofString "Net")) (.str (Str.ofString "Net") 604) (.ref 298)), (.mk (PySem.PyData.keyHash P (Str.ofString "day_heat")) (.str (Str.ofString "day_heat") 615) (.ref 309)), (.mk (PySem.PyData.keyHash P (Str.ofString "count_days")) (.str (Str.ofString "count_days") 621) (.ref 314)), (.mk (PySem.PyData.keyHash P (Str.ofString "Meter")) (.str (Str.ofString "Meter") 713) (.ref 367))]) 36) (List.toArray []))
noncomputable def o12v7 (P : Params) : Obj := (PySem.Obj.mk .none .none (.fields (List.toArray ((.int 1 0) :: (.int 0 0) :: (.ref 20) :: (.int 5 0) :: (.int 0 0) :: (.ref 27) :: (.int 7 0) :: (.int 0 0) :: (.ref 40) :: (.int 11 0) :: (.int 0 0) :: (.ref 47) :: (.int 17 0) :: (.int 0 0) :: (.ref 54) :: (.int 31 0) :: (.int 0 0) :: (.ref 63) :: (.int 37 0) :: (.int 0 0) :: (.ref 71) :: (.int 47 0) :: (.int 0 0) :: (.ref 79) :: (.int 53 0) :: (.int 0 0) :: (.ref 86) :: (.int 55 0) :: (.int 0 0) :: (.ref 93) :: (.int 57 0) :: (.int 0 0) :: (.ref 100) :: (.int 61 0) :: (.int 0 0) :: (.ref 107) :: (.int 63 0) :: (.int 0 0) :: (.ref 114) :: (.int 68 0) :: (.int 0 0) :: (.ref 121) :: (.int 74 0) :: (.int 0 0) :: (.ref 128) :: (.int 85 0) :: (.int 0 0) :: (.ref 149) :: (.int 96 0) :: (.int 0 0) :: (.ref 177) :: (.int 188 0) :: (.int 0 0) :: (.ref 308) :: (.int 191 0) :: (.int 0 0) :: (.ref 313) :: (.int 225 0) :: (.int 0 0) :: (.ref 320) :: []))) (List.toArray []))
noncomputable def o315 (P : Params) : Obj := (PySem.Obj.mk (.type "tuple") .none (.seq (List.toArray []) 0) (List.toArray []))
noncomputable def o316 (P : Params) : Obj := (PySem.Obj.mk (.type "builtin_function_or_method") .none (.fields (List.toArray [(.builtin "type.__prepare__"), (.type "type")])) (List.toArray []))
noncomputable def o317 (P : Params) : Obj := (PySem.Obj.mk (.type "dict") .none (.dict (List.toArray [(.mk (PySem.PyData.keyHash P (Str.ofString "__module__")) (.str (Str.ofString "__module__") 631) (.str (Str.ofString "heatnet.meters") 622)), (.mk (PySem.PyData.keyHash P (Str.ofString "__qualname__")) (.str (Str.ofString "__qualname__") 633) (.str (Str.ofString "Meter") 632)), (.mk (PySem.PyData.keyHash P (Str.ofString "__firstlineno__")) (.str (Str.ofString "__firstlineno__") 635) (.int 225 634)), (.mk (PySem.PyData.keyHash P (Str.ofString "__init__")) (.str (Str.ofString "__init__") 645) (.ref 329)), (.mk (PySem.PyData.keyHash P (Str.ofString "read")) (.str (Str.ofString "read") 654) (.ref 336)), (.mk (PySem.PyData.keyHash P (Str.ofString "exchange")) (.str (Str.ofString "exchange") 664) (.ref 343)), (.mk (PySem.PyData.keyHash P (Str.ofString "correct")) (.str (Str.ofString "correct") 674) (.ref 350)), (.mk (PySem.PyData.keyHash P (Str.ofString "steps")) (.str (Str.ofString "steps") 686) (.ref 357)), (.mk (PySem.PyData.keyHash P (Str.ofString "used")) (.str (Str.ofString "used") 700) (.ref 364)), (.mk (PySem.PyData.keyHash P (Str.ofString "__static_attributes__")) (.str (Str.ofString "__static_attributes__") 706) (.ref 365))]) 10) (List.toArray []))
noncomputable def o318 (P : Params) : Obj := (PySem.Obj.mk (.type "tuple") .none (.seq (List.toArray []) 0) (List.toArray []))
noncomputable def o319 (P : Params) : Obj := (PySem.Obj.mk .none .none (.fields (List.toArray [(.int 227 0), (.int 4 0), (.ref 328), (.int 236 0), (.int 4 0), (.ref 335), (.int 244 0), (.int 4 0), (.ref 342), (.int 247 0), (.int 4 0), (.ref 349), (.int 256 0), (.int 4 0), (.ref 356), (.int 264 0), (.int 4 0), (.ref 363)])) (List.toArray []))
noncomputable def o320 (P : Params) : Obj := (PySem.Obj.mk (.type "code") .none (.fields (List.toArray [(.str (Str.ofString "Meter") 626), (.str (Str.ofString "Meter") 627), (.str (Str.ofString "/claim/cut.py") 628), (.int 225 0), (.int 0 0), (.int 0 0), (.int 0 0), (.int 0 0), (.ref 318), (.bool .false), (.int 181 0), (.ref 319), .none, .none, .none, .none, (.int 629 0), (.int 225 0), (.str (Str.ofString "/claim/cut.py") 630)])) (List.toArray []))
noncomputable def o321 (P : Params) : Obj := (PySem.Obj.mk (.type "frame") .none .plain (List.toArray [(.some (.ref 320)), (.some (.ref 3)), (.some (.ref 317)), .none, (.some (.str (Str.ofString "heatnet.meters") 622)), .none, (.some (.ref 0))]))
noncomputable def o322 (P : Params) : Obj := (PySem.Obj.mk (.type "tuple") .none (.seq (List.toArray [(.ref 57)]) 0) (List.toArray []))
noncomputable def o323 (P : Params) : Obj := (PySem.Obj.mk (.type "tuple") .none (.seq (List.toArray []) 0) (List.toArray []))
noncomputable def o324 (P : Params) : Obj := (PySem.Obj.mk .none .none (.fields (List.toArray [])) (List.toArray []))
noncomputable def o325 (P : Params) : Obj := (PySem.Obj.mk (.type "tuple") .none (.seq (List.toArray [(.str (Str.ofString "self") 639), (.str (Str.ofString "name") 640), (.str (Str.ofString "turns") 641), (.str (Str.ofString "factor") 642)]) 0) (List.toArray []))
noncomputable def o326 (P : Params) : Obj := (PySem.Obj.mk (.type "tuple") .none (.seq (List.toArray []) 0) (List.toArray []))
noncomputable def o327 (P : Params) : Obj := (PySem.Obj.mk .none .none (.func (FuncData.mk (Str.ofString "__init__") (Str.ofString "Meter.__init__") fa31_0.1 (.stmts fb31_0.1) fs31_0.1 0 [] .none .none .none .none .none .none .none 0)) (List.toArray []))
noncomputable def o328 (P : Params) : Obj := (PySem.Obj.mk (.type "code") .none (.fields (List.toArray [(.str (Str.ofString "__init__") 636), (.str (Str.ofString "Meter.__init__") 637), (.str (Str.ofString "/claim/cut.py") 638), (.int 227 0), (.int 4 0), (.int 0 0), (.int 0 0), (.int 3 0), (.ref 323), (.bool .true), (.int 181 0), (.ref 324), .none, (.ref 325), (.ref 326), (.ref 327), (.int 643 0), (.int 227 0), (.str (Str.ofString "/claim/cut.py") 644)])) (List.toArray []))
noncomputable def o329 (P : Params) : Obj := (PySem.Obj.mk (.type "function") .none (.func (FuncData.mk (Str.ofString "__init__") (Str.ofString "Meter.__init__") fa31_0.1 (.stmts fb31_0.1) fs31_0.1 3 [] (.ref 322) .none .none (.str (Str.ofString "heatnet.meters") 622) .none (.ref 328) .none 0)) (List.toArray []))
noncomputable def o330 (P : Params) : Obj := (PySem.Obj.mk (.type "tuple") .none (.seq (List.toArray []) 0) (List.toArray []))
noncomputable def o331 (P : Params) : Obj := (PySem.Obj.mk .none .none (.fields (List.toArray [])) (List.toArray []))
noncomputable def o332 (P : Params) : Obj := (PySem.Obj.mk (.type "tuple") .none (.seq (List.toArray [(.str (Str.ofString "self") 649), (.str (Str.ofString "day") 650), (.str (Str.ofString "value") 651)]) 0) (List.toArray []))
noncomputable def o333 (P : Params) : Obj := (PySem.Obj.mk (.type "tuple") .none (.seq (List.toArray []) 0) (List.toArray []))
noncomputable def o334 (P : Params) : Obj := (PySem.Obj.mk .none .none (.func (FuncData.mk (Str.ofString "read") (Str.ofString "Meter.read") fa31_1.1 (.stmts fb31_1.1) fs31_1.1 0 [] .none .none .none .none .none .none .none 0)) (List.toArray []))
noncomputable def o335 (P : Params) : Obj := (PySem.Obj.mk (.type "code") .none (.fields (List.toArray [(.str (Str.ofString "read") 646), (.str (Str.ofString "Meter.read") 647), (.str (Str.ofString "/claim/cut.py") 648), (.int 236 0), (.int 3 0), (.int 0 0), (.int 0 0), (.int 3 0), (.ref 330), (.bool .true), (.int 181 0), (.ref 331), .none, (.ref 332), (.ref 333), (.ref 334), (.int 652 0), (.int 236 0), (.str (Str.ofString "/claim/cut.py") 653)])) (List.toArray []))
noncomputable def o336 (P : Params) : Obj := (PySem.Obj.mk (.type "function") .none (.func (FuncData.mk (Str.ofString "read") (Str.ofString "Meter.read") fa31_1.1 (.stmts fb31_1.1) fs31_1.1 3 [] .none .none .none (.str (Str.ofString "heatnet.meters") 622) .none (.ref 335) .none 0)) (List.toArray []))
noncomputable def o337 (P : Params) : Obj := (PySem.Obj.mk (.type "tuple") .none (.seq (List.toArray []) 0) (List.toArray []))
noncomputable def o338 (P : Params) : Obj := (PySem.Obj.mk .none .none (.fields (List.toArray [])) (List.toArray []))
noncomputable def o339 (P : Params) : Obj := (PySem.Obj.mk (.type "tuple") .none (.seq (List.toArray [(.str (Str.ofString "self") 658), (.str (Str.ofString "day") 659), (.str (Str.ofString "old") 660), (.str (Str.ofString "new") 661)]) 0) (List.toArray []))
noncomputable def o340 (P : Params) : Obj := (PySem.Obj.mk (.type "tuple") .none (.seq (List.toArray []) 0) (List.toArray []))
noncomputable def o341 (P : Params) : Obj := (PySem.Obj.mk .none .none (.func (FuncData.mk (Str.ofString "exchange") (Str.ofString "Meter.exchange") fa31_2.1 (.stmts fb31_2.1) fs31_2.1 0 [] .none .none .none .none .none .none .none 0)) (List.toArray []))
noncomputable def o342 (P : Params) : Obj := (PySem.Obj.mk (.type "code") .none (.fields (List.toArray [(.str (Str.ofString "exchange") 655), (.str (Str.ofString "Meter.exchange") 656), (.str (Str.ofString "/claim/cut.py") 657), (.int 244 0), (.int 4 0), (.int 0 0), (.int 0 0), (.int 3 0), (.ref 337), (.bool .true), (.int 181 0), (.ref 338), .none, (.ref 339), (.ref 340), (.ref 341), (.int 662 0), (.int 244 0), (.str (Str.ofString "/claim/cut.py") 663)])) (List.toArray []))
noncomputable def o343 (P : Params) : Obj := (PySem.Obj.mk (.type "function") .none (.func (FuncData.mk (Str.ofString "exchange") (Str.ofString "Meter.exchange") fa31_2.1 (.stmts fb31_2.1) fs31_2.1 3 [] .none .none .none (.str (Str.ofString "heatnet.meters") 622) .none (.ref 342) .none 0)) (List.toArray []))
noncomputable def o344 (P : Params) : Obj := (PySem.Obj.mk (.type "tuple") .none (.seq (List.toArray []) 0) (List.toArray []))
noncomputable def o345 (P : Params) : Obj := (PySem.Obj.mk .none .none (.fields (List.toArray [])) (List.toArray []))
noncomputable def o346 (P : Params) : Obj := (PySem.Obj.mk (.type "tuple") .none (.seq (List.toArray [(.str (Str.ofString "self") 668), (.str (Str.ofString "day") 669), (.str (Str.ofString "value") 670), (.str (Str.ofString "k") 671)]) 0) (List.toArray []))
noncomputable def o347 (P : Params) : Obj := (PySem.Obj.mk (.type "tuple") .none (.seq (List.toArray []) 0) (List.toArray []))
noncomputable def o348 (P : Params) : Obj := (PySem.Obj.mk .none .none (.func (FuncData.mk (Str.ofString "correct") (Str.ofString "Meter.correct") fa31_3.1 (.stmts fb31_3.1) fs31_3.1 0 [] .none .none .none .none .none .none .none 0)) (List.toArray []))
noncomputable def o349 (P : Params) : Obj := (PySem.Obj.mk (.type "code") .none (.fields (List.toArray [(.str (Str.ofString "correct") 665), (.str (Str.ofString "Meter.correct") 666), (.str (Str.ofString "/claim/cut.py") 667), (.int 247 0), (.int 3 0), (.int 0 0), (.int 0 0), (.int 3 0), (.ref 344), (.bool .true), (.int 181 0), (.ref 345), .none, (.ref 346), (.ref 347), (.ref 348), (.int 672 0), (.int 247 0), (.str (Str.ofString "/claim/cut.py") 673)])) (List.toArray []))
noncomputable def o350 (P : Params) : Obj := (PySem.Obj.mk (.type "function") .none (.func (FuncData.mk (Str.ofString "correct") (Str.ofString "Meter.correct") fa31_3.1 (.stmts fb31_3.1) fs31_3.1 3 [] .none .none .none (.str (Str.ofString "heatnet.meters") 622) .none (.ref 349) .none 0)) (List.toArray []))
noncomputable def o351 (P : Params) : Obj := (PySem.Obj.mk (.type "tuple") .none (.seq (List.toArray []) 0) (List.toArray []))
noncomputable def o352 (P : Params) : Obj := (PySem.Obj.mk .none .none (.fields (List.toArray [])) (List.toArray []))
noncomputable def o353 (P : Params) : Obj := (PySem.Obj.mk (.type "tuple") .none (.seq (List.toArray [(.str (Str.ofString "self") 678), (.str (Str.ofString "out") 679), (.str (Str.ofString "k") 680), (.str (Str.ofString "one") 681), (.str (Str.ofString "two") 682), (.str (Str.ofString "start") 683)]) 0) (List.toArray []))
noncomputable def o354 (P : Params) : Obj := (PySem.Obj.mk (.type "tuple") .none (.seq (List.toArray []) 0) (List.toArray []))
noncomputable def o355 (P : Params) : Obj := (PySem.Obj.mk .none .none (.func (FuncData.mk (Str.ofString "steps") (Str.ofString "Meter.steps") fa31_4.1 (.stmts fb31_4.1) fs31_4.1 0 [] .none .none .none .none .none .none .none 0)) (List.toArray []))
noncomputable def o356 (P : Params) : Obj := (PySem.Obj.mk (.type "code") .none (.fields (List.toArray [(.str (Str.ofString "steps") 675), (.str (Str.ofString "Meter.steps") 676), (.str (Str.ofString "/claim/cut.py") 677), (.int 256 0), (.int 1 0), (.int 0 0), (.int 0 0), (.int 3 0), (.ref 351), (.bool .true), (.int 181 0), (.ref 352), .none, (.ref 353), (.ref 354), (.ref 355), (.int 684 0), (.int 256 0), (.str (Str.ofString "/claim/cut.py") 685)])) (List.toArray []))
noncomputable def o357 (P : Params) : Obj := (PySem.Obj.mk (.type "function") .none (.func (FuncData.mk (Str.ofString "steps") (Str.ofString "Meter.steps") fa31_4.1 (.stmts fb31_4.1) fs31_4.1 3 [] .none .none .none (.str (Str.ofString "heatnet.meters") 622) .none (.ref 356) .none 0)) (List.toArray []))
noncomputable def o358 (P : Params) : Obj := (PySem.Obj.mk (.type "tuple") .none (.seq (List.toArray []) 0) (List.toArray []))
noncomputable def o359 (P : Params) : Obj := (PySem.Obj.mk .none .none (.fields (List.toArray [])) (List.toArray []))
noncomputable def o360 (P : Params) : Obj := (PySem.Obj.mk (.type "tuple") .none (.seq (List.toArray [(.str (Str.ofString "self") 690), (.str (Str.ofString "start") 691), (.str (Str.ofString "end") 692), (.str (Str.ofString "out") 693), (.str (Str.ofString "one") 694), (.str (Str.ofString "two") 695), (.str (Str.ofString "units") 696), (.str (Str.ofString "days") 697)]) 0) (List.toArray []))
noncomputable def o361 (P : Params) : Obj := (PySem.Obj.mk (.type "tuple") .none (.seq (List.toArray []) 0) (List.toArray []))
noncomputable def o362 (P : Params) : Obj := (PySem.Obj.mk .none .none (.func (FuncData.mk (Str.ofString "used") (Str.ofString "Meter.used") fa31_5.1 (.stmts fb31_5.1) fs31_5.1 0 [] .none .none .none .none .none .none .none 0)) (List.toArray []))
noncomputable def o363 (P : Params) : Obj := (PySem.Obj.mk (.type "code") .none (.fields (List.toArray [(.str (Str.ofString "used") 687), (.str (Str.ofString "Meter.used") 688), (.str (Str.ofString "/claim/cut.py") 689), (.int 264 0), (.int 3 0), (.int 0 0), (.int 0 0), (.int 3 0), (.ref 358), (.bool .true), (.int 181 0), (.ref 359), .none, (.ref 360), (.ref 361), (.ref 362), (.int 698 0), (.int 264 0), (.str (Str.ofString "/claim/cut.py") 699)])) (List.toArray []))
noncomputable def o364 (P : Params) : Obj := (PySem.Obj.mk (.type "function") .none (.func (FuncData.mk (Str.ofString "used") (Str.ofString "Meter.used") fa31_5.1 (.stmts fb31_5.1) fs31_5.1 3 [] .none .none .none (.str (Str.ofString "heatnet.meters") 622) .none (.ref 363) .none 0)) (List.toArray []))
noncomputable def o365 (P : Params) : Obj := (PySem.Obj.mk (.type "tuple") .none (.seq (List.toArray [(.str (Str.ofString "factor") 701), (.str (Str.ofString "name") 702), (.str (Str.ofString "rest") 703), (.str (Str.ofString "rows") 704), (.str (Str.ofString "turns") 705)]) 0) (List.toArray []))
noncomputable def o366 (P : Params) : Obj := (PySem.Obj.mk (.type "dict") .none (.dict (List.toArray [(.mk (PySem.PyData.keyHash P (Str.ofString "__module__")) (.str (Str.ofString "__module__") 631) (.str (Str.ofString "heatnet.meters") 622)), (.mk (PySem.PyData.keyHash P (Str.ofString "__firstlineno__")) (.str (Str.ofString "__firstlineno__") 635) (.int 225 634)), (.mk (PySem.PyData.keyHash P (Str.ofString "__init__")) (.str (Str.ofString "__init__") 645) (.ref 329)), (.mk (PySem.PyData.keyHash P (Str.ofString "read")) (.str (Str.ofString "read") 654) (.ref 336)), (.mk (PySem.PyData.keyHash P (Str.ofString "exchange")) (.str (Str.ofString "exchange") 664) (.ref 343)), (.mk (PySem.PyData.keyHash P (Str.ofString "correct")) (.str (Str.ofString "correct") 674) (.ref 350)), (.mk (PySem.PyData.keyHash P (Str.ofString "steps")) (.str (Str.ofString "steps") 686) (.ref 357)), (.mk (PySem.PyData.keyHash P (Str.ofString "used")) (.str (Str.ofString "used") 700) (.ref 364)), (.mk (PySem.PyData.keyHash P (Str.ofString "__static_attributes__")) (.str (Str.ofString "__static_attributes__") 706) (.ref 365)), (.mk (PySem.PyData.keyHash P (Str.ofString "__dict__")) (.str (Str.ofString "__dict__") 708) (.ref 368)), (.mk (PySem.PyData.keyHash P (Str.ofString "__weakref__")) (.str (Str.ofString "__weakref__") 710) (.ref 369)), (.mk (PySem.PyData.keyHash P (Str.ofString "__doc__")) (.str (Str.ofString "__doc__") 711) .none)]) 4) (List.toArray []))
noncomputable def o367 (P : Params) : Obj := (PySem.Obj.mk (.type "type") .none (.cls (.mk (Str.ofString "Meter") [(.type "object")] [(.ref 367), (.type "object")] 366 (Str.ofString "Meter") .true [] [] .false .none .false)) (List.toArray [.none, .none, (.some (.str (Str.ofString "Meter") 624)), (.some (.str (Str.ofString "Meter") 632)), (.some (.builtin "object.__new__")), (.some (.bool .true))]))
noncomputable def o368 (P : Params) : Obj := (PySem.Obj.mk (.type "getset_descriptor") .none (.fields (List.toArray [(.str (Str.ofString "__dict__") 707), (.ref 367), (.builtin "function.__dict__"), (.builtin "function.__dict__#set")])) (List.toArray []))
noncomputable def o369 (P : Params) : Obj := (PySem.Obj.mk (.type "getset_descriptor") .none (.fields (List.toArray [(.str (Str.ofString "__weakref__") 709), (.ref 367), (.builtin "ExceptionGroup.__weakref__"), .none])) (List.toArray []))
noncomputable def o370 (P : Params) : Obj := (PySem.Obj.mk (.type "super") .none (.fields (List.toArray [(.ref 367), (.ref 367), (.ref 367)])) (List.toArray []))
noncomputable def o371 (P : Params) : Obj := (PySem.Obj.mk (.type "builtin_function_or_method") .none (.fields (List.toArray [(.builtin "object.__init_subclass__"), (.ref 367)])) (List.toArray []))
noncomputable def t6 (P : Params) : BT := (.node (boot_o_0 P) (.node (boot_o_1 P) (.node (o3v6 P) (.node (boot_o_7 P) (.node (o15 P) (.node (o31 P) (.node (o63 P) (.node (o127 P) (lf (o255 P)) .nil) (.node (o191 P) (lf (o319 P)) .nil)) (.node (o95 P) (.node (o159 P) (lf (o287 P)) .nil) (.node (o223 P) (lf (o351 P)) .nil))) (.node (o47 P) (.node (o79 P) (.node (o143 P) (lf (o271 P)) .nil) (.node (o207 P) (lf (o335 P)) .nil)) (.node (o111 P) (.node (o175 P) (lf (o303 P)) .nil) (.node (o239 P) (lf (o367 P)) .nil)))) (.node (o23 P) (.node (o39 P) (.node (o71 P) (.node (o135 P) (lf (o263 P)) .nil) (.node (o199 P) (lf (o327 P)) .nil)) (.node (o103 P) (.node (o167 P) (lf (o295 P)) .nil) (.node (o231 P) (lf (o359 P)) .nil))) (.node (o55 P) (.node (o87 P) (.node (o151 P) (lf (o279 P)) .nil) (.node (o215 P) (lf (o343 P)) .nil)) (.node (o119 P) (.node (o183 P) (lf (o311 P)) .nil) (lf (o247 P)))))) (.node (o11 P) (.node (o19 P) (.node (o35 P) (.node (o67 P) (.node (o131 P) (lf (o259 P)) .nil) (.node (o195 P) (lf (o323 P)) .nil)) (.node (o99 P) (.node (o163 P) (lf (o291 P)) .nil) (.node (o227 P) (lf (o355 P)) .nil))) (.node (o51 P) (.node (o83 P) (.node (o147 P) (lf (o275 P)) .nil) (.node (o211 P) (lf (o339 P)) .nil)) (.node (o115 P) (.node (o179 P) (lf (o307 P)) .nil) (.node (o243 P) (lf (o371 P)) .nil)))) (.node (o27 P) (.node (o43 P) (.node (o75 P) (.node (o139 P) (lf (o267 P)) .nil) (.node (o203 P) (lf (o331 P)) .nil)) (.node (o107 P) (.node (o171 P) (lf (o299 P)) .nil) (.node (o235 P) (lf (o363 P)) .nil))) (.node (o59 P) (.node (o91 P) (.node (o155 P) (lf (o283 P)) .nil) (.node (o219 P) (lf (o347 P)) .nil)) (.node (o123 P) (.node (o187 P) (lf (o315 P)) .nil) (lf (o251 P))))))) (.node (boot_o_5 P) (.node (boot_o_9 P) (.node (o17 P) (.node (o33 P) (.node (o65 P) (.node (o129 P) (lf (o257 P)) .nil) (.node (o193 P) (lf (o321 P)) .nil)) (.node (o97 P) (.node (o161 P) (lf (o289 P)) .nil) (.node (o225 P) (lf (o353 P)) .nil))) (.node (o49 P) (.node (o81 P) (.node (o145 P) (lf (o273 P)) .nil) (.node (o209 P) (lf (o337 P)) .nil)) (.node (o113 P) (.node (o177 P) (lf (o305 P)) .nil) (.node (o241 P) (lf (o369 P)) .nil)))) (.node (o25 P) (.node (o41 P) (.node (o73 P) (.node (o137 P) (lf (o265 P)) .nil) (.node (o201 P) (lf (o329 P)) .nil)) (.node (o105 P) (.node (o169 P) (lf (o297 P)) .nil) (.node (o233 P) (lf (o361 P)) .nil))) (.node (o57 P) (.node (o89 P) (.node (o153 P) (lf (o281 P)) .nil) (.node (o217 P) (lf (o345 P)) .nil)) (.node (o121 P) (.node (o185 P) (lf (o313 P)) .nil) (lf (o249 P)))))) (.node (o13 P) (.node (o21 P) (.node (o37 P) (.node (o69 P) (.node (o133 P) (lf (o261 P)) .nil) (.node (o197 P) (lf (o325 P)) .nil)) (.node (o101 P) (.node (o165 P) (lf (o293 P)) .nil) (.node (o229 P) (lf (o357 P)) .nil))) (.node (o53 P) (.node (o85 P) (.node (o149 P) (lf (o277 P)) .nil) (.node (o213 P) (lf (o341 P)) .nil)) (.node (o117 P) (.node (o181 P) (lf (o309 P)) .nil) (lf (o245 P))))) (.node (o29 P) (.node (o45 P) (.node (o77 P) (.node (o141 P) (lf (o269 P)) .nil) (.node (o205 P) (lf (o333 P)) .nil)) (.node (o109 P) (.node (o173 P) (lf (o301 P)) .nil) (.node (o237 P) (lf (o365 P)) .nil))) (.node (o61 P) (.node (o93 P) (.node (o157 P) (lf (o285 P)) .nil) (.node (o221 P) (lf (o349 P)) .nil)) (.node (o125 P) (.node (o189 P) (lf (o317 P)) .nil) (lf (o253 P)))))))) (.node (boot_o_2 P) (.node (boot_o_4 P) (.node (boot_o_8 P) (.node (o16 P) (.node (o32 P) (.node (o64 P) (.node (o128 P) (lf (o256 P)) .nil) (.node (o192 P) (lf (o320 P)) .nil)) (.node (o96 P) (.node (o160 P) (lf (o288 P)) .nil) (.node (o224 P) (lf (o352 P)) .nil))) (.node (o48 P) (.node (o80 P) (.node (o144 P) (lf (o272 P)) .nil) (.node (o208 P) (lf (o336 P)) .nil)) (.node (o112 P) (.node (o176 P) (lf (o304 P)) .nil) (.node (o240 P) (lf (o368 P)) .nil)))) (.node (o24 P) (.node (o40 P) (.node (o72 P) (.node (o136 P) (lf (o264 P)) .nil) (.node (o200 P) (lf (o328 P)) .nil)) (.node (o104 P) (.node (o168 P) (lf (o296 P)) .nil) (.node (o232 P) (lf (o360 P)) .nil))) (.node (o56 P) (.node (o88 P) (.node (o152 P) (lf (o280 P)) .nil) (.node (o216 P) (lf (o344 P)) .nil)) (.node (o120 P) (.node (o184 P) (lf (o312 P)) .nil) (lf (o248 P)))))) (.node (o12v7 P) (.node (o20 P) (.node (o36 P) (.node (o68 P) (.node (o132 P) (lf (o260 P)) .nil) (.node (o196 P) (lf (o324 P)) .nil)) (.node (o100 P) (.node (o164 P) (lf (o292 P)) .nil) (.node (o228 P) (lf (o356 P)) .nil))) (.node (o52 P) (.node (o84 P) (.node (o148 P) (lf (o276 P)) .nil) (.node (o212 P) (lf (o340 P)) .nil)) (.node (o116 P) (.node (o180 P) (lf (o308 P)) .nil) (lf (o244 P))))) (.node (o28 P) (.node (o44 P) (.node (o76 P) (.node (o140 P) (lf (o268 P)) .nil) (.node (o204 P) (lf (o332 P)) .nil)) (.node (o108 P) (.node (o172 P) (lf (o300 P)) .nil) (.node (o236 P) (lf (o364 P)) .nil))) (.node (o60 P) (.node (o92 P) (.node (o156 P) (lf (o284 P)) .nil) (.node (o220 P) (lf (o348 P)) .nil)) (.node (o124 P) (.node (o188 P) (lf (o316 P)) .nil) (lf (o252 P))))))) (.node (boot_o_6 P) (.node (boot_o_10 P) (.node (o18 P) (.node (o34 P) (.node (o66 P) (.node (o130 P) (lf (o258 P)) .nil) (.node (o194 P) (lf (o322 P)) .nil)) (.node (o98 P) (.node (o162 P) (lf (o290 P)) .nil) (.node (o226 P) (lf (o354 P)) .nil))) (.node (o50 P) (.node (o82 P) (.node (o146 P) (lf (o274 P)) .nil) (.node (o210 P) (lf (o338 P)) .nil)) (.node (o114 P) (.node (o178 P) (lf (o306 P)) .nil) (.node (o242 P) (lf (o370 P)) .nil)))) (.node (o26 P) (.node (o42 P) (.node (o74 P) (.node (o138 P) (lf (o266 P)) .nil) (.node (o202 P) (lf (o330 P)) .nil)) (.node (o106 P) (.node (o170 P) (lf (o298 P)) .nil) (.node (o234 P) (lf (o362 P)) .nil))) (.node (o58 P) (.node (o90 P) (.node (o154 P) (lf (o282 P)) .nil) (.node (o218 P) (lf (o346 P)) .nil)) (.node (o122 P) (.node (o186 P) (lf (o314 P)) .nil) (lf (o250 P)))))) (.node (o14 P) (.node (o22 P) (.node (o38 P) (.node (o70 P) (.node (o134 P) (lf (o262 P)) .nil) (.node (o198 P) (lf (o326 P)) .nil)) (.node (o102 P) (.node (o166 P) (lf (o294 P)) .nil) (.node (o230 P) (lf (o358 P)) .nil))) (.node (o54 P) (.node (o86 P) (.node (o150 P) (lf (o278 P)) .nil) (.node (o214 P) (lf (o342 P)) .nil)) (.node (o118 P) (.node (o182 P) (lf (o310 P)) .nil) (lf (o246 P))))) (.node (o30 P) (.node (o46 P) (.node (o78 P) (.node (o142 P) (lf (o270 P)) .nil) (.node (o206 P) (lf (o334 P)) .nil)) (.node (o110 P) (.node (o174 P) (lf (o302 P)) .nil) (.node (o238 P) (lf (o366 P)) .nil))) (.node (o62 P) (.node (o94 P) (.node (o158 P) (lf (o286 P)) .nil) (.node (o222 P) (lf (o350 P)) .nil)) (.node (o126 P) (.node (o190 P) (lf (o318 P)) .nil) (lf (o254 P)))))))))
noncomputable def t6S (P : Params) (os : OsState) : SharedT := ⟨t6 P, 372, (.mk [] [] [] 0 [] [] .false (List.toArray []) [] 0 .false .false .false 0 [2000, 10, 10] .false 0 .true [] [] 0 .false), ⟨[]⟩, (.mk 0 0 0 0), 716, os⟩
set_option maxRecDepth 100000 in
theorem pc6 (w : World) : (fun os => segRunT treeTable pw w 11 annH 1 418 (t5S (w).params os) (piecesOf (((behindTheImports pw).drop 31).take 2) envH cE ((.mk 224 0 224 8) : Pos) [topFrame qH])) = fun os => some (.next, t6S (w).params os, cE, ((.mk 274 0 274 8) : Pos)) := by
  unfold piecesOf; rw [PySem.W.Fast.te10110043849684766642, PySem.W.Fast.te14364793385576792824, PySem.W.Fast.te12563942051412417395]; kernel_rfl!
noncomputable def o3v7 (P : Params) : Obj := (PySem.Obj.mk (.type "dict") .none (.dict (List.toArray [(.mk (PySem.PyData.keyHash P (Str.ofString "__name__")) (.str (Str.ofString "__name__") 165) (.str (Str.ofString "law_ui0509_14") 714)), (.mk (PySem.PyData.keyHash P (Str.ofString "__doc__")) (.str (Str.ofString "__doc__") 166) .none), (.mk (PySem.PyData.keyHash P (Str.ofString "__package__")) (.str (Str.ofString "__package__") 167) .none), (.mk (PySem.PyData.keyHash P (Str.ofString "__loader__")) (.str (Str.ofString "__loader__") 168) (.builtin "__main__.__loader__#opaque")), (.mk (PySem.PyData.keyHash P (Str.ofString "__spec__")) (.str (Str.ofString "__spec__") 169) .none), (.mk (PySem.PyData.keyHash P (Str.ofString "__annotations__")) (.str (Str.ofString "__annotations__") 170) (.ref 6)), (.mk (PySem.PyData.keyHash P (Str.ofString "__builtins__")) (.str (Str.ofString "__builtins__") 171) (.ref 4)), (.mk (PySem.PyData.keyHash P (Str.ofString "__file__")) (.str (Str.ofString "__file__") 173) (.str (Str.ofString "/claim/cut.py") 172)), (.mk (PySem.PyData.keyHash P (Str.ofString "__cached__")) (.str (Str.ofString "__cached__") 174) .none), (.mk (PySem.PyData.keyHash P (Str.ofString "_wall")) (.str (Str.ofString "_wall") 193) (.ref 21)), (.mk (PySem.PyData.keyHash P (Str.ofString "HeatError")) (.str (Str.ofString "HeatError") 213) (.ref 31)), (.mk (PySem.PyData.keyHash P (Str.ofString "need_number")) (.str (Str.ofString "need_number") 223) (.ref 41)), (.mk (PySem.PyData.keyHash P (Str.ofString "shown")) (.str (Str.ofString "shown") 230) (.ref 48)), (.mk (PySem.PyData.keyHash P (Str.ofString "need_name")) (.str (Str.ofString "need_name") 240) (.ref 55)), (.mk (PySem.PyData.keyHash P (Str.ofString "FIGURES")) (.str (Str.ofString "FIGURES") 244) (.int 2000 243)), (.mk (PySem.PyData.keyHash P (Str.ofString "MOST")) (.str (Str.ofString "MOST") 247) (.int 100000000000000000000000000000000000000000000000000000000000000000000000000000000000000000000000000000000000000000000000000000000000000000000000000000000000000000000000000000000000000000000000000000000000000000000000000000000000000000000000000000000000000000000000000000000000000000000000000000000000000000000000000000000000000000000000000000000000000000000000000000000000000000000000000000000000000000000000000000000000000000000000000000000000000000000000000000000000000000000000000000000000000000000000000000000000000000000000000000000000000000000000000000000000000000000000000000000000000000000000000000000000000000000000000000000000000000000000000000000000000000000000000000000000000000000000000000000000000000000000000000000000000000000000000000000000000000000000000000000000000000000000000000000000000000000000000000000000000000000000000000000000000000000000000000000000000000000000000000000000000000000000000000000000000000000000000000000000000000000000000000000000000000000000000000000000000000000000000000000000000000000000000000000000000000000000000000000000000000000000000000000000000000000000000000000000000000000000000000000000000000000000000000000000000000000000000000000000000000000000000000000000000000000000000000000000000000000000000000000000000000000000000000000000000000000000000000000000000000000000000000000000000000000000000000000000000000000000000000000000000000000000000000000000000000000000000000000000000000000000000000000000000000000000000000000000000000000000000000000000000000000000000000000000000000000000000000000000000000000000000000000000000000000000000000000000000000000000000000000000000000000000000000000000000000000000000000000000000000000000000000000000000000000000000000000000000000000000000000000000000000000000000000000000000000000000000000000000000000000000000000000000000000000000000000000000000000000000000000000000000000000000000000000000000000000000000000000000000000000000000000000000000000000000000000000000000000000000000000000000000000000000000000000 246)), (.mk (PySem.PyData.keyHash P (Str.ofString "NOUGHT")) (.str (Str.ofString "NOUGHT") 250) (.ref 56)), (.mk (PySem.PyData.keyHash P (Str.ofString "ONE")) (.str (Str.ofString "ONE") 253) (.ref 57)), (.mk (PySem.PyData.keyHash P (Str.ofString "divisor")) (.str (Str.ofString "divisor") 261) (.ref 64)), (.mk (PySem.PyData.keyHash P (Str.ofString "frac")) (.str (Str.ofString "frac") 271) (.ref 72)), (.mk (PySem.PyData.keyHash P (Str.ofString "need")) (.str (Str.ofString "need") 279) (.ref 80)), (.mk (PySem.PyData.keyHash P (Str.ofString "plus")) (.str (Str.ofString "plus") 287) (.ref 87)), (.mk (PySem.PyData.keyHash P (Str.ofString "times")) (.str (Str.ofString "times") 295) (.ref 94)), (.mk (PySem.PyData.keyHash P (Str.ofString "over")) (.str (Str.ofString "over") 303) (.ref 101)), (.mk (PySem.PyData.keyHash P (Str.ofString "less")) (.str (Str.ofString "less") 311) (.ref 108)), (.mk (PySem.PyData.keyHash P (Str.ofString "total")) (.str (Str.ofString "total") 320) (.ref 115)), (.mk (PySem.PyData.keyHash P (Str.ofString "show")) (.str (Str.ofString "show") 327) (.ref 122)), (.mk (PySem.PyData.keyHash P (Str.ofString "JOINTS")) (.str (Str.ofString "JOINTS") 331) (.int 60 330)), (.mk (PySem.PyData.keyHash P (Str.ofString "PIPES")) (.str (Str.ofString "PIPES") 333) (.int 90 332)), (.mk (PySem.PyData.keyHash P (Str.ofString "HOURS")) (.str (Str.ofString "HOURS") 335) (.int 24 334)), (.mk (PySem.PyData.keyHash P (Str.ofString "Pipe")) (.str (Str.ofString "Pipe") 377) (.ref 139)), (.mk (PySem.PyData.keyHash P (Str.ofString "Consumer")) (.str (Str.ofString "Consumer") 422) (.ref 167)), (.mk (PySem.PyData.keyHash P (Str.ofString "Net")) (.str (Str.ofString "Net") 604) (.ref 298)), (.mk (PySem.PyData.keyHash P (Str.ofString "day_heat")) (.str (Str.ofString "day_heat") 615) (.ref 309)), (.mk (PySem.PyData.keyHash P (Str.ofString "count_days")) (.str (Str.ofString "count_days") 621) (.ref 314)), (.mk (PySem.PyData.keyHash P (Str.ofString "Meter")) (.str (Str.ofString "Meter") 713) (.ref 367)), (.mk (PySem.PyData.keyHash P (Str.ofString "_law_cell")) (.str (Str.ofString "_law_cell") 723) (.ref 378)), (.mk (PySem.PyData.keyHash P (Str.ofString "law")) (.str (Str.ofString "law") 729) (.ref 383))]) 38) (List.toArray []))
noncomputable def o12v8 (P : Params) : Obj := (PySem.Obj.mk .none .none (.fields (List.toArray ((.int 1 0) :: (.int 0 0) :: (.ref 20) :: (.int 5 0) :: (.int 0 0) :: (.ref 27) :: (.int 7 0) :: (.int 0 0) :: (.ref 40) :: (.int 11 0) :: (.int 0 0) :: (.ref 47) :: (.int 17 0) :: (.int 0 0) :: (.ref 54) :: (.int 31 0) :: (.int 0 0) :: (.ref 63) :: (.int 37 0) :: (.int 0 0) :: (.ref 71) :: (.int 47 0) :: (.int 0 0) :: (.ref 79) :: (.int 53 0) :: (.int 0 0) :: (.ref 86) :: (.int 55 0) :: (.int 0 0) :: (.ref 93) :: (.int 57 0) :: (.int 0 0) :: (.ref 100) :: (.int 61 0) :: (.int 0 0) :: (.ref 107) :: (.int 63 0) :: (.int 0 0) :: (.ref 114) :: (.int 68 0) :: (.int 0 0) :: (.ref 121) :: (.int 74 0) :: (.int 0 0) :: (.ref 128) :: (.int 85 0) :: (.int 0 0) :: (.ref 149) :: (.int 96 0) :: (.int 0 0) :: (.ref 177) :: (.int 188 0) :: (.int 0 0) :: (.ref 308) :: (.int 191 0) :: (.int 0 0) :: (.ref 313) :: (.int 225 0) :: (.int 0 0) :: (.ref 320) :: (.int 275 0) :: (.int 0 0) :: (.ref 377) :: (.int 279 0) :: (.int 0 0) :: (.ref 382) :: []))) (List.toArray []))
noncomputable def o372 (P : Params) : Obj := (PySem.Obj.mk (.type "tuple") .none (.seq (List.toArray []) 0) (List.toArray []))
noncomputable def o373 (P : Params) : Obj := (PySem.Obj.mk .none .none (.fields (List.toArray [])) (List.toArray []))
noncomputable def o374 (P : Params) : Obj := (PySem.Obj.mk (.type "tuple") .none (.seq (List.toArray [(.str (Str.ofString "script") 719), (.str (Str.ofString "k") 720)]) 0) (List.toArray []))
noncomputable def o375 (P : Params) : Obj := (PySem.Obj.mk (.type "tuple") .none (.seq (List.toArray []) 0) (List.toArray []))
noncomputable def o376 (P : Params) : Obj := (PySem.Obj.mk .none .none (.func (FuncData.mk (Str.ofString "_law_cell") (Str.ofString "_law_cell") fa33.1 (.stmts fb33.1) fs33.1 0 [] .none .none .none .none .none .none .none 0)) (List.toArray []))
noncomputable def o377 (P : Params) : Obj := (PySem.Obj.mk (.type "code") .none (.fields (List.toArray [(.str (Str.ofString "_law_cell") 716), (.str (Str.ofString "_law_cell") 717), (.str (Str.ofString "/claim/cut.py") 718), (.int 275 0), (.int 2 0), (.int 0 0), (.int 0 0), (.int 3 0), (.ref 372), (.bool .true), (.int 181 0), (.ref 373), .none, (.ref 374), (.ref 375), (.ref 376), (.int 721 0), (.int 275 0), (.str (Str.ofString "/claim/cut.py") 722)])) (List.toArray []))
noncomputable def o378 (P : Params) : Obj := (PySem.Obj.mk (.type "function") .none (.func (FuncData.mk (Str.ofString "_law_cell") (Str.ofString "_law_cell") fa33.1 (.stmts fb33.1) fs33.1 3 [] .none .none .none (.str (Str.ofString "law_ui0509_14") 714) .none (.ref 377) .none 0)) (List.toArray []))
noncomputable def o379 (P : Params) : Obj := (PySem.Obj.mk (.type "tuple") .none (.seq (List.toArray []) 0) (List.toArray []))
noncomputable def o380 (P : Params) : Obj := (PySem.Obj.mk .none .none (.fields (List.toArray [])) (List.toArray []))
noncomputable def o381 (P : Params) : Obj := (PySem.Obj.mk .none .none (.func (FuncData.mk (Str.ofString "law") (Str.ofString "law") fa34.1 (.stmts fb34.1) fs34.1 0 [] .none .none .none .none .none .none .none 0)) (List.toArray []))
noncomputable def o382 (P : Params) : Obj := (PySem.Obj.mk (.type "code") .none (.fields (List.toArray [(.str (Str.ofString "law") 724), (.str (Str.ofString "law") 725), (.str (Str.ofString "/claim/cut.py") 726), (.int 279 0), (.int 1 0), (.int 0 0), (.int 0 0), (.int 3 0), (.ref 379), (.bool .true), (.int 181 0), (.ref 380), .none, .none, .none, (.ref 381), (.int 727 0), (.int 279 0), (.str (Str.ofString "/claim/cut.py") 728)])) (List.toArray []))
noncomputable def o383 (P : Params) : Obj := (PySem.Obj.mk (.type "function") .none (.func (FuncData.mk (Str.ofString "law") (Str.ofString "law") fa34.1 (.stmts fb34.1) fs34.1 3 [] .none .none .none (.str (Str.ofString "law_ui0509_14") 714) .none (.ref 382) .none 0)) (List.toArray []))
noncomputable def t7 (P : Params) : BT := (.node (boot_o_0 P) (.node (boot_o_1 P) (.node (o3v7 P) (.node (boot_o_7 P) (.node (o15 P) (.node (o31 P) (.node (o63 P) (.node (o127 P) (lf (o255 P)) (lf (o383 P))) (.node (o191 P) (lf (o319 P)) .nil)) (.node (o95 P) (.node (o159 P) (lf (o287 P)) .nil) (.node (o223 P) (lf (o351 P)) .nil))) (.node (o47 P) (.node (o79 P) (.node (o143 P) (lf (o271 P)) .nil) (.node (o207 P) (lf (o335 P)) .nil)) (.node (o111 P) (.node (o175 P) (lf (o303 P)) .nil) (.node (o239 P) (lf (o367 P)) .nil)))) (.node (o23 P) (.node (o39 P) (.node (o71 P) (.node (o135 P) (lf (o263 P)) .nil) (.node (o199 P) (lf (o327 P)) .nil)) (.node (o103 P) (.node (o167 P) (lf (o295 P)) .nil) (.node (o231 P) (lf (o359 P)) .nil))) (.node (o55 P) (.node (o87 P) (.node (o151 P) (lf (o279 P)) .nil) (.node (o215 P) (lf (o343 P)) .nil)) (.node (o119 P) (.node (o183 P) (lf (o311 P)) .nil) (.node (o247 P) (lf (o375 P)) .nil))))) (.node (o11 P) (.node (o19 P) (.node (o35 P) (.node (o67 P) (.node (o131 P) (lf (o259 P)) .nil) (.node (o195 P) (lf (o323 P)) .nil)) (.node (o99 P) (.node (o163 P) (lf (o291 P)) .nil) (.node (o227 P) (lf (o355 P)) .nil))) (.node (o51 P) (.node (o83 P) (.node (o147 P) (lf (o275 P)) .nil) (.node (o211 P) (lf (o339 P)) .nil)) (.node (o115 P) (.node (o179 P) (lf (o307 P)) .nil) (.node (o243 P) (lf (o371 P)) .nil)))) (.node (o27 P) (.node (o43 P) (.node (o75 P) (.node (o139 P) (lf (o267 P)) .nil) (.node (o203 P) (lf (o331 P)) .nil)) (.node (o107 P) (.node (o171 P) (lf (o299 P)) .nil) (.node (o235 P) (lf (o363 P)) .nil))) (.node (o59 P) (.node (o91 P) (.node (o155 P) (lf (o283 P)) .nil) (.node (o219 P) (lf (o347 P)) .nil)) (.node (o123 P) (.node (o187 P) (lf (o315 P)) .nil) (.node (o251 P) (lf (o379 P)) .nil)))))) (.node (boot_o_5 P) (.node (boot_o_9 P) (.node (o17 P) (.node (o33 P) (.node (o65 P) (.node (o129 P) (lf (o257 P)) .nil) (.node (o193 P) (lf (o321 P)) .nil)) (.node (o97 P) (.node (o161 P) (lf (o289 P)) .nil) (.node (o225 P) (lf (o353 P)) .nil))) (.node (o49 P) (.node (o81 P) (.node (o145 P) (lf (o273 P)) .nil) (.node (o209 P) (lf (o337 P)) .nil)) (.node (o113 P) (.node (o177 P) (lf (o305 P)) .nil) (.node (o241 P) (lf (o369 P)) .nil)))) (.node (o25 P) (.node (o41 P) (.node (o73 P) (.node (o137 P) (lf (o265 P)) .nil) (.node (o201 P) (lf (o329 P)) .nil)) (.node (o105 P) (.node (o169 P) (lf (o297 P)) .nil) (.node (o233 P) (lf (o361 P)) .nil))) (.node (o57 P) (.node (o89 P) (.node (o153 P) (lf (o281 P)) .nil) (.node (o217 P) (lf (o345 P)) .nil)) (.node (o121 P) (.node (o185 P) (lf (o313 P)) .nil) (.node (o249 P) (lf (o377 P)) .nil))))) (.node (o13 P) (.node (o21 P) (.node (o37 P) (.node (o69 P) (.node (o133 P) (lf (o261 P)) .nil) (.node (o197 P) (lf (o325 P)) .nil)) (.node (o101 P) (.node (o165 P) (lf (o293 P)) .nil) (.node (o229 P) (lf (o357 P)) .nil))) (.node (o53 P) (.node (o85 P) (.node (o149 P) (lf (o277 P)) .nil) (.node (o213 P) (lf (o341 P)) .nil)) (.node (o117 P) (.node (o181 P) (lf (o309 P)) .nil) (.node (o245 P) (lf (o373 P)) .nil)))) (.node (o29 P) (.node (o45 P) (.node (o77 P) (.node (o141 P) (lf (o269 P)) .nil) (.node (o205 P) (lf (o333 P)) .nil)) (.node (o109 P) (.node (o173 P) (lf (o301 P)) .nil) (.node (o237 P) (lf (o365 P)) .nil))) (.node (o61 P) (.node (o93 P) (.node (o157 P) (lf (o285 P)) .nil) (.node (o221 P) (lf (o349 P)) .nil)) (.node (o125 P) (.node (o189 P) (lf (o317 P)) .nil) (.node (o253 P) (lf (o381 P)) .nil))))))) (.node (boot_o_2 P) (.node (boot_o_4 P) (.node (boot_o_8 P) (.node (o16 P) (.node (o32 P) (.node (o64 P) (.node (o128 P) (lf (o256 P)) .nil) (.node (o192 P) (lf (o320 P)) .nil)) (.node (o96 P) (.node (o160 P) (lf (o288 P)) .nil) (.node (o224 P) (lf (o352 P)) .nil))) (.node (o48 P) (.node (o80 P) (.node (o144 P) (lf (o272 P)) .nil) (.node (o208 P) (lf (o336 P)) .nil)) (.node (o112 P) (.node (o176 P) (lf (o304 P)) .nil) (.node (o240 P) (lf (o368 P)) .nil)))) (.node (o24 P) (.node (o40 P) (.node (o72 P) (.node (o136 P) (lf (o264 P)) .nil) (.node (o200 P) (lf (o328 P)) .nil)) (.node (o104 P) (.node (o168 P) (lf (o296 P)) .nil) (.node (o232 P) (lf (o360 P)) .nil))) (.node (o56 P) (.node (o88 P) (.node (o152 P) (lf (o280 P)) .nil) (.node (o216 P) (lf (o344 P)) .nil)) (.node (o120 P) (.node (o184 P) (lf (o312 P)) .nil) (.node (o248 P) (lf (o376 P)) .nil))))) (.node (o12v8 P) (.node (o20 P) (.node (o36 P) (.node (o68 P) (.node (o132 P) (lf (o260 P)) .nil) (.node (o196 P) (lf (o324 P)) .nil)) (.node (o100 P) (.node (o164 P) (lf (o292 P)) .nil) (.node (o228 P) (lf (o356 P)) .nil))) (.node (o52 P) (.node (o84 P) (.node (o148 P) (lf (o276 P)) .nil) (.node (o212 P) (lf (o340 P)) .nil)) (.node (o116 P) (.node (o180 P) (lf (o308 P)) .nil) (.node (o244 P) (lf (o372 P)) .nil)))) (.node (o28 P) (.node (o44 P) (.node (o76 P) (.node (o140 P) (lf (o268 P)) .nil) (.node (o204 P) (lf (o332 P)) .nil)) (.node (o108 P) (.node (o172 P) (lf (o300 P)) .nil) (.node (o236 P) (lf (o364 P)) .nil))) (.node (o60 P) (.node (o92 P) (.node (o156 P) (lf (o284 P)) .nil) (.node (o220 P) (lf (o348 P)) .nil)) (.node (o124 P) (.node (o188 P) (lf (o316 P)) .nil) (.node (o252 P) (lf (o380 P)) .nil)))))) (.node (boot_o_6 P) (.node (boot_o_10 P) (.node (o18 P) (.node (o34 P) (.node (o66 P) (.node (o130 P) (lf (o258 P)) .nil) (.node (o194 P) (lf (o322 P)) .nil)) (.node (o98 P) (.node (o162 P) (lf (o290 P)) .nil) (.node (o226 P) (lf (o354 P)) .nil))) (.node (o50 P) (.node (o82 P) (.node (o146 P) (lf (o274 P)) .nil) (.node (o210 P) (lf (o338 P)) .nil)) (.node (o114 P) (.node (o178 P) (lf (o306 P)) .nil) (.node (o242 P) (lf (o370 P)) .nil)))) (.node (o26 P) (.node (o42 P) (.node (o74 P) (.node (o138 P) (lf (o266 P)) .nil) (.node (o202 P) (lf (o330 P)) .nil)) (.node (o106 P) (.node (o170 P) (lf (o298 P)) .nil) (.node (o234 P) (lf (o362 P)) .nil))) (.node (o58 P) (.node (o90 P) (.node (o154 P) (lf (o282 P)) .nil) (.node (o218 P) (lf (o346 P)) .nil)) (.node (o122 P) (.node (o186 P) (lf (o314 P)) .nil) (.node (o250 P) (lf (o378 P)) .nil))))) (.node (o14 P) (.node (o22 P) (.node (o38 P) (.node (o70 P) (.node (o134 P) (lf (o262 P)) .nil) (.node (o198 P) (lf (o326 P)) .nil)) (.node (o102 P) (.node (o166 P) (lf (o294 P)) .nil) (.node (o230 P) (lf (o358 P)) .nil))) (.node (o54 P) (.node (o86 P) (.node (o150 P) (lf (o278 P)) .nil) (.node (o214 P) (lf (o342 P)) .nil)) (.node (o118 P) (.node (o182 P) (lf (o310 P)) .nil) (.node (o246 P) (lf (o374 P)) .nil)))) (.node (o30 P) (.node (o46 P) (.node (o78 P) (.node (o142 P) (lf (o270 P)) .nil) (.node (o206 P) (lf (o334 P)) .nil)) (.node (o110 P) (.node (o174 P) (lf (o302 P)) .nil) (.node (o238 P) (lf (o366 P)) .nil))) (.node (o62 P) (.node (o94 P) (.node (o158 P) (lf (o286 P)) .nil) (.node (o222 P) (lf (o350 P)) .nil)) (.node (o126 P) (.node (o190 P) (lf (o318 P)) .nil) (.node (o254 P) (lf (o382 P)) .nil))))))))
noncomputable def t7S (P : Params) (os : OsState) : SharedT := ⟨t7 P, 384, (.mk [] [] [] 0 [] [] .false (List.toArray []) [] 0 .false .false .false 0 [2000, 10, 10] .false 0 .true [] [] 0 .false), ⟨[]⟩, (.mk 0 0 0 0), 730, os⟩
set_option maxRecDepth 100000 in
theorem pc7 (w : World) : (fun os => segRunT treeTable pw w 11 annH 1 57 (t6S (w).params os) (piecesOf (((behindTheImports pw).drop 33).take 2) envH cE ((.mk 274 0 274 8) : Pos) [topFrame qH])) = fun os => some (.next, t7S (w).params os, cE, ((.mk 279 0 308 99) : Pos)) := by
  unfold piecesOf; rw [PySem.W.Fast.te10110043849684766642, PySem.W.Fast.te14364793385576792824, PySem.W.Fast.te12563942051412417395]; kernel_rfl!
noncomputable def tF (P : Params) : BT := (.node (boot_o_0 P) (.node (boot_o_1 P) (.node (o3v7 P) (.node (boot_o_7 P) (.node (o15 P) (.node (o31 P) (.node (o63 P) (.node (o127 P) (lf (o255 P)) (lf (o383 P))) (.node (o191 P) (lf (o319 P)) .nil)) (.node (o95 P) (.node (o159 P) (lf (o287 P)) .nil) (.node (o223 P) (lf (o351 P)) .nil))) (.node (o47 P) (.node (o79 P) (.node (o143 P) (lf (o271 P)) .nil) (.node (o207 P) (lf (o335 P)) .nil)) (.node (o111 P) (.node (o175 P) (lf (o303 P)) .nil) (.node (o239 P) (lf (o367 P)) .nil)))) (.node (o23 P) (.node (o39 P) (.node (o71 P) (.node (o135 P) (lf (o263 P)) .nil) (.node (o199 P) (lf (o327 P)) .nil)) (.node (o103 P) (.node (o167 P) (lf (o295 P)) .nil) (.node (o231 P) (lf (o359 P)) .nil))) (.node (o55 P) (.node (o87 P) (.node (o151 P) (lf (o279 P)) .nil) (.node (o215 P) (lf (o343 P)) .nil)) (.node (o119 P) (.node (o183 P) (lf (o311 P)) .nil) (.node (o247 P) (lf (o375 P)) .nil))))) (.node (o11 P) (.node (o19 P) (.node (o35 P) (.node (o67 P) (.node (o131 P) (lf (o259 P)) .nil) (.node (o195 P) (lf (o323 P)) .nil)) (.node (o99 P) (.node (o163 P) (lf (o291 P)) .nil) (.node (o227 P) (lf (o355 P)) .nil))) (.node (o51 P) (.node (o83 P) (.node (o147 P) (lf (o275 P)) .nil) (.node (o211 P) (lf (o339 P)) .nil)) (.node (o115 P) (.node (o179 P) (lf (o307 P)) .nil) (.node (o243 P) (lf (o371 P)) .nil)))) (.node (o27 P) (.node (o43 P) (.node (o75 P) (.node (o139 P) (lf (o267 P)) .nil) (.node (o203 P) (lf (o331 P)) .nil)) (.node (o107 P) (.node (o171 P) (lf (o299 P)) .nil) (.node (o235 P) (lf (o363 P)) .nil))) (.node (o59 P) (.node (o91 P) (.node (o155 P) (lf (o283 P)) .nil) (.node (o219 P) (lf (o347 P)) .nil)) (.node (o123 P) (.node (o187 P) (lf (o315 P)) .nil) (.node (o251 P) (lf (o379 P)) .nil)))))) (.node (boot_o_5 P) (.node (boot_o_9 P) (.node (o17 P) (.node (o33 P) (.node (o65 P) (.node (o129 P) (lf (o257 P)) .nil) (.node (o193 P) (lf (o321 P)) .nil)) (.node (o97 P) (.node (o161 P) (lf (o289 P)) .nil) (.node (o225 P) (lf (o353 P)) .nil))) (.node (o49 P) (.node (o81 P) (.node (o145 P) (lf (o273 P)) .nil) (.node (o209 P) (lf (o337 P)) .nil)) (.node (o113 P) (.node (o177 P) (lf (o305 P)) .nil) (.node (o241 P) (lf (o369 P)) .nil)))) (.node (o25 P) (.node (o41 P) (.node (o73 P) (.node (o137 P) (lf (o265 P)) .nil) (.node (o201 P) (lf (o329 P)) .nil)) (.node (o105 P) (.node (o169 P) (lf (o297 P)) .nil) (.node (o233 P) (lf (o361 P)) .nil))) (.node (o57 P) (.node (o89 P) (.node (o153 P) (lf (o281 P)) .nil) (.node (o217 P) (lf (o345 P)) .nil)) (.node (o121 P) (.node (o185 P) (lf (o313 P)) .nil) (.node (o249 P) (lf (o377 P)) .nil))))) (.node (o13 P) (.node (o21 P) (.node (o37 P) (.node (o69 P) (.node (o133 P) (lf (o261 P)) .nil) (.node (o197 P) (lf (o325 P)) .nil)) (.node (o101 P) (.node (o165 P) (lf (o293 P)) .nil) (.node (o229 P) (lf (o357 P)) .nil))) (.node (o53 P) (.node (o85 P) (.node (o149 P) (lf (o277 P)) .nil) (.node (o213 P) (lf (o341 P)) .nil)) (.node (o117 P) (.node (o181 P) (lf (o309 P)) .nil) (.node (o245 P) (lf (o373 P)) .nil)))) (.node (o29 P) (.node (o45 P) (.node (o77 P) (.node (o141 P) (lf (o269 P)) .nil) (.node (o205 P) (lf (o333 P)) .nil)) (.node (o109 P) (.node (o173 P) (lf (o301 P)) .nil) (.node (o237 P) (lf (o365 P)) .nil))) (.node (o61 P) (.node (o93 P) (.node (o157 P) (lf (o285 P)) .nil) (.node (o221 P) (lf (o349 P)) .nil)) (.node (o125 P) (.node (o189 P) (lf (o317 P)) .nil) (.node (o253 P) (lf (o381 P)) .nil))))))) (.node (boot_o_2 P) (.node (boot_o_4 P) (.node (boot_o_8 P) (.node (o16 P) (.node (o32 P) (.node (o64 P) (.node (o128 P) (lf (o256 P)) .nil) (.node (o192 P) (lf (o320 P)) .nil)) (.node (o96 P) (.node (o160 P) (lf (o288 P)) .nil) (.node (o224 P) (lf (o352 P)) .nil))) (.node (o48 P) (.node (o80 P) (.node (o144 P) (lf (o272 P)) .nil) (.node (o208 P) (lf (o336 P)) .nil)) (.node (o112 P) (.node (o176 P) (lf (o304 P)) .nil) (.node (o240 P) (lf (o368 P)) .nil)))) (.node (o24 P) (.node (o40 P) (.node (o72 P) (.node (o136 P) (lf (o264 P)) .nil) (.node (o200 P) (lf (o328 P)) .nil)) (.node (o104 P) (.node (o168 P) (lf (o296 P)) .nil) (.node (o232 P) (lf (o360 P)) .nil))) (.node (o56 P) (.node (o88 P) (.node (o152 P) (lf (o280 P)) .nil) (.node (o216 P) (lf (o344 P)) .nil)) (.node (o120 P) (.node (o184 P) (lf (o312 P)) .nil) (.node (o248 P) (lf (o376 P)) .nil))))) (.node (o12v8 P) (.node (o20 P) (.node (o36 P) (.node (o68 P) (.node (o132 P) (lf (o260 P)) .nil) (.node (o196 P) (lf (o324 P)) .nil)) (.node (o100 P) (.node (o164 P) (lf (o292 P)) .nil) (.node (o228 P) (lf (o356 P)) .nil))) (.node (o52 P) (.node (o84 P) (.node (o148 P) (lf (o276 P)) .nil) (.node (o212 P) (lf (o340 P)) .nil)) (.node (o116 P) (.node (o180 P) (lf (o308 P)) .nil) (.node (o244 P) (lf (o372 P)) .nil)))) (.node (o28 P) (.node (o44 P) (.node (o76 P) (.node (o140 P) (lf (o268 P)) .nil) (.node (o204 P) (lf (o332 P)) .nil)) (.node (o108 P) (.node (o172 P) (lf (o300 P)) .nil) (.node (o236 P) (lf (o364 P)) .nil))) (.node (o60 P) (.node (o92 P) (.node (o156 P) (lf (o284 P)) .nil) (.node (o220 P) (lf (o348 P)) .nil)) (.node (o124 P) (.node (o188 P) (lf (o316 P)) .nil) (.node (o252 P) (lf (o380 P)) .nil)))))) (.node (boot_o_6 P) (.node (boot_o_10 P) (.node (o18 P) (.node (o34 P) (.node (o66 P) (.node (o130 P) (lf (o258 P)) .nil) (.node (o194 P) (lf (o322 P)) .nil)) (.node (o98 P) (.node (o162 P) (lf (o290 P)) .nil) (.node (o226 P) (lf (o354 P)) .nil))) (.node (o50 P) (.node (o82 P) (.node (o146 P) (lf (o274 P)) .nil) (.node (o210 P) (lf (o338 P)) .nil)) (.node (o114 P) (.node (o178 P) (lf (o306 P)) .nil) (.node (o242 P) (lf (o370 P)) .nil)))) (.node (o26 P) (.node (o42 P) (.node (o74 P) (.node (o138 P) (lf (o266 P)) .nil) (.node (o202 P) (lf (o330 P)) .nil)) (.node (o106 P) (.node (o170 P) (lf (o298 P)) .nil) (.node (o234 P) (lf (o362 P)) .nil))) (.node (o58 P) (.node (o90 P) (.node (o154 P) (lf (o282 P)) .nil) (.node (o218 P) (lf (o346 P)) .nil)) (.node (o122 P) (.node (o186 P) (lf (o314 P)) .nil) (.node (o250 P) (lf (o378 P)) .nil))))) (.node (o14 P) (.node (o22 P) (.node (o38 P) (.node (o70 P) (.node (o134 P) (lf (o262 P)) .nil) (.node (o198 P) (lf (o326 P)) .nil)) (.node (o102 P) (.node (o166 P) (lf (o294 P)) .nil) (.node (o230 P) (lf (o358 P)) .nil))) (.node (o54 P) (.node (o86 P) (.node (o150 P) (lf (o278 P)) .nil) (.node (o214 P) (lf (o342 P)) .nil)) (.node (o118 P) (.node (o182 P) (lf (o310 P)) .nil) (.node (o246 P) (lf (o374 P)) .nil)))) (.node (o30 P) (.node (o46 P) (.node (o78 P) (.node (o142 P) (lf (o270 P)) .nil) (.node (o206 P) (lf (o334 P)) .nil)) (.node (o110 P) (.node (o174 P) (lf (o302 P)) .nil) (.node (o238 P) (lf (o366 P)) .nil))) (.node (o62 P) (.node (o94 P) (.node (o158 P) (lf (o286 P)) .nil) (.node (o222 P) (lf (o350 P)) .nil)) (.node (o126 P) (.node (o190 P) (lf (o318 P)) .nil) (.node (o254 P) (lf (o382 P)) .nil))))))))
noncomputable def tFS (P : Params) (os : OsState) : SharedT := ⟨tF P, 384, (.mk [] [] [] 0 [] [] .false (List.toArray []) [] 0 .false .false .false 0 [2000, 10, 10] .false 0 .true [] [] 0 .false), ⟨[]⟩, (.mk 0 0 0 0), 730, os⟩
theorem finH (w : World) : (fun os => topRun treeTable pw w 11 annH 2 (t7S w.params os).abs ⟨doneF .next, cE, ((.mk 279 0 308 99) : Pos), [topFrame qH]⟩) = fun os => some (tFS w.params os).abs := by
  rw [PySem.W.Fast.te14082659384304107361, PySem.W.Fast.te14364793385576792824]; kernel_rfl!
theorem step_pc {tb : String → Option Builtin} {p : Program} {w : World} {n₀ : Nat} {ann : Option Value} {env : Env} {q : Pos} {n N : Nat} {s s' : SharedT} {r : Shared} {c : Code} {pos p' : Pos} (b : List Stmt) (a k : Nat) (h : segRunT tb p w n₀ ann 1 n s (piecesOf ((b.drop a).take k) env c pos [topFrame q]) = some (.next, s', c, p'))
    (kk : topRun tb p w n₀ ann N s'.abs (PySem.W.restOf (b.drop (a + k)) env c p' [topFrame q]) = some r) : topRun tb p w n₀ ann (n + N) s.abs (PySem.W.restOf (b.drop a) env c pos [topFrame q]) = some r := by
  have e : (b.drop a).take k ++ b.drop (a + k) = b.drop a := by rw [← List.drop_drop, List.take_append_drop]
  have h2 := piece_app (segRun_of h) kk
  rw [e] at h2; exact h2
theorem runH (w : World) (os : OsState) : topRun treeTable pw w 11 annH 2779 (s0H w.params os) (topStub pw) = some (tFS w.params os).abs :=
  go_top (N := 2767) (congrFun (preH w) os) (piece_block (N := 2766) (segRun_of (congrFun (blockH w) os)) (step_pc (behindTheImports pw) 0 12 (congrFun (pc0 w) os) (step_pc (behindTheImports pw) 12 12 (congrFun (pc1 w) os) (step_pc (behindTheImports pw) 24 1 (congrFun (pc2 w) os) (step_pc (behindTheImports pw) 25 1 (congrFun (pc3 w) os) (step_pc (behindTheImports pw) 26 1 (congrFun (pc4 w) os) (step_pc (behindTheImports pw) 27 4 (congrFun (pc5 w) os) (step_pc (behindTheImports pw) 31 2 (congrFun (pc6 w) os) (step_pc (behindTheImports pw) 33 2 (congrFun (pc7 w) os) (congrFun (finH w) os))))))))))
noncomputable def vq : Program := view pw [0, 2, 3, 4, 5, 7, 8, 9, 10, 11, 14, 15, 16, 17, 18, 19, 21, 22, 23, 24, 25, 26, 28, 29, 31, 33, 34]
noncomputable def K : Params → Frag := fun P => (nat_lit 2, boot_o_2 P) :: (nat_lit 3, o3v7 P) :: (nat_lit 15, o15 P) :: (nat_lit 17, o17 P) :: (nat_lit 18, o18 P) :: (nat_lit 20, o20 P) :: (nat_lit 21, o21 P) :: (nat_lit 22, o22 P) :: (nat_lit 29, o29 P) :: (nat_lit 30, o30 P) :: (nat_lit 31, o31 P) :: (nat_lit 32, o32 P) :: (nat_lit 35, o35 P) :: (nat_lit 37, o37 P) :: (nat_lit 38, o38 P) :: (nat_lit 40, o40 P) :: (nat_lit 41, o41 P) :: (nat_lit 42, o42 P) :: (nat_lit 44, o44 P) :: (nat_lit 45, o45 P) :: (nat_lit 47, o47 P) :: (nat_lit 48, o48 P) :: (nat_lit 49, o49 P) :: (nat_lit 51, o51 P) :: (nat_lit 52, o52 P) :: (nat_lit 54, o54 P) :: (nat_lit 55, o55 P) :: (nat_lit 56, o56 P) :: (nat_lit 57, o57 P) :: (nat_lit 58, o58 P) :: (nat_lit 60, o60 P) :: (nat_lit 61, o61 P) :: (nat_lit 63, o63 P) :: (nat_lit 64, o64 P) :: (nat_lit 65, o65 P) :: (nat_lit 66, o66 P) :: (nat_lit 68, o68 P) :: (nat_lit 69, o69 P) :: (nat_lit 71, o71 P) :: (nat_lit 72, o72 P) :: (nat_lit 73, o73 P) :: (nat_lit 74, o74 P) :: (nat_lit 76, o76 P) :: (nat_lit 77, o77 P) :: (nat_lit 79, o79 P) :: (nat_lit 80, o80 P) :: (nat_lit 81, o81 P) :: (nat_lit 83, o83 P) :: (nat_lit 84, o84 P) :: (nat_lit 86, o86 P) :: (nat_lit 87, o87 P) :: (nat_lit 88, o88 P) :: (nat_lit 90, o90 P) :: (nat_lit 91, o91 P) :: (nat_lit 93, o93 P) :: (nat_lit 94, o94 P) :: (nat_lit 95, o95 P) :: (nat_lit 97, o97 P) :: (nat_lit 98, o98 P) :: (nat_lit 100, o100 P) :: (nat_lit 101, o101 P) :: (nat_lit 102, o102 P) :: (nat_lit 104, o104 P) :: (nat_lit 105, o105 P) :: (nat_lit 107, o107 P) :: (nat_lit 108, o108 P) :: (nat_lit 109, o109 P) :: (nat_lit 111, o111 P) :: (nat_lit 112, o112 P) :: (nat_lit 114, o114 P) :: (nat_lit 115, o115 P) :: (nat_lit 116, o116 P) :: (nat_lit 118, o118 P) :: (nat_lit 119, o119 P) :: (nat_lit 121, o121 P) :: (nat_lit 122, o122 P) :: (nat_lit 130, o130 P) :: (nat_lit 132, o132 P) :: (nat_lit 133, o133 P) :: (nat_lit 135, o135 P) :: (nat_lit 136, o136 P) :: (nat_lit 137, o137 P) :: (nat_lit 138, o138 P) :: (nat_lit 139, o139 P) :: (nat_lit 140, o140 P) :: (nat_lit 141, o141 P) :: (nat_lit 151, o151 P) :: (nat_lit 153, o153 P) :: (nat_lit 154, o154 P) :: (nat_lit 156, o156 P) :: (nat_lit 157, o157 P) :: (nat_lit 158, o158 P) :: (nat_lit 160, o160 P) :: (nat_lit 161, o161 P) :: (nat_lit 163, o163 P) :: (nat_lit 164, o164 P) :: (nat_lit 165, o165 P) :: (nat_lit 166, o166 P) :: (nat_lit 167, o167 P) :: (nat_lit 168, o168 P) :: (nat_lit 169, o169 P) :: (nat_lit 185, o185 P) :: (nat_lit 186, o186 P) :: (nat_lit 187, o187 P) :: (nat_lit 189, o189 P) :: (nat_lit 190, o190 P) :: (nat_lit 192, o192 P) :: (nat_lit 193, o193 P) :: (nat_lit 194, o194 P) :: (nat_lit 196, o196 P) :: (nat_lit 197, o197 P) :: (nat_lit 199, o199 P) :: (nat_lit 200, o200 P) :: (nat_lit 201, o201 P) :: (nat_lit 203, o203 P) :: (nat_lit 204, o204 P) :: (nat_lit 206, o206 P) :: (nat_lit 207, o207 P) :: (nat_lit 208, o208 P) :: (nat_lit 210, o210 P) :: (nat_lit 211, o211 P) :: (nat_lit 213, o213 P) :: (nat_lit 214, o214 P) :: (nat_lit 215, o215 P) :: (nat_lit 217, o217 P) :: (nat_lit 218, o218 P) :: (nat_lit 220, o220 P) :: (nat_lit 221, o221 P) :: (nat_lit 222, o222 P) :: (nat_lit 223, o223 P) :: (nat_lit 225, o225 P) :: (nat_lit 226, o226 P) :: (nat_lit 228, o228 P) :: (nat_lit 229, o229 P) :: (nat_lit 230, o230 P) :: (nat_lit 232, o232 P) :: (nat_lit 233, o233 P) :: (nat_lit 235, o235 P) :: (nat_lit 236, o236 P) :: (nat_lit 237, o237 P) :: (nat_lit 239, o239 P) :: (nat_lit 240, o240 P) :: (nat_lit 242, o242 P) :: (nat_lit 243, o243 P) :: (nat_lit 244, o244 P) :: (nat_lit 246, o246 P) :: (nat_lit 247, o247 P) :: (nat_lit 249, o249 P) :: (nat_lit 250, o250 P) :: (nat_lit 251, o251 P) :: (nat_lit 254, o254 P) :: (nat_lit 255, o255 P) :: (nat_lit 256, o256 P) :: (nat_lit 259, o259 P) :: (nat_lit 260, o260 P) :: (nat_lit 261, o261 P) :: (nat_lit 263, o263 P) :: (nat_lit 264, o264 P) :: (nat_lit 266, o266 P) :: (nat_lit 267, o267 P) :: (nat_lit 268, o268 P) :: (nat_lit 270, o270 P) :: (nat_lit 271, o271 P) :: (nat_lit 273, o273 P) :: (nat_lit 274, o274 P) :: (nat_lit 275, o275 P) :: (nat_lit 277, o277 P) :: (nat_lit 278, o278 P) :: (nat_lit 280, o280 P) :: (nat_lit 281, o281 P) :: (nat_lit 282, o282 P) :: (nat_lit 284, o284 P) :: (nat_lit 285, o285 P) :: (nat_lit 287, o287 P) :: (nat_lit 288, o288 P) :: (nat_lit 289, o289 P) :: (nat_lit 291, o291 P) :: (nat_lit 292, o292 P) :: (nat_lit 294, o294 P) :: (nat_lit 295, o295 P) :: (nat_lit 296, o296 P) :: (nat_lit 297, o297 P) :: (nat_lit 298, o298 P) :: (nat_lit 299, o299 P) :: (nat_lit 300, o300 P) :: (nat_lit 303, o303 P) :: (nat_lit 305, o305 P) :: (nat_lit 306, o306 P) :: (nat_lit 308, o308 P) :: (nat_lit 309, o309 P) :: (nat_lit 310, o310 P) :: (nat_lit 313, o313 P) :: (nat_lit 314, o314 P) :: (nat_lit 322, o322 P) :: (nat_lit 323, o323 P) :: (nat_lit 325, o325 P) :: (nat_lit 326, o326 P) :: (nat_lit 328, o328 P) :: (nat_lit 329, o329 P) :: (nat_lit 330, o330 P) :: (nat_lit 332, o332 P) :: (nat_lit 333, o333 P) :: (nat_lit 335, o335 P) :: (nat_lit 336, o336 P) :: (nat_lit 337, o337 P) :: (nat_lit 339, o339 P) :: (nat_lit 340, o340 P) :: (nat_lit 342, o342 P) :: (nat_lit 343, o343 P) :: (nat_lit 344, o344 P) :: (nat_lit 346, o346 P) :: (nat_lit 347, o347 P) :: (nat_lit 349, o349 P) :: (nat_lit 350, o350 P) :: (nat_lit 351, o351 P) :: (nat_lit 353, o353 P) :: (nat_lit 354, o354 P) :: (nat_lit 356, o356 P) :: (nat_lit 357, o357 P) :: (nat_lit 358, o358 P) :: (nat_lit 360, o360 P) :: (nat_lit 361, o361 P) :: (nat_lit 363, o363 P) :: (nat_lit 364, o364 P) :: (nat_lit 365, o365 P) :: (nat_lit 366, o366 P) :: (nat_lit 367, o367 P) :: (nat_lit 368, o368 P) :: (nat_lit 369, o369 P) :: (nat_lit 372, o372 P) :: (nat_lit 374, o374 P) :: (nat_lit 375, o375 P) :: (nat_lit 377, o377 P) :: (nat_lit 378, o378 P) :: (nat_lit 379, o379 P) :: (nat_lit 382, o382 P) :: (nat_lit 383, o383 P) :: []
theorem hkH : ∀ P, (((nat_lit 2) :: (nat_lit 3) :: (nat_lit 15) :: (nat_lit 17) :: (nat_lit 18) :: (nat_lit 20) :: (nat_lit 21) :: (nat_lit 22) :: (nat_lit 29) :: (nat_lit 30) :: (nat_lit 31) :: (nat_lit 32) :: (nat_lit 35) :: (nat_lit 37) :: (nat_lit 38) :: (nat_lit 40) :: (nat_lit 41) :: (nat_lit 42) :: (nat_lit 44) :: (nat_lit 45) :: (nat_lit 47) :: (nat_lit 48) :: (nat_lit 49) :: (nat_lit 51) :: (nat_lit 52) :: (nat_lit 54) :: (nat_lit 55) :: (nat_lit 56) :: (nat_lit 57) :: (nat_lit 58) :: (nat_lit 60) :: (nat_lit 61) :: (nat_lit 63) :: (nat_lit 64) :: (nat_lit 65) :: (nat_lit 66) :: (nat_lit 68) :: (nat_lit 69) :: (nat_lit 71) :: (nat_lit 72) :: (nat_lit 73) :: (nat_lit 74) :: (nat_lit 76) :: (nat_lit 77) :: (nat_lit 79) :: (nat_lit 80) :: (nat_lit 81) :: (nat_lit 83) :: (nat_lit 84) :: (nat_lit 86) :: (nat_lit 87) :: (nat_lit 88) :: (nat_lit 90) :: (nat_lit 91) :: (nat_lit 93) :: (nat_lit 94) :: (nat_lit 95) :: (nat_lit 97) :: (nat_lit 98) :: (nat_lit 100) :: (nat_lit 101) :: (nat_lit 102) :: (nat_lit 104) :: (nat_lit 105) :: (nat_lit 107) :: (nat_lit 108) :: (nat_lit 109) :: (nat_lit 111) :: (nat_lit 112) :: (nat_lit 114) :: (nat_lit 115) :: (nat_lit 116) :: (nat_lit 118) :: (nat_lit 119) :: (nat_lit 121) :: (nat_lit 122) :: (nat_lit 130) :: (nat_lit 132) :: (nat_lit 133) :: (nat_lit 135) :: (nat_lit 136) :: (nat_lit 137) :: (nat_lit 138) :: (nat_lit 139) :: (nat_lit 140) :: (nat_lit 141) :: (nat_lit 151) :: (nat_lit 153) :: (nat_lit 154) :: (nat_lit 156) :: (nat_lit 157) :: (nat_lit 158) :: (nat_lit 160) :: (nat_lit 161) :: (nat_lit 163) :: (nat_lit 164) :: (nat_lit 165) :: (nat_lit 166) :: (nat_lit 167) :: (nat_lit 168) :: (nat_lit 169) :: (nat_lit 185) :: (nat_lit 186) :: (nat_lit 187) :: (nat_lit 189) :: (nat_lit 190) :: (nat_lit 192) :: (nat_lit 193) :: (nat_lit 194) :: (nat_lit 196) :: (nat_lit 197) :: (nat_lit 199) :: (nat_lit 200) :: (nat_lit 201) :: (nat_lit 203) :: (nat_lit 204) :: (nat_lit 206) :: (nat_lit 207) :: (nat_lit 208) :: (nat_lit 210) :: (nat_lit 211) :: (nat_lit 213) :: (nat_lit 214) :: (nat_lit 215) :: (nat_lit 217) :: (nat_lit 218) :: (nat_lit 220) :: (nat_lit 221) :: (nat_lit 222) :: (nat_lit 223) :: (nat_lit 225) :: (nat_lit 226) :: (nat_lit 228) :: (nat_lit 229) :: (nat_lit 230) :: (nat_lit 232) :: (nat_lit 233) :: (nat_lit 235) :: (nat_lit 236) :: (nat_lit 237) :: (nat_lit 239) :: (nat_lit 240) :: (nat_lit 242) :: (nat_lit 243) :: (nat_lit 244) :: (nat_lit 246) :: (nat_lit 247) :: (nat_lit 249) :: (nat_lit 250) :: (nat_lit 251) :: (nat_lit 254) :: (nat_lit 255) :: (nat_lit 256) :: (nat_lit 259) :: (nat_lit 260) :: (nat_lit 261) :: (nat_lit 263) :: (nat_lit 264) :: (nat_lit 266) :: (nat_lit 267) :: (nat_lit 268) :: (nat_lit 270) :: (nat_lit 271) :: (nat_lit 273) :: (nat_lit 274) :: (nat_lit 275) :: (nat_lit 277) :: (nat_lit 278) :: (nat_lit 280) :: (nat_lit 281) :: (nat_lit 282) :: (nat_lit 284) :: (nat_lit 285) :: (nat_lit 287) :: (nat_lit 288) :: (nat_lit 289) :: (nat_lit 291) :: (nat_lit 292) :: (nat_lit 294) :: (nat_lit 295) :: (nat_lit 296) :: (nat_lit 297) :: (nat_lit 298) :: (nat_lit 299) :: (nat_lit 300) :: (nat_lit 303) :: (nat_lit 305) :: (nat_lit 306) :: (nat_lit 308) :: (nat_lit 309) :: (nat_lit 310) :: (nat_lit 313) :: (nat_lit 314) :: (nat_lit 322) :: (nat_lit 323) :: (nat_lit 325) :: (nat_lit 326) :: (nat_lit 328) :: (nat_lit 329) :: (nat_lit 330) :: (nat_lit 332) :: (nat_lit 333) :: (nat_lit 335) :: (nat_lit 336) :: (nat_lit 337) :: (nat_lit 339) :: (nat_lit 340) :: (nat_lit 342) :: (nat_lit 343) :: (nat_lit 344) :: (nat_lit 346) :: (nat_lit 347) :: (nat_lit 349) :: (nat_lit 350) :: (nat_lit 351) :: (nat_lit 353) :: (nat_lit 354) :: (nat_lit 356) :: (nat_lit 357) :: (nat_lit 358) :: (nat_lit 360) :: (nat_lit 361) :: (nat_lit 363) :: (nat_lit 364) :: (nat_lit 365) :: (nat_lit 366) :: (nat_lit 367) :: (nat_lit 368) :: (nat_lit 369) :: (nat_lit 372) :: (nat_lit 374) :: (nat_lit 375) :: (nat_lit 377) :: (nat_lit 378) :: (nat_lit 379) :: (nat_lit 382) :: (nat_lit 383) :: []) : List Addr) = (K P).map (·.1) := fun _ => by kernel_rfl!
@[reducible] noncomputable def dH : DefRec := ⟨Str.ofString "law", fa34.1, fb34.1, fs34.1, (.mk 279 0 308 99)⟩
theorem openH : ∀ w : World, (fencedOpening treeTable pw w 5638).map (fun s => (s.heap, s.gens, s.drawn, s.toks)) = some (boot_heap w.params, Array.mk [], boot_drawn, boot_toks) :=
  boot_open (by kernel_rfl!) (by decide) (fun s => by kernel_rfl!)
theorem sizeH : ∀ w : World, ((boot_heap w.params).isNs mainGlobals && (Array.mk [] : Array GenState).size == 0, (boot_heap w.params).objs.size, (boot_heap w.params).nsMap mainGlobals "__annotations__") = (true, 11, annH) := fun w => by kernel_rfl!
theorem looksH (w : World) : (fun os => ((staticsOk (importedModules pw.main.body) (boot_heap w.params) (tFS w.params os).abs.heap && namesBound pw (tFS w.params os).abs.heap && gensDone (tFS w.params os).abs && laidKept (boot_heap w.params) (tFS w.params os).abs.heap),
    openSeen vq [Str.ofString "MOST", Str.ofString "frac", Str.ofString "need", Str.ofString "Net", Str.ofString "Meter"] (importedModules pw.main.body) (fun s => xlAt vq ([(Str.ofString "MOST", (.int 100000000000000000000000000000000000000000000000000000000000000000000000000000000000000000000000000000000000000000000000000000000000000000000000000000000000000000000000000000000000000000000000000000000000000000000000000000000000000000000000000000000000000000000000000000000000000000000000000000000000000000000000000000000000000000000000000000000000000000000000000000000000000000000000000000000000000000000000000000000000000000000000000000000000000000000000000000000000000000000000000000000000000000000000000000000000000000000000000000000000000000000000000000000000000000000000000000000000000000000000000000000000000000000000000000000000000000000000000000000000000000000000000000000000000000000000000000000000000000000000000000000000000000000000000000000000000000000000000000000000000000000000000000000000000000000000000000000000000000000000000000000000000000000000000000000000000000000000000000000000000000000000000000000000000000000000000000000000000000000000000000000000000000000000000000000000000000000000000000000000000000000000000000000000000000000000000000000000000000000000000000000000000000000000000000000000000000000000000000000000000000000000000000000000000000000000000000000000000000000000000000000000000000000000000000000000000000000000000000000000000000000000000000000000000000000000000000000000000000000000000000000000000000000000000000000000000000000000000000000000000000000000000000000000000000000000000000000000000000000000000000000000000000000000000000000000000000000000000000000000000000000000000000000000000000000000000000000000000000000000000000000000000000000000000000000000000000000000000000000000000000000000000000000000000000000000000000000000000000000000000000000000000000000000000000000000000000000000000000000000000000000000000000000000000000000000000000000000000000000000000000000000000000000000000000000000000000000000000000000000000000000000000000000000000000000000000000000000000000000000000000000000000000000000000000000000000000000000000000000000000000000000000000000))] : List (Str × WData)) s && recOk (RowW.records (OpenRow.toRowW (OpenLaw.row PySem.Challenge.rw_ui0509_14))) s) true (tFS w.params os).abs, Hook.obs (kHook K ((nat_lit 2) :: (nat_lit 3) :: (nat_lit 15) :: (nat_lit 17) :: (nat_lit 18) :: (nat_lit 20) :: (nat_lit 21) :: (nat_lit 22) :: (nat_lit 29) :: (nat_lit 30) :: (nat_lit 31) :: (nat_lit 32) :: (nat_lit 35) :: (nat_lit 37) :: (nat_lit 38) :: (nat_lit 40) :: (nat_lit 41) :: (nat_lit 42) :: (nat_lit 44) :: (nat_lit 45) :: (nat_lit 47) :: (nat_lit 48) :: (nat_lit 49) :: (nat_lit 51) :: (nat_lit 52) :: (nat_lit 54) :: (nat_lit 55) :: (nat_lit 56) :: (nat_lit 57) :: (nat_lit 58) :: (nat_lit 60) :: (nat_lit 61) :: (nat_lit 63) :: (nat_lit 64) :: (nat_lit 65) :: (nat_lit 66) :: (nat_lit 68) :: (nat_lit 69) :: (nat_lit 71) :: (nat_lit 72) :: (nat_lit 73) :: (nat_lit 74) :: (nat_lit 76) :: (nat_lit 77) :: (nat_lit 79) :: (nat_lit 80) :: (nat_lit 81) :: (nat_lit 83) :: (nat_lit 84) :: (nat_lit 86) :: (nat_lit 87) :: (nat_lit 88) :: (nat_lit 90) :: (nat_lit 91) :: (nat_lit 93) :: (nat_lit 94) :: (nat_lit 95) :: (nat_lit 97) :: (nat_lit 98) :: (nat_lit 100) :: (nat_lit 101) :: (nat_lit 102) :: (nat_lit 104) :: (nat_lit 105) :: (nat_lit 107) :: (nat_lit 108) :: (nat_lit 109) :: (nat_lit 111) :: (nat_lit 112) :: (nat_lit 114) :: (nat_lit 115) :: (nat_lit 116) :: (nat_lit 118) :: (nat_lit 119) :: (nat_lit 121) :: (nat_lit 122) :: (nat_lit 130) :: (nat_lit 132) :: (nat_lit 133) :: (nat_lit 135) :: (nat_lit 136) :: (nat_lit 137) :: (nat_lit 138) :: (nat_lit 139) :: (nat_lit 140) :: (nat_lit 141) :: (nat_lit 151) :: (nat_lit 153) :: (nat_lit 154) :: (nat_lit 156) :: (nat_lit 157) :: (nat_lit 158) :: (nat_lit 160) :: (nat_lit 161) :: (nat_lit 163) :: (nat_lit 164) :: (nat_lit 165) :: (nat_lit 166) :: (nat_lit 167) :: (nat_lit 168) :: (nat_lit 169) :: (nat_lit 185) :: (nat_lit 186) :: (nat_lit 187) :: (nat_lit 189) :: (nat_lit 190) :: (nat_lit 192) :: (nat_lit 193) :: (nat_lit 194) :: (nat_lit 196) :: (nat_lit 197) :: (nat_lit 199) :: (nat_lit 200) :: (nat_lit 201) :: (nat_lit 203) :: (nat_lit 204) :: (nat_lit 206) :: (nat_lit 207) :: (nat_lit 208) :: (nat_lit 210) :: (nat_lit 211) :: (nat_lit 213) :: (nat_lit 214) :: (nat_lit 215) :: (nat_lit 217) :: (nat_lit 218) :: (nat_lit 220) :: (nat_lit 221) :: (nat_lit 222) :: (nat_lit 223) :: (nat_lit 225) :: (nat_lit 226) :: (nat_lit 228) :: (nat_lit 229) :: (nat_lit 230) :: (nat_lit 232) :: (nat_lit 233) :: (nat_lit 235) :: (nat_lit 236) :: (nat_lit 237) :: (nat_lit 239) :: (nat_lit 240) :: (nat_lit 242) :: (nat_lit 243) :: (nat_lit 244) :: (nat_lit 246) :: (nat_lit 247) :: (nat_lit 249) :: (nat_lit 250) :: (nat_lit 251) :: (nat_lit 254) :: (nat_lit 255) :: (nat_lit 256) :: (nat_lit 259) :: (nat_lit 260) :: (nat_lit 261) :: (nat_lit 263) :: (nat_lit 264) :: (nat_lit 266) :: (nat_lit 267) :: (nat_lit 268) :: (nat_lit 270) :: (nat_lit 271) :: (nat_lit 273) :: (nat_lit 274) :: (nat_lit 275) :: (nat_lit 277) :: (nat_lit 278) :: (nat_lit 280) :: (nat_lit 281) :: (nat_lit 282) :: (nat_lit 284) :: (nat_lit 285) :: (nat_lit 287) :: (nat_lit 288) :: (nat_lit 289) :: (nat_lit 291) :: (nat_lit 292) :: (nat_lit 294) :: (nat_lit 295) :: (nat_lit 296) :: (nat_lit 297) :: (nat_lit 298) :: (nat_lit 299) :: (nat_lit 300) :: (nat_lit 303) :: (nat_lit 305) :: (nat_lit 306) :: (nat_lit 308) :: (nat_lit 309) :: (nat_lit 310) :: (nat_lit 313) :: (nat_lit 314) :: (nat_lit 322) :: (nat_lit 323) :: (nat_lit 325) :: (nat_lit 326) :: (nat_lit 328) :: (nat_lit 329) :: (nat_lit 330) :: (nat_lit 332) :: (nat_lit 333) :: (nat_lit 335) :: (nat_lit 336) :: (nat_lit 337) :: (nat_lit 339) :: (nat_lit 340) :: (nat_lit 342) :: (nat_lit 343) :: (nat_lit 344) :: (nat_lit 346) :: (nat_lit 347) :: (nat_lit 349) :: (nat_lit 350) :: (nat_lit 351) :: (nat_lit 353) :: (nat_lit 354) :: (nat_lit 356) :: (nat_lit 357) :: (nat_lit 358) :: (nat_lit 360) :: (nat_lit 361) :: (nat_lit 363) :: (nat_lit 364) :: (nat_lit 365) :: (nat_lit 366) :: (nat_lit 367) :: (nat_lit 368) :: (nat_lit 369) :: (nat_lit 372) :: (nat_lit 374) :: (nat_lit 375) :: (nat_lit 377) :: (nat_lit 378) :: (nat_lit 379) :: (nat_lit 382) :: (nat_lit 383) :: []) hkH) (tFS w.params os).abs)) = fun _ => (true, openGood vq [Str.ofString "MOST", Str.ofString "frac", Str.ofString "need", Str.ofString "Net", Str.ofString "Meter"], Hook.val (kHook K ((nat_lit 2) :: (nat_lit 3) :: (nat_lit 15) :: (nat_lit 17) :: (nat_lit 18) :: (nat_lit 20) :: (nat_lit 21) :: (nat_lit 22) :: (nat_lit 29) :: (nat_lit 30) :: (nat_lit 31) :: (nat_lit 32) :: (nat_lit 35) :: (nat_lit 37) :: (nat_lit 38) :: (nat_lit 40) :: (nat_lit 41) :: (nat_lit 42) :: (nat_lit 44) :: (nat_lit 45) :: (nat_lit 47) :: (nat_lit 48) :: (nat_lit 49) :: (nat_lit 51) :: (nat_lit 52) :: (nat_lit 54) :: (nat_lit 55) :: (nat_lit 56) :: (nat_lit 57) :: (nat_lit 58) :: (nat_lit 60) :: (nat_lit 61) :: (nat_lit 63) :: (nat_lit 64) :: (nat_lit 65) :: (nat_lit 66) :: (nat_lit 68) :: (nat_lit 69) :: (nat_lit 71) :: (nat_lit 72) :: (nat_lit 73) :: (nat_lit 74) :: (nat_lit 76) :: (nat_lit 77) :: (nat_lit 79) :: (nat_lit 80) :: (nat_lit 81) :: (nat_lit 83) :: (nat_lit 84) :: (nat_lit 86) :: (nat_lit 87) :: (nat_lit 88) :: (nat_lit 90) :: (nat_lit 91) :: (nat_lit 93) :: (nat_lit 94) :: (nat_lit 95) :: (nat_lit 97) :: (nat_lit 98) :: (nat_lit 100) :: (nat_lit 101) :: (nat_lit 102) :: (nat_lit 104) :: (nat_lit 105) :: (nat_lit 107) :: (nat_lit 108) :: (nat_lit 109) :: (nat_lit 111) :: (nat_lit 112) :: (nat_lit 114) :: (nat_lit 115) :: (nat_lit 116) :: (nat_lit 118) :: (nat_lit 119) :: (nat_lit 121) :: (nat_lit 122) :: (nat_lit 130) :: (nat_lit 132) :: (nat_lit 133) :: (nat_lit 135) :: (nat_lit 136) :: (nat_lit 137) :: (nat_lit 138) :: (nat_lit 139) :: (nat_lit 140) :: (nat_lit 141) :: (nat_lit 151) :: (nat_lit 153) :: (nat_lit 154) :: (nat_lit 156) :: (nat_lit 157) :: (nat_lit 158) :: (nat_lit 160) :: (nat_lit 161) :: (nat_lit 163) :: (nat_lit 164) :: (nat_lit 165) :: (nat_lit 166) :: (nat_lit 167) :: (nat_lit 168) :: (nat_lit 169) :: (nat_lit 185) :: (nat_lit 186) :: (nat_lit 187) :: (nat_lit 189) :: (nat_lit 190) :: (nat_lit 192) :: (nat_lit 193) :: (nat_lit 194) :: (nat_lit 196) :: (nat_lit 197) :: (nat_lit 199) :: (nat_lit 200) :: (nat_lit 201) :: (nat_lit 203) :: (nat_lit 204) :: (nat_lit 206) :: (nat_lit 207) :: (nat_lit 208) :: (nat_lit 210) :: (nat_lit 211) :: (nat_lit 213) :: (nat_lit 214) :: (nat_lit 215) :: (nat_lit 217) :: (nat_lit 218) :: (nat_lit 220) :: (nat_lit 221) :: (nat_lit 222) :: (nat_lit 223) :: (nat_lit 225) :: (nat_lit 226) :: (nat_lit 228) :: (nat_lit 229) :: (nat_lit 230) :: (nat_lit 232) :: (nat_lit 233) :: (nat_lit 235) :: (nat_lit 236) :: (nat_lit 237) :: (nat_lit 239) :: (nat_lit 240) :: (nat_lit 242) :: (nat_lit 243) :: (nat_lit 244) :: (nat_lit 246) :: (nat_lit 247) :: (nat_lit 249) :: (nat_lit 250) :: (nat_lit 251) :: (nat_lit 254) :: (nat_lit 255) :: (nat_lit 256) :: (nat_lit 259) :: (nat_lit 260) :: (nat_lit 261) :: (nat_lit 263) :: (nat_lit 264) :: (nat_lit 266) :: (nat_lit 267) :: (nat_lit 268) :: (nat_lit 270) :: (nat_lit 271) :: (nat_lit 273) :: (nat_lit 274) :: (nat_lit 275) :: (nat_lit 277) :: (nat_lit 278) :: (nat_lit 280) :: (nat_lit 281) :: (nat_lit 282) :: (nat_lit 284) :: (nat_lit 285) :: (nat_lit 287) :: (nat_lit 288) :: (nat_lit 289) :: (nat_lit 291) :: (nat_lit 292) :: (nat_lit 294) :: (nat_lit 295) :: (nat_lit 296) :: (nat_lit 297) :: (nat_lit 298) :: (nat_lit 299) :: (nat_lit 300) :: (nat_lit 303) :: (nat_lit 305) :: (nat_lit 306) :: (nat_lit 308) :: (nat_lit 309) :: (nat_lit 310) :: (nat_lit 313) :: (nat_lit 314) :: (nat_lit 322) :: (nat_lit 323) :: (nat_lit 325) :: (nat_lit 326) :: (nat_lit 328) :: (nat_lit 329) :: (nat_lit 330) :: (nat_lit 332) :: (nat_lit 333) :: (nat_lit 335) :: (nat_lit 336) :: (nat_lit 337) :: (nat_lit 339) :: (nat_lit 340) :: (nat_lit 342) :: (nat_lit 343) :: (nat_lit 344) :: (nat_lit 346) :: (nat_lit 347) :: (nat_lit 349) :: (nat_lit 350) :: (nat_lit 351) :: (nat_lit 353) :: (nat_lit 354) :: (nat_lit 356) :: (nat_lit 357) :: (nat_lit 358) :: (nat_lit 360) :: (nat_lit 361) :: (nat_lit 363) :: (nat_lit 364) :: (nat_lit 365) :: (nat_lit 366) :: (nat_lit 367) :: (nat_lit 368) :: (nat_lit 369) :: (nat_lit 372) :: (nat_lit 374) :: (nat_lit 375) :: (nat_lit 377) :: (nat_lit 378) :: (nat_lit 379) :: (nat_lit 382) :: (nat_lit 383) :: []) hkH) w) := by
  rw [PySem.W.Fast.te4187177175401517315, PySem.W.Fast.te5923862056798008813]; kernel_rfl!
theorem leftH : LeftO pw vq [Str.ofString "MOST", Str.ofString "frac", Str.ofString "need", Str.ofString "Net", Str.ofString "Meter"] (fun s => xlAt vq ([(Str.ofString "MOST", (.int 100000000000000000000000000000000000000000000000000000000000000000000000000000000000000000000000000000000000000000000000000000000000000000000000000000000000000000000000000000000000000000000000000000000000000000000000000000000000000000000000000000000000000000000000000000000000000000000000000000000000000000000000000000000000000000000000000000000000000000000000000000000000000000000000000000000000000000000000000000000000000000000000000000000000000000000000000000000000000000000000000000000000000000000000000000000000000000000000000000000000000000000000000000000000000000000000000000000000000000000000000000000000000000000000000000000000000000000000000000000000000000000000000000000000000000000000000000000000000000000000000000000000000000000000000000000000000000000000000000000000000000000000000000000000000000000000000000000000000000000000000000000000000000000000000000000000000000000000000000000000000000000000000000000000000000000000000000000000000000000000000000000000000000000000000000000000000000000000000000000000000000000000000000000000000000000000000000000000000000000000000000000000000000000000000000000000000000000000000000000000000000000000000000000000000000000000000000000000000000000000000000000000000000000000000000000000000000000000000000000000000000000000000000000000000000000000000000000000000000000000000000000000000000000000000000000000000000000000000000000000000000000000000000000000000000000000000000000000000000000000000000000000000000000000000000000000000000000000000000000000000000000000000000000000000000000000000000000000000000000000000000000000000000000000000000000000000000000000000000000000000000000000000000000000000000000000000000000000000000000000000000000000000000000000000000000000000000000000000000000000000000000000000000000000000000000000000000000000000000000000000000000000000000000000000000000000000000000000000000000000000000000000000000000000000000000000000000000000000000000000000000000000000000000000000000000000000000000000000000000000000000000000000000000))] : List (Str × WData)) s && recOk (RowW.records (OpenRow.toRowW (OpenLaw.row PySem.Challenge.rw_ui0509_14))) s) (Hook.obs (kHook K ((nat_lit 2) :: (nat_lit 3) :: (nat_lit 15) :: (nat_lit 17) :: (nat_lit 18) :: (nat_lit 20) :: (nat_lit 21) :: (nat_lit 22) :: (nat_lit 29) :: (nat_lit 30) :: (nat_lit 31) :: (nat_lit 32) :: (nat_lit 35) :: (nat_lit 37) :: (nat_lit 38) :: (nat_lit 40) :: (nat_lit 41) :: (nat_lit 42) :: (nat_lit 44) :: (nat_lit 45) :: (nat_lit 47) :: (nat_lit 48) :: (nat_lit 49) :: (nat_lit 51) :: (nat_lit 52) :: (nat_lit 54) :: (nat_lit 55) :: (nat_lit 56) :: (nat_lit 57) :: (nat_lit 58) :: (nat_lit 60) :: (nat_lit 61) :: (nat_lit 63) :: (nat_lit 64) :: (nat_lit 65) :: (nat_lit 66) :: (nat_lit 68) :: (nat_lit 69) :: (nat_lit 71) :: (nat_lit 72) :: (nat_lit 73) :: (nat_lit 74) :: (nat_lit 76) :: (nat_lit 77) :: (nat_lit 79) :: (nat_lit 80) :: (nat_lit 81) :: (nat_lit 83) :: (nat_lit 84) :: (nat_lit 86) :: (nat_lit 87) :: (nat_lit 88) :: (nat_lit 90) :: (nat_lit 91) :: (nat_lit 93) :: (nat_lit 94) :: (nat_lit 95) :: (nat_lit 97) :: (nat_lit 98) :: (nat_lit 100) :: (nat_lit 101) :: (nat_lit 102) :: (nat_lit 104) :: (nat_lit 105) :: (nat_lit 107) :: (nat_lit 108) :: (nat_lit 109) :: (nat_lit 111) :: (nat_lit 112) :: (nat_lit 114) :: (nat_lit 115) :: (nat_lit 116) :: (nat_lit 118) :: (nat_lit 119) :: (nat_lit 121) :: (nat_lit 122) :: (nat_lit 130) :: (nat_lit 132) :: (nat_lit 133) :: (nat_lit 135) :: (nat_lit 136) :: (nat_lit 137) :: (nat_lit 138) :: (nat_lit 139) :: (nat_lit 140) :: (nat_lit 141) :: (nat_lit 151) :: (nat_lit 153) :: (nat_lit 154) :: (nat_lit 156) :: (nat_lit 157) :: (nat_lit 158) :: (nat_lit 160) :: (nat_lit 161) :: (nat_lit 163) :: (nat_lit 164) :: (nat_lit 165) :: (nat_lit 166) :: (nat_lit 167) :: (nat_lit 168) :: (nat_lit 169) :: (nat_lit 185) :: (nat_lit 186) :: (nat_lit 187) :: (nat_lit 189) :: (nat_lit 190) :: (nat_lit 192) :: (nat_lit 193) :: (nat_lit 194) :: (nat_lit 196) :: (nat_lit 197) :: (nat_lit 199) :: (nat_lit 200) :: (nat_lit 201) :: (nat_lit 203) :: (nat_lit 204) :: (nat_lit 206) :: (nat_lit 207) :: (nat_lit 208) :: (nat_lit 210) :: (nat_lit 211) :: (nat_lit 213) :: (nat_lit 214) :: (nat_lit 215) :: (nat_lit 217) :: (nat_lit 218) :: (nat_lit 220) :: (nat_lit 221) :: (nat_lit 222) :: (nat_lit 223) :: (nat_lit 225) :: (nat_lit 226) :: (nat_lit 228) :: (nat_lit 229) :: (nat_lit 230) :: (nat_lit 232) :: (nat_lit 233) :: (nat_lit 235) :: (nat_lit 236) :: (nat_lit 237) :: (nat_lit 239) :: (nat_lit 240) :: (nat_lit 242) :: (nat_lit 243) :: (nat_lit 244) :: (nat_lit 246) :: (nat_lit 247) :: (nat_lit 249) :: (nat_lit 250) :: (nat_lit 251) :: (nat_lit 254) :: (nat_lit 255) :: (nat_lit 256) :: (nat_lit 259) :: (nat_lit 260) :: (nat_lit 261) :: (nat_lit 263) :: (nat_lit 264) :: (nat_lit 266) :: (nat_lit 267) :: (nat_lit 268) :: (nat_lit 270) :: (nat_lit 271) :: (nat_lit 273) :: (nat_lit 274) :: (nat_lit 275) :: (nat_lit 277) :: (nat_lit 278) :: (nat_lit 280) :: (nat_lit 281) :: (nat_lit 282) :: (nat_lit 284) :: (nat_lit 285) :: (nat_lit 287) :: (nat_lit 288) :: (nat_lit 289) :: (nat_lit 291) :: (nat_lit 292) :: (nat_lit 294) :: (nat_lit 295) :: (nat_lit 296) :: (nat_lit 297) :: (nat_lit 298) :: (nat_lit 299) :: (nat_lit 300) :: (nat_lit 303) :: (nat_lit 305) :: (nat_lit 306) :: (nat_lit 308) :: (nat_lit 309) :: (nat_lit 310) :: (nat_lit 313) :: (nat_lit 314) :: (nat_lit 322) :: (nat_lit 323) :: (nat_lit 325) :: (nat_lit 326) :: (nat_lit 328) :: (nat_lit 329) :: (nat_lit 330) :: (nat_lit 332) :: (nat_lit 333) :: (nat_lit 335) :: (nat_lit 336) :: (nat_lit 337) :: (nat_lit 339) :: (nat_lit 340) :: (nat_lit 342) :: (nat_lit 343) :: (nat_lit 344) :: (nat_lit 346) :: (nat_lit 347) :: (nat_lit 349) :: (nat_lit 350) :: (nat_lit 351) :: (nat_lit 353) :: (nat_lit 354) :: (nat_lit 356) :: (nat_lit 357) :: (nat_lit 358) :: (nat_lit 360) :: (nat_lit 361) :: (nat_lit 363) :: (nat_lit 364) :: (nat_lit 365) :: (nat_lit 366) :: (nat_lit 367) :: (nat_lit 368) :: (nat_lit 369) :: (nat_lit 372) :: (nat_lit 374) :: (nat_lit 375) :: (nat_lit 377) :: (nat_lit 378) :: (nat_lit 379) :: (nat_lit 382) :: (nat_lit 383) :: []) hkH)) (Hook.val (kHook K ((nat_lit 2) :: (nat_lit 3) :: (nat_lit 15) :: (nat_lit 17) :: (nat_lit 18) :: (nat_lit 20) :: (nat_lit 21) :: (nat_lit 22) :: (nat_lit 29) :: (nat_lit 30) :: (nat_lit 31) :: (nat_lit 32) :: (nat_lit 35) :: (nat_lit 37) :: (nat_lit 38) :: (nat_lit 40) :: (nat_lit 41) :: (nat_lit 42) :: (nat_lit 44) :: (nat_lit 45) :: (nat_lit 47) :: (nat_lit 48) :: (nat_lit 49) :: (nat_lit 51) :: (nat_lit 52) :: (nat_lit 54) :: (nat_lit 55) :: (nat_lit 56) :: (nat_lit 57) :: (nat_lit 58) :: (nat_lit 60) :: (nat_lit 61) :: (nat_lit 63) :: (nat_lit 64) :: (nat_lit 65) :: (nat_lit 66) :: (nat_lit 68) :: (nat_lit 69) :: (nat_lit 71) :: (nat_lit 72) :: (nat_lit 73) :: (nat_lit 74) :: (nat_lit 76) :: (nat_lit 77) :: (nat_lit 79) :: (nat_lit 80) :: (nat_lit 81) :: (nat_lit 83) :: (nat_lit 84) :: (nat_lit 86) :: (nat_lit 87) :: (nat_lit 88) :: (nat_lit 90) :: (nat_lit 91) :: (nat_lit 93) :: (nat_lit 94) :: (nat_lit 95) :: (nat_lit 97) :: (nat_lit 98) :: (nat_lit 100) :: (nat_lit 101) :: (nat_lit 102) :: (nat_lit 104) :: (nat_lit 105) :: (nat_lit 107) :: (nat_lit 108) :: (nat_lit 109) :: (nat_lit 111) :: (nat_lit 112) :: (nat_lit 114) :: (nat_lit 115) :: (nat_lit 116) :: (nat_lit 118) :: (nat_lit 119) :: (nat_lit 121) :: (nat_lit 122) :: (nat_lit 130) :: (nat_lit 132) :: (nat_lit 133) :: (nat_lit 135) :: (nat_lit 136) :: (nat_lit 137) :: (nat_lit 138) :: (nat_lit 139) :: (nat_lit 140) :: (nat_lit 141) :: (nat_lit 151) :: (nat_lit 153) :: (nat_lit 154) :: (nat_lit 156) :: (nat_lit 157) :: (nat_lit 158) :: (nat_lit 160) :: (nat_lit 161) :: (nat_lit 163) :: (nat_lit 164) :: (nat_lit 165) :: (nat_lit 166) :: (nat_lit 167) :: (nat_lit 168) :: (nat_lit 169) :: (nat_lit 185) :: (nat_lit 186) :: (nat_lit 187) :: (nat_lit 189) :: (nat_lit 190) :: (nat_lit 192) :: (nat_lit 193) :: (nat_lit 194) :: (nat_lit 196) :: (nat_lit 197) :: (nat_lit 199) :: (nat_lit 200) :: (nat_lit 201) :: (nat_lit 203) :: (nat_lit 204) :: (nat_lit 206) :: (nat_lit 207) :: (nat_lit 208) :: (nat_lit 210) :: (nat_lit 211) :: (nat_lit 213) :: (nat_lit 214) :: (nat_lit 215) :: (nat_lit 217) :: (nat_lit 218) :: (nat_lit 220) :: (nat_lit 221) :: (nat_lit 222) :: (nat_lit 223) :: (nat_lit 225) :: (nat_lit 226) :: (nat_lit 228) :: (nat_lit 229) :: (nat_lit 230) :: (nat_lit 232) :: (nat_lit 233) :: (nat_lit 235) :: (nat_lit 236) :: (nat_lit 237) :: (nat_lit 239) :: (nat_lit 240) :: (nat_lit 242) :: (nat_lit 243) :: (nat_lit 244) :: (nat_lit 246) :: (nat_lit 247) :: (nat_lit 249) :: (nat_lit 250) :: (nat_lit 251) :: (nat_lit 254) :: (nat_lit 255) :: (nat_lit 256) :: (nat_lit 259) :: (nat_lit 260) :: (nat_lit 261) :: (nat_lit 263) :: (nat_lit 264) :: (nat_lit 266) :: (nat_lit 267) :: (nat_lit 268) :: (nat_lit 270) :: (nat_lit 271) :: (nat_lit 273) :: (nat_lit 274) :: (nat_lit 275) :: (nat_lit 277) :: (nat_lit 278) :: (nat_lit 280) :: (nat_lit 281) :: (nat_lit 282) :: (nat_lit 284) :: (nat_lit 285) :: (nat_lit 287) :: (nat_lit 288) :: (nat_lit 289) :: (nat_lit 291) :: (nat_lit 292) :: (nat_lit 294) :: (nat_lit 295) :: (nat_lit 296) :: (nat_lit 297) :: (nat_lit 298) :: (nat_lit 299) :: (nat_lit 300) :: (nat_lit 303) :: (nat_lit 305) :: (nat_lit 306) :: (nat_lit 308) :: (nat_lit 309) :: (nat_lit 310) :: (nat_lit 313) :: (nat_lit 314) :: (nat_lit 322) :: (nat_lit 323) :: (nat_lit 325) :: (nat_lit 326) :: (nat_lit 328) :: (nat_lit 329) :: (nat_lit 330) :: (nat_lit 332) :: (nat_lit 333) :: (nat_lit 335) :: (nat_lit 336) :: (nat_lit 337) :: (nat_lit 339) :: (nat_lit 340) :: (nat_lit 342) :: (nat_lit 343) :: (nat_lit 344) :: (nat_lit 346) :: (nat_lit 347) :: (nat_lit 349) :: (nat_lit 350) :: (nat_lit 351) :: (nat_lit 353) :: (nat_lit 354) :: (nat_lit 356) :: (nat_lit 357) :: (nat_lit 358) :: (nat_lit 360) :: (nat_lit 361) :: (nat_lit 363) :: (nat_lit 364) :: (nat_lit 365) :: (nat_lit 366) :: (nat_lit 367) :: (nat_lit 368) :: (nat_lit 369) :: (nat_lit 372) :: (nat_lit 374) :: (nat_lit 375) :: (nat_lit 377) :: (nat_lit 378) :: (nat_lit 379) :: (nat_lit 382) :: (nat_lit 383) :: []) hkH)) 5638 :=
  LeftO.of_pieces (M := 2779) (H₁ := fun P => absHeap (tF P) 384 (.mk [] [] [] 0 [] [] .false (List.toArray []) [] 0 .false .false .false 0 [2000, 10, 10] .false 0 .true [] [] 0 .false)) (gs₁ := ⟨[]⟩) (d₁ := (.mk 0 0 0 0)) (k₁ := 730) openH sizeH runH (by decide) looksH
theorem saidH : OpenLaw.wellSaid PySem.Challenge.rw_ui0509_14 = true := by rw [PySem.W.Fast.te9446332074065402090]; kernel_rfl!
theorem okH : (chainsOk vq && opensWell pw && (frees (OpenRow.toRowW (OpenLaw.row PySem.Challenge.rw_ui0509_14)) && (RowW.within (OpenRow.toRowW (OpenLaw.row PySem.Challenge.rw_ui0509_14))).isEmpty)) = true := by kernel_rfl!
theorem hd (walk : WalkO vq [Str.ofString "MOST", Str.ofString "frac", Str.ofString "need", Str.ofString "Net", Str.ofString "Meter"] (XL vq ([(Str.ofString "MOST", (.int 100000000000000000000000000000000000000000000000000000000000000000000000000000000000000000000000000000000000000000000000000000000000000000000000000000000000000000000000000000000000000000000000000000000000000000000000000000000000000000000000000000000000000000000000000000000000000000000000000000000000000000000000000000000000000000000000000000000000000000000000000000000000000000000000000000000000000000000000000000000000000000000000000000000000000000000000000000000000000000000000000000000000000000000000000000000000000000000000000000000000000000000000000000000000000000000000000000000000000000000000000000000000000000000000000000000000000000000000000000000000000000000000000000000000000000000000000000000000000000000000000000000000000000000000000000000000000000000000000000000000000000000000000000000000000000000000000000000000000000000000000000000000000000000000000000000000000000000000000000000000000000000000000000000000000000000000000000000000000000000000000000000000000000000000000000000000000000000000000000000000000000000000000000000000000000000000000000000000000000000000000000000000000000000000000000000000000000000000000000000000000000000000000000000000000000000000000000000000000000000000000000000000000000000000000000000000000000000000000000000000000000000000000000000000000000000000000000000000000000000000000000000000000000000000000000000000000000000000000000000000000000000000000000000000000000000000000000000000000000000000000000000000000000000000000000000000000000000000000000000000000000000000000000000000000000000000000000000000000000000000000000000000000000000000000000000000000000000000000000000000000000000000000000000000000000000000000000000000000000000000000000000000000000000000000000000000000000000000000000000000000000000000000000000000000000000000000000000000000000000000000000000000000000000000000000000000000000000000000000000000000000000000000000000000000000000000000000000000000000000000000000000000000000000000000000000000000000000000000000000000000000000000000000000))] : List (Str × WData))) (kHook K ((nat_lit 2) :: (nat_lit 3) :: (nat_lit 15) :: (nat_lit 17) :: (nat_lit 18) :: (nat_lit 20) :: (nat_lit 21) :: (nat_lit 22) :: (nat_lit 29) :: (nat_lit 30) :: (nat_lit 31) :: (nat_lit 32) :: (nat_lit 35) :: (nat_lit 37) :: (nat_lit 38) :: (nat_lit 40) :: (nat_lit 41) :: (nat_lit 42) :: (nat_lit 44) :: (nat_lit 45) :: (nat_lit 47) :: (nat_lit 48) :: (nat_lit 49) :: (nat_lit 51) :: (nat_lit 52) :: (nat_lit 54) :: (nat_lit 55) :: (nat_lit 56) :: (nat_lit 57) :: (nat_lit 58) :: (nat_lit 60) :: (nat_lit 61) :: (nat_lit 63) :: (nat_lit 64) :: (nat_lit 65) :: (nat_lit 66) :: (nat_lit 68) :: (nat_lit 69) :: (nat_lit 71) :: (nat_lit 72) :: (nat_lit 73) :: (nat_lit 74) :: (nat_lit 76) :: (nat_lit 77) :: (nat_lit 79) :: (nat_lit 80) :: (nat_lit 81) :: (nat_lit 83) :: (nat_lit 84) :: (nat_lit 86) :: (nat_lit 87) :: (nat_lit 88) :: (nat_lit 90) :: (nat_lit 91) :: (nat_lit 93) :: (nat_lit 94) :: (nat_lit 95) :: (nat_lit 97) :: (nat_lit 98) :: (nat_lit 100) :: (nat_lit 101) :: (nat_lit 102) :: (nat_lit 104) :: (nat_lit 105) :: (nat_lit 107) :: (nat_lit 108) :: (nat_lit 109) :: (nat_lit 111) :: (nat_lit 112) :: (nat_lit 114) :: (nat_lit 115) :: (nat_lit 116) :: (nat_lit 118) :: (nat_lit 119) :: (nat_lit 121) :: (nat_lit 122) :: (nat_lit 130) :: (nat_lit 132) :: (nat_lit 133) :: (nat_lit 135) :: (nat_lit 136) :: (nat_lit 137) :: (nat_lit 138) :: (nat_lit 139) :: (nat_lit 140) :: (nat_lit 141) :: (nat_lit 151) :: (nat_lit 153) :: (nat_lit 154) :: (nat_lit 156) :: (nat_lit 157) :: (nat_lit 158) :: (nat_lit 160) :: (nat_lit 161) :: (nat_lit 163) :: (nat_lit 164) :: (nat_lit 165) :: (nat_lit 166) :: (nat_lit 167) :: (nat_lit 168) :: (nat_lit 169) :: (nat_lit 185) :: (nat_lit 186) :: (nat_lit 187) :: (nat_lit 189) :: (nat_lit 190) :: (nat_lit 192) :: (nat_lit 193) :: (nat_lit 194) :: (nat_lit 196) :: (nat_lit 197) :: (nat_lit 199) :: (nat_lit 200) :: (nat_lit 201) :: (nat_lit 203) :: (nat_lit 204) :: (nat_lit 206) :: (nat_lit 207) :: (nat_lit 208) :: (nat_lit 210) :: (nat_lit 211) :: (nat_lit 213) :: (nat_lit 214) :: (nat_lit 215) :: (nat_lit 217) :: (nat_lit 218) :: (nat_lit 220) :: (nat_lit 221) :: (nat_lit 222) :: (nat_lit 223) :: (nat_lit 225) :: (nat_lit 226) :: (nat_lit 228) :: (nat_lit 229) :: (nat_lit 230) :: (nat_lit 232) :: (nat_lit 233) :: (nat_lit 235) :: (nat_lit 236) :: (nat_lit 237) :: (nat_lit 239) :: (nat_lit 240) :: (nat_lit 242) :: (nat_lit 243) :: (nat_lit 244) :: (nat_lit 246) :: (nat_lit 247) :: (nat_lit 249) :: (nat_lit 250) :: (nat_lit 251) :: (nat_lit 254) :: (nat_lit 255) :: (nat_lit 256) :: (nat_lit 259) :: (nat_lit 260) :: (nat_lit 261) :: (nat_lit 263) :: (nat_lit 264) :: (nat_lit 266) :: (nat_lit 267) :: (nat_lit 268) :: (nat_lit 270) :: (nat_lit 271) :: (nat_lit 273) :: (nat_lit 274) :: (nat_lit 275) :: (nat_lit 277) :: (nat_lit 278) :: (nat_lit 280) :: (nat_lit 281) :: (nat_lit 282) :: (nat_lit 284) :: (nat_lit 285) :: (nat_lit 287) :: (nat_lit 288) :: (nat_lit 289) :: (nat_lit 291) :: (nat_lit 292) :: (nat_lit 294) :: (nat_lit 295) :: (nat_lit 296) :: (nat_lit 297) :: (nat_lit 298) :: (nat_lit 299) :: (nat_lit 300) :: (nat_lit 303) :: (nat_lit 305) :: (nat_lit 306) :: (nat_lit 308) :: (nat_lit 309) :: (nat_lit 310) :: (nat_lit 313) :: (nat_lit 314) :: (nat_lit 322) :: (nat_lit 323) :: (nat_lit 325) :: (nat_lit 326) :: (nat_lit 328) :: (nat_lit 329) :: (nat_lit 330) :: (nat_lit 332) :: (nat_lit 333) :: (nat_lit 335) :: (nat_lit 336) :: (nat_lit 337) :: (nat_lit 339) :: (nat_lit 340) :: (nat_lit 342) :: (nat_lit 343) :: (nat_lit 344) :: (nat_lit 346) :: (nat_lit 347) :: (nat_lit 349) :: (nat_lit 350) :: (nat_lit 351) :: (nat_lit 353) :: (nat_lit 354) :: (nat_lit 356) :: (nat_lit 357) :: (nat_lit 358) :: (nat_lit 360) :: (nat_lit 361) :: (nat_lit 363) :: (nat_lit 364) :: (nat_lit 365) :: (nat_lit 366) :: (nat_lit 367) :: (nat_lit 368) :: (nat_lit 369) :: (nat_lit 372) :: (nat_lit 374) :: (nat_lit 375) :: (nat_lit 377) :: (nat_lit 378) :: (nat_lit 379) :: (nat_lit 382) :: (nat_lit 383) :: []) hkH).says (OpenRow.toRowW (OpenLaw.row PySem.Challenge.rw_ui0509_14)) dH [] fun f vs => PySem.call f vs) : PySem.Challenge.rw_ui0509_14.Holds := by
  refine holds_law saidH fun said => holds_open (r := OpenLaw.row PySem.Challenge.rw_ui0509_14) (q := vq) (loose := [Str.ofString "MOST", Str.ofString "frac", Str.ofString "need", Str.ofString "Net", Str.ofString "Meter"]) (Xt := (fun s => xlAt vq ([(Str.ofString "MOST", (.int 100000000000000000000000000000000000000000000000000000000000000000000000000000000000000000000000000000000000000000000000000000000000000000000000000000000000000000000000000000000000000000000000000000000000000000000000000000000000000000000000000000000000000000000000000000000000000000000000000000000000000000000000000000000000000000000000000000000000000000000000000000000000000000000000000000000000000000000000000000000000000000000000000000000000000000000000000000000000000000000000000000000000000000000000000000000000000000000000000000000000000000000000000000000000000000000000000000000000000000000000000000000000000000000000000000000000000000000000000000000000000000000000000000000000000000000000000000000000000000000000000000000000000000000000000000000000000000000000000000000000000000000000000000000000000000000000000000000000000000000000000000000000000000000000000000000000000000000000000000000000000000000000000000000000000000000000000000000000000000000000000000000000000000000000000000000000000000000000000000000000000000000000000000000000000000000000000000000000000000000000000000000000000000000000000000000000000000000000000000000000000000000000000000000000000000000000000000000000000000000000000000000000000000000000000000000000000000000000000000000000000000000000000000000000000000000000000000000000000000000000000000000000000000000000000000000000000000000000000000000000000000000000000000000000000000000000000000000000000000000000000000000000000000000000000000000000000000000000000000000000000000000000000000000000000000000000000000000000000000000000000000000000000000000000000000000000000000000000000000000000000000000000000000000000000000000000000000000000000000000000000000000000000000000000000000000000000000000000000000000000000000000000000000000000000000000000000000000000000000000000000000000000000000000000000000000000000000000000000000000000000000000000000000000000000000000000000000000000000000000000000000000000000000000000000000000000000000000000000000000000000000000000000000000))] : List (Str × WData)) s && recOk (RowW.records (OpenRow.toRowW (OpenLaw.row PySem.Challenge.rw_ui0509_14))) s)) (XP := XL vq ([(Str.ofString "MOST", (.int 100000000000000000000000000000000000000000000000000000000000000000000000000000000000000000000000000000000000000000000000000000000000000000000000000000000000000000000000000000000000000000000000000000000000000000000000000000000000000000000000000000000000000000000000000000000000000000000000000000000000000000000000000000000000000000000000000000000000000000000000000000000000000000000000000000000000000000000000000000000000000000000000000000000000000000000000000000000000000000000000000000000000000000000000000000000000000000000000000000000000000000000000000000000000000000000000000000000000000000000000000000000000000000000000000000000000000000000000000000000000000000000000000000000000000000000000000000000000000000000000000000000000000000000000000000000000000000000000000000000000000000000000000000000000000000000000000000000000000000000000000000000000000000000000000000000000000000000000000000000000000000000000000000000000000000000000000000000000000000000000000000000000000000000000000000000000000000000000000000000000000000000000000000000000000000000000000000000000000000000000000000000000000000000000000000000000000000000000000000000000000000000000000000000000000000000000000000000000000000000000000000000000000000000000000000000000000000000000000000000000000000000000000000000000000000000000000000000000000000000000000000000000000000000000000000000000000000000000000000000000000000000000000000000000000000000000000000000000000000000000000000000000000000000000000000000000000000000000000000000000000000000000000000000000000000000000000000000000000000000000000000000000000000000000000000000000000000000000000000000000000000000000000000000000000000000000000000000000000000000000000000000000000000000000000000000000000000000000000000000000000000000000000000000000000000000000000000000000000000000000000000000000000000000000000000000000000000000000000000000000000000000000000000000000000000000000000000000000000000000000000000000000000000000000000000000000000000000000000000000000000000000000000000000))] : List (Str × WData))) (Yf := Hook.obs (kHook K ((nat_lit 2) :: (nat_lit 3) :: (nat_lit 15) :: (nat_lit 17) :: (nat_lit 18) :: (nat_lit 20) :: (nat_lit 21) :: (nat_lit 22) :: (nat_lit 29) :: (nat_lit 30) :: (nat_lit 31) :: (nat_lit 32) :: (nat_lit 35) :: (nat_lit 37) :: (nat_lit 38) :: (nat_lit 40) :: (nat_lit 41) :: (nat_lit 42) :: (nat_lit 44) :: (nat_lit 45) :: (nat_lit 47) :: (nat_lit 48) :: (nat_lit 49) :: (nat_lit 51) :: (nat_lit 52) :: (nat_lit 54) :: (nat_lit 55) :: (nat_lit 56) :: (nat_lit 57) :: (nat_lit 58) :: (nat_lit 60) :: (nat_lit 61) :: (nat_lit 63) :: (nat_lit 64) :: (nat_lit 65) :: (nat_lit 66) :: (nat_lit 68) :: (nat_lit 69) :: (nat_lit 71) :: (nat_lit 72) :: (nat_lit 73) :: (nat_lit 74) :: (nat_lit 76) :: (nat_lit 77) :: (nat_lit 79) :: (nat_lit 80) :: (nat_lit 81) :: (nat_lit 83) :: (nat_lit 84) :: (nat_lit 86) :: (nat_lit 87) :: (nat_lit 88) :: (nat_lit 90) :: (nat_lit 91) :: (nat_lit 93) :: (nat_lit 94) :: (nat_lit 95) :: (nat_lit 97) :: (nat_lit 98) :: (nat_lit 100) :: (nat_lit 101) :: (nat_lit 102) :: (nat_lit 104) :: (nat_lit 105) :: (nat_lit 107) :: (nat_lit 108) :: (nat_lit 109) :: (nat_lit 111) :: (nat_lit 112) :: (nat_lit 114) :: (nat_lit 115) :: (nat_lit 116) :: (nat_lit 118) :: (nat_lit 119) :: (nat_lit 121) :: (nat_lit 122) :: (nat_lit 130) :: (nat_lit 132) :: (nat_lit 133) :: (nat_lit 135) :: (nat_lit 136) :: (nat_lit 137) :: (nat_lit 138) :: (nat_lit 139) :: (nat_lit 140) :: (nat_lit 141) :: (nat_lit 151) :: (nat_lit 153) :: (nat_lit 154) :: (nat_lit 156) :: (nat_lit 157) :: (nat_lit 158) :: (nat_lit 160) :: (nat_lit 161) :: (nat_lit 163) :: (nat_lit 164) :: (nat_lit 165) :: (nat_lit 166) :: (nat_lit 167) :: (nat_lit 168) :: (nat_lit 169) :: (nat_lit 185) :: (nat_lit 186) :: (nat_lit 187) :: (nat_lit 189) :: (nat_lit 190) :: (nat_lit 192) :: (nat_lit 193) :: (nat_lit 194) :: (nat_lit 196) :: (nat_lit 197) :: (nat_lit 199) :: (nat_lit 200) :: (nat_lit 201) :: (nat_lit 203) :: (nat_lit 204) :: (nat_lit 206) :: (nat_lit 207) :: (nat_lit 208) :: (nat_lit 210) :: (nat_lit 211) :: (nat_lit 213) :: (nat_lit 214) :: (nat_lit 215) :: (nat_lit 217) :: (nat_lit 218) :: (nat_lit 220) :: (nat_lit 221) :: (nat_lit 222) :: (nat_lit 223) :: (nat_lit 225) :: (nat_lit 226) :: (nat_lit 228) :: (nat_lit 229) :: (nat_lit 230) :: (nat_lit 232) :: (nat_lit 233) :: (nat_lit 235) :: (nat_lit 236) :: (nat_lit 237) :: (nat_lit 239) :: (nat_lit 240) :: (nat_lit 242) :: (nat_lit 243) :: (nat_lit 244) :: (nat_lit 246) :: (nat_lit 247) :: (nat_lit 249) :: (nat_lit 250) :: (nat_lit 251) :: (nat_lit 254) :: (nat_lit 255) :: (nat_lit 256) :: (nat_lit 259) :: (nat_lit 260) :: (nat_lit 261) :: (nat_lit 263) :: (nat_lit 264) :: (nat_lit 266) :: (nat_lit 267) :: (nat_lit 268) :: (nat_lit 270) :: (nat_lit 271) :: (nat_lit 273) :: (nat_lit 274) :: (nat_lit 275) :: (nat_lit 277) :: (nat_lit 278) :: (nat_lit 280) :: (nat_lit 281) :: (nat_lit 282) :: (nat_lit 284) :: (nat_lit 285) :: (nat_lit 287) :: (nat_lit 288) :: (nat_lit 289) :: (nat_lit 291) :: (nat_lit 292) :: (nat_lit 294) :: (nat_lit 295) :: (nat_lit 296) :: (nat_lit 297) :: (nat_lit 298) :: (nat_lit 299) :: (nat_lit 300) :: (nat_lit 303) :: (nat_lit 305) :: (nat_lit 306) :: (nat_lit 308) :: (nat_lit 309) :: (nat_lit 310) :: (nat_lit 313) :: (nat_lit 314) :: (nat_lit 322) :: (nat_lit 323) :: (nat_lit 325) :: (nat_lit 326) :: (nat_lit 328) :: (nat_lit 329) :: (nat_lit 330) :: (nat_lit 332) :: (nat_lit 333) :: (nat_lit 335) :: (nat_lit 336) :: (nat_lit 337) :: (nat_lit 339) :: (nat_lit 340) :: (nat_lit 342) :: (nat_lit 343) :: (nat_lit 344) :: (nat_lit 346) :: (nat_lit 347) :: (nat_lit 349) :: (nat_lit 350) :: (nat_lit 351) :: (nat_lit 353) :: (nat_lit 354) :: (nat_lit 356) :: (nat_lit 357) :: (nat_lit 358) :: (nat_lit 360) :: (nat_lit 361) :: (nat_lit 363) :: (nat_lit 364) :: (nat_lit 365) :: (nat_lit 366) :: (nat_lit 367) :: (nat_lit 368) :: (nat_lit 369) :: (nat_lit 372) :: (nat_lit 374) :: (nat_lit 375) :: (nat_lit 377) :: (nat_lit 378) :: (nat_lit 379) :: (nat_lit 382) :: (nat_lit 383) :: []) hkH)) (Ya := Hook.val (kHook K ((nat_lit 2) :: (nat_lit 3) :: (nat_lit 15) :: (nat_lit 17) :: (nat_lit 18) :: (nat_lit 20) :: (nat_lit 21) :: (nat_lit 22) :: (nat_lit 29) :: (nat_lit 30) :: (nat_lit 31) :: (nat_lit 32) :: (nat_lit 35) :: (nat_lit 37) :: (nat_lit 38) :: (nat_lit 40) :: (nat_lit 41) :: (nat_lit 42) :: (nat_lit 44) :: (nat_lit 45) :: (nat_lit 47) :: (nat_lit 48) :: (nat_lit 49) :: (nat_lit 51) :: (nat_lit 52) :: (nat_lit 54) :: (nat_lit 55) :: (nat_lit 56) :: (nat_lit 57) :: (nat_lit 58) :: (nat_lit 60) :: (nat_lit 61) :: (nat_lit 63) :: (nat_lit 64) :: (nat_lit 65) :: (nat_lit 66) :: (nat_lit 68) :: (nat_lit 69) :: (nat_lit 71) :: (nat_lit 72) :: (nat_lit 73) :: (nat_lit 74) :: (nat_lit 76) :: (nat_lit 77) :: (nat_lit 79) :: (nat_lit 80) :: (nat_lit 81) :: (nat_lit 83) :: (nat_lit 84) :: (nat_lit 86) :: (nat_lit 87) :: (nat_lit 88) :: (nat_lit 90) :: (nat_lit 91) :: (nat_lit 93) :: (nat_lit 94) :: (nat_lit 95) :: (nat_lit 97) :: (nat_lit 98) :: (nat_lit 100) :: (nat_lit 101) :: (nat_lit 102) :: (nat_lit 104) :: (nat_lit 105) :: (nat_lit 107) :: (nat_lit 108) :: (nat_lit 109) :: (nat_lit 111) :: (nat_lit 112) :: (nat_lit 114) :: (nat_lit 115) :: (nat_lit 116) :: (nat_lit 118) :: (nat_lit 119) :: (nat_lit 121) :: (nat_lit 122) :: (nat_lit 130) :: (nat_lit 132) :: (nat_lit 133) :: (nat_lit 135) :: (nat_lit 136) :: (nat_lit 137) :: (nat_lit 138) :: (nat_lit 139) :: (nat_lit 140) :: (nat_lit 141) :: (nat_lit 151) :: (nat_lit 153) :: (nat_lit 154) :: (nat_lit 156) :: (nat_lit 157) :: (nat_lit 158) :: (nat_lit 160) :: (nat_lit 161) :: (nat_lit 163) :: (nat_lit 164) :: (nat_lit 165) :: (nat_lit 166) :: (nat_lit 167) :: (nat_lit 168) :: (nat_lit 169) :: (nat_lit 185) :: (nat_lit 186) :: (nat_lit 187) :: (nat_lit 189) :: (nat_lit 190) :: (nat_lit 192) :: (nat_lit 193) :: (nat_lit 194) :: (nat_lit 196) :: (nat_lit 197) :: (nat_lit 199) :: (nat_lit 200) :: (nat_lit 201) :: (nat_lit 203) :: (nat_lit 204) :: (nat_lit 206) :: (nat_lit 207) :: (nat_lit 208) :: (nat_lit 210) :: (nat_lit 211) :: (nat_lit 213) :: (nat_lit 214) :: (nat_lit 215) :: (nat_lit 217) :: (nat_lit 218) :: (nat_lit 220) :: (nat_lit 221) :: (nat_lit 222) :: (nat_lit 223) :: (nat_lit 225) :: (nat_lit 226) :: (nat_lit 228) :: (nat_lit 229) :: (nat_lit 230) :: (nat_lit 232) :: (nat_lit 233) :: (nat_lit 235) :: (nat_lit 236) :: (nat_lit 237) :: (nat_lit 239) :: (nat_lit 240) :: (nat_lit 242) :: (nat_lit 243) :: (nat_lit 244) :: (nat_lit 246) :: (nat_lit 247) :: (nat_lit 249) :: (nat_lit 250) :: (nat_lit 251) :: (nat_lit 254) :: (nat_lit 255) :: (nat_lit 256) :: (nat_lit 259) :: (nat_lit 260) :: (nat_lit 261) :: (nat_lit 263) :: (nat_lit 264) :: (nat_lit 266) :: (nat_lit 267) :: (nat_lit 268) :: (nat_lit 270) :: (nat_lit 271) :: (nat_lit 273) :: (nat_lit 274) :: (nat_lit 275) :: (nat_lit 277) :: (nat_lit 278) :: (nat_lit 280) :: (nat_lit 281) :: (nat_lit 282) :: (nat_lit 284) :: (nat_lit 285) :: (nat_lit 287) :: (nat_lit 288) :: (nat_lit 289) :: (nat_lit 291) :: (nat_lit 292) :: (nat_lit 294) :: (nat_lit 295) :: (nat_lit 296) :: (nat_lit 297) :: (nat_lit 298) :: (nat_lit 299) :: (nat_lit 300) :: (nat_lit 303) :: (nat_lit 305) :: (nat_lit 306) :: (nat_lit 308) :: (nat_lit 309) :: (nat_lit 310) :: (nat_lit 313) :: (nat_lit 314) :: (nat_lit 322) :: (nat_lit 323) :: (nat_lit 325) :: (nat_lit 326) :: (nat_lit 328) :: (nat_lit 329) :: (nat_lit 330) :: (nat_lit 332) :: (nat_lit 333) :: (nat_lit 335) :: (nat_lit 336) :: (nat_lit 337) :: (nat_lit 339) :: (nat_lit 340) :: (nat_lit 342) :: (nat_lit 343) :: (nat_lit 344) :: (nat_lit 346) :: (nat_lit 347) :: (nat_lit 349) :: (nat_lit 350) :: (nat_lit 351) :: (nat_lit 353) :: (nat_lit 354) :: (nat_lit 356) :: (nat_lit 357) :: (nat_lit 358) :: (nat_lit 360) :: (nat_lit 361) :: (nat_lit 363) :: (nat_lit 364) :: (nat_lit 365) :: (nat_lit 366) :: (nat_lit 367) :: (nat_lit 368) :: (nat_lit 369) :: (nat_lit 372) :: (nat_lit 374) :: (nat_lit 375) :: (nat_lit 377) :: (nat_lit 378) :: (nat_lit 379) :: (nat_lit 382) :: (nat_lit 383) :: []) hkH)) (YP := Hook.says (kHook K ((nat_lit 2) :: (nat_lit 3) :: (nat_lit 15) :: (nat_lit 17) :: (nat_lit 18) :: (nat_lit 20) :: (nat_lit 21) :: (nat_lit 22) :: (nat_lit 29) :: (nat_lit 30) :: (nat_lit 31) :: (nat_lit 32) :: (nat_lit 35) :: (nat_lit 37) :: (nat_lit 38) :: (nat_lit 40) :: (nat_lit 41) :: (nat_lit 42) :: (nat_lit 44) :: (nat_lit 45) :: (nat_lit 47) :: (nat_lit 48) :: (nat_lit 49) :: (nat_lit 51) :: (nat_lit 52) :: (nat_lit 54) :: (nat_lit 55) :: (nat_lit 56) :: (nat_lit 57) :: (nat_lit 58) :: (nat_lit 60) :: (nat_lit 61) :: (nat_lit 63) :: (nat_lit 64) :: (nat_lit 65) :: (nat_lit 66) :: (nat_lit 68) :: (nat_lit 69) :: (nat_lit 71) :: (nat_lit 72) :: (nat_lit 73) :: (nat_lit 74) :: (nat_lit 76) :: (nat_lit 77) :: (nat_lit 79) :: (nat_lit 80) :: (nat_lit 81) :: (nat_lit 83) :: (nat_lit 84) :: (nat_lit 86) :: (nat_lit 87) :: (nat_lit 88) :: (nat_lit 90) :: (nat_lit 91) :: (nat_lit 93) :: (nat_lit 94) :: (nat_lit 95) :: (nat_lit 97) :: (nat_lit 98) :: (nat_lit 100) :: (nat_lit 101) :: (nat_lit 102) :: (nat_lit 104) :: (nat_lit 105) :: (nat_lit 107) :: (nat_lit 108) :: (nat_lit 109) :: (nat_lit 111) :: (nat_lit 112) :: (nat_lit 114) :: (nat_lit 115) :: (nat_lit 116) :: (nat_lit 118) :: (nat_lit 119) :: (nat_lit 121) :: (nat_lit 122) :: (nat_lit 130) :: (nat_lit 132) :: (nat_lit 133) :: (nat_lit 135) :: (nat_lit 136) :: (nat_lit 137) :: (nat_lit 138) :: (nat_lit 139) :: (nat_lit 140) :: (nat_lit 141) :: (nat_lit 151) :: (nat_lit 153) :: (nat_lit 154) :: (nat_lit 156) :: (nat_lit 157) :: (nat_lit 158) :: (nat_lit 160) :: (nat_lit 161) :: (nat_lit 163) :: (nat_lit 164) :: (nat_lit 165) :: (nat_lit 166) :: (nat_lit 167) :: (nat_lit 168) :: (nat_lit 169) :: (nat_lit 185) :: (nat_lit 186) :: (nat_lit 187) :: (nat_lit 189) :: (nat_lit 190) :: (nat_lit 192) :: (nat_lit 193) :: (nat_lit 194) :: (nat_lit 196) :: (nat_lit 197) :: (nat_lit 199) :: (nat_lit 200) :: (nat_lit 201) :: (nat_lit 203) :: (nat_lit 204) :: (nat_lit 206) :: (nat_lit 207) :: (nat_lit 208) :: (nat_lit 210) :: (nat_lit 211) :: (nat_lit 213) :: (nat_lit 214) :: (nat_lit 215) :: (nat_lit 217) :: (nat_lit 218) :: (nat_lit 220) :: (nat_lit 221) :: (nat_lit 222) :: (nat_lit 223) :: (nat_lit 225) :: (nat_lit 226) :: (nat_lit 228) :: (nat_lit 229) :: (nat_lit 230) :: (nat_lit 232) :: (nat_lit 233) :: (nat_lit 235) :: (nat_lit 236) :: (nat_lit 237) :: (nat_lit 239) :: (nat_lit 240) :: (nat_lit 242) :: (nat_lit 243) :: (nat_lit 244) :: (nat_lit 246) :: (nat_lit 247) :: (nat_lit 249) :: (nat_lit 250) :: (nat_lit 251) :: (nat_lit 254) :: (nat_lit 255) :: (nat_lit 256) :: (nat_lit 259) :: (nat_lit 260) :: (nat_lit 261) :: (nat_lit 263) :: (nat_lit 264) :: (nat_lit 266) :: (nat_lit 267) :: (nat_lit 268) :: (nat_lit 270) :: (nat_lit 271) :: (nat_lit 273) :: (nat_lit 274) :: (nat_lit 275) :: (nat_lit 277) :: (nat_lit 278) :: (nat_lit 280) :: (nat_lit 281) :: (nat_lit 282) :: (nat_lit 284) :: (nat_lit 285) :: (nat_lit 287) :: (nat_lit 288) :: (nat_lit 289) :: (nat_lit 291) :: (nat_lit 292) :: (nat_lit 294) :: (nat_lit 295) :: (nat_lit 296) :: (nat_lit 297) :: (nat_lit 298) :: (nat_lit 299) :: (nat_lit 300) :: (nat_lit 303) :: (nat_lit 305) :: (nat_lit 306) :: (nat_lit 308) :: (nat_lit 309) :: (nat_lit 310) :: (nat_lit 313) :: (nat_lit 314) :: (nat_lit 322) :: (nat_lit 323) :: (nat_lit 325) :: (nat_lit 326) :: (nat_lit 328) :: (nat_lit 329) :: (nat_lit 330) :: (nat_lit 332) :: (nat_lit 333) :: (nat_lit 335) :: (nat_lit 336) :: (nat_lit 337) :: (nat_lit 339) :: (nat_lit 340) :: (nat_lit 342) :: (nat_lit 343) :: (nat_lit 344) :: (nat_lit 346) :: (nat_lit 347) :: (nat_lit 349) :: (nat_lit 350) :: (nat_lit 351) :: (nat_lit 353) :: (nat_lit 354) :: (nat_lit 356) :: (nat_lit 357) :: (nat_lit 358) :: (nat_lit 360) :: (nat_lit 361) :: (nat_lit 363) :: (nat_lit 364) :: (nat_lit 365) :: (nat_lit 366) :: (nat_lit 367) :: (nat_lit 368) :: (nat_lit 369) :: (nat_lit 372) :: (nat_lit 374) :: (nat_lit 375) :: (nat_lit 377) :: (nat_lit 378) :: (nat_lit 379) :: (nat_lit 382) :: (nat_lit 383) :: []) hkH)) (N := 5638) (d := dH) (kwd := []) leftH (Hook.of (kHook K ((nat_lit 2) :: (nat_lit 3) :: (nat_lit 15) :: (nat_lit 17) :: (nat_lit 18) :: (nat_lit 20) :: (nat_lit 21) :: (nat_lit 22) :: (nat_lit 29) :: (nat_lit 30) :: (nat_lit 31) :: (nat_lit 32) :: (nat_lit 35) :: (nat_lit 37) :: (nat_lit 38) :: (nat_lit 40) :: (nat_lit 41) :: (nat_lit 42) :: (nat_lit 44) :: (nat_lit 45) :: (nat_lit 47) :: (nat_lit 48) :: (nat_lit 49) :: (nat_lit 51) :: (nat_lit 52) :: (nat_lit 54) :: (nat_lit 55) :: (nat_lit 56) :: (nat_lit 57) :: (nat_lit 58) :: (nat_lit 60) :: (nat_lit 61) :: (nat_lit 63) :: (nat_lit 64) :: (nat_lit 65) :: (nat_lit 66) :: (nat_lit 68) :: (nat_lit 69) :: (nat_lit 71) :: (nat_lit 72) :: (nat_lit 73) :: (nat_lit 74) :: (nat_lit 76) :: (nat_lit 77) :: (nat_lit 79) :: (nat_lit 80) :: (nat_lit 81) :: (nat_lit 83) :: (nat_lit 84) :: (nat_lit 86) :: (nat_lit 87) :: (nat_lit 88) :: (nat_lit 90) :: (nat_lit 91) :: (nat_lit 93) :: (nat_lit 94) :: (nat_lit 95) :: (nat_lit 97) :: (nat_lit 98) :: (nat_lit 100) :: (nat_lit 101) :: (nat_lit 102) :: (nat_lit 104) :: (nat_lit 105) :: (nat_lit 107) :: (nat_lit 108) :: (nat_lit 109) :: (nat_lit 111) :: (nat_lit 112) :: (nat_lit 114) :: (nat_lit 115) :: (nat_lit 116) :: (nat_lit 118) :: (nat_lit 119) :: (nat_lit 121) :: (nat_lit 122) :: (nat_lit 130) :: (nat_lit 132) :: (nat_lit 133) :: (nat_lit 135) :: (nat_lit 136) :: (nat_lit 137) :: (nat_lit 138) :: (nat_lit 139) :: (nat_lit 140) :: (nat_lit 141) :: (nat_lit 151) :: (nat_lit 153) :: (nat_lit 154) :: (nat_lit 156) :: (nat_lit 157) :: (nat_lit 158) :: (nat_lit 160) :: (nat_lit 161) :: (nat_lit 163) :: (nat_lit 164) :: (nat_lit 165) :: (nat_lit 166) :: (nat_lit 167) :: (nat_lit 168) :: (nat_lit 169) :: (nat_lit 185) :: (nat_lit 186) :: (nat_lit 187) :: (nat_lit 189) :: (nat_lit 190) :: (nat_lit 192) :: (nat_lit 193) :: (nat_lit 194) :: (nat_lit 196) :: (nat_lit 197) :: (nat_lit 199) :: (nat_lit 200) :: (nat_lit 201) :: (nat_lit 203) :: (nat_lit 204) :: (nat_lit 206) :: (nat_lit 207) :: (nat_lit 208) :: (nat_lit 210) :: (nat_lit 211) :: (nat_lit 213) :: (nat_lit 214) :: (nat_lit 215) :: (nat_lit 217) :: (nat_lit 218) :: (nat_lit 220) :: (nat_lit 221) :: (nat_lit 222) :: (nat_lit 223) :: (nat_lit 225) :: (nat_lit 226) :: (nat_lit 228) :: (nat_lit 229) :: (nat_lit 230) :: (nat_lit 232) :: (nat_lit 233) :: (nat_lit 235) :: (nat_lit 236) :: (nat_lit 237) :: (nat_lit 239) :: (nat_lit 240) :: (nat_lit 242) :: (nat_lit 243) :: (nat_lit 244) :: (nat_lit 246) :: (nat_lit 247) :: (nat_lit 249) :: (nat_lit 250) :: (nat_lit 251) :: (nat_lit 254) :: (nat_lit 255) :: (nat_lit 256) :: (nat_lit 259) :: (nat_lit 260) :: (nat_lit 261) :: (nat_lit 263) :: (nat_lit 264) :: (nat_lit 266) :: (nat_lit 267) :: (nat_lit 268) :: (nat_lit 270) :: (nat_lit 271) :: (nat_lit 273) :: (nat_lit 274) :: (nat_lit 275) :: (nat_lit 277) :: (nat_lit 278) :: (nat_lit 280) :: (nat_lit 281) :: (nat_lit 282) :: (nat_lit 284) :: (nat_lit 285) :: (nat_lit 287) :: (nat_lit 288) :: (nat_lit 289) :: (nat_lit 291) :: (nat_lit 292) :: (nat_lit 294) :: (nat_lit 295) :: (nat_lit 296) :: (nat_lit 297) :: (nat_lit 298) :: (nat_lit 299) :: (nat_lit 300) :: (nat_lit 303) :: (nat_lit 305) :: (nat_lit 306) :: (nat_lit 308) :: (nat_lit 309) :: (nat_lit 310) :: (nat_lit 313) :: (nat_lit 314) :: (nat_lit 322) :: (nat_lit 323) :: (nat_lit 325) :: (nat_lit 326) :: (nat_lit 328) :: (nat_lit 329) :: (nat_lit 330) :: (nat_lit 332) :: (nat_lit 333) :: (nat_lit 335) :: (nat_lit 336) :: (nat_lit 337) :: (nat_lit 339) :: (nat_lit 340) :: (nat_lit 342) :: (nat_lit 343) :: (nat_lit 344) :: (nat_lit 346) :: (nat_lit 347) :: (nat_lit 349) :: (nat_lit 350) :: (nat_lit 351) :: (nat_lit 353) :: (nat_lit 354) :: (nat_lit 356) :: (nat_lit 357) :: (nat_lit 358) :: (nat_lit 360) :: (nat_lit 361) :: (nat_lit 363) :: (nat_lit 364) :: (nat_lit 365) :: (nat_lit 366) :: (nat_lit 367) :: (nat_lit 368) :: (nat_lit 369) :: (nat_lit 372) :: (nat_lit 374) :: (nat_lit 375) :: (nat_lit 377) :: (nat_lit 378) :: (nat_lit 379) :: (nat_lit 382) :: (nat_lit 383) :: []) hkH)) (Hook.keeps (kHook K ((nat_lit 2) :: (nat_lit 3) :: (nat_lit 15) :: (nat_lit 17) :: (nat_lit 18) :: (nat_lit 20) :: (nat_lit 21) :: (nat_lit 22) :: (nat_lit 29) :: (nat_lit 30) :: (nat_lit 31) :: (nat_lit 32) :: (nat_lit 35) :: (nat_lit 37) :: (nat_lit 38) :: (nat_lit 40) :: (nat_lit 41) :: (nat_lit 42) :: (nat_lit 44) :: (nat_lit 45) :: (nat_lit 47) :: (nat_lit 48) :: (nat_lit 49) :: (nat_lit 51) :: (nat_lit 52) :: (nat_lit 54) :: (nat_lit 55) :: (nat_lit 56) :: (nat_lit 57) :: (nat_lit 58) :: (nat_lit 60) :: (nat_lit 61) :: (nat_lit 63) :: (nat_lit 64) :: (nat_lit 65) :: (nat_lit 66) :: (nat_lit 68) :: (nat_lit 69) :: (nat_lit 71) :: (nat_lit 72) :: (nat_lit 73) :: (nat_lit 74) :: (nat_lit 76) :: (nat_lit 77) :: (nat_lit 79) :: (nat_lit 80) :: (nat_lit 81) :: (nat_lit 83) :: (nat_lit 84) :: (nat_lit 86) :: (nat_lit 87) :: (nat_lit 88) :: (nat_lit 90) :: (nat_lit 91) :: (nat_lit 93) :: (nat_lit 94) :: (nat_lit 95) :: (nat_lit 97) :: (nat_lit 98) :: (nat_lit 100) :: (nat_lit 101) :: (nat_lit 102) :: (nat_lit 104) :: (nat_lit 105) :: (nat_lit 107) :: (nat_lit 108) :: (nat_lit 109) :: (nat_lit 111) :: (nat_lit 112) :: (nat_lit 114) :: (nat_lit 115) :: (nat_lit 116) :: (nat_lit 118) :: (nat_lit 119) :: (nat_lit 121) :: (nat_lit 122) :: (nat_lit 130) :: (nat_lit 132) :: (nat_lit 133) :: (nat_lit 135) :: (nat_lit 136) :: (nat_lit 137) :: (nat_lit 138) :: (nat_lit 139) :: (nat_lit 140) :: (nat_lit 141) :: (nat_lit 151) :: (nat_lit 153) :: (nat_lit 154) :: (nat_lit 156) :: (nat_lit 157) :: (nat_lit 158) :: (nat_lit 160) :: (nat_lit 161) :: (nat_lit 163) :: (nat_lit 164) :: (nat_lit 165) :: (nat_lit 166) :: (nat_lit 167) :: (nat_lit 168) :: (nat_lit 169) :: (nat_lit 185) :: (nat_lit 186) :: (nat_lit 187) :: (nat_lit 189) :: (nat_lit 190) :: (nat_lit 192) :: (nat_lit 193) :: (nat_lit 194) :: (nat_lit 196) :: (nat_lit 197) :: (nat_lit 199) :: (nat_lit 200) :: (nat_lit 201) :: (nat_lit 203) :: (nat_lit 204) :: (nat_lit 206) :: (nat_lit 207) :: (nat_lit 208) :: (nat_lit 210) :: (nat_lit 211) :: (nat_lit 213) :: (nat_lit 214) :: (nat_lit 215) :: (nat_lit 217) :: (nat_lit 218) :: (nat_lit 220) :: (nat_lit 221) :: (nat_lit 222) :: (nat_lit 223) :: (nat_lit 225) :: (nat_lit 226) :: (nat_lit 228) :: (nat_lit 229) :: (nat_lit 230) :: (nat_lit 232) :: (nat_lit 233) :: (nat_lit 235) :: (nat_lit 236) :: (nat_lit 237) :: (nat_lit 239) :: (nat_lit 240) :: (nat_lit 242) :: (nat_lit 243) :: (nat_lit 244) :: (nat_lit 246) :: (nat_lit 247) :: (nat_lit 249) :: (nat_lit 250) :: (nat_lit 251) :: (nat_lit 254) :: (nat_lit 255) :: (nat_lit 256) :: (nat_lit 259) :: (nat_lit 260) :: (nat_lit 261) :: (nat_lit 263) :: (nat_lit 264) :: (nat_lit 266) :: (nat_lit 267) :: (nat_lit 268) :: (nat_lit 270) :: (nat_lit 271) :: (nat_lit 273) :: (nat_lit 274) :: (nat_lit 275) :: (nat_lit 277) :: (nat_lit 278) :: (nat_lit 280) :: (nat_lit 281) :: (nat_lit 282) :: (nat_lit 284) :: (nat_lit 285) :: (nat_lit 287) :: (nat_lit 288) :: (nat_lit 289) :: (nat_lit 291) :: (nat_lit 292) :: (nat_lit 294) :: (nat_lit 295) :: (nat_lit 296) :: (nat_lit 297) :: (nat_lit 298) :: (nat_lit 299) :: (nat_lit 300) :: (nat_lit 303) :: (nat_lit 305) :: (nat_lit 306) :: (nat_lit 308) :: (nat_lit 309) :: (nat_lit 310) :: (nat_lit 313) :: (nat_lit 314) :: (nat_lit 322) :: (nat_lit 323) :: (nat_lit 325) :: (nat_lit 326) :: (nat_lit 328) :: (nat_lit 329) :: (nat_lit 330) :: (nat_lit 332) :: (nat_lit 333) :: (nat_lit 335) :: (nat_lit 336) :: (nat_lit 337) :: (nat_lit 339) :: (nat_lit 340) :: (nat_lit 342) :: (nat_lit 343) :: (nat_lit 344) :: (nat_lit 346) :: (nat_lit 347) :: (nat_lit 349) :: (nat_lit 350) :: (nat_lit 351) :: (nat_lit 353) :: (nat_lit 354) :: (nat_lit 356) :: (nat_lit 357) :: (nat_lit 358) :: (nat_lit 360) :: (nat_lit 361) :: (nat_lit 363) :: (nat_lit 364) :: (nat_lit 365) :: (nat_lit 366) :: (nat_lit 367) :: (nat_lit 368) :: (nat_lit 369) :: (nat_lit 372) :: (nat_lit 374) :: (nat_lit 375) :: (nat_lit 377) :: (nat_lit 378) :: (nat_lit 379) :: (nat_lit 382) :: (nat_lit 383) :: []) hkH)) (fun s e => xl_of s (Bool.and_eq_true_iff.mp e).1) XL.keeps ?hdef ?hp ?hk (fun s e => recFacts_of (Bool.and_eq_true_iff.mp e).2) ?wr said okH ⟨rfl, rfl, rfl, rfl, rfl, by decide +kernel⟩ ?hw walk
  case hdef => kernel_rfl!
  case hp => kernel_rfl!
  case hk => kernel_rfl!
  case wr => rfl
  case hw => w_witness2
end HD

namespace Mine
local macro_rules | `(tactic| walk_at $s:str) => `(tactic| k_extra $s)
local macro_rules | `(tactic| k_in) => `(tactic| k_extra "k_in")
local macro_rules | `(tactic| ktr_units) => `(tactic| k_extra "ktr_units")
local macro_rules | `(tactic| bits_by_make) => `(tactic| k_extra "bits_by_make")
local macro_rules | `(tactic| size_fits) => `(tactic| k_extra "size_fits")
local macro_rules | `(tactic| k_all) => `(tactic| k_extra "k_all")
local macro_rules | `(tactic| k_ne) => `(tactic| k_extra "k_ne")
local macro_rules | `(tactic| kc_close) => `(tactic| k_extra "kc_close")
local macro_rules | `(tactic| wrow_close) => `(tactic| k_extra "wrow_close")
local macro_rules | `(tactic| k_mem) => `(tactic| k_extra "k_mem")
theorem fcons {α : Type} {P : α → Prop} {a : α} {l : List α} (h : P a) (k : ∀ x ∈ l, P x) : ∀ x ∈ a :: l, P x := fun x hx => by
  cases hx with
  | head => exact h
  | tail _ h2 => exact k x h2

theorem un1 {a b d e : Nat} (h : a + e < d) (hb : b ≤ e) : a + b < d := by omega
theorem un2 {a b c d e : Nat} (h : a + e < d) (hb : b + c ≤ e) : a + b + c < d := by omega
theorem un3 {a b c f d e : Nat} (h : a + e < d) (hb : b + c + f ≤ e) : a + b + c + f < d := by omega
-- a call over a part of the ledger: the callee walks over NEED alone; the rest of the ledger is kept by its ground
theorem in_of {K : Frag} {h₀ h : Heap} {L : Addr} {m : Str → Option Value} (F : Fr h₀ L h m) (X : K.In h₀) : K.In h := X.keeps F.keep
def restOf (news need : List (Addr × Obj)) : List (Addr × Obj) := news.filter fun p => !(need.map (·.1)).contains p.1
theorem mem_rest {news need : List (Addr × Obj)} {p : Addr × Obj} (h : p ∈ news) (hn : p.1 ∉ need.map (·.1)) : p ∈ restOf news need :=
  List.mem_filter.mpr ⟨h, by simpa [List.contains_iff_mem] using hn⟩
theorem rest_mem {news need : List (Addr × Obj)} {p : Addr × Obj} (h : p ∈ restOf news need) : p ∈ news ∧ p.1 ∉ need.map (·.1) := by
  obtain ⟨h1, h2⟩ := List.mem_filter.mp h
  exact ⟨h1, by simpa [List.contains_iff_mem] using h2⟩
theorem mem_rest0 {news : List (Addr × Obj)} {p : Addr × Obj} (h : p ∈ news) : p ∈ restOf news [] := mem_rest h (by simp)
def LeaveN (h₀ : Heap) (L : Addr) (m : Str → Option Value) (g : Heap) (news need : List (Addr × Obj)) (R : Result → Shared → Prop) (v : Value) (s' : Shared) : Prop :=
  ∃ L' m' news', Fr g L' s'.heap m' ∧ News g L' s'.heap news' ∧ (Fr h₀ L s'.heap m → News h₀ L s'.heap news' → News h₀ L s'.heap (restOf news need) → (∀ p ∈ restOf news need, ∀ q ∈ news', p.1 ≠ q.1) → R (.ok (.ret v)) s')
theorem leaveN_ {h₀ g : Heap} {L L' : Addr} {m m' : Str → Option Value} {news need news' : List (Addr × Obj)} {R : Result → Shared → Prop} {v : Value} {s' : Shared} (F' : Fr g L' s'.heap m') (N' : News g L' s'.heap news')
    (k : Fr h₀ L s'.heap m → News h₀ L s'.heap news' → News h₀ L s'.heap (restOf news need) → (∀ p ∈ restOf news need, ∀ q ∈ news', p.1 ≠ q.1) → R (.ok (.ret v)) s') : LeaveN h₀ L m g news need R v s' := ⟨L', m', news', F', N', k⟩
theorem leaveN_K {h₀ h g : Heap} {L : Addr} {m : Str → Option Value} {news need : List (Addr × Obj)} {R : Result → Shared → Prop} {v : Value} {s' : Shared} (N : News h₀ L h news) (hg : g = hideAll h (need.map (·.1)))
    (hl : LeaveN h₀ L m g news need R v s') : LeaveK h₀ L m g R v s' := by
  obtain ⟨L', m', news', F', N', k⟩ := hl
  have keep : ∀ p ∈ restOf news need, g.get? p.1 = some p.2 := fun p hp => by
    obtain ⟨h1, h2⟩ := rest_mem hp
    rw [hg]
    exact hideAll_get _ (N p h1).1 h2
  refine ⟨L', m', news', F', N', fun a b => k a b (fun p hp => ⟨F'.keep _ _ (keep p hp), (N p (rest_mem hp).1).2⟩) fun p hp q hq e => ?_⟩
  have h1 := keep p hp
  rw [e, (N' q hq).2.2] at h1
  cases h1
theorem news_back {h₀ h h' : Heap} {L : Addr} {news need full : List (Addr × Obj)} (N : News h₀ L h news) (hn : ∀ p ∈ need, p ∈ news) (N1 : News h₀ L h' full) (hf : ∀ p ∈ need, p ∈ full)
    (N2 : News h₀ L h' (restOf news need)) : News h₀ L h' news := by
  intro p hp
  by_cases q : p.1 ∈ need.map (·.1)
  · obtain ⟨p', hp', e⟩ := List.mem_map.mp q
    have h1 := (N p' (hn p' hp')).1
    have h2 := (N p hp).1
    rw [e, h2] at h1
    have : p = p' := Prod.ext e.symm (Option.some.inj h1)
    rw [this]
    exact N1 _ (hf _ hp')
  · exact N2 p (mem_rest hp q)
theorem news_all {h₀ h' : Heap} {L : Addr} {news : List (Addr × Obj)} (N2 : News h₀ L h' (restOf news [])) : News h₀ L h' news := fun p hp => N2 p (mem_rest0 hp)
theorem news_cons {h₀ h' : Heap} {L : Addr} {news : List (Addr × Obj)} {p : Addr × Obj} {full : List (Addr × Obj)} (N1 : News h₀ L h' full) (hp : p ∈ full) (N : News h₀ L h' news) : News h₀ L h' (p :: news) := by
  intro q hq
  rcases List.mem_cons.mp hq with rfl | hq
  · exact N1 _ hp
  · exact N q hq
theorem rest_two {news : List (Addr × Obj)} {x d : Addr} {ox od : Obj} (l0 : ∀ p ∈ news, p.1 < d) (l00 : d < x) {p : Addr × Obj} (hp : p ∈ news) : p ∈ restOf ((x, ox) :: (d, od) :: news) [(x, ox), (d, od)] := by
  refine mem_rest (List.mem_cons_of_mem _ (List.mem_cons_of_mem _ hp)) ?_
  have h1 := l0 p hp
  simp only [List.map_cons, List.map_nil, List.mem_cons, List.not_mem_nil, or_false, not_or]
  exact ⟨Nat.ne_of_lt (Nat.lt_trans h1 l00), Nat.ne_of_lt h1⟩
theorem ne_all {news full : List (Addr × Obj)} {q : Addr × Obj} (hd : ∀ p ∈ restOf news [], ∀ q ∈ full, p.1 ≠ q.1) (hq : q ∈ full) : ∀ p ∈ news, p.1 ≠ q.1 := fun p hp => hd p (mem_rest0 hp) q hq
def AllNe (d : Nat) : List (Addr × Obj) → Prop
  | [] => True
  | p :: r => (@Ne Nat p.1 d) ∧ AllNe d r
theorem allNe_of {d : Addr} : ∀ {l : List (Addr × Obj)}, (∀ p ∈ l, p.1 ≠ d) → AllNe d l
  | [], _ => trivial
  | p :: _, h => ⟨h p (.head _), allNe_of fun q hq => h q (.tail _ hq)⟩
section
variable {prog : Program} {w : World} {A A₀ : Around} {s : Shared} {K : Frag} {L : Addr} {h₀ base : Heap} {m mg mb : Str → Option Value} {news : List (Addr × Obj)} {p : Program} {loose : List Str} {mean : ExcName → Option Value}
theorem code_need (need : List (Addr × Obj)) {env : Env} {outer : List Env} {R : Result → Shared → Prop} {name qual : Str} {params : Arguments} {body : List Stmt} {scope : Scope} {dV kV doc pm cdv ct oc : Value} {an od : Option Addr} {osl : Array (Option Value)} {f : Addr} {args : Args} {binds : List (Str × Value)}
    (B : Below A₀ base outer h₀) (F : Fr h₀ L s.heap m) (X₀ : K.In h₀) (N : News h₀ L s.heap news) (T : Top p loose mean mg mb h₀) (hA : A.frames = some (env :: outer)) (hf : env.frame = some L) (hke : env.scope.kind = .function)
    (ho : K.lookup f = some ⟨oc, od, .func (fnOf name qual params body scope dV kV doc pm an cdv ct), osl⟩) (hcd : codeIn K cdv qual = true) (hroom : A.depth < recursionLimit)
    (hbind : BindsTo s (fnOf name qual params body scope dV kV doc pm an cdv ct) args binds) (hloc : ∀ y ∈ binds, scope.names.lookup y.1 = some .local) (hn : ∀ p ∈ need, p ∈ news)
    (h : ∀ g L' h₁ tk, Fr h₀ L g m → Fr g L' h₁ (fun y => binds.reverse.lookup y) → News g L' h₁ need → Below A base (env :: outer) g → K.In g → Top p loose mean mg mb g → (∀ b o, s.heap.get? b = some o → b ∉ need.map (·.1) → g.get? b = some o) →
      wpAny (model prog w) (A.deeper (envOf qual scope L' f cdv)) (execs body (envOf qual scope L' f cdv))
        (fun fl s' => LeaveN h₀ L m g news need R (match fl with | .ret v => v | _ => .none) s')
        (fun e s' => wpAny (model prog w) (A.deeper (envOf qual scope L' f cdv)) (leaving (envOf qual scope L' f cdv) e) (fun _ s'' => R (.error e) s'') (fun e' s'' => R (.error e') s'') s')
        { s with heap := h₁, toks := tk })
    (hco : scope.isCoroutine = false) (hgen : scope.isGenerator = false) (hk : scope.kind = .function)
    (hcell : ∀ x ∈ scope.names, x.2 ≠ .cell) : codeAny (model prog w) A (.call (.ref f) args) R s := by
  have N0 : News h₀ L s.heap need := fun p hp => N p (hn p hp)
  obtain ⟨FG, BG, st, lv⟩ := groundX (R := R) B F N0 hA hf hke
  refine codeAny_call_def (fd := fnOf name qual params body scope dV kV doc pm an cdv ct) (body := body) (binds := binds) hroom ((X₀.keeps F.keep) _ _ ho) rfl (T.nolimit.keeps F.keep) (codeRec_of (X₀.keeps F.keep) hcd) rfl hbind hcell hloc (fun h₁ hns hk₁ => ?_) hco hgen hk
  exact wpAny_mono (h _ s.heap.objs.size h₁ _ FG ⟨hns, fun b o e => hk₁ b o (of_hideAll _ e), Nat.le_of_eq (hideAll_size _ _)⟩
    (fun p hp => ⟨hk₁ _ _ (N0 p hp).1, Nat.ne_of_lt (Heap.lt_size (N0 p hp).1), hideAll_none _ (List.mem_map_of_mem hp)⟩) BG (X₀.keeps st) (T.keeps st) (fun b o e n => hideAll_get _ e n)) (fun fl s' hl => lv _ _ (leaveN_K N rfl hl)) fun _ _ y => y
theorem code_needC (need : List (Addr × Obj)) {env : Env} {outer : List Env} {R : Result → Shared → Prop} {name qual : Str} {params : Arguments} {body : List Stmt} {scope : Scope} {dV kV doc pm cdv ct oc : Value} {an od : Option Addr} {osl : Array (Option Value)} {f : Addr} {args : Args} {binds : List (Str × Value)}
    (B : Below A₀ base outer h₀) (F : Fr h₀ L s.heap m) (X₀ : K.In h₀) (N : News h₀ L s.heap news) (T : Top p loose mean mg mb h₀) (hA : A.frames = some (env :: outer)) (hf : env.frame = some L) (hke : env.scope.kind = .function)
    (ho : K.lookup f = some ⟨oc, od, .func (fnOf name qual params body scope dV kV doc pm an cdv ct), osl⟩) (hcd : codeIn K cdv qual = true) (hroom : A.depth < recursionLimit)
    (hbind : BindsTo s (fnOf name qual params body scope dV kV doc pm an cdv ct) args binds) (hkind : (binds.all fun y => scope.names.lookup y.1 == some .local || scope.names.lookup y.1 == some .cell) = true)
    (hnd : ((cellsFrom 0 scope.names []).map (·.1)).Nodup) (hn : ∀ p ∈ need, p ∈ news)
    (h : ∀ g L' h₁ tk cells, Fr h₀ L g m → Fr g L' h₁ (bindL (envOfC qual scope L' f cdv).kindOf binds fun _ => none) → News g L' h₁ (cells ++ need) →
      CellsAre (bindC (envOfC qual scope L' f cdv).kindOf binds fun _ => none) (cellsFrom (L' + 1) scope.names []) cells → Below A base (env :: outer) g → K.In g → Top p loose mean mg mb g → (∀ p ∈ need, p.1 < L') → (∀ b o, s.heap.get? b = some o → b ∉ need.map (·.1) → g.get? b = some o) →
      wpAny (model prog w) (A.deeper (envOfC qual scope L' f cdv)) (execs body (envOfC qual scope L' f cdv))
        (fun fl s' => LeaveN h₀ L m g news need R (match fl with | .ret v => v | _ => .none) s')
        (fun e s' => wpAny (model prog w) (A.deeper (envOfC qual scope L' f cdv)) (leaving (envOfC qual scope L' f cdv) e) (fun _ s'' => R (.error e) s'') (fun e' s'' => R (.error e') s'') s')
        { s with heap := h₁, toks := tk })
    (hco : scope.isCoroutine = false) (hgen : scope.isGenerator = false) (hk : scope.kind = .function) : codeAny (model prog w) A (.call (.ref f) args) R s := by
  have N0 : News h₀ L s.heap need := fun p hp => N p (hn p hp)
  obtain ⟨FG, BG, st, lv⟩ := groundX (R := R) B F N0 hA hf hke
  refine codeAny_call_function hroom ((X₀.keeps F.keep) _ _ ho) rfl hco hgen rfl (codeRec_of (X₀.keeps F.keep) hcd) (hbind _ _ _ _ ?_)
  refine wpAny_newFunctionEnv_cells hk (kindsX hkind _) fun env' he s' x => ?_
  subst he
  refine ⟨(T.nolimit.keeps F.keep).keeps x.toInCall.keep, codeAny_func ?_⟩
  obtain ⟨h₁, tk, rfl, _⟩ := x.done
  have hk₁ := x.toInCall.keep
  obtain ⟨cells, NC, Y⟩ := Cl.news (h₀ := s.heap) (Nat.le_refl _) fun n c hm => ⟨x.cell n c (lookup_of_mem_nodup (cellsFrom_names scope.names 0 (s.heap.objs.size + 1) [] [] rfl ▸ hnd) hm), x.above n c hm⟩
  refine wpAny_mono (h _ s.heap.objs.size h₁ tk cells FG ⟨x.toInCall.ns, fun b o e => hk₁ b o (of_hideAll _ e), Nat.le_of_eq (hideAll_size _ _)⟩ (fun p hp => ?_) Y BG (X₀.keeps st) (T.keeps st) (fun p hp => Heap.lt_size (N0 p hp).1) (fun b o e n => hideAll_get _ e n)) (fun fl s' hl => lv _ _ (leaveN_K N rfl hl)) fun _ _ y => y
  rcases List.mem_append.mp hp with hp | hp
  · refine ⟨(NC p hp).1, (NC p hp).2.1, ?_⟩
    cases q : (hideAll s.heap (need.map (·.1))).get? p.1 with
    | none => rfl
    | some o => have := of_hideAll _ q; rw [(NC p hp).2.2] at this; cases this
  · exact ⟨hk₁ _ _ (N0 p hp).1, Nat.ne_of_lt (Heap.lt_size (N0 p hp).1), hideAll_none _ (List.mem_map_of_mem hp)⟩
end
theorem news_upd2 {h₀ h h' : Heap} {L x d l : Addr} {ox od od' ol ol' : Obj} {news news1 full : List (Addr × Obj)} {g1 : Obj → List (Addr × Obj)} (N : News h₀ L h news) (ex : (x, ox) ∈ news) (U2 : Upd d od od' news news1) (U1 : UpdF l ol news1 g1)
    (N1 : News h₀ L h' full) (fx : (x, ox) ∈ full) (fd : (d, od') ∈ full) (fl : (l, ol') ∈ full) (kR : News h₀ L h' (restOf news [(x, ox), (d, od), (l, ol)])) : News h₀ L h' (g1 ol') := by
  obtain ⟨p1, q1, e1, e1', a1, b1⟩ := U2.split
  obtain ⟨p2, q2, e2, e2', a2, b2⟩ := U1.split
  intro p hp
  rw [e2'] at hp
  have main : p = (l, ol') ∨ (p ∈ news1 ∧ p.1 ≠ l) := by
    rcases List.mem_append.mp hp with h | h
    · exact .inr ⟨by rw [e2]; exact List.mem_append.mpr (.inl h), a2 p h⟩
    · rcases List.mem_cons.mp h with h | h
      · exact .inl h
      · exact .inr ⟨by rw [e2]; exact List.mem_append.mpr (.inr (List.mem_cons_of_mem _ h)), b2 p h⟩
  rcases main with rfl | ⟨hp, hl⟩
  · exact N1 _ fl
  rw [e1'] at hp
  have main2 : p = (d, od') ∨ (p ∈ news ∧ p.1 ≠ d) := by
    rcases List.mem_append.mp hp with h | h
    · exact .inr ⟨by rw [e1]; exact List.mem_append.mpr (.inl h), a1 p h⟩
    · rcases List.mem_cons.mp h with h | h
      · exact .inl h
      · exact .inr ⟨by rw [e1]; exact List.mem_append.mpr (.inr (List.mem_cons_of_mem _ h)), b1 p h⟩
  rcases main2 with rfl | ⟨hp, hd⟩
  · exact N1 _ fd
  by_cases hx : p.1 = x
  · have h1 := (N p hp).1
    have h2 := (N _ ex).1
    rw [hx, h2] at h1
    have : p = (x, ox) := Prod.ext hx (Option.some.inj h1).symm
    rw [this]
    exact N1 _ fx
  · exact kR p (mem_rest hp (by simp only [List.map_cons, List.map_nil, List.mem_cons, List.not_mem_nil, or_false, not_or]; exact ⟨hx, hd, hl⟩))
theorem ne_three {news full : List (Addr × Obj)} {x d l : Addr} {ox od ol : Obj} {q : Addr × Obj} (kD : ∀ p ∈ restOf news [(x, ox), (d, od), (l, ol)], ∀ q ∈ full, p.1 ≠ q.1) (hq : q ∈ full) (hx : x ≠ q.1) (hd : d ≠ q.1) (hl : l ≠ q.1) : ∀ p ∈ news, p.1 ≠ q.1 := by
  intro p hp
  by_cases h1 : p.1 = x
  · rw [h1]; exact hx
  by_cases h2 : p.1 = d
  · rw [h2]; exact hd
  by_cases h3 : p.1 = l
  · rw [h3]; exact hl
  exact kD p (mem_rest hp (by simp only [List.map_cons, List.map_nil, List.mem_cons, List.not_mem_nil, or_false, not_or]; exact ⟨h1, h2, h3⟩)) q hq
theorem three_in {news : List (Addr × Obj)} {a b c : Addr × Obj} (h1 : a ∈ news) (h2 : b ∈ news) (h3 : c ∈ news) : ∀ p ∈ [a, b, c], p ∈ news :=
  fcons h1 (fcons h2 (fcons h3 (List.forall_mem_nil _)))
theorem Upd.mem {d : Addr} {o o' : Obj} {l l' : List (Addr × Obj)} (U : Upd d o o' l l') : (d, o) ∈ l := by
  obtain ⟨p, q, e, _, _, _⟩ := U.split; rw [e]; exact List.mem_append.mpr (.inr (.head _))
theorem Upd.other {d : Addr} {o o' : Obj} {l l' : List (Addr × Obj)} (U : Upd d o o' l l') {p : Addr × Obj} (h : p ∈ l') (hd : p.1 ≠ d) : p ∈ l := by
  obtain ⟨p1, q1, e1, e1', _, _⟩ := U.split
  rw [e1'] at h; rw [e1]
  rcases List.mem_append.mp h with h | h
  · exact List.mem_append.mpr (.inl h)
  · rcases List.mem_cons.mp h with h | h
    · rw [h] at hd; exact absurd rfl hd
    · exact List.mem_append.mpr (.inr (List.mem_cons_of_mem _ h))
theorem UpdF.mem {d : Addr} {o : Obj} {l : List (Addr × Obj)} {g : Obj → List (Addr × Obj)} (U : UpdF d o l g) : (d, o) ∈ l := by
  obtain ⟨p, q, e, _, _, _⟩ := U.split; rw [e]; exact List.mem_append.mpr (.inr (.head _))
theorem UpdF.other {d : Addr} {o o' : Obj} {l : List (Addr × Obj)} {g : Obj → List (Addr × Obj)} (U : UpdF d o l g) {p : Addr × Obj} (h : p ∈ g o') : p = (d, o') ∨ (p ∈ l ∧ p.1 ≠ d) := by
  obtain ⟨p1, q1, e1, e1', a, b⟩ := U.split
  rw [e1'] at h; rw [e1]
  rcases List.mem_append.mp h with h | h
  · exact .inr ⟨List.mem_append.mpr (.inl h), a p h⟩
  · rcases List.mem_cons.mp h with h | h
    · exact .inl h
    · exact .inr ⟨List.mem_append.mpr (.inr (List.mem_cons_of_mem _ h)), b p h⟩
-- the gcd loop, as plain numbers
theorem gcd_turn {a b : Int} (hb : 0 < b) : Int.gcd b (a.fmod b) = Int.gcd a b := by
  rw [Int.fmod_eq_emod_of_nonneg _ (by omega), Int.gcd_comm a b]
  conv => rhs; rw [← Int.mul_ediv_add_emod a b]
  rw [Int.gcd_mul_left_add_right]
theorem dv_turn {a b : Int} {g : Nat} (hb : b > 0) (h : Int.gcd a b = g) : 0 ≤ b ∧ 0 ≤ a.fmod b ∧ Int.gcd b (a.fmod b) = g :=
  ⟨by omega, by rw [Int.fmod_eq_emod_of_nonneg _ (by omega)]; exact Int.emod_nonneg _ (by omega), by rw [gcd_turn hb]; exact h⟩
theorem dv_less {a b : Int} (hb : b > 0) : (a.fmod b).toNat < b.toNat := by
  have h1 : a.fmod b = a % b := Int.fmod_eq_emod_of_nonneg _ (by omega)
  have h2 := Int.emod_nonneg a (show b ≠ 0 by omega)
  have h3 := Int.emod_lt_of_pos a (show 0 < b by omega)
  omega
theorem dv_end {x y a b : Int} (ha : 0 ≤ a) (hb : 0 ≤ b) (hn : ¬ b > 0) (h : Int.gcd a b = Int.gcd (if x < 0 then -x else x) (if y < 0 then -y else y)) : a = ((Int.gcd x y : Nat) : Int) := by
  have e : b = 0 := by omega
  subst e
  rw [Int.gcd_zero] at h
  have h1 : Int.gcd (if x < 0 then -x else x) (if y < 0 then -y else y) = Int.gcd x y := by
    split <;> split <;> simp
  omega
-- fractions as rationals
theorem num_p {x y g : Int} (h : ¬ y < 0) (h0 : y ≠ 0) (e : g = ((Int.gcd x y : Nat) : Int)) : x.fdiv g = (Rat.divInt x y).num := by
  rw [e, Rat.num_divInt, Int.sign_eq_one_of_pos (by omega), Int.one_mul, Int.gcd_comm, Int.fdiv_eq_ediv_of_nonneg _ (by omega)]
theorem den_p {x y g : Int} (h : ¬ y < 0) (h0 : y ≠ 0) (e : g = ((Int.gcd x y : Nat) : Int)) : y.fdiv g = ((Rat.divInt x y).den : Int) := by
  rw [e, Rat.den_divInt, if_neg (by omega), Int.gcd_comm, Int.fdiv_eq_ediv_of_nonneg _ (by omega), Int.natCast_ediv]
  congr 1
  omega
theorem num_n {x y g : Int} (h : y < 0) (e : g = ((Int.gcd (-x) (-y) : Nat) : Int)) : (-x).fdiv g = (Rat.divInt x y).num := by
  rw [← Rat.neg_divInt_neg]; exact num_p (by omega) (by omega) e
theorem den_n {x y g : Int} (h : y < 0) (e : g = ((Int.gcd (-x) (-y) : Nat) : Int)) : (-y).fdiv g = ((Rat.divInt x y).den : Int) := by
  rw [← Rat.neg_divInt_neg]; exact den_p (by omega) (by omega) e
theorem num_le (u l : Int) : (Rat.divInt u l).num.natAbs ≤ u.natAbs := by
  rw [Rat.num_divInt]
  refine Nat.le_trans (Int.natAbs_ediv_le_natAbs _ _) ?_
  rcases Int.lt_trichotomy l 0 with h | h | h
  · rw [Int.sign_eq_neg_one_of_neg h]; omega
  · subst h; simp
  · rw [Int.sign_eq_one_of_pos h]; omega
theorem den_le {u l : Int} (h : l ≠ 0) : (Rat.divInt u l).den ≤ l.natAbs := by
  rw [Rat.den_divInt, if_neg h]
  exact Nat.div_le_self _ _
theorem r_plus (r q : Rat) : Rat.divInt (r.num * q.den + q.num * r.den) (r.den * q.den) = r + q := by
  rw [Rat.add_def', ← Rat.divInt_ofNat]; rfl
theorem r_times (r q : Rat) : Rat.divInt (r.num * q.num) (r.den * q.den) = r * q := by
  rw [Rat.mul_def', ← Rat.divInt_ofNat]; rfl
theorem r_over (r q : Rat) : Rat.divInt (r.num * q.den) (r.den * q.num) = r / q := by
  rw [Rat.div_def, Rat.inv_def]
  conv => rhs; rw [← Rat.num_divInt_den r]
  rw [Rat.divInt_mul_divInt]
theorem r_int (n : Int) : Rat.divInt n 1 = (n : Rat) := by
  rw [Rat.divInt_eq_div]; grind
theorem nzmul {a b : Int} (ha : a ≠ 0) (hb : b ≠ 0) : a * b ≠ 0 := Int.mul_ne_zero ha hb
theorem nzden (r : Rat) : (r.den : Int) ≠ 0 := by have := r.den_nz; omega
-- sizes
def Fits (x : Int) : Prop := x.natAbs < 10 ^ 2000
theorem Fits.no {x g M : Int} (h : Fits x) (hg : 0 < g) (hb : x.fdiv g ≥ M) (hM : M = 10 ^ 2000) : False := by
  have h1 : (x.fdiv g).natAbs ≤ x.natAbs := by
    rw [Int.fdiv_eq_ediv_of_nonneg _ (by omega)]
    exact Int.natAbs_ediv_le_natAbs _ _
  have h2 : ((10 ^ 2000 : Nat) : Int) = M := by rw [hM]; simp
  unfold Fits at h
  generalize (10 : Nat) ^ 2000 = P at h h2
  omega
theorem Fits.noA {x g M : Int} (h : Fits x) (hg : 0 < g) (hb : (if x.fdiv g < 0 then -(x.fdiv g) else x.fdiv g) ≥ M) (hM : M = 10 ^ 2000) : False := by
  have h1 : (x.fdiv g).natAbs ≤ x.natAbs := by
    rw [Int.fdiv_eq_ediv_of_nonneg _ (by omega)]
    exact Int.natAbs_ediv_le_natAbs _ _
  have h2 : ((10 ^ 2000 : Nat) : Int) = M := by rw [hM]; simp
  unfold Fits at h
  generalize (10 : Nat) ^ 2000 = P at h h2
  omega
theorem Fits.neg {x : Int} (h : Fits x) : Fits (-x) := by unfold Fits at *; omega
theorem ten_two : (10 : Nat) ^ 2000 < 2 ^ 9000 := by decide +kernel
theorem two_ten : (2 : Nat) ^ 6643 < 10 ^ 2000 := by decide +kernel
theorem Fits.log {x : Int} {n : Nat} (h : Fits x) (h0 : 0 < n) (hn : n ≤ x.natAbs) : (n : Int).natAbs.log2 < 9000 := by
  have e : (n : Int).natAbs = n := by omega
  rw [e]
  refine (Nat.log2_lt (by omega)).mpr ?_
  unfold Fits at h
  have := ten_two
  generalize (10 : Nat) ^ 2000 = P at *
  generalize (2 : Nat) ^ 9000 = R at *
  omega
theorem Fits.of {x : Int} {n : Nat} (h : Builtin.Int.intBits x ≤ n) (hn : n ≤ 6643) : Fits x := by
  have h1 := natAbs_lt_pow_bits x
  have h2 : (2 : Nat) ^ Builtin.Int.intBits x ≤ 2 ^ 6643 := Nat.pow_le_pow_right (by decide) (by omega)
  have h3 := two_ten
  unfold Fits
  generalize (10 : Nat) ^ 2000 = P at *
  generalize (2 : Nat) ^ 6643 = R at *
  omega
theorem bits_num {u l : Int} {n : Nat} (h : Builtin.Int.intBits u ≤ n) : Builtin.Int.intBits (Rat.divInt u l).num ≤ n := bits_of_natAbs_le (num_le u l) h
theorem bits_den {u l : Int} {n : Nat} (h0 : l ≠ 0) (h : Builtin.Int.intBits l ≤ n) : Builtin.Int.intBits ((Rat.divInt u l).den : Int) ≤ n := bits_of_natAbs_le (by have := den_le (u := u) h0; omega) h

-- the calls
abbrev RatO (r : Rat) (t t' : Tok) (c : Nat) : Obj := { cls := .type "tuple", data := .seq #[.int r.num t, .int (r.den : Int) t'] c }
theorem words1 : True := by
  k_with "ne9" => (first | with_reducible assumption | exact Ne.symm (by with_reducible assumption) | omega)
  k_with "k_in" => (refine' in_of ?z1fF ?z1fX; (case z1fF => k_asm); (case z1fX => k_asm))
  trivial
theorem div_c {w : World} {p : Program} {loose : List Str} {mean : ExcName → Option Value} {mg mb : Str → Option Value} (dp un : Nat) (gd : Option (List Code)) (cn : Str) (cs : Scope) (a : Addr) (ccd : Value) (cl : List (Str × Addr)) (outer : List Env) (A₀ : Around) (base h₀ : Heap) (L : Addr) (m : Str → Option Value) (news : List (Addr × Obj)) (s : Shared) (Q E : Value → Shared → Prop) (x y : Int) (t1 t2 : Tok)
    (B : Below A₀ base outer h₀) (F : Fr h₀ L s.heap m) (X : (HD.K w.params).In h₀) (N : News h₀ L s.heap news) (T : Top p loose mean mg mb h₀) (hk : cs.kind = .function)
    (hd : dp + 1 < recursionLimit) (hu : un + 8 < cLine)
    (hret : ∀ (t : Tok) (h' : Heap) (tk' : Nat), Fr h₀ L h' m → News h₀ L h' news → Q (.int ((Int.gcd x y : Nat) : Int) t) { s with heap := h', toks := tk' }) :
      wpAny (model PySem.Challenge.rw_ui0509_14.row.prog w) (ktrTop dp un gd cn cs L a ccd cl outer) (call (.ref 64) [.int x t1, .int y t2]) Q E s := by
  revert X; k_fill; intro X
  refine wpAny_call ?_
  k_dflt ktr_enter
  (k_with "exec While Compare cons nil" => k_while_given ["a!", "b!"] (fun a₀ b₀ _ a b => 0 ≤ a ∧ 0 ≤ b ∧ Int.gcd a b = Int.gcd a₀ b₀) (fun _ _ _ _ b => b.toNat) "a" "b")
  (k_with "state" => exact dv_turn (by assumption) (by assumption))
  (k_with "measure" => exact dv_less (by assumption))
  k_steps
  all_goals exact cb_retI hret (dv_end (by assumption) (by assumption) (by assumption) (by assumption)) (by k_asm) (by k_asm)
theorem div_use {w : World} {p : Program} {loose : List Str} {mean : ExcName → Option Value} {mg mb : Str → Option Value} (dp un : Nat) (gd : Option (List Code)) (cn : Str) (cs : Scope) (a : Addr) (ccd : Value) (cl : List (Str × Addr)) (outer : List Env) (A₀ : Around) (base h₀ : Heap) (L : Addr) (m : Str → Option Value) (news : List (Addr × Obj)) (s : Shared) (Q E : Value → Shared → Prop) (x y : Int) (t1 t2 : Tok)
    (B : Below A₀ base outer h₀) (F : Fr h₀ L s.heap m) (X : (HD.K w.params).In h₀) (N : News h₀ L s.heap news) (T : Top p loose mean mg mb h₀) (hk : cs.kind = .function)
    (hd : dp + 1 < recursionLimit) (hu : un + 8 < cLine) (hy : y ≠ 0) (hf : Fits y)
    (hret : ∀ (g : Int) (t : Tok) (h' : Heap) (tk' : Nat), 0 < g → g = ((Int.gcd x y : Nat) : Int) → g.natAbs.log2 < 9000 → Fr h₀ L h' m → News h₀ L h' news → Q (.int g t) { s with heap := h', toks := tk' }) :
      wpAny (model PySem.Challenge.rw_ui0509_14.row.prog w) (ktrTop dp un gd cn cs L a ccd cl outer) (call (.ref 64) [.int x t1, .int y t2]) Q E s :=
  div_c dp un gd cn cs a ccd cl outer A₀ base h₀ L m news s Q E x y t1 t2 B F X N T hk hd hu (fun t h' tk' F' N' => hret _ t h' tk' (by have := Int.gcd_pos_of_ne_zero_right x hy; omega) rfl (Fits.log hf (Int.gcd_pos_of_ne_zero_right x hy) (Int.gcd_le_natAbs_right x hy)) F' N')
theorem fr_end {h₀ h' : Heap} {L D : Addr} {m : Str → Option Value} {news : List (Addr × Obj)} {s : Shared} {Q : Value → Shared → Prop} {x y a b : Int} {t t' : Tok} {c tk' : Nat}
    (hret : ∀ (r : Rat) (D : Addr) (t t' : Tok) (c : Nat) (h' : Heap) (tk' : Nat), r = Rat.divInt x y → Fr h₀ L h' m → News h₀ L h' ((D, RatO r t t' c) :: news) → (∀ p ∈ news, p.1 < D) → Q (.ref D) { s with heap := h', toks := tk' })
    (e1 : a = (Rat.divInt x y).num) (e2 : b = ((Rat.divInt x y).den : Int)) (F : Fr h₀ L h' m) (N : News h₀ L h' ((D, ({ cls := .type "tuple", data := .seq #[.int a t, .int b t'] c } : Obj)) :: news)) (hl : ∀ p ∈ news, p.1 < D) : Q (.ref D) { s with heap := h', toks := tk' } := by
  subst e1; subst e2
  exact hret _ D t t' c h' tk' rfl F N hl
local macro_rules | `(tactic| walk_at "i0") => `(tactic| (intro g' t' h' tk' g0' gE' gL' F' N'))
theorem words2 : True := by
  k_with "call ref" => (k_here; (with_reducible show wpAny _ _ (call (Value.ref 64) [Value.int _ _, Value.int _ _]) _ _ _); k_dflt (refine' div_use _ _ _ _ _ _ _ _ _ _ _ _ _ _ _ _ _ _ _ _ _ _ ?z2k1 ?z2k2 ?z2k3 ?z2k4 ?z2k5 ?z2k6 ?z2k7 ?z2k8 ?z2k9 ?z2k10 ?_; (case z2k1 => k_asm); (case z2k2 => k_asm); (case z2k3 => k_asm); (case z2k4 => k_asm); (case z2k5 => k_asm); (case z2k6 => first | exact rfl | assumption); (case z2k7 => ktr_room); (case z2k8 => ktr_units); (case z2k9 => omega); (case z2k10 => first | assumption | exact Fits.neg (by assumption) | exact Fits.of (n := 64) (PySem.intBits_le_64 (by omega) (by omega)) (by decide)); k_whole); walk_at "i0"; (try k_sweep))
  k_with "binaryOp FloorDiv int int" => (with_reducible refine floordiv_int ?z3ne ?_ (Or.inl (PyProof.noPylong_of_log2 ?z3lg)); (case z3lg => with_reducible assumption); (case z3ne => omega))
  trivial
theorem frac_c {w : World} {p : Program} {loose : List Str} {mean : ExcName → Option Value} {mg mb : Str → Option Value} (dp un : Nat) (gd : Option (List Code)) (cn : Str) (cs : Scope) (a : Addr) (ccd : Value) (cl : List (Str × Addr)) (outer : List Env) (A₀ : Around) (base h₀ : Heap) (L : Addr) (m : Str → Option Value) (news : List (Addr × Obj)) (s : Shared) (Q E : Value → Shared → Prop) (x y : Int) (t1 t2 : Tok)
    (B : Below A₀ base outer h₀) (F : Fr h₀ L s.heap m) (X : (HD.K w.params).In h₀) (N : News h₀ L s.heap news) (T : Top p loose mean mg mb h₀) (hk : cs.kind = .function)
    (hd : dp + 2 < recursionLimit) (hu : un + 16 < cLine) (hy : y ≠ 0) (hx1 : Fits x) (hy1 : Fits y)
    (hret : ∀ (r : Rat) (D : Addr) (t t' : Tok) (c : Nat) (h' : Heap) (tk' : Nat), r = Rat.divInt x y → Fr h₀ L h' m → News h₀ L h' ((D, RatO r t t' c) :: news) → (∀ p ∈ news, p.1 < D) → Q (.ref D) { s with heap := h', toks := tk' }) :
      wpAny (model PySem.Challenge.rw_ui0509_14.row.prog w) (ktrTop dp un gd cn cs L a ccd cl outer) (call (.ref 72) [.int x t1, .int y t2]) Q E s := by
  revert X; k_fill; intro X
  refine wpAny_call ?_
  k_dflt (refine' code_def ?k1 ?k2 ?k3 ?k4 ?k5 ?kA ?kF ?kK ?k6 ?k7 ?k8 ?k9 ?kB ?_ ?c2 ?c3 ?c4 ?c5; (case kA => exact rfl); (case kF => exact rfl); (case kK => assumption); (case k1 => k_asm); (case k2 => k_asm); (case k3 => k_asm); (case k4 => k_asm); (case k5 => k_asm); (case k6 => k_is); (case k7 => k_is); (case k8 => ktr_room); (case k9 => first | exact BindsTo.of_eq rfl | exact binds_K (by k_in) rfl (by k_is) rfl rfl rfl); (case c5 => decide); (case kB => exact locs rfl); (case c2 => exact rfl); (case c3 => exact rfl); (case c4 => exact rfl); k_whole; intro g' L' h' FG' F' N' B' X' T'; (try dsimp only); (try k_fold))
  k_steps
  all_goals first
    | exact absurd (by assumption) hy
    | exact fr_end hret (num_p (by assumption) hy (by assumption)) (den_p (by assumption) hy (by assumption)) (by k_asm) (by k_asm) (by assumption)
    | exact fr_end hret (num_n (by assumption) (by assumption)) (den_n (by assumption) (by assumption)) (by k_asm) (by k_asm) (by assumption)
    | exact (Fits.no hy1 (by assumption) (by assumption) (by decide +kernel)).elim
    | exact (Fits.no (Fits.neg hy1) (by assumption) (by assumption) (by decide +kernel)).elim
    | exact (Fits.noA hx1 (by assumption) (by assumption) (by decide +kernel)).elim
    | exact (Fits.noA (Fits.neg hx1) (by assumption) (by assumption) (by decide +kernel)).elim
theorem fits_one : Fits 1 := Fits.of (n := 64) (PySem.intBits_le_64 (by omega) (by omega)) (by decide)
theorem fd_end {h₀ h' : Heap} {L D : Addr} {m : Str → Option Value} {news : List (Addr × Obj)} {s : Shared} {Q : Value → Shared → Prop} {x g : Int} {t t' : Tok} {c tk' : Nat}
    (hret : ∀ (D : Addr) (t t' : Tok) (c : Nat) (h' : Heap) (tk' : Nat), Fr h₀ L h' m → News h₀ L h' ((D, ({ cls := .type "tuple", data := .seq #[.int x t, .int 1 t'] c } : Obj)) :: news) → (∀ p ∈ news, p.1 < D) → Q (.ref D) { s with heap := h', toks := tk' })
    (e : g = ((Int.gcd x 1 : Nat) : Int)) (F : Fr h₀ L h' m) (N : News h₀ L h' ((D, ({ cls := .type "tuple", data := .seq #[.int (x.fdiv g) t, .int (Int.fdiv 1 g) t'] c } : Obj)) :: news)) (hl : ∀ p ∈ news, p.1 < D) : Q (.ref D) { s with heap := h', toks := tk' } := by
  have e1 : g = 1 := by rw [e, Int.gcd_one]; rfl
  subst e1
  rw [Int.fdiv_one, Int.fdiv_one] at N
  exact hret D t t' c h' tk' F N hl
theorem frac_d {w : World} {p : Program} {loose : List Str} {mean : ExcName → Option Value} {mg mb : Str → Option Value} (dp un : Nat) (gd : Option (List Code)) (cn : Str) (cs : Scope) (a : Addr) (ccd : Value) (cl : List (Str × Addr)) (outer : List Env) (A₀ : Around) (base h₀ : Heap) (L : Addr) (m : Str → Option Value) (news : List (Addr × Obj)) (s : Shared) (Q E : Value → Shared → Prop) (x : Int) (t1 : Tok)
    (B : Below A₀ base outer h₀) (F : Fr h₀ L s.heap m) (X : (HD.K w.params).In h₀) (N : News h₀ L s.heap news) (T : Top p loose mean mg mb h₀) (hk : cs.kind = .function)
    (hd : dp + 2 < recursionLimit) (hu : un + 16 < cLine) (hx1 : Fits x)
    (hret : ∀ (D : Addr) (t t' : Tok) (c : Nat) (h' : Heap) (tk' : Nat), Fr h₀ L h' m → News h₀ L h' ((D, ({ cls := .type "tuple", data := .seq #[.int x t, .int 1 t'] c } : Obj)) :: news) → (∀ p ∈ news, p.1 < D) → Q (.ref D) { s with heap := h', toks := tk' }) :
      wpAny (model PySem.Challenge.rw_ui0509_14.row.prog w) (ktrTop dp un gd cn cs L a ccd cl outer) (call (.ref 72) [.int x t1]) Q E s := by
  revert X; k_fill; intro X
  refine wpAny_call ?_
  k_dflt (refine' code_def ?k1 ?k2 ?k3 ?k4 ?k5 ?kA ?kF ?kK ?k6 ?k7 ?k8 ?k9 ?kB ?_ ?c2 ?c3 ?c4 ?c5; (case kA => exact rfl); (case kF => exact rfl); (case kK => assumption); (case k1 => k_asm); (case k2 => k_asm); (case k3 => k_asm); (case k4 => k_asm); (case k5 => k_asm); (case k6 => k_is); (case k7 => k_is); (case k8 => ktr_room); (case k9 => first | exact BindsTo.of_eq rfl | exact binds_K (by k_in) rfl (by k_is) rfl rfl rfl); (case c5 => decide); (case kB => exact locs rfl); (case c2 => exact rfl); (case c3 => exact rfl); (case c4 => exact rfl); k_whole; intro g' L' h' FG' F' N' B' X' T'; (try dsimp only); (try k_fold))
  k_steps
  all_goals first
    | exact fd_end hret (by assumption) (by k_asm) (by k_asm) (by assumption)
    | exact (Fits.no fits_one (by assumption) (by assumption) (by decide +kernel)).elim
    | exact (Fits.noA hx1 (by assumption) (by assumption) (by decide +kernel)).elim
theorem frac_use {w : World} {p : Program} {loose : List Str} {mean : ExcName → Option Value} {mg mb : Str → Option Value} {dp un : Nat} {gd : Option (List Code)} {cn : Str} {cs : Scope} {a : Addr} {ccd : Value} {cl : List (Str × Addr)} {outer : List Env} {A₀ : Around} {base h₀ : Heap} {L : Addr} {m : Str → Option Value} {news : List (Addr × Obj)} {s : Shared} {Q E : Value → Shared → Prop} {x y : Int} {t1 t2 : Tok} {nx ny : Nat}
    (B : Below A₀ base outer h₀) (F : Fr h₀ L s.heap m) (X : (HD.K w.params).In h₀) (N : News h₀ L s.heap news) (T : Top p loose mean mg mb h₀) (hk : cs.kind = .function)
    (hd : dp + 2 < recursionLimit) (hu : un + 16 < cLine) (hy : y ≠ 0) (hx1 : Builtin.Int.intBits x ≤ nx) (hy1 : Builtin.Int.intBits y ≤ ny) (hnx : nx ≤ 6643) (hny : ny ≤ 6643)
    (hret : ∀ (r : Rat) (D : Addr) (t t' : Tok) (c : Nat) (h' : Heap) (tk' : Nat), r = Rat.divInt x y → Builtin.Int.intBits r.num ≤ nx → Builtin.Int.intBits (r.den : Int) ≤ ny → Fr h₀ L h' m → News h₀ L h' ((D, RatO r t t' c) :: news) → (∀ p ∈ news, p.1 < D) → Q (.ref D) { s with heap := h', toks := tk' }) :
      wpAny (model PySem.Challenge.rw_ui0509_14.row.prog w) (ktrTop dp un gd cn cs L a ccd cl outer) (call (.ref 72) [.int x t1, .int y t2]) Q E s :=
  frac_c dp un gd cn cs a ccd cl outer A₀ base h₀ L m news s Q E x y t1 t2 B F X N T hk hd hu hy (Fits.of hx1 hnx) (Fits.of hy1 hny) fun r D t t' c h' tk' e F' N' l => hret r D t t' c h' tk' e (e ▸ bits_num hx1) (e ▸ bits_den hy hy1) F' N' l
theorem r_one_num (x : Int) : (Rat.divInt x 1).num = x := by rw [r_int]; rfl
theorem r_one_den (x : Int) : (Rat.divInt x 1).den = 1 := by rw [r_int]; rfl
theorem frac_one {w : World} {p : Program} {loose : List Str} {mean : ExcName → Option Value} {mg mb : Str → Option Value} {dp un : Nat} {gd : Option (List Code)} {cn : Str} {cs : Scope} {a : Addr} {ccd : Value} {cl : List (Str × Addr)} {outer : List Env} {A₀ : Around} {base h₀ : Heap} {L : Addr} {m : Str → Option Value} {news : List (Addr × Obj)} {s : Shared} {Q E : Value → Shared → Prop} {x : Int} {t1 t2 : Tok} {nx : Nat}
    (B : Below A₀ base outer h₀) (F : Fr h₀ L s.heap m) (X : (HD.K w.params).In h₀) (N : News h₀ L s.heap news) (T : Top p loose mean mg mb h₀) (hk : cs.kind = .function)
    (hd : dp + 2 < recursionLimit) (hu : un + 16 < cLine) (hx1 : Builtin.Int.intBits x ≤ nx) (hnx : nx ≤ 6643)
    (hret : ∀ (D : Addr) (t t' : Tok) (c : Nat) (h' : Heap) (tk' : Nat), Fr h₀ L h' m → News h₀ L h' ((D, ({ cls := .type "tuple", data := .seq #[.int x t, .int 1 t'] c } : Obj)) :: news) → (∀ p ∈ news, p.1 < D) → Q (.ref D) { s with heap := h', toks := tk' }) :
      wpAny (model PySem.Challenge.rw_ui0509_14.row.prog w) (ktrTop dp un gd cn cs L a ccd cl outer) (call (.ref 72) [.int x t1, .int 1 t2]) Q E s :=
  frac_c dp un gd cn cs a ccd cl outer A₀ base h₀ L m news s Q E x 1 t1 t2 B F X N T hk hd hu (by decide) (Fits.of hx1 hnx) (Fits.of (n := 64) (PySem.intBits_le_64 (by omega) (by omega)) (by decide)) fun r D t t' c h' tk' e F' N' l => hret D t t' c h' tk' F' (by
    subst e
    unfold RatO at N'
    rw [r_one_num, r_one_den] at N'
    exact N') l
theorem frac_dflt {w : World} {p : Program} {loose : List Str} {mean : ExcName → Option Value} {mg mb : Str → Option Value} {dp un : Nat} {gd : Option (List Code)} {cn : Str} {cs : Scope} {a : Addr} {ccd : Value} {cl : List (Str × Addr)} {outer : List Env} {A₀ : Around} {base h₀ : Heap} {L : Addr} {m : Str → Option Value} {news : List (Addr × Obj)} {s : Shared} {Q E : Value → Shared → Prop} {x : Int} {t1 : Tok} {nx : Nat}
    (B : Below A₀ base outer h₀) (F : Fr h₀ L s.heap m) (X : (HD.K w.params).In h₀) (N : News h₀ L s.heap news) (T : Top p loose mean mg mb h₀) (hk : cs.kind = .function)
    (hd : dp + 2 < recursionLimit) (hu : un + 16 < cLine) (hx1 : Builtin.Int.intBits x ≤ nx) (hnx : nx ≤ 6643)
    (hret : ∀ (D : Addr) (t t' : Tok) (c : Nat) (h' : Heap) (tk' : Nat), Fr h₀ L h' m → News h₀ L h' ((D, ({ cls := .type "tuple", data := .seq #[.int x t, .int 1 t'] c } : Obj)) :: news) → (∀ p ∈ news, p.1 < D) → Q (.ref D) { s with heap := h', toks := tk' }) :
      wpAny (model PySem.Challenge.rw_ui0509_14.row.prog w) (ktrTop dp un gd cn cs L a ccd cl outer) (call (.ref 72) [.int x t1]) Q E s :=
  frac_d dp un gd cn cs a ccd cl outer A₀ base h₀ L m news s Q E x t1 B F X N T hk hd hu (Fits.of hx1 hnx) hret
abbrev T2 (x y : Int) (t t' : Tok) (c : Nat) : Obj := { cls := .type "tuple", data := .seq #[.int x t, .int y t'] c }
theorem tup_g {prog : Program} {w : World} {A : Around} {E : Value → Shared → Prop} {s : Shared} {h₀ : Heap} {L D : Addr} {m : Str → Option Value} {lo : Obj} {value slice : Expr} {l : List Value} {n : Nat} {k : Int} {u : Tok} {j : Nat} {x : Value} {Q : Value → Shared → Prop}
    (F : Fr h₀ L s.heap m) (e : h₀.get? D = some lo) (hc : lo.cls = .type "tuple") (hd : lo.data = .seq l.toArray n) (hlo : -(2 ^ 63) ≤ k) (hhi : k < 2 ^ 63) (hj : seqIndex? k l.length = some j) (hx : l[j]? = some x) (h : Q x s)
    (hs : subscripted slice false (.ref D) (.int k u) = operate [.ref D, .int k u] (getItem (.ref D) (.int k u))) (hg : ∀ r, letTemporaryGo value (.ref D) r = pure ()) :
    wpAny (model prog w) A (subscriptTail value slice (.ref D) (.int k u)) Q E s := item_tupleL ⟨lo, F.keep _ _ e, hc, n, hd⟩ hlo hhi hj hx h hs hg
theorem bits_one : Builtin.Int.intBits 1 ≤ 1 := by decide
local macro_rules | `(tactic| walk_at "i1") => `(tactic| (intro r' D' t' u' c' h' tk' rE' F' N' l1))
section
theorem words3 : True := by
  k_with "call ref" => (k_here; (with_reducible show wpAny _ _ (call (Value.ref 72) [Value.int _ _, Value.int _ _]) _ _ _); k_dflt (refine' frac_c _ _ _ _ _ _ _ _ _ _ _ _ _ _ _ _ _ _ _ _ _ _ ?z4k1 ?z4k2 ?z4k3 ?z4k4 ?z4k5 ?z4k6 ?z4k7 ?z4k8 ?z4k9 ?z4k10 ?z4k11 ?_; (case z4k1 => k_asm); (case z4k2 => k_asm); (case z4k3 => k_asm); (case z4k4 => k_asm); (case z4k5 => k_asm); (case z4k6 => first | exact rfl | assumption); (case z4k7 => ktr_room); (case z4k8 => ktr_units); (case z4k9 => assumption); (case z4k10 => assumption); (case z4k11 => assumption); k_whole); walk_at "i1"; (try k_sweep))
  k_with "binaryOp Mult int int" => (with_reducible refine mul_int ?_ ?z5mo; (case z5mo => assumption))
  k_with "subscriptTail" => (k_here; (with_reducible show wpAny _ _ (subscriptTail _ _ (Value.ref _) (Value.int _ _)) _ _ _); k_dflt (refine' tup_g ?z6k1 ?z6k2 ?z6k3 ?z6k4 ?z6k5 ?z6k6 ?z6k7 ?z6k8 ?_ ?z6k9 ?z6k10; (case z6k1 => k_asm); (case z6k2 => with_reducible assumption); (case z6k3 => exact rfl); (case z6k4 => exact rfl); (case z6k5 => decide); (case z6k6 => decide); (case z6k7 => exact rfl); (case z6k8 => exact rfl); (case z6k9 => with_unfolding_all rfl); (case z6k10 => (intro _; with_unfolding_all rfl)); k_whole))
  trivial
theorem plus_c {w : World} {p : Program} {loose : List Str} {mean : ExcName → Option Value} {mg mb : Str → Option Value} {dp un : Nat} {gd : Option (List Code)} {cn : Str} {cs : Scope} {a : Addr} {ccd : Value} {cl : List (Str × Addr)} {outer : List Env} {A₀ : Around} {base h₀ : Heap} {L : Addr} {m : Str → Option Value} {news : List (Addr × Obj)} {s : Shared} {Q E : Value → Shared → Prop} {D1 D2 : Addr} {x1 y1 x2 y2 : Int} {t1 t1' t2 t2' : Tok} {c1 c2 : Nat}
    (B : Below A₀ base outer h₀) (F : Fr h₀ L s.heap m) (X : (HD.K w.params).In h₀) (N : News h₀ L s.heap news) (T : Top p loose mean mg mb h₀) (hk : cs.kind = .function) (e1 : s.heap.get? D1 = some (T2 x1 y1 t1 t1' c1)) (e2 : s.heap.get? D2 = some (T2 x2 y2 t2 t2' c2))
    (hd : dp + 3 < recursionLimit) (hu : un + 24 < cLine) (nz : y1 * y2 ≠ 0) (m0 : IntMulOk x1 y2) (m1 : IntMulOk x2 y1) (m2 : IntMulOk y1 y2) (f1 : Fits (x1 * y2 + x2 * y1)) (f2 : Fits (y1 * y2))
    (hret : ∀ (r : Rat) (D : Addr) (t t' : Tok) (c : Nat) (h' : Heap) (tk' : Nat), r = Rat.divInt (x1 * y2 + x2 * y1) (y1 * y2) → Fr h₀ L h' m → News h₀ L h' ((D, RatO r t t' c) :: news) → (∀ p ∈ news, p.1 ≠ D) → Q (.ref D) { s with heap := h', toks := tk' }) :
    wpAny (model PySem.Challenge.rw_ui0509_14.row.prog w) (ktrTop dp un gd cn cs L a ccd cl outer) (call (.ref 87) [.ref D1, .ref D2]) Q E s := by
  w_top off
  revert X; k_fill; intro X
  refine wpAny_call ?_
  k_dflt (refine' code_need [] ?k1 ?k2 ?k3 ?k4 ?k5 ?kA ?kF ?kK ?k6 ?k7 ?k8 ?k9 ?kB ?kN ?_ ?c2 ?c3 ?c4 ?c5; (case kA => exact rfl); (case kF => exact rfl); (case kK => assumption); (case k1 => k_asm); (case k2 => k_asm); (case k3 => k_asm); (case k4 => k_asm); (case k5 => k_asm); (case k6 => k_is); (case k7 => k_is); (case k8 => ktr_room); (case k9 => first | exact BindsTo.of_eq rfl | exact binds_K (by k_in) rfl (by k_is) rfl rfl rfl); (case c5 => decide); (case kB => exact locs rfl); (case kN => exact fun _ h => nomatch h); (case c2 => exact rfl); (case c3 => exact rfl); (case c4 => exact rfl); k_whole; intro g' L' h' tk0 FG' F' N' B' X' T' hG'; (try dsimp only); (try k_fold))
  replace e1 := hG' _ _ e1 (by simp)
  replace e2 := hG' _ _ e2 (by simp)
  k_steps
  all_goals first | (refine leaveN_ (by k_asm) (by k_asm) ?_; intro kF kN kR kD; (try dsimp only); exact hret _ _ _ _ _ _ _ (by assumption) kF (news_cons kN (by k_mem) (news_all kR)) (ne_all kD (List.mem_cons_self ..)))
theorem times_c {w : World} {p : Program} {loose : List Str} {mean : ExcName → Option Value} {mg mb : Str → Option Value} {dp un : Nat} {gd : Option (List Code)} {cn : Str} {cs : Scope} {a : Addr} {ccd : Value} {cl : List (Str × Addr)} {outer : List Env} {A₀ : Around} {base h₀ : Heap} {L : Addr} {m : Str → Option Value} {news : List (Addr × Obj)} {s : Shared} {Q E : Value → Shared → Prop} {D1 D2 : Addr} {x1 y1 x2 y2 : Int} {t1 t1' t2 t2' : Tok} {c1 c2 : Nat}
    (B : Below A₀ base outer h₀) (F : Fr h₀ L s.heap m) (X : (HD.K w.params).In h₀) (N : News h₀ L s.heap news) (T : Top p loose mean mg mb h₀) (hk : cs.kind = .function) (e1 : s.heap.get? D1 = some (T2 x1 y1 t1 t1' c1)) (e2 : s.heap.get? D2 = some (T2 x2 y2 t2 t2' c2))
    (hd : dp + 3 < recursionLimit) (hu : un + 24 < cLine) (nz : y1 * y2 ≠ 0) (m0 : IntMulOk x1 x2) (m1 : IntMulOk y1 y2) (f1 : Fits (x1 * x2)) (f2 : Fits (y1 * y2))
    (hret : ∀ (r : Rat) (D : Addr) (t t' : Tok) (c : Nat) (h' : Heap) (tk' : Nat), r = Rat.divInt (x1 * x2) (y1 * y2) → Fr h₀ L h' m → News h₀ L h' ((D, RatO r t t' c) :: news) → (∀ p ∈ news, p.1 ≠ D) → Q (.ref D) { s with heap := h', toks := tk' }) :
    wpAny (model PySem.Challenge.rw_ui0509_14.row.prog w) (ktrTop dp un gd cn cs L a ccd cl outer) (call (.ref 94) [.ref D1, .ref D2]) Q E s := by
  w_top off
  revert X; k_fill; intro X
  refine wpAny_call ?_
  k_dflt (refine' code_need [] ?k1 ?k2 ?k3 ?k4 ?k5 ?kA ?kF ?kK ?k6 ?k7 ?k8 ?k9 ?kB ?kN ?_ ?c2 ?c3 ?c4 ?c5; (case kA => exact rfl); (case kF => exact rfl); (case kK => assumption); (case k1 => k_asm); (case k2 => k_asm); (case k3 => k_asm); (case k4 => k_asm); (case k5 => k_asm); (case k6 => k_is); (case k7 => k_is); (case k8 => ktr_room); (case k9 => first | exact BindsTo.of_eq rfl | exact binds_K (by k_in) rfl (by k_is) rfl rfl rfl); (case c5 => decide); (case kB => exact locs rfl); (case kN => exact fun _ h => nomatch h); (case c2 => exact rfl); (case c3 => exact rfl); (case c4 => exact rfl); k_whole; intro g' L' h' tk0 FG' F' N' B' X' T' hG'; (try dsimp only); (try k_fold))
  replace e1 := hG' _ _ e1 (by simp)
  replace e2 := hG' _ _ e2 (by simp)
  k_steps
  all_goals first | (refine leaveN_ (by k_asm) (by k_asm) ?_; intro kF kN kR kD; (try dsimp only); exact hret _ _ _ _ _ _ _ (by assumption) kF (news_cons kN (by k_mem) (news_all kR)) (ne_all kD (List.mem_cons_self ..)))
theorem over_c {w : World} {p : Program} {loose : List Str} {mean : ExcName → Option Value} {mg mb : Str → Option Value} {dp un : Nat} {gd : Option (List Code)} {cn : Str} {cs : Scope} {a : Addr} {ccd : Value} {cl : List (Str × Addr)} {outer : List Env} {A₀ : Around} {base h₀ : Heap} {L : Addr} {m : Str → Option Value} {news : List (Addr × Obj)} {s : Shared} {Q E : Value → Shared → Prop} {D1 D2 : Addr} {x1 y1 x2 y2 : Int} {t1 t1' t2 t2' : Tok} {c1 c2 : Nat}
    (B : Below A₀ base outer h₀) (F : Fr h₀ L s.heap m) (X : (HD.K w.params).In h₀) (N : News h₀ L s.heap news) (T : Top p loose mean mg mb h₀) (hk : cs.kind = .function) (e1 : s.heap.get? D1 = some (T2 x1 y1 t1 t1' c1)) (e2 : s.heap.get? D2 = some (T2 x2 y2 t2 t2' c2))
    (hd : dp + 3 < recursionLimit) (hu : un + 24 < cLine) (nz : y1 * x2 ≠ 0) (hz : x2 ≠ 0) (m0 : IntMulOk x1 y2) (m1 : IntMulOk y1 x2) (f1 : Fits (x1 * y2)) (f2 : Fits (y1 * x2))
    (hret : ∀ (r : Rat) (D : Addr) (t t' : Tok) (c : Nat) (h' : Heap) (tk' : Nat), r = Rat.divInt (x1 * y2) (y1 * x2) → Fr h₀ L h' m → News h₀ L h' ((D, RatO r t t' c) :: news) → (∀ p ∈ news, p.1 ≠ D) → Q (.ref D) { s with heap := h', toks := tk' }) :
    wpAny (model PySem.Challenge.rw_ui0509_14.row.prog w) (ktrTop dp un gd cn cs L a ccd cl outer) (call (.ref 101) [.ref D1, .ref D2]) Q E s := by
  w_top off
  revert X; k_fill; intro X
  refine wpAny_call ?_
  k_dflt (refine' code_need [] ?k1 ?k2 ?k3 ?k4 ?k5 ?kA ?kF ?kK ?k6 ?k7 ?k8 ?k9 ?kB ?kN ?_ ?c2 ?c3 ?c4 ?c5; (case kA => exact rfl); (case kF => exact rfl); (case kK => assumption); (case k1 => k_asm); (case k2 => k_asm); (case k3 => k_asm); (case k4 => k_asm); (case k5 => k_asm); (case k6 => k_is); (case k7 => k_is); (case k8 => ktr_room); (case k9 => first | exact BindsTo.of_eq rfl | exact binds_K (by k_in) rfl (by k_is) rfl rfl rfl); (case c5 => decide); (case kB => exact locs rfl); (case kN => exact fun _ h => nomatch h); (case c2 => exact rfl); (case c3 => exact rfl); (case c4 => exact rfl); k_whole; intro g' L' h' tk0 FG' F' N' B' X' T' hG'; (try dsimp only); (try k_fold))
  replace e1 := hG' _ _ e1 (by simp)
  replace e2 := hG' _ _ e2 (by simp)
  k_steps
  all_goals first | exact absurd (by assumption) hz | (refine leaveN_ (by k_asm) (by k_asm) ?_; intro kF kN kR kD; (try dsimp only); exact hret _ _ _ _ _ _ _ (by assumption) kF (news_cons kN (by k_mem) (news_all kR)) (ne_all kD (List.mem_cons_self ..)))
theorem less_c {w : World} {p : Program} {loose : List Str} {mean : ExcName → Option Value} {mg mb : Str → Option Value} {dp un : Nat} {gd : Option (List Code)} {cn : Str} {cs : Scope} {a : Addr} {ccd : Value} {cl : List (Str × Addr)} {outer : List Env} {A₀ : Around} {base h₀ : Heap} {L : Addr} {m : Str → Option Value} {news : List (Addr × Obj)} {s : Shared} {Q E : Value → Shared → Prop} {D1 D2 : Addr} {x1 y1 x2 y2 : Int} {t1 t1' t2 t2' : Tok} {c1 c2 : Nat}
    (B : Below A₀ base outer h₀) (F : Fr h₀ L s.heap m) (X : (HD.K w.params).In h₀) (N : News h₀ L s.heap news) (T : Top p loose mean mg mb h₀) (hk : cs.kind = .function) (e1 : s.heap.get? D1 = some (T2 x1 y1 t1 t1' c1)) (e2 : s.heap.get? D2 = some (T2 x2 y2 t2 t2' c2))
    (hd : dp + 3 < recursionLimit) (hu : un + 24 < cLine) (m0 : IntMulOk x1 y2) (m1 : IntMulOk x2 y1)
    (hret : ∀ (h' : Heap) (tk' : Nat), Fr h₀ L h' m → News h₀ L h' news → Q (.bool (decide (x1 * y2 < x2 * y1))) { s with heap := h', toks := tk' }) :
    wpAny (model PySem.Challenge.rw_ui0509_14.row.prog w) (ktrTop dp un gd cn cs L a ccd cl outer) (call (.ref 108) [.ref D1, .ref D2]) Q E s := by
  w_top off
  revert X; k_fill; intro X
  refine wpAny_call ?_
  k_dflt (refine' code_need [] ?k1 ?k2 ?k3 ?k4 ?k5 ?kA ?kF ?kK ?k6 ?k7 ?k8 ?k9 ?kB ?kN ?_ ?c2 ?c3 ?c4 ?c5; (case kA => exact rfl); (case kF => exact rfl); (case kK => assumption); (case k1 => k_asm); (case k2 => k_asm); (case k3 => k_asm); (case k4 => k_asm); (case k5 => k_asm); (case k6 => k_is); (case k7 => k_is); (case k8 => ktr_room); (case k9 => first | exact BindsTo.of_eq rfl | exact binds_K (by k_in) rfl (by k_is) rfl rfl rfl); (case c5 => decide); (case kB => exact locs rfl); (case kN => exact fun _ h => nomatch h); (case c2 => exact rfl); (case c3 => exact rfl); (case c4 => exact rfl); k_whole; intro g' L' h' tk0 FG' F' N' B' X' T' hG'; (try dsimp only); (try k_fold))
  replace e1 := hG' _ _ e1 (by simp)
  replace e2 := hG' _ _ e2 (by simp)
  k_steps
  all_goals (refine leaveN_ (by k_asm) (by k_asm) ?_; intro kF kN kR kD; (try dsimp only); exact hret _ _ kF (news_all kR))
end
theorem plus_u {w : World} {p : Program} {loose : List Str} {mean : ExcName → Option Value} {mg mb : Str → Option Value} {dp un : Nat} {gd : Option (List Code)} {cn : Str} {cs : Scope} {a : Addr} {ccd : Value} {cl : List (Str × Addr)} {outer : List Env} {A₀ : Around} {base h₀ : Heap} {L : Addr} {m : Str → Option Value} {news : List (Addr × Obj)} {s : Shared} {Q E : Value → Shared → Prop} {D1 D2 : Addr} {x1 y1 x2 y2 : Int} {t1 t1' t2 t2' : Tok} {c1 c2 : Nat} {n1 k1 n2 k2 : Nat}
    (B : Below A₀ base outer h₀) (F : Fr h₀ L s.heap m) (X : (HD.K w.params).In h₀) (N : News h₀ L s.heap news) (T : Top p loose mean mg mb h₀) (hk : cs.kind = .function) (e1 : s.heap.get? D1 = some (T2 x1 y1 t1 t1' c1)) (e2 : s.heap.get? D2 = some (T2 x2 y2 t2 t2' c2))
    (hd : dp + 3 < recursionLimit) (hu : un + 24 < cLine) (hy : y1 ≠ 0) (hz : y2 ≠ 0) (b1 : Builtin.Int.intBits x1 ≤ n1) (b2 : Builtin.Int.intBits y1 ≤ k1) (b3 : Builtin.Int.intBits x2 ≤ n2) (b4 : Builtin.Int.intBits y2 ≤ k2) (hbu : max (n1 + k2) (n2 + k1) + 1 ≤ 6643) (hbl : k1 + k2 ≤ 6643)
    (hret : ∀ (r : Rat) (D : Addr) (t t' : Tok) (c : Nat) (h' : Heap) (tk' : Nat), r = Rat.divInt (x1 * y2 + x2 * y1) (y1 * y2) → Builtin.Int.intBits r.num ≤ max (n1 + k2) (n2 + k1) + 1 → Builtin.Int.intBits (r.den : Int) ≤ k1 + k2 → Fr h₀ L h' m → News h₀ L h' ((D, RatO r t t' c) :: news) → (∀ p ∈ news, p.1 ≠ D) → Q (.ref D) { s with heap := h', toks := tk' }) :
    wpAny (model PySem.Challenge.rw_ui0509_14.row.prog w) (ktrTop dp un gd cn cs L a ccd cl outer) (call (.ref 87) [.ref D1, .ref D2]) Q E s :=
  plus_c B F X N T hk e1 e2 hd hu (nzmul hy hz) (mulOk_of_bits b1 b4 (by omega)) (mulOk_of_bits b3 b2 (by omega)) (mulOk_of_bits b2 b4 (by omega)) (Fits.of (bits_add (bits_mul b1 b4) (bits_mul b3 b2)) hbu) (Fits.of (bits_mul b2 b4) hbl) fun r D t t' c h' tk' e F' N' l => hret r D t t' c h' tk' e (e ▸ bits_num (bits_add (bits_mul b1 b4) (bits_mul b3 b2))) (e ▸ bits_den (nzmul hy hz) (bits_mul b2 b4)) F' N' l
theorem times_u {w : World} {p : Program} {loose : List Str} {mean : ExcName → Option Value} {mg mb : Str → Option Value} {dp un : Nat} {gd : Option (List Code)} {cn : Str} {cs : Scope} {a : Addr} {ccd : Value} {cl : List (Str × Addr)} {outer : List Env} {A₀ : Around} {base h₀ : Heap} {L : Addr} {m : Str → Option Value} {news : List (Addr × Obj)} {s : Shared} {Q E : Value → Shared → Prop} {D1 D2 : Addr} {x1 y1 x2 y2 : Int} {t1 t1' t2 t2' : Tok} {c1 c2 : Nat} {n1 k1 n2 k2 : Nat}
    (B : Below A₀ base outer h₀) (F : Fr h₀ L s.heap m) (X : (HD.K w.params).In h₀) (N : News h₀ L s.heap news) (T : Top p loose mean mg mb h₀) (hk : cs.kind = .function) (e1 : s.heap.get? D1 = some (T2 x1 y1 t1 t1' c1)) (e2 : s.heap.get? D2 = some (T2 x2 y2 t2 t2' c2))
    (hd : dp + 3 < recursionLimit) (hu : un + 24 < cLine) (hy : y1 ≠ 0) (hz : y2 ≠ 0) (b1 : Builtin.Int.intBits x1 ≤ n1) (b2 : Builtin.Int.intBits y1 ≤ k1) (b3 : Builtin.Int.intBits x2 ≤ n2) (b4 : Builtin.Int.intBits y2 ≤ k2) (hbu : n1 + n2 ≤ 6643) (hbl : k1 + k2 ≤ 6643)
    (hret : ∀ (r : Rat) (D : Addr) (t t' : Tok) (c : Nat) (h' : Heap) (tk' : Nat), r = Rat.divInt (x1 * x2) (y1 * y2) → Builtin.Int.intBits r.num ≤ n1 + n2 → Builtin.Int.intBits (r.den : Int) ≤ k1 + k2 → Fr h₀ L h' m → News h₀ L h' ((D, RatO r t t' c) :: news) → (∀ p ∈ news, p.1 ≠ D) → Q (.ref D) { s with heap := h', toks := tk' }) :
    wpAny (model PySem.Challenge.rw_ui0509_14.row.prog w) (ktrTop dp un gd cn cs L a ccd cl outer) (call (.ref 94) [.ref D1, .ref D2]) Q E s :=
  times_c B F X N T hk e1 e2 hd hu (nzmul hy hz) (mulOk_of_bits b1 b3 (by omega)) (mulOk_of_bits b2 b4 (by omega)) (Fits.of (bits_mul b1 b3) hbu) (Fits.of (bits_mul b2 b4) hbl) fun r D t t' c h' tk' e F' N' l => hret r D t t' c h' tk' e (e ▸ bits_num (bits_mul b1 b3)) (e ▸ bits_den (nzmul hy hz) (bits_mul b2 b4)) F' N' l
theorem over_u {w : World} {p : Program} {loose : List Str} {mean : ExcName → Option Value} {mg mb : Str → Option Value} {dp un : Nat} {gd : Option (List Code)} {cn : Str} {cs : Scope} {a : Addr} {ccd : Value} {cl : List (Str × Addr)} {outer : List Env} {A₀ : Around} {base h₀ : Heap} {L : Addr} {m : Str → Option Value} {news : List (Addr × Obj)} {s : Shared} {Q E : Value → Shared → Prop} {D1 D2 : Addr} {x1 y1 x2 y2 : Int} {t1 t1' t2 t2' : Tok} {c1 c2 : Nat} {n1 k1 n2 k2 : Nat}
    (B : Below A₀ base outer h₀) (F : Fr h₀ L s.heap m) (X : (HD.K w.params).In h₀) (N : News h₀ L s.heap news) (T : Top p loose mean mg mb h₀) (hk : cs.kind = .function) (e1 : s.heap.get? D1 = some (T2 x1 y1 t1 t1' c1)) (e2 : s.heap.get? D2 = some (T2 x2 y2 t2 t2' c2))
    (hd : dp + 3 < recursionLimit) (hu : un + 24 < cLine) (hy : y1 ≠ 0) (hz : x2 ≠ 0) (b1 : Builtin.Int.intBits x1 ≤ n1) (b2 : Builtin.Int.intBits y1 ≤ k1) (b3 : Builtin.Int.intBits x2 ≤ n2) (b4 : Builtin.Int.intBits y2 ≤ k2) (hbu : n1 + k2 ≤ 6643) (hbl : k1 + n2 ≤ 6643)
    (hret : ∀ (r : Rat) (D : Addr) (t t' : Tok) (c : Nat) (h' : Heap) (tk' : Nat), r = Rat.divInt (x1 * y2) (y1 * x2) → Builtin.Int.intBits r.num ≤ n1 + k2 → Builtin.Int.intBits (r.den : Int) ≤ k1 + n2 → Fr h₀ L h' m → News h₀ L h' ((D, RatO r t t' c) :: news) → (∀ p ∈ news, p.1 ≠ D) → Q (.ref D) { s with heap := h', toks := tk' }) :
    wpAny (model PySem.Challenge.rw_ui0509_14.row.prog w) (ktrTop dp un gd cn cs L a ccd cl outer) (call (.ref 101) [.ref D1, .ref D2]) Q E s :=
  over_c B F X N T hk e1 e2 hd hu (nzmul hy hz) hz (mulOk_of_bits b1 b4 (by omega)) (mulOk_of_bits b2 b3 (by omega)) (Fits.of (bits_mul b1 b4) hbu) (Fits.of (bits_mul b2 b3) hbl) fun r D t t' c h' tk' e F' N' l => hret r D t t' c h' tk' e (e ▸ bits_num (bits_mul b1 b4)) (e ▸ bits_den (nzmul hy hz) (bits_mul b2 b3)) F' N' l
theorem less_u {w : World} {p : Program} {loose : List Str} {mean : ExcName → Option Value} {mg mb : Str → Option Value} {dp un : Nat} {gd : Option (List Code)} {cn : Str} {cs : Scope} {a : Addr} {ccd : Value} {cl : List (Str × Addr)} {outer : List Env} {A₀ : Around} {base h₀ : Heap} {L : Addr} {m : Str → Option Value} {news : List (Addr × Obj)} {s : Shared} {Q E : Value → Shared → Prop} {D1 D2 : Addr} {x1 y1 x2 y2 : Int} {t1 t1' t2 t2' : Tok} {c1 c2 : Nat} {n1 k1 n2 k2 : Nat}
    (B : Below A₀ base outer h₀) (F : Fr h₀ L s.heap m) (X : (HD.K w.params).In h₀) (N : News h₀ L s.heap news) (T : Top p loose mean mg mb h₀) (hk : cs.kind = .function) (e1 : s.heap.get? D1 = some (T2 x1 y1 t1 t1' c1)) (e2 : s.heap.get? D2 = some (T2 x2 y2 t2 t2' c2))
    (hd : dp + 3 < recursionLimit) (hu : un + 24 < cLine) (b1 : Builtin.Int.intBits x1 ≤ n1) (b2 : Builtin.Int.intBits y1 ≤ k1) (b3 : Builtin.Int.intBits x2 ≤ n2) (b4 : Builtin.Int.intBits y2 ≤ k2) (hbu : n1 + k2 ≤ 100000) (hbl : n2 + k1 ≤ 100000)
    (hret : ∀ (h' : Heap) (tk' : Nat), Fr h₀ L h' m → News h₀ L h' news → Q (.bool (decide (x1 * y2 < x2 * y1))) { s with heap := h', toks := tk' }) :
    wpAny (model PySem.Challenge.rw_ui0509_14.row.prog w) (ktrTop dp un gd cn cs L a ccd cl outer) (call (.ref 108) [.ref D1, .ref D2]) Q E s :=
  less_c B F X N T hk e1 e2 hd hu (mulOk_of_bits b1 b4 (by omega)) (mulOk_of_bits b3 b2 (by omega)) hret
theorem frac_sf {w : World} {p : Program} {loose : List Str} {mean : ExcName → Option Value} {mg mb : Str → Option Value} {dp un : Nat} {gd : Option (List Code)} {cn : Str} {cs : Scope} {a : Addr} {ccd : Value} {cl : List (Str × Addr)} {outer : List Env} {A₀ : Around} {base h₀ : Heap} {L : Addr} {m : Str → Option Value} {news : List (Addr × Obj)} {s : Shared} {Q E : Value → Shared → Prop} {r : Rat} {t1 t2 : Tok}
    (B : Below A₀ base outer h₀) (F : Fr h₀ L s.heap m) (X : (HD.K w.params).In h₀) (N : News h₀ L s.heap news) (T : Top p loose mean mg mb h₀) (hk : cs.kind = .function)
    (hd : dp + 2 < recursionLimit) (hu : un + 16 < cLine) (hx1 : Fits r.num) (hy1 : Fits (r.den : Int))
    (hret : ∀ (D : Addr) (t t' : Tok) (c : Nat) (h' : Heap) (tk' : Nat), Fr h₀ L h' m → News h₀ L h' ((D, RatO r t t' c) :: news) → (∀ p ∈ news, p.1 < D) → Q (.ref D) { s with heap := h', toks := tk' }) :
    wpAny (model PySem.Challenge.rw_ui0509_14.row.prog w) (ktrTop dp un gd cn cs L a ccd cl outer) (call (.ref 72) [.int r.num t1, .int (r.den : Int) t2]) Q E s :=
  frac_c dp un gd cn cs a ccd cl outer A₀ base h₀ L m news s Q E r.num r.den t1 t2 B F X N T hk hd hu (nzden r) hx1 hy1 fun r' D t t' c h' tk' e F' N' l => hret D t t' c h' tk' F' (by
    rw [Rat.num_divInt_den] at e
    subst e
    exact N') l
theorem ne_T2h {prog : Program} {w : World} {A : Around} {E : Value → Shared → Prop} {s : Shared} {D1 D2 : Addr} {x1 y1 x2 y2 : Int} {t1 t1' t2 t2' : Tok} {c1 c2 : Nat} {Q : Value → Shared → Prop}
    (e1 : s.heap.get? D1 = some (T2 x1 y1 t1 t1' c1)) (e2 : s.heap.get? D2 = some (T2 x2 y2 t2 t2' c2)) (hu : A.units + 64 < cLine) (h : Q (.bool (!(x1 == x2 && y1 == y2))) s) : wpAny (model prog w) A (compareOp .NotEq (.ref D1) (.ref D2)) Q E s := by
  refine ne_dataH (reads_tuple_at e1 rfl rfl (ReadsAll.cons (Reads.int _ _) (ReadsAll.cons (Reads.int _ _) ReadsAll.nil))) (reads_tuple_at e2 rfl rfl (ReadsAll.cons (Reads.int _ _) (ReadsAll.cons (Reads.int _ _) ReadsAll.nil))) (by ke_shaped) (by ke_shaped) hu ?_
  ke_norm
  exact h
local macro_rules | `(tactic| walk_at "i2") => `(tactic| (intro D' t' u' c' h' tk' F' N' l1))
local macro_rules | `(tactic| walk_at "i3") => `(tactic| (intro h' tk' F' N'))
section
theorem words4 : True := by
  k_with_none
  k_with "ne9" => (first | with_reducible assumption | exact Ne.symm (by with_reducible assumption) | omega)
  k_with "k_in" => (refine' in_of ?z1fF ?z1fX; (case z1fF => k_asm); (case z1fX => k_asm))
  k_with "call ref" => (k_here; (with_reducible show wpAny _ _ (call (Value.ref 64) [Value.int _ _, Value.int _ _]) _ _ _); k_dflt (refine' div_use _ _ _ _ _ _ _ _ _ _ _ _ _ _ _ _ _ _ _ _ _ _ ?z2k1 ?z2k2 ?z2k3 ?z2k4 ?z2k5 ?z2k6 ?z2k7 ?z2k8 ?z2k9 ?z2k10 ?_; (case z2k1 => k_asm); (case z2k2 => k_asm); (case z2k3 => k_asm); (case z2k4 => k_asm); (case z2k5 => k_asm); (case z2k6 => first | exact rfl | assumption); (case z2k7 => ktr_room); (case z2k8 => ktr_units); (case z2k9 => omega); (case z2k10 => first | assumption | exact Fits.neg (by assumption) | exact Fits.of (n := 64) (PySem.intBits_le_64 (by omega) (by omega)) (by decide)); k_whole); walk_at "i0"; (try k_sweep))
  k_with "binaryOp FloorDiv int int" => (with_reducible refine floordiv_int ?z3ne ?_ (Or.inl (PyProof.noPylong_of_log2 ?z3lg)); (case z3lg => with_reducible assumption); (case z3ne => omega))
  k_with "subscriptTail" => (k_here; (with_reducible show wpAny _ _ (subscriptTail _ _ (Value.ref _) (Value.int _ _)) _ _ _); k_dflt (refine' tup_g ?z7k1 ?z7k2 ?z7k3 ?z7k4 ?z7k5 ?z7k6 ?z7k7 ?z7k8 ?_ ?z7k9 ?z7k10; (case z7k1 => k_asm); (case z7k2 => with_reducible assumption); (case z7k3 => exact rfl); (case z7k4 => exact rfl); (case z7k5 => decide); (case z7k6 => decide); (case z7k7 => exact rfl); (case z7k8 => exact rfl); (case z7k9 => with_unfolding_all rfl); (case z7k10 => (intro _; with_unfolding_all rfl)); k_whole))
  k_with "call type:type" => (k_here; (with_reducible show wpAny _ _ (call (Value.type "type") [Value.ref _]) _ _ _); k_dflt (refine' kto_cont (T := "tuple") ?z8c ?z8n ?_; (case z8c => exact ⟨_, Fr.keep (by k_asm) _ _ (by assumption), rfl⟩); (case z8n => decide +kernel); k_whole))
  k_with "call builtin:len" => (k_here; (with_reducible show wpAny _ _ (call (Value.builtin "len") [Value.ref _]) _ _ _); k_dflt (refine' kun_lenT (k := 2) ?z9k1 ?z9k2 ?z9k3 ?_; (case z9k1 => exact ⟨_, Fr.keep (by k_asm) _ _ (by assumption), rfl, _, rfl⟩); (case z9k2 => exact rfl); (case z9k3 => decide); k_whole))
  k_with "binaryOp Mult int int" => (with_reducible refine mul_int ?_ ?z10mo; (case z10mo => assumption))
  k_with "call ref" => (k_here; (with_reducible show wpAny _ _ (call (Value.ref 72) [Value.int _ _, Value.int _ _]) _ _ _); k_dflt (refine' frac_sf ?z11k1 ?z11k2 ?z11k3 ?z11k4 ?z11k5 ?z11k6 ?z11k7 ?z11k8 ?z11k10 ?z11k11 ?_; (case z11k1 => k_asm); (case z11k2 => k_asm); (case z11k3 => k_asm); (case z11k4 => k_asm); (case z11k5 => k_asm); (case z11k6 => first | exact rfl | assumption); (case z11k7 => ktr_room); (case z11k8 => ktr_units); (case z11k10 => assumption); (case z11k11 => assumption); k_whole); walk_at "i2"; (try k_sweep))
  k_with "call ref" => (k_here; (with_reducible show wpAny _ _ (call (Value.ref 108) [Value.ref _, Value.ref _]) _ _ _); k_dflt (refine' less_c ?z12k1 ?z12k2 ?z12k3 ?z12k4 ?z12k5 ?z12k6 ?z12m1 ?z12m2 ?z12k7 ?z12k8 ?z12k10 ?z12k11 ?_; (case z12k1 => k_asm); (case z12k2 => k_asm); (case z12k3 => k_asm); (case z12k4 => k_asm); (case z12k5 => k_asm); (case z12k6 => first | exact rfl | assumption); (case z12m1 => exact Fr.keep (by k_asm) _ _ (by with_reducible assumption)); (case z12m2 => exact Fr.keep (by k_asm) _ _ (by with_reducible assumption)); (case z12k7 => ktr_room); (case z12k8 => ktr_units); (case z12k10 => assumption); (case z12k11 => assumption); k_whole); walk_at "i3"; (try k_sweep))
  k_with "compareOp NotEq ref ref" => (k_here; (with_reducible show wpAny _ _ (compareOp CmpOp.NotEq (Value.ref _) (Value.ref _)) _ _ _); k_dflt (refine' ne_T2h ?z13k2 ?z13k3 ?z13k4 ?_; (case z13k2 => first | exact Fr.keep (by k_asm) _ _ (by with_reducible assumption) | exact News.get (by k_asm) (by k_mem)); (case z13k3 => first | exact Fr.keep (by k_asm) _ _ (by with_reducible assumption) | exact News.get (by k_asm) (by k_mem)); (case z13k4 => first | exact Nat.le_of_ble_eq_true rfl | ktr_units)); (try simp only [beq_self_eq_true, Bool.and_true, Bool.true_and, Bool.not_true, Bool.not_false]))
  trivial
theorem need_c {w : World} {p : Program} {loose : List Str} {mean : ExcName → Option Value} {mg mb : Str → Option Value} {dp un : Nat} {gd : Option (List Code)} {cn : Str} {cs : Scope} {a : Addr} {ccd : Value} {cl : List (Str × Addr)} {outer : List Env} {A₀ : Around} {base h₀ : Heap} {L : Addr} {m : Str → Option Value} {news : List (Addr × Obj)} {s : Shared} {Q E : Value → Shared → Prop} {D1 : Addr} {r : Rat} {t1 t1' : Tok} {c1 : Nat}
    (B : Below A₀ base outer h₀) (F : Fr h₀ L s.heap m) (X : (HD.K w.params).In h₀) (N : News h₀ L s.heap news) (T : Top p loose mean mg mb h₀) (hk : cs.kind = .function) (e1 : s.heap.get? D1 = some (RatO r t1 t1' c1))
    (hd : dp + 4 < recursionLimit) (hu : un + 100 < cLine) (hx1 : Fits r.num) (hy1 : Fits (r.den : Int))
    (hret : ∀ (h' : Heap) (tk' : Nat), Fr h₀ L h' m → News h₀ L h' news → Q (.ref D1) { s with heap := h', toks := tk' }) :
    wpAny (model PySem.Challenge.rw_ui0509_14.row.prog w) (ktrTop dp un gd cn cs L a ccd cl outer) (call (.ref 80) [.ref D1]) Q E s := by
  w_top off
  revert X; k_fill; intro X
  refine wpAny_call ?_
  k_dflt (refine' code_need [] ?k1 ?k2 ?k3 ?k4 ?k5 ?kA ?kF ?kK ?k6 ?k7 ?k8 ?k9 ?kB ?kN ?_ ?c2 ?c3 ?c4 ?c5; (case kA => exact rfl); (case kF => exact rfl); (case kK => assumption); (case k1 => k_asm); (case k2 => k_asm); (case k3 => k_asm); (case k4 => k_asm); (case k5 => k_asm); (case k6 => k_is); (case k7 => k_is); (case k8 => ktr_room); (case k9 => first | exact BindsTo.of_eq rfl | exact binds_K (by k_in) rfl (by k_is) rfl rfl rfl); (case c5 => decide); (case kB => exact locs rfl); (case kN => exact fun _ h => nomatch h); (case c2 => exact rfl); (case c3 => exact rfl); (case c4 => exact rfl); k_whole; intro g' L' h' tk0 FG' F' N' B' X' T' hG'; (try dsimp only); (try k_fold))
  replace e1 := hG' _ _ e1 (by simp)
  k_steps
  all_goals (refine leaveN_ (by k_asm) (by k_asm) ?_; intro kF kN kR kD; (try dsimp only); exact hret _ _ kF (news_all kR))
theorem need_n {w : World} {p : Program} {loose : List Str} {mean : ExcName → Option Value} {mg mb : Str → Option Value} {dp un : Nat} {gd : Option (List Code)} {cn : Str} {cs : Scope} {a : Addr} {ccd : Value} {cl : List (Str × Addr)} {outer : List Env} {A₀ : Around} {base h₀ : Heap} {L : Addr} {m : Str → Option Value} {news : List (Addr × Obj)} {s : Shared} {Q E : Value → Shared → Prop} {D1 : Addr} {r : Rat} {t1 t1' : Tok} {c1 : Nat} {D2 : Addr} {x2 y2 : Int} {t2 t2' : Tok} {c2 : Nat}
    (B : Below A₀ base outer h₀) (F : Fr h₀ L s.heap m) (X : (HD.K w.params).In h₀) (N : News h₀ L s.heap news) (T : Top p loose mean mg mb h₀) (hk : cs.kind = .function) (e1 : s.heap.get? D1 = some (RatO r t1 t1' c1)) (e2 : s.heap.get? D2 = some (T2 x2 y2 t2 t2' c2)) (m0 : IntMulOk r.num y2) (m1 : IntMulOk x2 (r.den : Int)) (hl : ¬ (r.num * y2 < x2 * (r.den : Int)))
    (hd : dp + 4 < recursionLimit) (hu : un + 100 < cLine) (hx1 : Fits r.num) (hy1 : Fits (r.den : Int))
    (hret : ∀ (h' : Heap) (tk' : Nat), Fr h₀ L h' m → News h₀ L h' news → Q (.ref D1) { s with heap := h', toks := tk' }) :
    wpAny (model PySem.Challenge.rw_ui0509_14.row.prog w) (ktrTop dp un gd cn cs L a ccd cl outer) (call (.ref 80) [.ref D1, .ref D2]) Q E s := by
  w_top off
  revert X; k_fill; intro X
  refine wpAny_call ?_
  k_dflt (refine' code_need [] ?k1 ?k2 ?k3 ?k4 ?k5 ?kA ?kF ?kK ?k6 ?k7 ?k8 ?k9 ?kB ?kN ?_ ?c2 ?c3 ?c4 ?c5; (case kA => exact rfl); (case kF => exact rfl); (case kK => assumption); (case k1 => k_asm); (case k2 => k_asm); (case k3 => k_asm); (case k4 => k_asm); (case k5 => k_asm); (case k6 => k_is); (case k7 => k_is); (case k8 => ktr_room); (case k9 => first | exact BindsTo.of_eq rfl | exact binds_K (by k_in) rfl (by k_is) rfl rfl rfl); (case c5 => decide); (case kB => exact locs rfl); (case kN => exact fun _ h => nomatch h); (case c2 => exact rfl); (case c3 => exact rfl); (case c4 => exact rfl); k_whole; intro g' L' h' tk0 FG' F' N' B' X' T' hG'; (try dsimp only); (try k_fold))
  replace e1 := hG' _ _ e1 (by simp)
  replace e2 := hG' _ _ e2 (by simp)
  k_steps
  all_goals (refine leaveN_ (by k_asm) (by k_asm) ?_; intro kF kN kR kD; (try dsimp only); exact hret _ _ kF (news_all kR))
end
theorem need_cu {w : World} {p : Program} {loose : List Str} {mean : ExcName → Option Value} {mg mb : Str → Option Value} {dp un : Nat} {gd : Option (List Code)} {cn : Str} {cs : Scope} {a : Addr} {ccd : Value} {cl : List (Str × Addr)} {outer : List Env} {A₀ : Around} {base h₀ : Heap} {L : Addr} {m : Str → Option Value} {news : List (Addr × Obj)} {s : Shared} {Q E : Value → Shared → Prop} {D1 : Addr} {r : Rat} {t1 t1' : Tok} {c1 : Nat} {nx ny : Nat}
    (B : Below A₀ base outer h₀) (F : Fr h₀ L s.heap m) (X : (HD.K w.params).In h₀) (N : News h₀ L s.heap news) (T : Top p loose mean mg mb h₀) (hk : cs.kind = .function) (e1 : s.heap.get? D1 = some (RatO r t1 t1' c1))
    (hd : dp + 4 < recursionLimit) (hu : un + 100 < cLine) (b1 : Builtin.Int.intBits r.num ≤ nx) (b2 : Builtin.Int.intBits (r.den : Int) ≤ ny) (hnx : nx ≤ 6643) (hny : ny ≤ 6643)
    (hret : ∀ (h' : Heap) (tk' : Nat), Fr h₀ L h' m → News h₀ L h' news → Q (.ref D1) { s with heap := h', toks := tk' }) :
    wpAny (model PySem.Challenge.rw_ui0509_14.row.prog w) (ktrTop dp un gd cn cs L a ccd cl outer) (call (.ref 80) [.ref D1]) Q E s :=
  need_c B F X N T hk e1 hd hu (Fits.of b1 hnx) (Fits.of b2 hny) hret
theorem need_cz {w : World} {p : Program} {loose : List Str} {mean : ExcName → Option Value} {mg mb : Str → Option Value} {dp un : Nat} {gd : Option (List Code)} {cn : Str} {cs : Scope} {a : Addr} {ccd : Value} {cl : List (Str × Addr)} {outer : List Env} {A₀ : Around} {base h₀ : Heap} {L : Addr} {m : Str → Option Value} {news : List (Addr × Obj)} {s : Shared} {Q E : Value → Shared → Prop} {D1 : Addr} {x1 : Int} {t1 t1' : Tok} {c1 : Nat} {nx : Nat}
    (B : Below A₀ base outer h₀) (F : Fr h₀ L s.heap m) (X : (HD.K w.params).In h₀) (N : News h₀ L s.heap news) (T : Top p loose mean mg mb h₀) (hk : cs.kind = .function) (e1 : s.heap.get? D1 = some (T2 x1 1 t1 t1' c1))
    (hd : dp + 4 < recursionLimit) (hu : un + 100 < cLine) (b1 : Builtin.Int.intBits x1 ≤ nx) (hnx : nx ≤ 6643)
    (hret : ∀ (h' : Heap) (tk' : Nat), Fr h₀ L h' m → News h₀ L h' news → Q (.ref D1) { s with heap := h', toks := tk' }) :
    wpAny (model PySem.Challenge.rw_ui0509_14.row.prog w) (ktrTop dp un gd cn cs L a ccd cl outer) (call (.ref 80) [.ref D1]) Q E s :=
  need_c (r := (x1 : Rat)) (t1 := t1) (t1' := t1') (c1 := c1) B F X N T hk e1 hd hu (Fits.of b1 hnx) fits_one hret
theorem need_nz {w : World} {p : Program} {loose : List Str} {mean : ExcName → Option Value} {mg mb : Str → Option Value} {dp un : Nat} {gd : Option (List Code)} {cn : Str} {cs : Scope} {a : Addr} {ccd : Value} {cl : List (Str × Addr)} {outer : List Env} {A₀ : Around} {base h₀ : Heap} {L : Addr} {m : Str → Option Value} {news : List (Addr × Obj)} {s : Shared} {Q E : Value → Shared → Prop} {D1 D2 : Addr} {x1 x2 : Int} {t1 t1' t2 t2' : Tok} {c1 c2 : Nat} {nx n2 : Nat}
    (B : Below A₀ base outer h₀) (F : Fr h₀ L s.heap m) (X : (HD.K w.params).In h₀) (N : News h₀ L s.heap news) (T : Top p loose mean mg mb h₀) (hk : cs.kind = .function) (e1 : s.heap.get? D1 = some (T2 x1 1 t1 t1' c1)) (e2 : s.heap.get? D2 = some (T2 x2 1 t2 t2' c2))
    (hd : dp + 4 < recursionLimit) (hu : un + 100 < cLine) (b1 : Builtin.Int.intBits x1 ≤ nx) (b2 : Builtin.Int.intBits x2 ≤ n2) (hnx : nx ≤ 6643) (hn2 : n2 ≤ 6643) (hl : x2 ≤ x1)
    (hret : ∀ (h' : Heap) (tk' : Nat), Fr h₀ L h' m → News h₀ L h' news → Q (.ref D1) { s with heap := h', toks := tk' }) :
    wpAny (model PySem.Challenge.rw_ui0509_14.row.prog w) (ktrTop dp un gd cn cs L a ccd cl outer) (call (.ref 80) [.ref D1, .ref D2]) Q E s :=
  need_n (r := (x1 : Rat)) (t1 := t1) (t1' := t1') (c1 := c1) B F X N T hk e1 e2 (mulOk_of_bits b1 bits_one (by omega)) (mulOk_of_bits b2 bits_one (by omega)) (by show ¬ (x1 * 1 < x2 * 1); omega) hd hu (Fits.of b1 hnx) fits_one hret
structure Bd (n : Nat) (r : Rat) : Prop where
  num : Builtin.Int.intBits r.num ≤ n
  den : Builtin.Int.intBits (r.den : Int) ≤ n
theorem Bd.mono {n k : Nat} {r : Rat} (h : Bd n r) (hk : n ≤ k) : Bd k r := ⟨Nat.le_trans h.num hk, Nat.le_trans h.den hk⟩
theorem Bd.int {n : Nat} {x : Int} (h : Builtin.Int.intBits x ≤ n) (h1 : 1 ≤ n) : Bd n (x : Rat) := ⟨h, Nat.le_trans bits_one h1⟩
theorem bits_zero : Builtin.Int.intBits 0 ≤ 1 := by decide
theorem Bd.zero {n : Nat} (h : 1 ≤ n) : Bd n (0 : Rat) := Bd.int (x := 0) (Nat.le_trans bits_zero h) h
theorem nznum {r : Rat} (h : r ≠ 0) : r.num ≠ 0 := fun e => h (Rat.num_eq_zero.mp e)
theorem Bd.fits {n : Nat} {r : Rat} (h : Bd n r) (hn : n ≤ 6643) : Fits r.num ∧ Fits (r.den : Int) := ⟨Fits.of h.num hn, Fits.of h.den hn⟩
theorem plus_r {w : World} {p : Program} {loose : List Str} {mean : ExcName → Option Value} {mg mb : Str → Option Value} {dp un : Nat} {gd : Option (List Code)} {cn : Str} {cs : Scope} {a : Addr} {ccd : Value} {cl : List (Str × Addr)} {outer : List Env} {A₀ : Around} {base h₀ : Heap} {L : Addr} {m : Str → Option Value} {news : List (Addr × Obj)} {s : Shared} {Q E : Value → Shared → Prop} {D1 D2 : Addr} {r1 r2 : Rat} {t1 t1' t2 t2' : Tok} {c1 c2 n k : Nat}
    (B : Below A₀ base outer h₀) (F : Fr h₀ L s.heap m) (X : (HD.K w.params).In h₀) (N : News h₀ L s.heap news) (T : Top p loose mean mg mb h₀) (hk : cs.kind = .function) (e1 : s.heap.get? D1 = some (RatO r1 t1 t1' c1)) (e2 : s.heap.get? D2 = some (RatO r2 t2 t2' c2))
    (hd : dp + 3 < recursionLimit) (hu : un + 24 < cLine) (b1 : Bd n r1) (b2 : Bd k r2) (hb : n + k + 1 ≤ 6643)
    (hret : ∀ (D : Addr) (t t' : Tok) (c : Nat) (h' : Heap) (tk' : Nat), Bd (n + k + 1) (r1 + r2) → Fr h₀ L h' m → News h₀ L h' ((D, RatO (r1 + r2) t t' c) :: news) → (∀ p ∈ news, p.1 ≠ D) → Q (.ref D) { s with heap := h', toks := tk' }) :
    wpAny (model PySem.Challenge.rw_ui0509_14.row.prog w) (ktrTop dp un gd cn cs L a ccd cl outer) (call (.ref 87) [.ref D1, .ref D2]) Q E s :=
  plus_u B F X N T hk e1 e2 hd hu (nzden r1) (nzden r2) b1.num b1.den b2.num b2.den (by omega) (by omega) fun r D t t' c h' tk' e bn bd F' N' l => by
    have e' : r = r1 + r2 := e.trans (r_plus r1 r2)
    subst e'
    exact hret D t t' c h' tk' ⟨Nat.le_trans bn (by omega), Nat.le_trans bd (by omega)⟩ F' N' l
theorem times_r {w : World} {p : Program} {loose : List Str} {mean : ExcName → Option Value} {mg mb : Str → Option Value} {dp un : Nat} {gd : Option (List Code)} {cn : Str} {cs : Scope} {a : Addr} {ccd : Value} {cl : List (Str × Addr)} {outer : List Env} {A₀ : Around} {base h₀ : Heap} {L : Addr} {m : Str → Option Value} {news : List (Addr × Obj)} {s : Shared} {Q E : Value → Shared → Prop} {D1 D2 : Addr} {r1 r2 : Rat} {t1 t1' t2 t2' : Tok} {c1 c2 n k : Nat}
    (B : Below A₀ base outer h₀) (F : Fr h₀ L s.heap m) (X : (HD.K w.params).In h₀) (N : News h₀ L s.heap news) (T : Top p loose mean mg mb h₀) (hk : cs.kind = .function) (e1 : s.heap.get? D1 = some (RatO r1 t1 t1' c1)) (e2 : s.heap.get? D2 = some (RatO r2 t2 t2' c2))
    (hd : dp + 3 < recursionLimit) (hu : un + 24 < cLine) (b1 : Bd n r1) (b2 : Bd k r2) (hb : n + k ≤ 6643)
    (hret : ∀ (D : Addr) (t t' : Tok) (c : Nat) (h' : Heap) (tk' : Nat), Bd (n + k) (r1 * r2) → Fr h₀ L h' m → News h₀ L h' ((D, RatO (r1 * r2) t t' c) :: news) → (∀ p ∈ news, p.1 ≠ D) → Q (.ref D) { s with heap := h', toks := tk' }) :
    wpAny (model PySem.Challenge.rw_ui0509_14.row.prog w) (ktrTop dp un gd cn cs L a ccd cl outer) (call (.ref 94) [.ref D1, .ref D2]) Q E s :=
  times_u B F X N T hk e1 e2 hd hu (nzden r1) (nzden r2) b1.num b1.den b2.num b2.den (by omega) (by omega) fun r D t t' c h' tk' e bn bd F' N' l => by
    have e' : r = r1 * r2 := e.trans (r_times r1 r2)
    subst e'
    exact hret D t t' c h' tk' ⟨Nat.le_trans bn (by omega), Nat.le_trans bd (by omega)⟩ F' N' l
theorem over_r {w : World} {p : Program} {loose : List Str} {mean : ExcName → Option Value} {mg mb : Str → Option Value} {dp un : Nat} {gd : Option (List Code)} {cn : Str} {cs : Scope} {a : Addr} {ccd : Value} {cl : List (Str × Addr)} {outer : List Env} {A₀ : Around} {base h₀ : Heap} {L : Addr} {m : Str → Option Value} {news : List (Addr × Obj)} {s : Shared} {Q E : Value → Shared → Prop} {D1 D2 : Addr} {r1 r2 : Rat} {t1 t1' t2 t2' : Tok} {c1 c2 n k : Nat}
    (B : Below A₀ base outer h₀) (F : Fr h₀ L s.heap m) (X : (HD.K w.params).In h₀) (N : News h₀ L s.heap news) (T : Top p loose mean mg mb h₀) (hk : cs.kind = .function) (e1 : s.heap.get? D1 = some (RatO r1 t1 t1' c1)) (e2 : s.heap.get? D2 = some (RatO r2 t2 t2' c2))
    (hd : dp + 3 < recursionLimit) (hu : un + 24 < cLine) (b1 : Bd n r1) (b2 : Bd k r2) (hz : r2 ≠ 0) (hb : n + k ≤ 6643)
    (hret : ∀ (D : Addr) (t t' : Tok) (c : Nat) (h' : Heap) (tk' : Nat), Bd (n + k) (r1 / r2) → Fr h₀ L h' m → News h₀ L h' ((D, RatO (r1 / r2) t t' c) :: news) → (∀ p ∈ news, p.1 ≠ D) → Q (.ref D) { s with heap := h', toks := tk' }) :
    wpAny (model PySem.Challenge.rw_ui0509_14.row.prog w) (ktrTop dp un gd cn cs L a ccd cl outer) (call (.ref 101) [.ref D1, .ref D2]) Q E s :=
  over_u B F X N T hk e1 e2 hd hu (nzden r1) (nznum hz) b1.num b1.den b2.num b2.den (by omega) (by omega) fun r D t t' c h' tk' e bn bd F' N' l => by
    have e' : r = r1 / r2 := e.trans (r_over r1 r2)
    subst e'
    exact hret D t t' c h' tk' ⟨Nat.le_trans bn (by omega), Nat.le_trans bd (by omega)⟩ F' N' l
theorem less_r {w : World} {p : Program} {loose : List Str} {mean : ExcName → Option Value} {mg mb : Str → Option Value} {dp un : Nat} {gd : Option (List Code)} {cn : Str} {cs : Scope} {a : Addr} {ccd : Value} {cl : List (Str × Addr)} {outer : List Env} {A₀ : Around} {base h₀ : Heap} {L : Addr} {m : Str → Option Value} {news : List (Addr × Obj)} {s : Shared} {Q E : Value → Shared → Prop} {D1 D2 : Addr} {r1 r2 : Rat} {t1 t1' t2 t2' : Tok} {c1 c2 n k : Nat}
    (B : Below A₀ base outer h₀) (F : Fr h₀ L s.heap m) (X : (HD.K w.params).In h₀) (N : News h₀ L s.heap news) (T : Top p loose mean mg mb h₀) (hk : cs.kind = .function) (e1 : s.heap.get? D1 = some (RatO r1 t1 t1' c1)) (e2 : s.heap.get? D2 = some (RatO r2 t2 t2' c2))
    (hd : dp + 3 < recursionLimit) (hu : un + 24 < cLine) (b1 : Bd n r1) (b2 : Bd k r2) (hb : n + k ≤ 100000)
    (hret : ∀ (h' : Heap) (tk' : Nat), Fr h₀ L h' m → News h₀ L h' news → Q (.bool (decide (r1 < r2))) { s with heap := h', toks := tk' }) :
    wpAny (model PySem.Challenge.rw_ui0509_14.row.prog w) (ktrTop dp un gd cn cs L a ccd cl outer) (call (.ref 108) [.ref D1, .ref D2]) Q E s :=
  less_u B F X N T hk e1 e2 hd hu b1.num b1.den b2.num b2.den (by omega) (by omega) fun h' tk' F' N' => by
    have e : decide (r1.num * (r2.den : Int) < r2.num * (r1.den : Int)) = decide (r1 < r2) := decide_eq_decide.mpr (Rat.lt_iff r1 r2).symm
    rw [e]
    exact hret h' tk' F' N'
theorem need_r {w : World} {p : Program} {loose : List Str} {mean : ExcName → Option Value} {mg mb : Str → Option Value} {dp un : Nat} {gd : Option (List Code)} {cn : Str} {cs : Scope} {a : Addr} {ccd : Value} {cl : List (Str × Addr)} {outer : List Env} {A₀ : Around} {base h₀ : Heap} {L : Addr} {m : Str → Option Value} {news : List (Addr × Obj)} {s : Shared} {Q E : Value → Shared → Prop} {D1 : Addr} {r1 : Rat} {t1 t1' : Tok} {c1 n : Nat}
    (B : Below A₀ base outer h₀) (F : Fr h₀ L s.heap m) (X : (HD.K w.params).In h₀) (N : News h₀ L s.heap news) (T : Top p loose mean mg mb h₀) (hk : cs.kind = .function) (e1 : s.heap.get? D1 = some (RatO r1 t1 t1' c1))
    (hd : dp + 4 < recursionLimit) (hu : un + 100 < cLine) (b1 : Bd n r1) (hb : n ≤ 6643)
    (hret : ∀ (h' : Heap) (tk' : Nat), Fr h₀ L h' m → News h₀ L h' news → Q (.ref D1) { s with heap := h', toks := tk' }) :
    wpAny (model PySem.Challenge.rw_ui0509_14.row.prog w) (ktrTop dp un gd cn cs L a ccd cl outer) (call (.ref 80) [.ref D1]) Q E s :=
  need_c B F X N T hk e1 hd hu (b1.fits hb).1 (b1.fits hb).2 hret
theorem need_rn {w : World} {p : Program} {loose : List Str} {mean : ExcName → Option Value} {mg mb : Str → Option Value} {dp un : Nat} {gd : Option (List Code)} {cn : Str} {cs : Scope} {a : Addr} {ccd : Value} {cl : List (Str × Addr)} {outer : List Env} {A₀ : Around} {base h₀ : Heap} {L : Addr} {m : Str → Option Value} {news : List (Addr × Obj)} {s : Shared} {Q E : Value → Shared → Prop} {D1 D2 : Addr} {r1 r2 : Rat} {t1 t1' t2 t2' : Tok} {c1 c2 n k : Nat}
    (B : Below A₀ base outer h₀) (F : Fr h₀ L s.heap m) (X : (HD.K w.params).In h₀) (N : News h₀ L s.heap news) (T : Top p loose mean mg mb h₀) (hk : cs.kind = .function) (e1 : s.heap.get? D1 = some (RatO r1 t1 t1' c1)) (e2 : s.heap.get? D2 = some (RatO r2 t2 t2' c2))
    (hd : dp + 4 < recursionLimit) (hu : un + 100 < cLine) (b1 : Bd n r1) (b2 : Bd k r2) (hb : n ≤ 6643) (hb2 : k ≤ 6643) (hl : r2 ≤ r1)
    (hret : ∀ (h' : Heap) (tk' : Nat), Fr h₀ L h' m → News h₀ L h' news → Q (.ref D1) { s with heap := h', toks := tk' }) :
    wpAny (model PySem.Challenge.rw_ui0509_14.row.prog w) (ktrTop dp un gd cn cs L a ccd cl outer) (call (.ref 80) [.ref D1, .ref D2]) Q E s :=
  need_n B F X N T hk e1 e2 (mulOk_of_bits b1.num b2.den (by omega)) (mulOk_of_bits b2.num b1.den (by omega)) (fun h => absurd ((Rat.lt_iff r1 r2).mpr h) (Rat.not_lt.mpr hl)) (by omega) hu (b1.fits hb).1 (b1.fits hb).2 hret
-- pairs of lists
inductive All2 {α β : Type} (R : α → β → Prop) : List α → List β → Prop
  | nil : All2 R [] []
  | cons {a : α} {b : β} {as : List α} {bs : List β} : R a b → All2 R as bs → All2 R (a :: as) (b :: bs)
section
variable {α β : Type} {R S : α → β → Prop} {as cs : List α} {bs ds : List β} {a : α} {b : β}
theorem All2.length (h : All2 R as bs) : as.length = bs.length := by
  induction h with
  | nil => rfl
  | cons _ _ ih => rw [List.length_cons, List.length_cons, ih]
theorem All2.mono (hs : ∀ a b, R a b → S a b) (h : All2 R as bs) : All2 S as bs := by
  induction h with
  | nil => exact .nil
  | cons h _ ih => exact .cons (hs _ _ h) ih
theorem All2.append (h : All2 R as bs) (k : All2 R cs ds) : All2 R (as ++ cs) (bs ++ ds) := by
  induction h with
  | nil => exact k
  | cons h _ ih => exact .cons h ih
theorem All2.snoc (h : All2 R as bs) (k : R a b) : All2 R (as ++ [a]) (bs ++ [b]) := h.append (.cons k .nil)
theorem All2.get (h : All2 R as bs) {i : Nat} (ha : as[i]? = some a) : ∃ b, bs[i]? = some b ∧ R a b := by
  induction h generalizing i with
  | nil => simp at ha
  | cons h _ ih =>
    cases i with
    | zero => exact ⟨_, rfl, by simp at ha; rw [← ha]; exact h⟩
    | succ i => exact ih (by simpa using ha)
theorem All2.at (h : All2 R as bs) {i : Nat} (hb : bs[i]? = some b) : ∃ a, as[i]? = some a ∧ R a b := by
  induction h generalizing i with
  | nil => simp at hb
  | cons h _ ih =>
    cases i with
    | zero => exact ⟨_, rfl, by simp at hb; rw [← hb]; exact h⟩
    | succ i => exact ih (by simpa using hb)
theorem All2.reverse (h : All2 R as bs) : All2 R as.reverse bs.reverse := by
  induction h with
  | nil => exact .nil
  | cons h _ ih => rw [List.reverse_cons, List.reverse_cons]; exact ih.snoc h
theorem All2.set (h : All2 R as bs) (k : R a b) (i : Nat) : All2 R (as.set i a) (bs.set i b) := by
  induction h generalizing i with
  | nil => exact .nil
  | cons h r ih =>
    cases i with
    | zero => exact .cons k r
    | succ i => exact .cons h (ih i)
end
-- a loop's turns by an invariant (over the ItemsRest of KE.KTurns)
section
variable {prog : Program} {w : World} {A : Around} {E : Value → Shared → Prop} {s : Shared} {env : Env} {h₀ : Heap} {target : Expr} {body : List Stmt} {Q : Flow → Shared → Prop}
theorem items_ind {I : Addr} {cl : String} {keep : List (Addr × Obj)} {xs : List Itm} (J : Nat → (Str → Option Value) → List (Addr × Obj) → Prop)
    (turn : ∀ i a v m news h tk (o : Obj), xs[i]? = some a → SubL keep news → (∀ p ∈ news, p.1 ≠ I) → J i m news → a.Is v h → Fr h₀ env.locals h m → o.cls = .type cl → News h₀ env.locals h ((I, o) :: news) →
      wpAny (model prog w) A (assign target env v) (fun _ s₂ => wpAny (model prog w) A (execs body env) (UnrPostW h₀ env.locals { s with heap := h, toks := tk } [(I, o)] (fun m' n' => SubL keep n' ∧ J (i + 1) m' n') Q) E s₂) E { s with heap := h, toks := tk })
    (done : ∀ m news h tk, J xs.length m news → Fr h₀ env.locals h m → News h₀ env.locals h news → Q .next { s with heap := h, toks := tk }) :
    ∀ (ys : List Itm) (i : Nat) (m : Str → Option Value) (news : List (Addr × Obj)), xs.drop i = ys → i ≤ xs.length → SubL keep news → (∀ p ∈ news, p.1 ≠ I) → J i m news → ItemsRest prog w A E h₀ env target body Q s [(I, cl)] keep ys m news := by
  intro ys
  induction ys with
  | nil =>
    intro i m news hd hi _ _ hJ h tk F N
    have : i = xs.length := by
      have := congrArg List.length hd
      rw [List.length_drop, List.length_nil] at this
      omega
    subst this
    exact done m news h tk hJ F N
  | cons a ys ih =>
    intro i m news hd hi hk hI hJ v h tk hv F
    refine AllObj.cons fun o ho => AllObj.nil fun N => ?_
    have hlt : i < xs.length := by
      have := congrArg List.length hd
      rw [List.length_drop, List.length_cons] at this
      omega
    have ha : xs[i]? = some a := by
      have := congrArg (fun l => l[0]?) hd
      simpa [List.getElem?_drop] using this
    have hd' : xs.drop (i + 1) = ys := by
      have := congrArg List.tail hd
      simpa [List.tail_drop] using this
    have fin : ∀ s₃, UnrEndW h₀ env.locals { s with heap := h, toks := tk } [(I, o)] (fun m' n' => SubL keep n' ∧ J (i + 1) m' n') s₃ →
        UnrEndW h₀ env.locals { s with heap := h, toks := tk } [(I, o)] (fun m' n' => SubL keep n' ∧ ItemsRest prog w A E h₀ env target body Q s [(I, cl)] keep ys m' n') s₃ := by
      rintro s₃ ⟨h', tk', m', news', e, F', N', ho', hk', hJ'⟩
      exact ⟨h', tk', m', news', e, F', N', ho', hk', ih (i + 1) m' news' hd' hlt hk' (fun p hp => ho' p hp (I, o) (List.mem_cons_self ..)) hJ'⟩
    refine wpAny_mono (turn i a v m news h tk o ha hk hI hJ hv F ho N) (fun _ s₂ h₂ => wpAny_mono h₂ (fun f s₃ p => ?_) fun _ _ e => e) fun _ _ e => e
    cases f with
    | ret v => exact p
    | brk => exact p
    | next => exact fin _ p
    | cont => exact fin _ p
theorem unr_end {L I : Addr} {o : Obj} {rest : (Str → Option Value) → List (Addr × Obj) → Prop} {s₁ : Shared} {h' : Heap} {tk : Nat} {m' : Str → Option Value} {all : List (Addr × Obj)} (news' : List (Addr × Obj)) (F : Fr h₀ L h' m') (N : News h₀ L h' all)
    (hI : (I, o) ∈ all) (hs : ∀ p ∈ news', p ∈ all) (hne : ∀ p ∈ news', p.1 ≠ I) (r : rest m' news') : UnrEndW h₀ L s₁ [(I, o)] rest { s₁ with heap := h', toks := tk } :=
  ⟨h', tk, m', news', rfl, F, fun p hp => by
    rcases List.mem_append.mp hp with hp | hp
    · rw [List.mem_singleton.mp hp]; exact N _ hI
    · exact N p (hs p hp), fun p hp q hq => by rw [List.mem_singleton.mp hq]; exact hne p hp, r⟩
theorem iter_baseTurns {ax : Addr} {lo : Obj} {vs : List Value} {n : Nat} {m₀ : Str → Option Value} {news : List (Addr × Obj)}
    (hh : A.handled = none) (F : Fr h₀ env.locals s.heap m₀) (N : News h₀ env.locals s.heap news) (hg : h₀.get? ax = some lo) (hc : lo.cls = .type "list") (hd : lo.data = .seq vs.toArray n)
    (rest₀ : ∀ I : Addr, (∀ p ∈ news, p.1 < I) → ItemsRest prog w A E h₀ env target body Q s [(I, "list_iterator")] [] (vs.map .val) m₀ news) :
    wpAny (model prog w) A (pyIter (.ref ax)) (fun it s₂ => TurnsAt prog w A h₀ env target body Q E it s₂) E s := by
  have hax : s.heap.get? ax = some lo := F.keep _ _ hg
  have hl : s.heap.IsList ax vs.toArray := ⟨lo, hax, hc, n, hd⟩
  have hne : ax ≠ s.heap.objs.size := Nat.ne_of_lt (Heap.lt_size hax)
  refine wpAny_pyIter_list hl ?_
  refine ktg_core (tk0 := s.toks) (keep := []) (KTurns.ofWalks (Walks.list hh s.heap.objs.size ax hne vs.toArray) fun i v s Q E st q => letGo_listiter st.1 q) (by simp) (fun i v h hp => ⟨.val v, ?_, rfl⟩) (fun i h st => ?_) (fun b hb => ?_) (fun b hb => by simpa using hb) (fun b hb => ?_) ?_ (fun p hp hI => ?_) ?_ (F.push _) (fun p hp => ⟨Heap.get?_push_of_some _ (N p hp).1, (N p hp).2⟩) trivial (rest₀ _ fun p hp => Heap.lt_size (N p hp).1)
  · have hp' : vs.toArray[i]? = some v := hp
    simpa using hp'
  · obtain ⟨it, hit, hic, _⟩ := st.1
    exact ⟨[(s.heap.objs.size, it)], ⟨⟨rfl, hic⟩, trivial⟩, fun p hp => by rw [List.mem_singleton.mp hp]; exact hit⟩
  · have hb' : b = s.heap.objs.size := by simpa using hb
    rw [hb']
    exact ⟨List.mem_cons_self .., next_is_new F⟩
  · have hb' : b = s.heap.objs.size ∨ b = ax := by simpa using hb
    rcases hb' with e | e
    · exact .inl (by simp [e])
    · exact .inr (.inr ⟨lo, by rw [e]; exact hg⟩)
  · intro hI
    rcases List.mem_cons.mp hI with e | hI
    · exact absurd F.ns.lt (e ▸ Nat.lt_irrefl _)
    · have e : env.locals = ax := List.mem_singleton.mp hI
      exact absurd (Heap.lt_size hg) (Nat.not_lt.mpr (e ▸ F.above))
  · exact absurd (Heap.lt_size (N p hp).1) ((List.mem_singleton.mp hI) ▸ Nat.lt_irrefl _)
  · exact ⟨⟨_, Heap.get?_push_size _ rfl, rfl, rfl⟩, hl.at fun o e => Heap.get?_push_of_some _ e⟩
def rangeItems (a : Int) (n : Nat) : List Itm := (List.range n).map fun (i : Nat) => Itm.tok fun t => Value.int (a + (i : Int)) t
theorem rangeItems_length (a : Int) (n : Nat) : (rangeItems a n).length = n := by simp [rangeItems]
theorem rangeItems_get {a : Int} {n i : Nat} {x : Itm} (h : (rangeItems a n)[i]? = some x) : i < n ∧ x = .tok fun t => .int (a + (i : Int)) t := by
  unfold rangeItems at h
  rw [List.getElem?_map] at h
  obtain ⟨j, hj, e⟩ := Option.map_eq_some_iff.mp h
  obtain ⟨h1, h2⟩ := List.getElem?_eq_some_iff.mp hj
  rw [List.getElem_range] at h2
  subst h2
  exact ⟨by simpa using h1, e.symm⟩
theorem iter_rangeTurns {x : Str} {px : Pos} {r : Addr} {a₀ b₀ : Int} {t₀ u₀ v₀ : Tok} {n : Nat} {m₀ : Str → Option Value} {news : List (Addr × Obj)}
    (hh : A.handled = none) (hr : IsRange s.heap r a₀ b₀ 1 t₀ u₀ v₀) (hsmall : Builtin.Range.small a₀ b₀ 1 = true) (hn : Builtin.Range.rangeSize a₀ b₀ 1 = (n : Int)) (F : Fr h₀ env.locals s.heap m₀) (N : News h₀ env.locals s.heap news)
    (rest₀ : ∀ I : Addr, (∀ p ∈ news, p.1 < I) → ItemsRest prog w A E h₀ env (.Name x px) body Q s [(I, "range_iterator")] [] (rangeItems a₀ n) m₀ news) :
    wpAny (model prog w) A (pyIter (.ref r)) (fun it s₂ => TurnsAt prog w A h₀ env (.Name x px) body Q E it s₂) E s := by
  refine wpAny_pyIter_range hr hsmall ?_
  have W : Walks prog w A s.heap.objs.size [s.heap.objs.size] [s.heap.objs.size] n (fun i v => i < n ∧ ∃ t, v = .int (a₀ + i * 1) t)
      (fun i h => IsRangeIter h s.heap.objs.size (a₀ + (i : Nat) * 1) ((n : Int) - (i : Nat)) 1) := (Walks.range hh _ a₀ 1 n).bound
  refine ktg_core (tk0 := s.toks) (keep := []) (KTurns.ofWalks W fun i v s Q E st q => wpAny_pure q) (rangeItems_length a₀ n).symm (fun i v h hp => ?_) (fun i h st => ?_) (fun b hb => ?_) (fun b hb => by simpa using hb) (fun b hb => .inl (by simpa using hb)) ?_ (fun p hp hI => ?_) ?_ (F.push _) (fun p hp => ⟨Heap.get?_push_of_some _ (N p hp).1, (N p hp).2⟩) trivial (rest₀ _ fun p hp => Heap.lt_size (N p hp).1)
  · obtain ⟨hi, t, rfl⟩ := hp
    refine ⟨.tok fun t => .int (a₀ + (i : Int)) t, ?_, t, by rw [Int.mul_one]⟩
    unfold rangeItems
    rw [List.getElem?_map, List.getElem?_range hi]
    rfl
  · exact ⟨[(s.heap.objs.size, _)], ⟨⟨rfl, rfl⟩, trivial⟩, fun p hp => by rw [List.mem_singleton.mp hp]; exact st⟩
  · have hb' : b = s.heap.objs.size := by simpa using hb
    rw [hb']
    exact ⟨List.mem_cons_self .., next_is_new F⟩
  · intro hI
    exact absurd F.ns.lt ((List.mem_singleton.mp hI) ▸ Nat.lt_irrefl _)
  · exact absurd (Heap.lt_size (N p hp).1) ((List.mem_singleton.mp hI) ▸ Nat.lt_irrefl _)
  · show IsRangeIter _ _ _ _ _
    rw [hn]
    simpa using Heap.get?_push_size _ rfl
end
theorem unr_one {h₀ h' : Heap} {L I D : Addr} {o od : Obj} {rest : (Str → Option Value) → List (Addr × Obj) → Prop} {s₁ : Shared} {tk : Nat} {m' : Str → Option Value} {all : List (Addr × Obj)} (F : Fr h₀ L h' m') (N : News h₀ L h' ((D, od) :: all))
    (hI : (I, o) ∈ (D, od) :: all) (hne : D ≠ I) (r : rest m' [(D, od)]) : UnrEndW h₀ L s₁ [(I, o)] rest { s₁ with heap := h', toks := tk } :=
  unr_end [(D, od)] F N hI (fun p hp => by rw [List.mem_singleton.mp hp]; exact List.mem_cons_self ..) (fun p hp => by rw [List.mem_singleton.mp hp]; exact hne) r
def Hold (P : Prop) : Prop := P
theorem Hold.out {P : Prop} (h : Hold P) : P := h
-- a rational in the heap
def RatH (h : Heap) (v : Value) (r : Rat) : Prop := ∃ D t t' c, v = .ref D ∧ h.get? D = some (RatO r t t' c)
theorem RatH.keeps {h g : Heap} {v : Value} {r : Rat} (hk : ∀ b o, h.get? b = some o → g.get? b = some o) (x : RatH h v r) : RatH g v r := let ⟨D, t, t', c, e, hd⟩ := x; ⟨D, t, t', c, e, hk _ _ hd⟩
def tot (rs : List Rat) : Rat := rs.foldl (· + ·) 0
theorem tot_take {rs : List Rat} {i : Nat} {r : Rat} (h : rs[i]? = some r) : tot (rs.take (i + 1)) = tot (rs.take i) + r := by
  unfold tot
  rw [List.take_add_one, h, List.foldl_append]; rfl
theorem val_get {vs : List Value} {i : Nat} {a : Itm} {v : Value} {h : Heap} (ha : (vs.map Itm.val)[i]? = some a) (hv : a.Is v h) : vs[i]? = some v := by
  rw [List.getElem?_map] at ha
  obtain ⟨x, hx, e⟩ := Option.map_eq_some_iff.mp ha
  subst e
  have : v = x := hv
  rw [this]; exact hx
theorem mul_le_of_lt {i n b : Nat} (h : i < n) : i * (b + 1) + 1 + b + 1 ≤ n * (b + 1) + 1 := by
  have : (i + 1) * (b + 1) ≤ n * (b + 1) := Nat.mul_le_mul_right _ h
  rw [Nat.add_mul] at this
  omega
local macro_rules | `(tactic| walk_at "i4") => `(tactic| (intro D' t' u' c' h' tk' bD' F' N' l1; (try (replace l1 := allNe_of l1; simp only [AllNe, and_true] at l1))))
local macro_rules | `(tactic| walk_at "i5") => `(tactic| ((rename Fr _ _ _ _ => lF'); (with_unfolding_all refine' For_turns lF' ?_; k_whole)))
section KeepT
theorem words5 : True := by
  k_with_none
  k_with "ne9" => (first | with_reducible assumption | exact Ne.symm (by with_reducible assumption) | omega)
  k_with "k_in" => (refine' in_of ?z1fF ?z1fX; (case z1fF => k_asm); (case z1fX => k_asm))
  k_with "call ref" => (k_here; (with_reducible show wpAny _ _ (call (Value.ref 64) [Value.int _ _, Value.int _ _]) _ _ _); k_dflt (refine' div_use _ _ _ _ _ _ _ _ _ _ _ _ _ _ _ _ _ _ _ _ _ _ ?z2k1 ?z2k2 ?z2k3 ?z2k4 ?z2k5 ?z2k6 ?z2k7 ?z2k8 ?z2k9 ?z2k10 ?_; (case z2k1 => k_asm); (case z2k2 => k_asm); (case z2k3 => k_asm); (case z2k4 => k_asm); (case z2k5 => k_asm); (case z2k6 => first | exact rfl | assumption); (case z2k7 => ktr_room); (case z2k8 => ktr_units); (case z2k9 => omega); (case z2k10 => first | assumption | exact Fits.neg (by assumption) | exact Fits.of (n := 64) (PySem.intBits_le_64 (by omega) (by omega)) (by decide)); k_whole); walk_at "i0"; (try k_sweep))
  k_with "binaryOp FloorDiv int int" => (with_reducible refine floordiv_int ?z3ne ?_ (Or.inl (PyProof.noPylong_of_log2 ?z3lg)); (case z3lg => with_reducible assumption); (case z3ne => omega))
  k_with "hat9" => (first | exact News.get (by k_asm) (by k_mem) | exact Fr.keep (by k_asm) _ _ (by with_reducible assumption) | exact Tk.get (by k_asm) (by k_asm) (by with_reducible assumption) (by intro p9 hp9; first | exact hp9 | exact absurd hp9 List.not_mem_nil | (repeat (first | exact hp9 | refine List.mem_cons_of_mem _ ?_))) | exact Frag.In.keeps (by k_asm) (Fr.keep (by k_asm)) _ _ (by k_is))
  k_with "ktr_units" => ((try simp only [units_under_make, units_in1, units_deeper, Around.mark_units, units_caller]); (try dsimp only [ktrTop]); first | exact un1 (by with_reducible assumption) (Nat.le_of_ble_eq_true rfl) | exact un2 (by with_reducible assumption) (Nat.le_of_ble_eq_true rfl) | exact un3 (by with_reducible assumption) (Nat.le_of_ble_eq_true rfl) | (have hcL9 := cLine_is; omega))
  k_with "call ref" => (k_here; (with_reducible show wpAny _ _ (call (Value.ref 87) [Value.ref _, Value.ref _]) _ _ _); k_dflt (refine' plus_r ?z14k1 ?z14k2 ?z14k3 ?z14k4 ?z14k5 ?z14k6 ?z14m1 ?z14m2 ?z14k7 ?z14k8 ?z14b1 ?z14b2 ?z14hb ?_; (case z14k1 => k_asm); (case z14k2 => k_asm); (case z14k3 => k_asm); (case z14k4 => k_asm); (case z14k5 => k_asm); (case z14k6 => first | exact rfl | assumption); (case z14k7 => first | exact Nat.le_of_ble_eq_true rfl | ktr_room); (case z14k8 => first | exact Nat.le_of_ble_eq_true rfl | ktr_units); (case z14m1 => (walk_at "hat9")); (case z14m2 => (walk_at "hat9")); (case z14b1 => with_reducible assumption); (case z14b2 => with_reducible assumption); (case z14hb => first | assumption | omega | decide); k_whole); walk_at "i4"; (try k_sweep))
  k_with "call ref" => (k_here; (with_reducible show wpAny _ _ (call (Value.ref 87) [Value.ref 56, Value.ref _]) _ _ _); k_dflt (refine' plus_r (r1 := 0) (n := 1) ?z15k1 ?z15k2 ?z15k3 ?z15k4 ?z15k5 ?z15k6 ?z15m1 ?z15m2 ?z15k7 ?z15k8 ?z15b1 ?z15b2 ?z15hb ?_; (case z15k1 => k_asm); (case z15k2 => k_asm); (case z15k3 => k_asm); (case z15k4 => k_asm); (case z15k5 => k_asm); (case z15k6 => first | exact rfl | assumption); (case z15k7 => first | exact Nat.le_of_ble_eq_true rfl | ktr_room); (case z15k8 => first | exact Nat.le_of_ble_eq_true rfl | ktr_units); (case z15m1 => exact Frag.In.keeps (by k_asm) (Fr.keep (by k_asm)) _ _ (by k_is)); (case z15m2 => (walk_at "hat9")); (case z15b1 => exact Bd.zero (by decide)); (case z15b2 => with_reducible assumption); (case z15hb => first | assumption | omega | decide); k_whole); walk_at "i4"; (try k_sweep))
  k_with "subscriptTail" => (k_here; (with_reducible show wpAny _ _ (subscriptTail _ _ (Value.ref _) (Value.int _ _)) _ _ _); k_dflt (refine' tup_g ?z16k1 ?z16k2 ?z16k3 ?z16k4 ?z16k5 ?z16k6 ?z16k7 ?z16k8 ?_ ?z16k9 ?z16k10; (case z16k1 => k_asm); (case z16k2 => with_reducible assumption); (case z16k3 => exact rfl); (case z16k4 => exact rfl); (case z16k5 => decide); (case z16k6 => decide); (case z16k7 => exact rfl); (case z16k8 => exact rfl); (case z16k9 => with_unfolding_all rfl); (case z16k10 => (intro _; with_unfolding_all rfl)); k_whole))
  k_with "eval Name" => (k_here; k_dflt (refine' ld ?z17k1 ?z17k2 ?_; (case z17k1 => k_asm); (case z17k2 => first | exact rfl | assumption); k_whole))
  k_with "exec For" => (k_here; walk_at "i5")
  k_with "exec For Name Name cons nil" => (k_here; walk_at "i5")
  k_with "exec For Name Call cons nil" => (k_here; walk_at "i5")
  k_with "exec For Tuple Name cons nil" => (k_here; walk_at "i5")
  k_with "exec For Tuple Call cons nil" => (k_here; walk_at "i5")
  k_with "exec For Name Attribute cons nil" => (k_here; walk_at "i5")
  k_with "exec For Tuple Attribute cons nil" => (k_here; walk_at "i5")
  k_with "exec For Tuple Subscript cons nil" => (k_here; walk_at "i5")
  k_with "pyIter ref" => ((with_reducible show wpAny _ _ (pyIter (Value.ref _)) (fun it s₂ => TurnsAt _ _ _ _ _ _ _ _ _ it s₂) _ _); refine Hold.out ?_)
  k_with "UnrPostW" => (dsimp only [UnrPostW])
  k_with "UnrEndW" => (refine Hold.out ?_)
  trivial
theorem total_c {w : World} {p : Program} {loose : List Str} {mean : ExcName → Option Value} {mg mb : Str → Option Value} {dp un : Nat} {gd : Option (List Code)} {cn : Str} {cs : Scope} {a : Addr} {ccd : Value} {cl : List (Str × Addr)} {outer : List Env} {A₀ : Around} {base h₀ : Heap} {L : Addr} {m : Str → Option Value} {news : List (Addr × Obj)} {s : Shared} {Q E : Value → Shared → Prop} {l : Addr} {vs : List Value} {rs : List Rat} {n0 b : Nat}
    (B : Below A₀ base outer h₀) (F : Fr h₀ L s.heap m) (X : (HD.K w.params).In h₀) (N : News h₀ L s.heap news) (T : Top p loose mean mg mb h₀) (hk : cs.kind = .function) (el : s.heap.get? l = some (listOf vs.toArray n0)) (hv : All2 (RatH s.heap) vs rs) (hne : rs ≠ []) (hb : ∀ r ∈ rs, Bd b r) (hlen : rs.length * (b + 1) + 1 ≤ 6643)
    (hd : dp + 6 < recursionLimit) (hu : un + 100 < cLine)
    (hret : ∀ (D : Addr) (t t' : Tok) (c : Nat) (h' : Heap) (tk' : Nat), Bd (rs.length * (b + 1) + 1) (tot rs) → Fr h₀ L h' m → News h₀ L h' ((D, RatO (tot rs) t t' c) :: news) → (∀ p ∈ news, p.1 ≠ D) → Q (.ref D) { s with heap := h', toks := tk' }) :
    wpAny (model PySem.Challenge.rw_ui0509_14.row.prog w) (ktrTop dp un gd cn cs L a ccd cl outer) (call (.ref 115) [.ref l]) Q E s := by
  w_top off
  revert X; k_fill; intro X
  refine wpAny_call ?_
  k_dflt (refine' code_need [] ?k1 ?k2 ?k3 ?k4 ?k5 ?kA ?kF ?kK ?k6 ?k7 ?k8 ?k9 ?kB ?kN ?_ ?c2 ?c3 ?c4 ?c5; (case kA => exact rfl); (case kF => exact rfl); (case kK => assumption); (case k1 => k_asm); (case k2 => k_asm); (case k3 => k_asm); (case k4 => k_asm); (case k5 => k_asm); (case k6 => k_is); (case k7 => k_is); (case k8 => ktr_room); (case k9 => first | exact BindsTo.of_eq rfl | exact binds_K (by k_in) rfl (by k_is) rfl rfl rfl); (case c5 => decide); (case kB => exact locs rfl); (case kN => exact fun _ h => nomatch h); (case c2 => exact rfl); (case c3 => exact rfl); (case c4 => exact rfl); k_whole; intro g' L' h' tk0 FG' F' N' B' X' T' hG'; (try dsimp only); (try k_fold))
  replace el := hG' _ _ el (by simp)
  replace hv := hv.mono fun v r x => x.keeps fun b o e => hG' b o e (by simp)
  k_steps
  unfold Hold
  refine iter_baseTurns rfl (by k_asm) (by k_asm) el rfl rfl (fun I lI => ?_)
  refine items_ind (fun i m nx => ∃ v, m (Str.ofString "out") = some v ∧ ((i = 0 ∧ v = .ref 56 ∧ nx = []) ∨ (0 < i ∧ ∃ D t t' c, v = .ref D ∧ nx = [(D, RatO (tot (rs.take i)) t t' c)] ∧ Bd (i * (b + 1) + 1) (tot (rs.take i))))) ?turn ?done _ 0 _ _ rfl (Nat.zero_le _) trivial (fun p hp => Nat.ne_of_lt (lI p hp)) ⟨_, rfl, .inl ⟨rfl, rfl, rfl⟩⟩
  case turn =>
    intro i a v m nx h tk o ha _ hI hJ hav Fm ho Nn
    obtain ⟨r, hr, D1, t1, t1', c1, rfl, e1⟩ := hv.get (val_get ha hav)
    have hil : i < rs.length := (List.getElem?_eq_some_iff.mp hr).1
    have bR := hb r (List.mem_of_getElem? hr)
    have hsz := mul_le_of_lt (b := b) hil
    have hsz2 : i * (b + 1) + 1 + b + 1 ≤ 6643 := Nat.le_trans hsz hlen
    obtain ⟨vo, hm, ⟨rfl, rfl, rfl⟩ | ⟨hpos, D, t, t', c, rfl, rfl, hB⟩⟩ := hJ
    · have htot : tot (rs.take (0 + 1)) = 0 + r := by rw [tot_take hr]; rfl
      k_steps
      unfold Hold
      exact unr_one (by k_asm) (by k_asm) (by k_mem) (neN (by walk_at "ne9")) ⟨trivial, _, rfl, .inr ⟨Nat.succ_pos _, _, _, _, _, rfl, by rw [htot], by rw [htot]; exact Bd.mono (by assumption) (by omega)⟩⟩
    · have htot := tot_take hr
      k_steps
      unfold Hold
      exact unr_one (by k_asm) (by k_asm) (by k_mem) (neN (by walk_at "ne9")) ⟨trivial, _, rfl, .inr ⟨Nat.succ_pos _, _, _, _, _, rfl, by rw [htot], by rw [htot]; exact Bd.mono (by assumption) (by rw [Nat.add_mul]; omega)⟩⟩
  case done =>
    intro m nx h tk hJ Fm Nn
    rw [List.length_map, hv.length] at hJ
    obtain ⟨vo, hm, ⟨h0, _, _⟩ | ⟨hpos, D, t, t', c, rfl, rfl, hB⟩⟩ := hJ
    · exact absurd (List.length_eq_zero_iff.mp h0) hne
    · rw [List.take_length] at hB Nn
      k_steps
      dsimp only
      refine leaveN_ (by k_asm) (by k_asm) ?_; intro kF kN kR kD; (try dsimp only); exact hret _ _ _ _ _ _ hB kF (news_cons kN (by k_mem) (news_all kR)) (ne_all kD (List.mem_cons_self ..))
end KeepT
-- what a frame keeps track of: an object of the ledger, or of the ground
def Tk (h₀ : Heap) (nx : List (Addr × Obj)) (a : Addr) (o : Obj) : Prop := (a, o) ∈ nx ∨ h₀.get? a = some o
theorem Tk.mono {h₀ : Heap} {nx ny : List (Addr × Obj)} {a : Addr} {o : Obj} (e : Tk h₀ nx a o) (hs : ∀ p ∈ nx, p ∈ ny) : Tk h₀ ny a o := e.imp (hs _) id
theorem Tk.get {h₀ h : Heap} {L : Addr} {m : Str → Option Value} {nx led : List (Addr × Obj)} {a : Addr} {o : Obj} (F : Fr h₀ L h m) (N : News h₀ L h led) (e : Tk h₀ nx a o) (hs : ∀ p ∈ nx, p ∈ led) : h.get? a = some o :=
  e.elim (fun h1 => (N _ (hs _ h1)).1) fun h1 => F.keep _ _ h1
abbrev pairO (v1 v2 : Value) (c : Nat) : Obj := { cls := .type "tuple", data := .seq #[v1, v2] c }
abbrev PT (P : Addr → Obj → Prop) (tl : List (Addr × Obj)) (a : Addr) (o : Obj) : Prop := P a o ∨ (a, o) ∈ tl
theorem PT.mono {P : Addr → Obj → Prop} {tl tm : List (Addr × Obj)} (hs : ∀ p ∈ tl, p ∈ tm) : ∀ a o, PT P tl a o → PT P tm a o := fun _ _ e => e.imp id (hs _)
def RatN (P : Addr → Obj → Prop) (v : Value) (r : Rat) : Prop := ∃ D t t' c, v = .ref D ∧ P D (RatO r t t' c)
def LayN (P : Addr → Obj → Prop) (v : Value) (l : Rat × Rat) : Prop := ∃ D v1 v2 c, v = .ref D ∧ P D (pairO v1 v2 c) ∧ RatN P v1 l.1 ∧ RatN P v2 l.2
def LstN {β : Type} (R : Value → β → Prop) (P : Addr → Obj → Prop) (v : Value) (bs : List β) : Prop := ∃ l vs n, v = .ref l ∧ P l (listOf vs.toArray n) ∧ All2 R vs bs
abbrev LaysN (P : Addr → Obj → Prop) (v : Value) (ls : List (Rat × Rat)) : Prop := LstN (LayN P) P v ls
abbrev RatsN (P : Addr → Obj → Prop) (v : Value) (rs : List Rat) : Prop := LstN (RatN P) P v rs
section
variable {P P' : Addr → Obj → Prop} {v : Value}
theorem RatN.mono {r : Rat} (hs : ∀ a o, P a o → P' a o) (x : RatN P v r) : RatN P' v r := let ⟨D, t, t', c, e, k⟩ := x; ⟨D, t, t', c, e, hs _ _ k⟩
theorem LayN.mono {l : Rat × Rat} (hs : ∀ a o, P a o → P' a o) (x : LayN P v l) : LayN P' v l := let ⟨D, v1, v2, c, e, k, a, b⟩ := x; ⟨D, v1, v2, c, e, hs _ _ k, a.mono hs, b.mono hs⟩
theorem LaysN.mono {ls : List (Rat × Rat)} (hs : ∀ a o, P a o → P' a o) (x : LaysN P v ls) : LaysN P' v ls := let ⟨l, vs, n, e, k, a⟩ := x; ⟨l, vs, n, e, hs _ _ k, a.mono fun _ _ y => y.mono hs⟩
theorem RatsN.mono {rs : List Rat} (hs : ∀ a o, P a o → P' a o) (x : RatsN P v rs) : RatsN P' v rs := let ⟨l, vs, n, e, k, a⟩ := x; ⟨l, vs, n, e, hs _ _ k, a.mono fun _ _ y => y.mono hs⟩
end
theorem ground_of {P : Addr → Obj → Prop} {h g : Heap} (hP : ∀ a o, P a o → h.get? a = some o) (hG : ∀ b o, h.get? b = some o → b ∉ List.map (·.1) ([] : List (Addr × Obj)) → g.get? b = some o) (tl : List (Addr × Obj)) :
    ∀ a o, PT P tl a o → Tk g tl a o := fun a o e => e.elim (fun h => .inr (hG _ _ (hP _ _ h) (by simp))) .inl
theorem tracked {h₀ h : Heap} {L : Addr} {m : Str → Option Value} {led : List (Addr × Obj)} (F : Fr h₀ L h m) (N : News h₀ L h led) : ∀ a o, Tk h₀ led a o → h.get? a = some o := fun _ _ e => e.get F N fun _ hp => hp
-- steps on such objects
section
variable {prog : Program} {w : World} {A : Around} {E : Value → Shared → Prop} {s : Shared} {h₀ : Heap} {L D : Addr} {m : Str → Option Value} {nx led : List (Addr × Obj)} {lo : Obj} {env : Env}
theorem tup_t {value slice : Expr} {l : List Value} {n : Nat} {k : Int} {u : Tok} {j : Nat} {x : Value} {Q : Value → Shared → Prop}
    (F : Fr h₀ L s.heap m) (N : News h₀ L s.heap led) (e : Tk h₀ nx D lo) (hsub : ∀ p ∈ nx, p ∈ led) (hc : lo.cls = .type "tuple") (hd : lo.data = .seq l.toArray n) (hlo : -(2 ^ 63) ≤ k) (hhi : k < 2 ^ 63) (hj : seqIndex? k l.length = some j) (hx : l[j]? = some x) (h : Q x s)
    (hs : subscripted slice false (.ref D) (.int k u) = operate [.ref D, .int k u] (getItem (.ref D) (.int k u))) (hg : ∀ r, letTemporaryGo value (.ref D) r = pure ()) :
    wpAny (model prog w) A (subscriptTail value slice (.ref D) (.int k u)) Q E s := item_tupleL ⟨lo, e.get F N hsub, hc, n, hd⟩ hlo hhi hj hx h hs hg
theorem unpack_t {elts : List Expr} {k : Nat} {pos : Pos} {items : Array Value} {n : Nat} {Q : Unit → Shared → Prop} (F : Fr h₀ L s.heap m) (N : News h₀ L s.heap led) (e : Tk h₀ nx D lo) (hsub : ∀ p ∈ nx, p ∈ led) (hc : lo.cls = .type "tuple") (hd : lo.data = .seq items n)
    (hh : A.handled = none) (hn : (assignEach elts env).length = items.size) (hstar : (assignEach elts env).findIdx? (·.1) = none)
    (h : ∀ h', Fr h₀ L h' m → News h₀ L h' led → wpAny (model prog w) A (assignInOrder ((assignEach elts env).map (·.2)) items.toList) Q E { s with heap := h' }) :
    wpAny (model prog w) A (assign (.Tuple elts k pos) env (.ref D)) Q E s := unpackN_ F N ⟨lo, e.get F N hsub, hc, n, hd⟩ hh hn hstar h
end
theorem allNe_mem {d : Nat} : ∀ {l : List (Addr × Obj)}, AllNe d l → ∀ p ∈ l, p.1 ≠ d
  | [], _, _, h => nomatch h
  | _ :: _, x, p, h => by
    rcases List.mem_cons.mp h with rfl | h
    · exact x.1
    · exact allNe_mem x.2 p h
theorem rat_new {P : Addr → Obj → Prop} {D : Addr} {t t' : Tok} {c : Nat} {r : Rat} (h : P D (RatO r t t' c)) : RatN P (.ref D) r := ⟨D, t, t', c, rfl, h⟩
theorem allLt_mem {d : Nat} : ∀ {l : List (Addr × Obj)}, AllLt d l → ∀ p ∈ l, p.1 ≠ d
  | [], _, _, h => nomatch h
  | _ :: _, x, p, h => by
    rcases List.mem_cons.mp h with rfl | h
    · exact Nat.ne_of_lt x.1
    · exact allLt_mem x.2 p h
theorem news_app {h₀ h' : Heap} {L : Addr} {news tl : List (Addr × Obj)} {p : Addr × Obj} (N1 : News h₀ L h' (p :: tl)) (N : News h₀ L h' news) : News h₀ L h' (p :: (news ++ tl)) := by
  intro q hq
  rcases List.mem_cons.mp hq with rfl | hq
  · exact N1 _ (List.mem_cons_self ..)
  · rcases List.mem_append.mp hq with hq | hq
    · exact N q hq
    · exact N1 q (List.mem_cons_of_mem _ hq)
theorem news_app2 {h₀ h' : Heap} {L : Addr} {news tl : List (Addr × Obj)} (N1 : News h₀ L h' tl) (N : News h₀ L h' news) : News h₀ L h' (news ++ tl) := by
  intro q hq
  rcases List.mem_append.mp hq with hq | hq
  · exact N q hq
  · exact N1 q hq
-- the ledger at a turn's end: what is told of by name, and all the rest but the iterator
def strip (bad : List Addr) (all : List (Addr × Obj)) : List (Addr × Obj) := all.filter fun p => !bad.contains p.1
theorem mem_strip {bad : List Addr} {all : List (Addr × Obj)} {p : Addr × Obj} (h : p ∈ all) (hn : p.1 ∉ bad) : p ∈ strip bad all := List.mem_filter.mpr ⟨h, by simpa [List.contains_iff_mem] using hn⟩
theorem strip_mem {bad : List Addr} {all : List (Addr × Obj)} {p : Addr × Obj} (h : p ∈ strip bad all) : p ∈ all ∧ p.1 ∉ bad := by
  obtain ⟨h1, h2⟩ := List.mem_filter.mp h
  exact ⟨h1, by simpa [List.contains_iff_mem] using h2⟩
theorem unr_mut {h₀ h' : Heap} {L I : Addr} {o : Obj} {rest : (Str → Option Value) → List (Addr × Obj) → Prop} {s₁ : Shared} {tk : Nat} {m' : Str → Option Value} {all : List (Addr × Obj)} (muts : List (Addr × Obj)) (F : Fr h₀ L h' m') (N : News h₀ L h' all)
    (hI : (I, o) ∈ all) (hm : ∀ p ∈ muts, p ∈ all) (hn : ∀ p ∈ muts, p.1 ≠ I) (r : rest m' (muts ++ strip (I :: muts.map (·.1)) all)) : UnrEndW h₀ L s₁ [(I, o)] rest { s₁ with heap := h', toks := tk } := by
  refine unr_end _ F N hI (fun p hp => ?_) (fun p hp => ?_) r
  · rcases List.mem_append.mp hp with hp | hp
    · exact hm p hp
    · exact (strip_mem hp).1
  · rcases List.mem_append.mp hp with hp | hp
    · exact hn p hp
    · exact fun e => (strip_mem hp).2 (e ▸ List.mem_cons_self ..)
theorem one_of {P : Addr × Obj → Prop} {a : Addr × Obj} (ha : P a) : ∀ p ∈ [a], P p := fcons ha (List.forall_mem_nil _)
theorem not_in2 {a x y : Addr} (h1 : a ≠ x) (h2 : a ≠ y) : a ∉ [x, y] := by
  simp only [List.mem_cons, List.not_mem_nil, or_false, not_or]; exact ⟨h1, h2⟩
-- cutting layers
abbrev Lay := Rat × Rat
theorem unr_mut1 {h₀ h' : Heap} {L I d1 : Addr} {o o1 : Obj} {rest : (Str → Option Value) → List (Addr × Obj) → Prop} {s₁ : Shared} {tk : Nat} {m' : Str → Option Value} {all : List (Addr × Obj)} (F : Fr h₀ L h' m') (N : News h₀ L h' all)
    (hI : (I, o) ∈ all) (h1 : (d1, o1) ∈ all) (n1 : d1 ≠ I) (r : rest m' ([(d1, o1)] ++ strip [I, d1] all)) : UnrEndW h₀ L s₁ [(I, o)] rest { s₁ with heap := h', toks := tk } :=
  unr_mut [(d1, o1)] F N hI (one_of h1) (one_of n1) r
theorem sub_strip2 {h₀ h' : Heap} {L x y : Addr} {all tl : List (Addr × Obj)} (_N : News h₀ L h' all) (hm : ∀ p ∈ tl, p ∈ all) (a : ∀ p ∈ tl, p.1 ≠ x) (b : ∀ p ∈ tl, p.1 ≠ y) : ∀ p ∈ tl, p ∈ strip [x, y] all :=
  fun p hp => mem_strip (hm p hp) (not_in2 (a p hp) (b p hp))
theorem lst_len {prog : Program} {w : World} {A : Around} {E : Value → Shared → Prop} {s : Shared} {h₀ : Heap} {L l : Addr} {news : List (Addr × Obj)} {vs : List Value} {n : Nat} {Q : Value → Shared → Prop} (N : News h₀ L s.heap news) (hm : (l, listOf vs.toArray n) ∈ news) (hf : vs.length < 1000000) (h : ∀ tk, Q (.int (vs.length : Int) tk) { s with toks := tk + 1 }) :
    wpAny (model prog w) A (call (.builtin "len") [.ref l]) Q E s := by
  refine len_list ⟨_, N.get hm, rfl, n, rfl⟩ (by rw [List.size_toArray]; omega) ?_
  rw [List.size_toArray]
  exact h _
theorem lst_lenT {prog : Program} {w : World} {A : Around} {E : Value → Shared → Prop} {s : Shared} {h₀ : Heap} {L l : Addr} {m : Str → Option Value} {nx led : List (Addr × Obj)} {vs : List Value} {n : Nat} {Q : Value → Shared → Prop} (F : Fr h₀ L s.heap m) (N : News h₀ L s.heap led) (e : Tk h₀ nx l (listOf vs.toArray n)) (hs : ∀ p ∈ nx, p ∈ led) (hf : vs.length < 1000000) (h : ∀ tk, Q (.int (vs.length : Int) tk) { s with toks := tk + 1 }) :
    wpAny (model prog w) A (call (.builtin "len") [.ref l]) Q E s := by
  refine len_list ⟨_, e.get F N hs, rfl, n, rfl⟩ (by rw [List.size_toArray]; omega) ?_
  rw [List.size_toArray]
  exact h _
-- items of tracked lists; data read from the heap and compared
section
variable {prog : Program} {w : World} {A : Around} {E : Value → Shared → Prop} {s : Shared} {h₀ : Heap} {L D : Addr} {m : Str → Option Value} {nx led : List (Addr × Obj)} {lo : Obj} {value slice : Expr} {l : List Value} {n : Nat} {k : Int} {u : Tok} {x : Value} {Q : Value → Shared → Prop}
theorem list_t (F : Fr h₀ L s.heap m) (N : News h₀ L s.heap led) (e : Tk h₀ nx D lo) (hsub : ∀ p ∈ nx, p ∈ led) (hc : lo.cls = .type "list") (hd : lo.data = .seq l.toArray n) (h0 : 0 ≤ k) (hfit : k < 2 ^ 63) (hx : l[k.toNat]? = some x) (h : Q x s)
    (hs : subscripted slice false (.ref D) (.int k u) = operate [.ref D, .int k u] (getItem (.ref D) (.int k u))) (hg : ∀ r, letTemporaryGo value (.ref D) r = pure ()) :
    wpAny (model prog w) A (subscriptTail value slice (.ref D) (.int k u)) Q E s := item_listL ⟨lo, e.get F N hsub, hc, n, hd⟩ h0 hfit hx h hs hg
theorem back_t (F : Fr h₀ L s.heap m) (N : News h₀ L s.heap led) (e : Tk h₀ nx D lo) (hsub : ∀ p ∈ nx, p ∈ led) (hc : lo.cls = .type "list") (hd : lo.data = .seq l.toArray n) (h0 : k < 0) (h1 : -(l.length : Int) ≤ k) (hfit : -(2 ^ 63) ≤ k) (hx : l[(k + (l.length : Int)).toNat]? = some x) (h : Q x s)
    (hs : subscripted slice false (.ref D) (.int k u) = operate [.ref D, .int k u] (getItem (.ref D) (.int k u))) (hg : ∀ r, letTemporaryGo value (.ref D) r = pure ()) :
    wpAny (model prog w) A (subscriptTail value slice (.ref D) (.int k u)) Q E s := by
  have hl : s.heap.IsList D l.toArray := ⟨lo, e.get F N hsub, hc, n, hd⟩
  exact subscriptTail_builtin hl.typeIs slot_list_getitem.lookup (wpAny_getItem_list_neg hl h0 (by rw [List.size_toArray]; exact h1) hfit (by rw [List.size_toArray]; simpa using hx) h) hs hg
end
theorem at_of {α : Type} {l : List α} {k : Int} {i : Nat} {x : α} (h : l[i]? = some x) (e : k = (i : Int)) : l[k.toNat]? = some x := by
  have : k.toNat = i := by omega
  rw [this]; exact h
def Rd (h : Heap) (v : Value) (d : PyData) : Prop := ∃ as, Reads h v d as
theorem rdAll {h : Heap} {vs : List Value} {ds : List PyData} (hv : All2 (Rd h) vs ds) : ∃ as, ReadsAll h vs ds as := by
  induction hv with
  | nil => exact ⟨_, .nil⟩
  | cons a _ ih => obtain ⟨as, ra⟩ := a; obtain ⟨bs, rb⟩ := ih; exact ⟨_, .cons ra rb⟩
theorem Rd.int {h : Heap} {i : Int} {t : Tok} : Rd h (.int i t) (.int i) := ⟨_, .int i t⟩
theorem Rd.none {h : Heap} : Rd h .none .none := ⟨_, .none⟩
theorem Rd.bool {h : Heap} {b : Bool} : Rd h (.bool b) (.bool b) := ⟨_, .bool b⟩
theorem Rd.tuple {h : Heap} {D : Addr} {vs : List Value} {c : Nat} {ds : List PyData} (e : h.get? D = some { cls := .type "tuple", data := .seq vs.toArray c }) (hv : All2 (Rd h) vs ds) : Rd h (.ref D) (.tuple ds) :=
  let ⟨as, ra⟩ := rdAll hv; ⟨as, .tuple e rfl rfl (by simpa using ra)⟩
theorem Rd.list {h : Heap} {D : Addr} {vs : List Value} {c : Nat} {ds : List PyData} (e : h.get? D = some (listOf vs.toArray c)) (hv : All2 (Rd h) vs ds) : Rd h (.ref D) (.list ds) :=
  let ⟨as, ra⟩ := rdAll hv; ⟨D :: as, .list e rfl rfl (by simpa using ra)⟩
theorem Rd.keeps {h g : Heap} {v : Value} {d : PyData} (hk : ∀ b o, h.get? b = some o → g.get? b = some o) (x : Rd h v d) : Rd g v d := let ⟨as, r⟩ := x; ⟨as, PyProof.Rows.Reads.keeps hk r⟩
def ratP (r : Rat) : PyData := .tuple [.int r.num, .int (r.den : Int)]
def layP (l : Lay) : PyData := .tuple [ratP l.1, ratP l.2]
theorem RatO_rd {h : Heap} {D : Addr} {r : Rat} {t t' : Tok} {c : Nat} (e : h.get? D = some (RatO r t t' c)) : Rd h (.ref D) (ratP r) := Rd.tuple (vs := [_, _]) e (.cons .int (.cons .int .nil))
theorem T2_rd {h : Heap} {D : Addr} {x y : Int} {t t' : Tok} {c : Nat} (e : h.get? D = some (T2 x y t t' c)) : Rd h (.ref D) (.tuple [.int x, .int y]) := Rd.tuple (vs := [_, _]) e (.cons .int (.cons .int .nil))
section
variable {P : Addr → Obj → Prop} {h : Heap} {v : Value}
theorem RatN.rd {r : Rat} (hP : ∀ a o, P a o → h.get? a = some o) (x : RatN P v r) : Rd h v (ratP r) := by
  obtain ⟨D, t, t', c, rfl, k⟩ := x; exact RatO_rd (hP _ _ k)
theorem LayN.rd {l : Lay} (hP : ∀ a o, P a o → h.get? a = some o) (x : LayN P v l) : Rd h v (layP l) := by
  obtain ⟨D, v1, v2, c, rfl, k, a, b⟩ := x; exact Rd.tuple (vs := [v1, v2]) (hP _ _ k) (.cons (a.rd hP) (.cons (b.rd hP) .nil))
theorem All2.map_r {α β γ : Type} {R : α → β → Prop} {S : α → γ → Prop} {f : β → γ} {as : List α} {bs : List β} (hs : ∀ a b, R a b → S a (f b)) (x : All2 R as bs) : All2 S as (bs.map f) := by
  induction x with
  | nil => exact .nil
  | cons a _ ih => exact .cons (hs _ _ a) ih
theorem LaysN.rd {ls : List Lay} (hP : ∀ a o, P a o → h.get? a = some o) (x : LaysN P v ls) : Rd h v (.list (ls.map layP)) := by
  obtain ⟨l, vs, n, rfl, k, a⟩ := x; exact Rd.list (hP _ _ k) (a.map_r fun _ _ y => y.rd hP)
theorem RatsN.rd {rs : List Rat} (hP : ∀ a o, P a o → h.get? a = some o) (x : RatsN P v rs) : Rd h v (.list (rs.map ratP)) := by
  obtain ⟨l, vs, n, rfl, k, a⟩ := x; exact Rd.list (hP _ _ k) (a.map_r fun _ _ y => y.rd hP)
end
section
variable {prog : Program} {w : World} {A : Around} {E : Value → Shared → Prop} {s : Shared} {a b : Value} {d : PyData} {Q : Value → Shared → Prop}
theorem eq_rd (ra : Rd s.heap a d) (rb : Rd s.heap b d) (hs : SeqAt.shaped d = true) (hu : A.units + 64 < cLine) (h : Q (.bool true) s) : wpAny (model prog w) A (compareOp .Eq a b) Q E s := by
  obtain ⟨as, ra⟩ := ra; obtain ⟨bs, rb⟩ := rb
  exact eq_dataH ra rb hs hs hu (by rw [SeqAt.eqv_refl d (SeqAt.canLay_of_shaped hs)]; exact h)
theorem ne_rd (ra : Rd s.heap a d) (rb : Rd s.heap b d) (hs : SeqAt.shaped d = true) (hu : A.units + 64 < cLine) (h : Q (.bool false) s) : wpAny (model prog w) A (compareOp .NotEq a b) Q E s := by
  obtain ⟨as, ra⟩ := ra; obtain ⟨bs, rb⟩ := rb
  exact ne_dataH ra rb hs hs hu (by rw [SeqAt.eqv_refl d (SeqAt.canLay_of_shaped hs)]; exact h)
end
theorem rsize {a b : Int} {n : Nat} (h : b = a + (n : Int)) : Builtin.Range.rangeSize a b 1 = (n : Int) := by
  unfold Builtin.Range.rangeSize
  rw [if_pos (by decide)]
  split <;> omega
theorem mod_gen {prog : Program} {w : World} {A : Around} {E : Value → Shared → Prop} {s : Shared} {a n : Int} {t u : Tok} {Q : Value → Shared → Prop} (hn : 0 < n)
    (h : ∀ v : Int, 0 ≤ v → v < n → v = a.fmod n → Q (.int v s.toks) { s with toks := s.toks + 1 }) : wpAny (model prog w) A (binaryOp .Mod (.int a t) (.int n u)) Q E s := by
  have e : a.fmod n = a % n := Int.fmod_eq_emod_of_nonneg a (by omega)
  exact mod_int' (by omega) (h _ (by rw [e]; exact Int.emod_nonneg a (by omega)) (by rw [e]; exact Int.emod_lt_of_pos a hn) rfl)
theorem neW {news W full : List (Addr × Obj)} {q : Addr × Obj} (kD : ∀ p ∈ restOf news W, ∀ q ∈ full, p.1 ≠ q.1) (hq : q ∈ full) (hw : ∀ p ∈ W, p.1 ≠ q.1) : ∀ p ∈ news, p.1 ≠ q.1 := by
  intro p hp
  by_cases h : p.1 ∈ W.map (·.1)
  · obtain ⟨r, hr, e⟩ := List.mem_map.mp h
    rw [← e]; exact hw r hr
  · exact kD p (mem_rest hp h) q hq
-- a list comprehension with a test over a dict's values
section
variable {prog : Program} {w : World} {A : Around} {E : Value → Shared → Prop} {s : Shared} {h₀ : Heap} {L : Addr} {m : Str → Option Value} {env : Env}
def CompSrcV (prog : Program) (w : World) (A : Around) (h₀ : Heap) (L : Addr) (m : Str → Option Value) (env : Env) (ct elt : Expr) (x : Str) (scope : Scope) (cl : List (Str × Addr)) (Fin : Shared → List Value → List (Addr × Obj) → Prop) (xv : Value) (s₁ : Shared) : Prop :=
  ∃ (D d : Addr) (o : Obj) (kvs : List (Str × Value)) (news : List (Addr × Obj)), xv = .ref D ∧ A.handled = none ∧ Fr h₀ L s₁.heap m ∧ News h₀ L s₁.heap news ∧ s₁.heap.IsValuesView D d ∧ (d, o) ∈ news ∧ o.IsDictOf (PySem.strKind prog w) kvs ∧ kvs.length ≤ sizeLine ∧
    ∀ s₂ : Shared, (∃ h, s₂ = { s₁ with heap := h }) → LCt.CompRestT prog w A h₀ L m env ct elt x scope cl s₂ (fun nw => (d, o) ∈ nw) (fun i v => ∃ k, kvs[i]? = some (k, v)) (Fin s₂) kvs.length 0 [] news
theorem ListComp_V {ct elt iter : Expr} {x : Str} {px : Pos} {scope : Scope} {cl : List (Str × Addr)} {pos : Pos} {Q : Value → Shared → Prop} (_F₀ : Fr h₀ L s.heap m)
    (hclos : closureFor scope env = pure cl) (hcell : ∀ y ∈ scope.names, y.2 ≠ .cell) (hkind : scope.kind = .function)
    (hnames : ∀ y ∈ scope.names, y.2 = .local → scope.names.lookup y.1 = some .local) (hx : scope.names.lookup x = some .local)
    (h : wpAny (model prog w) A (eval iter env) (CompSrcV prog w A h₀ L m env ct elt x scope cl (fun s₂ => LCg.FinE h₀ L m s₂ Q)) E s)
    (hs : ∀ x, foldedSetIterable iter env x = pure x := by intro _; rfl) :
    wpAny (model prog w) A (eval (.ListComp elt [⟨.Name x px, iter, [ct], 0⟩] scope pos) env) Q E s := by
  rw [eval_ListComp]
  refine wpAny_comprehension_free (use := none) rfl hs hclos hkind hnames (wpAny_mono h (fun xv s₁ h₁ => ?_) fun _ _ e => e)
  obtain ⟨D, d, o, kvs, news, rfl, hh, F, N, hv, hm, hd, hsz, R⟩ := h₁
  have hat0 := (N _ hm).1
  obtain ⟨es, ep, he, hdat, hk, hp, hn⟩ := hd
  have at9 : ∀ g : Heap, g.get? d = some o → g.DictAt (PySem.strKind prog w) d kvs ep := fun g e => ⟨o, es, e, he, hdat, hk, hp, hn⟩
  have hne : d ≠ s₁.heap.objs.size := Nat.ne_of_lt (Heap.lt_size hat0)
  refine wpAny_pyIter_values hv (at9 _ hat0) ?_
  have up : ∀ b ob, s₁.heap.get? b = some ob → (s₁.heap.push { cls := .type "dict_valueiterator", data := .fields #[.ref d, .int 0 0, .int kvs.length 0, .int ep 0] }).get? b = some ob := fun b ob e => Heap.get?_push_of_some _ e
  refine LCt.block_T (S := fun nw => (d, o) ∈ nw) (Walks.dictValues (knd := PySem.strKind prog w) hh s₁.heap.objs.size d hne kvs ep) hsz (fun i h st => by obtain ⟨ob, e, _⟩ := st.1; exact ⟨ob, e⟩) ?hSt hcell hkind hx ⟨⟨_, Heap.get?_push_size _ rfl, rfl, rfl⟩, at9 _ (up _ _ hat0)⟩ (fun b hb => ?_)
    (F.keeps up) (N.grown up) (Nat.ne_of_lt F.ns.lt) (next_is_new F) (fun p hp => Nat.ne_of_lt (Heap.lt_size (N p hp).1)) hm (R _ ⟨_, rfl⟩) ?_
  case hSt =>
    intro i g g' ob nw st e1 e2 _ Nw hw
    obtain ⟨oi, ei, r⟩ := st.1
    rw [e1] at ei
    cases ei
    exact ⟨⟨ob, e2, r⟩, at9 _ (Nw _ hw).1⟩
  · show b < (s₁.heap.push _).objs.size
    rw [Heap.size_push]
    rcases List.mem_cons.mp hb with rfl | hb
    · exact Nat.lt_succ_self _
    · rw [List.mem_singleton.mp hb]; exact Nat.lt_succ_of_lt (Heap.lt_size hat0)
  · intro D C h tk m' ys news' F' N' o1 hn hC₀ hD₀ hCL hDL hCD offC fin
    refine ⟨m', hn, fun h'' hs'' => fin D h'' tk (F'.change hs'' hCL hC₀) (fun p hp => ?_) o1⟩
    refine ⟨hs''.extBut _ _ ?_ (N' p hp).1, (N' p hp).2⟩
    rcases List.mem_cons.mp hp with rfl | hp
    · exact Ne.symm hCD
    · exact offC p hp
end
-- a for-loop over a list that its own turns make longer
section
variable {prog : Program} {w : World} {A : Around} {E : Value → Shared → Prop} {s : Shared} {env : Env} {h₀ : Heap} {body : List Stmt} {Q : Flow → Shared → Prop}
theorem For_grow {iter : Expr} {x : Str} {px pos : Pos} {ax : Addr} (bound : Nat) (J : Nat → (Str → Option Value) → List (Addr × Obj) → Prop)
    (hh : A.handled = none)
    (h : wpAny (model prog w) A (eval iter env) (fun xv s₁ => xv = .ref ax ∧ ∃ m₀ news₀ h₁ tk₁, s₁ = { s with heap := h₁, toks := tk₁ } ∧ Fr h₀ env.locals h₁ m₀ ∧ News h₀ env.locals h₁ news₀ ∧ J 0 m₀ news₀) E s)
    (hl : ∀ i m news, J i m news → i ≤ bound ∧ ∃ vs n, (ax, listOf (List.toArray vs) n) ∈ news)
    (turn : ∀ I i v m news vs n h tk (o : Obj), J i m news → (ax, listOf (List.toArray vs) n) ∈ news → vs[i]? = some v → (∀ p ∈ news, p.1 ≠ I) → Fr h₀ env.locals h m → o.cls = .type "list_iterator" → News h₀ env.locals h ((I, o) :: news) →
      wpAny (model prog w) A (assign (.Name x px) env v) (fun _ s₂ => wpAny (model prog w) A (execs body env) (UnrPostW h₀ env.locals { s with heap := h, toks := tk } [(I, o)] (J (i + 1)) Q) E s₂) E { s with heap := h, toks := tk })
    (done : ∀ i m news vs n h tk, J i m news → (ax, listOf (List.toArray vs) n) ∈ news → vs[i]? = none → Fr h₀ env.locals h m → News h₀ env.locals h news → Q .next { s with heap := h, toks := tk })
    (hs : ∀ x, foldedSetIterable iter env x = pure x := by intro _; rfl)
    (hE : PassesOwn (model prog w) A env E := by passes_own) :
    wpAny (model prog w) A (exec (.For (.Name x px) iter body [] pos) env) Q E s := by
  refine wpAny_For (wpAny_mono h (fun xv s₁ h₁ => ?_) fun _ _ e => e) hs
  obtain ⟨rfl, m₀, news₀, h₁, tk₁, rfl, F₀, N₀, J₀⟩ := h₁
  obtain ⟨_, vs₀, n₀, hm₀⟩ := hl _ _ _ J₀
  have hax := (N₀ _ hm₀).1
  refine wpAny_pyIter_list (items := vs₀.toArray) ⟨_, hax, rfl, n₀, rfl⟩ ?_
  have hIn : ∀ p ∈ news₀, p.1 ≠ h₁.objs.size := fun p hp => Nat.ne_of_lt (Heap.lt_size (N₀ p hp).1)
  have hI0 : h₀.get? h₁.objs.size = none := next_is_new F₀
  have hIL : env.locals ≠ h₁.objs.size := Nat.ne_of_lt F₀.ns.lt
  generalize hI : h₁.objs.size = I at *
  refine codeAny_forLoop (fun k s' => ∃ i h' tk m' news', s' = { s with heap := h', toks := tk } ∧ h'.IsListIter I ax i ∧ Fr h₀ env.locals h' m' ∧ News h₀ env.locals h' news' ∧ (∀ p ∈ news', p.1 ≠ I) ∧ J i m' news' ∧ k = bound + 1 - i) ?_ (bound + 1) ?_
  · rintro k s' ⟨i, h', tk, m', news', rfl, hit, F', N', off, hJ, rfl⟩
    obtain ⟨hib, vs, n, hm⟩ := hl _ _ _ hJ
    have hax' : h'.IsList ax vs.toArray := ⟨_, (N' _ hm).1, rfl, n, rfl⟩
    cases hv : vs[i]? with
    | none =>
      refine wpAny_pyNext_list_end hh hit hax' (by simpa using hv) fun h₂ hk => wpAny_execs_nil ?_
      refine done i m' news' vs n h₂ tk hJ hm hv ⟨F'.ns.at' fun o e => hk _ o hIL e, fun b o e => hk b o (fun q => by rw [q, hI0] at e; cases e) (F'.keep b o e), F'.above⟩ fun p hp => ⟨hk _ _ (off p hp) (N' p hp).1, (N' p hp).2⟩
    | some v =>
      refine wpAny_pyNext_list_item hit hax' (by simpa using hv) fun h₂ hit₂ hk => ?_
      have hk' : ∀ b o, b ≠ I → h'.get? b = some o → h₂.get? b = some o := fun b o hb e => hk.extBut b o hb e
      have F₂ : Fr h₀ env.locals h₂ m' := ⟨F'.ns.at' fun o e => hk' _ o hIL e, fun b o e => hk' b o (fun q => by rw [q, hI0] at e; cases e) (F'.keep b o e), F'.above⟩
      obtain ⟨o, ho, hoc, hod⟩ := id hit₂
      have N₂ : News h₀ env.locals h₂ ((I, o) :: news') := fun p hp => by
        rcases List.mem_cons.mp hp with rfl | hp
        · exact ⟨ho, fun q => hIL q.symm, hI0⟩
        · exact ⟨hk' _ _ (off p hp) (N' p hp).1, (N' p hp).2⟩
      have fin : ∀ s₃, UnrEndW h₀ env.locals { s with heap := h₂, toks := tk } [(I, o)] (J (i + 1)) s₃ → ∃ m, m < bound + 1 - i ∧ ∃ i h' tk m' news', s₃ = { s with heap := h', toks := tk } ∧ h'.IsListIter I ax i ∧ Fr h₀ env.locals h' m' ∧ News h₀ env.locals h' news' ∧ (∀ p ∈ news', p.1 ≠ I) ∧ J i m' news' ∧ m = bound + 1 - i := by
        rintro s₃ ⟨h₃, tk₃, m₃, news₃, rfl, F₃, N₃, off₃, J₃⟩
        have hb := (hl _ _ _ J₃).1
        exact ⟨bound + 1 - (i + 1), by omega, i + 1, h₃, tk₃, m₃, news₃, rfl, ⟨o, (N₃ _ (List.mem_append_left _ (List.mem_singleton.mpr rfl))).1, hoc, hod⟩, F₃, fun p hp => N₃ p (List.mem_append_right _ hp), fun p hp => off₃ p hp _ (List.mem_singleton.mpr rfl), J₃, rfl⟩
      refine wpAny_mono (turn I i v m' news' vs n h₂ tk o hJ hm hv off F₂ hoc N₂) (fun _ s₂ h₂ => wpAny_passesOwn hE (wpAny_mono h₂ (fun f s₃ p => ?_) fun _ _ e => e)) hE
      cases f with
      | ret v => exact p
      | brk => exact p
      | next => exact fin _ p
      | cont => exact fin _ p
  · refine ⟨0, _, _, m₀, news₀, rfl, ⟨_, by rw [← hI]; exact Heap.get?_push_size _ rfl, rfl, rfl⟩, F₀.push _, fun p hp => ⟨Heap.get?_push_of_some _ (N₀ p hp).1, (N₀ p hp).2⟩, hIn, J₀, rfl⟩
end
set_option genInjectivity false in
set_option genSizeOf false in
structure NetP where
  (net dn jl pd pp ppd cd cu cud : Addr)
  (a1 a2 a3 a4 a5 a6 b1 b2 b3 b4 b5 b6 b7 b8 c1 c2 c3 c4 c5 e1 e2 s1 s2 s3 s4 s5 s6 s7 s8 : Tok)
  (gr bd nm ln rs lo li nc dr le : Value) (dl : Addr) (opd ocd : Obj)
section
theorem words6 : True := by
  k_with_none
  k_with "ne9" => (first | with_reducible assumption | exact Ne.symm (by with_reducible assumption) | omega)
  k_with "k_in" => (refine' in_of ?z1fF ?z1fX; (case z1fF => k_asm); (case z1fX => k_asm))
  k_with "call ref" => (k_here; (with_reducible show wpAny _ _ (call (Value.ref 64) [Value.int _ _, Value.int _ _]) _ _ _); k_dflt (refine' div_use _ _ _ _ _ _ _ _ _ _ _ _ _ _ _ _ _ _ _ _ _ _ ?z2k1 ?z2k2 ?z2k3 ?z2k4 ?z2k5 ?z2k6 ?z2k7 ?z2k8 ?z2k9 ?z2k10 ?_; (case z2k1 => k_asm); (case z2k2 => k_asm); (case z2k3 => k_asm); (case z2k4 => k_asm); (case z2k5 => k_asm); (case z2k6 => first | exact rfl | assumption); (case z2k7 => ktr_room); (case z2k8 => ktr_units); (case z2k9 => omega); (case z2k10 => first | assumption | exact Fits.neg (by assumption) | exact Fits.of (n := 64) (PySem.intBits_le_64 (by omega) (by omega)) (by decide)); k_whole); walk_at "i0"; (try k_sweep))
  k_with "binaryOp FloorDiv int int" => (with_reducible refine floordiv_int ?z3ne ?_ (Or.inl (PyProof.noPylong_of_log2 ?z3lg)); (case z3lg => with_reducible assumption); (case z3ne => omega))
  k_with "hat9" => (first | exact News.get (by k_asm) (by k_mem) | exact Fr.keep (by k_asm) _ _ (by with_reducible assumption) | exact Tk.get (by k_asm) (by k_asm) (by with_reducible assumption) (by intro p9 hp9; first | exact hp9 | exact absurd hp9 List.not_mem_nil | (repeat (first | exact hp9 | refine List.mem_cons_of_mem _ ?_))) | exact Frag.In.keeps (by k_asm) (Fr.keep (by k_asm)) _ _ (by k_is))
  k_with "ktr_units" => ((try simp only [units_under_make, units_in1, units_deeper, Around.mark_units, units_caller]); (try dsimp only [ktrTop]); first | exact un1 (by with_reducible assumption) (Nat.le_of_ble_eq_true rfl) | exact un2 (by with_reducible assumption) (Nat.le_of_ble_eq_true rfl) | exact un3 (by with_reducible assumption) (Nat.le_of_ble_eq_true rfl) | (have hcL9 := cLine_is; omega))
  k_with "eval Name" => (k_here; k_dflt (refine' ld ?z18k1 ?z18k2 ?_; (case z18k1 => k_asm); (case z18k2 => first | exact rfl | assumption); k_whole))
  k_with "eval ListComp" => (k_here; lct_look; k_dflt (refine ListComp_V (_F₀ := by k_asm) (by with_unfolding_all rfl) (by decide) (by rfl) (by decide) (by rfl) ?_))
  k_with "CompSrcV" => (refine Hold.out ?_)
  k_with "CompEnd" => (show LCg.CompEnd _ _ _ _ _ _ _ _ _ _ _ _ _ _; refine Hold.out ?_)
  trivial
theorem open_c {w : World} {p : Program} {loose : List Str} {mean : ExcName → Option Value} {mg mb : Str → Option Value} {dp un : Nat} {gd : Option (List Code)} {cn : Str} {cs : Scope} {a : Addr} {ccd : Value} {cl : List (Str × Addr)} {outer : List Env} {A₀ : Around} {base h₀ : Heap} {L : Addr} {m : Str → Option Value} {news : List (Addr × Obj)} {s : Shared} {Q E : Value → Shared → Prop} {z : NetP}
    (B : Below A₀ base outer h₀) (F : Fr h₀ L s.heap m) (X : (HD.K w.params).In h₀) (N : News h₀ L s.heap news) (T : Top p loose mean mg mb h₀) (hk : cs.kind = .function) (hn : ∀ p ∈ [(z.net, instObj 298 z.dn), (z.dn, dictOf [⟨PyData.keyHash w.params (Str.ofString "ground"), .str (Str.ofString "ground") z.a1, z.gr⟩, ⟨PyData.keyHash w.params (Str.ofString "joints"), .str (Str.ofString "joints") z.a2, .ref z.jl⟩, ⟨PyData.keyHash w.params (Str.ofString "source"), .str (Str.ofString "source") z.a3, .str (Str.ofString "a") z.s1⟩, ⟨PyData.keyHash w.params (Str.ofString "pipes"), .str (Str.ofString "pipes") z.a4, .ref z.pd⟩, ⟨PyData.keyHash w.params (Str.ofString "consumers"), .str (Str.ofString "consumers") z.a5, .ref z.cd⟩, ⟨PyData.keyHash w.params (Str.ofString "bypasses"), .str (Str.ofString "bypasses") z.a6, z.bd⟩] 6), (z.pd, z.opd), (z.pp, instObj 139 z.ppd), (z.ppd, dictOf [⟨PyData.keyHash w.params (Str.ofString "name"), .str (Str.ofString "name") z.b1, z.nm⟩, ⟨PyData.keyHash w.params (Str.ofString "start"), .str (Str.ofString "start") z.b2, .str (Str.ofString "a") z.s4⟩, ⟨PyData.keyHash w.params (Str.ofString "end"), .str (Str.ofString "end") z.b3, .str (Str.ofString "b") z.s5⟩, ⟨PyData.keyHash w.params (Str.ofString "length"), .str (Str.ofString "length") z.b4, z.ln⟩, ⟨PyData.keyHash w.params (Str.ofString "resistance"), .str (Str.ofString "resistance") z.b5, z.rs⟩, ⟨PyData.keyHash w.params (Str.ofString "loss"), .str (Str.ofString "loss") z.b6, z.lo⟩, ⟨PyData.keyHash w.params (Str.ofString "litres"), .str (Str.ofString "litres") z.b7, z.li⟩, ⟨PyData.keyHash w.params (Str.ofString "open"), .str (Str.ofString "open") z.b8, .bool true⟩] 8)], p ∈ news) (lpd : (z.pd == sysModules) = false) (hpd : z.opd.IsDictOf (PySem.strKind PySem.Challenge.rw_ui0509_14.row.prog w) [(Str.ofString "p", Value.ref z.pp)])
    (hd : dp + 4 < recursionLimit) (hu : un + 100 < cLine)
    (hret : ∀ (D : Addr) (n : Nat) (h' : Heap) (tk' : Nat), Fr h₀ L h' m → News h₀ L h' ((D, listOf [.ref z.pp].toArray n) :: news) → (∀ p ∈ news, p.1 ≠ D) → Q (.ref D) { s with heap := h', toks := tk' }) :
    wpAny (model PySem.Challenge.rw_ui0509_14.row.prog w) (ktrTop dp un gd cn cs L a ccd cl outer) (call (.ref 255) [.ref z.net]) Q E s := by
  w_top off
  revert X; k_fill; intro X
  refine wpAny_call ?_
  k_dflt (refine' code_need [(z.net, instObj 298 z.dn), (z.dn, dictOf [⟨PyData.keyHash w.params (Str.ofString "ground"), .str (Str.ofString "ground") z.a1, z.gr⟩, ⟨PyData.keyHash w.params (Str.ofString "joints"), .str (Str.ofString "joints") z.a2, .ref z.jl⟩, ⟨PyData.keyHash w.params (Str.ofString "source"), .str (Str.ofString "source") z.a3, .str (Str.ofString "a") z.s1⟩, ⟨PyData.keyHash w.params (Str.ofString "pipes"), .str (Str.ofString "pipes") z.a4, .ref z.pd⟩, ⟨PyData.keyHash w.params (Str.ofString "consumers"), .str (Str.ofString "consumers") z.a5, .ref z.cd⟩, ⟨PyData.keyHash w.params (Str.ofString "bypasses"), .str (Str.ofString "bypasses") z.a6, z.bd⟩] 6), (z.pd, z.opd), (z.pp, instObj 139 z.ppd), (z.ppd, dictOf [⟨PyData.keyHash w.params (Str.ofString "name"), .str (Str.ofString "name") z.b1, z.nm⟩, ⟨PyData.keyHash w.params (Str.ofString "start"), .str (Str.ofString "start") z.b2, .str (Str.ofString "a") z.s4⟩, ⟨PyData.keyHash w.params (Str.ofString "end"), .str (Str.ofString "end") z.b3, .str (Str.ofString "b") z.s5⟩, ⟨PyData.keyHash w.params (Str.ofString "length"), .str (Str.ofString "length") z.b4, z.ln⟩, ⟨PyData.keyHash w.params (Str.ofString "resistance"), .str (Str.ofString "resistance") z.b5, z.rs⟩, ⟨PyData.keyHash w.params (Str.ofString "loss"), .str (Str.ofString "loss") z.b6, z.lo⟩, ⟨PyData.keyHash w.params (Str.ofString "litres"), .str (Str.ofString "litres") z.b7, z.li⟩, ⟨PyData.keyHash w.params (Str.ofString "open"), .str (Str.ofString "open") z.b8, .bool true⟩] 8)] ?k1 ?k2 ?k3 ?k4 ?k5 ?kA ?kF ?kK ?k6 ?k7 ?k8 ?k9 ?kB ?kN ?_ ?c2 ?c3 ?c4 ?c5; (case kA => exact rfl); (case kF => exact rfl); (case kK => assumption); (case k1 => k_asm); (case k2 => k_asm); (case k3 => k_asm); (case k4 => k_asm); (case k5 => k_asm); (case k6 => k_is); (case k7 => k_is); (case k8 => ktr_room); (case k9 => first | exact BindsTo.of_eq rfl | exact binds_K (by k_in) rfl (by k_is) rfl rfl rfl); (case c5 => decide); (case kB => exact locs rfl); (case kN => exact hn); (case c2 => exact rfl); (case c3 => exact rfl); (case c4 => exact rfl); k_whole; intro g' L' h' tk0 FG' F' N' B' X' T' hG'; (try dsimp only); (try k_fold))
  k_steps
  unfold Hold
  (rename News _ _ _ _ => N9)
  (rename Fr _ _ _ _ => F9)
  refine ⟨_, _, _, _, _, rfl, rfl, F9, N9, ⟨_, N9.get (List.mem_cons_self ..), rfl, rfl⟩, by k_mem, hpd, Nat.le_of_ble_eq_true rfl, ?_⟩
  rintro _ ⟨g9, rfl⟩
  refine LCt.CompRestT.succ ?_
  intro v I oI C oC D9 m2 h tk E' hP hC hx Fm Nn off ne
  obtain ⟨kk, hP⟩ := hP
  obtain rfl : v = Value.ref z.pp := by have := hP; simp at this; exact this.2.symm
  clear F9 N9
  have off' := off
  simp only [LCg.Off3, and_true, and_assoc] at off'
  k_steps
  unfold Hold
  refine LCg.CompEnd.intro (by k_asm) (by k_asm) _ (fun _ h => h) off (by k_mem) (LCt.CompRestT.zero ?_)
  intro D h8 tk8 F8 N8 off8
  simp only [LCg.Off1, and_true] at off8
  k_steps
  try dsimp only
  refine leaveN_ (by k_asm) (by k_asm) ?_; intro kF kN kR kD; (try dsimp only)
  exact hret _ _ _ _ kF (news_cons kN (List.mem_cons_self ..) (news_back N hn kN (by intro p9 hp9; first | exact hp9 | exact absurd hp9 List.not_mem_nil | (repeat (first | exact hp9 | refine List.mem_cons_of_mem _ ?_))) kR)) (neW kD (List.mem_cons_self ..) (fcons off8.2.1 (fcons off8.2.2.1 (fcons off8.2.2.2.1 (fcons off8.2.2.2.2.1 (fcons off8.2.2.2.2.2 (List.forall_mem_nil _)))))))
end
section
theorem words7 : True := by
  k_with_none
  k_with "ne9" => (first | with_reducible assumption | exact Ne.symm (by with_reducible assumption) | omega)
  k_with "k_in" => (refine' in_of ?z1fF ?z1fX; (case z1fF => k_asm); (case z1fX => k_asm))
  k_with "call ref" => (k_here; (with_reducible show wpAny _ _ (call (Value.ref 64) [Value.int _ _, Value.int _ _]) _ _ _); k_dflt (refine' div_use _ _ _ _ _ _ _ _ _ _ _ _ _ _ _ _ _ _ _ _ _ _ ?z2k1 ?z2k2 ?z2k3 ?z2k4 ?z2k5 ?z2k6 ?z2k7 ?z2k8 ?z2k9 ?z2k10 ?_; (case z2k1 => k_asm); (case z2k2 => k_asm); (case z2k3 => k_asm); (case z2k4 => k_asm); (case z2k5 => k_asm); (case z2k6 => first | exact rfl | assumption); (case z2k7 => ktr_room); (case z2k8 => ktr_units); (case z2k9 => omega); (case z2k10 => first | assumption | exact Fits.neg (by assumption) | exact Fits.of (n := 64) (PySem.intBits_le_64 (by omega) (by omega)) (by decide)); k_whole); walk_at "i0"; (try k_sweep))
  k_with "binaryOp FloorDiv int int" => (with_reducible refine floordiv_int ?z3ne ?_ (Or.inl (PyProof.noPylong_of_log2 ?z3lg)); (case z3lg => with_reducible assumption); (case z3ne => omega))
  k_with "hat9" => (first | exact News.get (by k_asm) (by k_mem) | exact Fr.keep (by k_asm) _ _ (by with_reducible assumption) | exact Tk.get (by k_asm) (by k_asm) (by with_reducible assumption) (by intro p9 hp9; first | exact hp9 | exact absurd hp9 List.not_mem_nil | (repeat (first | exact hp9 | refine List.mem_cons_of_mem _ ?_))) | exact Frag.In.keeps (by k_asm) (Fr.keep (by k_asm)) _ _ (by k_is))
  k_with "ktr_units" => ((try simp only [units_under_make, units_in1, units_deeper, Around.mark_units, units_caller]); (try dsimp only [ktrTop]); first | exact un1 (by with_reducible assumption) (Nat.le_of_ble_eq_true rfl) | exact un2 (by with_reducible assumption) (Nat.le_of_ble_eq_true rfl) | exact un3 (by with_reducible assumption) (Nat.le_of_ble_eq_true rfl) | (have hcL9 := cLine_is; omega))
  k_with "eval Name" => (k_here; k_dflt (refine' nameX_L ?z19k1 ?z19k2 ?_ ?z19k3 ?z19k4; (case z19k1 => k_asm); (case z19k2 => first | exact rfl | assumption); (case z19k3 => rfl); (case z19k4 => rfl); k_whole))
  k_with "eval ListComp" => (k_here; lct_look; k_dflt (refine LCt.ListComp_T (F₀ := by k_asm) (by with_unfolding_all rfl) (by decide) (by rfl) (by decide) (by rfl) ?_))
  k_with "CompSrcT" => (refine Hold.out ?_)
  k_with "CompEnd" => (show LCg.CompEnd _ _ _ _ _ _ _ _ _ _ _ _ _ _; refine Hold.out ?_)
  k_with "call ref" => (k_here; (with_reducible show wpAny _ _ (call (Value.ref 255) _ _) _ _ _); refine Hold.out ?_)
  trivial
theorem at_a {w : World} {p : Program} {loose : List Str} {mean : ExcName → Option Value} {mg mb : Str → Option Value} {dp un : Nat} {gd : Option (List Code)} {cn : Str} {cs : Scope} {a : Addr} {ccd : Value} {cl : List (Str × Addr)} {outer : List Env} {A₀ : Around} {base h₀ : Heap} {L : Addr} {m : Str → Option Value} {news : List (Addr × Obj)} {s : Shared} {Q E : Value → Shared → Prop} {z : NetP} {tj : Tok}
    (B : Below A₀ base outer h₀) (F : Fr h₀ L s.heap m) (X : (HD.K w.params).In h₀) (N : News h₀ L s.heap news) (T : Top p loose mean mg mb h₀) (hk : cs.kind = .function) (hn : ∀ p ∈ [(z.net, instObj 298 z.dn), (z.dn, dictOf [⟨PyData.keyHash w.params (Str.ofString "ground"), .str (Str.ofString "ground") z.a1, z.gr⟩, ⟨PyData.keyHash w.params (Str.ofString "joints"), .str (Str.ofString "joints") z.a2, .ref z.jl⟩, ⟨PyData.keyHash w.params (Str.ofString "source"), .str (Str.ofString "source") z.a3, .str (Str.ofString "a") z.s1⟩, ⟨PyData.keyHash w.params (Str.ofString "pipes"), .str (Str.ofString "pipes") z.a4, .ref z.pd⟩, ⟨PyData.keyHash w.params (Str.ofString "consumers"), .str (Str.ofString "consumers") z.a5, .ref z.cd⟩, ⟨PyData.keyHash w.params (Str.ofString "bypasses"), .str (Str.ofString "bypasses") z.a6, z.bd⟩] 6), (z.pd, z.opd), (z.pp, instObj 139 z.ppd), (z.ppd, dictOf [⟨PyData.keyHash w.params (Str.ofString "name"), .str (Str.ofString "name") z.b1, z.nm⟩, ⟨PyData.keyHash w.params (Str.ofString "start"), .str (Str.ofString "start") z.b2, .str (Str.ofString "a") z.s4⟩, ⟨PyData.keyHash w.params (Str.ofString "end"), .str (Str.ofString "end") z.b3, .str (Str.ofString "b") z.s5⟩, ⟨PyData.keyHash w.params (Str.ofString "length"), .str (Str.ofString "length") z.b4, z.ln⟩, ⟨PyData.keyHash w.params (Str.ofString "resistance"), .str (Str.ofString "resistance") z.b5, z.rs⟩, ⟨PyData.keyHash w.params (Str.ofString "loss"), .str (Str.ofString "loss") z.b6, z.lo⟩, ⟨PyData.keyHash w.params (Str.ofString "litres"), .str (Str.ofString "litres") z.b7, z.li⟩, ⟨PyData.keyHash w.params (Str.ofString "open"), .str (Str.ofString "open") z.b8, .bool true⟩] 8)], p ∈ news) (lpd : (z.pd == sysModules) = false) (hpd : z.opd.IsDictOf (PySem.strKind PySem.Challenge.rw_ui0509_14.row.prog w) [(Str.ofString "p", Value.ref z.pp)])
    (hd : dp + 8 < recursionLimit) (hu : un + 200 < cLine)
    (hret : ∀ (D : Addr) (n : Nat) (h' : Heap) (tk' : Nat), Fr h₀ L h' m → News h₀ L h' ((D, listOf [.ref z.pp].toArray n) :: news) → (∀ p ∈ news, p.1 ≠ D) → Q (.ref D) { s with heap := h', toks := tk' }) :
    wpAny (model PySem.Challenge.rw_ui0509_14.row.prog w) (ktrTop dp un gd cn cs L a ccd cl outer) (call (.ref 260) [.ref z.net, .str (Str.ofString "a") tj]) Q E s := by
  w_top off
  revert X; k_fill; intro X
  refine wpAny_call ?_
  k_dflt (refine' code_needC [(z.net, instObj 298 z.dn), (z.dn, dictOf [⟨PyData.keyHash w.params (Str.ofString "ground"), .str (Str.ofString "ground") z.a1, z.gr⟩, ⟨PyData.keyHash w.params (Str.ofString "joints"), .str (Str.ofString "joints") z.a2, .ref z.jl⟩, ⟨PyData.keyHash w.params (Str.ofString "source"), .str (Str.ofString "source") z.a3, .str (Str.ofString "a") z.s1⟩, ⟨PyData.keyHash w.params (Str.ofString "pipes"), .str (Str.ofString "pipes") z.a4, .ref z.pd⟩, ⟨PyData.keyHash w.params (Str.ofString "consumers"), .str (Str.ofString "consumers") z.a5, .ref z.cd⟩, ⟨PyData.keyHash w.params (Str.ofString "bypasses"), .str (Str.ofString "bypasses") z.a6, z.bd⟩] 6), (z.pd, z.opd), (z.pp, instObj 139 z.ppd), (z.ppd, dictOf [⟨PyData.keyHash w.params (Str.ofString "name"), .str (Str.ofString "name") z.b1, z.nm⟩, ⟨PyData.keyHash w.params (Str.ofString "start"), .str (Str.ofString "start") z.b2, .str (Str.ofString "a") z.s4⟩, ⟨PyData.keyHash w.params (Str.ofString "end"), .str (Str.ofString "end") z.b3, .str (Str.ofString "b") z.s5⟩, ⟨PyData.keyHash w.params (Str.ofString "length"), .str (Str.ofString "length") z.b4, z.ln⟩, ⟨PyData.keyHash w.params (Str.ofString "resistance"), .str (Str.ofString "resistance") z.b5, z.rs⟩, ⟨PyData.keyHash w.params (Str.ofString "loss"), .str (Str.ofString "loss") z.b6, z.lo⟩, ⟨PyData.keyHash w.params (Str.ofString "litres"), .str (Str.ofString "litres") z.b7, z.li⟩, ⟨PyData.keyHash w.params (Str.ofString "open"), .str (Str.ofString "open") z.b8, .bool true⟩] 8)] ?k1 ?k2 ?k3 ?k4 ?k5 ?kA ?kF ?kK ?k6 ?k7 ?k8 ?k9 ?kB ?kD ?kN ?_ ?c2 ?c3 ?c4; (case kA => exact rfl); (case kF => exact rfl); (case kK => assumption); (case k1 => k_asm); (case k2 => k_asm); (case k3 => k_asm); (case k4 => k_asm); (case k5 => k_asm); (case k6 => k_is); (case k7 => k_is); (case k8 => ktr_room); (case k9 => first | exact BindsTo.of_eq rfl | exact binds_K (by k_in) rfl (by k_is) rfl rfl rfl); (case kB => exact rfl); (case kD => decide +kernel); (case kN => exact hn); (case c2 => exact rfl); (case c3 => exact rfl); (case c4 => exact rfl); k_whole; intro g' L' h' tk0 cells' FG' F' N' Y' B' X' T' l1 hG')
  obtain ⟨o1, rfl, q1⟩ := CellsAre.one Y'
  clear Y'
  (try simp only [List.cons_append, List.nil_append] at N')
  (try dsimp only); (try k_fold)
  replace q1 : o1.data = .cell (some (.str (Str.ofString "a") tj)) := q1
  k_steps
  unfold Hold
  k_dflt (refine' open_c (z := z) ?k1 ?k2 ?k3 ?k4 ?k5 ?k6 ?hn ?lpd ?hpd ?k7 ?k8 ?_)
  case k1 => k_asm
  case k2 => k_asm
  case k3 => k_asm
  case k4 => k_asm
  case k5 => k_asm
  case k6 => first | exact rfl | assumption
  case k7 => ktr_room
  case k8 => ktr_units
  case hn => exact (by intro p9 hp9; first | exact hp9 | exact absurd hp9 List.not_mem_nil | (repeat (first | exact hp9 | refine List.mem_cons_of_mem _ ?_)))
  case lpd => exact lpd
  case hpd => exact hpd

  intro D5 n5 h5 tk5 F5 N5 l5
  replace l5 := allNe_of l5
  simp only [AllNe, and_true] at l5
  k_steps
  unfold Hold
  (rename News _ _ _ _ => N9)
  refine LCt.CompSrcT.ledger rfl (by k_asm) N9 (List.mem_cons_self ..) (Nat.le_of_ble_eq_true rfl) (fun g9 => ?_)
  refine LCt.CompRestT.succ ?_
  intro v I oI C oC D9 m2 h tk E' hP hC hx Fm Nn off ne
  obtain rfl : v = Value.ref z.pp := by have := hP; simp at this; exact this.symm
  clear N9
  have off' := off
  simp only [LCg.Off3, and_true, and_assoc] at off'
  k_steps
  unfold Hold
  refine LCg.CompEnd.intro (by k_asm) (by k_asm) _ (fcons (by k_mem) (fcons (by k_mem) (fcons (by k_mem) (fcons (by k_mem) (fcons (by k_mem) (fcons (by k_mem) (fcons (by k_mem) (fcons (by k_mem) (fcons (by k_mem) (fcons (by k_mem) (List.forall_mem_nil _))))))))))) off (.inr ⟨_, List.mem_cons_self .., rfl, _, rfl⟩) (LCt.CompRestT.zero ?_)
  intro D h8 tk8 F8 N8 off8
  simp only [LCg.Off1, and_true] at off8
  k_steps
  try dsimp only
  refine leaveN_ (by k_asm) (by k_asm) ?_; intro kF kN kR kD; (try dsimp only)
  exact hret _ _ _ _ kF (news_cons kN (List.mem_cons_self ..) (news_back N hn kN (by intro p9 hp9; first | exact hp9 | exact absurd hp9 List.not_mem_nil | (repeat (first | exact hp9 | refine List.mem_cons_of_mem _ ?_))) kR)) (neW kD (List.mem_cons_self ..) (fcons off8.2.2.1 (fcons off8.2.2.2.1 (fcons off8.2.2.2.2.1 (fcons off8.2.2.2.2.2.1 (fcons off8.2.2.2.2.2.2 (List.forall_mem_nil _)))))))
theorem at_b {w : World} {p : Program} {loose : List Str} {mean : ExcName → Option Value} {mg mb : Str → Option Value} {dp un : Nat} {gd : Option (List Code)} {cn : Str} {cs : Scope} {a : Addr} {ccd : Value} {cl : List (Str × Addr)} {outer : List Env} {A₀ : Around} {base h₀ : Heap} {L : Addr} {m : Str → Option Value} {news : List (Addr × Obj)} {s : Shared} {Q E : Value → Shared → Prop} {z : NetP} {tj : Tok}
    (B : Below A₀ base outer h₀) (F : Fr h₀ L s.heap m) (X : (HD.K w.params).In h₀) (N : News h₀ L s.heap news) (T : Top p loose mean mg mb h₀) (hk : cs.kind = .function) (hn : ∀ p ∈ [(z.net, instObj 298 z.dn), (z.dn, dictOf [⟨PyData.keyHash w.params (Str.ofString "ground"), .str (Str.ofString "ground") z.a1, z.gr⟩, ⟨PyData.keyHash w.params (Str.ofString "joints"), .str (Str.ofString "joints") z.a2, .ref z.jl⟩, ⟨PyData.keyHash w.params (Str.ofString "source"), .str (Str.ofString "source") z.a3, .str (Str.ofString "a") z.s1⟩, ⟨PyData.keyHash w.params (Str.ofString "pipes"), .str (Str.ofString "pipes") z.a4, .ref z.pd⟩, ⟨PyData.keyHash w.params (Str.ofString "consumers"), .str (Str.ofString "consumers") z.a5, .ref z.cd⟩, ⟨PyData.keyHash w.params (Str.ofString "bypasses"), .str (Str.ofString "bypasses") z.a6, z.bd⟩] 6), (z.pd, z.opd), (z.pp, instObj 139 z.ppd), (z.ppd, dictOf [⟨PyData.keyHash w.params (Str.ofString "name"), .str (Str.ofString "name") z.b1, z.nm⟩, ⟨PyData.keyHash w.params (Str.ofString "start"), .str (Str.ofString "start") z.b2, .str (Str.ofString "a") z.s4⟩, ⟨PyData.keyHash w.params (Str.ofString "end"), .str (Str.ofString "end") z.b3, .str (Str.ofString "b") z.s5⟩, ⟨PyData.keyHash w.params (Str.ofString "length"), .str (Str.ofString "length") z.b4, z.ln⟩, ⟨PyData.keyHash w.params (Str.ofString "resistance"), .str (Str.ofString "resistance") z.b5, z.rs⟩, ⟨PyData.keyHash w.params (Str.ofString "loss"), .str (Str.ofString "loss") z.b6, z.lo⟩, ⟨PyData.keyHash w.params (Str.ofString "litres"), .str (Str.ofString "litres") z.b7, z.li⟩, ⟨PyData.keyHash w.params (Str.ofString "open"), .str (Str.ofString "open") z.b8, .bool true⟩] 8)], p ∈ news) (lpd : (z.pd == sysModules) = false) (hpd : z.opd.IsDictOf (PySem.strKind PySem.Challenge.rw_ui0509_14.row.prog w) [(Str.ofString "p", Value.ref z.pp)])
    (hd : dp + 8 < recursionLimit) (hu : un + 200 < cLine)
    (hret : ∀ (D : Addr) (n : Nat) (h' : Heap) (tk' : Nat), Fr h₀ L h' m → News h₀ L h' ((D, listOf [.ref z.pp].toArray n) :: news) → (∀ p ∈ news, p.1 ≠ D) → Q (.ref D) { s with heap := h', toks := tk' }) :
    wpAny (model PySem.Challenge.rw_ui0509_14.row.prog w) (ktrTop dp un gd cn cs L a ccd cl outer) (call (.ref 260) [.ref z.net, .str (Str.ofString "b") tj]) Q E s := by
  w_top off
  revert X; k_fill; intro X
  refine wpAny_call ?_
  k_dflt (refine' code_needC [(z.net, instObj 298 z.dn), (z.dn, dictOf [⟨PyData.keyHash w.params (Str.ofString "ground"), .str (Str.ofString "ground") z.a1, z.gr⟩, ⟨PyData.keyHash w.params (Str.ofString "joints"), .str (Str.ofString "joints") z.a2, .ref z.jl⟩, ⟨PyData.keyHash w.params (Str.ofString "source"), .str (Str.ofString "source") z.a3, .str (Str.ofString "a") z.s1⟩, ⟨PyData.keyHash w.params (Str.ofString "pipes"), .str (Str.ofString "pipes") z.a4, .ref z.pd⟩, ⟨PyData.keyHash w.params (Str.ofString "consumers"), .str (Str.ofString "consumers") z.a5, .ref z.cd⟩, ⟨PyData.keyHash w.params (Str.ofString "bypasses"), .str (Str.ofString "bypasses") z.a6, z.bd⟩] 6), (z.pd, z.opd), (z.pp, instObj 139 z.ppd), (z.ppd, dictOf [⟨PyData.keyHash w.params (Str.ofString "name"), .str (Str.ofString "name") z.b1, z.nm⟩, ⟨PyData.keyHash w.params (Str.ofString "start"), .str (Str.ofString "start") z.b2, .str (Str.ofString "a") z.s4⟩, ⟨PyData.keyHash w.params (Str.ofString "end"), .str (Str.ofString "end") z.b3, .str (Str.ofString "b") z.s5⟩, ⟨PyData.keyHash w.params (Str.ofString "length"), .str (Str.ofString "length") z.b4, z.ln⟩, ⟨PyData.keyHash w.params (Str.ofString "resistance"), .str (Str.ofString "resistance") z.b5, z.rs⟩, ⟨PyData.keyHash w.params (Str.ofString "loss"), .str (Str.ofString "loss") z.b6, z.lo⟩, ⟨PyData.keyHash w.params (Str.ofString "litres"), .str (Str.ofString "litres") z.b7, z.li⟩, ⟨PyData.keyHash w.params (Str.ofString "open"), .str (Str.ofString "open") z.b8, .bool true⟩] 8)] ?k1 ?k2 ?k3 ?k4 ?k5 ?kA ?kF ?kK ?k6 ?k7 ?k8 ?k9 ?kB ?kD ?kN ?_ ?c2 ?c3 ?c4; (case kA => exact rfl); (case kF => exact rfl); (case kK => assumption); (case k1 => k_asm); (case k2 => k_asm); (case k3 => k_asm); (case k4 => k_asm); (case k5 => k_asm); (case k6 => k_is); (case k7 => k_is); (case k8 => ktr_room); (case k9 => first | exact BindsTo.of_eq rfl | exact binds_K (by k_in) rfl (by k_is) rfl rfl rfl); (case kB => exact rfl); (case kD => decide +kernel); (case kN => exact hn); (case c2 => exact rfl); (case c3 => exact rfl); (case c4 => exact rfl); k_whole; intro g' L' h' tk0 cells' FG' F' N' Y' B' X' T' l1 hG')
  obtain ⟨o1, rfl, q1⟩ := CellsAre.one Y'
  clear Y'
  (try simp only [List.cons_append, List.nil_append] at N')
  (try dsimp only); (try k_fold)
  replace q1 : o1.data = .cell (some (.str (Str.ofString "b") tj)) := q1
  k_steps
  unfold Hold
  k_dflt (refine' open_c (z := z) ?k1 ?k2 ?k3 ?k4 ?k5 ?k6 ?hn ?lpd ?hpd ?k7 ?k8 ?_)
  case k1 => k_asm
  case k2 => k_asm
  case k3 => k_asm
  case k4 => k_asm
  case k5 => k_asm
  case k6 => first | exact rfl | assumption
  case k7 => ktr_room
  case k8 => ktr_units
  case hn => exact (by intro p9 hp9; first | exact hp9 | exact absurd hp9 List.not_mem_nil | (repeat (first | exact hp9 | refine List.mem_cons_of_mem _ ?_)))
  case lpd => exact lpd
  case hpd => exact hpd

  intro D5 n5 h5 tk5 F5 N5 l5
  replace l5 := allNe_of l5
  simp only [AllNe, and_true] at l5
  k_steps
  unfold Hold
  (rename News _ _ _ _ => N9)
  refine LCt.CompSrcT.ledger rfl (by k_asm) N9 (List.mem_cons_self ..) (Nat.le_of_ble_eq_true rfl) (fun g9 => ?_)
  refine LCt.CompRestT.succ ?_
  intro v I oI C oC D9 m2 h tk E' hP hC hx Fm Nn off ne
  obtain rfl : v = Value.ref z.pp := by have := hP; simp at this; exact this.symm
  clear N9
  have off' := off
  simp only [LCg.Off3, and_true, and_assoc] at off'
  k_steps
  unfold Hold
  refine LCg.CompEnd.intro (by k_asm) (by k_asm) _ (fcons (by k_mem) (fcons (by k_mem) (fcons (by k_mem) (fcons (by k_mem) (fcons (by k_mem) (fcons (by k_mem) (fcons (by k_mem) (fcons (by k_mem) (fcons (by k_mem) (fcons (by k_mem) (List.forall_mem_nil _))))))))))) off (.inr ⟨_, List.mem_cons_self .., rfl, _, rfl⟩) (LCt.CompRestT.zero ?_)
  intro D h8 tk8 F8 N8 off8
  simp only [LCg.Off1, and_true] at off8
  k_steps
  try dsimp only
  refine leaveN_ (by k_asm) (by k_asm) ?_; intro kF kN kR kD; (try dsimp only)
  exact hret _ _ _ _ kF (news_cons kN (List.mem_cons_self ..) (news_back N hn kN (by intro p9 hp9; first | exact hp9 | exact absurd hp9 List.not_mem_nil | (repeat (first | exact hp9 | refine List.mem_cons_of_mem _ ?_))) kR)) (neW kD (List.mem_cons_self ..) (fcons off8.2.2.1 (fcons off8.2.2.2.1 (fcons off8.2.2.2.2.1 (fcons off8.2.2.2.2.2.1 (fcons off8.2.2.2.2.2.2 (List.forall_mem_nil _)))))))
end
section
theorem words8 : True := by
  k_with_none
  k_with "ne9" => (first | with_reducible assumption | exact Ne.symm (by with_reducible assumption) | omega)
  k_with "k_in" => (refine' in_of ?z1fF ?z1fX; (case z1fF => k_asm); (case z1fX => k_asm))
  k_with "call ref" => (k_here; (with_reducible show wpAny _ _ (call (Value.ref 64) [Value.int _ _, Value.int _ _]) _ _ _); k_dflt (refine' div_use _ _ _ _ _ _ _ _ _ _ _ _ _ _ _ _ _ _ _ _ _ _ ?z2k1 ?z2k2 ?z2k3 ?z2k4 ?z2k5 ?z2k6 ?z2k7 ?z2k8 ?z2k9 ?z2k10 ?_; (case z2k1 => k_asm); (case z2k2 => k_asm); (case z2k3 => k_asm); (case z2k4 => k_asm); (case z2k5 => k_asm); (case z2k6 => first | exact rfl | assumption); (case z2k7 => ktr_room); (case z2k8 => ktr_units); (case z2k9 => omega); (case z2k10 => first | assumption | exact Fits.neg (by assumption) | exact Fits.of (n := 64) (PySem.intBits_le_64 (by omega) (by omega)) (by decide)); k_whole); walk_at "i0"; (try k_sweep))
  k_with "binaryOp FloorDiv int int" => (with_reducible refine floordiv_int ?z3ne ?_ (Or.inl (PyProof.noPylong_of_log2 ?z3lg)); (case z3lg => with_reducible assumption); (case z3ne => omega))
  k_with "hat9" => (first | exact News.get (by k_asm) (by k_mem) | exact Fr.keep (by k_asm) _ _ (by with_reducible assumption) | exact Tk.get (by k_asm) (by k_asm) (by with_reducible assumption) (by intro p9 hp9; first | exact hp9 | exact absurd hp9 List.not_mem_nil | (repeat (first | exact hp9 | refine List.mem_cons_of_mem _ ?_))) | exact Frag.In.keeps (by k_asm) (Fr.keep (by k_asm)) _ _ (by k_is))
  k_with "ktr_units" => ((try simp only [units_under_make, units_in1, units_deeper, Around.mark_units, units_caller]); (try dsimp only [ktrTop]); first | exact un1 (by with_reducible assumption) (Nat.le_of_ble_eq_true rfl) | exact un2 (by with_reducible assumption) (Nat.le_of_ble_eq_true rfl) | exact un3 (by with_reducible assumption) (Nat.le_of_ble_eq_true rfl) | (have hcL9 := cLine_is; omega))
  k_with "eval Name" => (k_here; k_dflt (refine' ld ?z20k1 ?z20k2 ?_; (case z20k1 => k_asm); (case z20k2 => first | exact rfl | assumption); k_whole))
  trivial
theorem far_a {w : World} {p : Program} {loose : List Str} {mean : ExcName → Option Value} {mg mb : Str → Option Value} {dp un : Nat} {gd : Option (List Code)} {cn : Str} {cs : Scope} {a : Addr} {ccd : Value} {cl : List (Str × Addr)} {outer : List Env} {A₀ : Around} {base h₀ : Heap} {L : Addr} {m : Str → Option Value} {news : List (Addr × Obj)} {s : Shared} {Q E : Value → Shared → Prop} {z : NetP} {tj : Tok}
    (B : Below A₀ base outer h₀) (F : Fr h₀ L s.heap m) (X : (HD.K w.params).In h₀) (N : News h₀ L s.heap news) (T : Top p loose mean mg mb h₀) (hk : cs.kind = .function) (hn : ∀ p ∈ [(z.net, instObj 298 z.dn), (z.dn, dictOf [⟨PyData.keyHash w.params (Str.ofString "ground"), .str (Str.ofString "ground") z.a1, z.gr⟩, ⟨PyData.keyHash w.params (Str.ofString "joints"), .str (Str.ofString "joints") z.a2, .ref z.jl⟩, ⟨PyData.keyHash w.params (Str.ofString "source"), .str (Str.ofString "source") z.a3, .str (Str.ofString "a") z.s1⟩, ⟨PyData.keyHash w.params (Str.ofString "pipes"), .str (Str.ofString "pipes") z.a4, .ref z.pd⟩, ⟨PyData.keyHash w.params (Str.ofString "consumers"), .str (Str.ofString "consumers") z.a5, .ref z.cd⟩, ⟨PyData.keyHash w.params (Str.ofString "bypasses"), .str (Str.ofString "bypasses") z.a6, z.bd⟩] 6), (z.pd, z.opd), (z.pp, instObj 139 z.ppd), (z.ppd, dictOf [⟨PyData.keyHash w.params (Str.ofString "name"), .str (Str.ofString "name") z.b1, z.nm⟩, ⟨PyData.keyHash w.params (Str.ofString "start"), .str (Str.ofString "start") z.b2, .str (Str.ofString "a") z.s4⟩, ⟨PyData.keyHash w.params (Str.ofString "end"), .str (Str.ofString "end") z.b3, .str (Str.ofString "b") z.s5⟩, ⟨PyData.keyHash w.params (Str.ofString "length"), .str (Str.ofString "length") z.b4, z.ln⟩, ⟨PyData.keyHash w.params (Str.ofString "resistance"), .str (Str.ofString "resistance") z.b5, z.rs⟩, ⟨PyData.keyHash w.params (Str.ofString "loss"), .str (Str.ofString "loss") z.b6, z.lo⟩, ⟨PyData.keyHash w.params (Str.ofString "litres"), .str (Str.ofString "litres") z.b7, z.li⟩, ⟨PyData.keyHash w.params (Str.ofString "open"), .str (Str.ofString "open") z.b8, .bool true⟩] 8)], p ∈ news)
    (hd : dp + 4 < recursionLimit) (hu : un + 100 < cLine)
    (hret : ∀ (h' : Heap) (tk' : Nat), Fr h₀ L h' m → News h₀ L h' news → Q (.str (Str.ofString "b") z.s5) { s with heap := h', toks := tk' }) :
    wpAny (model PySem.Challenge.rw_ui0509_14.row.prog w) (ktrTop dp un gd cn cs L a ccd cl outer) (call (.ref 267) [.ref z.net, .ref z.pp, .str (Str.ofString "a") tj]) Q E s := by
  w_top off
  revert X; k_fill; intro X
  refine wpAny_call ?_
  k_dflt (refine' code_need [(z.net, instObj 298 z.dn), (z.dn, dictOf [⟨PyData.keyHash w.params (Str.ofString "ground"), .str (Str.ofString "ground") z.a1, z.gr⟩, ⟨PyData.keyHash w.params (Str.ofString "joints"), .str (Str.ofString "joints") z.a2, .ref z.jl⟩, ⟨PyData.keyHash w.params (Str.ofString "source"), .str (Str.ofString "source") z.a3, .str (Str.ofString "a") z.s1⟩, ⟨PyData.keyHash w.params (Str.ofString "pipes"), .str (Str.ofString "pipes") z.a4, .ref z.pd⟩, ⟨PyData.keyHash w.params (Str.ofString "consumers"), .str (Str.ofString "consumers") z.a5, .ref z.cd⟩, ⟨PyData.keyHash w.params (Str.ofString "bypasses"), .str (Str.ofString "bypasses") z.a6, z.bd⟩] 6), (z.pd, z.opd), (z.pp, instObj 139 z.ppd), (z.ppd, dictOf [⟨PyData.keyHash w.params (Str.ofString "name"), .str (Str.ofString "name") z.b1, z.nm⟩, ⟨PyData.keyHash w.params (Str.ofString "start"), .str (Str.ofString "start") z.b2, .str (Str.ofString "a") z.s4⟩, ⟨PyData.keyHash w.params (Str.ofString "end"), .str (Str.ofString "end") z.b3, .str (Str.ofString "b") z.s5⟩, ⟨PyData.keyHash w.params (Str.ofString "length"), .str (Str.ofString "length") z.b4, z.ln⟩, ⟨PyData.keyHash w.params (Str.ofString "resistance"), .str (Str.ofString "resistance") z.b5, z.rs⟩, ⟨PyData.keyHash w.params (Str.ofString "loss"), .str (Str.ofString "loss") z.b6, z.lo⟩, ⟨PyData.keyHash w.params (Str.ofString "litres"), .str (Str.ofString "litres") z.b7, z.li⟩, ⟨PyData.keyHash w.params (Str.ofString "open"), .str (Str.ofString "open") z.b8, .bool true⟩] 8)] ?k1 ?k2 ?k3 ?k4 ?k5 ?kA ?kF ?kK ?k6 ?k7 ?k8 ?k9 ?kB ?kN ?_ ?c2 ?c3 ?c4 ?c5; (case kA => exact rfl); (case kF => exact rfl); (case kK => assumption); (case k1 => k_asm); (case k2 => k_asm); (case k3 => k_asm); (case k4 => k_asm); (case k5 => k_asm); (case k6 => k_is); (case k7 => k_is); (case k8 => ktr_room); (case k9 => first | exact BindsTo.of_eq rfl | exact binds_K (by k_in) rfl (by k_is) rfl rfl rfl); (case c5 => decide); (case kB => exact locs rfl); (case kN => exact hn); (case c2 => exact rfl); (case c3 => exact rfl); (case c4 => exact rfl); k_whole; intro g' L' h' tk0 FG' F' N' B' X' T' hG'; (try dsimp only); (try k_fold))
  k_steps
  all_goals (try dsimp only)
  all_goals (refine leaveN_ (by k_asm) (by k_asm) ?_; intro kF kN kR kD; (try dsimp only); exact hret _ _ kF (news_back N hn kN (by intro p9 hp9; first | exact hp9 | exact absurd hp9 List.not_mem_nil | (repeat (first | exact hp9 | refine List.mem_cons_of_mem _ ?_))) kR))
theorem far_b {w : World} {p : Program} {loose : List Str} {mean : ExcName → Option Value} {mg mb : Str → Option Value} {dp un : Nat} {gd : Option (List Code)} {cn : Str} {cs : Scope} {a : Addr} {ccd : Value} {cl : List (Str × Addr)} {outer : List Env} {A₀ : Around} {base h₀ : Heap} {L : Addr} {m : Str → Option Value} {news : List (Addr × Obj)} {s : Shared} {Q E : Value → Shared → Prop} {z : NetP} {tj : Tok}
    (B : Below A₀ base outer h₀) (F : Fr h₀ L s.heap m) (X : (HD.K w.params).In h₀) (N : News h₀ L s.heap news) (T : Top p loose mean mg mb h₀) (hk : cs.kind = .function) (hn : ∀ p ∈ [(z.net, instObj 298 z.dn), (z.dn, dictOf [⟨PyData.keyHash w.params (Str.ofString "ground"), .str (Str.ofString "ground") z.a1, z.gr⟩, ⟨PyData.keyHash w.params (Str.ofString "joints"), .str (Str.ofString "joints") z.a2, .ref z.jl⟩, ⟨PyData.keyHash w.params (Str.ofString "source"), .str (Str.ofString "source") z.a3, .str (Str.ofString "a") z.s1⟩, ⟨PyData.keyHash w.params (Str.ofString "pipes"), .str (Str.ofString "pipes") z.a4, .ref z.pd⟩, ⟨PyData.keyHash w.params (Str.ofString "consumers"), .str (Str.ofString "consumers") z.a5, .ref z.cd⟩, ⟨PyData.keyHash w.params (Str.ofString "bypasses"), .str (Str.ofString "bypasses") z.a6, z.bd⟩] 6), (z.pd, z.opd), (z.pp, instObj 139 z.ppd), (z.ppd, dictOf [⟨PyData.keyHash w.params (Str.ofString "name"), .str (Str.ofString "name") z.b1, z.nm⟩, ⟨PyData.keyHash w.params (Str.ofString "start"), .str (Str.ofString "start") z.b2, .str (Str.ofString "a") z.s4⟩, ⟨PyData.keyHash w.params (Str.ofString "end"), .str (Str.ofString "end") z.b3, .str (Str.ofString "b") z.s5⟩, ⟨PyData.keyHash w.params (Str.ofString "length"), .str (Str.ofString "length") z.b4, z.ln⟩, ⟨PyData.keyHash w.params (Str.ofString "resistance"), .str (Str.ofString "resistance") z.b5, z.rs⟩, ⟨PyData.keyHash w.params (Str.ofString "loss"), .str (Str.ofString "loss") z.b6, z.lo⟩, ⟨PyData.keyHash w.params (Str.ofString "litres"), .str (Str.ofString "litres") z.b7, z.li⟩, ⟨PyData.keyHash w.params (Str.ofString "open"), .str (Str.ofString "open") z.b8, .bool true⟩] 8)], p ∈ news)
    (hd : dp + 4 < recursionLimit) (hu : un + 100 < cLine)
    (hret : ∀ (h' : Heap) (tk' : Nat), Fr h₀ L h' m → News h₀ L h' news → Q (.str (Str.ofString "a") z.s4) { s with heap := h', toks := tk' }) :
    wpAny (model PySem.Challenge.rw_ui0509_14.row.prog w) (ktrTop dp un gd cn cs L a ccd cl outer) (call (.ref 267) [.ref z.net, .ref z.pp, .str (Str.ofString "b") tj]) Q E s := by
  w_top off
  revert X; k_fill; intro X
  refine wpAny_call ?_
  k_dflt (refine' code_need [(z.net, instObj 298 z.dn), (z.dn, dictOf [⟨PyData.keyHash w.params (Str.ofString "ground"), .str (Str.ofString "ground") z.a1, z.gr⟩, ⟨PyData.keyHash w.params (Str.ofString "joints"), .str (Str.ofString "joints") z.a2, .ref z.jl⟩, ⟨PyData.keyHash w.params (Str.ofString "source"), .str (Str.ofString "source") z.a3, .str (Str.ofString "a") z.s1⟩, ⟨PyData.keyHash w.params (Str.ofString "pipes"), .str (Str.ofString "pipes") z.a4, .ref z.pd⟩, ⟨PyData.keyHash w.params (Str.ofString "consumers"), .str (Str.ofString "consumers") z.a5, .ref z.cd⟩, ⟨PyData.keyHash w.params (Str.ofString "bypasses"), .str (Str.ofString "bypasses") z.a6, z.bd⟩] 6), (z.pd, z.opd), (z.pp, instObj 139 z.ppd), (z.ppd, dictOf [⟨PyData.keyHash w.params (Str.ofString "name"), .str (Str.ofString "name") z.b1, z.nm⟩, ⟨PyData.keyHash w.params (Str.ofString "start"), .str (Str.ofString "start") z.b2, .str (Str.ofString "a") z.s4⟩, ⟨PyData.keyHash w.params (Str.ofString "end"), .str (Str.ofString "end") z.b3, .str (Str.ofString "b") z.s5⟩, ⟨PyData.keyHash w.params (Str.ofString "length"), .str (Str.ofString "length") z.b4, z.ln⟩, ⟨PyData.keyHash w.params (Str.ofString "resistance"), .str (Str.ofString "resistance") z.b5, z.rs⟩, ⟨PyData.keyHash w.params (Str.ofString "loss"), .str (Str.ofString "loss") z.b6, z.lo⟩, ⟨PyData.keyHash w.params (Str.ofString "litres"), .str (Str.ofString "litres") z.b7, z.li⟩, ⟨PyData.keyHash w.params (Str.ofString "open"), .str (Str.ofString "open") z.b8, .bool true⟩] 8)] ?k1 ?k2 ?k3 ?k4 ?k5 ?kA ?kF ?kK ?k6 ?k7 ?k8 ?k9 ?kB ?kN ?_ ?c2 ?c3 ?c4 ?c5; (case kA => exact rfl); (case kF => exact rfl); (case kK => assumption); (case k1 => k_asm); (case k2 => k_asm); (case k3 => k_asm); (case k4 => k_asm); (case k5 => k_asm); (case k6 => k_is); (case k7 => k_is); (case k8 => ktr_room); (case k9 => first | exact BindsTo.of_eq rfl | exact binds_K (by k_in) rfl (by k_is) rfl rfl rfl); (case c5 => decide); (case kB => exact locs rfl); (case kN => exact hn); (case c2 => exact rfl); (case c3 => exact rfl); (case c4 => exact rfl); k_whole; intro g' L' h' tk0 FG' F' N' B' X' T' hG'; (try dsimp only); (try k_fold))
  k_steps
  all_goals (try dsimp only)
  all_goals (refine leaveN_ (by k_asm) (by k_asm) ?_; intro kF kN kR kD; (try dsimp only); exact hret _ _ kF (news_back N hn kN (by intro p9 hp9; first | exact hp9 | exact absurd hp9 List.not_mem_nil | (repeat (first | exact hp9 | refine List.mem_cons_of_mem _ ?_))) kR))
end
theorem list_uniq {h₀ h : Heap} {L a : Addr} {led : List (Addr × Obj)} {vs vs' : List Value} {n n' : Nat} (N : News h₀ L h led) (h1 : (a, listOf vs.toArray n) ∈ led) (h2 : (a, listOf vs'.toArray n') ∈ led) : vs = vs' := by
  have e1 := N.get h1
  rw [N.get h2] at e1
  have := congrArg Obj.data (Option.some.inj e1)
  simp at this
  exact this.1.symm
def FedJ (P : Params) (z : NetP) (l9 : Addr) (i : Nat) (m : Str → Option Value) (nx : List (Addr × Obj)) : Prop :=
  ∃ vs n, nx = (l9, listOf (List.toArray vs) n) :: [(z.net, instObj 298 z.dn), (z.dn, dictOf [⟨PyData.keyHash P (Str.ofString "ground"), .str (Str.ofString "ground") z.a1, z.gr⟩, ⟨PyData.keyHash P (Str.ofString "joints"), .str (Str.ofString "joints") z.a2, .ref z.jl⟩, ⟨PyData.keyHash P (Str.ofString "source"), .str (Str.ofString "source") z.a3, .str (Str.ofString "a") z.s1⟩, ⟨PyData.keyHash P (Str.ofString "pipes"), .str (Str.ofString "pipes") z.a4, .ref z.pd⟩, ⟨PyData.keyHash P (Str.ofString "consumers"), .str (Str.ofString "consumers") z.a5, .ref z.cd⟩, ⟨PyData.keyHash P (Str.ofString "bypasses"), .str (Str.ofString "bypasses") z.a6, z.bd⟩] 6), (z.pd, z.opd), (z.pp, instObj 139 z.ppd), (z.ppd, dictOf [⟨PyData.keyHash P (Str.ofString "name"), .str (Str.ofString "name") z.b1, z.nm⟩, ⟨PyData.keyHash P (Str.ofString "start"), .str (Str.ofString "start") z.b2, .str (Str.ofString "a") z.s4⟩, ⟨PyData.keyHash P (Str.ofString "end"), .str (Str.ofString "end") z.b3, .str (Str.ofString "b") z.s5⟩, ⟨PyData.keyHash P (Str.ofString "length"), .str (Str.ofString "length") z.b4, z.ln⟩, ⟨PyData.keyHash P (Str.ofString "resistance"), .str (Str.ofString "resistance") z.b5, z.rs⟩, ⟨PyData.keyHash P (Str.ofString "loss"), .str (Str.ofString "loss") z.b6, z.lo⟩, ⟨PyData.keyHash P (Str.ofString "litres"), .str (Str.ofString "litres") z.b7, z.li⟩, ⟨PyData.keyHash P (Str.ofString "open"), .str (Str.ofString "open") z.b8, .bool true⟩] 8)] ∧ i ≤ 2 ∧ m (Str.ofString "out") = some (.ref l9) ∧ m (Str.ofString "self") = some (.ref z.net) ∧ ((i = 0 ∧ vs = [.str (Str.ofString "a") z.s1]) ∨ (0 < i ∧ ∃ tb, vs = [.str (Str.ofString "a") z.s1, .str (Str.ofString "b") tb]))
local macro_rules | `(tactic| walk_at "i6") => `(tactic| ((fail_if_success (rename Mark7 => mk9))))
section KeepF
theorem words9 : True := by
  k_with_none
  k_with "ne9" => (first | with_reducible assumption | exact Ne.symm (by with_reducible assumption) | omega)
  k_with "k_in" => (refine' in_of ?z1fF ?z1fX; (case z1fF => k_asm); (case z1fX => k_asm))
  k_with "call ref" => (k_here; (with_reducible show wpAny _ _ (call (Value.ref 64) [Value.int _ _, Value.int _ _]) _ _ _); k_dflt (refine' div_use _ _ _ _ _ _ _ _ _ _ _ _ _ _ _ _ _ _ _ _ _ _ ?z2k1 ?z2k2 ?z2k3 ?z2k4 ?z2k5 ?z2k6 ?z2k7 ?z2k8 ?z2k9 ?z2k10 ?_; (case z2k1 => k_asm); (case z2k2 => k_asm); (case z2k3 => k_asm); (case z2k4 => k_asm); (case z2k5 => k_asm); (case z2k6 => first | exact rfl | assumption); (case z2k7 => ktr_room); (case z2k8 => ktr_units); (case z2k9 => omega); (case z2k10 => first | assumption | exact Fits.neg (by assumption) | exact Fits.of (n := 64) (PySem.intBits_le_64 (by omega) (by omega)) (by decide)); k_whole); walk_at "i0"; (try k_sweep))
  k_with "binaryOp FloorDiv int int" => (with_reducible refine floordiv_int ?z3ne ?_ (Or.inl (PyProof.noPylong_of_log2 ?z3lg)); (case z3lg => with_reducible assumption); (case z3ne => omega))
  k_with "hat9" => (first | exact News.get (by k_asm) (by k_mem) | exact Fr.keep (by k_asm) _ _ (by with_reducible assumption) | exact Tk.get (by k_asm) (by k_asm) (by with_reducible assumption) (by intro p9 hp9; first | exact hp9 | exact absurd hp9 List.not_mem_nil | (repeat (first | exact hp9 | refine List.mem_cons_of_mem _ ?_))) | exact Frag.In.keeps (by k_asm) (Fr.keep (by k_asm)) _ _ (by k_is))
  k_with "ktr_units" => ((try simp only [units_under_make, units_in1, units_deeper, Around.mark_units, units_caller]); (try dsimp only [ktrTop]); first | exact un1 (by with_reducible assumption) (Nat.le_of_ble_eq_true rfl) | exact un2 (by with_reducible assumption) (Nat.le_of_ble_eq_true rfl) | exact un3 (by with_reducible assumption) (Nat.le_of_ble_eq_true rfl) | (have hcL9 := cLine_is; omega))
  k_with "eval Name" => (k_here; k_dflt (refine' ld ?z21k1 ?z21k2 ?_; (case z21k1 => k_asm); (case z21k2 => first | exact rfl | assumption); k_whole))
  k_with "exec For Name Name cons nil" => ((with_reducible show wpAny _ _ (exec (Stmt.For (Expr.Name _ _) (Expr.Name _ _) _ _ _) _) _ _ _); walk_at "i6"; refine Hold.out ?_)
  k_with "UnrPostW" => ((with_reducible show UnrPostW _ _ _ _ (FedJ _ _ _ _) _ _ _); dsimp only [UnrPostW])
  k_with "UnrEndW" => ((with_reducible show UnrEndW _ _ _ _ (FedJ _ _ _ _) _); refine Hold.out ?_)
  k_with "call ref" => (k_here; (with_reducible show wpAny _ _ (call (Value.ref 260) _ _) _ _ _); refine Hold.out ?_)
  k_with "call ref" => (k_here; (with_reducible show wpAny _ _ (call (Value.ref 267) [Value.ref _, Value.ref _, Value.str (PySem.Str.ofString "a") _]) _ _ _); k_dflt (refine' far_a ?z22k1 ?z22k2 ?z22k3 ?z22k4 ?z22k5 ?z22k6 ?z22hn ?z22k7 ?z22k8 ?_; (case z22k1 => k_asm); (case z22k2 => k_asm); (case z22k3 => k_asm); (case z22k4 => k_asm); (case z22k5 => k_asm); (case z22k6 => first | exact rfl | assumption); (case z22k7 => first | exact Nat.le_of_ble_eq_true rfl | ktr_room); (case z22k8 => first | exact Nat.le_of_ble_eq_true rfl | ktr_units); (case z22hn => exact (by intro p9 hp9; first | exact hp9 | exact absurd hp9 List.not_mem_nil | (repeat (first | exact hp9 | refine List.mem_cons_of_mem _ ?_)))); k_whole); walk_at "i3"; (try k_sweep))
  k_with "call ref" => (k_here; (with_reducible show wpAny _ _ (call (Value.ref 267) [Value.ref _, Value.ref _, Value.str (PySem.Str.ofString "b") _]) _ _ _); k_dflt (refine' far_b ?z23k1 ?z23k2 ?z23k3 ?z23k4 ?z23k5 ?z23k6 ?z23hn ?z23k7 ?z23k8 ?_; (case z23k1 => k_asm); (case z23k2 => k_asm); (case z23k3 => k_asm); (case z23k4 => k_asm); (case z23k5 => k_asm); (case z23k6 => first | exact rfl | assumption); (case z23k7 => first | exact Nat.le_of_ble_eq_true rfl | ktr_room); (case z23k8 => first | exact Nat.le_of_ble_eq_true rfl | ktr_units); (case z23hn => exact (by intro p9 hp9; first | exact hp9 | exact absurd hp9 List.not_mem_nil | (repeat (first | exact hp9 | refine List.mem_cons_of_mem _ ?_)))); k_whole); walk_at "i3"; (try k_sweep))
  trivial
theorem fed_c {w : World} {p : Program} {loose : List Str} {mean : ExcName → Option Value} {mg mb : Str → Option Value} {dp un : Nat} {gd : Option (List Code)} {cn : Str} {cs : Scope} {a : Addr} {ccd : Value} {cl : List (Str × Addr)} {outer : List Env} {A₀ : Around} {base h₀ : Heap} {L : Addr} {m : Str → Option Value} {news : List (Addr × Obj)} {s : Shared} {Q E : Value → Shared → Prop} {z : NetP}
    (B : Below A₀ base outer h₀) (F : Fr h₀ L s.heap m) (X : (HD.K w.params).In h₀) (N : News h₀ L s.heap news) (T : Top p loose mean mg mb h₀) (hk : cs.kind = .function) (hn : ∀ p ∈ [(z.net, instObj 298 z.dn), (z.dn, dictOf [⟨PyData.keyHash w.params (Str.ofString "ground"), .str (Str.ofString "ground") z.a1, z.gr⟩, ⟨PyData.keyHash w.params (Str.ofString "joints"), .str (Str.ofString "joints") z.a2, .ref z.jl⟩, ⟨PyData.keyHash w.params (Str.ofString "source"), .str (Str.ofString "source") z.a3, .str (Str.ofString "a") z.s1⟩, ⟨PyData.keyHash w.params (Str.ofString "pipes"), .str (Str.ofString "pipes") z.a4, .ref z.pd⟩, ⟨PyData.keyHash w.params (Str.ofString "consumers"), .str (Str.ofString "consumers") z.a5, .ref z.cd⟩, ⟨PyData.keyHash w.params (Str.ofString "bypasses"), .str (Str.ofString "bypasses") z.a6, z.bd⟩] 6), (z.pd, z.opd), (z.pp, instObj 139 z.ppd), (z.ppd, dictOf [⟨PyData.keyHash w.params (Str.ofString "name"), .str (Str.ofString "name") z.b1, z.nm⟩, ⟨PyData.keyHash w.params (Str.ofString "start"), .str (Str.ofString "start") z.b2, .str (Str.ofString "a") z.s4⟩, ⟨PyData.keyHash w.params (Str.ofString "end"), .str (Str.ofString "end") z.b3, .str (Str.ofString "b") z.s5⟩, ⟨PyData.keyHash w.params (Str.ofString "length"), .str (Str.ofString "length") z.b4, z.ln⟩, ⟨PyData.keyHash w.params (Str.ofString "resistance"), .str (Str.ofString "resistance") z.b5, z.rs⟩, ⟨PyData.keyHash w.params (Str.ofString "loss"), .str (Str.ofString "loss") z.b6, z.lo⟩, ⟨PyData.keyHash w.params (Str.ofString "litres"), .str (Str.ofString "litres") z.b7, z.li⟩, ⟨PyData.keyHash w.params (Str.ofString "open"), .str (Str.ofString "open") z.b8, .bool true⟩] 8)], p ∈ news) (lpd : (z.pd == sysModules) = false) (hpd : z.opd.IsDictOf (PySem.strKind PySem.Challenge.rw_ui0509_14.row.prog w) [(Str.ofString "p", Value.ref z.pp)])
    (hd : dp + 12 < recursionLimit) (hu : un + 400 < cLine)
    (hret : ∀ (D : Addr) (ta tb : Tok) (n : Nat) (h' : Heap) (tk' : Nat), Fr h₀ L h' m → News h₀ L h' ((D, listOf [.str (Str.ofString "a") ta, .str (Str.ofString "b") tb].toArray n) :: news) → (∀ p ∈ news, p.1 ≠ D) → Q (.ref D) { s with heap := h', toks := tk' }) :
    wpAny (model PySem.Challenge.rw_ui0509_14.row.prog w) (ktrTop dp un gd cn cs L a ccd cl outer) (call (.ref 274) [.ref z.net]) Q E s := by
  w_top off
  revert X; k_fill; intro X
  refine wpAny_call ?_
  k_dflt (refine' code_need [(z.net, instObj 298 z.dn), (z.dn, dictOf [⟨PyData.keyHash w.params (Str.ofString "ground"), .str (Str.ofString "ground") z.a1, z.gr⟩, ⟨PyData.keyHash w.params (Str.ofString "joints"), .str (Str.ofString "joints") z.a2, .ref z.jl⟩, ⟨PyData.keyHash w.params (Str.ofString "source"), .str (Str.ofString "source") z.a3, .str (Str.ofString "a") z.s1⟩, ⟨PyData.keyHash w.params (Str.ofString "pipes"), .str (Str.ofString "pipes") z.a4, .ref z.pd⟩, ⟨PyData.keyHash w.params (Str.ofString "consumers"), .str (Str.ofString "consumers") z.a5, .ref z.cd⟩, ⟨PyData.keyHash w.params (Str.ofString "bypasses"), .str (Str.ofString "bypasses") z.a6, z.bd⟩] 6), (z.pd, z.opd), (z.pp, instObj 139 z.ppd), (z.ppd, dictOf [⟨PyData.keyHash w.params (Str.ofString "name"), .str (Str.ofString "name") z.b1, z.nm⟩, ⟨PyData.keyHash w.params (Str.ofString "start"), .str (Str.ofString "start") z.b2, .str (Str.ofString "a") z.s4⟩, ⟨PyData.keyHash w.params (Str.ofString "end"), .str (Str.ofString "end") z.b3, .str (Str.ofString "b") z.s5⟩, ⟨PyData.keyHash w.params (Str.ofString "length"), .str (Str.ofString "length") z.b4, z.ln⟩, ⟨PyData.keyHash w.params (Str.ofString "resistance"), .str (Str.ofString "resistance") z.b5, z.rs⟩, ⟨PyData.keyHash w.params (Str.ofString "loss"), .str (Str.ofString "loss") z.b6, z.lo⟩, ⟨PyData.keyHash w.params (Str.ofString "litres"), .str (Str.ofString "litres") z.b7, z.li⟩, ⟨PyData.keyHash w.params (Str.ofString "open"), .str (Str.ofString "open") z.b8, .bool true⟩] 8)] ?k1 ?k2 ?k3 ?k4 ?k5 ?kA ?kF ?kK ?k6 ?k7 ?k8 ?k9 ?kB ?kN ?_ ?c2 ?c3 ?c4 ?c5; (case kA => exact rfl); (case kF => exact rfl); (case kK => assumption); (case k1 => k_asm); (case k2 => k_asm); (case k3 => k_asm); (case k4 => k_asm); (case k5 => k_asm); (case k6 => k_is); (case k7 => k_is); (case k8 => ktr_room); (case k9 => first | exact BindsTo.of_eq rfl | exact binds_K (by k_in) rfl (by k_is) rfl rfl rfl); (case c5 => decide); (case kB => exact locs rfl); (case kN => exact hn); (case c2 => exact rfl); (case c3 => exact rfl); (case c4 => exact rfl); k_whole; intro g' L' h' tk0 FG' F' N' B' X' T' hG'; (try dsimp only); (try k_fold))
  k_steps
  unfold Hold
  rename_i tk9 l9 h8 l1 h9 F9 N9
  refine For_grow (h₀ := g') (ax := l9) 2 (FedJ w.params z l9) rfl ?it ?hl ?turn ?done
  case it =>
    refine ld (by k_asm) (by rfl) ?_
    exact ⟨rfl, _, _, _, _, rfl, F9, N9, _, _, rfl, by decide, by rfl, by rfl, .inl ⟨rfl, rfl⟩⟩
  case hl =>
    intro i m nx hJ
    obtain ⟨vs, n, rfl, hi, _⟩ := hJ
    exact ⟨hi, vs, n, List.mem_cons_self ..⟩
  case turn =>
    intro I i v m nx vs n h tk o hJ hm hv hI Fm ho Nn
    obtain ⟨vs', n', rfl, hi, hm1, hm2, hc⟩ := hJ
    obtain rfl := list_uniq Nn (List.mem_cons_of_mem _ hm) (List.mem_cons_of_mem _ (List.mem_cons_self ..))
    have hIl : l9 ≠ I := hI _ (List.mem_cons_self ..)
    have hIn : ∀ p ∈ [(z.net, instObj 298 z.dn), (z.dn, dictOf [⟨PyData.keyHash w.params (Str.ofString "ground"), .str (Str.ofString "ground") z.a1, z.gr⟩, ⟨PyData.keyHash w.params (Str.ofString "joints"), .str (Str.ofString "joints") z.a2, .ref z.jl⟩, ⟨PyData.keyHash w.params (Str.ofString "source"), .str (Str.ofString "source") z.a3, .str (Str.ofString "a") z.s1⟩, ⟨PyData.keyHash w.params (Str.ofString "pipes"), .str (Str.ofString "pipes") z.a4, .ref z.pd⟩, ⟨PyData.keyHash w.params (Str.ofString "consumers"), .str (Str.ofString "consumers") z.a5, .ref z.cd⟩, ⟨PyData.keyHash w.params (Str.ofString "bypasses"), .str (Str.ofString "bypasses") z.a6, z.bd⟩] 6), (z.pd, z.opd), (z.pp, instObj 139 z.ppd), (z.ppd, dictOf [⟨PyData.keyHash w.params (Str.ofString "name"), .str (Str.ofString "name") z.b1, z.nm⟩, ⟨PyData.keyHash w.params (Str.ofString "start"), .str (Str.ofString "start") z.b2, .str (Str.ofString "a") z.s4⟩, ⟨PyData.keyHash w.params (Str.ofString "end"), .str (Str.ofString "end") z.b3, .str (Str.ofString "b") z.s5⟩, ⟨PyData.keyHash w.params (Str.ofString "length"), .str (Str.ofString "length") z.b4, z.ln⟩, ⟨PyData.keyHash w.params (Str.ofString "resistance"), .str (Str.ofString "resistance") z.b5, z.rs⟩, ⟨PyData.keyHash w.params (Str.ofString "loss"), .str (Str.ofString "loss") z.b6, z.lo⟩, ⟨PyData.keyHash w.params (Str.ofString "litres"), .str (Str.ofString "litres") z.b7, z.li⟩, ⟨PyData.keyHash w.params (Str.ofString "open"), .str (Str.ofString "open") z.b8, .bool true⟩] 8)], p.1 ≠ I := fun p hp => hI p (List.mem_cons_of_mem _ hp)
    replace hIl := neN hIl
    rcases hc with ⟨rfl, rfl⟩ | ⟨h0, tb, rfl⟩
    · obtain rfl : v = .str (Str.ofString "a") z.s1 := by simpa using hv.symm
      clear F9 N9
      k_steps
      unfold Hold
      k_dflt (refine' at_a (z := z) ?k1 ?k2 ?k3 ?k4 ?k5 ?k6 ?hn ?lpd ?hpd ?k7 ?k8 ?_)
      case k1 => k_asm
      case k2 => k_asm
      case k3 => k_asm
      case k4 => k_asm
      case k5 => k_asm
      case k6 => first | exact rfl | assumption
      case k7 => ktr_room
      case k8 => ktr_units
      case hn => exact (by intro p9 hp9; first | exact hp9 | exact absurd hp9 List.not_mem_nil | (repeat (first | exact hp9 | refine List.mem_cons_of_mem _ ?_)))
      case lpd => exact lpd
      case hpd => exact hpd

      intro D5 n5 h5 tk5 F5 N5 l5
      replace l5 := allNe_of l5
      simp only [AllNe, and_true] at l5
      k_steps
      unfold Hold
      (rename News _ _ _ _ => NN)
      (rename Fr _ _ _ _ => FF)
      refine unr_end ((l9, _) :: [(z.net, instObj 298 z.dn), (z.dn, dictOf [⟨PyData.keyHash w.params (Str.ofString "ground"), .str (Str.ofString "ground") z.a1, z.gr⟩, ⟨PyData.keyHash w.params (Str.ofString "joints"), .str (Str.ofString "joints") z.a2, .ref z.jl⟩, ⟨PyData.keyHash w.params (Str.ofString "source"), .str (Str.ofString "source") z.a3, .str (Str.ofString "a") z.s1⟩, ⟨PyData.keyHash w.params (Str.ofString "pipes"), .str (Str.ofString "pipes") z.a4, .ref z.pd⟩, ⟨PyData.keyHash w.params (Str.ofString "consumers"), .str (Str.ofString "consumers") z.a5, .ref z.cd⟩, ⟨PyData.keyHash w.params (Str.ofString "bypasses"), .str (Str.ofString "bypasses") z.a6, z.bd⟩] 6), (z.pd, z.opd), (z.pp, instObj 139 z.ppd), (z.ppd, dictOf [⟨PyData.keyHash w.params (Str.ofString "name"), .str (Str.ofString "name") z.b1, z.nm⟩, ⟨PyData.keyHash w.params (Str.ofString "start"), .str (Str.ofString "start") z.b2, .str (Str.ofString "a") z.s4⟩, ⟨PyData.keyHash w.params (Str.ofString "end"), .str (Str.ofString "end") z.b3, .str (Str.ofString "b") z.s5⟩, ⟨PyData.keyHash w.params (Str.ofString "length"), .str (Str.ofString "length") z.b4, z.ln⟩, ⟨PyData.keyHash w.params (Str.ofString "resistance"), .str (Str.ofString "resistance") z.b5, z.rs⟩, ⟨PyData.keyHash w.params (Str.ofString "loss"), .str (Str.ofString "loss") z.b6, z.lo⟩, ⟨PyData.keyHash w.params (Str.ofString "litres"), .str (Str.ofString "litres") z.b7, z.li⟩, ⟨PyData.keyHash w.params (Str.ofString "open"), .str (Str.ofString "open") z.b8, .bool true⟩] 8)]) FF NN (by k_mem) (fcons (by k_mem) (by intro p9 hp9; first | exact hp9 | exact absurd hp9 List.not_mem_nil | (repeat (first | exact hp9 | refine List.mem_cons_of_mem _ ?_)))) (fcons hIl hIn) ⟨_, _, rfl, by omega, by first | rfl | assumption, by first | rfl | assumption, .inr ⟨by omega, _, rfl⟩⟩
    · obtain rfl : i = 1 := by
        have := (List.getElem?_eq_some_iff.mp hv).1
        simp at this
        omega
      obtain rfl : v = .str (Str.ofString "b") tb := by simpa using hv.symm
      clear F9 N9
      k_steps
      unfold Hold
      k_dflt (refine' at_b (z := z) ?k1 ?k2 ?k3 ?k4 ?k5 ?k6 ?hn ?lpd ?hpd ?k7 ?k8 ?_)
      case k1 => k_asm
      case k2 => k_asm
      case k3 => k_asm
      case k4 => k_asm
      case k5 => k_asm
      case k6 => first | exact rfl | assumption
      case k7 => ktr_room
      case k8 => ktr_units
      case hn => exact (by intro p9 hp9; first | exact hp9 | exact absurd hp9 List.not_mem_nil | (repeat (first | exact hp9 | refine List.mem_cons_of_mem _ ?_)))
      case lpd => exact lpd
      case hpd => exact hpd

      intro D5 n5 h5 tk5 F5 N5 l5
      replace l5 := allNe_of l5
      simp only [AllNe, and_true] at l5
      k_steps
      unfold Hold
      (rename News _ _ _ _ => NN)
      (rename Fr _ _ _ _ => FF)
      refine unr_end ((l9, _) :: [(z.net, instObj 298 z.dn), (z.dn, dictOf [⟨PyData.keyHash w.params (Str.ofString "ground"), .str (Str.ofString "ground") z.a1, z.gr⟩, ⟨PyData.keyHash w.params (Str.ofString "joints"), .str (Str.ofString "joints") z.a2, .ref z.jl⟩, ⟨PyData.keyHash w.params (Str.ofString "source"), .str (Str.ofString "source") z.a3, .str (Str.ofString "a") z.s1⟩, ⟨PyData.keyHash w.params (Str.ofString "pipes"), .str (Str.ofString "pipes") z.a4, .ref z.pd⟩, ⟨PyData.keyHash w.params (Str.ofString "consumers"), .str (Str.ofString "consumers") z.a5, .ref z.cd⟩, ⟨PyData.keyHash w.params (Str.ofString "bypasses"), .str (Str.ofString "bypasses") z.a6, z.bd⟩] 6), (z.pd, z.opd), (z.pp, instObj 139 z.ppd), (z.ppd, dictOf [⟨PyData.keyHash w.params (Str.ofString "name"), .str (Str.ofString "name") z.b1, z.nm⟩, ⟨PyData.keyHash w.params (Str.ofString "start"), .str (Str.ofString "start") z.b2, .str (Str.ofString "a") z.s4⟩, ⟨PyData.keyHash w.params (Str.ofString "end"), .str (Str.ofString "end") z.b3, .str (Str.ofString "b") z.s5⟩, ⟨PyData.keyHash w.params (Str.ofString "length"), .str (Str.ofString "length") z.b4, z.ln⟩, ⟨PyData.keyHash w.params (Str.ofString "resistance"), .str (Str.ofString "resistance") z.b5, z.rs⟩, ⟨PyData.keyHash w.params (Str.ofString "loss"), .str (Str.ofString "loss") z.b6, z.lo⟩, ⟨PyData.keyHash w.params (Str.ofString "litres"), .str (Str.ofString "litres") z.b7, z.li⟩, ⟨PyData.keyHash w.params (Str.ofString "open"), .str (Str.ofString "open") z.b8, .bool true⟩] 8)]) FF NN (by k_mem) (fcons (by k_mem) (by intro p9 hp9; first | exact hp9 | exact absurd hp9 List.not_mem_nil | (repeat (first | exact hp9 | refine List.mem_cons_of_mem _ ?_)))) (fcons hIl hIn) ⟨_, _, rfl, by omega, by first | rfl | assumption, by first | rfl | assumption, .inr ⟨by omega, _, rfl⟩⟩
  case done =>
    intro i m nx vs n h tk hJ hm hv Fm Nn
    obtain ⟨vs', n', rfl, hi, hm1, hm2, hc⟩ := hJ
    obtain rfl := list_uniq Nn hm (List.mem_cons_self ..)
    rcases hc with ⟨rfl, rfl⟩ | ⟨h0, tb, rfl⟩
    · simp at hv
    · clear F9 N9
      k_steps
      all_goals (try dsimp only)
      all_goals (refine leaveN_ (by k_asm) (by k_asm) ?_; intro kF kN kR kD; (try dsimp only); exact hret _ _ _ _ _ _ kF (news_cons kN (by k_mem) (news_back N hn kN ((by intro p9 hp9; first | exact hp9 | exact absurd hp9 List.not_mem_nil | (repeat (first | exact hp9 | refine List.mem_cons_of_mem _ ?_))) : ∀ p ∈ [(z.net, instObj 298 z.dn), (z.dn, dictOf [⟨PyData.keyHash w.params (Str.ofString "ground"), .str (Str.ofString "ground") z.a1, z.gr⟩, ⟨PyData.keyHash w.params (Str.ofString "joints"), .str (Str.ofString "joints") z.a2, .ref z.jl⟩, ⟨PyData.keyHash w.params (Str.ofString "source"), .str (Str.ofString "source") z.a3, .str (Str.ofString "a") z.s1⟩, ⟨PyData.keyHash w.params (Str.ofString "pipes"), .str (Str.ofString "pipes") z.a4, .ref z.pd⟩, ⟨PyData.keyHash w.params (Str.ofString "consumers"), .str (Str.ofString "consumers") z.a5, .ref z.cd⟩, ⟨PyData.keyHash w.params (Str.ofString "bypasses"), .str (Str.ofString "bypasses") z.a6, z.bd⟩] 6), (z.pd, z.opd), (z.pp, instObj 139 z.ppd), (z.ppd, dictOf [⟨PyData.keyHash w.params (Str.ofString "name"), .str (Str.ofString "name") z.b1, z.nm⟩, ⟨PyData.keyHash w.params (Str.ofString "start"), .str (Str.ofString "start") z.b2, .str (Str.ofString "a") z.s4⟩, ⟨PyData.keyHash w.params (Str.ofString "end"), .str (Str.ofString "end") z.b3, .str (Str.ofString "b") z.s5⟩, ⟨PyData.keyHash w.params (Str.ofString "length"), .str (Str.ofString "length") z.b4, z.ln⟩, ⟨PyData.keyHash w.params (Str.ofString "resistance"), .str (Str.ofString "resistance") z.b5, z.rs⟩, ⟨PyData.keyHash w.params (Str.ofString "loss"), .str (Str.ofString "loss") z.b6, z.lo⟩, ⟨PyData.keyHash w.params (Str.ofString "litres"), .str (Str.ofString "litres") z.b7, z.li⟩, ⟨PyData.keyHash w.params (Str.ofString "open"), .str (Str.ofString "open") z.b8, .bool true⟩] 8)], p ∈ _) kR)) (neW kD (by k_mem : (l9, _) ∈ _) (fcons (neN (by walk_at "ne9")) (fcons (neN (by walk_at "ne9")) (fcons (neN (by walk_at "ne9")) (fcons (neN (by walk_at "ne9")) (fcons (neN (by walk_at "ne9")) (List.forall_mem_nil _))))))))
end KeepF
theorem inst_cls {C d : Addr} : (instObj C d).cls ≠ .type "tuple" := fun h => nomatch h
theorem dict_cls2 {es : List DictEntry} {n : Nat} : (dictOf es n).cls ≠ .type "tuple" := by
  intro h; injection h with h; exact absurd h (by decide)
theorem list_cls {vs : Array Value} {n : Nat} : (listOf vs n).cls ≠ .type "tuple" := by
  intro h; injection h with h; exact absurd h (by decide)
theorem not_need {h : Heap} {need : List (Addr × Obj)} {b : Addr} {o : Obj} (hN : ∀ p ∈ need, h.get? p.1 = some p.2) (hc : ∀ p ∈ need, p.2.cls ≠ .type "tuple") (e : h.get? b = some o) (ho : o.cls = .type "tuple") : b ∉ need.map (·.1) := fun k => by
  obtain ⟨p, hp, rfl⟩ := List.mem_map.mp k
  have h1 := hN p hp
  rw [e] at h1
  exact hc p hp (by rw [← Option.some.inj h1]; exact ho)
theorem dict_cls {prog : Program} {w : World} {o : Obj} {kvs : List (Str × Value)} (h : o.IsDictOf (PySem.strKind prog w) kvs) : o.cls ≠ .type "tuple" := by
  obtain ⟨_, _, he, _⟩ := h
  rw [he.1]
  intro h; injection h with h; exact absurd h (by decide)
section
theorem words10 : True := by
  k_with_none
  k_with "ne9" => (first | with_reducible assumption | exact Ne.symm (by with_reducible assumption) | omega)
  k_with "k_in" => (refine' in_of ?z1fF ?z1fX; (case z1fF => k_asm); (case z1fX => k_asm))
  k_with "call ref" => (k_here; (with_reducible show wpAny _ _ (call (Value.ref 64) [Value.int _ _, Value.int _ _]) _ _ _); k_dflt (refine' div_use _ _ _ _ _ _ _ _ _ _ _ _ _ _ _ _ _ _ _ _ _ _ ?z2k1 ?z2k2 ?z2k3 ?z2k4 ?z2k5 ?z2k6 ?z2k7 ?z2k8 ?z2k9 ?z2k10 ?_; (case z2k1 => k_asm); (case z2k2 => k_asm); (case z2k3 => k_asm); (case z2k4 => k_asm); (case z2k5 => k_asm); (case z2k6 => first | exact rfl | assumption); (case z2k7 => ktr_room); (case z2k8 => ktr_units); (case z2k9 => omega); (case z2k10 => first | assumption | exact Fits.neg (by assumption) | exact Fits.of (n := 64) (PySem.intBits_le_64 (by omega) (by omega)) (by decide)); k_whole); walk_at "i0"; (try k_sweep))
  k_with "binaryOp FloorDiv int int" => (with_reducible refine floordiv_int ?z3ne ?_ (Or.inl (PyProof.noPylong_of_log2 ?z3lg)); (case z3lg => with_reducible assumption); (case z3ne => omega))
  k_with "hat9" => (first | exact News.get (by k_asm) (by k_mem) | exact Fr.keep (by k_asm) _ _ (by with_reducible assumption) | exact Tk.get (by k_asm) (by k_asm) (by with_reducible assumption) (by intro p9 hp9; first | exact hp9 | exact absurd hp9 List.not_mem_nil | (repeat (first | exact hp9 | refine List.mem_cons_of_mem _ ?_))) | exact Frag.In.keeps (by k_asm) (Fr.keep (by k_asm)) _ _ (by k_is))
  k_with "ktr_units" => ((try simp only [units_under_make, units_in1, units_deeper, Around.mark_units, units_caller]); (try dsimp only [ktrTop]); first | exact un1 (by with_reducible assumption) (Nat.le_of_ble_eq_true rfl) | exact un2 (by with_reducible assumption) (Nat.le_of_ble_eq_true rfl) | exact un3 (by with_reducible assumption) (Nat.le_of_ble_eq_true rfl) | (have hcL9 := cLine_is; omega))
  k_with "eval Name" => (k_here; k_dflt (refine' ld ?z24k1 ?z24k2 ?_; (case z24k1 => k_asm); (case z24k2 => first | exact rfl | assumption); k_whole))
  trivial
theorem consumer_c {w : World} {p : Program} {loose : List Str} {mean : ExcName → Option Value} {mg mb : Str → Option Value} {dp un : Nat} {gd : Option (List Code)} {cn : Str} {cs : Scope} {a : Addr} {ccd : Value} {cl : List (Str × Addr)} {outer : List Env} {A₀ : Around} {base h₀ : Heap} {L : Addr} {m : Str → Option Value} {news : List (Addr × Obj)} {s : Shared} {Q E : Value → Shared → Prop} {z : NetP} {tn : Tok}
    (B : Below A₀ base outer h₀) (F : Fr h₀ L s.heap m) (X : (HD.K w.params).In h₀) (N : News h₀ L s.heap news) (T : Top p loose mean mg mb h₀) (hk : cs.kind = .function) (hn : ∀ p ∈ [(z.net, instObj 298 z.dn), (z.dn, dictOf [⟨PyData.keyHash w.params (Str.ofString "ground"), .str (Str.ofString "ground") z.a1, z.gr⟩, ⟨PyData.keyHash w.params (Str.ofString "joints"), .str (Str.ofString "joints") z.a2, .ref z.jl⟩, ⟨PyData.keyHash w.params (Str.ofString "source"), .str (Str.ofString "source") z.a3, .str (Str.ofString "a") z.s1⟩, ⟨PyData.keyHash w.params (Str.ofString "pipes"), .str (Str.ofString "pipes") z.a4, .ref z.pd⟩, ⟨PyData.keyHash w.params (Str.ofString "consumers"), .str (Str.ofString "consumers") z.a5, .ref z.cd⟩, ⟨PyData.keyHash w.params (Str.ofString "bypasses"), .str (Str.ofString "bypasses") z.a6, z.bd⟩] 6), (z.cd, z.ocd)], p ∈ news) (lcd : (z.cd == sysModules) = false) (hcd : z.ocd.IsDictOf (PySem.strKind PySem.Challenge.rw_ui0509_14.row.prog w) [(Str.ofString "u", Value.ref z.cu)])
    (hd : dp + 4 < recursionLimit) (hu : un + 100 < cLine)
    (hret : ∀ (h' : Heap) (tk' : Nat), Fr h₀ L h' m → News h₀ L h' news → Q (.ref z.cu) { s with heap := h', toks := tk' }) :
    wpAny (model PySem.Challenge.rw_ui0509_14.row.prog w) (ktrTop dp un gd cn cs L a ccd cl outer) (call (.ref 236) [.ref z.net, .str (Str.ofString "u") tn]) Q E s := by
  w_top off
  revert X; k_fill; intro X
  refine wpAny_call ?_
  k_dflt (refine' code_need [(z.net, instObj 298 z.dn), (z.dn, dictOf [⟨PyData.keyHash w.params (Str.ofString "ground"), .str (Str.ofString "ground") z.a1, z.gr⟩, ⟨PyData.keyHash w.params (Str.ofString "joints"), .str (Str.ofString "joints") z.a2, .ref z.jl⟩, ⟨PyData.keyHash w.params (Str.ofString "source"), .str (Str.ofString "source") z.a3, .str (Str.ofString "a") z.s1⟩, ⟨PyData.keyHash w.params (Str.ofString "pipes"), .str (Str.ofString "pipes") z.a4, .ref z.pd⟩, ⟨PyData.keyHash w.params (Str.ofString "consumers"), .str (Str.ofString "consumers") z.a5, .ref z.cd⟩, ⟨PyData.keyHash w.params (Str.ofString "bypasses"), .str (Str.ofString "bypasses") z.a6, z.bd⟩] 6), (z.cd, z.ocd)] ?k1 ?k2 ?k3 ?k4 ?k5 ?kA ?kF ?kK ?k6 ?k7 ?k8 ?k9 ?kB ?kN ?_ ?c2 ?c3 ?c4 ?c5; (case kA => exact rfl); (case kF => exact rfl); (case kK => assumption); (case k1 => k_asm); (case k2 => k_asm); (case k3 => k_asm); (case k4 => k_asm); (case k5 => k_asm); (case k6 => k_is); (case k7 => k_is); (case k8 => ktr_room); (case k9 => first | exact BindsTo.of_eq rfl | exact binds_K (by k_in) rfl (by k_is) rfl rfl rfl); (case c5 => decide); (case kB => exact locs rfl); (case kN => exact hn); (case c2 => exact rfl); (case c3 => exact rfl); (case c4 => exact rfl); k_whole; intro g' L' h' tk0 FG' F' N' B' X' T' hG'; (try dsimp only); (try k_fold))
  k_steps
  all_goals (refine leaveN_ (by k_asm) (by k_asm) ?_; intro kF kN kR kD; (try dsimp only); exact hret _ _ kF (news_back N hn kN (by intro p9 hp9; first | exact hp9 | exact absurd hp9 List.not_mem_nil | (repeat (first | exact hp9 | refine List.mem_cons_of_mem _ ?_))) kR))
end
section
theorem words11 : True := by
  k_with_none
  k_with "ne9" => (first | with_reducible assumption | exact Ne.symm (by with_reducible assumption) | omega)
  k_with "k_in" => (refine' in_of ?z1fF ?z1fX; (case z1fF => k_asm); (case z1fX => k_asm))
  k_with "call ref" => (k_here; (with_reducible show wpAny _ _ (call (Value.ref 64) [Value.int _ _, Value.int _ _]) _ _ _); k_dflt (refine' div_use _ _ _ _ _ _ _ _ _ _ _ _ _ _ _ _ _ _ _ _ _ _ ?z2k1 ?z2k2 ?z2k3 ?z2k4 ?z2k5 ?z2k6 ?z2k7 ?z2k8 ?z2k9 ?z2k10 ?_; (case z2k1 => k_asm); (case z2k2 => k_asm); (case z2k3 => k_asm); (case z2k4 => k_asm); (case z2k5 => k_asm); (case z2k6 => first | exact rfl | assumption); (case z2k7 => ktr_room); (case z2k8 => ktr_units); (case z2k9 => omega); (case z2k10 => first | assumption | exact Fits.neg (by assumption) | exact Fits.of (n := 64) (PySem.intBits_le_64 (by omega) (by omega)) (by decide)); k_whole); walk_at "i0"; (try k_sweep))
  k_with "binaryOp FloorDiv int int" => (with_reducible refine floordiv_int ?z3ne ?_ (Or.inl (PyProof.noPylong_of_log2 ?z3lg)); (case z3lg => with_reducible assumption); (case z3ne => omega))
  k_with "hat9" => (first | exact News.get (by k_asm) (by k_mem) | exact Fr.keep (by k_asm) _ _ (by with_reducible assumption) | exact Tk.get (by k_asm) (by k_asm) (by with_reducible assumption) (by intro p9 hp9; first | exact hp9 | exact absurd hp9 List.not_mem_nil | (repeat (first | exact hp9 | refine List.mem_cons_of_mem _ ?_))) | exact Frag.In.keeps (by k_asm) (Fr.keep (by k_asm)) _ _ (by k_is))
  k_with "ktr_units" => ((try simp only [units_under_make, units_in1, units_deeper, Around.mark_units, units_caller]); (try dsimp only [ktrTop]); first | exact un1 (by with_reducible assumption) (Nat.le_of_ble_eq_true rfl) | exact un2 (by with_reducible assumption) (Nat.le_of_ble_eq_true rfl) | exact un3 (by with_reducible assumption) (Nat.le_of_ble_eq_true rfl) | (have hcL9 := cLine_is; omega))
  k_with "eval Name" => (k_here; k_dflt (refine' ld ?z25k1 ?z25k2 ?_; (case z25k1 => k_asm); (case z25k2 => first | exact rfl | assumption); k_whole))
  k_with "call ref" => (k_here; (with_reducible show wpAny _ _ (call (Value.ref 274) _ _) _ _ _); refine Hold.out ?_)
  k_with "call ref" => (k_here; (with_reducible show wpAny _ _ (call (Value.ref 115) _ _) _ _ _); refine Hold.out ?_)
  k_with "call ref" => (k_here; (with_reducible show wpAny _ _ (call (Value.ref 236) _ _) _ _ _); refine Hold.out ?_)
  trivial
theorem dh_c {w : World} {p : Program} {loose : List Str} {mean : ExcName → Option Value} {mg mb : Str → Option Value} {dp un : Nat} {gd : Option (List Code)} {cn : Str} {cs : Scope} {a : Addr} {ccd : Value} {cl : List (Str × Addr)} {outer : List Env} {A₀ : Around} {base h₀ : Heap} {L : Addr} {m : Str → Option Value} {news : List (Addr × Obj)} {s : Shared} {Q E : Value → Shared → Prop} {z : NetP} {dvs : List Value} {ds : List Rat} {ndl : Nat} {tn : Tok}
    (B : Below A₀ base outer h₀) (F : Fr h₀ L s.heap m) (X : (HD.K w.params).In h₀) (N : News h₀ L s.heap news) (T : Top p loose mean mg mb h₀) (hk : cs.kind = .function) (hn : ∀ p ∈ [(z.net, instObj 298 z.dn), (z.dn, dictOf [⟨PyData.keyHash w.params (Str.ofString "ground"), .str (Str.ofString "ground") z.a1, z.gr⟩, ⟨PyData.keyHash w.params (Str.ofString "joints"), .str (Str.ofString "joints") z.a2, .ref z.jl⟩, ⟨PyData.keyHash w.params (Str.ofString "source"), .str (Str.ofString "source") z.a3, .str (Str.ofString "a") z.s1⟩, ⟨PyData.keyHash w.params (Str.ofString "pipes"), .str (Str.ofString "pipes") z.a4, .ref z.pd⟩, ⟨PyData.keyHash w.params (Str.ofString "consumers"), .str (Str.ofString "consumers") z.a5, .ref z.cd⟩, ⟨PyData.keyHash w.params (Str.ofString "bypasses"), .str (Str.ofString "bypasses") z.a6, z.bd⟩] 6), (z.pd, z.opd), (z.pp, instObj 139 z.ppd), (z.ppd, dictOf [⟨PyData.keyHash w.params (Str.ofString "name"), .str (Str.ofString "name") z.b1, z.nm⟩, ⟨PyData.keyHash w.params (Str.ofString "start"), .str (Str.ofString "start") z.b2, .str (Str.ofString "a") z.s4⟩, ⟨PyData.keyHash w.params (Str.ofString "end"), .str (Str.ofString "end") z.b3, .str (Str.ofString "b") z.s5⟩, ⟨PyData.keyHash w.params (Str.ofString "length"), .str (Str.ofString "length") z.b4, z.ln⟩, ⟨PyData.keyHash w.params (Str.ofString "resistance"), .str (Str.ofString "resistance") z.b5, z.rs⟩, ⟨PyData.keyHash w.params (Str.ofString "loss"), .str (Str.ofString "loss") z.b6, z.lo⟩, ⟨PyData.keyHash w.params (Str.ofString "litres"), .str (Str.ofString "litres") z.b7, z.li⟩, ⟨PyData.keyHash w.params (Str.ofString "open"), .str (Str.ofString "open") z.b8, .bool true⟩] 8), (z.cd, z.ocd), (z.cu, instObj 167 z.cud), (z.cud, dictOf [⟨PyData.keyHash w.params (Str.ofString "name"), .str (Str.ofString "name") z.c1, z.nc⟩, ⟨PyData.keyHash w.params (Str.ofString "joint"), .str (Str.ofString "joint") z.c2, .str (Str.ofString "b") z.s6⟩, ⟨PyData.keyHash w.params (Str.ofString "demands"), .str (Str.ofString "demands") z.c3, .ref z.dl⟩, ⟨PyData.keyHash w.params (Str.ofString "drop"), .str (Str.ofString "drop") z.c4, z.dr⟩, ⟨PyData.keyHash w.params (Str.ofString "least"), .str (Str.ofString "least") z.c5, z.le⟩] 5), (z.dl, listOf dvs.toArray ndl)], p ∈ news) (lpd : (z.pd == sysModules) = false) (hpd : z.opd.IsDictOf (PySem.strKind PySem.Challenge.rw_ui0509_14.row.prog w) [(Str.ofString "p", Value.ref z.pp)]) (lcd : (z.cd == sysModules) = false) (hcd : z.ocd.IsDictOf (PySem.strKind PySem.Challenge.rw_ui0509_14.row.prog w) [(Str.ofString "u", Value.ref z.cu)]) (hdv : All2 (RatH s.heap) dvs ds) (hdb : ∀ r ∈ ds, Bd 64 r) (hdl : ds.length = 24)
    (hd : dp + 16 < recursionLimit) (hu : un + 600 < cLine)
    (hret : ∀ (D : Addr) (t t' : Tok) (c : Nat) (h' : Heap) (tk' : Nat), Bd 1600 (tot ds) → Fr h₀ L h' m → News h₀ L h' ((D, RatO (tot ds) t t' c) :: news) → (∀ p ∈ news, p.1 ≠ D) → Q (.ref D) { s with heap := h', toks := tk' }) :
    wpAny (model PySem.Challenge.rw_ui0509_14.row.prog w) (ktrTop dp un gd cn cs L a ccd cl outer) (call (.ref 309) [.ref z.net, .str (Str.ofString "u") tn]) Q E s := by
  have hNN : ∀ p ∈ [(z.net, instObj 298 z.dn), (z.dn, dictOf [⟨PyData.keyHash w.params (Str.ofString "ground"), .str (Str.ofString "ground") z.a1, z.gr⟩, ⟨PyData.keyHash w.params (Str.ofString "joints"), .str (Str.ofString "joints") z.a2, .ref z.jl⟩, ⟨PyData.keyHash w.params (Str.ofString "source"), .str (Str.ofString "source") z.a3, .str (Str.ofString "a") z.s1⟩, ⟨PyData.keyHash w.params (Str.ofString "pipes"), .str (Str.ofString "pipes") z.a4, .ref z.pd⟩, ⟨PyData.keyHash w.params (Str.ofString "consumers"), .str (Str.ofString "consumers") z.a5, .ref z.cd⟩, ⟨PyData.keyHash w.params (Str.ofString "bypasses"), .str (Str.ofString "bypasses") z.a6, z.bd⟩] 6), (z.pd, z.opd), (z.pp, instObj 139 z.ppd), (z.ppd, dictOf [⟨PyData.keyHash w.params (Str.ofString "name"), .str (Str.ofString "name") z.b1, z.nm⟩, ⟨PyData.keyHash w.params (Str.ofString "start"), .str (Str.ofString "start") z.b2, .str (Str.ofString "a") z.s4⟩, ⟨PyData.keyHash w.params (Str.ofString "end"), .str (Str.ofString "end") z.b3, .str (Str.ofString "b") z.s5⟩, ⟨PyData.keyHash w.params (Str.ofString "length"), .str (Str.ofString "length") z.b4, z.ln⟩, ⟨PyData.keyHash w.params (Str.ofString "resistance"), .str (Str.ofString "resistance") z.b5, z.rs⟩, ⟨PyData.keyHash w.params (Str.ofString "loss"), .str (Str.ofString "loss") z.b6, z.lo⟩, ⟨PyData.keyHash w.params (Str.ofString "litres"), .str (Str.ofString "litres") z.b7, z.li⟩, ⟨PyData.keyHash w.params (Str.ofString "open"), .str (Str.ofString "open") z.b8, .bool true⟩] 8), (z.cd, z.ocd), (z.cu, instObj 167 z.cud), (z.cud, dictOf [⟨PyData.keyHash w.params (Str.ofString "name"), .str (Str.ofString "name") z.c1, z.nc⟩, ⟨PyData.keyHash w.params (Str.ofString "joint"), .str (Str.ofString "joint") z.c2, .str (Str.ofString "b") z.s6⟩, ⟨PyData.keyHash w.params (Str.ofString "demands"), .str (Str.ofString "demands") z.c3, .ref z.dl⟩, ⟨PyData.keyHash w.params (Str.ofString "drop"), .str (Str.ofString "drop") z.c4, z.dr⟩, ⟨PyData.keyHash w.params (Str.ofString "least"), .str (Str.ofString "least") z.c5, z.le⟩] 5), (z.dl, listOf dvs.toArray ndl)], s.heap.get? p.1 = some p.2 := fun p hp => (N p (hn p hp)).1
  w_top off
  revert X; k_fill; intro X
  refine wpAny_call ?_
  k_dflt (refine' code_need [(z.net, instObj 298 z.dn), (z.dn, dictOf [⟨PyData.keyHash w.params (Str.ofString "ground"), .str (Str.ofString "ground") z.a1, z.gr⟩, ⟨PyData.keyHash w.params (Str.ofString "joints"), .str (Str.ofString "joints") z.a2, .ref z.jl⟩, ⟨PyData.keyHash w.params (Str.ofString "source"), .str (Str.ofString "source") z.a3, .str (Str.ofString "a") z.s1⟩, ⟨PyData.keyHash w.params (Str.ofString "pipes"), .str (Str.ofString "pipes") z.a4, .ref z.pd⟩, ⟨PyData.keyHash w.params (Str.ofString "consumers"), .str (Str.ofString "consumers") z.a5, .ref z.cd⟩, ⟨PyData.keyHash w.params (Str.ofString "bypasses"), .str (Str.ofString "bypasses") z.a6, z.bd⟩] 6), (z.pd, z.opd), (z.pp, instObj 139 z.ppd), (z.ppd, dictOf [⟨PyData.keyHash w.params (Str.ofString "name"), .str (Str.ofString "name") z.b1, z.nm⟩, ⟨PyData.keyHash w.params (Str.ofString "start"), .str (Str.ofString "start") z.b2, .str (Str.ofString "a") z.s4⟩, ⟨PyData.keyHash w.params (Str.ofString "end"), .str (Str.ofString "end") z.b3, .str (Str.ofString "b") z.s5⟩, ⟨PyData.keyHash w.params (Str.ofString "length"), .str (Str.ofString "length") z.b4, z.ln⟩, ⟨PyData.keyHash w.params (Str.ofString "resistance"), .str (Str.ofString "resistance") z.b5, z.rs⟩, ⟨PyData.keyHash w.params (Str.ofString "loss"), .str (Str.ofString "loss") z.b6, z.lo⟩, ⟨PyData.keyHash w.params (Str.ofString "litres"), .str (Str.ofString "litres") z.b7, z.li⟩, ⟨PyData.keyHash w.params (Str.ofString "open"), .str (Str.ofString "open") z.b8, .bool true⟩] 8), (z.cd, z.ocd), (z.cu, instObj 167 z.cud), (z.cud, dictOf [⟨PyData.keyHash w.params (Str.ofString "name"), .str (Str.ofString "name") z.c1, z.nc⟩, ⟨PyData.keyHash w.params (Str.ofString "joint"), .str (Str.ofString "joint") z.c2, .str (Str.ofString "b") z.s6⟩, ⟨PyData.keyHash w.params (Str.ofString "demands"), .str (Str.ofString "demands") z.c3, .ref z.dl⟩, ⟨PyData.keyHash w.params (Str.ofString "drop"), .str (Str.ofString "drop") z.c4, z.dr⟩, ⟨PyData.keyHash w.params (Str.ofString "least"), .str (Str.ofString "least") z.c5, z.le⟩] 5), (z.dl, listOf dvs.toArray ndl)] ?k1 ?k2 ?k3 ?k4 ?k5 ?kA ?kF ?kK ?k6 ?k7 ?k8 ?k9 ?kB ?kN ?_ ?c2 ?c3 ?c4 ?c5; (case kA => exact rfl); (case kF => exact rfl); (case kK => assumption); (case k1 => k_asm); (case k2 => k_asm); (case k3 => k_asm); (case k4 => k_asm); (case k5 => k_asm); (case k6 => k_is); (case k7 => k_is); (case k8 => ktr_room); (case k9 => first | exact BindsTo.of_eq rfl | exact binds_K (by k_in) rfl (by k_is) rfl rfl rfl); (case c5 => decide); (case kB => exact locs rfl); (case kN => exact hn); (case c2 => exact rfl); (case c3 => exact rfl); (case c4 => exact rfl); k_whole; intro g' L' h' tk0 FG' F' N' B' X' T' hG'; (try dsimp only); (try k_fold))
  have hcl : ∀ p ∈ [(z.net, instObj 298 z.dn), (z.dn, dictOf [⟨PyData.keyHash w.params (Str.ofString "ground"), .str (Str.ofString "ground") z.a1, z.gr⟩, ⟨PyData.keyHash w.params (Str.ofString "joints"), .str (Str.ofString "joints") z.a2, .ref z.jl⟩, ⟨PyData.keyHash w.params (Str.ofString "source"), .str (Str.ofString "source") z.a3, .str (Str.ofString "a") z.s1⟩, ⟨PyData.keyHash w.params (Str.ofString "pipes"), .str (Str.ofString "pipes") z.a4, .ref z.pd⟩, ⟨PyData.keyHash w.params (Str.ofString "consumers"), .str (Str.ofString "consumers") z.a5, .ref z.cd⟩, ⟨PyData.keyHash w.params (Str.ofString "bypasses"), .str (Str.ofString "bypasses") z.a6, z.bd⟩] 6), (z.pd, z.opd), (z.pp, instObj 139 z.ppd), (z.ppd, dictOf [⟨PyData.keyHash w.params (Str.ofString "name"), .str (Str.ofString "name") z.b1, z.nm⟩, ⟨PyData.keyHash w.params (Str.ofString "start"), .str (Str.ofString "start") z.b2, .str (Str.ofString "a") z.s4⟩, ⟨PyData.keyHash w.params (Str.ofString "end"), .str (Str.ofString "end") z.b3, .str (Str.ofString "b") z.s5⟩, ⟨PyData.keyHash w.params (Str.ofString "length"), .str (Str.ofString "length") z.b4, z.ln⟩, ⟨PyData.keyHash w.params (Str.ofString "resistance"), .str (Str.ofString "resistance") z.b5, z.rs⟩, ⟨PyData.keyHash w.params (Str.ofString "loss"), .str (Str.ofString "loss") z.b6, z.lo⟩, ⟨PyData.keyHash w.params (Str.ofString "litres"), .str (Str.ofString "litres") z.b7, z.li⟩, ⟨PyData.keyHash w.params (Str.ofString "open"), .str (Str.ofString "open") z.b8, .bool true⟩] 8), (z.cd, z.ocd), (z.cu, instObj 167 z.cud), (z.cud, dictOf [⟨PyData.keyHash w.params (Str.ofString "name"), .str (Str.ofString "name") z.c1, z.nc⟩, ⟨PyData.keyHash w.params (Str.ofString "joint"), .str (Str.ofString "joint") z.c2, .str (Str.ofString "b") z.s6⟩, ⟨PyData.keyHash w.params (Str.ofString "demands"), .str (Str.ofString "demands") z.c3, .ref z.dl⟩, ⟨PyData.keyHash w.params (Str.ofString "drop"), .str (Str.ofString "drop") z.c4, z.dr⟩, ⟨PyData.keyHash w.params (Str.ofString "least"), .str (Str.ofString "least") z.c5, z.le⟩] 5), (z.dl, listOf dvs.toArray ndl)], p.2.cls ≠ .type "tuple" := fcons inst_cls (fcons dict_cls2 (fcons (dict_cls hpd) (fcons inst_cls (fcons dict_cls2 (fcons (dict_cls hcd) (fcons inst_cls (fcons dict_cls2 (fcons list_cls (List.forall_mem_nil _)))))))))
  replace hdv : All2 (RatH g') dvs ds := hdv.mono fun v r x => by
    obtain ⟨D, t, t', c, e, hx⟩ := x
    exact ⟨D, t, t', c, e, hG' _ _ hx (not_need hNN hcl hx rfl)⟩
  k_steps
  unfold Hold
  k_dflt (refine' consumer_c (z := z) ?k1 ?k2 ?k3 ?k4 ?k5 ?k6 ?hn ?lcd ?hcd ?k7 ?k8 ?_)
  case k1 => k_asm
  case k2 => k_asm
  case k3 => k_asm
  case k4 => k_asm
  case k5 => k_asm
  case k6 => first | exact rfl | assumption
  case k7 => ktr_room
  case k8 => ktr_units
  case hn => exact fcons (by k_mem) (fcons (by k_mem) (fcons (by k_mem) (List.forall_mem_nil _)))
  case lcd => exact lcd
  case hcd => exact hcd

  intro h5 tk5 F5 N5
  k_steps
  unfold Hold
  k_dflt (refine' fed_c (z := z) ?k1 ?k2 ?k3 ?k4 ?k5 ?k6 ?hn ?lpd ?hpd ?k7 ?k8 ?_)
  case k1 => k_asm
  case k2 => k_asm
  case k3 => k_asm
  case k4 => k_asm
  case k5 => k_asm
  case k6 => first | exact rfl | assumption
  case k7 => ktr_room
  case k8 => ktr_units
  case hn => exact fcons (by k_mem) (fcons (by k_mem) (fcons (by k_mem) (fcons (by k_mem) (fcons (by k_mem) (List.forall_mem_nil _)))))
  case lpd => exact lpd
  case hpd => exact hpd

  intro D6 ta tb n6 h6 tk6 F6 N6 l6
  replace l6 := allNe_of l6
  k_steps
  unfold Hold
  k_dflt (refine' total_c (rs := ds) (b := 64) ?k1 ?k2 ?k3 ?k4 ?k5 ?k6 ?el ?hv ?hne ?hb ?hlen ?k7 ?k8 ?_)
  case k1 => k_asm
  case k2 => k_asm
  case k3 => k_asm
  case k4 => k_asm
  case k5 => k_asm
  case k6 => first | exact rfl | assumption
  case k7 => ktr_room
  case k8 => ktr_units
  case el => exact News.get (by k_asm) (by k_mem)
  case hv => exact hdv.mono fun v r x => x.keeps (Fr.keep (by k_asm))
  case hne => intro h; rw [h] at hdl; simp at hdl
  case hb => exact hdb
  case hlen => omega

  intro D7 t7 u7 c7 h7 tk7 b7 F7 N7 l7
  have l7' := l7
  k_steps
  try dsimp only
  refine leaveN_ (by k_asm) (by k_asm) ?_; intro kF kN kR kD; (try dsimp only); exact hret _ _ _ _ _ _ (b7.mono (by omega)) kF (news_cons kN (by k_mem) (news_back N hn kN ((by intro p9 hp9; first | exact hp9 | exact absurd hp9 List.not_mem_nil | (repeat (first | exact hp9 | refine List.mem_cons_of_mem _ ?_))) : ∀ p ∈ [(z.net, instObj 298 z.dn), (z.dn, dictOf [⟨PyData.keyHash w.params (Str.ofString "ground"), .str (Str.ofString "ground") z.a1, z.gr⟩, ⟨PyData.keyHash w.params (Str.ofString "joints"), .str (Str.ofString "joints") z.a2, .ref z.jl⟩, ⟨PyData.keyHash w.params (Str.ofString "source"), .str (Str.ofString "source") z.a3, .str (Str.ofString "a") z.s1⟩, ⟨PyData.keyHash w.params (Str.ofString "pipes"), .str (Str.ofString "pipes") z.a4, .ref z.pd⟩, ⟨PyData.keyHash w.params (Str.ofString "consumers"), .str (Str.ofString "consumers") z.a5, .ref z.cd⟩, ⟨PyData.keyHash w.params (Str.ofString "bypasses"), .str (Str.ofString "bypasses") z.a6, z.bd⟩] 6), (z.pd, z.opd), (z.pp, instObj 139 z.ppd), (z.ppd, dictOf [⟨PyData.keyHash w.params (Str.ofString "name"), .str (Str.ofString "name") z.b1, z.nm⟩, ⟨PyData.keyHash w.params (Str.ofString "start"), .str (Str.ofString "start") z.b2, .str (Str.ofString "a") z.s4⟩, ⟨PyData.keyHash w.params (Str.ofString "end"), .str (Str.ofString "end") z.b3, .str (Str.ofString "b") z.s5⟩, ⟨PyData.keyHash w.params (Str.ofString "length"), .str (Str.ofString "length") z.b4, z.ln⟩, ⟨PyData.keyHash w.params (Str.ofString "resistance"), .str (Str.ofString "resistance") z.b5, z.rs⟩, ⟨PyData.keyHash w.params (Str.ofString "loss"), .str (Str.ofString "loss") z.b6, z.lo⟩, ⟨PyData.keyHash w.params (Str.ofString "litres"), .str (Str.ofString "litres") z.b7, z.li⟩, ⟨PyData.keyHash w.params (Str.ofString "open"), .str (Str.ofString "open") z.b8, .bool true⟩] 8), (z.cd, z.ocd), (z.cu, instObj 167 z.cud), (z.cud, dictOf [⟨PyData.keyHash w.params (Str.ofString "name"), .str (Str.ofString "name") z.c1, z.nc⟩, ⟨PyData.keyHash w.params (Str.ofString "joint"), .str (Str.ofString "joint") z.c2, .str (Str.ofString "b") z.s6⟩, ⟨PyData.keyHash w.params (Str.ofString "demands"), .str (Str.ofString "demands") z.c3, .ref z.dl⟩, ⟨PyData.keyHash w.params (Str.ofString "drop"), .str (Str.ofString "drop") z.c4, z.dr⟩, ⟨PyData.keyHash w.params (Str.ofString "least"), .str (Str.ofString "least") z.c5, z.le⟩] 5), (z.dl, listOf dvs.toArray ndl)], p ∈ _) kR)) (neW kD (by k_mem : (D7, RatO _ _ _ _) ∈ _) fun p hp => l7' p (((by intro p9 hp9; first | exact hp9 | exact absurd hp9 List.not_mem_nil | (repeat (first | exact hp9 | refine List.mem_cons_of_mem _ ?_))) : ∀ p ∈ [(z.net, instObj 298 z.dn), (z.dn, dictOf [⟨PyData.keyHash w.params (Str.ofString "ground"), .str (Str.ofString "ground") z.a1, z.gr⟩, ⟨PyData.keyHash w.params (Str.ofString "joints"), .str (Str.ofString "joints") z.a2, .ref z.jl⟩, ⟨PyData.keyHash w.params (Str.ofString "source"), .str (Str.ofString "source") z.a3, .str (Str.ofString "a") z.s1⟩, ⟨PyData.keyHash w.params (Str.ofString "pipes"), .str (Str.ofString "pipes") z.a4, .ref z.pd⟩, ⟨PyData.keyHash w.params (Str.ofString "consumers"), .str (Str.ofString "consumers") z.a5, .ref z.cd⟩, ⟨PyData.keyHash w.params (Str.ofString "bypasses"), .str (Str.ofString "bypasses") z.a6, z.bd⟩] 6), (z.pd, z.opd), (z.pp, instObj 139 z.ppd), (z.ppd, dictOf [⟨PyData.keyHash w.params (Str.ofString "name"), .str (Str.ofString "name") z.b1, z.nm⟩, ⟨PyData.keyHash w.params (Str.ofString "start"), .str (Str.ofString "start") z.b2, .str (Str.ofString "a") z.s4⟩, ⟨PyData.keyHash w.params (Str.ofString "end"), .str (Str.ofString "end") z.b3, .str (Str.ofString "b") z.s5⟩, ⟨PyData.keyHash w.params (Str.ofString "length"), .str (Str.ofString "length") z.b4, z.ln⟩, ⟨PyData.keyHash w.params (Str.ofString "resistance"), .str (Str.ofString "resistance") z.b5, z.rs⟩, ⟨PyData.keyHash w.params (Str.ofString "loss"), .str (Str.ofString "loss") z.b6, z.lo⟩, ⟨PyData.keyHash w.params (Str.ofString "litres"), .str (Str.ofString "litres") z.b7, z.li⟩, ⟨PyData.keyHash w.params (Str.ofString "open"), .str (Str.ofString "open") z.b8, .bool true⟩] 8), (z.cd, z.ocd), (z.cu, instObj 167 z.cud), (z.cud, dictOf [⟨PyData.keyHash w.params (Str.ofString "name"), .str (Str.ofString "name") z.c1, z.nc⟩, ⟨PyData.keyHash w.params (Str.ofString "joint"), .str (Str.ofString "joint") z.c2, .str (Str.ofString "b") z.s6⟩, ⟨PyData.keyHash w.params (Str.ofString "demands"), .str (Str.ofString "demands") z.c3, .ref z.dl⟩, ⟨PyData.keyHash w.params (Str.ofString "drop"), .str (Str.ofString "drop") z.c4, z.dr⟩, ⟨PyData.keyHash w.params (Str.ofString "least"), .str (Str.ofString "least") z.c5, z.le⟩] 5), (z.dl, listOf dvs.toArray ndl)], p ∈ _) p hp))
end
def netDO (P : Params) (z : NetP) : Obj := dictOf [⟨PyData.keyHash P (Str.ofString "ground"), .str (Str.ofString "ground") z.a1, z.gr⟩, ⟨PyData.keyHash P (Str.ofString "joints"), .str (Str.ofString "joints") z.a2, .ref z.jl⟩, ⟨PyData.keyHash P (Str.ofString "source"), .str (Str.ofString "source") z.a3, .str (Str.ofString "a") z.s1⟩, ⟨PyData.keyHash P (Str.ofString "pipes"), .str (Str.ofString "pipes") z.a4, .ref z.pd⟩, ⟨PyData.keyHash P (Str.ofString "consumers"), .str (Str.ofString "consumers") z.a5, .ref z.cd⟩, ⟨PyData.keyHash P (Str.ofString "bypasses"), .str (Str.ofString "bypasses") z.a6, z.bd⟩] 6
def pipDO (P : Params) (z : NetP) : Obj := dictOf [⟨PyData.keyHash P (Str.ofString "name"), .str (Str.ofString "name") z.b1, z.nm⟩, ⟨PyData.keyHash P (Str.ofString "start"), .str (Str.ofString "start") z.b2, .str (Str.ofString "a") z.s4⟩, ⟨PyData.keyHash P (Str.ofString "end"), .str (Str.ofString "end") z.b3, .str (Str.ofString "b") z.s5⟩, ⟨PyData.keyHash P (Str.ofString "length"), .str (Str.ofString "length") z.b4, z.ln⟩, ⟨PyData.keyHash P (Str.ofString "resistance"), .str (Str.ofString "resistance") z.b5, z.rs⟩, ⟨PyData.keyHash P (Str.ofString "loss"), .str (Str.ofString "loss") z.b6, z.lo⟩, ⟨PyData.keyHash P (Str.ofString "litres"), .str (Str.ofString "litres") z.b7, z.li⟩, ⟨PyData.keyHash P (Str.ofString "open"), .str (Str.ofString "open") z.b8, .bool true⟩] 8
def conDO (P : Params) (z : NetP) : Obj := dictOf [⟨PyData.keyHash P (Str.ofString "name"), .str (Str.ofString "name") z.c1, z.nc⟩, ⟨PyData.keyHash P (Str.ofString "joint"), .str (Str.ofString "joint") z.c2, .str (Str.ofString "b") z.s6⟩, ⟨PyData.keyHash P (Str.ofString "demands"), .str (Str.ofString "demands") z.c3, .ref z.dl⟩, ⟨PyData.keyHash P (Str.ofString "drop"), .str (Str.ofString "drop") z.c4, z.dr⟩, ⟨PyData.keyHash P (Str.ofString "least"), .str (Str.ofString "least") z.c5, z.le⟩] 5
theorem dh_d {w : World} {p : Program} {loose : List Str} {mean : ExcName → Option Value} {mg mb : Str → Option Value} {dp un : Nat} {gd : Option (List Code)} {cn : Str} {cs : Scope} {a : Addr} {ccd : Value} {cl : List (Str × Addr)} {outer : List Env} {A₀ : Around} {base h₀ : Heap} {L : Addr} {m : Str → Option Value} {news : List (Addr × Obj)} {s : Shared} {Q E : Value → Shared → Prop} {z : NetP} {dvs : List Value} {ds : List Rat} {ndl : Nat} {tn : Tok}
    (B : Below A₀ base outer h₀) (F : Fr h₀ L s.heap m) (X : (HD.K w.params).In h₀) (N : News h₀ L s.heap news) (T : Top p loose mean mg mb h₀) (hk : cs.kind = .function) (hn : ∀ p ∈ [(z.net, instObj 298 z.dn), (z.dn, netDO w.params z), (z.pd, z.opd), (z.pp, instObj 139 z.ppd), (z.ppd, pipDO w.params z), (z.cd, z.ocd), (z.cu, instObj 167 z.cud), (z.cud, conDO w.params z), (z.dl, listOf dvs.toArray ndl)], p ∈ news) (lpd : (z.pd == sysModules) = false) (hpd : z.opd.IsDictOf (PySem.strKind PySem.Challenge.rw_ui0509_14.row.prog w) [(Str.ofString "p", Value.ref z.pp)]) (lcd : (z.cd == sysModules) = false) (hcd : z.ocd.IsDictOf (PySem.strKind PySem.Challenge.rw_ui0509_14.row.prog w) [(Str.ofString "u", Value.ref z.cu)]) (hdv : All2 (RatH s.heap) dvs ds) (hdb : ∀ r ∈ ds, Bd 64 r) (hdl : ds.length = 24)
    (hd : dp + 16 < recursionLimit) (hu : un + 600 < cLine)
    (hret : ∀ (D : Addr) (t t' : Tok) (c : Nat) (h' : Heap) (tk' : Nat), Bd 1600 (tot ds) → Fr h₀ L h' m → News h₀ L h' ((D, RatO (tot ds) t t' c) :: news) → (∀ p ∈ news, p.1 ≠ D) → Q (.ref D) { s with heap := h', toks := tk' }) :
    wpAny (model PySem.Challenge.rw_ui0509_14.row.prog w) (ktrTop dp un gd cn cs L a ccd cl outer) (call (.ref 309) [.ref z.net, .str (Str.ofString "u") tn]) Q E s :=
  dh_c (z := z) (dvs := dvs) (ds := ds) (ndl := ndl) B F X N T hk hn lpd hpd lcd hcd hdv hdb hdl hd hu hret
theorem idx_no {n : Nat} {k : Int} (h : k < -((n : Nat) : Int) ∨ (n : Int) ≤ k) (h0 : 0 ≤ k) (h1 : k < n) : False := by omega
theorem words12 : True := by
  k_with_none
  k_with "ne9" => (first | with_reducible assumption | exact Ne.symm (by with_reducible assumption) | omega)
  k_with "k_in" => (refine' in_of ?z1fF ?z1fX; (case z1fF => k_asm); (case z1fX => k_asm))
  k_with "call ref" => (k_here; (with_reducible show wpAny _ _ (call (Value.ref 64) [Value.int _ _, Value.int _ _]) _ _ _); k_dflt (refine' div_use _ _ _ _ _ _ _ _ _ _ _ _ _ _ _ _ _ _ _ _ _ _ ?z2k1 ?z2k2 ?z2k3 ?z2k4 ?z2k5 ?z2k6 ?z2k7 ?z2k8 ?z2k9 ?z2k10 ?_; (case z2k1 => k_asm); (case z2k2 => k_asm); (case z2k3 => k_asm); (case z2k4 => k_asm); (case z2k5 => k_asm); (case z2k6 => first | exact rfl | assumption); (case z2k7 => ktr_room); (case z2k8 => ktr_units); (case z2k9 => omega); (case z2k10 => first | assumption | exact Fits.neg (by assumption) | exact Fits.of (n := 64) (PySem.intBits_le_64 (by omega) (by omega)) (by decide)); k_whole); walk_at "i0"; (try k_sweep))
  k_with "binaryOp FloorDiv int int" => (with_reducible refine floordiv_int ?z3ne ?_ (Or.inl (PyProof.noPylong_of_log2 ?z3lg)); (case z3lg => with_reducible assumption); (case z3ne => omega))
  trivial
theorem need_number_c {w : World} {p : Program} {loose : List Str} {mean : ExcName → Option Value} {mg mb : Str → Option Value} {dp un : Nat} {gd : Option (List Code)} {cn : Str} {cs : Scope} {a : Addr} {ccd : Value} {cl : List (Str × Addr)} {outer : List Env} {A₀ : Around} {base h₀ : Heap} {L : Addr} {m : Str → Option Value} {news : List (Addr × Obj)} {s : Shared} {Q E : Value → Shared → Prop} {v lo hi : Int} {t1 t2 t3 t4 : Tok} {what : Str}
    (B : Below A₀ base outer h₀) (F : Fr h₀ L s.heap m) (X : (HD.K w.params).In h₀) (N : News h₀ L s.heap news) (T : Top p loose mean mg mb h₀) (hk : cs.kind = .function) (h1 : lo ≤ v) (h2 : v ≤ hi)
    (hd : dp + 2 < recursionLimit)
    (hret : ∀ (h' : Heap) (tk' : Nat), Fr h₀ L h' m → News h₀ L h' news → Q (.int v t1) { s with heap := h', toks := tk' }) :
    wpAny (model PySem.Challenge.rw_ui0509_14.row.prog w) (ktrTop dp un gd cn cs L a ccd cl outer) (call (.ref 41) [.int v t1, .int lo t2, .int hi t3, .str what t4]) Q E s := by
  w_top off
  revert X; k_fill; intro X
  refine wpAny_call ?_
  k_dflt (refine' code_need [] ?k1 ?k2 ?k3 ?k4 ?k5 ?kA ?kF ?kK ?k6 ?k7 ?k8 ?k9 ?kB ?kN ?_ ?c2 ?c3 ?c4 ?c5; (case kA => exact rfl); (case kF => exact rfl); (case kK => assumption); (case k1 => k_asm); (case k2 => k_asm); (case k3 => k_asm); (case k4 => k_asm); (case k5 => k_asm); (case k6 => k_is); (case k7 => k_is); (case k8 => ktr_room); (case k9 => first | exact BindsTo.of_eq rfl | exact binds_K (by k_in) rfl (by k_is) rfl rfl rfl); (case c5 => decide); (case kB => exact locs rfl); (case kN => exact fun _ h => nomatch h); (case c2 => exact rfl); (case c3 => exact rfl); (case c4 => exact rfl); k_whole; intro g' L' h' tk0 FG' F' N' B' X' T' hG'; (try dsimp only); (try k_fold))
  k_steps
  all_goals (refine leaveN_ (by k_asm) (by k_asm) ?_; intro kF kN kR kD; (try dsimp only); exact hret _ _ kF (news_all kR))
theorem need_name_m {w : World} {p : Program} {loose : List Str} {mean : ExcName → Option Value} {mg mb : Str → Option Value} {dp un : Nat} {gd : Option (List Code)} {cn : Str} {cs : Scope} {a : Addr} {ccd : Value} {cl : List (Str × Addr)} {outer : List Env} {A₀ : Around} {base h₀ : Heap} {L : Addr} {m : Str → Option Value} {news : List (Addr × Obj)} {s : Shared} {Q E : Value → Shared → Prop} {t1 : Tok}
    (B : Below A₀ base outer h₀) (F : Fr h₀ L s.heap m) (X : (HD.K w.params).In h₀) (N : News h₀ L s.heap news) (T : Top p loose mean mg mb h₀) (hk : cs.kind = .function)
    (hd : dp + 2 < recursionLimit)
    (hret : ∀ (h' : Heap) (tk' : Nat), Fr h₀ L h' m → News h₀ L h' news → Q (.str (Str.ofString "m") t1) { s with heap := h', toks := tk' }) :
    wpAny (model PySem.Challenge.rw_ui0509_14.row.prog w) (ktrTop dp un gd cn cs L a ccd cl outer) (call (.ref 55) [.str (Str.ofString "m") t1]) Q E s := by
  w_top off
  revert X; k_fill; intro X
  refine wpAny_call ?_
  k_dflt (refine' code_need [] ?k1 ?k2 ?k3 ?k4 ?k5 ?kA ?kF ?kK ?k6 ?k7 ?k8 ?k9 ?kB ?kN ?_ ?c2 ?c3 ?c4 ?c5; (case kA => exact rfl); (case kF => exact rfl); (case kK => assumption); (case k1 => k_asm); (case k2 => k_asm); (case k3 => k_asm); (case k4 => k_asm); (case k5 => k_asm); (case k6 => k_is); (case k7 => k_is); (case k8 => ktr_room); (case k9 => first | exact BindsTo.of_eq rfl | exact binds_K (by k_in) rfl (by k_is) rfl rfl rfl); (case c5 => decide); (case kB => exact locs rfl); (case kN => exact fun _ h => nomatch h); (case c2 => exact rfl); (case c3 => exact rfl); (case c4 => exact rfl); k_whole; intro g' L' h' tk0 FG' F' N' B' X' T' hG'; (try dsimp only); (try k_fold))
  k_steps
  all_goals (try dsimp only)
  all_goals first | exact (idx_no (by assumption) (by decide) (by decide +kernel)).elim | (refine leaveN_ (by k_asm) (by k_asm) ?_; intro kF kN kR kD; (try dsimp only); exact hret _ _ kF (news_all kR))
theorem need_name_n {w : World} {p : Program} {loose : List Str} {mean : ExcName → Option Value} {mg mb : Str → Option Value} {dp un : Nat} {gd : Option (List Code)} {cn : Str} {cs : Scope} {a : Addr} {ccd : Value} {cl : List (Str × Addr)} {outer : List Env} {A₀ : Around} {base h₀ : Heap} {L : Addr} {m : Str → Option Value} {news : List (Addr × Obj)} {s : Shared} {Q E : Value → Shared → Prop} {t1 : Tok}
    (B : Below A₀ base outer h₀) (F : Fr h₀ L s.heap m) (X : (HD.K w.params).In h₀) (N : News h₀ L s.heap news) (T : Top p loose mean mg mb h₀) (hk : cs.kind = .function)
    (hd : dp + 2 < recursionLimit)
    (hret : ∀ (h' : Heap) (tk' : Nat), Fr h₀ L h' m → News h₀ L h' news → Q (.str (Str.ofString "n") t1) { s with heap := h', toks := tk' }) :
    wpAny (model PySem.Challenge.rw_ui0509_14.row.prog w) (ktrTop dp un gd cn cs L a ccd cl outer) (call (.ref 55) [.str (Str.ofString "n") t1]) Q E s := by
  w_top off
  revert X; k_fill; intro X
  refine wpAny_call ?_
  k_dflt (refine' code_need [] ?k1 ?k2 ?k3 ?k4 ?k5 ?kA ?kF ?kK ?k6 ?k7 ?k8 ?k9 ?kB ?kN ?_ ?c2 ?c3 ?c4 ?c5; (case kA => exact rfl); (case kF => exact rfl); (case kK => assumption); (case k1 => k_asm); (case k2 => k_asm); (case k3 => k_asm); (case k4 => k_asm); (case k5 => k_asm); (case k6 => k_is); (case k7 => k_is); (case k8 => ktr_room); (case k9 => first | exact BindsTo.of_eq rfl | exact binds_K (by k_in) rfl (by k_is) rfl rfl rfl); (case c5 => decide); (case kB => exact locs rfl); (case kN => exact fun _ h => nomatch h); (case c2 => exact rfl); (case c3 => exact rfl); (case c4 => exact rfl); k_whole; intro g' L' h' tk0 FG' F' N' B' X' T' hG'; (try dsimp only); (try k_fold))
  k_steps
  all_goals (try dsimp only)
  all_goals first | exact (idx_no (by assumption) (by decide) (by decide +kernel)).elim | (refine leaveN_ (by k_asm) (by k_asm) ?_; intro kF kN kR kD; (try dsimp only); exact hret _ _ kF (news_all kR))
theorem need_name_a {w : World} {p : Program} {loose : List Str} {mean : ExcName → Option Value} {mg mb : Str → Option Value} {dp un : Nat} {gd : Option (List Code)} {cn : Str} {cs : Scope} {a : Addr} {ccd : Value} {cl : List (Str × Addr)} {outer : List Env} {A₀ : Around} {base h₀ : Heap} {L : Addr} {m : Str → Option Value} {news : List (Addr × Obj)} {s : Shared} {Q E : Value → Shared → Prop} {t1 : Tok}
    (B : Below A₀ base outer h₀) (F : Fr h₀ L s.heap m) (X : (HD.K w.params).In h₀) (N : News h₀ L s.heap news) (T : Top p loose mean mg mb h₀) (hk : cs.kind = .function)
    (hd : dp + 2 < recursionLimit)
    (hret : ∀ (h' : Heap) (tk' : Nat), Fr h₀ L h' m → News h₀ L h' news → Q (.str (Str.ofString "a") t1) { s with heap := h', toks := tk' }) :
    wpAny (model PySem.Challenge.rw_ui0509_14.row.prog w) (ktrTop dp un gd cn cs L a ccd cl outer) (call (.ref 55) [.str (Str.ofString "a") t1]) Q E s := by
  w_top off
  revert X; k_fill; intro X
  refine wpAny_call ?_
  k_dflt (refine' code_need [] ?k1 ?k2 ?k3 ?k4 ?k5 ?kA ?kF ?kK ?k6 ?k7 ?k8 ?k9 ?kB ?kN ?_ ?c2 ?c3 ?c4 ?c5; (case kA => exact rfl); (case kF => exact rfl); (case kK => assumption); (case k1 => k_asm); (case k2 => k_asm); (case k3 => k_asm); (case k4 => k_asm); (case k5 => k_asm); (case k6 => k_is); (case k7 => k_is); (case k8 => ktr_room); (case k9 => first | exact BindsTo.of_eq rfl | exact binds_K (by k_in) rfl (by k_is) rfl rfl rfl); (case c5 => decide); (case kB => exact locs rfl); (case kN => exact fun _ h => nomatch h); (case c2 => exact rfl); (case c3 => exact rfl); (case c4 => exact rfl); k_whole; intro g' L' h' tk0 FG' F' N' B' X' T' hG'; (try dsimp only); (try k_fold))
  k_steps
  all_goals (try dsimp only)
  all_goals first | exact (idx_no (by assumption) (by decide) (by decide +kernel)).elim | (refine leaveN_ (by k_asm) (by k_asm) ?_; intro kF kN kR kD; (try dsimp only); exact hret _ _ kF (news_all kR))
theorem need_name_b {w : World} {p : Program} {loose : List Str} {mean : ExcName → Option Value} {mg mb : Str → Option Value} {dp un : Nat} {gd : Option (List Code)} {cn : Str} {cs : Scope} {a : Addr} {ccd : Value} {cl : List (Str × Addr)} {outer : List Env} {A₀ : Around} {base h₀ : Heap} {L : Addr} {m : Str → Option Value} {news : List (Addr × Obj)} {s : Shared} {Q E : Value → Shared → Prop} {t1 : Tok}
    (B : Below A₀ base outer h₀) (F : Fr h₀ L s.heap m) (X : (HD.K w.params).In h₀) (N : News h₀ L s.heap news) (T : Top p loose mean mg mb h₀) (hk : cs.kind = .function)
    (hd : dp + 2 < recursionLimit)
    (hret : ∀ (h' : Heap) (tk' : Nat), Fr h₀ L h' m → News h₀ L h' news → Q (.str (Str.ofString "b") t1) { s with heap := h', toks := tk' }) :
    wpAny (model PySem.Challenge.rw_ui0509_14.row.prog w) (ktrTop dp un gd cn cs L a ccd cl outer) (call (.ref 55) [.str (Str.ofString "b") t1]) Q E s := by
  w_top off
  revert X; k_fill; intro X
  refine wpAny_call ?_
  k_dflt (refine' code_need [] ?k1 ?k2 ?k3 ?k4 ?k5 ?kA ?kF ?kK ?k6 ?k7 ?k8 ?k9 ?kB ?kN ?_ ?c2 ?c3 ?c4 ?c5; (case kA => exact rfl); (case kF => exact rfl); (case kK => assumption); (case k1 => k_asm); (case k2 => k_asm); (case k3 => k_asm); (case k4 => k_asm); (case k5 => k_asm); (case k6 => k_is); (case k7 => k_is); (case k8 => ktr_room); (case k9 => first | exact BindsTo.of_eq rfl | exact binds_K (by k_in) rfl (by k_is) rfl rfl rfl); (case c5 => decide); (case kB => exact locs rfl); (case kN => exact fun _ h => nomatch h); (case c2 => exact rfl); (case c3 => exact rfl); (case c4 => exact rfl); k_whole; intro g' L' h' tk0 FG' F' N' B' X' T' hG'; (try dsimp only); (try k_fold))
  k_steps
  all_goals (try dsimp only)
  all_goals first | exact (idx_no (by assumption) (by decide) (by decide +kernel)).elim | (refine leaveN_ (by k_asm) (by k_asm) ?_; intro kF kN kR kD; (try dsimp only); exact hret _ _ kF (news_all kR))
theorem need_name_p {w : World} {p : Program} {loose : List Str} {mean : ExcName → Option Value} {mg mb : Str → Option Value} {dp un : Nat} {gd : Option (List Code)} {cn : Str} {cs : Scope} {a : Addr} {ccd : Value} {cl : List (Str × Addr)} {outer : List Env} {A₀ : Around} {base h₀ : Heap} {L : Addr} {m : Str → Option Value} {news : List (Addr × Obj)} {s : Shared} {Q E : Value → Shared → Prop} {t1 : Tok}
    (B : Below A₀ base outer h₀) (F : Fr h₀ L s.heap m) (X : (HD.K w.params).In h₀) (N : News h₀ L s.heap news) (T : Top p loose mean mg mb h₀) (hk : cs.kind = .function)
    (hd : dp + 2 < recursionLimit)
    (hret : ∀ (h' : Heap) (tk' : Nat), Fr h₀ L h' m → News h₀ L h' news → Q (.str (Str.ofString "p") t1) { s with heap := h', toks := tk' }) :
    wpAny (model PySem.Challenge.rw_ui0509_14.row.prog w) (ktrTop dp un gd cn cs L a ccd cl outer) (call (.ref 55) [.str (Str.ofString "p") t1]) Q E s := by
  w_top off
  revert X; k_fill; intro X
  refine wpAny_call ?_
  k_dflt (refine' code_need [] ?k1 ?k2 ?k3 ?k4 ?k5 ?kA ?kF ?kK ?k6 ?k7 ?k8 ?k9 ?kB ?kN ?_ ?c2 ?c3 ?c4 ?c5; (case kA => exact rfl); (case kF => exact rfl); (case kK => assumption); (case k1 => k_asm); (case k2 => k_asm); (case k3 => k_asm); (case k4 => k_asm); (case k5 => k_asm); (case k6 => k_is); (case k7 => k_is); (case k8 => ktr_room); (case k9 => first | exact BindsTo.of_eq rfl | exact binds_K (by k_in) rfl (by k_is) rfl rfl rfl); (case c5 => decide); (case kB => exact locs rfl); (case kN => exact fun _ h => nomatch h); (case c2 => exact rfl); (case c3 => exact rfl); (case c4 => exact rfl); k_whole; intro g' L' h' tk0 FG' F' N' B' X' T' hG'; (try dsimp only); (try k_fold))
  k_steps
  all_goals (try dsimp only)
  all_goals first | exact (idx_no (by assumption) (by decide) (by decide +kernel)).elim | (refine leaveN_ (by k_asm) (by k_asm) ?_; intro kF kN kR kD; (try dsimp only); exact hret _ _ kF (news_all kR))
theorem need_name_u {w : World} {p : Program} {loose : List Str} {mean : ExcName → Option Value} {mg mb : Str → Option Value} {dp un : Nat} {gd : Option (List Code)} {cn : Str} {cs : Scope} {a : Addr} {ccd : Value} {cl : List (Str × Addr)} {outer : List Env} {A₀ : Around} {base h₀ : Heap} {L : Addr} {m : Str → Option Value} {news : List (Addr × Obj)} {s : Shared} {Q E : Value → Shared → Prop} {t1 : Tok}
    (B : Below A₀ base outer h₀) (F : Fr h₀ L s.heap m) (X : (HD.K w.params).In h₀) (N : News h₀ L s.heap news) (T : Top p loose mean mg mb h₀) (hk : cs.kind = .function)
    (hd : dp + 2 < recursionLimit)
    (hret : ∀ (h' : Heap) (tk' : Nat), Fr h₀ L h' m → News h₀ L h' news → Q (.str (Str.ofString "u") t1) { s with heap := h', toks := tk' }) :
    wpAny (model PySem.Challenge.rw_ui0509_14.row.prog w) (ktrTop dp un gd cn cs L a ccd cl outer) (call (.ref 55) [.str (Str.ofString "u") t1]) Q E s := by
  w_top off
  revert X; k_fill; intro X
  refine wpAny_call ?_
  k_dflt (refine' code_need [] ?k1 ?k2 ?k3 ?k4 ?k5 ?kA ?kF ?kK ?k6 ?k7 ?k8 ?k9 ?kB ?kN ?_ ?c2 ?c3 ?c4 ?c5; (case kA => exact rfl); (case kF => exact rfl); (case kK => assumption); (case k1 => k_asm); (case k2 => k_asm); (case k3 => k_asm); (case k4 => k_asm); (case k5 => k_asm); (case k6 => k_is); (case k7 => k_is); (case k8 => ktr_room); (case k9 => first | exact BindsTo.of_eq rfl | exact binds_K (by k_in) rfl (by k_is) rfl rfl rfl); (case c5 => decide); (case kB => exact locs rfl); (case kN => exact fun _ h => nomatch h); (case c2 => exact rfl); (case c3 => exact rfl); (case c4 => exact rfl); k_whole; intro g' L' h' tk0 FG' F' N' B' X' T' hG'; (try dsimp only); (try k_fold))
  k_steps
  all_goals (try dsimp only)
  all_goals first | exact (idx_no (by assumption) (by decide) (by decide +kernel)).elim | (refine leaveN_ (by k_asm) (by k_asm) ?_; intro kF kN kR kD; (try dsimp only); exact hret _ _ kF (news_all kR))
abbrev meterD (P : Params) (k1 k2 k3 k4 k5 : Tok) (nm tu fa ro re : Value) : Obj :=
  dictOf [⟨PyData.keyHash P (Str.ofString "name"), .str (Str.ofString "name") k1, nm⟩, ⟨PyData.keyHash P (Str.ofString "turns"), .str (Str.ofString "turns") k2, tu⟩, ⟨PyData.keyHash P (Str.ofString "factor"), .str (Str.ofString "factor") k3, fa⟩, ⟨PyData.keyHash P (Str.ofString "rows"), .str (Str.ofString "rows") k4, ro⟩, ⟨PyData.keyHash P (Str.ofString "rest"), .str (Str.ofString "rest") k5, re⟩] 5
abbrev Row (d v : Int) (t t' : Tok) (u : Value) (c : Nat) : Obj := { cls := .type "tuple", data := .seq #[.int d t, .int v t', u] c }
section
theorem words13 : True := by
  k_with "hat9" => (first | exact News.get (by k_asm) (by k_mem) | exact Fr.keep (by k_asm) _ _ (by with_reducible assumption) | exact Tk.get (by k_asm) (by k_asm) (by with_reducible assumption) (by intro p9 hp9; first | exact hp9 | exact absurd hp9 List.not_mem_nil | (repeat (first | exact hp9 | refine List.mem_cons_of_mem _ ?_))) | exact Frag.In.keeps (by k_asm) (Fr.keep (by k_asm)) _ _ (by k_is))
  k_with "bits_by_make" => (with_reducible assumption)
  k_with "ktr_units" => ((try simp only [units_under_make, units_in1, units_deeper, Around.mark_units, units_caller]); (try dsimp only [ktrTop]); first | exact un1 (by with_reducible assumption) (Nat.le_of_ble_eq_true rfl) | exact un2 (by with_reducible assumption) (Nat.le_of_ble_eq_true rfl) | exact un3 (by with_reducible assumption) (Nat.le_of_ble_eq_true rfl) | (have hcL9 := cLine_is; omega))
  k_with "call ref" => (k_here; (with_reducible show wpAny _ _ (call (Value.ref 80) [Value.ref _]) _ _ _); k_dflt (refine' need_cu ?z26k1 ?z26k2 ?z26k3 ?z26k4 ?z26k5 ?z26k6 ?z26m1 ?z26k7 ?z26k8 ?z26b1 ?z26b2 ?z26z1 ?z26z2 ?_; (case z26k1 => k_asm); (case z26k2 => k_asm); (case z26k3 => k_asm); (case z26k4 => k_asm); (case z26k5 => k_asm); (case z26k6 => first | exact rfl | assumption); (case z26k7 => first | exact Nat.le_of_ble_eq_true rfl | ktr_room); (case z26k8 => first | exact Nat.le_of_ble_eq_true rfl | ktr_units); (case z26m1 => (walk_at "hat9")); (case z26b1 => bits_by_make); (case z26b2 => bits_by_make); (case z26z1 => first | assumption | decide | omega); (case z26z2 => first | assumption | decide | omega); k_whole); walk_at "i3"; (try k_sweep))
  k_with "call ref" => (k_here; (with_reducible show wpAny _ _ (call (Value.ref 41) [Value.int _ _, Value.int _ _, Value.int _ _, Value.str _ _]) _ _ _); k_dflt (refine' need_number_c ?z27k1 ?z27k2 ?z27k3 ?z27k4 ?z27k5 ?z27k6 ?z27h1 ?z27h2 ?z27k7 ?_; (case z27k1 => k_asm); (case z27k2 => k_asm); (case z27k3 => k_asm); (case z27k4 => k_asm); (case z27k5 => k_asm); (case z27k6 => first | exact rfl | assumption); (case z27k7 => first | exact Nat.le_of_ble_eq_true rfl | ktr_room); (case z27h1 => first | decide | assumption | omega); (case z27h2 => first | decide | assumption | omega); k_whole); walk_at "i3"; (try k_sweep))
  k_with "call ref" => (k_here; (with_reducible show wpAny _ _ (call (Value.ref 55) [Value.str (PySem.Str.ofString "m") _]) _ _ _); k_dflt (refine' need_name_m ?z28k1 ?z28k2 ?z28k3 ?z28k4 ?z28k5 ?z28k6 ?z28k7 ?_; (case z28k1 => k_asm); (case z28k2 => k_asm); (case z28k3 => k_asm); (case z28k4 => k_asm); (case z28k5 => k_asm); (case z28k6 => first | exact rfl | assumption); (case z28k7 => first | exact Nat.le_of_ble_eq_true rfl | ktr_room); k_whole); walk_at "i3"; (try k_sweep))
  k_with "call ref" => (k_here; (with_reducible show wpAny _ _ (call (Value.ref 55) [Value.str (PySem.Str.ofString "n") _]) _ _ _); k_dflt (refine' need_name_n ?z29k1 ?z29k2 ?z29k3 ?z29k4 ?z29k5 ?z29k6 ?z29k7 ?_; (case z29k1 => k_asm); (case z29k2 => k_asm); (case z29k3 => k_asm); (case z29k4 => k_asm); (case z29k5 => k_asm); (case z29k6 => first | exact rfl | assumption); (case z29k7 => first | exact Nat.le_of_ble_eq_true rfl | ktr_room); k_whole); walk_at "i3"; (try k_sweep))
  k_with "subscriptTail" => (k_here; (with_reducible show wpAny _ _ (subscriptTail _ _ (Value.ref _) (Value.int _ _)) _ _ _); k_dflt (refine' tup_g ?z30k1 ?z30k2 ?z30k3 ?z30k4 ?z30k5 ?z30k6 ?z30k7 ?z30k8 ?_ ?z30k9 ?z30k10; (case z30k1 => k_asm); (case z30k2 => with_reducible assumption); (case z30k3 => exact rfl); (case z30k4 => exact rfl); (case z30k5 => decide); (case z30k6 => decide); (case z30k7 => exact rfl); (case z30k8 => exact rfl); (case z30k9 => with_unfolding_all rfl); (case z30k10 => (intro _; with_unfolding_all rfl)); k_whole))
  trivial
theorem meter_new_m {w : World} {p : Program} {loose : List Str} {mean : ExcName → Option Value} {mg mb : Str → Option Value} {dp un : Nat} {gd : Option (List Code)} {cn : Str} {cs : Scope} {a : Addr} {ccd : Value} {cl : List (Str × Addr)} {outer : List Env} {A₀ : Around} {base h₀ : Heap} {L : Addr} {m : Str → Option Value} {news : List (Addr × Obj)} {s : Shared} {Q E : Value → Shared → Prop} {D1 : Addr} {r : Rat} {tu : Int} {t1 t1' t2 t3 : Tok} {c1 n1 n2 : Nat}
    (B : Below A₀ base outer h₀) (F : Fr h₀ L s.heap m) (X : (HD.K w.params).In h₀) (N : News h₀ L s.heap news) (T : Top p loose mean mg mb h₀) (hk : cs.kind = .function) (e1 : (D1, RatO r t1 t1' c1) ∈ news)
    (hd : dp + 8 < recursionLimit) (hu : un + 200 < cLine) (h1 : 0 < r.num) (b1 : Builtin.Int.intBits r.num ≤ n1) (b2 : Builtin.Int.intBits (r.den : Int) ≤ n2) (z1 : n1 ≤ 6643) (z2 : n2 ≤ 6643) (hT : 10 ≤ tu) (hT2 : tu ≤ 1000000000000)
    (hret : ∀ (x d l : Addr) (k1 k2 k3 k4 k5 : Tok) (n : Nat) (h' : Heap) (tk' : Nat), Fr h₀ L h' m → News h₀ L h' ((x, instObj 367 d) :: (d, meterD w.params k1 k2 k3 k4 k5 (.str (Str.ofString "m") t2) (.int tu t3) (.ref D1) (.ref l) (.ref 56)) :: (l, listOf #[] n) :: news) → d ≠ x → l ≠ x → l ≠ d → (∀ p ∈ news, p.1 ≠ x) → (∀ p ∈ news, p.1 ≠ d) → (∀ p ∈ news, p.1 ≠ l) → Q (.ref x) { s with heap := h', toks := tk' }) :
    wpAny (model PySem.Challenge.rw_ui0509_14.row.prog w) (ktrTop dp un gd cn cs L a ccd cl outer) (call (.ref 367) [.str (Str.ofString "m") t2, .int tu t3, .ref D1]) Q E s := by
  w_top off
  revert X; k_fill; intro X
  k_dflt (refine' call_cls ?k1 ?k2 ?k3 ?k4 ?k5 ?k6 ?_; (case k1 => k_asm); (case k2 => k_asm); (case k3 => k_asm); (case k4 => k_is); (case k5 => k_is); (case k6 => k_is); k_whole; intro x0 d0 h0 F0 N0 l0 l00)
  have e2 := News.get N0 (List.mem_cons_of_mem _ (List.mem_cons_of_mem _ e1))
  have l2 : D1 < d0 := l0 _ e1
  k_dflt (refine' code_need [(x0, instObj 367 d0), (d0, dictOf [] 0)] ?k1 ?k2 ?k3 ?k4 ?k5 ?kA ?kF ?kK ?k6 ?k7 ?k8 ?k9 ?kB ?kN ?_ ?c2 ?c3 ?c4 ?c5; (case kA => exact rfl); (case kF => exact rfl); (case kK => assumption); (case k1 => k_asm); (case k2 => k_asm); (case k3 => k_asm); (case k4 => k_asm); (case k5 => k_asm); (case k6 => k_is); (case k7 => k_is); (case k8 => ktr_room); (case k9 => first | exact BindsTo.of_eq rfl | exact binds_K (by k_in) rfl (by k_is) rfl rfl rfl); (case c5 => decide); (case kB => exact locs rfl); (case kN => exact fcons (List.mem_cons_self ..) (fcons (List.mem_cons_of_mem _ (List.mem_cons_self ..)) (List.forall_mem_nil _))); (case c2 => exact rfl); (case c3 => exact rfl); (case c4 => exact rfl); k_whole; intro g' L' h' tk0 FG' F' N' B' X' T' hG'; (try dsimp only); (try k_fold))
  replace e2 := hG' _ _ e2 (by simp only [List.map_cons, List.map_nil, List.mem_cons, List.not_mem_nil, or_false, not_or]; exact ⟨neN (by have := ltN l2; have := ltN l00; omega), neN (by have := ltN l2; omega)⟩)
  replace l00 := ltN l00
  k_steps
  all_goals (refine leaveN_ (by k_asm) (by k_asm) ?_; intro kF kN kR kD; dsimp only [InitBack]; refine ⟨rfl, ?_⟩; exact hret _ _ _ _ _ _ _ _ _ _ _ kF (news_cons kN (by k_mem) (news_cons kN (by k_mem) (news_cons kN (by k_mem) fun p hp => kR p (rest_two l0 l00 hp)))) (neN (by walk_at "ne9")) (neN (by walk_at "ne9")) (neN (by walk_at "ne9")) (fun p hp => kD p (rest_two l0 l00 hp) _ (by k_mem : (_, instObj _ _) ∈ _)) (fun p hp => kD p (rest_two l0 l00 hp) _ (by k_mem : (_, meterD ..) ∈ _)) (fun p hp => kD p (rest_two l0 l00 hp) (_, listOf #[] _) (by k_mem)))
theorem meter_new_n {w : World} {p : Program} {loose : List Str} {mean : ExcName → Option Value} {mg mb : Str → Option Value} {dp un : Nat} {gd : Option (List Code)} {cn : Str} {cs : Scope} {a : Addr} {ccd : Value} {cl : List (Str × Addr)} {outer : List Env} {A₀ : Around} {base h₀ : Heap} {L : Addr} {m : Str → Option Value} {news : List (Addr × Obj)} {s : Shared} {Q E : Value → Shared → Prop} {D1 : Addr} {r : Rat} {tu : Int} {t1 t1' t2 t3 : Tok} {c1 n1 n2 : Nat}
    (B : Below A₀ base outer h₀) (F : Fr h₀ L s.heap m) (X : (HD.K w.params).In h₀) (N : News h₀ L s.heap news) (T : Top p loose mean mg mb h₀) (hk : cs.kind = .function) (e1 : (D1, RatO r t1 t1' c1) ∈ news)
    (hd : dp + 8 < recursionLimit) (hu : un + 200 < cLine) (h1 : 0 < r.num) (b1 : Builtin.Int.intBits r.num ≤ n1) (b2 : Builtin.Int.intBits (r.den : Int) ≤ n2) (z1 : n1 ≤ 6643) (z2 : n2 ≤ 6643) (hT : 10 ≤ tu) (hT2 : tu ≤ 1000000000000)
    (hret : ∀ (x d l : Addr) (k1 k2 k3 k4 k5 : Tok) (n : Nat) (h' : Heap) (tk' : Nat), Fr h₀ L h' m → News h₀ L h' ((x, instObj 367 d) :: (d, meterD w.params k1 k2 k3 k4 k5 (.str (Str.ofString "n") t2) (.int tu t3) (.ref D1) (.ref l) (.ref 56)) :: (l, listOf #[] n) :: news) → d ≠ x → l ≠ x → l ≠ d → (∀ p ∈ news, p.1 ≠ x) → (∀ p ∈ news, p.1 ≠ d) → (∀ p ∈ news, p.1 ≠ l) → Q (.ref x) { s with heap := h', toks := tk' }) :
    wpAny (model PySem.Challenge.rw_ui0509_14.row.prog w) (ktrTop dp un gd cn cs L a ccd cl outer) (call (.ref 367) [.str (Str.ofString "n") t2, .int tu t3, .ref D1]) Q E s := by
  w_top off
  revert X; k_fill; intro X
  k_dflt (refine' call_cls ?k1 ?k2 ?k3 ?k4 ?k5 ?k6 ?_; (case k1 => k_asm); (case k2 => k_asm); (case k3 => k_asm); (case k4 => k_is); (case k5 => k_is); (case k6 => k_is); k_whole; intro x0 d0 h0 F0 N0 l0 l00)
  have e2 := News.get N0 (List.mem_cons_of_mem _ (List.mem_cons_of_mem _ e1))
  have l2 : D1 < d0 := l0 _ e1
  k_dflt (refine' code_need [(x0, instObj 367 d0), (d0, dictOf [] 0)] ?k1 ?k2 ?k3 ?k4 ?k5 ?kA ?kF ?kK ?k6 ?k7 ?k8 ?k9 ?kB ?kN ?_ ?c2 ?c3 ?c4 ?c5; (case kA => exact rfl); (case kF => exact rfl); (case kK => assumption); (case k1 => k_asm); (case k2 => k_asm); (case k3 => k_asm); (case k4 => k_asm); (case k5 => k_asm); (case k6 => k_is); (case k7 => k_is); (case k8 => ktr_room); (case k9 => first | exact BindsTo.of_eq rfl | exact binds_K (by k_in) rfl (by k_is) rfl rfl rfl); (case c5 => decide); (case kB => exact locs rfl); (case kN => exact fcons (List.mem_cons_self ..) (fcons (List.mem_cons_of_mem _ (List.mem_cons_self ..)) (List.forall_mem_nil _))); (case c2 => exact rfl); (case c3 => exact rfl); (case c4 => exact rfl); k_whole; intro g' L' h' tk0 FG' F' N' B' X' T' hG'; (try dsimp only); (try k_fold))
  replace e2 := hG' _ _ e2 (by simp only [List.map_cons, List.map_nil, List.mem_cons, List.not_mem_nil, or_false, not_or]; exact ⟨neN (by have := ltN l2; have := ltN l00; omega), neN (by have := ltN l2; omega)⟩)
  replace l00 := ltN l00
  k_steps
  all_goals (refine leaveN_ (by k_asm) (by k_asm) ?_; intro kF kN kR kD; dsimp only [InitBack]; refine ⟨rfl, ?_⟩; exact hret _ _ _ _ _ _ _ _ _ _ _ kF (news_cons kN (by k_mem) (news_cons kN (by k_mem) (news_cons kN (by k_mem) fun p hp => kR p (rest_two l0 l00 hp)))) (neN (by walk_at "ne9")) (neN (by walk_at "ne9")) (neN (by walk_at "ne9")) (fun p hp => kD p (rest_two l0 l00 hp) _ (by k_mem : (_, instObj _ _) ∈ _)) (fun p hp => kD p (rest_two l0 l00 hp) _ (by k_mem : (_, meterD ..) ∈ _)) (fun p hp => kD p (rest_two l0 l00 hp) (_, listOf #[] _) (by k_mem)))
end
theorem last_at {vs : List Value} {v : Value} : (vs ++ [v])[(-1 + ((vs ++ [v]).length : Int)).toNat]? = some v := by
  have : (-1 + ((vs ++ [v]).length : Int)).toNat = vs.length := by simp; omega
  rw [this]; simp
local macro_rules | `(tactic| walk_at "i7") => `(tactic| (intro tk9))
section
theorem words14 : True := by
  k_with_none
  k_with "ne9" => (first | with_reducible assumption | exact Ne.symm (by with_reducible assumption) | omega)
  k_with "k_in" => (refine' in_of ?z1fF ?z1fX; (case z1fF => k_asm); (case z1fX => k_asm))
  k_with "call ref" => (k_here; (with_reducible show wpAny _ _ (call (Value.ref 64) [Value.int _ _, Value.int _ _]) _ _ _); k_dflt (refine' div_use _ _ _ _ _ _ _ _ _ _ _ _ _ _ _ _ _ _ _ _ _ _ ?z2k1 ?z2k2 ?z2k3 ?z2k4 ?z2k5 ?z2k6 ?z2k7 ?z2k8 ?z2k9 ?z2k10 ?_; (case z2k1 => k_asm); (case z2k2 => k_asm); (case z2k3 => k_asm); (case z2k4 => k_asm); (case z2k5 => k_asm); (case z2k6 => first | exact rfl | assumption); (case z2k7 => ktr_room); (case z2k8 => ktr_units); (case z2k9 => omega); (case z2k10 => first | assumption | exact Fits.neg (by assumption) | exact Fits.of (n := 64) (PySem.intBits_le_64 (by omega) (by omega)) (by decide)); k_whole); walk_at "i0"; (try k_sweep))
  k_with "binaryOp FloorDiv int int" => (with_reducible refine floordiv_int ?z3ne ?_ (Or.inl (PyProof.noPylong_of_log2 ?z3lg)); (case z3lg => with_reducible assumption); (case z3ne => omega))
  k_with "hat9" => (first | exact News.get (by k_asm) (by k_mem) | exact Fr.keep (by k_asm) _ _ (by with_reducible assumption) | exact Tk.get (by k_asm) (by k_asm) (by with_reducible assumption) (by intro p9 hp9; first | exact hp9 | exact absurd hp9 List.not_mem_nil | (repeat (first | exact hp9 | refine List.mem_cons_of_mem _ ?_))) | exact Frag.In.keeps (by k_asm) (Fr.keep (by k_asm)) _ _ (by k_is))
  k_with "bits_by_make" => (with_reducible assumption)
  k_with "ktr_units" => ((try simp only [units_under_make, units_in1, units_deeper, Around.mark_units, units_caller]); (try dsimp only [ktrTop]); first | exact un1 (by with_reducible assumption) (Nat.le_of_ble_eq_true rfl) | exact un2 (by with_reducible assumption) (Nat.le_of_ble_eq_true rfl) | exact un3 (by with_reducible assumption) (Nat.le_of_ble_eq_true rfl) | (have hcL9 := cLine_is; omega))
  k_with "call ref" => (k_here; (with_reducible show wpAny _ _ (call (Value.ref 41) [Value.int _ _, Value.int _ _, Value.int _ _, Value.str _ _]) _ _ _); k_dflt (refine' need_number_c ?z31k1 ?z31k2 ?z31k3 ?z31k4 ?z31k5 ?z31k6 ?z31h1 ?z31h2 ?z31k7 ?_; (case z31k1 => k_asm); (case z31k2 => k_asm); (case z31k3 => k_asm); (case z31k4 => k_asm); (case z31k5 => k_asm); (case z31k6 => first | exact rfl | assumption); (case z31k7 => first | exact Nat.le_of_ble_eq_true rfl | ktr_room); (case z31h1 => first | decide | assumption | omega); (case z31h2 => first | decide | assumption | omega); k_whole); walk_at "i3"; (try k_sweep))
  k_with "subscriptTail" => (k_here; (with_reducible show wpAny _ _ (subscriptTail _ _ (Value.ref _) (Value.int _ _)) _ _ _); k_dflt (refine' tup_g ?z32k1 ?z32k2 ?z32k3 ?z32k4 ?z32k5 ?z32k6 ?z32k7 ?z32k8 ?_ ?z32k9 ?z32k10; (case z32k1 => k_asm); (case z32k2 => with_reducible assumption); (case z32k3 => exact rfl); (case z32k4 => exact rfl); (case z32k5 => decide); (case z32k6 => decide); (case z32k7 => exact rfl); (case z32k8 => exact rfl); (case z32k9 => with_unfolding_all rfl); (case z32k10 => (intro _; with_unfolding_all rfl)); k_whole))
  k_with "subscriptTail" => (k_here; (with_reducible show wpAny _ _ (subscriptTail _ _ (Value.ref _) (Value.int _ _)) _ _ _); k_dflt (refine' kim_back ?z33k1 ?z33k2 ?z33k3 ?z33k4 ?z33k5 ?z33k6 ?z33k7 ?z33k8 ?_ ?z33k9 ?z33k10; (case z33k1 => k_asm); (case z33k2 => k_mem); (case z33k3 => exact rfl); (case z33k4 => exact rfl); (case z33k5 => decide); (case z33k6 => (simp only [List.length_append, List.length_cons, List.length_nil]; omega)); (case z33k7 => decide); (case z33k8 => exact last_at); (case z33k9 => with_unfolding_all rfl); (case z33k10 => (intro _; with_unfolding_all rfl)); k_whole))
  k_with "call builtin:len" => (k_here; (with_reducible show wpAny _ _ (call (Value.builtin "len") [Value.ref _]) _ _ _); k_dflt (refine' lst_len ?z34k1 ?z34k2 ?z34k3 ?_; (case z34k1 => k_asm); (case z34k2 => k_mem); (case z34k3 => (simp only [List.length_append, List.length_cons, List.length_nil]; omega)); k_whole); walk_at "i7"; (try simp only [List.length_append, List.length_cons, List.length_nil]))
  k_with "size_fits" => ((try simp only [List.size_toArray, List.length_append, List.length_cons, List.length_nil]); rw [sizeLine_eq]; omega)
  trivial
theorem read_nil {w : World} {p : Program} {loose : List Str} {mean : ExcName → Option Value} {mg mb : Str → Option Value} {dp un : Nat} {gd : Option (List Code)} {cn : Str} {cs : Scope} {a : Addr} {ccd : Value} {cl : List (Str × Addr)} {outer : List Env} {A₀ : Around} {base h₀ : Heap} {L : Addr} {m : Str → Option Value} {news : List (Addr × Obj)} {s : Shared} {Q E : Value → Shared → Prop} {x d l : Addr} {k1 k2 k3 k4 k5 : Tok} {nm fa re : Value} {tu day val : Int} {t3 t4 t5 : Tok} {n : Nat} {news1 : List (Addr × Obj)} {g1 : Obj → List (Addr × Obj)}
    (B : Below A₀ base outer h₀) (F : Fr h₀ L s.heap m) (X : (HD.K w.params).In h₀) (N : News h₀ L s.heap news) (T : Top p loose mean mg mb h₀) (hk : cs.kind = .function) (ex : (x, instObj 367 d) ∈ news) (U2 : Upd d (meterD w.params k1 k2 k3 k4 k5 nm (.int tu t3) fa (.ref l) re) (meterD w.params k1 k2 k3 k4 k5 nm (.int tu t3) fa (.ref l) (.ref 56)) news news1) (U1 : UpdF l (listOf ([] : List Value).toArray n) news1 g1) (ndx : d ≠ x) (nlx : l ≠ x) (nld : l ≠ d)
    (hd : dp + 8 < recursionLimit) (h1 : 1 ≤ day) (h2 : day ≤ 10000000) (h3 : 0 ≤ val) (h4 : val < tu)
    (hret : ∀ (D : Addr) (c n' : Nat) (h' : Heap) (tk' : Nat), Fr h₀ L h' m → News h₀ L h' ((D, Row day val t4 t5 .none c) :: g1 (listOf (([] : List Value) ++ [Value.ref D]).toArray n')) → (∀ p ∈ news, p.1 ≠ D) → Q .none { s with heap := h', toks := tk' }) :
    wpAny (model PySem.Challenge.rw_ui0509_14.row.prog w) (ktrTop dp un gd cn cs L a ccd cl outer) (call (.ref 336) [.ref x, .int day t4, .int val t5]) Q E s := by
  replace ndx := neN ndx; replace nlx := neN nlx; replace nld := neN nld
  w_top off
  revert X; k_fill; intro X
  refine wpAny_call ?_
  k_dflt (refine' code_need [(x, instObj 367 d), (d, meterD w.params k1 k2 k3 k4 k5 nm (.int tu t3) fa (.ref l) re), (l, listOf ([] : List Value).toArray n)] ?k1 ?k2 ?k3 ?k4 ?k5 ?kA ?kF ?kK ?k6 ?k7 ?k8 ?k9 ?kB ?kN ?_ ?c2 ?c3 ?c4 ?c5; (case kA => exact rfl); (case kF => exact rfl); (case kK => assumption); (case k1 => k_asm); (case k2 => k_asm); (case k3 => k_asm); (case k4 => k_asm); (case k5 => k_asm); (case k6 => k_is); (case k7 => k_is); (case k8 => ktr_room); (case k9 => first | exact BindsTo.of_eq rfl | exact binds_K (by k_in) rfl (by k_is) rfl rfl rfl); (case c5 => decide); (case kB => exact locs rfl); (case kN => exact three_in ex (Upd.mem U2) (Upd.other U2 (UpdF.mem U1) nld)); (case c2 => exact rfl); (case c3 => exact rfl); (case c4 => exact rfl); k_whole; intro g' L' h' tk0 FG' F' N' B' X' T' hG'; (try dsimp only); (try k_fold))
  k_steps
  all_goals (refine leaveN_ (by k_asm) (by k_asm) ?_; intro kF kN kR kD; (try dsimp only); simp only [List.push_toArray] at kN; exact hret _ _ _ _ _ kF (news_cons kN (List.mem_cons_self ..) (news_upd2 N ex U2 U1 kN (by k_mem) (by k_mem) (by k_mem) kR)) (ne_three kD (List.mem_cons_self ..) (neN (by walk_at "ne9")) (neN (by walk_at "ne9")) (neN (by walk_at "ne9"))))
theorem read_snoc {w : World} {p : Program} {loose : List Str} {mean : ExcName → Option Value} {mg mb : Str → Option Value} {dp un : Nat} {gd : Option (List Code)} {cn : Str} {cs : Scope} {a : Addr} {ccd : Value} {cl : List (Str × Addr)} {outer : List Env} {A₀ : Around} {base h₀ : Heap} {L : Addr} {m : Str → Option Value} {news : List (Addr × Obj)} {s : Shared} {Q E : Value → Shared → Prop} {x d l : Addr} {k1 k2 k3 k4 k5 : Tok} {nm fa re : Value} {tu day val : Int} {t3 t4 t5 : Tok} {n : Nat} {news1 : List (Addr × Obj)} {g1 : Obj → List (Addr × Obj)} {vs : List Value} {D0 : Addr} {day0 val0 : Int} {t6 t7 : Tok} {u0 : Value} {c0 : Nat}
    (B : Below A₀ base outer h₀) (F : Fr h₀ L s.heap m) (X : (HD.K w.params).In h₀) (N : News h₀ L s.heap news) (T : Top p loose mean mg mb h₀) (hk : cs.kind = .function) (ex : (x, instObj 367 d) ∈ news) (U2 : Upd d (meterD w.params k1 k2 k3 k4 k5 nm (.int tu t3) fa (.ref l) re) (meterD w.params k1 k2 k3 k4 k5 nm (.int tu t3) fa (.ref l) (.ref 56)) news news1) (U1 : UpdF l (listOf (vs ++ [Value.ref D0]).toArray n) news1 g1) (ndx : d ≠ x) (nlx : l ≠ x) (nld : l ≠ d) (e0 : s.heap.get? D0 = some (Row day0 val0 t6 t7 u0 c0)) (n0 : D0 ≠ x ∧ D0 ≠ d ∧ D0 ≠ l) (hlen : vs.length < 100000) (h5 : day0 < day)
    (hd : dp + 8 < recursionLimit) (h1 : 1 ≤ day) (h2 : day ≤ 10000000) (h3 : 0 ≤ val) (h4 : val < tu)
    (hret : ∀ (D : Addr) (c n' : Nat) (h' : Heap) (tk' : Nat), Fr h₀ L h' m → News h₀ L h' ((D, Row day val t4 t5 .none c) :: g1 (listOf ((vs ++ [Value.ref D0]) ++ [Value.ref D]).toArray n')) → (∀ p ∈ news, p.1 ≠ D) → Q .none { s with heap := h', toks := tk' }) :
    wpAny (model PySem.Challenge.rw_ui0509_14.row.prog w) (ktrTop dp un gd cn cs L a ccd cl outer) (call (.ref 336) [.ref x, .int day t4, .int val t5]) Q E s := by
  replace ndx := neN ndx; replace nlx := neN nlx; replace nld := neN nld
  w_top off
  revert X; k_fill; intro X
  refine wpAny_call ?_
  k_dflt (refine' code_need [(x, instObj 367 d), (d, meterD w.params k1 k2 k3 k4 k5 nm (.int tu t3) fa (.ref l) re), (l, listOf (vs ++ [Value.ref D0]).toArray n)] ?k1 ?k2 ?k3 ?k4 ?k5 ?kA ?kF ?kK ?k6 ?k7 ?k8 ?k9 ?kB ?kN ?_ ?c2 ?c3 ?c4 ?c5; (case kA => exact rfl); (case kF => exact rfl); (case kK => assumption); (case k1 => k_asm); (case k2 => k_asm); (case k3 => k_asm); (case k4 => k_asm); (case k5 => k_asm); (case k6 => k_is); (case k7 => k_is); (case k8 => ktr_room); (case k9 => first | exact BindsTo.of_eq rfl | exact binds_K (by k_in) rfl (by k_is) rfl rfl rfl); (case c5 => decide); (case kB => exact locs rfl); (case kN => exact three_in ex (Upd.mem U2) (Upd.other U2 (UpdF.mem U1) nld)); (case c2 => exact rfl); (case c3 => exact rfl); (case c4 => exact rfl); k_whole; intro g' L' h' tk0 FG' F' N' B' X' T' hG'; (try dsimp only); (try k_fold))
  replace e0 := hG' _ _ e0 (by simp only [List.map_cons, List.map_nil, List.mem_cons, List.not_mem_nil, or_false, not_or]; exact n0)
  k_steps
  all_goals (refine leaveN_ (by k_asm) (by k_asm) ?_; intro kF kN kR kD; (try dsimp only); simp only [List.push_toArray] at kN; exact hret _ _ _ _ _ kF (news_cons kN (List.mem_cons_self ..) (news_upd2 N ex U2 U1 kN (by k_mem) (by k_mem) (by k_mem) kR)) (ne_three kD (List.mem_cons_self ..) (neN (by walk_at "ne9")) (neN (by walk_at "ne9")) (neN (by walk_at "ne9"))))
end
theorem inst_b {h₀ h : Heap} {L x C dx : Addr} {m : Str → Option Value} {od : Obj} (F : Fr h₀ L h m) (h1 : h₀.get? x = some (instObj C dx)) (h2 : h₀.get? dx = some od) : InstAt h x (instObj C dx) C (some od) := ⟨F.keep _ _ h1, rfl, rfl, F.keep _ _ h2⟩
-- readings: (day, value, the new counter's start or none); steps between readings
abbrev MRow := Int × Int × Option Int
abbrev MStep := Int × Int × Int
def OptV (u : Value) (o : Option Int) : Prop := match o with
  | none => u = .none
  | some n => ∃ t, u = .int n t
def RowN (P : Addr → Obj → Prop) (v : Value) (r : MRow) : Prop := ∃ D t t' u c, v = .ref D ∧ P D (Row r.1 r.2.1 t t' u c) ∧ OptV u r.2.2
def StepN (P : Addr → Obj → Prop) (v : Value) (q : MStep) : Prop := ∃ D t t' t'' c, v = .ref D ∧ P D (Row q.1 q.2.1 t t' (.int q.2.2 t'') c)
def StepsN (P : Addr → Obj → Prop) (v : Value) (qs : List MStep) : Prop := LstN (StepN P) P v qs
theorem RowN.mono {P P' : Addr → Obj → Prop} {v : Value} {r : MRow} (hs : ∀ a o, P a o → P' a o) (x : RowN P v r) : RowN P' v r := let ⟨D, t, t', u, c, e, k, o⟩ := x; ⟨D, t, t', u, c, e, hs _ _ k, o⟩
theorem StepN.mono {P P' : Addr → Obj → Prop} {v : Value} {r : MStep} (hs : ∀ a o, P a o → P' a o) (x : StepN P v r) : StepN P' v r := let ⟨D, t, t', u, c, e, k⟩ := x; ⟨D, t, t', u, c, e, hs _ _ k⟩
theorem StepsN.mono {P P' : Addr → Obj → Prop} {v : Value} {qs : List MStep} (hs : ∀ a o, P a o → P' a o) (x : StepsN P v qs) : StepsN P' v qs := let ⟨l, vs, n, e, k, a⟩ := x; ⟨l, vs, n, e, hs _ _ k, a.mono fun _ _ y => y.mono hs⟩
theorem step_new {P : Addr → Obj → Prop} {D : Addr} {a b u : Int} {t t' t'' : Tok} {c : Nat} (h : P D (Row a b t t' (.int u t'') c)) : StepN P (.ref D) (a, b, u) := ⟨D, t, t', t'', c, rfl, h⟩
theorem row_new {P : Addr → Obj → Prop} {D : Addr} {a b : Int} {t t' : Tok} {c : Nat} (h : P D (Row a b t t' .none c)) : RowN P (.ref D) (a, b, none) := ⟨D, t, t', .none, c, rfl, h, rfl⟩
def startOf (r : MRow) : Int := match r.2.2 with
  | none => r.2.1
  | some n => n
def stepOf (tu : Int) (a b : MRow) : MStep := (a.1, b.1, (b.2.1 - startOf a).fmod tu)
def stepsF (tu : Int) (rs : List MRow) : List MStep := List.zipWith (stepOf tu) rs rs.tail
theorem stepsF_len {tu : Int} {rs : List MRow} : (stepsF tu rs).length = rs.length - 1 := by simp [stepsF]
theorem stepsF_at {tu : Int} {rs : List MRow} {i : Nat} {a b : MRow} (ha : rs[i]? = some a) (hb : rs[i + 1]? = some b) : (stepsF tu rs)[i]? = some (stepOf tu a b) := by
  have hb' : rs.tail[i]? = some b := by rw [List.getElem?_tail]; exact hb
  rw [stepsF, List.getElem?_zipWith, ha, hb']
theorem rsizeT {a b : Int} {n : Nat} (h : n = (b - a).toNat) : Builtin.Range.rangeSize a b 1 = (n : Int) := by
  unfold Builtin.Range.rangeSize
  rw [if_pos (by decide)]
  split <;> omega
local macro_rules | `(tactic| walk_at "i8") => `(tactic| (intro h' F' N'))
local macro_rules | `(tactic| walk_at "i9") => `(tactic| (intro v' v0' v1' vE'))
section
theorem words15 : True := by
  k_with_none
  k_with "ne9" => (first | with_reducible assumption | exact Ne.symm (by with_reducible assumption) | omega)
  k_with "k_in" => (refine' in_of ?z1fF ?z1fX; (case z1fF => k_asm); (case z1fX => k_asm))
  k_with "call ref" => (k_here; (with_reducible show wpAny _ _ (call (Value.ref 64) [Value.int _ _, Value.int _ _]) _ _ _); k_dflt (refine' div_use _ _ _ _ _ _ _ _ _ _ _ _ _ _ _ _ _ _ _ _ _ _ ?z2k1 ?z2k2 ?z2k3 ?z2k4 ?z2k5 ?z2k6 ?z2k7 ?z2k8 ?z2k9 ?z2k10 ?_; (case z2k1 => k_asm); (case z2k2 => k_asm); (case z2k3 => k_asm); (case z2k4 => k_asm); (case z2k5 => k_asm); (case z2k6 => first | exact rfl | assumption); (case z2k7 => ktr_room); (case z2k8 => ktr_units); (case z2k9 => omega); (case z2k10 => first | assumption | exact Fits.neg (by assumption) | exact Fits.of (n := 64) (PySem.intBits_le_64 (by omega) (by omega)) (by decide)); k_whole); walk_at "i0"; (try k_sweep))
  k_with "binaryOp FloorDiv int int" => (with_reducible refine floordiv_int ?z3ne ?_ (Or.inl (PyProof.noPylong_of_log2 ?z3lg)); (case z3lg => with_reducible assumption); (case z3ne => omega))
  k_with "hat9" => (first | exact News.get (by k_asm) (by k_mem) | exact Fr.keep (by k_asm) _ _ (by with_reducible assumption) | exact Tk.get (by k_asm) (by k_asm) (by with_reducible assumption) (by intro p9 hp9; first | exact hp9 | exact absurd hp9 List.not_mem_nil | (repeat (first | exact hp9 | refine List.mem_cons_of_mem _ ?_))) | exact Frag.In.keeps (by k_asm) (Fr.keep (by k_asm)) _ _ (by k_is))
  k_with "ktr_units" => ((try simp only [units_under_make, units_in1, units_deeper, Around.mark_units, units_caller]); (try dsimp only [ktrTop]); first | exact un1 (by with_reducible assumption) (Nat.le_of_ble_eq_true rfl) | exact un2 (by with_reducible assumption) (Nat.le_of_ble_eq_true rfl) | exact un3 (by with_reducible assumption) (Nat.le_of_ble_eq_true rfl) | (have hcL9 := cLine_is; omega))
  k_with "subscriptTail" => (k_here; (with_reducible show wpAny _ _ (subscriptTail _ _ (Value.ref _) (Value.int _ _)) _ _ _); k_dflt (refine' tup_t ?z35k1 ?z35k0 ?z35k2 ?z35kS ?z35k3 ?z35k4 ?z35k5 ?z35k6 ?z35k7 ?z35k8 ?_ ?z35k9 ?z35k10; (case z35k1 => k_asm); (case z35k0 => k_asm); (case z35k2 => with_reducible assumption); (case z35kS => exact (by intro p9 hp9; first | exact hp9 | exact absurd hp9 List.not_mem_nil | (repeat (first | exact hp9 | refine List.mem_cons_of_mem _ ?_)))); (case z35k3 => exact rfl); (case z35k4 => exact rfl); (case z35k5 => decide); (case z35k6 => decide); (case z35k7 => exact rfl); (case z35k8 => exact rfl); (case z35k9 => with_unfolding_all rfl); (case z35k10 => (intro _; with_unfolding_all rfl)); k_whole))
  k_with "assign Tuple" => (k_here; (with_reducible show wpAny _ _ (assign (Expr.Tuple _ _ _) _ (Value.ref _)) _ _ _); k_dflt (refine' unpack_t ?z36F ?z36N ?z36k ?z36kS ?z36c ?z36d ?z36k1 ?z36k2 ?z36k3 ?_; (case z36F => k_asm); (case z36N => k_asm); (case z36k => with_reducible assumption); (case z36kS => exact (by intro p9 hp9; first | exact hp9 | exact absurd hp9 List.not_mem_nil | (repeat (first | exact hp9 | refine List.mem_cons_of_mem _ ?_)))); (case z36c => exact rfl); (case z36d => exact rfl); (case z36k1 => exact rfl); (case z36k2 => exact rfl); (case z36k3 => exact rfl)); walk_at "i8"; (try k_sweep))
  k_with "k_all" => (with_reducible assumption)
  k_with "size_fits" => ((simp only [List.size_toArray]); rw [sizeLine_eq]; omega)
  k_with "eval Name" => (k_here; k_dflt (refine' ld ?z37k1 ?z37k2 ?_; (case z37k1 => k_asm); (case z37k2 => first | exact rfl | assumption); k_whole))
  k_with "exec For" => (k_here; walk_at "i5")
  k_with "exec For Name Name cons nil" => (k_here; walk_at "i5")
  k_with "exec For Name Call cons nil" => (k_here; walk_at "i5")
  k_with "exec For Tuple Name cons nil" => (k_here; walk_at "i5")
  k_with "exec For Tuple Call cons nil" => (k_here; walk_at "i5")
  k_with "exec For Name Attribute cons nil" => (k_here; walk_at "i5")
  k_with "exec For Tuple Attribute cons nil" => (k_here; walk_at "i5")
  k_with "exec For Tuple Subscript cons nil" => (k_here; walk_at "i5")
  k_with "pyIter ref" => ((with_reducible show wpAny _ _ (pyIter (Value.ref _)) (fun it s₂ => TurnsAt _ _ _ _ _ _ _ _ _ it s₂) _ _); refine Hold.out ?_)
  k_with "UnrPostW" => (dsimp only [UnrPostW])
  k_with "UnrEndW" => (refine Hold.out ?_)
  k_with "getAttr ref" => (k_here; k_dflt (refine' get_own ?z38k1 ?z38k2 ?z38k3 ?z38k4 ?z38k5 ?z38k6 ?z38k7 ?z38k8 ?z38k9 ?_; (case z38k1 => k_asm); (case z38k2 => k_asm); (case z38k3 => exact inst_b (by k_asm) (by with_reducible assumption) (by with_reducible assumption)); (case z38k4 => k_is); (case z38k5 => k_is); (case z38k6 => k_is); (case z38k7 => k_is); (case z38k8 => k_get); (case z38k9 => k_handed); k_whole))
  k_with "call builtin:len" => (k_here; (with_reducible show wpAny _ _ (call (Value.builtin "len") [Value.ref _]) _ _ _); k_dflt (refine' lst_lenT ?z39k1 ?z39k0 ?z39k2 ?z39kS ?z39k3 ?_; (case z39k1 => k_asm); (case z39k0 => k_asm); (case z39k2 => with_reducible assumption); (case z39kS => exact (by intro p9 hp9; first | exact hp9 | exact absurd hp9 List.not_mem_nil | (repeat (first | exact hp9 | refine List.mem_cons_of_mem _ ?_)))); (case z39k3 => ((try simp only [List.length_append, List.length_cons, List.length_nil]); omega)); k_whole); walk_at "i7"; (try simp only [List.length_append, List.length_cons, List.length_nil]))
  k_with "subscriptTail" => (k_here; (with_reducible show wpAny _ _ (subscriptTail _ _ (Value.ref _) (Value.int _ _)) _ _ _); k_dflt (refine' list_t ?z40k1 ?z40k0 ?z40k2 ?z40kS ?z40k3 ?z40k4 ?z40k5 ?z40k6 ?z40k8 ?_ ?z40k9 ?z40k10; (case z40k1 => k_asm); (case z40k0 => k_asm); (case z40k2 => with_reducible assumption); (case z40kS => exact (by intro p9 hp9; first | exact hp9 | exact absurd hp9 List.not_mem_nil | (repeat (first | exact hp9 | refine List.mem_cons_of_mem _ ?_)))); (case z40k3 => exact rfl); (case z40k4 => exact rfl); (case z40k5 => first | decide | omega); (case z40k6 => first | decide | omega); (case z40k8 => with_reducible assumption); (case z40k9 => with_unfolding_all rfl); (case z40k10 => (intro _; with_unfolding_all rfl)); k_whole))
  k_with "size_fits" => ((simp only [List.size_toArray, List.length_append, List.length_cons, List.length_nil]); rw [sizeLine_eq]; omega)
  k_with "binaryOp Mod int int" => (k_here; (with_reducible refine mod_gen ?z41mp ?_); (case z41mp => first | decide | assumption); walk_at "i9")
  trivial
theorem steps_c {w : World} {p : Program} {loose : List Str} {mean : ExcName → Option Value} {mg mb : Str → Option Value} {dp un : Nat} {gd : Option (List Code)} {cn : Str} {cs : Scope} {a : Addr} {ccd : Value} {cl : List (Str × Addr)} {outer : List Env} {A₀ : Around} {base h₀ : Heap} {L : Addr} {m : Str → Option Value} {news : List (Addr × Obj)} {s : Shared} {Q E : Value → Shared → Prop} {P : Addr → Obj → Prop} {x d l0 : Addr} {k1 k2 k3 k4 k5 : Tok} {nm fa re : Value} {tu : Int} {t3 : Tok} {vs : List Value} {rows : List MRow} {n0 : Nat}
    (B : Below A₀ base outer h₀) (F : Fr h₀ L s.heap m) (X : (HD.K w.params).In h₀) (N : News h₀ L s.heap news) (T : Top p loose mean mg mb h₀) (hk : cs.kind = .function) (hgx : s.heap.get? x = some (instObj 367 d)) (hgd : s.heap.get? d = some (meterD w.params k1 k2 k3 k4 k5 nm (.int tu t3) fa (.ref l0) re)) (hP : ∀ a o, P a o → s.heap.get? a = some o) (el : P l0 (listOf vs.toArray n0)) (hv : All2 (RowN P) vs rows) (htu : 0 < tu) (hll : rows.length ≤ 1000)
    (hd : dp + 8 < recursionLimit) (hu : un + 200 < cLine)
    (hret : ∀ (D : Addr) (vo : List Value) (no : Nat) (tl : List (Addr × Obj)) (h' : Heap) (tk' : Nat), Fr h₀ L h' m → News h₀ L h' ((D, listOf vo.toArray no) :: (news ++ tl)) → (∀ p ∈ news, p.1 ≠ D) → (∀ q ∈ tl, q.1 ≠ D) → (∀ p ∈ news, ∀ q ∈ tl, p.1 ≠ q.1) → All2 (StepN (PT P tl)) vo (stepsF tu rows) → Q (.ref D) { s with heap := h', toks := tk' }) :
    wpAny (model PySem.Challenge.rw_ui0509_14.row.prog w) (ktrTop dp un gd cn cs L a ccd cl outer) (call (.ref 357) [.ref x]) Q E s := by
  w_top off
  revert X; k_fill; intro X
  refine wpAny_call ?_
  k_dflt (refine' code_need [] ?k1 ?k2 ?k3 ?k4 ?k5 ?kA ?kF ?kK ?k6 ?k7 ?k8 ?k9 ?kB ?kN ?_ ?c2 ?c3 ?c4 ?c5; (case kA => exact rfl); (case kF => exact rfl); (case kK => assumption); (case k1 => k_asm); (case k2 => k_asm); (case k3 => k_asm); (case k4 => k_asm); (case k5 => k_asm); (case k6 => k_is); (case k7 => k_is); (case k8 => ktr_room); (case k9 => first | exact BindsTo.of_eq rfl | exact binds_K (by k_in) rfl (by k_is) rfl rfl rfl); (case c5 => decide); (case kB => exact locs rfl); (case kN => exact fun _ h => nomatch h); (case c2 => exact rfl); (case c3 => exact rfl); (case c4 => exact rfl); k_whole; intro g' L' h' tk0 FG' F' N' B' X' T' hG'; (try dsimp only); (try k_fold))
  have hT := ground_of hP hG'
  have elT := hT [] _ _ (.inl el)
  replace hgx := hG' _ _ hgx (by simp)
  replace hgd := hG' _ _ hgd (by simp)
  have hvl := hv.length
  k_steps
  unfold Hold
  refine iter_rangeTurns (n := rows.length - 1) rfl (by assumption) (small_one (by omega) (by omega) (by omega) (by omega)) (rsizeT (by omega)) (by k_asm) (by k_asm) (fun I lI => ?_)
  refine items_ind (fun i m nx => ∃ (d1 : Addr) (vo : List Value) (no : Nat) (tl : List (Addr × Obj)), nx = [(d1, listOf vo.toArray no)] ++ tl ∧ (∀ p ∈ tl, p.1 ≠ d1) ∧
    m (Str.ofString "out") = some (.ref d1) ∧ m (Str.ofString "self") = some (.ref x) ∧ All2 (StepN (PT P tl)) vo ((stepsF tu rows).take i)) ?turn ?done _ 0 _ _ rfl (Nat.zero_le _) trivial (fun p hp => Nat.ne_of_lt (lI p hp)) ?init
  case init => exact ⟨_, [], 0, [], rfl, (fun _ h => nomatch h), rfl, rfl, .nil⟩
  case turn =>
    intro i a v m nx h tk o ha _ hI hJ hav Fm ho Nn
    obtain ⟨d1, vo, no, tl, rfl, hd1, hm1, hm2, ho'⟩ := hJ
    obtain ⟨hi, rfl⟩ := rangeItems_get ha
    obtain ⟨t9, rfl⟩ := hav
    have elT := hT tl _ _ (.inl el)
    obtain ⟨⟨da, va, oa⟩, hla⟩ : ∃ la, rows[i]? = some la := ⟨rows[i]'(by omega), List.getElem?_eq_getElem (by omega)⟩
    obtain ⟨⟨db, vb, ob⟩, hlb⟩ : ∃ lb, rows[i + 1]? = some lb := ⟨rows[i + 1]'(by omega), List.getElem?_eq_getElem (by omega)⟩
    obtain ⟨_, hva, Ta, a1, a2, ua, ca, rfl, eA, oA⟩ := hv.at hla
    obtain ⟨_, hvb, Tb, b1, b2, ub, cb, rfl, eB, oB⟩ := hv.at hlb
    have eA' := hT tl _ _ (.inl eA)
    have eB' := hT tl _ _ (.inl eB)
    have hx1 : vs[(1 + (i : Int) - 1).toNat]? = some (Value.ref Ta) := at_of hva (by omega)
    have hx2 : vs[(1 + (i : Int)).toNat]? = some (Value.ref Tb) := at_of hvb (by omega)
    have hlo := ho'.length
    rw [List.length_take] at hlo
    simp only [List.cons_append, List.nil_append] at Nn hI
    have nI1 : d1 ≠ I := hI _ (List.mem_cons_self ..)
    replace nI1 := neN nI1
    have htI : ∀ p ∈ tl, p.1 ≠ I := fun p hp => hI p (List.mem_cons_of_mem _ hp)
    clear hI
    dsimp only at eA' eB' oA
    cases oa with
    | none =>
      have oA' : ua = .none := oA
      subst oA'
      have hstep : (stepsF tu rows).take (i + 1) = (stepsF tu rows).take i ++ [(da, db, (vb - va).fmod tu)] := by rw [List.take_add_one, stepsF_at hla hlb]; rfl
      k_steps
      unfold Hold
      (rename News _ _ _ _ => NN)
      (rename _ = Int.fmod _ _ => vE); subst vE
      (try simp only [List.push_toArray] at NN)
      refine unr_mut1 (d1 := d1) (by k_asm) NN (by k_mem) (by k_mem) nI1 ⟨trivial, ?_⟩
      rw [hstep]
      have hs := sub_strip2 NN (by intro p9 hp9; first | exact hp9 | exact absurd hp9 List.not_mem_nil | (repeat (first | exact hp9 | refine List.mem_cons_of_mem _ ?_))) htI hd1
      have hsub := PT.mono (P := P) hs
      exact ⟨d1, _, _, _, rfl, fun p hp e => (strip_mem hp).2 (by rw [e]; simp), by first | rfl | assumption, by first | rfl | assumption, (ho'.mono fun _ _ y => y.mono hsub).snoc (step_new (Or.inr (mem_strip (by k_mem) (not_in2 (neN (by walk_at "ne9")) (neN (by walk_at "ne9"))))))⟩
    | some na =>
      obtain ⟨tn, rfl⟩ : ∃ t, ua = .int na t := oA
      have hstep : (stepsF tu rows).take (i + 1) = (stepsF tu rows).take i ++ [(da, db, (vb - na).fmod tu)] := by rw [List.take_add_one, stepsF_at hla hlb]; rfl
      k_steps
      unfold Hold
      (rename News _ _ _ _ => NN)
      (rename _ = Int.fmod _ _ => vE); subst vE
      (try simp only [List.push_toArray] at NN)
      refine unr_mut1 (d1 := d1) (by k_asm) NN (by k_mem) (by k_mem) nI1 ⟨trivial, ?_⟩
      rw [hstep]
      have hs := sub_strip2 NN (by intro p9 hp9; first | exact hp9 | exact absurd hp9 List.not_mem_nil | (repeat (first | exact hp9 | refine List.mem_cons_of_mem _ ?_))) htI hd1
      have hsub := PT.mono (P := P) hs
      exact ⟨d1, _, _, _, rfl, fun p hp e => (strip_mem hp).2 (by rw [e]; simp), by first | rfl | assumption, by first | rfl | assumption, (ho'.mono fun _ _ y => y.mono hsub).snoc (step_new (Or.inr (mem_strip (by k_mem) (not_in2 (neN (by walk_at "ne9")) (neN (by walk_at "ne9"))))))⟩
  case done =>
    intro m nx h tk hJ Fm Nn
    rw [List.length_map, List.length_range, ← stepsF_len (tu := tu), List.take_length] at hJ
    obtain ⟨d1, vo, no, tl, rfl, hd1, hm1, hm2, ho'⟩ := hJ
    simp only [List.cons_append, List.nil_append] at Nn
    k_steps
    try dsimp only
    refine leaveN_ (by k_asm) (by k_asm) ?_; intro kF kN kR kD; (try dsimp only); exact hret d1 vo no tl _ _ kF (news_app kN (news_all kR)) (ne_all kD (List.mem_cons_self ..)) hd1 (fun p hp q hq => kD p (mem_rest0 hp) q (List.mem_cons_of_mem _ hq)) ho'
end
def usum (qs : List MStep) : Int := qs.foldl (fun a q => a + q.2.2) 0
theorem usum_snoc (qs : List MStep) (q : MStep) : usum (qs ++ [q]) = usum qs + q.2.2 := by rw [usum, List.foldl_append]; rfl
theorem usum_take {qs : List MStep} {i : Nat} {q : MStep} (h : qs[i]? = some q) : usum (qs.take (i + 1)) = usum (qs.take i) + q.2.2 := by
  rw [List.take_add_one, h]; exact usum_snoc _ _
def InUse (lo hi : Int) (q : MStep) : Prop := lo ≤ q.1 ∧ q.1 < q.2.1 ∧ q.2.1 ≤ hi ∧ 0 ≤ q.2.2 ∧ q.2.2 < 1000000000000
theorem usum_bd {qs : List MStep} {lo hi : Int} (h : ∀ q ∈ qs, InUse lo hi q) (i : Nat) : 0 ≤ usum (qs.take i) ∧ usum (qs.take i) ≤ i * 1000000000000 := by
  induction i with
  | zero => simp [usum]
  | succ i ih =>
    cases e : qs[i]? with
    | none =>
      have : qs.take (i + 1) = qs.take i := by rw [List.take_add_one, e]; simp
      rw [this]; omega
    | some q =>
      have := (h q (List.mem_of_getElem? e)).2.2.2
      rw [usum_take e]; omega
def RVal (r : MRow) : Prop := 0 ≤ r.2.1 ∧ r.2.1 < 1000 ∧ 0 ≤ startOf r ∧ startOf r < 1000
inductive RowsOk : List MRow → Nat → Prop
  | nil : RowsOk [] 0
  | one {r : MRow} : 1 ≤ r.1 → r.1 ≤ 9 → RVal r → RowsOk [r] 1
  | snoc {rs : List MRow} {a b : MRow} {n : Nat} : RowsOk (rs ++ [a]) n → a.1 < b.1 → b.1 ≤ a.1 + 9 → RVal b → RowsOk (rs ++ [a] ++ [b]) (n + 1)
theorem RowsOk.split {rows : List MRow} {i : Nat} (h : RowsOk rows i) : (rows = [] ∧ i = 0) ∨ ∃ rs a, rows = rs ++ [a] := by
  cases h with
  | nil => exact .inl ⟨rfl, rfl⟩
  | one _ _ _ => exact .inr ⟨[], _, rfl⟩
  | snoc _ _ _ _ => exact .inr ⟨_, _, rfl⟩
theorem RowsOk.len {rows : List MRow} {i : Nat} (h : RowsOk rows i) : rows.length = i := by
  induction h with
  | nil => rfl
  | one _ _ _ => rfl
  | snoc _ _ _ _ ih => rw [List.length_append, ih]; rfl
theorem subs_of {h₀ h' : Heap} {L : Addr} {all TL : List (Addr × Obj)} (_N : News h₀ L h' all) (hs : ∀ p ∈ TL, p ∈ all) : ∀ p ∈ TL, p ∈ all := hs
local macro_rules | `(tactic| walk_at "i10") => `(tactic| (intro r' D' t' u' c' h' tk' rE' rN' rD' F' N' l1; (try k_lt l1)))
local macro_rules | `(tactic| walk_at "i11") => `(tactic| (intro D' t' u' c' h' tk' F' N' l1; (try k_lt l1)))
section
theorem words16 : True := by
  k_with_none
  k_with "ne9" => (first | with_reducible assumption | exact Ne.symm (by with_reducible assumption) | omega)
  k_with "k_in" => (refine' in_of ?z1fF ?z1fX; (case z1fF => k_asm); (case z1fX => k_asm))
  k_with "call ref" => (k_here; (with_reducible show wpAny _ _ (call (Value.ref 64) [Value.int _ _, Value.int _ _]) _ _ _); k_dflt (refine' div_use _ _ _ _ _ _ _ _ _ _ _ _ _ _ _ _ _ _ _ _ _ _ ?z2k1 ?z2k2 ?z2k3 ?z2k4 ?z2k5 ?z2k6 ?z2k7 ?z2k8 ?z2k9 ?z2k10 ?_; (case z2k1 => k_asm); (case z2k2 => k_asm); (case z2k3 => k_asm); (case z2k4 => k_asm); (case z2k5 => k_asm); (case z2k6 => first | exact rfl | assumption); (case z2k7 => ktr_room); (case z2k8 => ktr_units); (case z2k9 => omega); (case z2k10 => first | assumption | exact Fits.neg (by assumption) | exact Fits.of (n := 64) (PySem.intBits_le_64 (by omega) (by omega)) (by decide)); k_whole); walk_at "i0"; (try k_sweep))
  k_with "binaryOp FloorDiv int int" => (with_reducible refine floordiv_int ?z3ne ?_ (Or.inl (PyProof.noPylong_of_log2 ?z3lg)); (case z3lg => with_reducible assumption); (case z3ne => omega))
  k_with "hat9" => (first | exact News.get (by k_asm) (by k_mem) | exact Fr.keep (by k_asm) _ _ (by with_reducible assumption) | exact Tk.get (by k_asm) (by k_asm) (by with_reducible assumption) (by intro p9 hp9; first | exact hp9 | exact absurd hp9 List.not_mem_nil | (repeat (first | exact hp9 | refine List.mem_cons_of_mem _ ?_))) | exact Frag.In.keeps (by k_asm) (Fr.keep (by k_asm)) _ _ (by k_is))
  k_with "ktr_units" => ((try simp only [units_under_make, units_in1, units_deeper, Around.mark_units, units_caller]); (try dsimp only [ktrTop]); first | exact un1 (by with_reducible assumption) (Nat.le_of_ble_eq_true rfl) | exact un2 (by with_reducible assumption) (Nat.le_of_ble_eq_true rfl) | exact un3 (by with_reducible assumption) (Nat.le_of_ble_eq_true rfl) | (have hcL9 := cLine_is; omega))
  k_with "subscriptTail" => (k_here; (with_reducible show wpAny _ _ (subscriptTail _ _ (Value.ref _) (Value.int _ _)) _ _ _); k_dflt (refine' tup_t ?z42k1 ?z42k0 ?z42k2 ?z42kS ?z42k3 ?z42k4 ?z42k5 ?z42k6 ?z42k7 ?z42k8 ?_ ?z42k9 ?z42k10; (case z42k1 => k_asm); (case z42k0 => k_asm); (case z42k2 => with_reducible assumption); (case z42kS => exact (by intro p9 hp9; first | exact hp9 | exact absurd hp9 List.not_mem_nil | (repeat (first | exact hp9 | refine List.mem_cons_of_mem _ ?_)))); (case z42k3 => exact rfl); (case z42k4 => exact rfl); (case z42k5 => decide); (case z42k6 => decide); (case z42k7 => exact rfl); (case z42k8 => exact rfl); (case z42k9 => with_unfolding_all rfl); (case z42k10 => (intro _; with_unfolding_all rfl)); k_whole))
  k_with "assign Tuple" => (k_here; (with_reducible show wpAny _ _ (assign (Expr.Tuple _ _ _) _ (Value.ref _)) _ _ _); k_dflt (refine' unpack_t ?z43F ?z43N ?z43k ?z43kS ?z43c ?z43d ?z43k1 ?z43k2 ?z43k3 ?_; (case z43F => k_asm); (case z43N => k_asm); (case z43k => with_reducible assumption); (case z43kS => exact (by intro p9 hp9; first | exact hp9 | exact absurd hp9 List.not_mem_nil | (repeat (first | exact hp9 | refine List.mem_cons_of_mem _ ?_)))); (case z43c => exact rfl); (case z43d => exact rfl); (case z43k1 => exact rfl); (case z43k2 => exact rfl); (case z43k3 => exact rfl)); walk_at "i8"; (try k_sweep))
  k_with "k_all" => (with_reducible assumption)
  k_with "size_fits" => ((simp only [List.size_toArray]); rw [sizeLine_eq]; omega)
  k_with "eval Name" => (k_here; k_dflt (refine' ld ?z44k1 ?z44k2 ?_; (case z44k1 => k_asm); (case z44k2 => first | exact rfl | assumption); k_whole))
  k_with "exec For" => (k_here; walk_at "i5")
  k_with "exec For Name Name cons nil" => (k_here; walk_at "i5")
  k_with "exec For Name Call cons nil" => (k_here; walk_at "i5")
  k_with "exec For Tuple Name cons nil" => (k_here; walk_at "i5")
  k_with "exec For Tuple Call cons nil" => (k_here; walk_at "i5")
  k_with "exec For Name Attribute cons nil" => (k_here; walk_at "i5")
  k_with "exec For Tuple Attribute cons nil" => (k_here; walk_at "i5")
  k_with "exec For Tuple Subscript cons nil" => (k_here; walk_at "i5")
  k_with "pyIter ref" => ((with_reducible show wpAny _ _ (pyIter (Value.ref _)) (fun it s₂ => TurnsAt _ _ _ _ _ _ _ _ _ it s₂) _ _); refine Hold.out ?_)
  k_with "UnrPostW" => (dsimp only [UnrPostW])
  k_with "UnrEndW" => (refine Hold.out ?_)
  k_with "getAttr ref" => (k_here; k_dflt (refine' get_own ?z45k1 ?z45k2 ?z45k3 ?z45k4 ?z45k5 ?z45k6 ?z45k7 ?z45k8 ?z45k9 ?_; (case z45k1 => k_asm); (case z45k2 => k_asm); (case z45k3 => exact inst_b (by k_asm) (by with_reducible assumption) (by with_reducible assumption)); (case z45k4 => k_is); (case z45k5 => k_is); (case z45k6 => k_is); (case z45k7 => k_is); (case z45k8 => k_get); (case z45k9 => k_handed); k_whole))
  k_with "getMethod ref" => (k_here; k_dflt (refine' method_inst ?z46k1 ?z46k2 ?z46k3 ?z46k4 ?z46k5 ?z46k6 ?z46k7 ?_; (case z46k1 => k_asm); (case z46k2 => k_asm); (case z46k3 => exact inst_b (by k_asm) (by with_reducible assumption) (by with_reducible assumption)); (case z46k4 => k_is); (case z46k5 => k_is); (case z46k6 => k_is); (case z46k7 => k_get); k_whole))
  k_with "call builtin:len" => (k_here; (with_reducible show wpAny _ _ (call (Value.builtin "len") [Value.ref _]) _ _ _); k_dflt (refine' lst_lenT ?z47k1 ?z47k0 ?z47k2 ?z47kS ?z47k3 ?_; (case z47k1 => k_asm); (case z47k0 => k_asm); (case z47k2 => with_reducible assumption); (case z47kS => exact (by intro p9 hp9; first | exact hp9 | exact absurd hp9 List.not_mem_nil | (repeat (first | exact hp9 | refine List.mem_cons_of_mem _ ?_)))); (case z47k3 => ((try simp only [List.length_append, List.length_cons, List.length_nil]); omega)); k_whole); walk_at "i7"; (try simp only [List.length_append, List.length_cons, List.length_nil]))
  k_with "subscriptTail" => (k_here; (with_reducible show wpAny _ _ (subscriptTail _ _ (Value.ref _) (Value.int _ _)) _ _ _); k_dflt (refine' list_t ?z48k1 ?z48k0 ?z48k2 ?z48kS ?z48k3 ?z48k4 ?z48k5 ?z48k6 ?z48k8 ?_ ?z48k9 ?z48k10; (case z48k1 => k_asm); (case z48k0 => k_asm); (case z48k2 => with_reducible assumption); (case z48kS => exact (by intro p9 hp9; first | exact hp9 | exact absurd hp9 List.not_mem_nil | (repeat (first | exact hp9 | refine List.mem_cons_of_mem _ ?_)))); (case z48k3 => exact rfl); (case z48k4 => exact rfl); (case z48k5 => first | decide | omega); (case z48k6 => first | decide | omega); (case z48k8 => with_reducible assumption); (case z48k9 => with_unfolding_all rfl); (case z48k10 => (intro _; with_unfolding_all rfl)); k_whole))
  k_with "subscriptTail" => (k_here; (with_reducible show wpAny _ _ (subscriptTail _ _ (Value.ref _) (Value.int _ _)) _ _ _); k_dflt (refine' back_t ?z49k1 ?z49k0 ?z49k2 ?z49kS ?z49k3 ?z49k4 ?z49k5 ?z49k6 ?z49k7 ?z49k8 ?_ ?z49k9 ?z49k10; (case z49k1 => k_asm); (case z49k0 => k_asm); (case z49k2 => with_reducible assumption); (case z49kS => exact (by intro p9 hp9; first | exact hp9 | exact absurd hp9 List.not_mem_nil | (repeat (first | exact hp9 | refine List.mem_cons_of_mem _ ?_)))); (case z49k3 => exact rfl); (case z49k4 => exact rfl); (case z49k5 => decide); (case z49k6 => omega); (case z49k7 => decide); (case z49k8 => with_reducible assumption); (case z49k9 => with_unfolding_all rfl); (case z49k10 => (intro _; with_unfolding_all rfl)); k_whole))
  k_with "size_fits" => ((simp only [List.size_toArray, List.length_append, List.length_cons, List.length_nil]); rw [sizeLine_eq]; omega)
  k_with "call ref" => (k_here; (with_reducible show wpAny _ _ (call (Value.ref 41) [Value.int _ _, Value.int _ _, Value.int _ _, Value.str _ _]) _ _ _); k_dflt (refine' need_number_c ?z50k1 ?z50k2 ?z50k3 ?z50k4 ?z50k5 ?z50k6 ?z50h1 ?z50h2 ?z50k7 ?_; (case z50k1 => k_asm); (case z50k2 => k_asm); (case z50k3 => k_asm); (case z50k4 => k_asm); (case z50k5 => k_asm); (case z50k6 => first | exact rfl | assumption); (case z50k7 => first | exact Nat.le_of_ble_eq_true rfl | ktr_room); (case z50h1 => first | decide | assumption | omega); (case z50h2 => first | decide | assumption | omega); k_whole); walk_at "i3"; (try k_sweep))
  k_with "bits_by_make" => (with_reducible assumption)
  k_with "call ref" => (k_here; (with_reducible show wpAny _ _ (call (Value.ref 72) [Value.int _ _, Value.int _ _]) _ _ _); k_dflt (refine' frac_use ?z51k1 ?z51k2 ?z51k3 ?z51k4 ?z51k5 ?z51k6 ?z51k7 ?z51k8 ?z51k9 ?z51k10 ?z51k11 ?z51k12 ?z51k13 ?_; (case z51k1 => k_asm); (case z51k2 => k_asm); (case z51k3 => k_asm); (case z51k4 => k_asm); (case z51k5 => k_asm); (case z51k6 => first | exact rfl | assumption); (case z51k7 => first | exact Nat.le_of_ble_eq_true rfl | ktr_room); (case z51k8 => first | exact Nat.le_of_ble_eq_true rfl | ktr_units); (case z51k10 => bits_by_make); (case z51k11 => bits_by_make); (case z51k12 => decide); (case z51k13 => decide); (case z51k9 => first | exact nzden _ | omega | ((try k_fmods); omega) | (refine nzmul ?_ ?_ <;> first | exact nzden _ | omega)); k_whole); walk_at "i10"; (try k_sweep))
  k_with "call ref" => (k_here; (with_reducible show wpAny _ _ (call (Value.ref 72) [Value.int _ _, Value.int 1 _]) _ _ _); k_dflt (refine' frac_one ?z52k1 ?z52k2 ?z52k3 ?z52k4 ?z52k5 ?z52k6 ?z52k7 ?z52k8 ?z52k10 ?z52k12 ?_; (case z52k1 => k_asm); (case z52k2 => k_asm); (case z52k3 => k_asm); (case z52k4 => k_asm); (case z52k5 => k_asm); (case z52k6 => first | exact rfl | assumption); (case z52k7 => first | exact Nat.le_of_ble_eq_true rfl | ktr_room); (case z52k8 => first | exact Nat.le_of_ble_eq_true rfl | ktr_units); (case z52k10 => bits_by_make); (case z52k12 => decide); k_whole); walk_at "i11"; (try k_sweep))
  k_with "call ref" => (k_here; (with_reducible show wpAny _ _ (call (Value.ref 72) [Value.int _ _]) _ _ _); k_dflt (refine' frac_dflt ?z53k1 ?z53k2 ?z53k3 ?z53k4 ?z53k5 ?z53k6 ?z53k7 ?z53k8 ?z53k10 ?z53k12 ?_; (case z53k1 => k_asm); (case z53k2 => k_asm); (case z53k3 => k_asm); (case z53k4 => k_asm); (case z53k5 => k_asm); (case z53k6 => first | exact rfl | assumption); (case z53k7 => first | exact Nat.le_of_ble_eq_true rfl | ktr_room); (case z53k8 => first | exact Nat.le_of_ble_eq_true rfl | ktr_units); (case z53k10 => bits_by_make); (case z53k12 => decide); k_whole); walk_at "i11"; (try k_sweep))
  k_with "call ref" => (k_here; (with_reducible show wpAny _ _ (call (Value.ref 357) _ _) _ _ _); refine Hold.out ?_)
  k_with "call ref" => (k_here; (with_reducible show wpAny _ _ (call (Value.ref 87) _ _) _ _ _); refine Hold.out ?_)
  k_with "call ref" => (k_here; (with_reducible show wpAny _ _ (call (Value.ref 94) _ _) _ _ _); refine Hold.out ?_)
  trivial
theorem used_c {w : World} {p : Program} {loose : List Str} {mean : ExcName → Option Value} {mg mb : Str → Option Value} {dp un : Nat} {gd : Option (List Code)} {cn : Str} {cs : Scope} {a : Addr} {ccd : Value} {cl : List (Str × Addr)} {outer : List Env} {A₀ : Around} {base h₀ : Heap} {L : Addr} {m : Str → Option Value} {news : List (Addr × Obj)} {s : Shared} {Q E : Value → Shared → Prop} {P : Addr → Obj → Prop} {x d l0 : Addr} {k1 k2 k3 k4 k5 : Tok} {nm fa re : Value} {tu : Int} {t3 : Tok} {vs : List Value} {rows : List MRow} {n0 : Nat} {st en : Int} {ts te : Tok} {Df : Addr} {f : Rat} {tf tf' : Tok} {cf bf : Nat} {ra rf : MRow}
    (B : Below A₀ base outer h₀) (F : Fr h₀ L s.heap m) (X : (HD.K w.params).In h₀) (N : News h₀ L s.heap news) (T : Top p loose mean mg mb h₀) (hk : cs.kind = .function) (hgx : s.heap.get? x = some (instObj 367 d)) (hgd : s.heap.get? d = some (meterD w.params k1 k2 k3 k4 k5 nm (.int tu t3) (.ref Df) (.ref l0) re)) (hP : ∀ a o, P a o → s.heap.get? a = some o) (el : P l0 (listOf vs.toArray n0)) (hv : All2 (RowN P) vs rows) (htu : 0 < tu) (hll : rows.length ≤ 1000) (h0 : rows[0]? = some rf) (hz : rows[rows.length - 1]? = some ra) (est : st = rf.1) (een : en = ra.1) (hs0 : 0 ≤ st) (hse : st ≤ en) (hen : en ≤ 10000000) (hq : ∀ q ∈ stepsF tu rows, InUse st en q)
    (hf : s.heap.get? Df = some (RatO f tf tf' cf)) (hbf : Bd bf f) (hbf2 : bf ≤ 6000)
    (hd : dp + 14 < recursionLimit) (hu : un + 500 < cLine)
    (hret : ∀ (D : Addr) (t t' : Tok) (c : Nat) (h' : Heap) (tk' : Nat), Bd (64 + bf) (((usum (stepsF tu rows) : Int) : Rat) * f) → Fr h₀ L h' m → News h₀ L h' ((D, RatO (((usum (stepsF tu rows) : Int) : Rat) * f) t t' c) :: news) → (∀ p ∈ news, p.1 ≠ D) → Q (.ref D) { s with heap := h', toks := tk' }) :
    wpAny (model PySem.Challenge.rw_ui0509_14.row.prog w) (ktrTop dp un gd cn cs L a ccd cl outer) (call (.ref 364) [.ref x, .int st ts, .int en te]) Q E s := by
  w_top off
  revert X; k_fill; intro X
  refine wpAny_call ?_
  k_dflt (refine' code_need [] ?k1 ?k2 ?k3 ?k4 ?k5 ?kA ?kF ?kK ?k6 ?k7 ?k8 ?k9 ?kB ?kN ?_ ?c2 ?c3 ?c4 ?c5; (case kA => exact rfl); (case kF => exact rfl); (case kK => assumption); (case k1 => k_asm); (case k2 => k_asm); (case k3 => k_asm); (case k4 => k_asm); (case k5 => k_asm); (case k6 => k_is); (case k7 => k_is); (case k8 => ktr_room); (case k9 => first | exact BindsTo.of_eq rfl | exact binds_K (by k_in) rfl (by k_is) rfl rfl rfl); (case c5 => decide); (case kB => exact locs rfl); (case kN => exact fun _ h => nomatch h); (case c2 => exact rfl); (case c3 => exact rfl); (case c4 => exact rfl); k_whole; intro g' L' h' tk0 FG' F' N' B' X' T' hG'; (try dsimp only); (try k_fold))
  have hT := ground_of hP hG'
  have elT := hT [] _ _ (.inl el)
  replace hgx := hG' _ _ hgx (by simp)
  replace hgd := hG' _ _ hgd (by simp)
  replace hf := hG' _ _ hf (by simp)
  have hvl := hv.length
  have hpl : 0 < rows.length := (List.getElem?_eq_some_iff.mp h0).1
  obtain ⟨_, hva, Ta, a1, a2, ua, ca, rfl, eA, oA⟩ := hv.at h0
  obtain ⟨_, hvb, Tb, b1, b2, ub, cb, rfl, eB, oB⟩ := hv.at hz
  have eA' := hT [] _ _ (.inl eA)
  have eB' := hT [] _ _ (.inl eB)
  have hx1 : vs[(0 : Int).toNat]? = some (Value.ref Ta) := hva
  have hx2 : vs[(-1 + (vs.length : Int)).toNat]? = some (Value.ref Tb) := at_of hvb (by omega)
  k_steps
  all_goals try (exfalso; omega)
  unfold Hold
  k_dflt (refine' steps_c (P := P) (rows := rows) (tu := tu) ?k1 ?k2 ?k3 ?k4 ?k5 ?k6 ?gx ?gd ?hP ?el ?hv ?htu ?hll ?k7 ?k8 ?_)
  case k1 => k_asm
  case k2 => k_asm
  case k3 => k_asm
  case k4 => k_asm
  case k5 => k_asm
  case k6 => first | exact rfl | assumption
  case k7 => ktr_room
  case k8 => ktr_units
  case gx => exact Fr.keep (by k_asm) _ _ hgx
  case gd => exact Fr.keep (by k_asm) _ _ hgd
  case hP => exact fun a o e => (hT [] a o (.inl e)).get (by k_asm) (by k_asm) fun _ h => nomatch h
  case el => exact el
  case hv => exact hv
  case htu => exact htu
  case hll => exact hll

  intro d1 ws nw tl h5 tk5 F5 N5 n51 n52 n53 hws
  simp only [List.nil_append] at N5
  k_steps
  unfold Hold
  refine iter_listTurns rfl (by k_asm) (by k_asm) (List.mem_cons_self ..) rfl rfl (fun I lI => ?_)
  refine items_ind (fun i m nx => ∃ v, m (Str.ofString "out") = some v ∧ m (Str.ofString "self") = some (.ref x) ∧ m (Str.ofString "start") = some (.int st ts) ∧ m (Str.ofString "end") = some (.int en te) ∧ ((i = 0 ∧ v = .ref 56 ∧ nx = (d1, listOf ws.toArray nw) :: tl) ∨ (0 < i ∧ ∃ D t t' c, v = .ref D ∧ (@Ne Nat D d1) ∧ (∀ q ∈ tl, q.1 ≠ D) ∧ nx = (D, RatO ((usum ((stepsF tu rows).take i) : Int) : Rat) t t' c) :: (d1, listOf ws.toArray nw) :: tl))) ?turn ?done _ 0 _ _ rfl (Nat.zero_le _) ⟨List.mem_cons_self .., trivial⟩ (fun p hp => Nat.ne_of_lt (lI p hp)) ⟨_, rfl, rfl, rfl, rfl, .inl ⟨rfl, rfl, rfl⟩⟩
  case turn =>
    intro i a v m nx h tk o ha _ hI hJ hav Fm ho Nn
    obtain ⟨⟨qa, qb, qu⟩, hr, D1, t1, t1', t1'', c1, rfl, e1⟩ := hws.get (val_get ha hav)
    have e1' := hT tl _ _ e1
    have hil : i < (stepsF tu rows).length := (List.getElem?_eq_some_iff.mp hr).1
    rw [stepsF_len] at hil
    obtain ⟨q1, q2, q3, q4, q5⟩ := hq _ (List.mem_of_getElem? hr)
    have hus := usum_bd hq i
    dsimp only at e1' q1 q2 q3 q4 q5
    have hmn : (if en < qb then en else qb) = qb := if_neg (by omega)
    have hmx : (if st > qa then st else qa) = qa := if_neg (by omega)
    have hb1 : Builtin.Int.intBits (qu * ((if en < qb then en else qb) - if st > qa then st else qa)) ≤ 64 + 64 := by
      rw [hmn, hmx]; exact bits_mul (PySem.intBits_le_64 (by omega) (by omega)) (PySem.intBits_le_64 (by omega) (by omega))
    have hb2 : Builtin.Int.intBits (qb - qa) ≤ 64 := PySem.intBits_le_64 (by omega) (by omega)
    obtain ⟨vo, hm, hm2, hm3, hm4, ⟨rfl, rfl, rfl⟩ | ⟨hpos, D, t, t', c, rfl, nD1, nDt, rfl⟩⟩ := hJ
    · have htot : usum ((stepsF tu rows).take (0 + 1)) = qu := by rw [usum_take hr]; simp [usum]
      have nI1 : d1 ≠ I := hI _ (List.mem_cons_self ..)
      have htI : ∀ p ∈ tl, p.1 ≠ I := fun p hp => hI p (List.mem_cons_of_mem _ hp)
      replace nI1 := neN nI1
      k_steps
      unfold Hold
      rename_i r9 D9 t9 u9 c9 h9 tk9 rE rN rD F9 N9 l9
      have er : r9 = ((qu : Int) : Rat) := by
        rw [rE, hmn, hmx]
        have := Rat.divInt_mul_right (n := qu) (d := 1) (a := qb - qa) (by omega)
        rw [Int.one_mul] at this
        rw [this, r_int]
      subst er
      k_dflt (refine' plus_r (D1 := 56) (D2 := D9) (r1 := 0) (r2 := ((qu : Int) : Rat)) (n := 1) (k := 64) ?k1 ?k2 ?k3 ?k4 ?k5 ?k6 ?e1 ?e2 ?k7 ?k8 ?b1 ?b2 ?hbq ?_)
      case k1 => k_asm
      case k2 => k_asm
      case k3 => k_asm
      case k4 => k_asm
      case k5 => k_asm
      case k6 => first | exact rfl | assumption
      case k7 => ktr_room
      case k8 => ktr_units
      case e1 => exact Frag.In.keeps (by k_asm) (Fr.keep (by k_asm)) _ _ (by k_is)
      case e2 => exact N9.get (by k_mem)
      case b1 => exact Bd.zero (by decide)
      case b2 => exact Bd.int (PySem.intBits_le_64 (by omega) (by omega)) (by decide)
      case hbq => first | decide | omega

      intro D8 t8 u8 c8 h8 tk8 b8 F8 N8 l8
      have ez : 0 + ((qu : Int) : Rat) = ((usum ((stepsF tu rows).take (0 + 1)) : Int) : Rat) := by rw [htot]; rw [show (0 : Rat) = ((0 : Int) : Rat) from rfl, ← Rat.intCast_add]; congr 1; omega
      rw [ez] at N8
      have l8t : ∀ q ∈ tl, q.1 ≠ D8 := fun q hq => l8 q ((subs_of N9 (by intro p9 hp9; first | ((repeat (first | exact hp9 | exact List.mem_append_left _ hp9 | exact List.mem_append_right _ hp9 | refine List.mem_cons_of_mem _ ?_)); done) | (simp only [List.mem_cons, List.mem_append]; simp only [hp9, true_or, or_true])) : ∀ p ∈ tl, p ∈ _) q hq)
      replace l8 := allNe_of l8; simp only [AllNe, and_true] at l8
      k_steps
      unfold Hold
      (rename News _ _ _ _ => NN)
      exact unr_end ((D8, RatO ((usum ((stepsF tu rows).take (0 + 1)) : Int) : Rat) t8 u8 c8) :: (d1, listOf ws.toArray nw) :: tl) (by k_asm) NN (by k_mem) (fcons (by k_mem) (fcons (by k_mem) (by intro p9 hp9; first | ((repeat (first | exact hp9 | exact List.mem_append_left _ hp9 | exact List.mem_append_right _ hp9 | refine List.mem_cons_of_mem _ ?_)); done) | (simp only [List.mem_cons, List.mem_append]; simp only [hp9, true_or, or_true])))) (fcons (neN (by walk_at "ne9")) (fcons nI1 htI))
        ⟨⟨List.mem_cons_of_mem _ (List.mem_cons_self ..), trivial⟩, _, rfl, by first | rfl | assumption, by first | rfl | assumption, by first | rfl | assumption, .inr ⟨Nat.succ_pos _, D8, t8, u8, c8, rfl, neN (by walk_at "ne9"), l8t, rfl⟩⟩
    · have htot := usum_take hr
      have nI1 : d1 ≠ I := hI _ (List.mem_cons_of_mem _ (List.mem_cons_self ..))
      have htI : ∀ p ∈ tl, p.1 ≠ I := fun p hp => hI p (List.mem_cons_of_mem _ (List.mem_cons_of_mem _ hp))
      replace nI1 := neN nI1
      have nID := neN (hI _ (List.mem_cons_self ..))
      k_steps
      unfold Hold
      rename_i r9 D9 t9 u9 c9 h9 tk9 rE rN rD F9 N9 l9
      have er : r9 = ((qu : Int) : Rat) := by
        rw [rE, hmn, hmx]
        have := Rat.divInt_mul_right (n := qu) (d := 1) (a := qb - qa) (by omega)
        rw [Int.one_mul] at this
        rw [this, r_int]
      subst er
      k_dflt (refine' plus_r (D1 := D) (D2 := D9) (r1 := ((usum ((stepsF tu rows).take i) : Int) : Rat)) (r2 := ((qu : Int) : Rat)) (n := 64) (k := 64) ?k1 ?k2 ?k3 ?k4 ?k5 ?k6 ?e1 ?e2 ?k7 ?k8 ?b1 ?b2 ?hbq ?_)
      case k1 => k_asm
      case k2 => k_asm
      case k3 => k_asm
      case k4 => k_asm
      case k5 => k_asm
      case k6 => first | exact rfl | assumption
      case k7 => ktr_room
      case k8 => ktr_units
      case e1 => exact N9.get (by k_mem)
      case e2 => exact N9.get (by k_mem)
      case b1 => exact Bd.int (PySem.intBits_le_64 (by omega) (by omega)) (by decide)
      case b2 => exact Bd.int (PySem.intBits_le_64 (by omega) (by omega)) (by decide)
      case hbq => first | decide | omega

      intro D8 t8 u8 c8 h8 tk8 b8 F8 N8 l8
      have ez : ((usum ((stepsF tu rows).take i) : Int) : Rat) + ((qu : Int) : Rat) = ((usum ((stepsF tu rows).take (i + 1)) : Int) : Rat) := by rw [htot]; rw [Rat.intCast_add]
      rw [ez] at N8
      have l8t : ∀ q ∈ tl, q.1 ≠ D8 := fun q hq => l8 q ((subs_of N9 (by intro p9 hp9; first | ((repeat (first | exact hp9 | exact List.mem_append_left _ hp9 | exact List.mem_append_right _ hp9 | refine List.mem_cons_of_mem _ ?_)); done) | (simp only [List.mem_cons, List.mem_append]; simp only [hp9, true_or, or_true])) : ∀ p ∈ tl, p ∈ _) q hq)
      replace l8 := allNe_of l8; simp only [AllNe, and_true] at l8
      k_steps
      unfold Hold
      (rename News _ _ _ _ => NN)
      exact unr_end ((D8, RatO ((usum ((stepsF tu rows).take (i + 1)) : Int) : Rat) t8 u8 c8) :: (d1, listOf ws.toArray nw) :: tl) (by k_asm) NN (by k_mem) (fcons (by k_mem) (fcons (by k_mem) (by intro p9 hp9; first | ((repeat (first | exact hp9 | exact List.mem_append_left _ hp9 | exact List.mem_append_right _ hp9 | refine List.mem_cons_of_mem _ ?_)); done) | (simp only [List.mem_cons, List.mem_append]; simp only [hp9, true_or, or_true])))) (fcons (neN (by walk_at "ne9")) (fcons nI1 htI))
        ⟨⟨List.mem_cons_of_mem _ (List.mem_cons_self ..), trivial⟩, _, rfl, by first | rfl | assumption, by first | rfl | assumption, by first | rfl | assumption, .inr ⟨Nat.succ_pos _, D8, t8, u8, c8, rfl, neN (by walk_at "ne9"), l8t, rfl⟩⟩
  case done =>
    intro m nx h tk hJ Fm Nn
    rw [List.length_map, hws.length, List.take_length] at hJ
    obtain ⟨vo, hm, hm2, hm3, hm4, ⟨h00, rfl, rfl⟩ | ⟨hpos, D, t, t', c, rfl, nD1, nDt, rfl⟩⟩ := hJ
    · have hz0 : stepsF tu rows = [] := List.length_eq_zero_iff.mp h00
      k_steps
      unfold Hold
      k_dflt (refine' times_r (D1 := 56) (D2 := Df) (r1 := 0) (r2 := f) (n := 1) (k := bf) ?k1 ?k2 ?k3 ?k4 ?k5 ?k6 ?e1 ?e2 ?k7 ?k8 ?b1 ?b2 ?hbq ?_)
      case k1 => k_asm
      case k2 => k_asm
      case k3 => k_asm
      case k4 => k_asm
      case k5 => k_asm
      case k6 => first | exact rfl | assumption
      case k7 => ktr_room
      case k8 => ktr_units
      case e1 => exact Frag.In.keeps (by k_asm) (Fr.keep (by k_asm)) _ _ (by k_is)
      case e2 => exact Fr.keep (by k_asm) _ _ hf
      case b1 => exact Bd.zero (by decide)
      case b2 => exact hbf
      case hbq => first | decide | omega

      intro D8 t8 u8 c8 h8 tk8 b8 F8 N8 l8
      have ez : (0 : Rat) = ((usum (stepsF tu rows) : Int) : Rat) := by rw [hz0]; rfl
      rw [ez] at N8 b8
      k_steps
      try dsimp only
      refine leaveN_ (by k_asm) (by k_asm) ?_; intro kF kN kR kD; (try dsimp only); exact hret _ _ _ _ _ _ (b8.mono (by omega)) kF (news_cons kN (by k_mem) (news_all kR)) (ne_all kD (by k_mem : (D8, _) ∈ _))
    · have hus := usum_bd hq (stepsF tu rows).length
      rw [List.take_length] at hus
      have hsl := stepsF_len (tu := tu) (rs := rows)
      k_steps
      unfold Hold
      k_dflt (refine' times_r (D1 := D) (D2 := Df) (r1 := ((usum (stepsF tu rows) : Int) : Rat)) (r2 := f) (n := 64) (k := bf) ?k1 ?k2 ?k3 ?k4 ?k5 ?k6 ?e1 ?e2 ?k7 ?k8 ?b1 ?b2 ?hbq ?_)
      case k1 => k_asm
      case k2 => k_asm
      case k3 => k_asm
      case k4 => k_asm
      case k5 => k_asm
      case k6 => first | exact rfl | assumption
      case k7 => ktr_room
      case k8 => ktr_units
      case e1 => exact News.get (by k_asm) (by k_mem)
      case e2 => exact Fr.keep (by k_asm) _ _ hf
      case b1 => exact Bd.int (PySem.intBits_le_64 (by omega) (by omega)) (by decide)
      case b2 => exact hbf
      case hbq => first | decide | omega

      intro D8 t8 u8 c8 h8 tk8 b8 F8 N8 l8
      k_steps
      try dsimp only
      refine leaveN_ (by k_asm) (by k_asm) ?_; intro kF kN kR kD; (try dsimp only); exact hret _ _ _ _ _ _ (b8.mono (by omega)) kF (news_cons kN (by k_mem) (news_all kR)) (ne_all kD (by k_mem : (D8, _) ∈ _))
end
theorem set_at {prog : Program} {w : World} {A : Around} {E : Value → Shared → Prop} {s : Shared} {h₀ : Heap} {L D : Addr} {m : Str → Option Value} {news news' : List (Addr × Obj)} {vs : List Value} {n : Nat} {k : Int} {t : Tok} {v : Value} {Q : Unit → Shared → Prop}
    (F : Fr h₀ L s.heap m) (N : News h₀ L s.heap news) (U : Upd D (listOf vs.toArray n) (listOf (vs.set k.toNat v).toArray n) news news') (h0 : 0 ≤ k) (h1 : k < vs.length) (hfit : k < 2 ^ 63)
    (h : ∀ h', Fr h₀ L h' m → News h₀ L h' news' → Q () { s with heap := h' }) :
    wpAny (model prog w) A (setItem (.ref D) (.int k t) v) Q E s := by
  obtain ⟨pre, post, rfl, rfl, a, b⟩ := U.split
  have z := N (D, listOf vs.toArray n) (List.mem_append.mpr (.inr (.head _)))
  have hs : vs.toArray.size = vs.length := List.size_toArray ..
  refine ki_setAt z.1 h0 hfit (by omega) (h _ (F.change (Heap.SameBut.update ..) z.2.1 z.2.2) (ki_turn _ N a b ?_ ?_))
  · show vs.toArray.setIfInBounds k.toNat v = (vs.set k.toNat v).toArray
    apply Array.toList_inj.mp
    simp
  · simp
theorem set_end {vs : List Value} {a b : Value} {k : Int} (hk : k.toNat = vs.length) : (vs ++ [a]).set k.toNat b = vs ++ [b] := by
  rw [hk]; simp
theorem app_at {vs : List Value} {a : Value} {i k : Nat} {v : Value} (h : vs[i]? = some v) (hk : k = i) : (vs ++ [a])[k]? = some v := by
  rw [hk, List.getElem?_append_left (List.getElem?_eq_some_iff.mp h).1]; exact h
theorem app_end {vs : List Value} {a : Value} {k : Nat} (hk : k = vs.length) : (vs ++ [a])[k]? = some a := by rw [hk]; simp
section
theorem words17 : True := by
  k_with_none
  k_with "ne9" => (first | with_reducible assumption | exact Ne.symm (by with_reducible assumption) | omega)
  k_with "k_in" => (refine' in_of ?z1fF ?z1fX; (case z1fF => k_asm); (case z1fX => k_asm))
  k_with "call ref" => (k_here; (with_reducible show wpAny _ _ (call (Value.ref 64) [Value.int _ _, Value.int _ _]) _ _ _); k_dflt (refine' div_use _ _ _ _ _ _ _ _ _ _ _ _ _ _ _ _ _ _ _ _ _ _ ?z2k1 ?z2k2 ?z2k3 ?z2k4 ?z2k5 ?z2k6 ?z2k7 ?z2k8 ?z2k9 ?z2k10 ?_; (case z2k1 => k_asm); (case z2k2 => k_asm); (case z2k3 => k_asm); (case z2k4 => k_asm); (case z2k5 => k_asm); (case z2k6 => first | exact rfl | assumption); (case z2k7 => ktr_room); (case z2k8 => ktr_units); (case z2k9 => omega); (case z2k10 => first | assumption | exact Fits.neg (by assumption) | exact Fits.of (n := 64) (PySem.intBits_le_64 (by omega) (by omega)) (by decide)); k_whole); walk_at "i0"; (try k_sweep))
  k_with "binaryOp FloorDiv int int" => (with_reducible refine floordiv_int ?z3ne ?_ (Or.inl (PyProof.noPylong_of_log2 ?z3lg)); (case z3lg => with_reducible assumption); (case z3ne => omega))
  k_with "hat9" => (first | exact News.get (by k_asm) (by k_mem) | exact Fr.keep (by k_asm) _ _ (by with_reducible assumption) | exact Tk.get (by k_asm) (by k_asm) (by with_reducible assumption) (by intro p9 hp9; first | exact hp9 | exact absurd hp9 List.not_mem_nil | (repeat (first | exact hp9 | refine List.mem_cons_of_mem _ ?_))) | exact Frag.In.keeps (by k_asm) (Fr.keep (by k_asm)) _ _ (by k_is))
  k_with "bits_by_make" => (with_reducible assumption)
  k_with "ktr_units" => ((try simp only [units_under_make, units_in1, units_deeper, Around.mark_units, units_caller]); (try dsimp only [ktrTop]); first | exact un1 (by with_reducible assumption) (Nat.le_of_ble_eq_true rfl) | exact un2 (by with_reducible assumption) (Nat.le_of_ble_eq_true rfl) | exact un3 (by with_reducible assumption) (Nat.le_of_ble_eq_true rfl) | (have hcL9 := cLine_is; omega))
  k_with "exec For" => (k_here; walk_at "i5")
  k_with "exec For Name Name cons nil" => (k_here; walk_at "i5")
  k_with "exec For Name Call cons nil" => (k_here; walk_at "i5")
  k_with "exec For Tuple Name cons nil" => (k_here; walk_at "i5")
  k_with "exec For Tuple Call cons nil" => (k_here; walk_at "i5")
  k_with "exec For Name Attribute cons nil" => (k_here; walk_at "i5")
  k_with "exec For Tuple Attribute cons nil" => (k_here; walk_at "i5")
  k_with "exec For Tuple Subscript cons nil" => (k_here; walk_at "i5")
  k_with "pyIter ref" => ((with_reducible show wpAny _ _ (pyIter (Value.ref _)) (fun it s₂ => TurnsAt _ _ _ _ _ _ _ _ _ it s₂) _ _); refine Hold.out ?_)
  k_with "UnrPostW" => (dsimp only [UnrPostW])
  k_with "UnrEndW" => (refine Hold.out ?_)
  k_with "eval Name" => (k_here; k_dflt (refine' ld ?z54k1 ?z54k2 ?_; (case z54k1 => k_asm); (case z54k2 => first | exact rfl | assumption); k_whole))
  k_with "call ref" => (k_here; (with_reducible show wpAny _ _ (call (Value.ref 41) [Value.int _ _, Value.int _ _, Value.int _ _, Value.str _ _]) _ _ _); k_dflt (refine' need_number_c ?z55k1 ?z55k2 ?z55k3 ?z55k4 ?z55k5 ?z55k6 ?z55h1 ?z55h2 ?z55k7 ?_; (case z55k1 => k_asm); (case z55k2 => k_asm); (case z55k3 => k_asm); (case z55k4 => k_asm); (case z55k5 => k_asm); (case z55k6 => first | exact rfl | assumption); (case z55k7 => first | exact Nat.le_of_ble_eq_true rfl | ktr_room); (case z55h1 => first | decide | assumption | omega); (case z55h2 => first | decide | assumption | omega); k_whole); walk_at "i3"; (try k_sweep))
  k_with "subscriptTail" => (k_here; (with_reducible show wpAny _ _ (subscriptTail _ _ (Value.ref _) (Value.int _ _)) _ _ _); k_dflt (refine' tup_g ?z56k1 ?z56k2 ?z56k3 ?z56k4 ?z56k5 ?z56k6 ?z56k7 ?z56k8 ?_ ?z56k9 ?z56k10; (case z56k1 => k_asm); (case z56k2 => with_reducible assumption); (case z56k3 => exact rfl); (case z56k4 => exact rfl); (case z56k5 => decide); (case z56k6 => decide); (case z56k7 => exact rfl); (case z56k8 => exact rfl); (case z56k9 => with_unfolding_all rfl); (case z56k10 => (intro _; with_unfolding_all rfl)); k_whole))
  k_with "subscriptTail" => (k_here; (with_reducible show wpAny _ _ (subscriptTail _ _ (Value.ref _) (Value.int _ _)) _ _ _); k_dflt (refine' kim_list ?z57k1 ?z57k2 ?z57k3 ?z57k4 ?z57k5 ?z57k6 ?z57k7 ?_ ?z57k8 ?z57k9; (case z57k1 => k_asm); (case z57k2 => k_mem); (case z57k3 => exact rfl); (case z57k4 => exact rfl); (case z57k5 => omega); (case z57k6 => omega); (case z57k7 => with_reducible assumption); (case z57k8 => with_unfolding_all rfl); (case z57k9 => (intro _; with_unfolding_all rfl)); k_whole))
  k_with "call builtin:len" => (k_here; (with_reducible show wpAny _ _ (call (Value.builtin "len") [Value.ref _]) _ _ _); k_dflt (refine' lst_len ?z58k1 ?z58k2 ?z58k3 ?_; (case z58k1 => k_asm); (case z58k2 => k_mem); (case z58k3 => ((try simp only [List.length_append, List.length_cons, List.length_nil]); omega)); k_whole); walk_at "i7"; (try simp only [List.length_append, List.length_cons, List.length_nil]))
  k_with "setItem ref int" => (k_here; (with_reducible show wpAny _ _ (setItem (Value.ref _) (Value.int _ _) _) _ _ _); refine Hold.out ?_)
  k_with "size_fits" => ((try simp only [List.size_toArray, List.length_append, List.length_cons, List.length_nil]); rw [sizeLine_eq]; omega)
  trivial
theorem correct_c {w : World} {p : Program} {loose : List Str} {mean : ExcName → Option Value} {mg mb : Str → Option Value} {dp un : Nat} {gd : Option (List Code)} {cn : Str} {cs : Scope} {a : Addr} {ccd : Value} {cl : List (Str × Addr)} {outer : List Env} {A₀ : Around} {base h₀ : Heap} {L : Addr} {m : Str → Option Value} {news : List (Addr × Obj)} {s : Shared} {Q E : Value → Shared → Prop} {x d l : Addr} {k1 k2 k3 k4 k5 : Tok} {nm fa re : Value} {tu day val : Int} {t3 t4 t5 : Tok} {n : Nat} {news1 : List (Addr × Obj)} {g1 : Obj → List (Addr × Obj)} {vs : List Value} {D0 : Addr} {val0 : Int} {t6 t7 : Tok} {u0 : Value} {c0 : Nat}
    (B : Below A₀ base outer h₀) (F : Fr h₀ L s.heap m) (X : (HD.K w.params).In h₀) (N : News h₀ L s.heap news) (T : Top p loose mean mg mb h₀) (hk : cs.kind = .function) (ex : (x, instObj 367 d) ∈ news) (U2 : Upd d (meterD w.params k1 k2 k3 k4 k5 nm (.int tu t3) fa (.ref l) re) (meterD w.params k1 k2 k3 k4 k5 nm (.int tu t3) fa (.ref l) (.ref 56)) news news1) (U1 : UpdF l (listOf (vs ++ [Value.ref D0]).toArray n) news1 g1) (ndx : d ≠ x) (nlx : l ≠ x) (nld : l ≠ d) (e0 : s.heap.get? D0 = some (Row day val0 t6 t7 .none c0)) (n0 : D0 ≠ x ∧ D0 ≠ d ∧ D0 ≠ l) (hlen : vs.length < 1000)
    (hv : ∀ (i : Nat) v, vs[i]? = some v → ∃ (D : Addr) (da va : Int) (t t' : Tok) (u : Value) (c : Nat), v = .ref D ∧ s.heap.get? D = some (Row da va t t' u c) ∧ (D ≠ x ∧ D ≠ d ∧ D ≠ l) ∧ da ≠ day)
    (hd : dp + 8 < recursionLimit) (h3 : 0 ≤ val) (h4 : val < tu)
    (hret : ∀ (D : Addr) (c n' : Nat) (h' : Heap) (tk' : Nat), Fr h₀ L h' m → News h₀ L h' ((D, Row day val t4 t5 .none c) :: g1 (listOf (vs ++ [Value.ref D]).toArray n')) → (∀ p ∈ news, p.1 ≠ D) → Q .none { s with heap := h', toks := tk' }) :
    wpAny (model PySem.Challenge.rw_ui0509_14.row.prog w) (ktrTop dp un gd cn cs L a ccd cl outer) (call (.ref 350) [.ref x, .int day t4, .int val t5]) Q E s := by
  replace ndx := neN ndx; replace nlx := neN nlx; replace nld := neN nld
  w_top off
  revert X; k_fill; intro X
  refine wpAny_call ?_
  k_dflt (refine' code_need [(x, instObj 367 d), (d, meterD w.params k1 k2 k3 k4 k5 nm (.int tu t3) fa (.ref l) re), (l, listOf (vs ++ [Value.ref D0]).toArray n)] ?k1 ?k2 ?k3 ?k4 ?k5 ?kA ?kF ?kK ?k6 ?k7 ?k8 ?k9 ?kB ?kN ?_ ?c2 ?c3 ?c4 ?c5; (case kA => exact rfl); (case kF => exact rfl); (case kK => assumption); (case k1 => k_asm); (case k2 => k_asm); (case k3 => k_asm); (case k4 => k_asm); (case k5 => k_asm); (case k6 => k_is); (case k7 => k_is); (case k8 => ktr_room); (case k9 => first | exact BindsTo.of_eq rfl | exact binds_K (by k_in) rfl (by k_is) rfl rfl rfl); (case c5 => decide); (case kB => exact locs rfl); (case kN => exact three_in ex (Upd.mem U2) (Upd.other U2 (UpdF.mem U1) nld)); (case c2 => exact rfl); (case c3 => exact rfl); (case c4 => exact rfl); k_whole; intro g' L' h' tk0 FG' F' N' B' X' T' hG'; (try dsimp only); (try k_fold))
  replace e0 := hG' _ _ e0 (by simp only [List.map_cons, List.map_nil, List.mem_cons, List.not_mem_nil, or_false, not_or]; exact n0)
  replace hv : ∀ (i : Nat) v, vs[i]? = some v → ∃ (D : Addr) (da va : Int) (t t' : Tok) (u : Value) (c : Nat), v = .ref D ∧ g'.get? D = some (Row da va t t' u c) ∧ da ≠ day := fun i v h => by
    obtain ⟨D, da, va, t, t', u, c, e, hg, hn, hne⟩ := hv i v h
    exact ⟨D, da, va, t, t', u, c, e, hG' _ _ hg (by simp only [List.map_cons, List.map_nil, List.mem_cons, List.not_mem_nil, or_false, not_or]; exact hn), hne⟩
  k_steps
  unfold Hold
  refine iter_rangeTurns (n := vs.length + 1) rfl (by assumption) (small_one (by omega) (by omega) (by omega) (by omega)) (rsizeT (by omega)) (by k_asm) (by k_asm) (fun I lI => ?_)
  refine items_ind (fun i m nx => nx = [(x, instObj 367 d), (d, meterD w.params k1 k2 k3 k4 k5 nm (.int tu t3) fa (.ref l) re), (l, listOf (vs ++ [Value.ref D0]).toArray n)] ∧ m (Str.ofString "self") = some (.ref x) ∧ m (Str.ofString "day") = some (.int day t4) ∧ m (Str.ofString "value") = some (.int val t5) ∧ i ≤ vs.length) ?turn ?done _ 0 _ _ rfl (Nat.zero_le _) trivial (fun p hp => Nat.ne_of_lt (lI p hp)) ⟨rfl, rfl, rfl, rfl, Nat.zero_le _⟩
  case turn =>
    intro i a v m nx h tk o ha _ hI hJ hav Fm ho Nn
    obtain ⟨rfl, hm1, hm2, hm3, hi⟩ := hJ
    obtain ⟨hi2, rfl⟩ := rangeItems_get ha
    obtain ⟨t9, rfl⟩ := hav
    have nxI := neN (hI _ (by k_mem : (x, instObj 367 d) ∈ _))
    have ndI := neN (hI _ (by k_mem : (d, _) ∈ _))
    have nlI := neN (hI _ (by k_mem : (l, _) ∈ _))
    dsimp only at nxI ndI nlI
    clear hI
    by_cases hil : i < vs.length
    · obtain ⟨v9, hv9⟩ : ∃ v9, vs[i]? = some v9 := ⟨vs[i]'hil, List.getElem?_eq_getElem hil⟩
      obtain ⟨D9, da, va, t2, t3', u2, c2, rfl, g9, hne⟩ := hv i v9 hv9
      have hx1 : (vs ++ [Value.ref D0])[(0 + (i : Int)).toNat]? = some (.ref D9) := app_at hv9 (by omega)
      have hj1 : (0 : Int) ≤ 0 + (i : Int) := by omega
      have hj2 : 0 + (i : Int) < 2 ^ 63 := by omega
      clear hv
      k_steps
      all_goals (try (exfalso; omega))
      unfold Hold
      (rename News _ _ _ _ => NN)
      exact unr_end [(x, instObj 367 d), (d, meterD w.params k1 k2 k3 k4 k5 nm (.int tu t3) fa (.ref l) re), (l, listOf (vs ++ [Value.ref D0]).toArray n)] (by k_asm) NN (by k_mem) (fcons (by k_mem) (fcons (by k_mem) (fcons (by k_mem) (List.forall_mem_nil _)))) (fcons nxI (fcons ndI (fcons nlI (List.forall_mem_nil _)))) ⟨trivial, rfl, by first | rfl | assumption, by first | rfl | assumption, by first | rfl | assumption, by omega⟩
    · obtain rfl : i = vs.length := by omega
      have hx1 : (vs ++ [Value.ref D0])[(0 + (vs.length : Int)).toNat]? = some (.ref D0) := app_end (by omega)
      have hj1 : (0 : Int) ≤ 0 + (vs.length : Int) := by omega
      have hj2 : 0 + (vs.length : Int) < 2 ^ 63 := by omega
      clear hv
      k_steps
      all_goals (try (exfalso; omega))
      unfold Hold
      rename_i Dn hn Fn Nn2 ln
      refine' set_at (vs := vs ++ [Value.ref D0]) (n := n) Fn Nn2 ?U7 (by omega) (by rw [List.length_append, List.length_singleton]; omega) (by omega) ?_
      case U7 => rw [set_end (by omega)]; k_upd
      intro h7 F7 N7
      (try dsimp only [List.nil_append, List.cons_append] at N7)
      clear Fn Nn2
      k_steps
      all_goals (refine leaveN_ (by k_asm) (by k_asm) ?_; intro kF kN kR kD; (try dsimp only); exact hret Dn _ _ _ _ kF (news_cons kN (by k_mem) (news_upd2 N ex U2 U1 kN (by k_mem) (by k_mem) (by k_mem) kR)) (ne_three kD (by k_mem : (Dn, Row _ _ _ _ .none _) ∈ _) (neN (by walk_at "ne9")) (neN (by walk_at "ne9")) (neN (by walk_at "ne9"))))
  case done =>
    intro m nx h tk hJ Fm Nn
    obtain ⟨rfl, hm1, hm2, hm3, hi⟩ := hJ
    rw [List.length_map, List.length_range] at hi
    exfalso; omega
end
section
theorem words18 : True := by
  k_with_none
  k_with "ne9" => (first | with_reducible assumption | exact Ne.symm (by with_reducible assumption) | omega)
  k_with "k_in" => (refine' in_of ?z1fF ?z1fX; (case z1fF => k_asm); (case z1fX => k_asm))
  k_with "call ref" => (k_here; (with_reducible show wpAny _ _ (call (Value.ref 64) [Value.int _ _, Value.int _ _]) _ _ _); k_dflt (refine' div_use _ _ _ _ _ _ _ _ _ _ _ _ _ _ _ _ _ _ _ _ _ _ ?z2k1 ?z2k2 ?z2k3 ?z2k4 ?z2k5 ?z2k6 ?z2k7 ?z2k8 ?z2k9 ?z2k10 ?_; (case z2k1 => k_asm); (case z2k2 => k_asm); (case z2k3 => k_asm); (case z2k4 => k_asm); (case z2k5 => k_asm); (case z2k6 => first | exact rfl | assumption); (case z2k7 => ktr_room); (case z2k8 => ktr_units); (case z2k9 => omega); (case z2k10 => first | assumption | exact Fits.neg (by assumption) | exact Fits.of (n := 64) (PySem.intBits_le_64 (by omega) (by omega)) (by decide)); k_whole); walk_at "i0"; (try k_sweep))
  k_with "binaryOp FloorDiv int int" => (with_reducible refine floordiv_int ?z3ne ?_ (Or.inl (PyProof.noPylong_of_log2 ?z3lg)); (case z3lg => with_reducible assumption); (case z3ne => omega))
  trivial
theorem new_Pipe {w : World} {p : Program} {loose : List Str} {mean : ExcName → Option Value} {mg mb : Str → Option Value} {dp un : Nat} {gd : Option (List Code)} {cn : Str} {cs : Scope} {a : Addr} {ccd : Value} {cl : List (Str × Addr)} {outer : List Env} {A₀ : Around} {base h₀ : Heap} {L : Addr} {m : Str → Option Value} {news : List (Addr × Obj)} {s : Shared} {Q E : Value → Shared → Prop} {a0 : Str} {t0 : Tok} {a1 : Str} {t1 : Tok} {a2 : Str} {t2 : Tok} {a3 : Int} {t3 : Tok} {a4 : Addr} {a5 : Addr} {a6 : Addr} 
    (B : Below A₀ base outer h₀) (F : Fr h₀ L s.heap m) (X : (HD.K w.params).In h₀) (N : News h₀ L s.heap news) (T : Top p loose mean mg mb h₀) (hk : cs.kind = .function) (hd : dp + 4 < recursionLimit) (hu : un + 100 < cLine)
    (hret : ∀ (x d : Addr) (k0 k1 k2 k3 k4 k5 k6 k7 : Tok) (h' : Heap) (tk' : Nat), Fr h₀ L h' m → News h₀ L h' ((x, instObj 139 d) :: (d, dictOf [⟨PyData.keyHash w.params (Str.ofString "name"), .str (Str.ofString "name") k0, .str a0 t0⟩, ⟨PyData.keyHash w.params (Str.ofString "start"), .str (Str.ofString "start") k1, .str a1 t1⟩, ⟨PyData.keyHash w.params (Str.ofString "end"), .str (Str.ofString "end") k2, .str a2 t2⟩, ⟨PyData.keyHash w.params (Str.ofString "length"), .str (Str.ofString "length") k3, .int a3 t3⟩, ⟨PyData.keyHash w.params (Str.ofString "resistance"), .str (Str.ofString "resistance") k4, .ref a4⟩, ⟨PyData.keyHash w.params (Str.ofString "loss"), .str (Str.ofString "loss") k5, .ref a5⟩, ⟨PyData.keyHash w.params (Str.ofString "litres"), .str (Str.ofString "litres") k6, .ref a6⟩, ⟨PyData.keyHash w.params (Str.ofString "open"), .str (Str.ofString "open") k7, .bool true⟩] 8) :: news) → d ≠ x → (∀ p ∈ news, p.1 ≠ x) → (∀ p ∈ news, p.1 ≠ d) → Q (.ref x) { s with heap := h', toks := tk' }) :
    wpAny (model PySem.Challenge.rw_ui0509_14.row.prog w) (ktrTop dp un gd cn cs L a ccd cl outer) (call (.ref 139) [Value.str a0 t0, Value.str a1 t1, Value.str a2 t2, Value.int a3 t3, Value.ref a4, Value.ref a5, Value.ref a6]) Q E s := by
  w_top off
  revert X; k_fill; intro X
  k_dflt (refine' call_cls ?k1 ?k2 ?k3 ?k4 ?k5 ?k6 ?_; (case k1 => k_asm); (case k2 => k_asm); (case k3 => k_asm); (case k4 => k_is); (case k5 => k_is); (case k6 => k_is); k_whole; intro x0 d0 h0 F0 N0 l0 l00)
  k_dflt (refine' code_need [(x0, instObj 139 d0), (d0, dictOf [] 0)] ?k1 ?k2 ?k3 ?k4 ?k5 ?kA ?kF ?kK ?k6 ?k7 ?k8 ?k9 ?kB ?kN ?_ ?c2 ?c3 ?c4 ?c5; (case kA => exact rfl); (case kF => exact rfl); (case kK => assumption); (case k1 => k_asm); (case k2 => k_asm); (case k3 => k_asm); (case k4 => k_asm); (case k5 => k_asm); (case k6 => k_is); (case k7 => k_is); (case k8 => ktr_room); (case k9 => first | exact BindsTo.of_eq rfl | exact binds_K (by k_in) rfl (by k_is) rfl rfl rfl); (case c5 => decide); (case kB => exact locs rfl); (case kN => exact fcons (List.mem_cons_self ..) (fcons (List.mem_cons_of_mem _ (List.mem_cons_self ..)) (List.forall_mem_nil _))); (case c2 => exact rfl); (case c3 => exact rfl); (case c4 => exact rfl); k_whole; intro g' L' h' tk0 FG' F' N' B' X' T' hG'; (try dsimp only); (try k_fold))
  replace l00 := ltN l00
  k_steps
  all_goals (refine leaveN_ (by k_asm) (by k_asm) ?_; intro kF kN kR kD; dsimp only [InitBack]; refine ⟨rfl, ?_⟩; exact hret x0 d0 _ _ _ _ _ _ _ _ _ _ kF (news_cons kN (by k_mem) (news_cons kN (by k_mem) fun p hp => kR p (rest_two l0 l00 hp))) (neN (by walk_at "ne9")) (fun p hp => kD p (rest_two l0 l00 hp) _ (by k_mem : (_, instObj _ _) ∈ _)) (fun p hp => kD p (rest_two l0 l00 hp) _ (by k_mem : (_, dictOf _ _) ∈ _)))
theorem new_Consumer {w : World} {p : Program} {loose : List Str} {mean : ExcName → Option Value} {mg mb : Str → Option Value} {dp un : Nat} {gd : Option (List Code)} {cn : Str} {cs : Scope} {a : Addr} {ccd : Value} {cl : List (Str × Addr)} {outer : List Env} {A₀ : Around} {base h₀ : Heap} {L : Addr} {m : Str → Option Value} {news : List (Addr × Obj)} {s : Shared} {Q E : Value → Shared → Prop} {a0 : Str} {t0 : Tok} {a1 : Str} {t1 : Tok} {a2 : Addr} {a3 : Addr} {a4 : Addr} 
    (B : Below A₀ base outer h₀) (F : Fr h₀ L s.heap m) (X : (HD.K w.params).In h₀) (N : News h₀ L s.heap news) (T : Top p loose mean mg mb h₀) (hk : cs.kind = .function) (hd : dp + 4 < recursionLimit) (hu : un + 100 < cLine)
    (hret : ∀ (x d : Addr) (k0 k1 k2 k3 k4 : Tok) (h' : Heap) (tk' : Nat), Fr h₀ L h' m → News h₀ L h' ((x, instObj 167 d) :: (d, dictOf [⟨PyData.keyHash w.params (Str.ofString "name"), .str (Str.ofString "name") k0, .str a0 t0⟩, ⟨PyData.keyHash w.params (Str.ofString "joint"), .str (Str.ofString "joint") k1, .str a1 t1⟩, ⟨PyData.keyHash w.params (Str.ofString "demands"), .str (Str.ofString "demands") k2, .ref a2⟩, ⟨PyData.keyHash w.params (Str.ofString "drop"), .str (Str.ofString "drop") k3, .ref a3⟩, ⟨PyData.keyHash w.params (Str.ofString "least"), .str (Str.ofString "least") k4, .ref a4⟩] 5) :: news) → d ≠ x → (∀ p ∈ news, p.1 ≠ x) → (∀ p ∈ news, p.1 ≠ d) → Q (.ref x) { s with heap := h', toks := tk' }) :
    wpAny (model PySem.Challenge.rw_ui0509_14.row.prog w) (ktrTop dp un gd cn cs L a ccd cl outer) (call (.ref 167) [Value.str a0 t0, Value.str a1 t1, Value.ref a2, Value.ref a3, Value.ref a4]) Q E s := by
  w_top off
  revert X; k_fill; intro X
  k_dflt (refine' call_cls ?k1 ?k2 ?k3 ?k4 ?k5 ?k6 ?_; (case k1 => k_asm); (case k2 => k_asm); (case k3 => k_asm); (case k4 => k_is); (case k5 => k_is); (case k6 => k_is); k_whole; intro x0 d0 h0 F0 N0 l0 l00)
  k_dflt (refine' code_need [(x0, instObj 167 d0), (d0, dictOf [] 0)] ?k1 ?k2 ?k3 ?k4 ?k5 ?kA ?kF ?kK ?k6 ?k7 ?k8 ?k9 ?kB ?kN ?_ ?c2 ?c3 ?c4 ?c5; (case kA => exact rfl); (case kF => exact rfl); (case kK => assumption); (case k1 => k_asm); (case k2 => k_asm); (case k3 => k_asm); (case k4 => k_asm); (case k5 => k_asm); (case k6 => k_is); (case k7 => k_is); (case k8 => ktr_room); (case k9 => first | exact BindsTo.of_eq rfl | exact binds_K (by k_in) rfl (by k_is) rfl rfl rfl); (case c5 => decide); (case kB => exact locs rfl); (case kN => exact fcons (List.mem_cons_self ..) (fcons (List.mem_cons_of_mem _ (List.mem_cons_self ..)) (List.forall_mem_nil _))); (case c2 => exact rfl); (case c3 => exact rfl); (case c4 => exact rfl); k_whole; intro g' L' h' tk0 FG' F' N' B' X' T' hG'; (try dsimp only); (try k_fold))
  replace l00 := ltN l00
  k_steps
  all_goals (refine leaveN_ (by k_asm) (by k_asm) ?_; intro kF kN kR kD; dsimp only [InitBack]; refine ⟨rfl, ?_⟩; exact hret x0 d0 _ _ _ _ _ _ _ kF (news_cons kN (by k_mem) (news_cons kN (by k_mem) fun p hp => kR p (rest_two l0 l00 hp))) (neN (by walk_at "ne9")) (fun p hp => kD p (rest_two l0 l00 hp) _ (by k_mem : (_, instObj _ _) ∈ _)) (fun p hp => kD p (rest_two l0 l00 hp) _ (by k_mem : (_, dictOf _ _) ∈ _)))
end
section
theorem words19 : True := by
  k_with "hat9" => (first | exact News.get (by k_asm) (by k_mem) | exact Fr.keep (by k_asm) _ _ (by with_reducible assumption) | exact Tk.get (by k_asm) (by k_asm) (by with_reducible assumption) (by intro p9 hp9; first | exact hp9 | exact absurd hp9 List.not_mem_nil | (repeat (first | exact hp9 | refine List.mem_cons_of_mem _ ?_))) | exact Frag.In.keeps (by k_asm) (Fr.keep (by k_asm)) _ _ (by k_is))
  k_with "bits_by_make" => (with_reducible assumption)
  k_with "ktr_units" => ((try simp only [units_under_make, units_in1, units_deeper, Around.mark_units, units_caller]); (try dsimp only [ktrTop]); first | exact un1 (by with_reducible assumption) (Nat.le_of_ble_eq_true rfl) | exact un2 (by with_reducible assumption) (Nat.le_of_ble_eq_true rfl) | exact un3 (by with_reducible assumption) (Nat.le_of_ble_eq_true rfl) | (have hcL9 := cLine_is; omega))
  k_with "call ref" => (k_here; (with_reducible show wpAny _ _ (call (Value.ref 80) [Value.ref _]) _ _ _); k_dflt (refine' need_cz (nx := 8) ?z59k1 ?z59k2 ?z59k3 ?z59k4 ?z59k5 ?z59k6 ?z59m1 ?z59k7 ?z59k8 ?z59b1 ?z59z1 ?_; (case z59k1 => k_asm); (case z59k2 => k_asm); (case z59k3 => k_asm); (case z59k4 => k_asm); (case z59k5 => k_asm); (case z59k6 => first | exact rfl | assumption); (case z59k7 => first | exact Nat.le_of_ble_eq_true rfl | ktr_room); (case z59k8 => first | exact Nat.le_of_ble_eq_true rfl | ktr_units); (case z59m1 => exact Frag.In.keeps (by k_asm) (Fr.keep (by k_asm)) _ _ (by k_is)); (case z59b1 => decide); (case z59z1 => decide); k_whole); walk_at "i3"; (try k_sweep))
  trivial
theorem net_new {w : World} {p : Program} {loose : List Str} {mean : ExcName → Option Value} {mg mb : Str → Option Value} {dp un : Nat} {gd : Option (List Code)} {cn : Str} {cs : Scope} {a : Addr} {ccd : Value} {cl : List (Str × Addr)} {outer : List Env} {A₀ : Around} {base h₀ : Heap} {L : Addr} {m : Str → Option Value} {news : List (Addr × Obj)} {s : Shared} {Q E : Value → Shared → Prop}
    (B : Below A₀ base outer h₀) (F : Fr h₀ L s.heap m) (X : (HD.K w.params).In h₀) (N : News h₀ L s.heap news) (T : Top p loose mean mg mb h₀) (hk : cs.kind = .function) (hd : dp + 8 < recursionLimit) (hu : un + 300 < cLine)
    (hret : ∀ (x d jl pd cd bd : Addr) (k0 k1 k2 k3 k4 k5 : Tok) (gr : Value) (nj : Nat) (opd ocd obd : Obj) (h' : Heap) (tk' : Nat), Fr h₀ L h' m → News h₀ L h' ((x, instObj 298 d) :: (d, dictOf [⟨PyData.keyHash w.params (Str.ofString "ground"), .str (Str.ofString "ground") k0, gr⟩, ⟨PyData.keyHash w.params (Str.ofString "joints"), .str (Str.ofString "joints") k1, .ref jl⟩, ⟨PyData.keyHash w.params (Str.ofString "source"), .str (Str.ofString "source") k2, .none⟩, ⟨PyData.keyHash w.params (Str.ofString "pipes"), .str (Str.ofString "pipes") k3, .ref pd⟩, ⟨PyData.keyHash w.params (Str.ofString "consumers"), .str (Str.ofString "consumers") k4, .ref cd⟩, ⟨PyData.keyHash w.params (Str.ofString "bypasses"), .str (Str.ofString "bypasses") k5, .ref bd⟩] 6) :: (jl, listOf ([] : List Value).toArray nj) :: (pd, opd) :: (cd, ocd) :: (bd, obd) :: news) → (pd == sysModules) = false → opd.IsDictOf (PySem.strKind PySem.Challenge.rw_ui0509_14.row.prog w) [] → (cd == sysModules) = false → ocd.IsDictOf (PySem.strKind PySem.Challenge.rw_ui0509_14.row.prog w) [] → @LT.lt Nat _ d x → @LT.lt Nat _ x jl → @LT.lt Nat _ jl pd → @LT.lt Nat _ pd cd → @LT.lt Nat _ cd bd → (∀ p ∈ news, p.1 < d) → Q (.ref x) { s with heap := h', toks := tk' }) :
    wpAny (model PySem.Challenge.rw_ui0509_14.row.prog w) (ktrTop dp un gd cn cs L a ccd cl outer) (call (.ref 298) []) Q E s := by
  w_top off
  revert X; k_fill; intro X
  k_dflt (refine' call_cls ?k1 ?k2 ?k3 ?k4 ?k5 ?k6 ?_; (case k1 => k_asm); (case k2 => k_asm); (case k3 => k_asm); (case k4 => k_is); (case k5 => k_is); (case k6 => k_is); k_whole; intro x0 d0 h0 F0 N0 l0 l00)
  k_dflt (refine' code_need [(x0, instObj 298 d0), (d0, dictOf [] 0)] ?k1 ?k2 ?k3 ?k4 ?k5 ?kA ?kF ?kK ?k6 ?k7 ?k8 ?k9 ?kB ?kN ?_ ?c2 ?c3 ?c4 ?c5; (case kA => exact rfl); (case kF => exact rfl); (case kK => assumption); (case k1 => k_asm); (case k2 => k_asm); (case k3 => k_asm); (case k4 => k_asm); (case k5 => k_asm); (case k6 => k_is); (case k7 => k_is); (case k8 => ktr_room); (case k9 => first | exact BindsTo.of_eq rfl | exact binds_K (by k_in) rfl (by k_is) rfl rfl rfl); (case c5 => decide); (case kB => exact locs rfl); (case kN => exact fcons (List.mem_cons_self ..) (fcons (List.mem_cons_of_mem _ (List.mem_cons_self ..)) (List.forall_mem_nil _))); (case c2 => exact rfl); (case c3 => exact rfl); (case c4 => exact rfl); k_whole; intro g' L' h' tk0 FG' F' N' B' X' T' hG'; (try dsimp only); (try k_fold))
  replace l00 := ltN l00
  k_steps
  rename_i lj h8 ljl h7 h6 pd h5 oP loP hsP a1 a2 a3 lP h4 cd h3 oC loC hsC b1 b2 b3 lC h2 bd h1 oB loB hsB c1 c2 c3 lB h0 FF NN
  refine leaveN_ (by k_asm) (by k_asm) ?_
  intro kF kN kR kD
  dsimp only [InitBack]
  refine ⟨rfl, ?_⟩
  exact hret x0 d0 lj pd cd bd _ _ _ _ _ _ _ _ oP oC oB _ _ kF (news_cons kN (by k_mem) (news_cons kN (by k_mem) (news_cons kN (by k_mem) (news_cons kN (by k_mem) (news_cons kN (by k_mem) (news_cons kN (by k_mem) fun p hp => kR p (rest_two l0 l00 hp))))))) loP hsP loC hsC l00 ljl.1 lP.1 lC.1 lB.1 l0
end
section
end
section
theorem words20 : True := by
  k_with_none
  k_with "ne9" => (first | with_reducible assumption | exact Ne.symm (by with_reducible assumption) | omega)
  k_with "k_in" => (refine' in_of ?z1fF ?z1fX; (case z1fF => k_asm); (case z1fX => k_asm))
  k_with "call ref" => (k_here; (with_reducible show wpAny _ _ (call (Value.ref 64) [Value.int _ _, Value.int _ _]) _ _ _); k_dflt (refine' div_use _ _ _ _ _ _ _ _ _ _ _ _ _ _ _ _ _ _ _ _ _ _ ?z2k1 ?z2k2 ?z2k3 ?z2k4 ?z2k5 ?z2k6 ?z2k7 ?z2k8 ?z2k9 ?z2k10 ?_; (case z2k1 => k_asm); (case z2k2 => k_asm); (case z2k3 => k_asm); (case z2k4 => k_asm); (case z2k5 => k_asm); (case z2k6 => first | exact rfl | assumption); (case z2k7 => ktr_room); (case z2k8 => ktr_units); (case z2k9 => omega); (case z2k10 => first | assumption | exact Fits.neg (by assumption) | exact Fits.of (n := 64) (PySem.intBits_le_64 (by omega) (by omega)) (by decide)); k_whole); walk_at "i0"; (try k_sweep))
  k_with "binaryOp FloorDiv int int" => (with_reducible refine floordiv_int ?z3ne ?_ (Or.inl (PyProof.noPylong_of_log2 ?z3lg)); (case z3lg => with_reducible assumption); (case z3ne => omega))
  k_with "hat9" => (first | exact News.get (by k_asm) (by k_mem) | exact Fr.keep (by k_asm) _ _ (by with_reducible assumption) | exact Tk.get (by k_asm) (by k_asm) (by with_reducible assumption) (by intro p9 hp9; first | exact hp9 | exact absurd hp9 List.not_mem_nil | (repeat (first | exact hp9 | refine List.mem_cons_of_mem _ ?_))) | exact Frag.In.keeps (by k_asm) (Fr.keep (by k_asm)) _ _ (by k_is))
  k_with "bits_by_make" => (with_reducible assumption)
  k_with "ktr_units" => ((try simp only [units_under_make, units_in1, units_deeper, Around.mark_units, units_caller]); (try dsimp only [ktrTop]); first | exact un1 (by with_reducible assumption) (Nat.le_of_ble_eq_true rfl) | exact un2 (by with_reducible assumption) (Nat.le_of_ble_eq_true rfl) | exact un3 (by with_reducible assumption) (Nat.le_of_ble_eq_true rfl) | (have hcL9 := cLine_is; omega))
  trivial
theorem njoint_a {w : World} {p : Program} {loose : List Str} {mean : ExcName → Option Value} {mg mb : Str → Option Value} {dp un : Nat} {gd : Option (List Code)} {cn : Str} {cs : Scope} {a : Addr} {ccd : Value} {cl : List (Str × Addr)} {outer : List Env} {A₀ : Around} {base h₀ : Heap} {L : Addr} {m : Str → Option Value} {news : List (Addr × Obj)} {s : Shared} {Q E : Value → Shared → Prop} {x d jl pd cd bd : Addr} {k0 k1 k2 k3 k4 k5 t t1 t2 : Tok} {gr : Value} {nj : Nat}
    (B : Below A₀ base outer h₀) (F : Fr h₀ L s.heap m) (X : (HD.K w.params).In h₀) (N : News h₀ L s.heap news) (T : Top p loose mean mg mb h₀) (hk : cs.kind = .function) (hn : ∀ p ∈ [(x, instObj 298 d), (d, dictOf [⟨PyData.keyHash w.params (Str.ofString "ground"), .str (Str.ofString "ground") k0, gr⟩, ⟨PyData.keyHash w.params (Str.ofString "joints"), .str (Str.ofString "joints") k1, .ref jl⟩, ⟨PyData.keyHash w.params (Str.ofString "source"), .str (Str.ofString "source") k2, .str (Str.ofString "a") t1⟩, ⟨PyData.keyHash w.params (Str.ofString "pipes"), .str (Str.ofString "pipes") k3, .ref pd⟩, ⟨PyData.keyHash w.params (Str.ofString "consumers"), .str (Str.ofString "consumers") k4, .ref cd⟩, ⟨PyData.keyHash w.params (Str.ofString "bypasses"), .str (Str.ofString "bypasses") k5, .ref bd⟩] 6), (jl, listOf [.str (Str.ofString "a") t1, .str (Str.ofString "b") t2].toArray nj)], p ∈ news) (hd : dp + 4 < recursionLimit) (hu : un + 60 < cLine)
    (hret : ∀ (h' : Heap) (tk' : Nat), Fr h₀ L h' m → News h₀ L h' news → Q (.str (Str.ofString "a") t) { s with heap := h', toks := tk' }) :
    wpAny (model PySem.Challenge.rw_ui0509_14.row.prog w) (ktrTop dp un gd cn cs L a ccd cl outer) (call (.ref 207) [.ref x, .str (Str.ofString "a") t]) Q E s := by
  w_top off
  revert X; k_fill; intro X
  refine wpAny_call ?_
  k_dflt (refine' code_need [(x, instObj 298 d), (d, dictOf [⟨PyData.keyHash w.params (Str.ofString "ground"), .str (Str.ofString "ground") k0, gr⟩, ⟨PyData.keyHash w.params (Str.ofString "joints"), .str (Str.ofString "joints") k1, .ref jl⟩, ⟨PyData.keyHash w.params (Str.ofString "source"), .str (Str.ofString "source") k2, .str (Str.ofString "a") t1⟩, ⟨PyData.keyHash w.params (Str.ofString "pipes"), .str (Str.ofString "pipes") k3, .ref pd⟩, ⟨PyData.keyHash w.params (Str.ofString "consumers"), .str (Str.ofString "consumers") k4, .ref cd⟩, ⟨PyData.keyHash w.params (Str.ofString "bypasses"), .str (Str.ofString "bypasses") k5, .ref bd⟩] 6), (jl, listOf [.str (Str.ofString "a") t1, .str (Str.ofString "b") t2].toArray nj)] ?k1 ?k2 ?k3 ?k4 ?k5 ?kA ?kF ?kK ?k6 ?k7 ?k8 ?k9 ?kB ?kN ?_ ?c2 ?c3 ?c4 ?c5; (case kA => exact rfl); (case kF => exact rfl); (case kK => assumption); (case k1 => k_asm); (case k2 => k_asm); (case k3 => k_asm); (case k4 => k_asm); (case k5 => k_asm); (case k6 => k_is); (case k7 => k_is); (case k8 => ktr_room); (case k9 => first | exact BindsTo.of_eq rfl | exact binds_K (by k_in) rfl (by k_is) rfl rfl rfl); (case c5 => decide); (case kB => exact locs rfl); (case kN => exact hn); (case c2 => exact rfl); (case c3 => exact rfl); (case c4 => exact rfl); k_whole; intro g' L' h' tk0 FG' F' N' B' X' T' hG'; (try dsimp only); (try k_fold))
  k_steps
  all_goals (refine leaveN_ (by k_asm) (by k_asm) ?_; intro kF kN kR kD; (try dsimp only); exact hret _ _ kF (news_back N hn kN (by intro p9 hp9; first | exact hp9 | exact absurd hp9 List.not_mem_nil | (repeat (first | exact hp9 | refine List.mem_cons_of_mem _ ?_))) kR))
theorem njoint_b {w : World} {p : Program} {loose : List Str} {mean : ExcName → Option Value} {mg mb : Str → Option Value} {dp un : Nat} {gd : Option (List Code)} {cn : Str} {cs : Scope} {a : Addr} {ccd : Value} {cl : List (Str × Addr)} {outer : List Env} {A₀ : Around} {base h₀ : Heap} {L : Addr} {m : Str → Option Value} {news : List (Addr × Obj)} {s : Shared} {Q E : Value → Shared → Prop} {x d jl pd cd bd : Addr} {k0 k1 k2 k3 k4 k5 t t1 t2 : Tok} {gr : Value} {nj : Nat}
    (B : Below A₀ base outer h₀) (F : Fr h₀ L s.heap m) (X : (HD.K w.params).In h₀) (N : News h₀ L s.heap news) (T : Top p loose mean mg mb h₀) (hk : cs.kind = .function) (hn : ∀ p ∈ [(x, instObj 298 d), (d, dictOf [⟨PyData.keyHash w.params (Str.ofString "ground"), .str (Str.ofString "ground") k0, gr⟩, ⟨PyData.keyHash w.params (Str.ofString "joints"), .str (Str.ofString "joints") k1, .ref jl⟩, ⟨PyData.keyHash w.params (Str.ofString "source"), .str (Str.ofString "source") k2, .str (Str.ofString "a") t1⟩, ⟨PyData.keyHash w.params (Str.ofString "pipes"), .str (Str.ofString "pipes") k3, .ref pd⟩, ⟨PyData.keyHash w.params (Str.ofString "consumers"), .str (Str.ofString "consumers") k4, .ref cd⟩, ⟨PyData.keyHash w.params (Str.ofString "bypasses"), .str (Str.ofString "bypasses") k5, .ref bd⟩] 6), (jl, listOf [.str (Str.ofString "a") t1, .str (Str.ofString "b") t2].toArray nj)], p ∈ news) (hd : dp + 4 < recursionLimit) (hu : un + 60 < cLine)
    (hret : ∀ (h' : Heap) (tk' : Nat), Fr h₀ L h' m → News h₀ L h' news → Q (.str (Str.ofString "b") t) { s with heap := h', toks := tk' }) :
    wpAny (model PySem.Challenge.rw_ui0509_14.row.prog w) (ktrTop dp un gd cn cs L a ccd cl outer) (call (.ref 207) [.ref x, .str (Str.ofString "b") t]) Q E s := by
  w_top off
  revert X; k_fill; intro X
  refine wpAny_call ?_
  k_dflt (refine' code_need [(x, instObj 298 d), (d, dictOf [⟨PyData.keyHash w.params (Str.ofString "ground"), .str (Str.ofString "ground") k0, gr⟩, ⟨PyData.keyHash w.params (Str.ofString "joints"), .str (Str.ofString "joints") k1, .ref jl⟩, ⟨PyData.keyHash w.params (Str.ofString "source"), .str (Str.ofString "source") k2, .str (Str.ofString "a") t1⟩, ⟨PyData.keyHash w.params (Str.ofString "pipes"), .str (Str.ofString "pipes") k3, .ref pd⟩, ⟨PyData.keyHash w.params (Str.ofString "consumers"), .str (Str.ofString "consumers") k4, .ref cd⟩, ⟨PyData.keyHash w.params (Str.ofString "bypasses"), .str (Str.ofString "bypasses") k5, .ref bd⟩] 6), (jl, listOf [.str (Str.ofString "a") t1, .str (Str.ofString "b") t2].toArray nj)] ?k1 ?k2 ?k3 ?k4 ?k5 ?kA ?kF ?kK ?k6 ?k7 ?k8 ?k9 ?kB ?kN ?_ ?c2 ?c3 ?c4 ?c5; (case kA => exact rfl); (case kF => exact rfl); (case kK => assumption); (case k1 => k_asm); (case k2 => k_asm); (case k3 => k_asm); (case k4 => k_asm); (case k5 => k_asm); (case k6 => k_is); (case k7 => k_is); (case k8 => ktr_room); (case k9 => first | exact BindsTo.of_eq rfl | exact binds_K (by k_in) rfl (by k_is) rfl rfl rfl); (case c5 => decide); (case kB => exact locs rfl); (case kN => exact hn); (case c2 => exact rfl); (case c3 => exact rfl); (case c4 => exact rfl); k_whole; intro g' L' h' tk0 FG' F' N' B' X' T' hG'; (try dsimp only); (try k_fold))
  k_steps
  all_goals (refine leaveN_ (by k_asm) (by k_asm) ?_; intro kF kN kR kD; (try dsimp only); exact hret _ _ kF (news_back N hn kN (by intro p9 hp9; first | exact hp9 | exact absurd hp9 List.not_mem_nil | (repeat (first | exact hp9 | refine List.mem_cons_of_mem _ ?_))) kR))
end
local macro_rules | `(tactic| walk_at "i12") => `(tactic| (intro x' d' k0' k1' k2' k3' k4' k5' k6' k7' h' tk' F' N' nd' ax' ad'; (replace ax' := allNe_of ax'; simp only [AllNe, and_true] at ax'); (replace ad' := allNe_of ad'; simp only [AllNe, and_true] at ad')))
section
end
-- a list comprehension by an invariant (over LCg.CompRest of KE.LcTurns)
section
variable {prog : Program} {w : World} {A : Around} {s : Shared} {h₀ : Heap} {L : Addr} {m : Str → Option Value} {env : Env}
theorem comp_ind {elt : Expr} {x : Str} {scope : Scope} {cl : List (Str × Addr)} {S : List (Addr × Obj) → Prop} {Pv : Nat → Value → Prop} {Fin : List Value → List (Addr × Obj) → Prop} {n : Nat} (J : Nat → List Value → List (Addr × Obj) → Prop)
    (turn : ∀ i v I oI C oC D m₂ h tk (E' : Value → Shared → Prop) ys news, i < n → J i ys news → Pv i v → LCg.NsObj oC m₂ → m₂ x = some v → Fr h₀ L h m → News h₀ L h ((I, oI) :: (C, oC) :: (D, LCg.lst ys) :: news) → LCg.Off3 I C D news → ((@Ne Nat I C) ∧ (@Ne Nat I D) ∧ (@Ne Nat C D)) →
      wpAny (model prog w) A (eval elt (compEnvC scope cl C env)) (LCg.CompEnd h₀ L m { s with heap := h, toks := tk } I oI C oC D (LCg.lst ys) S (fun y news' => J (i + 1) (ys ++ [y]) news')) E' { s with heap := h, toks := tk })
    (fin : ∀ ys news, J n ys news → Fin ys news) :
    ∀ k i ys news, i + k = n → J i ys news → LCg.CompRest prog w A h₀ L m env elt x scope cl s S Pv Fin k i ys news := by
  intro k
  induction k with
  | zero =>
    intro i ys news hk hJ
    have : i = n := by omega
    subst this
    exact LCg.CompRest.zero (fin ys news hJ)
  | succ k ih =>
    intro i ys news hk hJ
    refine LCg.CompRest.succ fun v I oI C oC D m₂ h tk E' hP hC hx F N off ne => ?_
    refine wpAny_mono (turn i v I oI C oC D m₂ h tk E' ys news (by omega) hJ hP hC hx F N off ne) (fun y s₂ h₂ => ?_) fun _ _ e => e
    obtain ⟨h', tk', news', e, F', N', off', hS, r⟩ := h₂
    exact ⟨h', tk', news', e, F', N', off', hS, ih (i + 1) (ys ++ [y]) news' (by omega) r⟩
theorem comp_end {I C D : Addr} {s₁ : Shared} {oI oC oD : Obj} {S : List (Addr × Obj) → Prop} {rest : Value → List (Addr × Obj) → Prop} {y : Value} {h' : Heap} {tk : Nat} {all : List (Addr × Obj)}
    (F : Fr h₀ L h' m) (N : News h₀ L h' all) (news' : List (Addr × Obj)) (sub : ∀ p ∈ (I, oI) :: (C, oC) :: (D, oD) :: news', p ∈ all) (off : LCg.Off3 I C D news') (hS : S news') (r : rest y news') :
    LCg.CompEnd h₀ L m s₁ I oI C oC D oD S rest y { s₁ with heap := h', toks := tk } := LCg.CompEnd.intro F N news' sub off hS r
theorem off1_mem {D : Addr} : ∀ {l : List (Addr × Obj)}, LCg.Off1 D l → ∀ p ∈ l, p.1 ≠ D
  | [], _, _, h => nomatch h
  | _ :: _, x, p, h => by
    rcases List.mem_cons.mp h with rfl | h
    · exact x.1
    · exact off1_mem x.2 p h
end
-- the ledger as what is told
abbrev Led (led : List (Addr × Obj)) (a : Addr) (o : Obj) : Prop := (a, o) ∈ led
theorem ratR {led : List (Addr × Obj)} {D : Addr} {r : Rat} {t t' : Tok} {c : Nat} (h : (D, RatO r t t' c) ∈ led) : RatN (Led led) (.ref D) r := ⟨D, t, t', c, rfl, h⟩
theorem ledG {h₀ h : Heap} {L : Addr} {led all : List (Addr × Obj)} (N : News h₀ L h all) (hs : ∀ p ∈ led, p ∈ all) : ∀ a o, Led led a o → h.get? a = some o := fun _ _ e => N.get (hs _ e)
theorem bd64 {x : Int} (h : -(2 ^ 62) ≤ x) (h' : x < 2 ^ 62) : Bd 64 (x : Rat) := Bd.int (PySem.intBits_le_64 (by omega) (by omega)) (by decide)
theorem inL {led : List (Addr × Obj)} {D : Addr} {x : Int} {t t' : Tok} {c : Nat} (h : (D, T2 x 1 t t' c) ∈ led) : Led led D (RatO (x : Rat) t t' c) := h
theorem RatN.rd' {P : Addr → Obj → Prop} {h : Heap} {v : Value} {r : Rat} {x : Int} (hP : ∀ a o, P a o → h.get? a = some o) (y : RatN P v r) (e : r = (x : Rat)) : Rd h v (.tuple [.int x, .int 1]) := by subst e; exact y.rd hP
-- the counting of days: floors, and the readings that a count notes
def fl (r : Rat) : Int := r.num.fdiv (r.den : Int)
theorem den_pos' (r : Rat) : (0 : Rat) < ((r.den : Int) : Rat) := Rat.intCast_lt_intCast.mpr (by have := r.den_pos; omega : (0 : Int) < (r.den : Int))
theorem num_den (r : Rat) : ((r.num : Int) : Rat) = r * ((r.den : Int) : Rat) := by
  have h := Rat.num_divInt_den r
  rw [Rat.divInt_eq_div] at h
  have := den_pos' r
  have e : r * ((r.den : Int) : Rat) = ((r.num : Int) : Rat) / ((r.den : Int) : Rat) * ((r.den : Int) : Rat) := by rw [h]
  rw [e]; grind
theorem fl_spec (r : Rat) : ((fl r : Int) : Rat) ≤ r ∧ r < ((fl r : Int) : Rat) + 1 := by
  have hp := den_pos' r
  have hn := num_den r
  have hd : (0 : Int) < (r.den : Int) := by have := r.den_pos; omega
  have e : r.num.fdiv (r.den : Int) = r.num / (r.den : Int) := Int.fdiv_eq_ediv_of_nonneg _ (by omega)
  have h1 : r.num / (r.den : Int) * (r.den : Int) ≤ r.num := Int.ediv_mul_le _ (by omega)
  have h2 : r.num < (r.num / (r.den : Int) + 1) * (r.den : Int) := Int.lt_ediv_add_one_mul_self _ hd
  unfold fl
  rw [e]
  have g1 : ((r.num / (r.den : Int) * (r.den : Int) : Int) : Rat) ≤ ((r.num : Int) : Rat) := Rat.intCast_le_intCast.mpr h1
  have g2 : ((r.num : Int) : Rat) < (((r.num / (r.den : Int) + 1) * (r.den : Int) : Int) : Rat) := Rat.intCast_lt_intCast.mpr h2
  rw [Rat.intCast_mul, hn] at g1
  rw [Rat.intCast_mul, hn, Rat.intCast_add] at g2
  constructor
  · exact Rat.le_of_mul_le_mul_right g1 hp
  · exact Rat.lt_of_mul_lt_mul_right g2 (Rat.le_of_lt hp)
theorem fl_uniq {r : Rat} {n : Int} (h1 : (n : Rat) ≤ r) (h2 : r < (n : Rat) + 1) : fl r = n := by
  obtain ⟨a, b⟩ := fl_spec r
  have c1 : ((fl r : Int) : Rat) < ((n + 1 : Int) : Rat) := by rw [Rat.intCast_add]; have : ((1 : Int) : Rat) = 1 := rfl; grind
  have c2 : ((n : Int) : Rat) < ((fl r + 1 : Int) : Rat) := by rw [Rat.intCast_add]; have : ((1 : Int) : Rat) = 1 := rfl; grind
  have := Rat.intCast_lt_intCast.mp c1
  have := Rat.intCast_lt_intCast.mp c2
  omega
theorem fl_mono {r q : Rat} (h : r ≤ q) : fl r ≤ fl q := by
  obtain ⟨a, _⟩ := fl_spec r
  obtain ⟨_, b⟩ := fl_spec q
  have c1 : ((fl r : Int) : Rat) < ((fl q + 1 : Int) : Rat) := by rw [Rat.intCast_add]; have : ((1 : Int) : Rat) = 1 := rfl; grind
  have := Rat.intCast_lt_intCast.mp c1
  omega
theorem fl_add_int (r : Rat) (n : Int) : fl (r + (n : Rat)) = fl r + n := by
  obtain ⟨a, b⟩ := fl_spec r
  refine fl_uniq ?_ ?_ <;> (rw [Rat.intCast_add]; grind)
theorem fl_int (n : Int) : fl (n : Rat) = n := fl_uniq Rat.le_refl (by grind)
theorem fl_zero : fl 0 = 0 := fl_int 0
theorem fl_div {a f : Int} (hf : 0 < f) : fl ((a : Rat) / (f : Rat)) = a.fdiv f := by
  have hp : (0 : Rat) < (f : Rat) := Rat.intCast_lt_intCast.mpr (by omega : (0 : Int) < f)
  have e : a.fdiv f = a / f := Int.fdiv_eq_ediv_of_nonneg _ (by omega)
  have h1 : a / f * f ≤ a := Int.ediv_mul_le _ (by omega)
  have h2 : a < (a / f + 1) * f := Int.lt_ediv_add_one_mul_self _ hf
  have g1 : ((a / f * f : Int) : Rat) ≤ (a : Rat) := Rat.intCast_le_intCast.mpr h1
  have g2 : (a : Rat) < (((a / f + 1) * f : Int) : Rat) := Rat.intCast_lt_intCast.mpr h2
  rw [Rat.intCast_mul] at g1
  rw [Rat.intCast_mul, Rat.intCast_add] at g2
  have hq : (a : Rat) = (a : Rat) / (f : Rat) * (f : Rat) := by grind
  rw [hq] at g1 g2
  rw [e]
  exact fl_uniq (Rat.le_of_mul_le_mul_right g1 hp) (Rat.lt_of_mul_lt_mul_right g2 (Rat.le_of_lt hp))
def frc (r : Rat) : Rat := r - ((fl r : Int) : Rat)
theorem fl_unit {r : Rat} (h : 0 ≤ r) (h1 : r < 1) : fl r = 0 := fl_uniq h (by have : ((0 : Int) : Rat) = 0 := rfl; grind)
theorem frc_div (r : Rat) : Rat.divInt (r.num.fmod (r.den : Int)) (r.den : Int) = frc r := by
  have hp := den_pos' r
  have e : r.num.fmod (r.den : Int) = r.num - (r.den : Int) * r.num.fdiv (r.den : Int) := by have := Int.mul_fdiv_add_fmod r.num (r.den : Int); omega
  rw [Rat.divInt_eq_div, e, Rat.intCast_sub, Rat.intCast_mul, num_den]
  unfold frc fl
  grind
theorem fl_frc (a b : Rat) : fl (frc a + b) = fl (a + b) - fl a := by
  have e : frc a + b = a + b + ((-fl a : Int) : Rat) := by rw [Rat.intCast_neg]; unfold frc; grind
  rw [e, fl_add_int]; omega
-- a count's readings
def cRow (tu day start : Int) (re each : Rat) (i : Int) : MRow := (day + i, (start + fl (re + each * (i : Rat))).fmod tu, none)
def cRows (tu day start : Int) (re each : Rat) (n : Nat) : List MRow := (List.range n).map fun i : Nat => cRow tu day start re each (1 + (i : Int))
theorem cRows_snoc {tu day start : Int} {re each : Rat} {n : Nat} : cRows tu day start re each (n + 1) = cRows tu day start re each n ++ [cRow tu day start re each (1 + (n : Int))] := by
  unfold cRows; rw [List.range_succ, List.map_append]; rfl
theorem cRows_len {tu day start : Int} {re each : Rat} {n : Nat} : (cRows tu day start re each n).length = n := by simp [cRows]
theorem cRow_zero {tu day start : Int} {re each : Rat} (h0 : 0 ≤ start) (h1 : start < tu) (hr : 0 ≤ re) (hr1 : re < 1) : cRow tu day start re each 0 = (day, start, none) := by
  have e : re + each * ((0 : Int) : Rat) = re := by have : ((0 : Int) : Rat) = 0 := rfl; grind
  unfold cRow
  rw [e, fl_unit hr hr1, Int.fmod_eq_emod_of_nonneg _ (by omega), Int.emod_eq_of_lt (by omega) (by omega)]
  simp
theorem stepsF_app {tu : Int} {rs more : List MRow} {a : MRow} : stepsF tu (rs ++ a :: more) = stepsF tu (rs ++ [a]) ++ stepsF tu (a :: more) := by
  induction rs with
  | nil => rfl
  | cons r rs ih =>
    cases rs with
    | nil => rfl
    | cons q rs =>
      have e1 : stepsF tu (r :: q :: rs ++ a :: more) = stepOf tu r q :: stepsF tu (q :: rs ++ a :: more) := rfl
      have e2 : stepsF tu (r :: q :: rs ++ [a]) = stepOf tu r q :: stepsF tu (q :: rs ++ [a]) := rfl
      rw [e1, e2, ih]; rfl
theorem usum_app (as bs : List MStep) : usum (as ++ bs) = usum as + usum bs := by
  have h : ∀ (bs : List MStep) (x : Int), bs.foldl (fun a q => a + q.2.2) x = x + usum bs := by
    intro bs
    induction bs with
    | nil => intro x; simp [usum]
    | cons b bs ih => intro x; rw [usum, List.foldl_cons, List.foldl_cons, ih, ih (0 + _)]; omega
  rw [usum, List.foldl_append, h]; rfl
theorem diff_mod {a b s tu : Int} (h0 : 0 ≤ b - a) (h1 : b - a < tu) : ((s + b).fmod tu - (s + a).fmod tu).fmod tu = b - a := by
  have ht : 0 ≤ tu := by omega
  rw [Int.fmod_eq_emod_of_nonneg _ ht, Int.fmod_eq_emod_of_nonneg _ ht, Int.fmod_eq_emod_of_nonneg _ ht, ← Int.sub_emod, show s + b - (s + a) = b - a by omega, Int.emod_eq_of_lt h0 h1]
theorem step_c {tu day start : Int} {re each : Rat} {i : Int} (h0 : 0 ≤ each) (h1 : each ≤ ((tu - 2 : Int) : Rat)) :
    stepOf tu (cRow tu day start re each i) (cRow tu day start re each (i + 1)) = (day + i, day + (i + 1), fl (re + each * ((i + 1 : Int) : Rat)) - fl (re + each * (i : Rat))) ∧ 0 ≤ fl (re + each * ((i + 1 : Int) : Rat)) - fl (re + each * (i : Rat)) ∧ fl (re + each * ((i + 1 : Int) : Rat)) - fl (re + each * (i : Rat)) < tu := by
  have e : re + each * ((i + 1 : Int) : Rat) = re + each * (i : Rat) + each := by rw [Rat.intCast_add]; have : ((1 : Int) : Rat) = 1 := rfl; grind
  have m1 : fl (re + each * (i : Rat)) ≤ fl (re + each * ((i + 1 : Int) : Rat)) := fl_mono (by rw [e]; grind)
  have m2 : fl (re + each * ((i + 1 : Int) : Rat)) ≤ fl (re + each * (i : Rat)) + (tu - 2) := by
    rw [← fl_add_int]; exact fl_mono (by rw [e]; grind)
  refine ⟨?_, by omega, by omega⟩
  show (_, _, _) = _
  unfold startOf cRow
  dsimp only
  rw [diff_mod (by omega) (by omega)]
theorem chain_c {tu day start : Int} {re each : Rat} (h0 : 0 ≤ each) (h1 : each ≤ ((tu - 2 : Int) : Rat)) (htu : tu ≤ 1000000000000) (n : Nat) :
    usum (stepsF tu (cRow tu day start re each 0 :: cRows tu day start re each n)) = fl (re + each * ((n : Int) : Rat)) - fl (re + each * ((0 : Int) : Rat)) ∧ (∀ q ∈ stepsF tu (cRow tu day start re each 0 :: cRows tu day start re each n), InUse day (day + n) q) ∧
    ∃ rs, cRow tu day start re each 0 :: cRows tu day start re each n = rs ++ [cRow tu day start re each (n : Int)] := by
  induction n with
  | zero => exact ⟨by simp [cRows, stepsF, usum], fun q hq => by simp [cRows, stepsF] at hq, [], rfl⟩
  | succ n ih =>
    obtain ⟨e1, e2, rs, e3⟩ := ih
    obtain ⟨s1, s2, s3⟩ := step_c (tu := tu) (day := day) (start := start) (re := re) (i := (n : Int)) h0 h1
    have hn : (1 + (n : Int)) = (n : Int) + 1 := by omega
    have hc : ((n + 1 : Nat) : Int) = (n : Int) + 1 := rfl
    have eq : stepsF tu (cRow tu day start re each 0 :: cRows tu day start re each (n + 1)) = stepsF tu (cRow tu day start re each 0 :: cRows tu day start re each n) ++ [stepOf tu (cRow tu day start re each (n : Int)) (cRow tu day start re each ((n : Int) + 1))] := by
      rw [cRows_snoc, ← List.cons_append, e3, List.append_assoc, hn]
      exact stepsF_app
    rw [eq, usum_app, e1, s1]
    refine ⟨?_, ?_, cRow tu day start re each 0 :: cRows tu day start re each n, ?_⟩
    · show _ + (0 + _) = _
      rw [hc]; dsimp only; omega
    · intro q hq
      rcases List.mem_append.mp hq with hq | hq
      · have := e2 q hq
        unfold InUse at *
        omega
      · rw [List.mem_singleton.mp hq]
        unfold InUse
        dsimp only
        omega
    · rw [cRows_snoc, hn, hc]; rfl
theorem name_led {h₀ h : Heap} {L : Addr} {led : List (Addr × Obj)} (N : News h₀ L h led) : ∃ l, l = led ∧ News h₀ L h l := ⟨led, rfl, N⟩
theorem news_as {h₀ h : Heap} {L : Addr} {l all : List (Addr × Obj)} (N : News h₀ L h all) (hs : ∀ p ∈ l, p ∈ all) : ∃ l', l' = l ∧ News h₀ L h l' := ⟨l, rfl, fun p hp => N p (hs p hp)⟩
theorem sub_mid3 {a b c t1 t2 q : Addr × Obj} {LE tl : List (Addr × Obj)} : ∀ p ∈ a :: b :: c :: (LE ++ q :: tl), p ∈ q :: t1 :: t2 :: a :: b :: c :: (LE ++ tl) := by
  intro p hp
  simp only [List.mem_cons, List.mem_append] at hp ⊢
  rcases hp with h | h | h | h | h | h <;> simp [h]
theorem sub_le3 {a b c t1 t2 : Addr × Obj} {LE tl : List (Addr × Obj)} : ∀ p ∈ LE, p ∈ t1 :: t2 :: a :: b :: c :: (LE ++ tl) := by
  intro p hp
  simp only [List.mem_cons, List.mem_append]
  simp [hp]
theorem five {I c : Nat} {oa ob oc od oe : Obj} {r : List (Addr × Obj)} (h : c < I) (hr : ∀ p ∈ r, p.1 ≠ c) : ∀ p ∈ ((I + 4, oa) :: (I + 2, ob) :: (I + 3, oc) :: (I, od) :: (I + 1, oe) :: r : List (Addr × Obj)), p.1 ≠ c :=
  fcons ((ktu_ne 4 h).symm) (fcons ((ktu_ne 2 h).symm) (fcons ((ktu_ne 3 h).symm) (fcons ((Nat.ne_of_lt h).symm) (fcons ((ktu_ne 1 h).symm) hr))))
theorem All2.unsnoc9 {α β : Type} {R : α → β → Prop} {vs : List α} {bs : List β} {b : β} (h : All2 R vs (bs ++ [b])) : ∃ vs' v, vs = vs' ++ [v] ∧ All2 R vs' bs ∧ R v b := by
  have h' := h.reverse
  rw [List.reverse_append] at h'
  cases hv : vs.reverse with
  | nil => rw [hv] at h'; have := h'.length; simp at this
  | cons v r =>
    rw [hv] at h'
    cases h' with
    | cons h1 h2 =>
      refine ⟨r.reverse, v, ?_, ?_, h1⟩
      · have := congrArg List.reverse hv; simpa using this
      · have := h2.reverse; simpa using this
theorem range_last {α : Type} {f : Nat → α} {n : Nat} (h : 0 < n) : (List.range n).map f = (List.range (n - 1)).map f ++ [f (n - 1)] := by
  obtain ⟨k, rfl⟩ : ∃ k, n = k + 1 := ⟨n - 1, by omega⟩
  rw [Nat.add_sub_cancel, List.range_succ, List.map_append]; rfl
theorem last_le {vs : List Value} {v : Value} : -((vs ++ [v]).length : Int) ≤ -1 := by rw [List.length_append]; simp; omega
theorem len_b {vs : List Value} {a : Value} (h : vs.length ≤ 1000) : (vs ++ [a]).length < 1000000 := by simp; omega
inductive Mark8 : Prop where
  | mk : Mark8
theorem bd_log {n : Nat} {r : Rat} (h : Bd n r) (hn : n ≤ 6643) : ((r.den : Int)).natAbs.log2 < 9000 := Fits.log (h.fits hn).2 r.den_pos (by omega)
theorem den_posI {r : Rat} : (0 : Int) < (r.den : Int) := by have := r.den_pos; omega
theorem unr_endL {h₀ h' : Heap} {L : Addr} {its : List (Addr × Obj)} {rest : (Str → Option Value) → List (Addr × Obj) → Prop} {s₁ : Shared} {tk : Nat} {m' : Str → Option Value} {all : List (Addr × Obj)} (news' : List (Addr × Obj)) (F : Fr h₀ L h' m') (N : News h₀ L h' all)
    (hI : ∀ p ∈ its, p ∈ all) (hs : ∀ p ∈ news', p ∈ all) (hne : ∀ p ∈ news', ∀ q ∈ its, p.1 ≠ q.1) (r : rest m' news') : UnrEndW h₀ L s₁ its rest { s₁ with heap := h', toks := tk } :=
  ⟨h', tk, m', news', rfl, F, fun p hp => by
    rcases List.mem_append.mp hp with hp | hp
    · exact N p (hI p hp)
    · exact N p (hs p hp), hne, r⟩
theorem its5 {I a : Nat} {oa ob oc od oe : Obj} (h : a < I) : ∀ q ∈ ([(I + 4, oa), (I + 2, ob), (I + 3, oc), (I, od), (I + 1, oe)] : List (Addr × Obj)), a ≠ q.1 :=
  fcons (ktu_ne 4 h) (fcons (ktu_ne 2 h) (fcons (ktu_ne 3 h) (fcons (Nat.ne_of_lt h) (fcons (ktu_ne 1 h) (List.forall_mem_nil _)))))
theorem allLt_lt {d : Nat} : ∀ {l : List (Addr × Obj)}, AllLt d l → ∀ p ∈ l, @LT.lt Nat _ p.1 d
  | [], _, _, h => nomatch h
  | _ :: _, x, p, h => by
    rcases List.mem_cons.mp h with rfl | h
    · exact x.1
    · exact allLt_lt x.2 p h
theorem inR7 {R all : List (Addr × Obj)} {p : Addr × Obj} (hs : ∀ p ∈ R, p ∈ all) (h : p ∈ R) : p ∈ all := hs p h
theorem sub_two {A B all : List (Addr × Obj)} (h1 : ∀ p ∈ A, p ∈ all) (h2 : ∀ p ∈ B, p ∈ all) : ∀ p ∈ A ++ B, p ∈ all := fun p hp => (List.mem_append.mp hp).elim (h1 p) (h2 p)
theorem cons_p {P : Addr × Obj → Prop} {a : Addr × Obj} {l : List (Addr × Obj)} (h : P a) (hl : ∀ q ∈ l, P q) : ∀ q ∈ a :: l, P q := fcons h hl
theorem nt_sub {a b c e f g t : Addr × Obj} {A B : List (Addr × Obj)} : ∀ p ∈ t :: B, p ∈ a :: b :: c :: e :: f :: g :: t :: (A ++ B) := by
  intro p hp
  rcases List.mem_cons.mp hp with rfl | hp
  · simp
  · simp [hp]
theorem nt_left {a b c e f g t : Addr × Obj} {A B : List (Addr × Obj)} : ∀ p ∈ A, p ∈ a :: b :: c :: e :: f :: g :: t :: (A ++ B) := by
  intro p hp
  simp [hp]
theorem news_cnt {h₀ h h' : Heap} {L d l : Addr} {od ol : Obj} {rest need full : List (Addr × Obj)} (N : News h₀ L h ((d, od) :: (l, ol) :: rest)) (hdr : ∀ p ∈ rest, p.1 ≠ d) (hlr : ∀ p ∈ rest, p.1 ≠ l) (kN : News h₀ L h' full)
    (hn : ∀ p ∈ need, p.1 = d ∨ p.1 = l ∨ (p ∈ rest ∧ p ∈ full)) (kR : News h₀ L h' (restOf ((d, od) :: (l, ol) :: rest) need)) : News h₀ L h' rest := by
  intro p hp
  by_cases q : p.1 ∈ need.map (·.1)
  · obtain ⟨p', hp', e⟩ := List.mem_map.mp q
    rcases hn p' hp' with h1 | h1 | ⟨h1, h2⟩
    · exact absurd (e.symm.trans h1) (hdr p hp)
    · exact absurd (e.symm.trans h1) (hlr p hp)
    · have e1 := (N p' (List.mem_cons_of_mem _ (List.mem_cons_of_mem _ h1))).1
      have e2 := (N p (List.mem_cons_of_mem _ (List.mem_cons_of_mem _ hp))).1
      rw [e, e2] at e1
      have : p = p' := Prod.ext e.symm (Option.some.inj e1)
      rw [this]
      exact kN _ h2
  · exact kR p (mem_rest (List.mem_cons_of_mem _ (List.mem_cons_of_mem _ hp)) q)
theorem ne_cnt {d l : Addr} {od ol : Obj} {rest need : List (Addr × Obj)} {q : Addr × Obj} (hdr : ∀ p ∈ rest, p.1 ≠ d) (hlr : ∀ p ∈ rest, p.1 ≠ l) (hn : ∀ p ∈ need, p.1 = d ∨ p.1 = l ∨ p.1 ≠ q.1)
    (kD : ∀ p ∈ restOf ((d, od) :: (l, ol) :: rest) need, p.1 ≠ q.1) : ∀ p ∈ rest, p.1 ≠ q.1 := by
  intro p hp
  by_cases h : p.1 ∈ need.map (·.1)
  · obtain ⟨p', hp', e⟩ := List.mem_map.mp h
    rcases hn p' hp' with h1 | h1 | h1
    · exact absurd (e.symm.trans h1) (hdr p hp)
    · exact absurd (e.symm.trans h1) (hlr p hp)
    · rw [← e]; exact h1
  · exact kD p (mem_rest (List.mem_cons_of_mem _ (List.mem_cons_of_mem _ hp)) h)
theorem fm_bits {n : Nat} {r : Rat} {v : Int} (h : Bd n r) (h0 : 0 ≤ v) (h1 : v < (r.den : Int)) : Builtin.Int.intBits v ≤ n := by
  refine PyProof.Rows.intBits_le ?_
  have h2 := natAbs_lt_pow_bits (r.den : Int)
  have h3 : (2 : Nat) ^ Builtin.Int.intBits (r.den : Int) ≤ 2 ^ n := Nat.pow_le_pow_right (by decide) h.den
  omega
theorem sub_ins {R tl all : List (Addr × Obj)} {q : Addr × Obj} (h1 : ∀ p ∈ R ++ tl, p ∈ all) (h2 : q ∈ all) : ∀ p ∈ R ++ q :: tl, p ∈ all := by
  intro p hp
  rcases List.mem_append.mp hp with h | h
  · exact h1 p (List.mem_append_left _ h)
  · rcases List.mem_cons.mp h with rfl | h
    · exact h2
    · exact h1 p (List.mem_append_right _ h)
theorem app_one {R : List (Addr × Obj)} {q : Addr × Obj} {P : Addr × Obj → Prop} (h1 : ∀ p ∈ R, P p) (h2 : P q) : ∀ p ∈ R ++ [q], P p := by
  intro p hp
  rcases List.mem_append.mp hp with h | h
  · exact h1 p h
  · rw [List.mem_singleton.mp h]; exact h2
theorem app_ins {R tl : List (Addr × Obj)} {q : Addr × Obj} {P : Addr × Obj → Prop} (h1 : ∀ p ∈ R ++ tl, P p) (h2 : P q) : ∀ p ∈ R ++ q :: tl, P p := by
  intro p hp
  rcases List.mem_append.mp hp with h | h
  · exact h1 p (List.mem_append_left _ h)
  · rcases List.mem_cons.mp h with rfl | h
    · exact h2
    · exact h1 p (List.mem_append_right _ h)
theorem drop1 {a b : Addr × Obj} {r : List (Addr × Obj)} : ∀ p ∈ a :: r, p ∈ a :: b :: r := by
  intro p hp
  rcases List.mem_cons.mp hp with rfl | hp
  · exact List.mem_cons_self ..
  · exact List.mem_cons_of_mem _ (List.mem_cons_of_mem _ hp)
theorem off3_mid {I C D : Addr} {LE tl : List (Addr × Obj)} {q : Addr × Obj} (off : LCg.Off3 I C D (LE ++ tl)) (h1 : q.1 ≠ I) (h2 : q.1 ≠ C) (h3 : q.1 ≠ D) : LCg.Off3 I C D (LE ++ q :: tl) := LCg.Off3.of fun p hp => by
  rcases List.mem_append.mp hp with h | h
  · exact off.mem p (List.mem_append_left _ h)
  · rcases List.mem_cons.mp h with rfl | h
    · exact ⟨h1, h2, h3⟩
    · exact off.mem p (List.mem_append_right _ h)
-- count_days
theorem apLt {d : Nat} {l : List (Addr × Obj)} {a : Addr} {o : Obj} (h : AllLt d l) (hm : (a, o) ∈ l) : @Ne Nat a d := allLt_mem h _ hm
theorem apL {d : Nat} {l : List (Addr × Obj)} {a : Addr} {o : Obj} (h : AllNe d l) (hm : (a, o) ∈ l) : @Ne Nat a d := allNe_mem h _ hm
theorem ltK {d : Nat} {l : List (Addr × Obj)} {a : Addr} {o : Obj} (h : AllLt d l) (hm : (a, o) ∈ l) : @LT.lt Nat _ a d := allLt_lt h _ hm
inductive Mark1 : Prop where
  | mk : Mark1
theorem allLt_succ {d : Nat} : ∀ {l : List (Addr × Obj)}, AllLt d l → AllLt (d + 1) l
  | [], _ => trivial
  | _ :: _, x => ⟨Nat.lt_succ_of_lt x.1, allLt_succ x.2⟩
local macro_rules | `(tactic| walk_at "i13") => `(tactic| (intro D' t' u' c' h' tk' bD' F' N' l1; (try (replace l1 := allNe_of l1))))
local macro_rules | `(tactic| walk_at "i14") => `(tactic| ((rename Mark8 => mk8); k_here; (with_reducible refine mod_gen ?mp ?_); (case mp => first | decide | assumption); intro v' v0' v1' vE'))
local macro_rules | `(tactic| walk_at "i15") => `(tactic| ((rename Mark8 => mk8)))
local macro_rules | `(tactic| walk_at "i16") => `(tactic| ((rename Mark1 => mk1)))
section
local macro_rules | `(tactic| k_lt $h:ident) => `(tactic| replace $h:ident := allLt_of $h)
theorem words21 : True := by
  k_with_none
  k_with "ne9" => (first | with_reducible assumption | exact Ne.symm (by with_reducible assumption) | omega)
  k_with "k_in" => (refine' in_of ?z1fF ?z1fX; (case z1fF => k_asm); (case z1fX => k_asm))
  k_with "call ref" => (k_here; (with_reducible show wpAny _ _ (call (Value.ref 64) [Value.int _ _, Value.int _ _]) _ _ _); k_dflt (refine' div_use _ _ _ _ _ _ _ _ _ _ _ _ _ _ _ _ _ _ _ _ _ _ ?z2k1 ?z2k2 ?z2k3 ?z2k4 ?z2k5 ?z2k6 ?z2k7 ?z2k8 ?z2k9 ?z2k10 ?_; (case z2k1 => k_asm); (case z2k2 => k_asm); (case z2k3 => k_asm); (case z2k4 => k_asm); (case z2k5 => k_asm); (case z2k6 => first | exact rfl | assumption); (case z2k7 => ktr_room); (case z2k8 => ktr_units); (case z2k9 => omega); (case z2k10 => first | assumption | exact Fits.neg (by assumption) | exact Fits.of (n := 64) (PySem.intBits_le_64 (by omega) (by omega)) (by decide)); k_whole); walk_at "i0"; (try k_sweep))
  k_with "binaryOp FloorDiv int int" => (with_reducible refine floordiv_int ?z3ne ?_ (Or.inl (PyProof.noPylong_of_log2 ?z3lg)); (case z3lg => with_reducible assumption); (case z3ne => omega))
  k_with "hat9" => (first | exact News.get (by k_asm) (by k_mem) | exact Fr.keep (by k_asm) _ _ (by with_reducible assumption) | exact Tk.get (by k_asm) (by k_asm) (by with_reducible assumption) (by intro p9 hp9; first | exact hp9 | exact absurd hp9 List.not_mem_nil | (repeat (first | exact hp9 | refine List.mem_cons_of_mem _ ?_))) | exact Frag.In.keeps (by k_asm) (Fr.keep (by k_asm)) _ _ (by k_is))
  k_with "ktr_units" => ((try simp only [units_under_make, units_in1, units_deeper, Around.mark_units, units_caller]); (try dsimp only [ktrTop]); first | exact un1 (by with_reducible assumption) (Nat.le_of_ble_eq_true rfl) | exact un2 (by with_reducible assumption) (Nat.le_of_ble_eq_true rfl) | exact un3 (by with_reducible assumption) (Nat.le_of_ble_eq_true rfl) | (have hcL9 := cLine_is; omega))
  k_with "call ref" => (k_here; (with_reducible show wpAny _ _ (call (Value.ref 101) [Value.ref _, Value.ref _]) _ _ _); k_dflt (refine' over_r ?z71k1 ?z71k2 ?z71k3 ?z71k4 ?z71k5 ?z71k6 ?z71m1 ?z71m2 ?z71k7 ?z71k8 ?z71b1 ?z71b2 ?z71hz ?z71hb ?_; (case z71k1 => k_asm); (case z71k2 => k_asm); (case z71k3 => k_asm); (case z71k4 => k_asm); (case z71k5 => k_asm); (case z71k6 => first | exact rfl | assumption); (case z71k7 => first | exact Nat.le_of_ble_eq_true rfl | ktr_room); (case z71k8 => first | exact Nat.le_of_ble_eq_true rfl | ktr_units); (case z71m1 => (walk_at "hat9")); (case z71m2 => (walk_at "hat9")); (case z71b1 => with_reducible assumption); (case z71b2 => with_reducible assumption); (case z71hb => first | assumption | omega | decide); (case z71hz => first | assumption | grind); k_whole); walk_at "i13"; (try k_sweep))
  k_with "call ref" => (k_here; (with_reducible show wpAny _ _ (call (Value.ref 87) [Value.ref _, Value.ref _]) _ _ _); k_dflt (refine' plus_r ?z72k1 ?z72k2 ?z72k3 ?z72k4 ?z72k5 ?z72k6 ?z72m1 ?z72m2 ?z72k7 ?z72k8 ?z72b1 ?z72b2 ?z72hb ?_; (case z72k1 => k_asm); (case z72k2 => k_asm); (case z72k3 => k_asm); (case z72k4 => k_asm); (case z72k5 => k_asm); (case z72k6 => first | exact rfl | assumption); (case z72k7 => first | exact Nat.le_of_ble_eq_true rfl | ktr_room); (case z72k8 => first | exact Nat.le_of_ble_eq_true rfl | ktr_units); (case z72m1 => (walk_at "hat9")); (case z72m2 => (walk_at "hat9")); (case z72b1 => with_reducible assumption); (case z72b2 => with_reducible assumption); (case z72hb => first | assumption | omega | decide); k_whole); walk_at "i13"; (try k_sweep))
  k_with "call ref" => (k_here; (with_reducible show wpAny _ _ (call (Value.ref 94) [Value.ref _, Value.ref _]) _ _ _); k_dflt (refine' times_r ?z73k1 ?z73k2 ?z73k3 ?z73k4 ?z73k5 ?z73k6 ?z73m1 ?z73m2 ?z73k7 ?z73k8 ?z73b1 ?z73b2 ?z73hb ?_; (case z73k1 => k_asm); (case z73k2 => k_asm); (case z73k3 => k_asm); (case z73k4 => k_asm); (case z73k5 => k_asm); (case z73k6 => first | exact rfl | assumption); (case z73k7 => first | exact Nat.le_of_ble_eq_true rfl | ktr_room); (case z73k8 => first | exact Nat.le_of_ble_eq_true rfl | ktr_units); (case z73m1 => (walk_at "hat9")); (case z73m2 => (walk_at "hat9")); (case z73b1 => with_reducible assumption); (case z73b2 => with_reducible assumption); (case z73hb => first | assumption | omega | decide); k_whole); walk_at "i13"; (try k_sweep))
  k_with "k_ne" => (refine neN ?_; (try dsimp only); first | with_reducible assumption | exact Ne.symm (by with_reducible assumption) | exact apL (by with_reducible assumption) (by k_mem) | exact (apL (by with_reducible assumption) (by k_mem)).symm | exact apLt (by with_reducible assumption) (by k_mem) | exact (apLt (by with_reducible assumption) (by k_mem)).symm)
  k_with "k_all" => (first | with_reducible assumption | exact List.forall_mem_nil _ | (refine fcons (?_) (?_) <;> first | k_ne | k_all) | exact allLt_mem (by with_reducible assumption))
  k_with "bits_by_make" => (with_reducible assumption)
  k_with "ktr_units" => ((try simp only [units_under_make, units_in1, units_deeper, Around.mark_units, units_caller]); (try dsimp only [ktrTop]); first | exact un1 (by with_reducible assumption) (Nat.le_of_ble_eq_true rfl) | exact un2 (by with_reducible assumption) (Nat.le_of_ble_eq_true rfl) | exact un3 (by with_reducible assumption) (Nat.le_of_ble_eq_true rfl) | (have hcL9 := cLine_is; omega))
  k_with "call ref" => (k_here; (with_reducible show wpAny _ _ (call (Value.ref 72) [Value.int _ _, Value.int _ _]) _ _ _); k_dflt (refine' frac_use ?z74k1 ?z74k2 ?z74k3 ?z74k4 ?z74k5 ?z74k6 ?z74k7 ?z74k8 ?z74k9 ?z74k10 ?z74k11 ?z74k12 ?z74k13 ?_; (case z74k1 => k_asm); (case z74k2 => k_asm); (case z74k3 => k_asm); (case z74k4 => k_asm); (case z74k5 => k_asm); (case z74k6 => first | exact rfl | assumption); (case z74k7 => first | exact Nat.le_of_ble_eq_true rfl | ktr_room); (case z74k8 => first | exact Nat.le_of_ble_eq_true rfl | ktr_units); (case z74k10 => bits_by_make); (case z74k11 => bits_by_make); (case z74k12 => decide); (case z74k13 => decide); (case z74k9 => first | exact nzden _ | omega | ((try k_fmods); omega) | (refine nzmul ?_ ?_ <;> first | exact nzden _ | omega)); k_whole); walk_at "i10"; (try k_sweep))
  k_with "call ref" => (k_here; (with_reducible show wpAny _ _ (call (Value.ref 72) [Value.int _ _, Value.int 1 _]) _ _ _); k_dflt (refine' frac_one ?z75k1 ?z75k2 ?z75k3 ?z75k4 ?z75k5 ?z75k6 ?z75k7 ?z75k8 ?z75k10 ?z75k12 ?_; (case z75k1 => k_asm); (case z75k2 => k_asm); (case z75k3 => k_asm); (case z75k4 => k_asm); (case z75k5 => k_asm); (case z75k6 => first | exact rfl | assumption); (case z75k7 => first | exact Nat.le_of_ble_eq_true rfl | ktr_room); (case z75k8 => first | exact Nat.le_of_ble_eq_true rfl | ktr_units); (case z75k10 => bits_by_make); (case z75k12 => decide); k_whole); walk_at "i11"; (try k_sweep))
  k_with "call ref" => (k_here; (with_reducible show wpAny _ _ (call (Value.ref 72) [Value.int _ _]) _ _ _); k_dflt (refine' frac_dflt ?z76k1 ?z76k2 ?z76k3 ?z76k4 ?z76k5 ?z76k6 ?z76k7 ?z76k8 ?z76k10 ?z76k12 ?_; (case z76k1 => k_asm); (case z76k2 => k_asm); (case z76k3 => k_asm); (case z76k4 => k_asm); (case z76k5 => k_asm); (case z76k6 => first | exact rfl | assumption); (case z76k7 => first | exact Nat.le_of_ble_eq_true rfl | ktr_room); (case z76k8 => first | exact Nat.le_of_ble_eq_true rfl | ktr_units); (case z76k10 => bits_by_make); (case z76k12 => decide); k_whole); walk_at "i11"; (try k_sweep))
  k_with "eval ListComp" => (k_here; lcg_look; k_dflt (refine LCg.ListComp_U (F₀ := by k_asm) (by rfl) (by decide) (by rfl) (by decide) (by rfl) ?_); k_dflt lcg_toSrc)
  k_with "eval ListComp" => (k_here; lcf_look; k_dflt (refine LCg.ListComp_U (F₀ := by k_asm) (by with_unfolding_all rfl) (by decide) (by rfl) (by decide) (by rfl) ?_); k_dflt lcg_toSrc)
  k_with "exec Assign cons ListComp" => (k_here; lcg_look; k_dflt (refine LCg.Assign_ListComp_U (F₀ := by k_asm) (by rfl) (by with_unfolding_all rfl) (by rfl) (by decide) (by rfl) (by decide) (by rfl) (by rfl) (by rfl) ?_); k_dflt lcg_toSrc)
  k_with "exec Assign cons ListComp" => (k_here; lcf_look; k_dflt (refine LCg.Assign_ListComp_U (F₀ := by k_asm) (by rfl) (by with_unfolding_all rfl) (by with_unfolding_all rfl) (by decide) (by rfl) (by decide) (by rfl) (by rfl) (by rfl) ?_); k_dflt lcg_toSrc)
  k_with "CompSrc" => (refine Hold.out ?_)
  k_with "CompEnd" => (show LCg.CompEnd _ _ _ _ _ _ _ _ _ _ _ _ _ _; refine Hold.out ?_)
  k_with "call ref" => (k_here; (with_reducible show wpAny _ _ (call (Value.ref 41) [Value.int _ _, Value.int _ _, Value.int _ _, Value.str _ _]) _ _ _); k_dflt (refine' need_number_c ?z77k1 ?z77k2 ?z77k3 ?z77k4 ?z77k5 ?z77k6 ?z77h1 ?z77h2 ?z77k7 ?_; (case z77k1 => k_asm); (case z77k2 => k_asm); (case z77k3 => k_asm); (case z77k4 => k_asm); (case z77k5 => k_asm); (case z77k6 => first | exact rfl | assumption); (case z77k7 => first | exact Nat.le_of_ble_eq_true rfl | ktr_room); (case z77h1 => first | decide | assumption | omega); (case z77h2 => first | decide | assumption | omega); k_whole); walk_at "i3"; (try k_sweep))
  k_with "subscriptTail" => (k_here; (with_reducible show wpAny _ _ (subscriptTail _ _ (Value.ref _) (Value.int _ _)) _ _ _); k_dflt (refine' kim_back ?z78k1 ?z78k2 ?z78k3 ?z78k4 ?z78k5 ?z78k6 ?z78k7 ?z78k8 ?_ ?z78k9 ?z78k10; (case z78k1 => k_asm); (case z78k2 => k_mem); (case z78k3 => exact rfl); (case z78k4 => exact rfl); (case z78k5 => decide); (case z78k6 => exact last_le); (case z78k7 => decide); (case z78k8 => exact last_at); (case z78k9 => with_unfolding_all rfl); (case z78k10 => (intro _; with_unfolding_all rfl)); k_whole))
  k_with "subscriptTail Name UnaryOp ref int" => (k_here; (with_reducible show wpAny _ _ (subscriptTail _ _ (Value.ref _) (Value.int _ _)) _ _ _); k_dflt (refine' kim_back ?z79k1 ?z79k2 ?z79k3 ?z79k4 ?z79k5 ?z79k6 ?z79k7 ?z79k8 ?_ ?z79k9 ?z79k10; (case z79k1 => k_asm); (case z79k2 => k_mem); (case z79k3 => exact rfl); (case z79k4 => exact rfl); (case z79k5 => decide); (case z79k6 => exact last_le); (case z79k7 => decide); (case z79k8 => exact last_at); (case z79k9 => with_unfolding_all rfl); (case z79k10 => (intro _; with_unfolding_all rfl)); k_whole))
  k_with "subscriptTail Attribute" => (k_here; (with_reducible show wpAny _ _ (subscriptTail _ _ (Value.ref _) (Value.int _ _)) _ _ _); k_dflt (refine kba_turn (value' := PySem.Expr.Name (PySem.Str.ofString "_") ⟨0, 0, 0, 0⟩) (fun _ => rfl) ?_))
  k_with "subscriptTail Subscript" => (k_here; (with_reducible show wpAny _ _ (subscriptTail _ _ (Value.ref _) (Value.int _ _)) _ _ _); k_dflt (refine kba_turn (value' := PySem.Expr.Name (PySem.Str.ofString "_") ⟨0, 0, 0, 0⟩) (fun _ => rfl) ?_))
  k_with "call builtin:len" => (k_here; (with_reducible show wpAny _ _ (call (Value.builtin "len") [Value.ref _]) _ _ _); k_dflt (refine' lst_len ?z80k1 ?z80k2 ?z80k3 ?_; (case z80k1 => k_asm); (case z80k2 => k_mem); (case z80k3 => first | exact len_b (by with_reducible assumption) | exact (by decide : ([] : List Value).length < 1000000) | omega); k_whole); walk_at "i7"; (try simp only [List.length_append, List.length_cons, List.length_nil]))
  k_with "call ref" => (k_here; (with_reducible show wpAny _ _ (call (Value.ref 309) _ _) _ _ _); refine Hold.out ?_)
  k_with "call ref" => (k_here; (with_reducible show wpAny _ _ (call (Value.ref 108) _ _) _ _ _); refine Hold.out ?_)
  k_with "call ref" => (k_here; (with_reducible show wpAny _ _ (call (Value.ref 94) _ _) _ _ _); refine Hold.out ?_)
  k_with "call ref" => (k_here; (with_reducible show wpAny _ _ (call (Value.ref 336) _ _) _ _ _); refine Hold.out ?_)
  k_with "subscriptTail" => (k_here; (with_reducible show wpAny _ _ (subscriptTail _ _ (Value.ref _) (Value.int _ _)) _ _ _); k_dflt (refine' tup_g ?z81k1 ?z81k2 ?z81k3 ?z81k4 ?z81k5 ?z81k6 ?z81k7 ?z81k8 ?_ ?z81k9 ?z81k10; (case z81k1 => k_asm); (case z81k2 => with_reducible assumption); (case z81k3 => exact rfl); (case z81k4 => exact rfl); (case z81k5 => decide); (case z81k6 => decide); (case z81k7 => exact rfl); (case z81k8 => exact rfl); (case z81k9 => with_unfolding_all rfl); (case z81k10 => (intro _; with_unfolding_all rfl)); k_whole))
  k_with "subscriptTail Name Constant ref int" => (k_here; (with_reducible show wpAny _ _ (subscriptTail _ _ (Value.ref _) (Value.int _ _)) _ _ _); k_dflt (refine' tup_g ?z82k1 ?z82k2 ?z82k3 ?z82k4 ?z82k5 ?z82k6 ?z82k7 ?z82k8 ?_ ?z82k9 ?z82k10; (case z82k1 => k_asm); (case z82k2 => with_reducible assumption); (case z82k3 => exact rfl); (case z82k4 => exact rfl); (case z82k5 => decide); (case z82k6 => decide); (case z82k7 => exact rfl); (case z82k8 => exact rfl); (case z82k9 => with_unfolding_all rfl); (case z82k10 => (intro _; with_unfolding_all rfl)); k_whole))
  k_with "exec For Name Call cons nil" => (refine Hold.out ?_)
  k_with "binaryOp Mod int int" => (walk_at "i14")
  k_with "subscriptTail" => (walk_at "i15"; k_here; (with_reducible show wpAny _ _ (subscriptTail _ _ (Value.ref _) (Value.int _ _)) _ _ _); k_dflt (refine' kim_list ?z83k1 ?z83k2 ?z83k3 ?z83k4 ?z83k5 ?z83k6 ?z83k7 ?_ ?z83k8 ?z83k9; (case z83k1 => k_asm); (case z83k2 => k_mem); (case z83k3 => exact rfl); (case z83k4 => exact rfl); (case z83k5 => with_reducible assumption); (case z83k6 => with_reducible assumption); (case z83k7 => with_reducible assumption); (case z83k8 => with_unfolding_all rfl); (case z83k9 => (intro _; with_unfolding_all rfl)); k_whole))
  k_with "subscriptTail Name BinOp ref int" => (walk_at "i15"; k_here; (with_reducible show wpAny _ _ (subscriptTail _ _ (Value.ref _) (Value.int _ _)) _ _ _); k_dflt (refine' kim_list ?z84k1 ?z84k2 ?z84k3 ?z84k4 ?z84k5 ?z84k6 ?z84k7 ?_ ?z84k8 ?z84k9; (case z84k1 => k_asm); (case z84k2 => k_mem); (case z84k3 => exact rfl); (case z84k4 => exact rfl); (case z84k5 => with_reducible assumption); (case z84k6 => with_reducible assumption); (case z84k7 => with_reducible assumption); (case z84k8 => with_unfolding_all rfl); (case z84k9 => (intro _; with_unfolding_all rfl)); k_whole))
  k_with "subscriptTail" => (walk_at "i15"; k_here; (with_reducible show wpAny _ _ (subscriptTail _ _ (Value.ref _) (Value.int _ _)) _ _ _); k_dflt (refine' tup_t ?z85k1 ?z85k0 ?z85k2 ?z85kS ?z85k3 ?z85k4 ?z85k5 ?z85k6 ?z85k7 ?z85k8 ?_ ?z85k9 ?z85k10; (case z85k1 => k_asm); (case z85k0 => k_asm); (case z85k2 => with_reducible assumption); (case z85kS => exact (by intro p9 hp9; first | ((repeat (first | exact hp9 | exact List.mem_append_left _ hp9 | exact List.mem_append_right _ hp9 | refine List.mem_cons_of_mem _ ?_)); done) | (simp only [List.mem_cons, List.mem_append]; simp only [hp9, true_or, or_true]))); (case z85k3 => exact rfl); (case z85k4 => exact rfl); (case z85k5 => decide); (case z85k6 => decide); (case z85k7 => exact rfl); (case z85k8 => exact rfl); (case z85k9 => with_unfolding_all rfl); (case z85k10 => (intro _; with_unfolding_all rfl)); k_whole))
  k_with "binaryOp FloorDiv int int" => (walk_at "i15"; with_reducible refine floordiv_int ?z86ne ?_ (Or.inl (PyProof.noPylong_of_log2 ?z86lg)); (case z86lg => with_reducible assumption); (case z86ne => with_reducible assumption))
  k_with "eval Name" => (walk_at "i15"; k_here; k_dflt (refine' nameX_L ?z87k1 ?z87k2 ?_ ?z87k3 ?z87k4; (case z87k1 => k_asm); (case z87k2 => first | exact rfl | assumption); (case z87k3 => rfl); (case z87k4 => rfl); k_whole))
  k_with "pyIter ref" => (walk_at "i15"; (with_reducible show wpAny _ _ (pyIter (Value.ref _)) (fun it s₂ => TurnsAt _ _ _ _ _ _ _ _ _ it s₂) _ _); refine Hold.out ?_)
  k_with "exec If" => (walk_at "i16"; refine Hold.out ?_)
  k_with "call type:zip" => (refine Hold.out ?_)
  k_with "exec For Name Name cons nil" => ((with_reducible show wpAny _ _ (exec (Stmt.For (Expr.Name _ _) (Expr.Name _ _) _ _ _) _) _ _ _); refine Hold.out ?_)
  trivial
theorem count_c {w : World} {p : Program} {loose : List Str} {mean : ExcName → Option Value} {mg mb : Str → Option Value} {dp un : Nat} {gd : Option (List Code)} {cn : Str} {cs : Scope} {a : Addr} {ccd : Value} {cl : List (Str × Addr)} {outer : List Env} {A₀ : Around} {base h₀ : Heap} {L : Addr} {m : Str → Option Value} {s : Shared} {Q E : Value → Shared → Prop} {z : NetP} {x d l md : Addr} {k1 k2 k3 k4 k5 tq : Tok} {nm : Value} {tu day days : Int} {t3 td tn : Tok} {Df Dr : Addr} {f re : Rat} {tf tf' tr tr' : Tok} {cf cr n0 ndl br : Nat} {dvs : List Value} {ds : List Rat} {omd : Obj} {rest : List (Addr × Obj)} {W : List (Addr × Obj)} {VS : List Value} {val0 : Int} {F0 : List MRow}
    (B : Below A₀ base outer h₀) (F : Fr h₀ L s.heap m) (X : (HD.K w.params).In h₀) (N : News h₀ L s.heap ((d, meterD w.params k1 k2 k3 k4 k5 nm (.int tu t3) (.ref Df) (.ref l) (.ref Dr)) :: (l, listOf VS.toArray n0) :: rest)) (T : Top p loose mean mg mb h₀) (hk : cs.kind = .function) (ex : (x, instObj 367 d) ∈ rest) (em : (md, omd) ∈ rest) (hWr : ∀ p ∈ W, p ∈ rest) (hWc : ∀ p ∈ W, p.2.cls ≠ .type "tuple") (hn : ∀ p ∈ [(z.net, instObj 298 z.dn), (z.dn, netDO w.params z), (z.pd, z.opd), (z.pp, instObj 139 z.ppd), (z.ppd, pipDO w.params z), (z.cd, z.ocd), (z.cu, instObj 167 z.cud), (z.cud, conDO w.params z), (z.dl, listOf dvs.toArray ndl)], p ∈ W) (lpd : (z.pd == sysModules) = false) (hpd : z.opd.IsDictOf (PySem.strKind PySem.Challenge.rw_ui0509_14.row.prog w) [(Str.ofString "p", Value.ref z.pp)]) (lcd : (z.cd == sysModules) = false) (hcd : z.ocd.IsDictOf (PySem.strKind PySem.Challenge.rw_ui0509_14.row.prog w) [(Str.ofString "u", Value.ref z.cu)]) (lmd : (md == sysModules) = false) (hmd : omd.IsDictOf (PySem.strKind PySem.Challenge.rw_ui0509_14.row.prog w) [(Str.ofString "u", Value.ref x)]) (hdr : ∀ p ∈ rest, p.1 ≠ d) (hlr : ∀ p ∈ rest, p.1 ≠ l) (nld : l ≠ d)
    (hf : s.heap.get? Df = some (RatO f tf tf' cf)) (hbf : Bd 64 f) (hf0 : f ≠ 0) (hr : s.heap.get? Dr = some (RatO re tr tr' cr)) (hbr : Bd br re) (hbr2 : br ≤ 1000) (hdv : All2 (RatH s.heap) dvs ds) (hdb : ∀ r ∈ ds, Bd 64 r) (hdl : ds.length = 24)
    (h1 : 1 ≤ day) (h2 : 1 ≤ days) (h3 : days ≤ 100) (h4 : day + days ≤ 10000000) (htu : 10 ≤ tu) (htu2 : tu ≤ 1000000000000) (hle : ¬ ((tu - 1 : Int) : Rat) < (tot ds / f))
    (hVS : (VS = [] ∧ val0 = 0 ∧ F0 = [(day, 0, none)]) ∨ (∃ vs D0 t8 t9 c0, VS = vs ++ [Value.ref D0] ∧ s.heap.get? D0 = some (Row day val0 t8 t9 .none c0) ∧ F0 = [])) (hv0 : 0 ≤ val0) (hv1 : val0 < tu) (hlen : VS.length ≤ 1000)
    (hd : dp + 24 < recursionLimit) (hu : un + 1000 < cLine)
    (hret : ∀ (Do Dr' : Addr) (odo : Obj) (to t5 t6 : Tok) (c5 n' : Nat) (ws : List Value) (tl : List (Addr × Obj)) (h' : Heap) (tk' : Nat), Fr h₀ L h' m → News h₀ L h' ((Do, odo) :: (d, meterD w.params k1 k2 k3 k4 k5 nm (.int tu t3) (.ref Df) (.ref l) (.ref Dr')) :: (l, listOf (VS ++ ws).toArray n') :: (rest ++ tl)) → odo.IsDictOf (PySem.strKind PySem.Challenge.rw_ui0509_14.row.prog w) [(Str.ofString "u", Value.int (fl (re + (tot ds / f) * (days : Rat))) to)] →
      (Dr', RatO (frc (re + (tot ds / f) * (days : Rat))) t5 t6 c5) ∈ tl → Bd (br + 1800) (frc (re + (tot ds / f) * (days : Rat))) → All2 (RowN (Led tl)) ws (F0 ++ cRows tu day val0 re (tot ds / f) days.toNat) → (∀ p ∈ rest, p.1 ≠ Do) → d ≠ Do → l ≠ Do → (∀ q ∈ tl, q.1 ≠ Do) → (∀ q ∈ tl, q.1 ≠ d) → (∀ q ∈ tl, q.1 ≠ l) → (∀ p ∈ rest, ∀ q ∈ tl, p.1 ≠ q.1) → Q (.ref Do) { s with heap := h', toks := tk' }) :
    wpAny (model PySem.Challenge.rw_ui0509_14.row.prog w) (ktrTop dp un gd cn cs L a ccd cl outer) (call (.ref 314) [.ref z.net, .ref md, .int day td, .int days tn]) Q E s := by
  obtain ⟨n, rfl⟩ : ∃ n : Nat, days = (n : Int) := ⟨days.toNat, by omega⟩
  simp only [Int.toNat_natCast] at hret
  have hNM : ∀ p ∈ (d, meterD w.params k1 k2 k3 k4 k5 nm (.int tu t3) (.ref Df) (.ref l) (.ref Dr)) :: (l, listOf VS.toArray n0) :: (x, instObj 367 d) :: (md, omd) :: W, p ∈ (d, meterD w.params k1 k2 k3 k4 k5 nm (.int tu t3) (.ref Df) (.ref l) (.ref Dr)) :: (l, listOf VS.toArray n0) :: rest := fcons (List.mem_cons_self ..) (fcons (List.mem_cons_of_mem _ (List.mem_cons_self ..)) (fcons (List.mem_cons_of_mem _ (List.mem_cons_of_mem _ ex)) (fcons (List.mem_cons_of_mem _ (List.mem_cons_of_mem _ em)) (fun p hp => List.mem_cons_of_mem _ (List.mem_cons_of_mem _ (hWr p hp))))))
  have hNN : ∀ p ∈ (d, meterD w.params k1 k2 k3 k4 k5 nm (.int tu t3) (.ref Df) (.ref l) (.ref Dr)) :: (l, listOf VS.toArray n0) :: (x, instObj 367 d) :: (md, omd) :: W, s.heap.get? p.1 = some p.2 := fun p hp => (N p (hNM p hp)).1
  w_top off
  revert X; k_fill; intro X
  refine wpAny_call ?_
  k_dflt (refine' code_needC ((d, meterD w.params k1 k2 k3 k4 k5 nm (.int tu t3) (.ref Df) (.ref l) (.ref Dr)) :: (l, listOf VS.toArray n0) :: (x, instObj 367 d) :: (md, omd) :: W) ?k1 ?k2 ?k3 ?k4 ?k5 ?kA ?kF ?kK ?k6 ?k7 ?k8 ?k9 ?kB ?kD ?kN ?_ ?c2 ?c3 ?c4; (case kA => exact rfl); (case kF => exact rfl); (case kK => assumption); (case k1 => k_asm); (case k2 => k_asm); (case k3 => k_asm); (case k4 => k_asm); (case k5 => k_asm); (case k6 => k_is); (case k7 => k_is); (case k8 => ktr_room); (case k9 => first | exact BindsTo.of_eq rfl | exact binds_K (by k_in) rfl (by k_is) rfl rfl rfl); (case kB => exact rfl); (case kD => decide +kernel); (case kN => exact hNM); (case c2 => exact rfl); (case c3 => exact rfl); (case c4 => exact rfl); k_whole; intro g' L' h' tk0 cells' FG' F' N' Y' B' X' T' l1 hG')
  obtain ⟨o1, o2, rfl, q1, q2⟩ := CellsAre.two Y'
  clear Y'
  (try simp only [List.cons_append, List.nil_append] at N')
  (try dsimp only); (try k_fold)
  have hdy : day ≤ 10000000 := by omega
  have hds : (n : Int) ≤ 10000 := by omega
  have hdd : 1 ≤ day + (n : Int) := by omega
  have hcl : ∀ p ∈ (d, meterD w.params k1 k2 k3 k4 k5 nm (.int tu t3) (.ref Df) (.ref l) (.ref Dr)) :: (l, listOf VS.toArray n0) :: (x, instObj 367 d) :: (md, omd) :: W, p.2.cls ≠ .type "tuple" := fcons dict_cls2 (fcons list_cls (fcons inst_cls (fcons (dict_cls hmd) hWc)))
  replace hf := hG' _ _ hf (not_need hNN hcl hf rfl)
  replace hr := hG' _ _ hr (not_need hNN hcl hr rfl)
  replace hVS : (VS = [] ∧ val0 = 0 ∧ F0 = [(day, 0, none)]) ∨ (∃ vs D0 t8 t9 c0, VS = vs ++ [Value.ref D0] ∧ g'.get? D0 = some (Row day val0 t8 t9 .none c0) ∧ F0 = []) := hVS.imp id fun ⟨vs, D0, t8, t9, c0, e1, e2, e3⟩ => ⟨vs, D0, t8, t9, c0, e1, hG' _ _ e2 (not_need hNN hcl e2 rfl), e3⟩
  replace hdv : All2 (RatH g') dvs ds := hdv.mono fun v r x => by
    obtain ⟨D, t, t', c, e, hx⟩ := x
    exact ⟨D, t, t', c, e, hG' _ _ hx (not_need hNN hcl hx rfl)⟩
  clear hNN hcl hNM
  have hbt : Builtin.Int.intBits (tu - 1) ≤ 64 := PySem.intBits_le_64 (by omega) (by omega)
  have hxd : @Ne Nat x d := hdr _ ex
  have hxl : @Ne Nat x l := hlr _ ex
  have hWd : ∀ p ∈ W, p.1 ≠ d := fun p hp => hdr p (hWr p hp)
  have hWl : ∀ p ∈ W, p.1 ≠ l := fun p hp => hlr p (hWr p hp)
  replace nld := neN nld
  have lK1 : AllLt (L' + 1) ((d, meterD w.params k1 k2 k3 k4 k5 nm (.int tu t3) (.ref Df) (.ref l) (.ref Dr)) :: (l, listOf VS.toArray n0) :: (x, instObj 367 d) :: (md, omd) :: W) := allLt_succ (allLt_of l1)
  have lK2 : AllLt (L' + 1 + 1) ((L' + 1, o1) :: (d, meterD w.params k1 k2 k3 k4 k5 nm (.int tu t3) (.ref Df) (.ref l) (.ref Dr)) :: (l, listOf VS.toArray n0) :: (x, instObj 367 d) :: (md, omd) :: W) := ⟨Nat.lt_succ_self _, allLt_succ lK1⟩
  have aW1 : ∀ p ∈ W, p.1 ≠ L' + 1 := allLt_mem lK1.2.2.2.2
  have aW2 : ∀ p ∈ W, p.1 ≠ L' + 1 + 1 := allLt_mem lK2.2.2.2.2.2
  have lK0 := allLt_of l1
  clear l1
  replace q1 : o1.data = .cell none := q1
  replace q2 : o2.data = .cell none := q2
  k_steps
  unfold Hold
  (rename Fr _ _ _ _ => lF1)
  (rename News _ _ _ _ => lN1)
  (with_unfolding_all refine' For_turns lF1 ?_)
  k_whole
  refine nameX_L lF1 (by rfl) ?_
  refine kta_keys (knd := PySem.strKind _ _) (enc := PyData.str) (xs := [Itm.tok (fun t => Value.str (Str.ofString "u") t)]) (by rfl) lF1 lN1 (by k_mem) hmd lmd (fun _ _ h => Value.isStrOf_shape h) (by rfl) ?_
  clear lF1 lN1
  intro I1 l1
  k_lt l1
  k_steps
  unfold Hold
  k_dflt (refine' dh_d (z := z) (dvs := dvs) (ds := ds) (ndl := ndl) ?k1 ?k2 ?k3 ?k4 ?k5 ?k6 ?hn ?lpd ?hpd ?lcd ?hcd ?hdv ?hdb ?hdl ?k7 ?k8 ?_)
  case k1 => k_asm
  case k2 => k_asm
  case k3 => k_asm
  case k4 => k_asm
  case k5 => k_asm
  case k6 => first | exact rfl | assumption
  case k7 => ktr_room
  case k8 => ktr_units
  case hn => exact fun p hp => ((by intro p9 hp9; first | ((repeat (first | exact hp9 | exact List.mem_append_left _ hp9 | exact List.mem_append_right _ hp9 | refine List.mem_cons_of_mem _ ?_)); done) | (simp only [List.mem_cons, List.mem_append]; simp only [hp9, true_or, or_true])) : ∀ p ∈ W, p ∈ _) p (hn p hp)
  case lpd => exact lpd
  case hpd => exact hpd
  case lcd => exact lcd
  case hcd => exact hcd
  case hdv => exact hdv.mono fun v r x => x.keeps (Fr.keep (by k_asm))
  case hdb => exact hdb
  case hdl => exact hdl

  intro D5 t5 u5 c5 h5 tk5 b5 F5 N5 l5
  replace l5 := allNe_of l5
  k_steps
  unfold Hold
  rename_i D6 t6 u6 c6 h6 tk6 b6 l6 h6b oe qe D7 t7 u7 c7 h7 tk7 F7 N7 l7
  k_dflt (refine' less_r (D1 := D7) (D2 := D6) (r1 := ((tu - 1 : Int) : Rat)) (r2 := tot ds / f) (n := 64) (k := 1664) ?k1 ?k2 ?k3 ?k4 ?k5 ?k6 ?m1 ?m2 ?k7 ?k8 ?b1 ?b2 ?hb ?_)
  case k1 => k_asm
  case k2 => k_asm
  case k3 => k_asm
  case k4 => k_asm
  case k5 => k_asm
  case k6 => first | exact rfl | assumption
  case k7 => ktr_room
  case k8 => ktr_units
  case m1 => exact N7.get (by k_mem : (D7, T2 (tu - 1) 1 t7 u7 c7) ∈ _)
  case m2 => exact N7.get (by k_mem)
  case b1 => exact Bd.int hbt (by decide)
  case b2 => exact b6
  case hb => decide

  intro h8 tk8 F8 N8
  iterate 2 walk1
  have mk1 : Mark1 := .mk
  k_steps
  unfold Hold
  (rename News _ _ _ _ => N9)
  (rename Fr _ _ _ _ => F9)
  rename_i lr _ llr _ _ tu9 _ _ _ oI1 _ _ _ _ _ oM dM _ _ _ _ _ _ _ mk1 _
  clear mk1
  have aWr : ∀ p ∈ W, p.1 ≠ lr := allLt_mem llr.2.2.2.2.2.2
  obtain ⟨LC, eLC, NC⟩ := news_as N9 (l := (D6, RatO (tot ds / f) t6 u6 c6) :: (I1, oI1) :: (lr, listOf #[] 0) :: (L' + 1 + 1, oe) :: (L' + 1, oM) :: (d, meterD w.params k1 k2 k3 k4 k5 nm (.int tu t3) (.ref Df) (.ref l) (.ref Dr)) :: (l, listOf VS.toArray n0) :: (x, instObj 367 d) :: (md, omd) :: W) (fcons (by k_mem) (fcons (by k_mem) (fcons (by k_mem) (fcons (by k_mem) (fcons (by k_mem) (fcons (by k_mem) (fcons (by k_mem) (fcons (by k_mem) (fcons (by k_mem) (by intro p9 hp9; first | exact hp9 | exact absurd hp9 List.not_mem_nil | (repeat (first | exact hp9 | refine List.mem_cons_of_mem _ ?_))))))))))))
  clear N9
  -- the first cut: where the count starts
  refine wpAny_mono (show wpAny _ _ _ (fun (fl : Flow) (s' : Shared) => Hold (fl = .next ∧ ∃ (h9 : Heap) (tk9 : Nat) (m1 : Str → Option Value) (ts : Tok), s' = { s with heap := h9, toks := tk9 } ∧ Fr g' L' h9 m1 ∧ News g' L' h9 LC ∧ m1 (Str.ofString "start") = some (.int val0 ts) ∧ m1 (Str.ofString "rows") = some (.ref lr) ∧ m1 (Str.ofString "name") = some (.str (Str.ofString "u") tu9) ∧ m1 (Str.ofString "days") = some (.int (n : Int) tn) ∧ m1 (Str.ofString "day") = some (.int day td))) _ _ from ?cut1) ?cut2 (fun _ _ e => e)
  case cut1 =>
    subst eLC
    rcases hVS with ⟨rfl, rfl, _⟩ | ⟨vs, D0, t8, t9, c0, rfl, e0, _⟩
    · k_steps
      all_goals (try unfold Hold)
      all_goals exact ⟨rfl, _, _, _, _, rfl, by k_asm, by k_asm, rfl, rfl, rfl, rfl, rfl⟩
    · k_steps
      all_goals (try (exfalso; omega))
      all_goals (try unfold Hold)
      all_goals exact ⟨rfl, _, _, _, _, rfl, by k_asm, by k_asm, rfl, rfl, rfl, rfl, rfl⟩
  case cut2 =>
    intro fl s' hC
    obtain ⟨rfl, h9, tk9, m1, ts, rfl, F9', N9, n1, n2, n3, n4, n5⟩ := hC
    clear F9 NC
    have mk8 : Mark8 := .mk
    subst eLC
    k_steps
    (rename News _ _ _ _ => N9)
    (rename AllLt _ _ => lDt)
    rename_i Dt _ _ _
    refine unr_end ((Dt, _) :: (D6, RatO (tot ds / f) t6 u6 c6) :: (lr, listOf #[Value.ref Dt] (0 + 1)) :: (L' + 1 + 1, oe) :: (L' + 1, oM) :: (d, meterD w.params k1 k2 k3 k4 k5 nm (.int tu t3) (.ref Df) (.ref l) (.ref Dr)) :: (l, listOf VS.toArray n0) :: (x, instObj 367 d) :: (md, omd) :: W) (by k_asm) N9 (by k_mem) (fcons (by k_mem) (fcons (by k_mem) (fcons (by k_mem) (fcons (by k_mem) (fcons (by k_mem) (fcons (by k_mem) (fcons (by k_mem) (fcons (by k_mem) (fcons (by k_mem) (by intro p9 hp9; first | exact hp9 | exact absurd hp9 List.not_mem_nil | (repeat (first | exact hp9 | refine List.mem_cons_of_mem _ ?_)))))))))))) ?neI ⟨⟨by k_mem, trivial⟩, ?_⟩
    case neI => exact fcons ((apLt lDt (by k_mem)).symm) (fcons ((apL l6 (by k_mem)).symm) (allLt_mem l1))
    clear N9
    -- S3
    k_steps
    (rename Fr _ _ _ _ => lF2)
    (with_unfolding_all refine' For_turns lF2 ?_)
    k_whole
    k_steps
    unfold Hold
    (rename Fr _ _ _ _ => lF2)
    (rename News _ _ _ _ => N9)
    (rename AllLt _ _ => llc)
    obtain ⟨lc, rfl, llc⟩ : ∃ lc, lc = _ ∧ AllLt lc _ := ⟨_, rfl, llc⟩
    refine iter_listTurns (vs := [Value.ref Dt]) rfl lF2 N9 (by k_mem) rfl rfl (fun I2 lI2 => ?_)
    with_unfolding_all refine ItemsRest.val (fun h' tk' F' => ?_)
    refine AllObj.cons fun oI2 hI2 => AllObj.nil fun N' => ?_
    simp only [List.cons_append, List.nil_append] at N'
    k_lt lI2
    clear N9 lF2
    k_steps
    unfold Hold
    -- S4
    (rename News _ _ _ _ => NN9)
    (rename IsRange _ _ _ _ _ _ _ _ => hRg)
    obtain ⟨LE, eLE, NL⟩ := name_led NN9
    clear NN9
    refine LCg.CompSrc.range (n := n) rfl (by k_asm) NL hRg (small_one (by omega) (by omega) (by omega) (by omega)) (rsize (by omega)) (by rw [sizeLine_eq]; omega) (fun g9 => ?_)
    refine comp_ind (fun i ys nx => ∃ tl, nx = LE ++ tl ∧ All2 (RatN (Led tl)) ys ((List.range i).map fun j : Nat => re + (tot ds / f) * ((1 + (j : Int) : Int) : Rat)) ∧ (∀ r ∈ (List.range i).map fun j : Nat => re + (tot ds / f) * ((1 + (j : Int) : Int) : Rat), Bd (br + 1800) r) ∧ ∀ q ∈ LE, ∀ p ∈ tl, p.1 ≠ q.1) ?turn1 ?fin1 _ 0 [] _ (Nat.zero_add _) ⟨[], (List.append_nil _).symm, .nil, (fun r hr => nomatch hr), fun _ _ _ h => nomatch h⟩
    case turn1 =>
      intro i v9 I oI C oC D9 m2 h tk E' ys nx hi hJ hPv hC hx Fm Nn off ne
      obtain ⟨tl, rfl, hys, hbr9, hoff⟩ := hJ
      obtain ⟨t9, rfl⟩ := hPv
      have hstep : ((List.range (i + 1)).map fun j : Nat => re + (tot ds / f) * ((1 + (j : Int) : Int) : Rat)) = ((List.range i).map fun j : Nat => re + (tot ds / f) * ((1 + (j : Int) : Int) : Rat)) ++ [re + (tot ds / f) * ((1 + (i : Int) : Int) : Rat)] := by rw [List.range_succ, List.map_append]; rfl
      have hbk : Builtin.Int.intBits (1 + (i : Int)) ≤ 64 := PySem.intBits_le_64 (by omega) (by omega)
      rw [eLE] at Nn
      simp only [List.cons_append, List.nil_append] at Nn
      clear NL hRg
      k_steps
      unfold Hold
      rename_i Dk tk9 uk ck hk9 tkk Fk Nk lk
      k_dflt (refine' times_r (D1 := D6) (D2 := Dk) (r1 := (tot ds / f)) (r2 := ((1 + (i : Int) : Int) : Rat)) (n := 1664) (k := 64) ?k1 ?k2 ?k3 ?k4 ?k5 ?k6 ?m1 ?m2 ?k7 ?k8 ?b1 ?b2 ?hb ?_)
      case k1 => k_asm
      case k2 => k_asm
      case k3 => k_asm
      case k4 => k_asm
      case k5 => k_asm
      case k6 => first | exact rfl | assumption
      case k7 => ktr_room
      case k8 => ktr_units
      case m1 => exact Nk.get (by k_mem)
      case m2 => exact Nk.get (by k_mem : (Dk, T2 (1 + (i : Int)) 1 tk9 uk ck) ∈ _)
      case b1 => exact b6
      case b2 => exact Bd.int hbk (by decide)
      case hb => first | decide | omega

      intro Dt2 tt ut ct ht tkt bt Ft Nt lt
      replace lt := allNe_of lt
      k_steps
      unfold Hold
      rename_i Dq tq uq cq hq tkq bq Fq Nq lq
      refine comp_end Fq Nq (LE ++ (Dq, RatO (re + (tot ds / f) * ((1 + (i : Int) : Int) : Rat)) tq uq cq) :: tl) (by rw [eLE]; exact sub_mid3) (off3_mid (LE := LE) off (neN (by first | exact (apL (by with_reducible assumption) (by k_mem)).symm | exact apL (by with_reducible assumption) (by k_mem))) (neN (by first | exact (apL (by with_reducible assumption) (by k_mem)).symm | exact apL (by with_reducible assumption) (by k_mem))) (neN (by first | exact (apL (by with_reducible assumption) (by k_mem)).symm | exact apL (by with_reducible assumption) (by k_mem)))) trivial ⟨(Dq, RatO (re + (tot ds / f) * ((1 + (i : Int) : Int) : Rat)) tq uq cq) :: tl, rfl, ?y1, ?b1, ?o1⟩
      case y1 => rw [hstep]; exact (hys.mono fun _ _ y => y.mono fun _ _ e => List.mem_cons_of_mem _ e).snoc (rat_new (List.mem_cons_self ..))
      case b1 => rw [hstep]; exact List.forall_mem_append.mpr ⟨hbr9, fcons (bq.mono (by omega)) (List.forall_mem_nil _)⟩
      case o1 => exact fun q hq => fcons (fun e => allNe_mem lq q (by rw [eLE] at hq; exact sub_le3 q hq) e.symm) (hoff q hq)
    case fin1 =>
      intro ys nx hJ TL h tk Fm Nn off
      obtain ⟨tl, rfl, hys, hbr9, hoff⟩ := hJ
      have hys0 := hys
      rw [range_last (by omega : 0 < n)] at hys
      obtain ⟨ys1, v9, rfl, hys1, Dw, tw, uw, cw, rfl, eDw⟩ := All2.unsnoc9 hys
      have offA := allNe_of (off1_mem off)
      have hoffL := hoff
      rw [eLE] at Nn hoff offA
      simp only [List.cons_append, List.nil_append] at Nn offA
      clear NL hRg off
      -- E0a
      have htd := hoff (d, _) (by k_mem)
      have htl := hoff (l, _) (by k_mem)
      have htk : ∀ p ∈ W ++ tl, p.1 ≠ lc := List.forall_mem_append.mpr ⟨fun p hp => allLt_mem llc p (((by intro p9 hp9; first | ((repeat (first | exact hp9 | exact List.mem_append_left _ hp9 | exact List.mem_append_right _ hp9 | refine List.mem_cons_of_mem _ ?_)); done) | (simp only [List.mem_cons, List.mem_append]; simp only [hp9, true_or, or_true])) : ∀ p ∈ W, p ∈ _) p hp), hoff (lc, _) (by k_mem)⟩
      have htc1 := hoff (L' + 1, _) (by k_mem)
      have htc2 := hoff (L' + 1 + 1, _) (by k_mem)
      dsimp only at htd htl htc1 htc2
      -- E0b
      k_steps
      (rename News _ _ _ _ => N8)
      -- E1
      obtain ⟨R9, eR9⟩ : ∃ R9, R9 = ((md, omd) :: W) ++ tl := ⟨_, rfl⟩
      have sR9 : ∀ p ∈ (md, omd) :: W, p ∈ R9 := by rw [eR9]; exact fun p hp => List.mem_append_left _ hp
      have tR9 : ∀ p ∈ tl, p ∈ R9 := by rw [eR9]; exact fun p hp => List.mem_append_right _ hp
      have bN : ∀ p ∈ (md, omd) :: W, @LT.lt Nat _ p.1 L' := allLt_lt lK0.2.2.2
      have rN : ∀ p ∈ (md, omd) :: W, p ∈ rest := fcons em hWr
      have hd9 : @LT.lt Nat _ d L' := lK0.1
      have hl9 : @LT.lt Nat _ l L' := lK0.2.1
      have hx9 : @LT.lt Nat _ x L' := lK0.2.2.1
      have hs1 : @LT.lt Nat _ L' (L' + 1) := Nat.lt_succ_self _
      have hs2 : @LT.lt Nat _ (L' + 1) (L' + 1 + 1) := Nat.lt_succ_self _
      have hs3 : @LT.lt Nat _ L' (L' + 1 + 1) := Nat.lt_trans hs1 hs2
      have u1 : @LT.lt Nat _ (L' + 1 + 1) lr := ltK llr (by k_mem)
      have tlc : AllLt lc [(Dt, oI2), (D6, oI2), (lr, oI2), (L' + 1 + 1, oI2), (L' + 1, oI2), (d, oI2), (l, oI2), (x, oI2)] := ⟨ltK (a := Dt) llc (by k_mem), ltK (a := D6) llc (by k_mem), ltK (a := lr) llc (by k_mem), ltK (a := L' + 1 + 1) llc (by k_mem), ltK (a := L' + 1) llc (by k_mem), ltK (a := d) llc (by k_mem), ltK (a := l) llc (by k_mem), ltK (a := x) llc (by k_mem), trivial⟩
      have tDt : AllLt Dt [(D6, oI2), (lr, oI2), (L' + 1 + 1, oI2), (L' + 1, oI2), (d, oI2), (l, oI2), (x, oI2)] := ⟨ltK (a := D6) lDt (by k_mem), ltK (a := lr) lDt (by k_mem), ltK (a := L' + 1 + 1) lDt (by k_mem), ltK (a := L' + 1) lDt (by k_mem), ltK (a := d) lDt (by k_mem), ltK (a := l) lDt (by k_mem), ltK (a := x) lDt (by k_mem), trivial⟩
      have tI2 : AllLt I2 [(lc, oI2), (Dt, oI2), (D6, oI2), (lr, oI2), (L' + 1 + 1, oI2), (L' + 1, oI2), (d, oI2), (l, oI2), (x, oI2)] := ⟨ltK (a := lc) lI2 (by k_mem), ltK (a := Dt) lI2 (by k_mem), ltK (a := D6) lI2 (by k_mem), ltK (a := lr) lI2 (by k_mem), ltK (a := L' + 1 + 1) lI2 (by k_mem), ltK (a := L' + 1) lI2 (by k_mem), ltK (a := d) lI2 (by k_mem), ltK (a := l) lI2 (by k_mem), ltK (a := x) lI2 (by k_mem), trivial⟩
      have u5 : @LT.lt Nat _ lc I2 := ltK lI2 (by k_mem)
      have aRI : ∀ p ∈ R9, p.1 ≠ I2 := by rw [eR9]; exact List.forall_mem_append.mpr ⟨fcons (apLt lI2 (by k_mem)) (fun p hp => allLt_mem lI2 p (((by intro p9 hp9; first | ((repeat (first | exact hp9 | exact List.mem_append_left _ hp9 | exact List.mem_append_right _ hp9 | refine List.mem_cons_of_mem _ ?_)); done) | (simp only [List.mem_cons, List.mem_append]; simp only [hp9, true_or, or_true])) : ∀ p ∈ W, p ∈ _) p hp)), hoff (I2, _) (by k_mem)⟩
      have aR1 : ∀ p ∈ R9, p.1 ≠ L' + 1 := by rw [eR9]; exact List.forall_mem_append.mpr ⟨fun p hp => Nat.ne_of_lt (Nat.lt_trans (bN p hp) hs1), htc1⟩
      have aR2 : ∀ p ∈ R9, p.1 ≠ L' + 1 + 1 := by rw [eR9]; exact List.forall_mem_append.mpr ⟨fun p hp => Nat.ne_of_lt (Nat.lt_trans (bN p hp) hs3), htc2⟩
      have aRd : ∀ p ∈ R9, p.1 ≠ d := by rw [eR9]; exact List.forall_mem_append.mpr ⟨fun p hp => hdr p (rN p hp), htd⟩
      have aRl : ∀ p ∈ R9, p.1 ≠ l := by rw [eR9]; exact List.forall_mem_append.mpr ⟨fun p hp => hlr p (rN p hp), htl⟩
      -- E2
      obtain ⟨_, e9, N9⟩ := news_as N8 (l := (TL, PySem.W.listOf (ys1 ++ [Value.ref Dw]).toArray (ys1 ++ [Value.ref Dw]).length) :: (I2, _) :: (lc, PySem.W.listOf (#[].push (Value.ref TL)) (0 + 1)) :: (Dt, _) :: (D6, _) :: (lr, PySem.W.listOf #[Value.ref Dt] (0 + 1)) :: (L' + 1 + 1, _) :: (L' + 1, _) :: (d, _) :: (l, _) :: (x, _) :: R9) (fcons (by k_mem) (fcons (by k_mem) (fcons (by k_mem) (fcons (by k_mem) (fcons (by k_mem) (fcons (by k_mem) (fcons (by k_mem) (fcons (by k_mem) (fcons (by k_mem) (fcons (by k_mem) (fcons (by k_mem) (by rw [eR9]; intro p9 hp9; repeat (first | exact hp9 | refine List.mem_cons_of_mem _ ?_)))))))))))))
      subst e9
      have tL2 : AllLt (L' + 1 + 1) [(L' + 1, oI2), (d, oI2), (l, oI2), (x, oI2)] := ⟨hs2, Nat.lt_trans hd9 hs3, Nat.lt_trans hl9 hs3, Nat.lt_trans hx9 hs3, trivial⟩
      have tL1 : AllLt (L' + 1) [(d, oI2), (l, oI2), (x, oI2)] := ⟨Nat.lt_trans hd9 hs1, Nat.lt_trans hl9 hs1, Nat.lt_trans hx9 hs1, trivial⟩
      have jT : AllNe TL [(I2, oI2), (lc, oI2), (d, oI2), (l, oI2), (x, oI2), (L' + 1, oI2), (L' + 1 + 1, oI2), (Dt, oI2), (D6, oI2)] := ⟨(apL offA (by k_mem)), (apL offA (by k_mem)), (apL offA (by k_mem)), (apL offA (by k_mem)), (apL offA (by k_mem)), (apL offA (by k_mem)), (apL offA (by k_mem)), (apL offA (by k_mem)), (apL offA (by k_mem)), trivial⟩
      refine unr_end _ (by k_asm) N9 (List.mem_cons_of_mem _ (List.mem_cons_self ..)) drop1 (fcons ((apL jT (List.mem_cons_self ..)).symm) (fcons (Nat.ne_of_lt u5) (fcons (apLt tI2 (by k_mem)) (fcons (apLt tI2 (by k_mem)) (fcons (apLt tI2 (by k_mem)) (fcons (apLt tI2 (by k_mem)) (fcons (apLt tI2 (by k_mem)) (fcons (apLt tI2 (by k_mem)) (fcons (apLt tI2 (by k_mem)) (fcons (apLt tI2 (by k_mem)) aRI)))))))))) ⟨⟨by k_mem, trivial⟩, ?_⟩
      clear N8 N9 offA hoff hoffL eR9 lDt llc llr lI2
      -- E3
      k_steps
      (rename Fr _ _ _ _ => lF1)
      (with_unfolding_all refine' For_turns lF1 ?_)
      k_whole
      k_steps
      unfold Hold
      (rename Fr _ _ _ _ => F9)
      (rename News _ _ _ _ => N9)
      -- E4
      rename_i Do _ oDo _ _ lDo sDo fDo iDo gDo lDn _
      refine ktu_zip (xs := [.ref Dt]) (ys := [.ref TL]) rfl F9 N9 (by k_mem) rfl rfl (by k_mem) rfl rfl (fun I3 lI3 => ?_)
      with_unfolding_all refine ItemsRest.pair (fun T' t' h' tk' hT' F' => ?_)
      refine AllObj.cons fun oa ha => AllObj.cons fun ob hb => AllObj.cons fun oc hc => AllObj.cons fun od hd' => AllObj.cons fun oe' he => AllObj.nil fun N' => ?_
      simp only [List.cons_append, List.nil_append] at N'
      have v0 : @LT.lt Nat _ Do I3 := lI3 (Do, _) (by k_mem)
      have v1 : @LT.lt Nat _ (L' + 1) I3 := lI3 (L' + 1, _) (by k_mem)
      have v2 : @LT.lt Nat _ (L' + 1 + 1) I3 := lI3 (L' + 1 + 1, _) (by k_mem)
      have v3 : @LT.lt Nat _ d I3 := lI3 (d, _) (by k_mem)
      have v4 : @LT.lt Nat _ l I3 := lI3 (l, _) (by k_mem)
      obtain ⟨w1, w2, w3, w4, w5, w6, w7, w8, w9, w10, w11⟩ := lDn
      have tDo : AllLt Do [(TL, oI2), (lc, oI2), (Dt, oI2), (D6, oI2), (lr, oI2), (L' + 1 + 1, oI2), (L' + 1, oI2), (d, oI2), (l, oI2), (x, oI2)] := ⟨w1, w2, w3, w4, w5, w6, w7, w8, w9, w10, trivial⟩
      obtain ⟨R8, eR8⟩ : ∃ R8, R8 = (I3 + 4, oa) :: (I3 + 2, ob) :: (I3 + 3, oc) :: (I3, od) :: (I3 + 1, oe') :: (lc, PySem.W.listOf #[Value.ref TL] (0 + 1)) :: (lr, PySem.W.listOf #[Value.ref Dt] (0 + 1)) :: R9 := ⟨_, rfl⟩
      obtain ⟨_, e9, N8⟩ := news_as N' (l := (Do, oDo) :: (TL, PySem.W.listOf (ys1 ++ [Value.ref Dw]).toArray (ys1 ++ [Value.ref Dw]).length) :: (Dt, _) :: (D6, _) :: (L' + 1 + 1, _) :: (L' + 1, _) :: (d, _) :: (l, _) :: (x, _) :: R8) (fcons (by k_mem) (fcons (by k_mem) (fcons (by k_mem) (fcons (by k_mem) (fcons (by k_mem) (fcons (by k_mem) (fcons (by k_mem) (fcons (by k_mem) (fcons (by k_mem) (by rw [eR8]; exact fcons (by k_mem) (fcons (by k_mem) (fcons (by k_mem) (fcons (by k_mem) (fcons (by k_mem) (fcons (by k_mem) (fcons (by k_mem) (by intro p9 hp9; first | exact hp9 | exact absurd hp9 List.not_mem_nil | (repeat (first | exact hp9 | refine List.mem_cons_of_mem _ ?_)))))))))))))))))))
      subst e9
      have sR8 : ∀ p ∈ R9, p ∈ R8 := by rw [eR8]; intro p9 hp9; repeat (first | exact hp9 | refine List.mem_cons_of_mem _ ?_)
      have iR8 : ∀ p ∈ [(I3 + 4, oa), (I3 + 2, ob), (I3 + 3, oc), (I3, od), (I3 + 1, oe')], p ∈ R8 := by rw [eR8]; exact fcons (by k_mem) (fcons (by k_mem) (fcons (by k_mem) (fcons (by k_mem) (fcons (by k_mem) (fun _ h => nomatch h)))))
      have kR8 : (lr, PySem.W.listOf #[Value.ref Dt] (0 + 1)) ∈ R8 ∧ (lc, PySem.W.listOf #[Value.ref TL] (0 + 1)) ∈ R8 := by rw [eR8]; exact ⟨by k_mem, by k_mem⟩
      have q0 : ∀ p ∈ R8, p.1 ≠ Do := by rw [eR8]; exact five v0 (fcons (Nat.ne_of_lt w2) (fcons (Nat.ne_of_lt w5) (allLt_mem w11)))
      have q1 : ∀ p ∈ R8, p.1 ≠ L' + 1 := by rw [eR8]; exact five v1 (fcons ((apLt tlc (by k_mem)).symm) (fcons ((Nat.ne_of_lt (Nat.lt_trans hs2 u1)).symm) aR1))
      have q2 : ∀ p ∈ R8, p.1 ≠ L' + 1 + 1 := by rw [eR8]; exact five v2 (fcons ((apLt tlc (by k_mem)).symm) (fcons ((Nat.ne_of_lt u1).symm) aR2))
      have q3 : ∀ p ∈ R8, p.1 ≠ d := by rw [eR8]; exact five v3 (fcons ((apLt tlc (by k_mem)).symm) (fcons ((Nat.ne_of_lt (Nat.lt_trans (Nat.lt_trans hd9 hs3) u1)).symm) aRd))
      have q4 : ∀ p ∈ R8, p.1 ≠ l := by rw [eR8]; exact five v4 (fcons ((apLt tlc (by k_mem)).symm) (fcons ((Nat.ne_of_lt (Nat.lt_trans (Nat.lt_trans hl9 hs3) u1)).symm) aRl))
      clear lI3 N9 F9 N' eR8
      -- E5
      have mk1 : Mark1 := .mk
      k_steps
      unfold Hold
      (rename News _ _ _ _ => N9)
      -- E6
      rename_i oM2 dM2 _ _ oE2 dE2 _ _ _
      (rename Mark1 => mk1)
      clear mk1
      obtain ⟨R7, eR7⟩ : ∃ R7, R7 = (Dt, { cls := .type "tuple", data := .seq #[.str (Str.ofString "u") tu9, .ref x, .int val0 ts, .ref D6] }) :: (D6, RatO (tot ds / f) t6 u6 c6) :: (L' + 1 + 1, oE2) :: R8 := ⟨_, rfl⟩
      obtain ⟨_, e9, N8⟩ := news_as N9 (l := (d, meterD w.params k1 k2 k3 k4 k5 nm (.int tu t3) (.ref Df) (.ref l) (.ref Dr)) :: (l, listOf VS.toArray n0) :: (x, instObj 367 d) :: (L' + 1, oM2) :: (TL, PySem.W.listOf (ys1 ++ [Value.ref Dw]).toArray (ys1 ++ [Value.ref Dw]).length) :: (Do, oDo) :: R7) (fcons (by k_mem) (fcons (by k_mem) (fcons (by k_mem) (fcons (by k_mem) (fcons (by k_mem) (fcons (by k_mem) (by rw [eR7]; exact fcons (by k_mem) (fcons (by k_mem) (fcons (by k_mem) (by intro p9 hp9; first | exact hp9 | exact absurd hp9 List.not_mem_nil | (repeat (first | exact hp9 | refine List.mem_cons_of_mem _ ?_))))))))))))
      subst e9
      clear N9
      have wR7 : ∀ p ∈ R8, p ∈ R7 := by rw [eR7]; intro p9 hp9; repeat (first | exact hp9 | refine List.mem_cons_of_mem _ ?_)
      have p3 : ∀ p ∈ R7, p.1 ≠ d := by rw [eR7]; exact fcons ((apLt tDt (by k_mem)).symm) (fcons ((apL l6 (by k_mem)).symm) (fcons ((apLt tL2 (by k_mem)).symm) q3))
      have p4 : ∀ p ∈ R7, p.1 ≠ l := by rw [eR7]; exact fcons ((apLt tDt (by k_mem)).symm) (fcons ((apL l6 (by k_mem)).symm) (fcons ((apLt tL2 (by k_mem)).symm) q4))
      have p5 : ∀ p ∈ R7, p.1 ≠ Do := by rw [eR7]; exact fcons (apLt tDo (by k_mem)) (fcons (apLt tDo (by k_mem)) (fcons (apLt tDo (by k_mem)) q0))
      have q5 : (∀ p ∈ R7, p ∈ R7) := fun _ h => h
      clear eR7
      obtain ⟨J, hJJ⟩ : ∃ J : Nat → (Str → Option Value) → List (Addr × Obj) → Prop, ∀ i m nx, J i m nx ↔ (∃ (Dl : Addr) (vl : Int) (ta tb : Tok) (cl : Nat) (ws vs1 : List Value) (n1 : Nat) (rr : Value) (tl2 : List (Addr × Obj)), nx = (d, meterD w.params k1 k2 k3 k4 k5 nm (.int tu t3) (.ref Df) (.ref l) rr) :: (l, listOf (vs1 ++ [Value.ref Dl]).toArray n1) :: (x, instObj 367 d) :: (L' + 1, oM2) :: (TL, PySem.W.listOf (ys1 ++ [Value.ref Dw]).toArray (ys1 ++ [Value.ref Dw]).length) :: (Do, oDo) :: (R7 ++ tl2) ∧
      VS ++ ws = vs1 ++ [Value.ref Dl] ∧ Tk g' tl2 Dl (Row (day + (i : Int)) vl ta tb .none cl) ∧ (Dl ≠ x ∧ Dl ≠ d ∧ Dl ≠ l) ∧ All2 (RowN (Led tl2)) ws (F0 ++ cRows tu day val0 re (tot ds / f) i) ∧ (∀ q ∈ tl2, (∀ p ∈ R7, p.1 ≠ q.1) ∧ q.1 ≠ d ∧ q.1 ≠ l ∧ q.1 ≠ x ∧ q.1 ≠ Do) ∧
      m (Str.ofString "told") = some (.ref TL) ∧ m (Str.ofString "day") = some (.int day td) ∧ m (Str.ofString "start") = some (.int val0 ts) ∧ m (Str.ofString "out") = some (.ref Do) ∧ m (Str.ofString "whole") = some (.ref Dw) ∧ m (Str.ofString "name") = some (.str (Str.ofString "u") tu9)) := ⟨_, fun _ _ _ => Iff.rfl⟩
      -- E7
      refine wpAny_mono (show wpAny _ _ _ (fun (fl : Flow) (s' : Shared) => Hold (fl = .next ∧ ∃ (h9 : Heap) (tk9 : Nat) (m1 : Str → Option Value) (nx : List (Addr × Obj)), s' = { s with heap := h9, toks := tk9 } ∧ Fr g' L' h9 m1 ∧ News g' L' h9 nx ∧ J 0 m1 nx ∧ m1 (Str.ofString "days") = some (.int (n : Int) tn))) _ _ from ?cutA) ?cutB (fun _ _ e => e)
      case cutA =>
        rcases hVS with ⟨rfl, rfl, rfl⟩ | ⟨vs, D0, t8, t9, c0, rfl, e0, rfl⟩
        · k_steps
          change wpAny _ _ _ _ _ _
          -- E8
          k_dflt (refine' read_nil (day := day) (val := 0) (tu := tu) ?k1_u3 ?k2_u3 ?k3_u3 ?k4_u3 ?k5_u3 ?k6_u3 ?ex_u3 ?U2_u3 ?U1_u3 ?n1_u3 ?n2_u3 ?n3_u3 ?k7_u3 ?h1_u3 ?h2_u3 ?h3_u3 ?h4_u3 ?_)
          case k1_u3 => k_asm
          case k2_u3 => k_asm
          case k3_u3 => k_asm
          case k4_u3 => k_asm
          case k5_u3 => k_asm
          case k6_u3 => first | exact rfl | assumption
          case k7_u3 => ktr_room
          case ex_u3 => k_mem
          case U2_u3 => k_upd
          case U1_u3 => k_updF
          case n1_u3 => exact hxd.symm
          case n2_u3 => exact hxl.symm
          case n3_u3 => exact nld
          case h1_u3 => exact h1
          case h2_u3 => exact hdy
          case h3_u3 => decide
          case h4_u3 => omega
          intro D1 c1 n1 h1' tk1 F1 N1 l1r
          -- E8b
          k_steps
          -- E8c
          unfold Hold
          (rename News _ _ _ _ => N9)
          refine ⟨rfl, _, _, _, _, rfl, by k_asm, fun p hp => N9 p ((fcons (by k_mem) (fcons (by k_mem) (fcons (by k_mem) (fcons (by k_mem) (fcons (by k_mem) (fcons (by k_mem) (app_one (by intro p9 hp9; first | ((repeat (first | exact hp9 | exact List.mem_append_left _ hp9 | exact List.mem_append_right _ hp9 | refine List.mem_cons_of_mem _ ?_)); done) | (simp only [List.mem_cons, List.mem_append]; simp only [hp9, true_or, or_true])) (by k_mem))))))) : ∀ p ∈ (d, meterD w.params k1 k2 k3 k4 k5 nm (.int tu t3) (.ref Df) (.ref l) (.ref 56)) :: (l, listOf (([] : List Value) ++ [Value.ref D1]).toArray n1) :: (x, instObj 367 d) :: (L' + 1, oM2) :: (TL, PySem.W.listOf (ys1 ++ [Value.ref Dw]).toArray (ys1 ++ [Value.ref Dw]).length) :: (Do, oDo) :: (R7 ++ [(D1, Row day 0 td ts .none c1)]), p ∈ _) p hp), (hJJ _ _ _).mpr ⟨D1, 0, td, ts, c1, [.ref D1], [], n1, .ref 56, [(D1, Row day 0 td ts .none c1)], rfl, rfl, .inl (by rw [show day + ((0 : Nat) : Int) = day by omega]; exact List.mem_cons_self ..), ⟨(l1r (x, _) (by k_mem)).symm, (l1r (d, _) (by k_mem)).symm, (l1r (l, _) (by k_mem)).symm⟩, .cons ⟨D1, td, ts, .none, c1, rfl, List.mem_cons_self .., rfl⟩ .nil, fcons (⟨fun p hp => l1r p (((by intro p9 hp9; first | ((repeat (first | exact hp9 | exact List.mem_append_left _ hp9 | exact List.mem_append_right _ hp9 | refine List.mem_cons_of_mem _ ?_)); done) | (simp only [List.mem_cons, List.mem_append]; simp only [hp9, true_or, or_true])) : ∀ p ∈ R7, p ∈ _) p hp), (l1r (d, _) (by k_mem)).symm, (l1r (l, _) (by k_mem)).symm, (l1r (x, _) (by k_mem)).symm, (l1r (Do, _) (by k_mem)).symm⟩) (fun _ h => nomatch h), by first | rfl | assumption, by first | rfl | assumption, by first | rfl | assumption, by first | rfl | assumption, by first | rfl | assumption, by first | rfl | assumption⟩, by first | rfl | assumption⟩
        -- E8d
        · have nD : ∀ {a : Addr} {o : Obj}, (a, o) ∈ (d, meterD w.params k1 k2 k3 k4 k5 nm (.int tu t3) (.ref Df) (.ref l) (.ref Dr)) :: (l, listOf (vs ++ [Value.ref D0]).toArray n0) :: (x, instObj 367 d) :: (L' + 1, oM2) :: (TL, PySem.W.listOf (ys1 ++ [Value.ref Dw]).toArray (ys1 ++ [Value.ref Dw]).length) :: (Do, oDo) :: R7 → D0 ≠ a := fun hm e => by have h9 := (N8 _ hm).2.2; dsimp only at h9; rw [← e, e0] at h9; cases h9
          have nD1 : D0 ≠ x ∧ D0 ≠ d ∧ D0 ≠ l := ⟨nD (by k_mem), nD (by k_mem), nD (by k_mem)⟩
          clear nD
          -- E9
          k_steps
          all_goals (try (exfalso; omega))
          try unfold Hold
          (rename News _ _ _ _ => N9)
          refine ⟨rfl, _, _, _, _, rfl, by k_asm, fun p hp => N9 p ((fcons (by k_mem) (fcons (by k_mem) (fcons (by k_mem) (fcons (by k_mem) (fcons (by k_mem) (fcons (by k_mem) (by rw [List.append_nil]; exact (by intro p9 hp9; first | ((repeat (first | exact hp9 | exact List.mem_append_left _ hp9 | exact List.mem_append_right _ hp9 | refine List.mem_cons_of_mem _ ?_)); done) | (simp only [List.mem_cons, List.mem_append]; simp only [hp9, true_or, or_true])))))))) : ∀ p ∈ (d, meterD w.params k1 k2 k3 k4 k5 nm (.int tu t3) (.ref Df) (.ref l) (.ref Dr)) :: (l, listOf (vs ++ [Value.ref D0]).toArray n0) :: (x, instObj 367 d) :: (L' + 1, oM2) :: (TL, PySem.W.listOf (ys1 ++ [Value.ref Dw]).toArray (ys1 ++ [Value.ref Dw]).length) :: (Do, oDo) :: (R7 ++ []), p ∈ _) p hp), (hJJ _ _ _).mpr ⟨D0, val0, t8, t9, c0, [], vs, n0, .ref Dr, [], rfl, List.append_nil _, .inr (by rw [show day + ((0 : Nat) : Int) = day by omega]; exact e0), nD1, .nil, (fun _ h => nomatch h), by first | rfl | assumption, by first | rfl | assumption, by first | rfl | assumption, by first | rfl | assumption, by first | rfl | assumption, by first | rfl | assumption⟩, by first | rfl | assumption⟩
      case cutB =>
        intro fl s' hC
        obtain ⟨rfl, h9, tk9, m1, nx0, rfl, F9, N9, hJ0, n6⟩ := hC
        -- E9b
        have hF0 : F0.length ≤ 1 := by rcases hVS with ⟨_, _, rfl⟩ | ⟨_, _, _, _, _, _, _, rfl⟩ <;> first | exact Nat.le_refl _ | exact Nat.zero_le _
        -- E9c
        have n7 := (by obtain ⟨_, _, _, _, _, _, _, _, _, _, _, _, _, _, _, _, _, z, _⟩ := (hJJ _ _ _).mp hJ0; exact z : m1 (Str.ofString "day") = some (.int day td))
        clear N8
        -- E10
        k_steps
        change wpAny _ _ _ _ _ _
        -- E10a
        (rename Fr _ _ _ _ => lF1)
        (with_unfolding_all refine' For_turns lF1 ?_)
        k_whole
        -- E10b
        k_steps
        unfold Hold
        (rename Fr _ _ _ _ => F9)
        (rename News _ _ _ _ => N9)
        -- E10c
        (rename IsRange _ _ _ _ _ _ _ _ => hRg)
        refine iter_rangeTurns (n := n) rfl hRg (small_one (by omega) (by omega) (by omega) (by omega)) (rsize (by omega)) F9 N9 (fun I4 lI4 => ?_)
        refine items_ind J ?turn9 ?done9 _ 0 _ _ rfl (Nat.zero_le _) trivial (fun p hp => Nat.ne_of_lt (lI4 p hp)) hJ0
        -- E11
        case turn9 =>
          intro i a v m9 nx h tk o ha _ hI hJ hav Fm ho Nn
          replace hJ := (hJJ _ _ _).mp hJ
          obtain ⟨Dl, vl, ta, tb, cl, ws, vs1, n2, rr, tl2, rfl, hvs, eDl, hDl, hws, htl2, m1, m2, m3, m4, m5, m6⟩ := hJ
          obtain ⟨hi, rfl⟩ := rangeItems_get ha
          obtain ⟨t9, rfl⟩ := hav
          obtain ⟨_, hvi, Di, ti, ui, ci, rfl, eDi⟩ := hys0.at (i := i) (b := re + (tot ds / f) * ((1 + (i : Int) : Int) : Rat)) (by rw [List.getElem?_map, List.getElem?_range hi]; rfl)
          have eDi' : Tk g' R7 Di (RatO (re + (tot ds / f) * ((1 + (i : Int) : Int) : Rat)) ti ui ci) := .inl (wR7 _ (sR8 _ (tR9 _ eDi)))
          have bI := hbr9 (re + (tot ds / f) * ((1 + (i : Int) : Int) : Rat)) (List.mem_map.mpr ⟨i, List.mem_range.mpr hi, rfl⟩)
          have hx1 : (ys1 ++ [Value.ref Dw])[(1 + (i : Int) - 1).toNat]? = some (.ref Di) := at_of hvi (by omega)
          have hj1 : (0 : Int) ≤ 1 + (i : Int) - 1 := by omega
          have hj2 : 1 + (i : Int) - 1 < 2 ^ 63 := by omega
          have hne9 := nzden (re + (tot ds / f) * ((1 + (i : Int) : Int) : Rat))
          have hlg9 := bd_log bI (by omega)
          have htu0 : 0 < tu := by omega
          have hwl := hws.length
          have hvl := congrArg List.length hvs
          rw [List.length_append, cRows_len] at hwl
          simp only [List.length_append, List.length_cons, List.length_nil] at hvl
          have hv9 : vs1.length < 100000 := by omega
          have hda1 : (1 : Int) ≤ day + (1 + (i : Int)) := by omega
          have hda2 : day + (1 + (i : Int)) ≤ 10000000 := by omega
          have hda3 : day + (i : Int) < day + (1 + (i : Int)) := by omega
          have y1 : @Ne Nat d I4 := hI (d, _) (List.mem_cons_self ..)
          have y2 : @Ne Nat l I4 := hI (l, _) (List.mem_cons_of_mem _ (List.mem_cons_self ..))
          have z1 : ∀ p ∈ R7 ++ tl2, p.1 ≠ d := List.forall_mem_append.mpr ⟨p3, fun q hq => (htl2 q hq).2.1⟩
          have z2 : ∀ p ∈ R7 ++ tl2, p.1 ≠ l := List.forall_mem_append.mpr ⟨p4, fun q hq => (htl2 q hq).2.2.1⟩
          clear F9 N9 lI4 hRg
          k_steps
          unfold Hold
          (rename _ = Int.fmod _ _ => vE); subst vE
          (rename (0 : Int) ≤ Int.fmod _ _ => vp)
          (rename Int.fmod _ _ < _ => vq)
          k_dflt (refine' read_snoc (tu := tu) (vs := vs1) (D0 := Dl) (day0 := day + (i : Int)) (val0 := vl) ?k1_u2 ?k2_u2 ?k3_u2 ?k4_u2 ?k5_u2 ?k6_u2 ?ex_u2 ?U2_u2 ?U1_u2 ?n1_u2 ?n2_u2 ?n3_u2 ?e0_u2 ?n0_u2 ?hl_u2 ?h5_u2 ?k7_u2 ?h1_u2 ?h2_u2 ?h3_u2 ?h4_u2 ?_)
          case k1_u2 => k_asm
          case k2_u2 => k_asm
          case k3_u2 => k_asm
          case k4_u2 => k_asm
          case k5_u2 => k_asm
          case k6_u2 => first | exact rfl | assumption
          case k7_u2 => ktr_room
          case ex_u2 => k_mem
          case U2_u2 => k_upd
          case U1_u2 => k_updF
          case n1_u2 => exact hxd.symm
          case n2_u2 => exact hxl.symm
          case n3_u2 => exact nld
          case e0_u2 => exact Tk.get (by k_asm) (by k_asm) eDl ((by intro p9 hp9; first | ((repeat (first | exact hp9 | exact List.mem_append_left _ hp9 | exact List.mem_append_right _ hp9 | refine List.mem_cons_of_mem _ ?_)); done) | (simp only [List.mem_cons, List.mem_append]; simp only [hp9, true_or, or_true])))
          case n0_u2 => exact hDl
          case hl_u2 => exact hv9
          case h5_u2 => exact hda3
          case h1_u2 => exact hda1
          case h2_u2 => exact hda2
          case h3_u2 => exact vp
          case h4_u2 => exact vq

          intro D3 c3 n3 h3' tk3 F3 N3 l3
          k_steps
          (try unfold Hold)
          (rename News _ _ _ _ => NN)
          refine unr_end ((d, _) :: (l, listOf ((vs1 ++ [Value.ref Dl]) ++ [Value.ref D3]).toArray n3) :: (x, instObj 367 d) :: (L' + 1, oM2) :: (TL, _) :: (Do, oDo) :: (R7 ++ (D3, _) :: tl2)) (by k_asm) NN (by k_mem) (fcons (by k_mem) (fcons (by k_mem) (fcons (by k_mem) (fcons (by k_mem) (fcons (by k_mem) (fcons (by k_mem) (sub_ins ((by intro p9 hp9; first | ((repeat (first | exact hp9 | exact List.mem_append_left _ hp9 | exact List.mem_append_right _ hp9 | refine List.mem_cons_of_mem _ ?_)); done) | (simp only [List.mem_cons, List.mem_append]; simp only [hp9, true_or, or_true]))) (by k_mem)))))))) (fcons y1 (fcons y2 (fcons (hI (x, _) (by k_mem)) (fcons (hI (L' + 1, _) (by k_mem)) (fcons (hI (TL, _) (by k_mem)) (fcons (hI (Do, _) (by k_mem)) (app_ins (fun p hp => hI p (((by intro p9 hp9; first | ((repeat (first | exact hp9 | exact List.mem_append_left _ hp9 | exact List.mem_append_right _ hp9 | refine List.mem_cons_of_mem _ ?_)); done) | (simp only [List.mem_cons, List.mem_append]; simp only [hp9, true_or, or_true])) : ∀ p ∈ R7 ++ tl2, p ∈ _) p hp)) (l3 (I4, _) (by k_mem)).symm))))))) ?_
          refine ⟨trivial, (hJJ _ _ _).mpr ⟨D3, _, _, _, _, ws ++ [.ref D3], vs1 ++ [.ref Dl], n3, .ref 56, _ :: tl2, rfl, by have h9 := congrArg (· ++ [Value.ref D3]) hvs; simpa using h9, .inl (by rw [show day + ((i + 1 : Nat) : Int) = day + (1 + (i : Int)) by omega]; exact List.mem_cons_self ..), ⟨(l3 (x, _) (by k_mem)).symm, (l3 (d, _) (by k_mem)).symm, (l3 (l, _) (by k_mem)).symm⟩, by rw [cRows_snoc, ← List.append_assoc]; exact (hws.mono fun _ _ y => y.mono fun _ _ e => List.mem_cons_of_mem _ e).snoc (row_new (List.mem_cons_self ..)),
            fcons (⟨fun p hp => l3 p (((by intro p9 hp9; first | ((repeat (first | exact hp9 | exact List.mem_append_left _ hp9 | exact List.mem_append_right _ hp9 | refine List.mem_cons_of_mem _ ?_)); done) | (simp only [List.mem_cons, List.mem_append]; simp only [hp9, true_or, or_true])) : ∀ p ∈ R7, p ∈ _) p hp), (l3 (d, _) (by k_mem)).symm, (l3 (l, _) (by k_mem)).symm, (l3 (x, _) (by k_mem)).symm, (l3 (Do, _) (by k_mem)).symm⟩) htl2, by first | rfl | assumption, by first | rfl | assumption, by first | rfl | assumption, by first | rfl | assumption, by first | rfl | assumption, by first | rfl | assumption⟩⟩

        -- E12
        case done9 =>
          intro m9 nx h tk hJ Fm Nn
          rw [List.length_map, List.length_range] at hJ
          replace hJ := (hJJ _ _ _).mp hJ
          obtain ⟨Dl, vl, ta, tb, cl, ws, vs1, n2, rr, tl2, rfl, hvs, eDl, hDl, hws, htl2, m1, m2, m3, m4, m5, m6⟩ := hJ
          have en : (1 + ((n - 1 : Nat) : Int)) = (n : Int) := by omega
          have eDw' : Tk g' R7 Dw (RatO (re + (tot ds / f) * ((n : Int) : Rat)) tw uw cw) := .inl (wR7 _ (sR8 _ (tR9 _ (by rw [en] at eDw; exact eDw))))
          have bI : Bd (br + 1800) (re + (tot ds / f) * ((n : Int) : Rat)) := hbr9 _ (by rw [range_last (by omega : 0 < n), en]; exact List.mem_append_right _ (List.mem_singleton.mpr rfl))
          have hne9 := nzden (re + (tot ds / f) * ((n : Int) : Rat))
          have hlg9 := bd_log bI (by omega)
          have hdn := den_posI (r := re + (tot ds / f) * ((n : Int) : Rat))
          have z1 : ∀ p ∈ R7 ++ tl2, p.1 ≠ d := List.forall_mem_append.mpr ⟨p3, fun q hq => (htl2 q hq).2.1⟩
          have z3 : ∀ p ∈ R7 ++ tl2, p.1 ≠ Do := List.forall_mem_append.mpr ⟨p5, fun q hq => (htl2 q hq).2.2.2.2⟩
          clear F9 N9 lI4 hRg
          k_steps
          (rename _ = Int.fmod _ _ => vE); subst vE
          (rename (0 : Int) ≤ Int.fmod _ _ => vp)
          (rename Int.fmod _ _ < _ => vq)
          have bF := fm_bits bI vp vq
          rename_i oF _ _ hDF _
          k_dflt (refine' frac_use ?k1_u1 ?k2_u1 ?k3_u1 ?k4_u1 ?k5_u1 ?k6_u1 ?k7_u1 ?k8_u1 ?k9_u1 ?k10_u1 ?k11_u1 ?k12_u1 ?k13_u1 ?_)
          case k1_u1 => k_asm
          case k2_u1 => k_asm
          case k3_u1 => k_asm
          case k4_u1 => k_asm
          case k5_u1 => k_asm
          case k6_u1 => first | exact rfl | assumption
          case k7_u1 => ktr_room
          case k8_u1 => ktr_units
          case k9_u1 => exact hne9
          case k10_u1 => exact bF
          case k11_u1 => exact bI.den
          case k12_u1 => omega
          case k13_u1 => omega

          intro r9 D9 t9 u9 c9 h9 tk9' eR bN bD F8 N8 l8
          obtain rfl : r9 = frc (re + (tot ds / f) * ((n : Int) : Rat)) := by rw [eR, frc_div]
          have l8' := allLt_of l8
          k_steps
          (try unfold Hold)
          (rename News _ _ _ _ => NN)
          refine unr_endL ((Do, oF) :: (d, _) :: (l, _) :: (x, instObj 367 d) :: (lr, PySem.W.listOf #[Value.ref Dt] (0 + 1)) :: (lc, PySem.W.listOf #[Value.ref TL] (0 + 1)) :: (D9, RatO (frc (re + (tot ds / f) * ((n : Int) : Rat))) t9 u9 c9) :: (R9 ++ tl2)) (by k_asm) NN (fun p hp => inR7 ((by intro p9 hp9; first | ((repeat (first | exact hp9 | exact List.mem_append_left _ hp9 | exact List.mem_append_right _ hp9 | refine List.mem_cons_of_mem _ ?_)); done) | (simp only [List.mem_cons, List.mem_append]; simp only [hp9, true_or, or_true]))) (wR7 _ (iR8 p hp)))
            (fcons (by k_mem) (fcons (by k_mem) (fcons (by k_mem) (fcons (by k_mem) (fcons (inR7 ((by intro p9 hp9; first | ((repeat (first | exact hp9 | exact List.mem_append_left _ hp9 | exact List.mem_append_right _ hp9 | refine List.mem_cons_of_mem _ ?_)); done) | (simp only [List.mem_cons, List.mem_append]; simp only [hp9, true_or, or_true]))) (wR7 _ kR8.1)) (fcons (inR7 ((by intro p9 hp9; first | ((repeat (first | exact hp9 | exact List.mem_append_left _ hp9 | exact List.mem_append_right _ hp9 | refine List.mem_cons_of_mem _ ?_)); done) | (simp only [List.mem_cons, List.mem_append]; simp only [hp9, true_or, or_true]))) (wR7 _ kR8.2)) (fcons (by k_mem) (sub_two (fun p hp => inR7 ((by intro p9 hp9; first | ((repeat (first | exact hp9 | exact List.mem_append_left _ hp9 | exact List.mem_append_right _ hp9 | refine List.mem_cons_of_mem _ ?_)); done) | (simp only [List.mem_cons, List.mem_append]; simp only [hp9, true_or, or_true]))) (wR7 _ (sR8 p hp))) ((by intro p9 hp9; first | ((repeat (first | exact hp9 | exact List.mem_append_left _ hp9 | exact List.mem_append_right _ hp9 | refine List.mem_cons_of_mem _ ?_)); done) | (simp only [List.mem_cons, List.mem_append]; simp only [hp9, true_or, or_true])))))))))))
            (fcons (its5 v0) (fcons (its5 v3) (fcons (its5 v4) (fcons (its5 (Nat.lt_trans w10 v0)) (fcons (its5 (Nat.lt_trans w5 v0)) (fcons (its5 (Nat.lt_trans w2 v0)) (fcons (fun q hq => (Nat.ne_of_lt (l8 q (inR7 ((by intro p9 hp9; first | ((repeat (first | exact hp9 | exact List.mem_append_left _ hp9 | exact List.mem_append_right _ hp9 | refine List.mem_cons_of_mem _ ?_)); done) | (simp only [List.mem_cons, List.mem_append]; simp only [hp9, true_or, or_true]))) (wR7 _ (iR8 q hq))))).symm) (List.forall_mem_append.mpr ⟨fun p hp => its5 (Nat.lt_trans (allLt_lt w11 p hp) v0), fun q hq p hp => ((htl2 q hq).1 p (wR7 _ (iR8 p hp))).symm⟩)))))))) ⟨⟨by k_mem, by k_mem, trivial⟩, ?_⟩
          clear NN
          have jd9 := l8 (d, _) (by k_mem)
          have jl9 := l8 (l, _) (by k_mem)
          have jx9 := l8 (x, _) (by k_mem)
          have jo9 := l8 (Do, _) (by k_mem)
          have jr9 : ∀ p ∈ R9, p.1 < D9 := fun p hp => l8 p (inR7 ((by intro p9 hp9; first | ((repeat (first | exact hp9 | exact List.mem_append_left _ hp9 | exact List.mem_append_right _ hp9 | refine List.mem_cons_of_mem _ ?_)); done) | (simp only [List.mem_cons, List.mem_append]; simp only [hp9, true_or, or_true]))) (wR7 _ (sR8 p hp)))
          clear l8 l8'
          k_steps
          (try dsimp only)
          refine leaveN_ (by k_asm) (by k_asm) ?_; intro kF kN kR kD; (try dsimp only)
          exact hret Do D9 oF _ _ _ _ _ ws ((D9, RatO (frc (re + (tot ds / f) * ((n : Int) : Rat))) t9 u9 c9) :: tl2) _ _ kF (news_cons kN (by k_mem) (news_cons kN (by k_mem) (news_cons (p := (l, listOf (VS ++ ws).toArray n2)) kN (by rw [hvs]; k_mem) (news_app2 (fun p hp => kN p (nt_sub p hp)) (news_cnt N hdr hlr kN (fcons (.inl rfl) (fcons (.inr (.inl rfl)) (fcons (.inr (.inr ⟨ex, by k_mem⟩)) (fun p hp => .inr (.inr ⟨rN p hp, nt_left p (sR9 p hp)⟩))))) kR))))) hDF (List.mem_cons_self ..) ⟨bN, bD⟩ (hws.mono fun _ _ y => y.mono fun _ _ e => List.mem_cons_of_mem _ e)
            (ne_cnt (q := (Do, oF)) hdr hlr (fcons (.inl rfl) (fcons (.inr (.inl rfl)) (fcons (.inr (.inr (Nat.ne_of_lt w10))) (fun p hp => .inr (.inr (allLt_mem w11 p (sR9 p hp))))))) (fun p hp => kD p hp _ (by k_mem))) (Nat.ne_of_lt w8) (Nat.ne_of_lt w9)
            (fcons ((Nat.ne_of_lt jo9).symm) (fun q hq => (htl2 q hq).2.2.2.2)) (fcons ((Nat.ne_of_lt jd9).symm) (fun q hq => (htl2 q hq).2.1)) (fcons ((Nat.ne_of_lt jl9).symm) (fun q hq => (htl2 q hq).2.2.1))
            (fun p hp q hq => ne_cnt (q := q) hdr hlr (fcons (.inl rfl) (fcons (.inr (.inl rfl)) (fcons (.inr (.inr (cons_p (P := fun q => x ≠ q.1) (Nat.ne_of_lt jx9) (fun q hq => (htl2 q hq).2.2.2.1.symm) q hq))) (fun p hp => .inr (.inr (cons_p (P := fun q => p.1 ≠ q.1) (Nat.ne_of_lt (jr9 p (sR9 p hp))) (fun q hq => (htl2 q hq).1 p (wR7 _ (sR8 _ (sR9 p hp)))) q hq)))))) (fun p hp => kD p hp q (nt_sub q hq)) p hp)


end
inductive Final : Prop where
  | mk : Final
theorem good_true {cl : Str → Option Addr} {mean : ExcName → Option Value} {ns : List Int} {s₁ s' : Shared} {L : Addr} {m : Str → Option Value} (F : Fr s₁.heap L s'.heap m) (hg : s'.gens = #[]) (hos : s'.os = s₁.os) :
    GoodW PySem.Challenge.rw_ui0509_14.row.claim cl mean [ofPy (PyData.list (ns.map PyData.int))] s₁ (.ok (.ret (.bool true))) s' := by
  refine goodW_bool F hg (fun _ => rfl) (postW_of rfl ?_ rfl) hos
  first | (with_unfolding_all exact w_eq_bool (w_res rfl) w_lit) | rfl | simp [WTm.value] | wtm_val
-- the plain law of 14
theorem div_mul {H f n : Int} (hf : 0 < f) : (0 : Rat) + (H : Rat) / (f : Rat) * (n : Rat) = ((H * n : Int) : Rat) / (f : Rat) := by
  rw [Rat.intCast_mul]; grind
theorem fl_count {H f n : Int} (hf : 0 < f) : fl (0 + (H : Rat) / (f : Rat) * (n : Rat)) = (H * n).fdiv f := by rw [div_mul hf, fl_div hf]
theorem fl_two {each : Rat} {a b : Int} : fl (frc (0 + each * (a : Rat)) + each * (b : Rat)) = fl (0 + each * ((a + b : Int) : Rat)) - fl (0 + each * (a : Rat)) := by
  rw [fl_frc, show (0 : Rat) + each * (a : Rat) + each * (b : Rat) = 0 + each * ((a + b : Int) : Rat) by rw [Rat.intCast_add]; grind]
theorem fl_lost {H f a b : Int} (hf : 0 < f) : fl (0 + (H : Rat) / (f : Rat) * (b : Rat)) = (H * (a + b) - (H * a).fmod f).fdiv f - (H * a).fdiv f := by
  rw [fl_count hf]
  have e : H * (a + b) - (H * a).fmod f = H * b + (H * a).fdiv f * f := by
    have := Int.mul_fdiv_add_fmod (H * a) f
    rw [Int.mul_add, Int.mul_comm ((H * a).fdiv f) f]; omega
  rw [e, Int.fdiv_eq_ediv_of_nonneg _ (by omega), Int.fdiv_eq_ediv_of_nonneg _ (by omega), Int.fdiv_eq_ediv_of_nonneg _ (by omega), Int.add_mul_ediv_right _ _ (by omega)]; omega
theorem cRows_two {tu day : Int} {each : Rat} (htu : 0 < tu) (a b : Nat) :
    cRows tu day 0 0 each (a + b) = cRows tu day 0 0 each a ++ cRows tu (day + (a : Int)) ((0 + fl (0 + each * ((a : Int) : Rat))).fmod tu) (frc (0 + each * ((a : Int) : Rat))) each b := by
  unfold cRows
  rw [List.range_add, List.map_append, List.map_map]
  congr 1
  refine List.map_congr_left fun i _ => ?_
  show cRow tu day 0 0 each (1 + ((a + i : Nat) : Int)) = _
  have e : 1 + ((a + i : Nat) : Int) = (a : Int) + (1 + (i : Int)) := by omega
  rw [e]
  unfold cRow
  rw [fl_two]
  refine Prod.ext ?_ (Prod.ext ?_ rfl)
  · show day + _ = day + _ + _; omega
  · dsimp only
    rw [Int.fmod_eq_emod_of_nonneg _ (by omega), Int.fmod_eq_emod_of_nonneg _ (by omega), Int.fmod_eq_emod_of_nonneg _ (by omega), Int.emod_add_emod]
    congr 1; omega
-- the rows of the second meter where something lies between the counts
structure R14 (tu day : Int) (rows : List MRow) (u lst : Int) : Prop where
  us : usum (stepsF tu rows) = u
  iu : ∀ q ∈ stepsF tu rows, InUse day lst q
  hd : ∃ v, rows[0]? = some (day, v, none)
  tl : ∃ rs v, rows = rs ++ [(lst, v, none)]
  le : day ≤ lst
theorem val_ok {tu x : Int} (htu : 0 < tu) : 0 ≤ x.fmod tu ∧ x.fmod tu < tu := by
  rw [Int.fmod_eq_emod_of_nonneg _ (by omega)]; exact ⟨Int.emod_nonneg _ (by omega), Int.emod_lt_of_pos _ htu⟩
theorem r14_first {tu day : Int} {each : Rat} (h0 : 0 ≤ each) (h1 : each ≤ ((tu - 2 : Int) : Rat)) (htu : 0 < tu) (htu2 : tu ≤ 1000000000000) (a : Nat) :
    R14 tu day ((day, 0, none) :: cRows tu day 0 0 each a) (fl (0 + each * ((a : Int) : Rat))) (day + (a : Int)) ∧ ∃ rs, (day, 0, none) :: cRows tu day 0 0 each a = rs ++ [(day + (a : Int), (0 + fl (0 + each * ((a : Int) : Rat))).fmod tu, none)] := by
  obtain ⟨c1, c2, rs, c3⟩ := chain_c (day := day) (start := 0) (re := 0) h0 h1 htu2 a
  rw [cRow_zero (by omega) htu Rat.le_refl (by grind)] at c1 c2 c3
  refine ⟨⟨?_, c2, ⟨0, rfl⟩, ⟨rs, _, c3⟩, by omega⟩, rs, c3⟩
  rw [c1, show (0 : Rat) + each * ((0 : Int) : Rat) = 0 by have : ((0 : Int) : Rat) = 0 := rfl; grind, fl_zero]; omega
theorem r14_more {tu day d' v u lst : Int} {each : Rat} {rs : List MRow} (h0 : 0 ≤ each) (h1 : each ≤ ((tu - 2 : Int) : Rat)) (htu2 : tu ≤ 1000000000000) (hv0 : 0 ≤ v) (hv1 : v < tu) (R : R14 tu day (rs ++ [(d', v, none)]) u lst) (b : Nat) :
    R14 tu day (rs ++ [(d', v, none)] ++ cRows tu d' v 0 each b) (u + fl (0 + each * ((b : Int) : Rat))) (d' + (b : Int)) := by
  obtain ⟨c1, c2, qs, c3⟩ := chain_c (day := d') (start := v) (re := 0) h0 h1 htu2 b
  rw [cRow_zero hv0 hv1 Rat.le_refl (by grind)] at c1 c2 c3
  obtain ⟨ru, ri, ⟨v0, rh⟩, ⟨ps, v1, rt⟩, rl⟩ := R
  have el : lst = d' := by
    have h : rs ++ [(d', v, none)] = ps ++ [(lst, v1, none)] := rt
    have : (d', v, (none : Option Int)) = (lst, v1, none) := by simpa using congrArg List.getLast? h
    exact (Prod.mk.inj this).1.symm
  subst el
  refine ⟨?_, ?_, ⟨v0, ?_⟩, ⟨rs ++ qs, (cRow tu lst v 0 each (b : Int)).2.1, ?_⟩, by omega⟩
  · rw [List.append_assoc, List.singleton_append, stepsF_app, usum_app, ru, c1, show (0 : Rat) + each * ((0 : Int) : Rat) = 0 by have : ((0 : Int) : Rat) = 0 := rfl; grind, fl_zero]; omega
  · intro q hq
    rw [List.append_assoc, List.singleton_append, stepsF_app] at hq
    rcases List.mem_append.mp hq with hq | hq
    · have := ri q hq; unfold InUse at *; omega
    · have := c2 q hq; unfold InUse at *; omega
  · rw [List.getElem?_append_left (by simp)]; exact rh
  · rw [List.append_assoc, List.singleton_append, c3, List.append_assoc]; rfl
theorem r14_read {tu day d' v u lst : Int} {rs : List MRow} (htu : 0 < tu) (R : R14 tu day (rs ++ [(d', v, none)]) u lst) : R14 tu day (rs ++ [(d', v, none)] ++ [(d' + 1, v, none)]) u (d' + 1) := by
  obtain ⟨ru, ri, ⟨v0, rh⟩, ⟨ps, v1, rt⟩, rl⟩ := R
  have el : lst = d' := by
    have h : rs ++ [(d', v, none)] = ps ++ [(lst, v1, none)] := rt
    have : (d', v, (none : Option Int)) = (lst, v1, none) := by simpa using congrArg List.getLast? h
    exact (Prod.mk.inj this).1.symm
  subst el
  have es : stepsF tu (rs ++ [(lst, v, none)] ++ [(lst + 1, v, none)]) = stepsF tu (rs ++ [(lst, v, none)]) ++ [(lst, lst + 1, 0)] := by
    rw [List.append_assoc, List.singleton_append, stepsF_app]
    congr 1
    show [(lst, lst + 1, (v - v).fmod tu)] = _
    rw [Int.sub_self, Int.fmod_eq_emod_of_nonneg _ (by omega)]; simp
  refine ⟨?_, ?_, ⟨v0, ?_⟩, ⟨_, _, rfl⟩, by omega⟩
  · rw [es, usum_app, ru]; show u + (0 + 0) = u; omega
  · rw [es]
    intro q hq
    rcases List.mem_append.mp hq with hq | hq
    · have := ri q hq; unfold InUse at *; omega
    · rw [List.mem_singleton.mp hq]; unfold InUse; dsimp only; omega
  · rw [List.getElem?_append_left (by simp)]; exact rh
theorem neLt2 {x d a : Nat} {o : Obj} {l : List (Addr × Obj)} (h : @LT.lt Nat _ d x) (H : AllLt d l) (hm : (a, o) ∈ l) : @Ne Nat x a := fun e => Nat.lt_irrefl _ (Nat.lt_trans (e ▸ h) (allLt_lt H _ hm))
theorem fr_name {h₀ h : Heap} {L : Addr} {m : Str → Option Value} (F : Fr h₀ L h m) : ∃ m', m' = m ∧ Fr h₀ L h m' := ⟨m, rfl, F⟩
theorem fr_at {m m' : Str → Option Value} (e : m' = m) (x : Str) (v : Value) (h : m x = some v) : m' x = some v := by rw [e]; exact h
theorem rep_get {n i : Nat} {a v : Value} (h : (List.replicate n a)[i]? = some v) : v = a := by
  rw [List.getElem?_replicate] at h
  split at h
  · exact (Option.some.inj h).symm
  · cases h
theorem len_rep {prog : Program} {w : World} {A : Around} {E : Value → Shared → Prop} {s : Shared} {h₀ : Heap} {L l : Addr} {news : List (Addr × Obj)} {v : Value} {n : Nat} {Q : Value → Shared → Prop} (N : News h₀ L s.heap news) (hm : (l, listOf (List.replicate 24 v).toArray n) ∈ news) (h : ∀ tk, Q (.int 24 tk) { s with toks := tk + 1 }) :
    wpAny (model prog w) A (call (.builtin "len") [.ref l]) Q E s := lst_len N hm (by rw [List.length_replicate]; decide) (by rw [List.length_replicate]; exact h)
inductive Mark8L : Prop where
  | mk : Mark8L
theorem two_ofL {α : Type} {l : List α} (h : l.length = 2) : ∃ x y, l = [x, y] := by
  match l, h with
  | [x, y], _ => exact ⟨x, y, rfl⟩
theorem news_last {h₀ h : Heap} {L : Addr} {led R : List (Addr × Obj)} (e : R = led) (N : News h₀ L h R) (hne : led ≠ []) : News h₀ L h (led.getLast hne :: R) := fun p hp => (List.mem_cons.mp hp).elim (fun q => N p (by rw [q, e]; exact List.getLast_mem hne)) (N p)
theorem int_nonneg {x : Int} (h : 0 ≤ x) : ¬ (x : Rat) < 0 := by
  have h2 : ((0 : Int) : Rat) ≤ (x : Rat) := Rat.intCast_le_intCast.mpr h
  have h3 : ((0 : Int) : Rat) = 0 := rfl
  grind
theorem fac_ok {v x : Int} (h0 : 0 ≤ v) (h1 : v < 4) (hx0 : 0 ≤ x) (hx : x < 40) : 7 ≤ [100, 7, 24 * (1 + x), 11].getD v.toNat 0 ∧ [100, 7, 24 * (1 + x), 11].getD v.toNat 0 ≤ 960 ∧ Builtin.Int.intBits ([100, 7, 24 * (1 + x), 11].getD v.toNat 0) ≤ 64 := by
  have h : v = 0 ∨ v = 1 ∨ v = 2 ∨ v = 3 := by omega
  have k : 7 ≤ [100, 7, 24 * (1 + x), 11].getD v.toNat 0 ∧ [100, 7, 24 * (1 + x), 11].getD v.toNat 0 ≤ 960 := by
    rcases h with rfl | rfl | rfl | rfl
    · show (7 : Int) ≤ 100 ∧ (100 : Int) ≤ 960; omega
    · show (7 : Int) ≤ 7 ∧ (7 : Int) ≤ 960; omega
    · show (7 : Int) ≤ 24 * (1 + x) ∧ 24 * (1 + x) ≤ 960; omega
    · show (7 : Int) ≤ 11 ∧ (11 : Int) ≤ 960; omega
  exact ⟨k.1, k.2, PySem.intBits_le_64 (by omega) (by omega)⟩
-- the law's end
theorem news_cut2 {h₀ h : Heap} {L a b : Addr} {o o' : Obj} {news : List (Addr × Obj)} (N : News h₀ L h news) (ha : (a, o) ∈ news) (hb : (b, o') ∈ news) :
    ∃ R, News h₀ L h ((a, o) :: (b, o') :: R) ∧ (∀ (x : Addr) (q : Obj), (x, q) ∈ news → x ≠ a → x ≠ b → (x, q) ∈ R) ∧ (∀ p ∈ R, p.1 ≠ a) ∧ (∀ p ∈ R, p.1 ≠ b) := by
  refine ⟨news.filter (fun p => decide (p.1 ≠ a ∧ p.1 ≠ b)), fun p hp => ?_, fun x q hp h1 h2 => List.mem_filter.mpr ⟨hp, decide_eq_true ⟨h1, h2⟩⟩, fun p hp => (of_decide_eq_true (List.mem_filter.mp hp).2).1, fun p hp => (of_decide_eq_true (List.mem_filter.mp hp).2).2⟩
  rcases List.mem_cons.mp hp with rfl | hp
  · exact N _ ha
  · rcases List.mem_cons.mp hp with rfl | hp
    · exact N _ hb
    · exact N _ (List.mem_filter.mp hp).1
theorem fold_rep : ∀ (n : Nat) (a r : Rat), (List.replicate n r).foldl (· + ·) a = a + ((n : Int) : Rat) * r
  | 0, a, r => by
    have h : (((0 : Nat) : Int) : Rat) = 0 := rfl
    show a = a + (((0 : Nat) : Int) : Rat) * r
    rw [h]; grind
  | n + 1, a, r => by
    rw [List.replicate_succ, List.foldl_cons, fold_rep n (a + r) r, show (((n + 1 : Nat) : Int) : Rat) = ((n : Int) : Rat) + 1 by rw [show ((n + 1 : Nat) : Int) = (n : Int) + 1 by omega, Rat.intCast_add]; rfl]
    grind
theorem each14 {x F : Int} : tot (List.replicate 24 (x : Rat)) / (F : Rat) = ((24 * x : Int) : Rat) / (F : Rat) := by
  unfold tot
  rw [fold_rep, Rat.intCast_mul]
  have h : (((24 : Nat) : Int) : Rat) = ((24 : Int) : Rat) := rfl
  rw [h]; grind
theorem each_bd {H F : Int} (h0 : 0 ≤ H) (h1 : H ≤ 960) (hF : 7 ≤ F) : 0 ≤ (H : Rat) / (F : Rat) ∧ (H : Rat) / (F : Rat) ≤ ((5000 - 2 : Int) : Rat) ∧ ¬ ((5000 - 1 : Int) : Rat) < (H : Rat) / (F : Rat) := by
  have hp : (0 : Rat) < (F : Rat) := Rat.intCast_lt_intCast.mpr (by omega : (0 : Int) < F)
  have hq : (H : Rat) = (H : Rat) / (F : Rat) * (F : Rat) := by grind
  have g0 : ((0 : Int) : Rat) ≤ (H : Rat) := Rat.intCast_le_intCast.mpr h0
  have g1 : (H : Rat) ≤ (((5000 - 2) * F : Int) : Rat) := Rat.intCast_le_intCast.mpr (by omega)
  rw [Rat.intCast_mul, hq] at g1
  have g2 := Rat.le_of_mul_le_mul_right g1 hp
  have g3 : (0 : Rat) * (F : Rat) ≤ (H : Rat) / (F : Rat) * (F : Rat) := by rw [← hq]; have : ((0 : Int) : Rat) = 0 := rfl; grind
  have g4 : ((5000 - 2 : Int) : Rat) < ((5000 - 1 : Int) : Rat) := Rat.intCast_lt_intCast.mpr (by decide)
  refine ⟨Rat.le_of_mul_le_mul_right g3 hp, g2, fun h => ?_⟩
  grind
theorem frc_bd {H a F : Int} (hF : 0 < F) (hF2 : F ≤ 1000) : Bd 64 (frc (0 + (H : Rat) / (F : Rat) * (a : Rat))) := by
  have hp : (0 : Rat) < (F : Rat) := Rat.intCast_lt_intCast.mpr (by omega : (0 : Int) < F)
  have e : frc (0 + (H : Rat) / (F : Rat) * (a : Rat)) = Rat.divInt ((H * a).fmod F) F := by
    rw [div_mul hF]
    have e2 : (H * a).fmod F = H * a - F * (H * a).fdiv F := by have := Int.mul_fdiv_add_fmod (H * a) F; omega
    unfold frc
    rw [fl_div hF, Rat.divInt_eq_div, e2, Rat.intCast_sub, Rat.intCast_mul]
    grind
  rw [e]
  have hb := val_ok hF (x := H * a)
  have h1 := num_le ((H * a).fmod F) F
  have h2 := den_le (u := (H * a).fmod F) (l := F) (by omega)
  exact ⟨PySem.intBits_le_64 (by omega) (by omega), PySem.intBits_le_64 (by omega) (by omega)⟩
def optP : Option Int → PyData
  | none => .none
  | some n => .int n
def rowP (r : MRow) : PyData := .tuple [.int r.1, .int r.2.1, optP r.2.2]
theorem optP_rd {h : Heap} {u : Value} {o : Option Int} (x : OptV u o) : Rd h u (optP o) := by
  match o, x with
  | none, x => rw [show u = Value.none from x]; exact Rd.none
  | some n, x => obtain ⟨t, rfl⟩ : ∃ t, u = Value.int n t := x; exact Rd.int
theorem RowN.rd {P : Addr → Obj → Prop} {h : Heap} {v : Value} {r : MRow} (hP : ∀ a o, P a o → h.get? a = some o) (x : RowN P v r) : Rd h v (rowP r) := by
  obtain ⟨D, t, t', u, c, rfl, k, o⟩ := x
  exact Rd.tuple (vs := [_, _, _]) (hP _ _ k) (.cons .int (.cons .int (.cons (optP_rd o) .nil)))
theorem shaped_list {ds : List PyData} (h : ∀ d ∈ ds, d.canLay0 = true ∧ d.depth ≤ 8) : SeqAt.shaped (.list ds) = true := by
  have h : PyData.canLayAll0 ds = true ∧ PyData.depthAll ds ≤ 8 := by
    induction ds with
    | nil => exact ⟨rfl, by decide⟩
    | cons l ls ih =>
      have h1 := h l (List.mem_cons_self ..)
      have h2 := ih fun d hd => h d (List.mem_cons_of_mem _ hd)
      simp only [PyData.canLayAll0, PyData.depthAll, h2.1, h1.1, Bool.and_true]
      have := h1.2; have := h2.2
      exact ⟨by first | trivial | rfl, by omega⟩
  unfold SeqAt.shaped
  simp only [PyData.canLay0, PyData.depth, h.1, Bool.true_and]
  have := h.2
  exact decide_eq_true (by omega)
theorem rowP_sh (r : MRow) : (rowP r).canLay0 = true ∧ (rowP r).depth ≤ 8 := by
  obtain ⟨a, b, o⟩ := r
  cases o with
  | none => exact ⟨rfl, by simp [rowP, optP, PyData.depth, PyData.depthAll]⟩
  | some n => exact ⟨rfl, by simp [rowP, optP, PyData.depth, PyData.depthAll]⟩
theorem rows_shaped (rs : List MRow) : SeqAt.shaped (.list (rs.map rowP)) = true := shaped_list fun d hd => by
  obtain ⟨b, _, rfl⟩ := List.mem_map.mp hd
  exact rowP_sh b
theorem last2 {P : Addr → Obj → Prop} {ws : List Value} {rows rs : List MRow} {dl vl : Int} (x : All2 (RowN P) ws rows) (e : rows = rs ++ [(dl, vl, none)]) :
    ∃ vs D0 t t' c, ws = vs ++ [Value.ref D0] ∧ All2 (RowN P) vs rs ∧ P D0 (Row dl vl t t' .none c) := by
  subst e
  obtain ⟨vs, v9, rfl, h1, ⟨D0, t, t', u, c, rfl, e0, ou⟩⟩ := x.unsnoc9
  obtain rfl : u = Value.none := ou
  exact ⟨vs, D0, t, t', c, rfl, h1, e0⟩
theorem first_rows {tu day : Int} {E : Rat} {a : Int} (ha : 1 ≤ a) : ∃ rs, (day, (0 : Int), (none : Option Int)) :: cRows tu day 0 0 E a.toNat = rs ++ [(day + a, (0 + fl (0 + E * (a : Rat))).fmod tu, none)] ∧ ∀ r ∈ rs, r.1 ≠ day + a := by
  obtain ⟨k, rfl⟩ : ∃ k : Nat, a = 1 + (k : Int) := ⟨(a - 1).toNat, by omega⟩
  have e : (1 + (k : Int)).toNat = k + 1 := by omega
  refine ⟨(day, 0, none) :: cRows tu day 0 0 E k, by rw [e, cRows_snoc]; rfl, fcons (by dsimp only; omega) (fun r hr => ?_)⟩
  unfold cRows at hr
  obtain ⟨i, hi, rfl⟩ := List.mem_map.mp hr
  have := List.mem_range.mp hi
  show day + (1 + (i : Int)) ≠ _
  omega
theorem two_rows {tu day : Int} {E : Rat} {a b : Int} (htu : 0 < tu) (ha : 1 ≤ a) (hb : 1 ≤ b) {rs : List MRow} {d v : Int} (e : (day, (0 : Int), (none : Option Int)) :: cRows tu day 0 0 E a.toNat = rs ++ [(d, v, none)]) (ed : d = day + a) (ev : v = (0 + fl (0 + E * (a : Rat))).fmod tu) :
    (day, (0 : Int), (none : Option Int)) :: cRows tu day 0 0 E (a + b).toNat = rs ++ [(d, v, none)] ++ cRows tu d v (frc (0 + E * (a : Rat))) E b.toNat := by
  have ea : ((a.toNat : Nat) : Int) = a := by omega
  rw [show (a + b).toNat = a.toNat + b.toNat by omega, cRows_two htu, ea, ← e, ed, ev]; rfl
def frm {h₀ h : Heap} {L : Addr} {m : Str → Option Value} (_ : Fr h₀ L h m) : Str → Option Value := m
theorem all2_rep {α β : Type} {R : α → β → Prop} {a : α} {b : β} (h : R a b) : ∀ n : Nat, All2 R (List.replicate n a) (List.replicate n b)
  | 0 => .nil
  | n + 1 => .cons h (all2_rep h n)
theorem rep_bd {n : Nat} {r : Rat} (h : Bd 64 r) : ∀ q ∈ List.replicate n r, Bd 64 q := fun q hq => by rw [List.eq_of_mem_replicate hq]; exact h
-- the kinds: what lies between the two counts
inductive K14 (kind day ca : Int) (E re : Rat) (rows : List MRow) (d v : Int) : Prop where
  | zero (hk : kind = 0) (er : re = frc (0 + E * (ca : Rat))) (ed : d = day + ca) (ev : v = (0 + fl (0 + E * (ca : Rat))).fmod 5000) (e : (day, (0 : Int), (none : Option Int)) :: cRows 5000 day 0 0 E ca.toNat = rows)
  | more (hk : kind = 1 ∨ kind = 2) (er : re = 0) (hr : R14 5000 day rows (fl (0 + E * (ca : Rat))) d)
theorem mem1 {α : Type} {p : α} {l R : List α} (e : R = p :: l) : p ∈ R := by rw [e]; exact List.mem_cons_self ..
theorem mem2 {α : Type} {p q : α} {l R : List α} (e : R = q :: p :: l) : p ∈ R := by rw [e]; exact List.mem_cons_of_mem _ (List.mem_cons_self ..)
theorem isl {h₀ h : Heap} {L l : Addr} {vs : List Value} {n : Nat} {news : List (Addr × Obj)} (N : News h₀ L h news) (hm : (l, listOf vs.toArray n) ∈ news) : h.IsList l vs.toArray := ⟨_, N.get hm, rfl, n, rfl⟩
theorem cast_ne {n : Int} (h : n ≠ 0) : (n : Rat) ≠ 0 := fun e => h (Rat.intCast_inj.mp (e.trans (rfl : (0 : Rat) = ((0 : Int) : Rat))))
theorem mem3 {α : Type} {p q r : α} {l R : List α} (e : R = q :: r :: p :: l) : p ∈ R := by rw [e]; exact List.mem_cons_of_mem _ (List.mem_cons_of_mem _ (List.mem_cons_self ..))
theorem sub3 {α : Type} {p q r : α} {l R : List α} (e : R = q :: r :: p :: l) : ∀ x ∈ l, x ∈ R := fun x hx => by rw [e]; exact List.mem_cons_of_mem _ (List.mem_cons_of_mem _ (List.mem_cons_of_mem _ hx))
theorem first_rows2 {tu day : Int} {E : Rat} {a : Int} (htu : 0 < tu) (ha : 1 ≤ a) : ∃ rs v, v = (0 + fl (0 + E * (a : Rat))).fmod tu ∧ 0 ≤ v ∧ v < tu ∧ (day, (0 : Int), (none : Option Int)) :: cRows tu day 0 0 E a.toNat = rs ++ [(day + a, v, none)] ∧ ∀ r ∈ rs, r.1 ≠ day + a := by
  obtain ⟨rs, e, h⟩ := first_rows (tu := tu) (day := day) (E := E) ha
  exact ⟨rs, _, rfl, (val_ok htu).1, (val_ok htu).2, e, h⟩
theorem r14_first2 {tu day : Int} {E : Rat} {a : Int} (h0 : 0 ≤ E) (h1 : E ≤ ((tu - 2 : Int) : Rat)) (htu : 0 < tu) (htu2 : tu ≤ 1000000000000) (ha : 1 ≤ a) : R14 tu day ((day, (0 : Int), (none : Option Int)) :: cRows tu day 0 0 E a.toNat) (fl (0 + E * (a : Rat))) (day + a) := by
  have h := (r14_first (day := day) h0 h1 htu htu2 a.toNat).1
  rw [show ((a.toNat : Nat) : Int) = a by omega] at h
  exact h
theorem rot3 {h₀ h : Heap} {L : Addr} {p q r : Addr × Obj} {l : List (Addr × Obj)} (N : News h₀ L h (p :: q :: r :: l)) : ∃ R, R = p :: l ∧ News h₀ L h (q :: r :: R) :=
  ⟨_, rfl, fun x hx => by
    rcases List.mem_cons.mp hx with rfl | hx
    · exact N _ (List.mem_cons_of_mem _ (List.mem_cons_self ..))
    · rcases List.mem_cons.mp hx with rfl | hx
      · exact N _ (List.mem_cons_of_mem _ (List.mem_cons_of_mem _ (List.mem_cons_self ..)))
      · rcases List.mem_cons.mp hx with rfl | hx
        · exact N _ (List.mem_cons_self ..)
        · exact N _ (List.mem_cons_of_mem _ (List.mem_cons_of_mem _ (List.mem_cons_of_mem _ hx)))⟩
theorem sub1 {α : Type} {p : α} {l l' R : List α} (e : R = p :: (l ++ l')) : (∀ x ∈ l, x ∈ R) ∧ (∀ x ∈ l', x ∈ R) := ⟨fun x hx => by rw [e]; exact List.mem_cons_of_mem _ (List.mem_append_left _ hx), fun x hx => by rw [e]; exact List.mem_cons_of_mem _ (List.mem_append_right _ hx)⟩
theorem ne1 {a d : Addr} {o : Obj} {l l' R : List (Addr × Obj)} (e : R = (a, o) :: (l ++ l')) (h1 : a ≠ d) (h2 : ∀ p ∈ l, p.1 ≠ d) (h3 : ∀ p ∈ l', p.1 ≠ d) : ∀ p ∈ R, p.1 ≠ d := by
  rw [e]; exact fcons h1 (List.forall_mem_append.mpr ⟨h2, h3⟩)
inductive Mark9L : Prop where
  | mk : Mark9L
inductive MarkM : Prop where
  | mk : MarkM
inductive MarkQ : Prop where
  | mk : MarkQ
theorem kind_name {v : Int} (h : 0 ≤ v) (h1 : v < 3) : ∃ k, k = v ∧ 0 ≤ k ∧ k < 3 := ⟨_, rfl, h, h1⟩
abbrev at9 {h₀ h : Heap} {L : Addr} {m : Str → Option Value} (_ : Fr h₀ L h m) (h9 : Heap) (m9 : Str → Option Value) : Prop := Fr h₀ L h9 m9
abbrev ats {h₀ h : Heap} {L : Addr} {l : List (Addr × Obj)} (_ : News h₀ L h l) (h9 : Heap) (l9 : List (Addr × Obj)) : Prop := News h₀ L h9 l9
theorem row_ne {h₀ h : Heap} {L D x C dd : Addr} {news : List (Addr × Obj)} {a b : Int} {t t' : Tok} {u : Value} {c : Nat} (N : News h₀ L h news) (h1 : (D, Row a b t t' u c) ∈ news) (h2 : (x, instObj C dd) ∈ news) : D ≠ x := fun e => by
  subst e
  have h9 := (N.get h1).symm.trans (N.get h2)
  cases h9
theorem corr_hv {h₀ h : Heap} {L d l x C dd : Addr} {mo lo : Obj} {R : List (Addr × Obj)} {vs : List Value} {rs : List MRow} {dl : Int} (N : News h₀ L h ((d, mo) :: (l, lo) :: R)) (hx : (x, instObj C dd) ∈ R) (aD : ∀ p ∈ R, p.1 ≠ d) (aL : ∀ p ∈ R, p.1 ≠ l) (hv : All2 (RowN (Led R)) vs rs) (hr : ∀ r ∈ rs, r.1 ≠ dl) :
    ∀ (i : Nat) v, vs[i]? = some v → ∃ (D : Addr) (da va : Int) (t t' : Tok) (u : Value) (c : Nat), v = .ref D ∧ h.get? D = some (Row da va t t' u c) ∧ (D ≠ x ∧ D ≠ d ∧ D ≠ l) ∧ da ≠ dl := fun i v hi => by
  obtain ⟨r, h1, D, t, t', u, c, rfl, h2, _⟩ := hv.get hi
  have h3 := List.mem_cons_of_mem (d, mo) (List.mem_cons_of_mem (l, lo) h2)
  exact ⟨D, _, _, t, t', u, c, rfl, N.get h3, ⟨row_ne N h3 (List.mem_cons_of_mem _ (List.mem_cons_of_mem _ hx)), aD _ h2, aL _ h2⟩, hr _ (List.mem_of_getElem? h1)⟩
inductive Held (P : Prop) : Prop where
  | mk (h : P)
abbrev same {h₀ h : Heap} {L : Addr} {l : List (Addr × Obj)} (_ : News h₀ L h l) (h9 : Heap) : Prop := News h₀ L h9 l
inductive LV14 (kd H ca F lv : Int) : Prop where
  | zero (h : kd = 0) (e : lv = 0)
  | more (h : 0 < kd) (e : lv = (H * ca).fmod F)
theorem behind_val {kd day ca cb H F lv d v : Int} {E re : Rat} {rows : List MRow} (hF : 0 < F) (eE : E = (H : Rat) / (F : Rat)) (K : K14 kd day ca E re rows d v) (V : LV14 kd H ca F lv) :
    fl (re + E * (cb : Rat)) = (H * (ca + (cb + 0)) - lv).fdiv F - (H * ca).fdiv F := by
  rw [show ca + (cb + 0) = ca + cb by omega]
  subst eE
  rcases K with ⟨hk, er, _, _, _⟩ | ⟨hk, er, _⟩
  · rcases V with ⟨_, rfl⟩ | ⟨h, _⟩
    · rw [er, fl_two, fl_count hF, fl_count hF]; simp
    · omega
  · rcases V with ⟨h, _⟩ | ⟨_, rfl⟩
    · omega
    · rw [er, fl_lost hF]
theorem whole_val {H F x y : Int} {E : Rat} (hF : 0 < F) (eE : E = (H : Rat) / (F : Rat)) (e : x = y) : fl (0 + E * (x : Rat)) = (H * y).fdiv F := by subst e; rw [eE, fl_count hF]
theorem fz_log {F : Int} (h : 7 ≤ F) (h1 : F ≤ 960) : F.natAbs.log2 < 9000 := by
  have h2 : F.natAbs.log2 < 10 := (Nat.log2_lt (by omega)).mpr (by show _ < 1024; omega)
  omega
abbrev tks {h₀ h : Heap} {L : Addr} {l : List (Addr × Obj)} (_ : News h₀ L h l) (l9 : List (Addr × Obj)) (D : Addr) (o : Obj) : Prop := Tk h₀ l9 D o
theorem rows_end {tu dl vl cb : Int} {re E : Rat} {qs : List MRow} (hb : 1 ≤ cb) : ∃ rs v, (qs ++ [(dl, vl, (none : Option Int))]) ++ ([] ++ cRows tu dl vl re E cb.toNat) = rs ++ [(dl + cb, v, none)] := by
  obtain ⟨k, rfl⟩ : ∃ k : Nat, cb = 1 + (k : Int) := ⟨(cb - 1).toNat, by omega⟩
  have e : (1 + (k : Int)).toNat = k + 1 := by omega
  refine ⟨(qs ++ [(dl, vl, none)]) ++ cRows tu dl vl re E k, (cRow tu dl vl re E (1 + (k : Int))).2.1, ?_⟩
  rw [e, cRows_snoc, List.nil_append, ← List.append_assoc]; rfl
theorem rows_len {α : Type} {tu dl vl cb : Int} {re E : Rat} {qs : List MRow} {vs : List α} {v : α} {R : α → MRow → Prop} (h : All2 R (vs ++ [v]) (qs ++ [(dl, vl, (none : Option Int))])) (hv : vs.length ≤ 10) (hb : cb ≤ 5) : ((qs ++ [(dl, vl, (none : Option Int))]) ++ ([] ++ cRows tu dl vl re E cb.toNat)).length ≤ 1000 := by
  have h1 := h.length
  simp only [List.length_append, List.length_singleton] at h1
  simp only [List.length_append, List.length_singleton, List.length_nil, cRows_len]
  omega
theorem rows_zero {day ca cb d v : Int} {E re : Rat} {rows : List MRow} {kd : Int} {qs : List MRow} (ha : 1 ≤ ca) (hb : 1 ≤ cb) (hk : kd = 0) (er : rows = qs ++ [(d, v, none)]) (K : K14 kd day ca E re rows d v) :
    [(day, (0 : Int), (none : Option Int))] ++ cRows 5000 day 0 0 E (ca + cb).toNat = (qs ++ [(d, v, none)]) ++ ([] ++ cRows 5000 d v re E cb.toNat) := by
  rcases K with ⟨_, e1, ed, ev, e⟩ | ⟨h, _, _⟩
  · rw [e1, List.nil_append, ← two_rows (by decide) ha hb (e.trans er) ed ev]; rfl
  · omega
theorem rows_more {day ca cb d v : Int} {E re : Rat} {kd : Int} {qs : List MRow} (h0 : 0 ≤ E) (h1 : E ≤ ((5000 - 2 : Int) : Rat)) (hb : 1 ≤ cb) (hv0 : 0 ≤ v) (hv1 : v < 5000) (hk : kd ≠ 0) (K : K14 kd day ca E re (qs ++ [(d, v, none)]) d v) :
    re = 0 ∧ R14 5000 day ((qs ++ [(d, v, none)]) ++ ([] ++ cRows 5000 d v re E cb.toNat)) (fl (0 + E * (ca : Rat)) + fl (0 + E * (cb : Rat))) (d + cb) := by
  rcases K with ⟨h, _, _, _, _⟩ | ⟨_, er, hr⟩
  · exact absurd h hk
  · refine ⟨er, ?_⟩
    have h := r14_more h0 h1 (by decide) hv0 hv1 hr cb.toNat
    rw [show ((cb.toNat : Nat) : Int) = cb by omega] at h
    rw [er, List.nil_append]
    exact h
theorem R14.uses {tu day u lst : Int} {rows rs : List MRow} {v : Int} (R : R14 tu day rows u lst) (e : rows = rs ++ [(lst, v, none)]) : ∃ rf ra : MRow, rows[0]? = some rf ∧ rows[rows.length - 1]? = some ra ∧ day = rf.1 ∧ lst = ra.1 ∧ usum (stepsF tu rows) = u ∧ ∀ q ∈ stepsF tu rows, InUse day lst q := by
  obtain ⟨v0, h0⟩ := R.hd
  exact ⟨(day, v0, none), (lst, v, none), h0, by rw [e]; simp, rfl, rfl, R.us, R.iu⟩
theorem fdiv_rng {N F : Int} (hF : 7 ≤ F) (h0 : -100000 ≤ N) (h1 : N ≤ 100000) : -100000 ≤ N.fdiv F ∧ N.fdiv F ≤ 100000 := by
  rw [Int.fdiv_eq_ediv_of_nonneg _ (by omega)]
  exact ⟨Int.le_ediv_of_mul_le (by omega) (by omega), Int.ediv_le_of_le_mul (by omega) (by omega)⟩
theorem sum_bits {x ca cb F lv kd : Int} (hx : 0 ≤ x) (hx1 : x < 40) (ha : 1 ≤ ca ∧ ca ≤ 5) (hb : 1 ≤ cb ∧ cb ≤ 5) (hF : 7 ≤ F) (hF2 : F ≤ 960) (V : LV14 kd (24 * (1 + x)) ca F lv) :
    Builtin.Int.intBits ((24 * (1 + x) * ca).fdiv F + ((24 * (1 + x) * (ca + (cb + 0)) - lv).fdiv F - (24 * (1 + x) * ca).fdiv F)) ≤ 64 := by
  have p0 : 0 ≤ (1 + x) * (ca + (cb + 0)) := Int.mul_nonneg (by omega) (by omega)
  have p1 : (1 + x) * (ca + (cb + 0)) ≤ 40 * 10 := Int.mul_le_mul (by omega) (by omega) (by omega) (by omega)
  have e : 24 * (1 + x) * (ca + (cb + 0)) = 24 * ((1 + x) * (ca + (cb + 0))) := Int.mul_assoc ..
  have hl : 0 ≤ lv ∧ lv ≤ 960 := by
    rcases V with ⟨_, rfl⟩ | ⟨_, rfl⟩
    · omega
    · have := val_ok (tu := F) (x := 24 * (1 + x) * ca) (by omega); omega
  have h := fdiv_rng (N := 24 * (1 + x) * (ca + (cb + 0)) - lv) hF (by omega) (by omega)
  exact PySem.intBits_le_64 (by omega) (by omega)
theorem mul_back {S F : Int} {r : Rat} (hF : (F : Rat) ≠ 0) (e : r = Rat.divInt 1 F) : (S : Rat) * (F : Rat) * r = (S : Rat) := by
  rw [e, Rat.divInt_eq_div]
  have : ((1 : Int) : Rat) = 1 := rfl
  grind
end Mine
open Mine
local macro_rules | `(tactic| walk_at $s:str) => `(tactic| k_extra $s)
local macro_rules | `(tactic| k_in) => `(tactic| k_extra "k_in")
local macro_rules | `(tactic| ktr_units) => `(tactic| k_extra "ktr_units")
local macro_rules | `(tactic| bits_by_make) => `(tactic| k_extra "bits_by_make")
local macro_rules | `(tactic| size_fits) => `(tactic| k_extra "size_fits")
local macro_rules | `(tactic| k_all) => `(tactic| k_extra "k_all")
local macro_rules | `(tactic| k_ne) => `(tactic| k_extra "k_ne")
local macro_rules | `(tactic| kc_close) => `(tactic| k_extra "kc_close")
local macro_rules | `(tactic| wrow_close) => `(tactic| k_extra "wrow_close")
local macro_rules | `(tactic| k_mem) => `(tactic| k_extra "k_mem")
local macro_rules | `(tactic| k_qdec) => `(tactic| decide +kernel)
local macro_rules | `(tactic| k_lt $h:ident) => `(tactic| replace $h:ident := allLt_of $h)
local macro_rules | `(tactic| walk_at "i9") => `(tactic| (intro v' v0' v1' vE'))
local macro_rules | `(tactic| walk_at "i10") => `(tactic| (intro r' D' t' u' c' h' tk' rE' rN' rD' F' N' l1; (try k_lt l1)))
local macro_rules | `(tactic| walk_at "i11") => `(tactic| (intro D' t' u' c' h' tk' F' N' l1; (try k_lt l1)))
local macro_rules | `(tactic| walk_at "i3") => `(tactic| (intro h' tk' F' N'))
local macro_rules | `(tactic| walk_at "i7") => `(tactic| (intro tk9))
local macro_rules | `(tactic| walk_at "i17") => `(tactic| ((rename Mark8L => mk8)))
local macro_rules | `(tactic| walk_at "i18") => `(tactic| ((rename Mark8L => mk8); k_here; (with_reducible show wpAny _ _ (call (Value.builtin "sum") [Value.ref _]) _ _ _); (with_unfolding_all refine' sumK ?k0 ?k1 ?k2 ?k3 ?k4 ?_; (case k0 => with_unfolding_all rfl); (case k1 => k_asm); (case k2 => k_asm); (case k3 => exact isl (by k_asm) (by k_mem)); (case k4 => first | l_ints | l_intsW); k_whole); intro h' tk' t' F' N'))
local macro_rules | `(tactic| walk_at "i19") => `(tactic| ((rename Mark9L => mk9)))
local macro_rules | `(tactic| walk_at "i20") => `(tactic| ((rename MarkQ => mkS)))
local macro_rules | `(tactic| walk_at "i21") => `(tactic| (intro x' d' k0' k1' k2' k3' k4' k5' k6' k7' h' tk' F' N' nd' ax' ad'; (replace ax' := allNe_of ax'); (replace ad' := allNe_of ad')))
local macro_rules | `(tactic| walk_at "i22") => `(tactic| (intro x' d' k0' k1' k2' k3' k4' h' tk' F' N' nd' ax' ad'; (replace ax' := allNe_of ax'); (replace ad' := allNe_of ad')))
local macro_rules | `(tactic| walk_at "i23") => `(tactic| (intro x' d' jl' pd' cd' bd' k0' k1' k2' k3' k4' k5' gr' nj' opd' ocd' obd' h' tk' F' N' lo1' hs1' lo2' hs2' q1' q2' q3' q4' q5' q6'; (k_lt q6')))
namespace Tl
local macro_rules | `(tactic| walk_at "dummy") => `(tactic| fail)
local macro_rules | `(tactic| walk_at "dummy") => `(tactic| fail)
theorem Mine.words22 : True := by
  k_with_none
  k_with "ne9" => (first | with_reducible assumption | exact Ne.symm (by with_reducible assumption) | omega)
  k_with "k_in" => (refine' in_of ?z88fF ?z88fX; (case z88fF => k_asm); (case z88fX => k_asm))
  k_with "kc_close" => ((fail_if_success (rename Final => fin')); (with_reducible show GoodW _ _ _ _ _ _ _); refine Hold.out ?_)
  k_with "wrow_close" => ((fail_if_success (rename Final => fin')); (with_reducible show GoodW _ _ _ _ _ _ _); refine Hold.out ?_)
  k_with "hat9" => (first | exact News.get (by k_asm) (by k_mem) | exact Fr.keep (by k_asm) _ _ (by with_reducible assumption) | exact Tk.get (by k_asm) (by k_asm) (by with_reducible assumption) (by intro p9 hp9; first | ((repeat (first | exact hp9 | exact List.mem_append_left _ hp9 | exact List.mem_append_right _ hp9 | refine List.mem_cons_of_mem _ ?_)); done) | (simp only [List.mem_cons, List.mem_append]; simp only [hp9, true_or, or_true])) | exact Frag.In.keeps (by k_asm) (Fr.keep (by k_asm)) _ _ (by k_is))
  k_with "bits_by_make" => (with_reducible assumption)
  k_with "ktr_units" => ((try simp only [units_under_make, units_in1, units_deeper, Around.mark_units, units_caller]); (try dsimp only [ktrTop]); first | exact un1 (by with_reducible assumption) (Nat.le_of_ble_eq_true rfl) | exact un2 (by with_reducible assumption) (Nat.le_of_ble_eq_true rfl) | exact un3 (by with_reducible assumption) (Nat.le_of_ble_eq_true rfl) | (have hcL9 := cLine_is; omega))
  k_with "binaryOp Mod int int" => (k_here; (with_reducible refine mod_gen ?z89mp ?_); (case z89mp => decide); walk_at "i9")
  k_with "call ref" => (k_here; (with_reducible show wpAny _ _ (call (Value.ref 72) [Value.int _ _, Value.int _ _]) _ _ _); k_dflt (refine' frac_use ?z90k1 ?z90k2 ?z90k3 ?z90k4 ?z90k5 ?z90k6 ?z90k7 ?z90k8 ?z90k9 ?z90k10 ?z90k11 ?z90k12 ?z90k13 ?_; (case z90k1 => k_asm); (case z90k2 => k_asm); (case z90k3 => k_asm); (case z90k4 => k_asm); (case z90k5 => k_asm); (case z90k6 => first | exact rfl | assumption); (case z90k7 => first | exact Nat.le_of_ble_eq_true rfl | ktr_room); (case z90k8 => first | exact Nat.le_of_ble_eq_true rfl | ktr_units); (case z90k10 => bits_by_make); (case z90k11 => bits_by_make); (case z90k12 => decide); (case z90k13 => decide); (case z90k9 => first | exact nzden _ | omega | ((try k_fmods); omega) | (refine nzmul ?_ ?_ <;> first | exact nzden _ | omega)); k_whole); walk_at "i10"; (try k_sweep))
  k_with "call ref" => (k_here; (with_reducible show wpAny _ _ (call (Value.ref 72) [Value.int _ _, Value.int 1 _]) _ _ _); k_dflt (refine' frac_one ?z91k1 ?z91k2 ?z91k3 ?z91k4 ?z91k5 ?z91k6 ?z91k7 ?z91k8 ?z91k10 ?z91k12 ?_; (case z91k1 => k_asm); (case z91k2 => k_asm); (case z91k3 => k_asm); (case z91k4 => k_asm); (case z91k5 => k_asm); (case z91k6 => first | exact rfl | assumption); (case z91k7 => first | exact Nat.le_of_ble_eq_true rfl | ktr_room); (case z91k8 => first | exact Nat.le_of_ble_eq_true rfl | ktr_units); (case z91k10 => bits_by_make); (case z91k12 => decide); k_whole); walk_at "i11"; (try k_sweep))
  k_with "call ref" => (k_here; (with_reducible show wpAny _ _ (call (Value.ref 72) [Value.int _ _]) _ _ _); k_dflt (refine' frac_dflt ?z92k1 ?z92k2 ?z92k3 ?z92k4 ?z92k5 ?z92k6 ?z92k7 ?z92k8 ?z92k10 ?z92k12 ?_; (case z92k1 => k_asm); (case z92k2 => k_asm); (case z92k3 => k_asm); (case z92k4 => k_asm); (case z92k5 => k_asm); (case z92k6 => first | exact rfl | assumption); (case z92k7 => first | exact Nat.le_of_ble_eq_true rfl | ktr_room); (case z92k8 => first | exact Nat.le_of_ble_eq_true rfl | ktr_units); (case z92k10 => bits_by_make); (case z92k12 => decide); k_whole); walk_at "i11"; (try k_sweep))
  k_with "call ref" => (k_here; (with_reducible show wpAny _ _ (call (Value.ref 80) [Value.ref _]) _ _ _); k_dflt (refine' need_cu ?z93k1 ?z93k2 ?z93k3 ?z93k4 ?z93k5 ?z93k6 ?z93m1 ?z93k7 ?z93k8 ?z93b1 ?z93b2 ?z93z1 ?z93z2 ?_; (case z93k1 => k_asm); (case z93k2 => k_asm); (case z93k3 => k_asm); (case z93k4 => k_asm); (case z93k5 => k_asm); (case z93k6 => first | exact rfl | assumption); (case z93k7 => first | exact Nat.le_of_ble_eq_true rfl | ktr_room); (case z93k8 => first | exact Nat.le_of_ble_eq_true rfl | ktr_units); (case z93m1 => (walk_at "hat9")); (case z93b1 => bits_by_make); (case z93b2 => bits_by_make); (case z93z1 => first | assumption | decide | omega); (case z93z2 => first | assumption | decide | omega); k_whole); walk_at "i3"; (try k_sweep))
  k_with "call ref" => (k_here; (with_reducible show wpAny _ _ (call (Value.ref 80) [Value.ref _]) _ _ _); k_dflt (refine' need_cz ?z94k1 ?z94k2 ?z94k3 ?z94k4 ?z94k5 ?z94k6 ?z94m1 ?z94k7 ?z94k8 ?z94b1 ?z94z1 ?_; (case z94k1 => k_asm); (case z94k2 => k_asm); (case z94k3 => k_asm); (case z94k4 => k_asm); (case z94k5 => k_asm); (case z94k6 => first | exact rfl | assumption); (case z94k7 => first | exact Nat.le_of_ble_eq_true rfl | ktr_room); (case z94k8 => first | exact Nat.le_of_ble_eq_true rfl | ktr_units); (case z94m1 => (walk_at "hat9")); (case z94b1 => bits_by_make); (case z94z1 => first | assumption | decide | omega); k_whole); walk_at "i3"; (try k_sweep))
  k_with "call ref" => (k_here; (with_reducible show wpAny _ _ (call (Value.ref 80) [Value.ref _, Value.ref _]) _ _ _); k_dflt (refine' need_nz ?z95k1 ?z95k2 ?z95k3 ?z95k4 ?z95k5 ?z95k6 ?z95m1 ?z95m2 ?z95k7 ?z95k8 ?z95b1 ?z95b2 ?z95z1 ?z95z2 ?z95h0 ?_; (case z95k1 => k_asm); (case z95k2 => k_asm); (case z95k3 => k_asm); (case z95k4 => k_asm); (case z95k5 => k_asm); (case z95k6 => first | exact rfl | assumption); (case z95k7 => first | exact Nat.le_of_ble_eq_true rfl | ktr_room); (case z95k8 => first | exact Nat.le_of_ble_eq_true rfl | ktr_units); (case z95m1 => (walk_at "hat9")); (case z95m2 => (walk_at "hat9")); (case z95b1 => bits_by_make); (case z95b2 => bits_by_make); (case z95z1 => first | assumption | decide | omega); (case z95z2 => first | assumption | decide | omega); (case z95h0 => omega); k_whole); walk_at "i3"; (try k_sweep))
  k_with "call ref" => (k_here; (with_reducible show wpAny _ _ (call (Value.ref 80) [Value.ref _]) _ _ _); k_dflt (refine' need_r ?z96k1 ?z96k2 ?z96k3 ?z96k4 ?z96k5 ?z96k6 ?z96m1 ?z96k7 ?z96k8 ?z96b1 ?z96hb ?_; (case z96k1 => k_asm); (case z96k2 => k_asm); (case z96k3 => k_asm); (case z96k4 => k_asm); (case z96k5 => k_asm); (case z96k6 => first | exact rfl | assumption); (case z96k7 => first | exact Nat.le_of_ble_eq_true rfl | ktr_room); (case z96k8 => first | exact Nat.le_of_ble_eq_true rfl | ktr_units); (case z96m1 => (walk_at "hat9")); (case z96b1 => with_reducible assumption); (case z96hb => first | assumption | omega | decide); k_whole); walk_at "i3"; (try k_sweep))
  k_with "call ref" => (k_here; (with_reducible show wpAny _ _ (call (Value.ref 80) [Value.ref _, Value.ref 56]) _ _ _); k_dflt (refine' need_rn (r2 := 0) (k := 1) ?z97k1 ?z97k2 ?z97k3 ?z97k4 ?z97k5 ?z97k6 ?z97m1 ?z97m2 ?z97k7 ?z97k8 ?z97b1 ?z97b2 ?z97hb ?z97hb2 ?z97hl ?_; (case z97k1 => k_asm); (case z97k2 => k_asm); (case z97k3 => k_asm); (case z97k4 => k_asm); (case z97k5 => k_asm); (case z97k6 => first | exact rfl | assumption); (case z97k7 => first | exact Nat.le_of_ble_eq_true rfl | ktr_room); (case z97k8 => first | exact Nat.le_of_ble_eq_true rfl | ktr_units); (case z97m1 => (walk_at "hat9")); (case z97m2 => exact Frag.In.keeps (by k_asm) (Fr.keep (by k_asm)) _ _ (by k_is)); (case z97b1 => with_reducible assumption); (case z97b2 => exact Bd.zero (by decide)); (case z97hb => first | assumption | omega | decide); (case z97hb2 => decide); (case z97hl => first | assumption | grind); k_whole); walk_at "i3"; (try k_sweep))
  k_with "k_ne" => (refine neN ?_; (try dsimp only); first | with_reducible assumption | exact Ne.symm (by with_reducible assumption) | exact apL (by with_reducible assumption) (by k_mem) | exact (apL (by with_reducible assumption) (by k_mem)).symm | exact apLt (by with_reducible assumption) (by k_mem) | exact (apLt (by with_reducible assumption) (by k_mem)).symm | exact neLt2 (by assumption) (by with_reducible assumption) (by k_mem) | exact (neLt2 (by assumption) (by with_reducible assumption) (by k_mem)).symm | exact Nat.ne_of_lt (by assumption) | exact (Nat.ne_of_lt (by assumption)).symm | omega)
  k_with "k_all" => (first | with_reducible assumption | exact List.forall_mem_nil _ | (refine fcons (?_) (?_) <;> first | k_ne | k_all) | exact allLt_mem (by with_reducible assumption))
  k_with "call ref" => (k_here; (with_reducible show wpAny _ _ (call (Value.ref 41) [Value.int _ _, Value.int _ _, Value.int _ _, Value.str _ _]) _ _ _); k_dflt (refine' need_number_c ?z98k1 ?z98k2 ?z98k3 ?z98k4 ?z98k5 ?z98k6 ?z98h1 ?z98h2 ?z98k7 ?_; (case z98k1 => k_asm); (case z98k2 => k_asm); (case z98k3 => k_asm); (case z98k4 => k_asm); (case z98k5 => k_asm); (case z98k6 => first | exact rfl | assumption); (case z98k7 => first | exact Nat.le_of_ble_eq_true rfl | ktr_room); (case z98h1 => first | decide | assumption | omega); (case z98h2 => first | decide | assumption | omega); k_whole); walk_at "i3"; (try k_sweep))
  k_with "call ref" => (k_here; (with_reducible show wpAny _ _ (call (Value.ref 55) [Value.str (PySem.Str.ofString "a") _]) _ _ _); k_dflt (refine' need_name_a ?z99k1 ?z99k2 ?z99k3 ?z99k4 ?z99k5 ?z99k6 ?z99k7 ?_; (case z99k1 => k_asm); (case z99k2 => k_asm); (case z99k3 => k_asm); (case z99k4 => k_asm); (case z99k5 => k_asm); (case z99k6 => first | exact rfl | assumption); (case z99k7 => first | exact Nat.le_of_ble_eq_true rfl | ktr_room); k_whole); walk_at "i3"; (try k_sweep))
  k_with "call ref" => (k_here; (with_reducible show wpAny _ _ (call (Value.ref 55) [Value.str (PySem.Str.ofString "b") _]) _ _ _); k_dflt (refine' need_name_b ?z100k1 ?z100k2 ?z100k3 ?z100k4 ?z100k5 ?z100k6 ?z100k7 ?_; (case z100k1 => k_asm); (case z100k2 => k_asm); (case z100k3 => k_asm); (case z100k4 => k_asm); (case z100k5 => k_asm); (case z100k6 => first | exact rfl | assumption); (case z100k7 => first | exact Nat.le_of_ble_eq_true rfl | ktr_room); k_whole); walk_at "i3"; (try k_sweep))
  k_with "call ref" => (k_here; (with_reducible show wpAny _ _ (call (Value.ref 55) [Value.str (PySem.Str.ofString "p") _]) _ _ _); k_dflt (refine' need_name_p ?z101k1 ?z101k2 ?z101k3 ?z101k4 ?z101k5 ?z101k6 ?z101k7 ?_; (case z101k1 => k_asm); (case z101k2 => k_asm); (case z101k3 => k_asm); (case z101k4 => k_asm); (case z101k5 => k_asm); (case z101k6 => first | exact rfl | assumption); (case z101k7 => first | exact Nat.le_of_ble_eq_true rfl | ktr_room); k_whole); walk_at "i3"; (try k_sweep))
  k_with "call ref" => (k_here; (with_reducible show wpAny _ _ (call (Value.ref 55) [Value.str (PySem.Str.ofString "u") _]) _ _ _); k_dflt (refine' need_name_u ?z102k1 ?z102k2 ?z102k3 ?z102k4 ?z102k5 ?z102k6 ?z102k7 ?_; (case z102k1 => k_asm); (case z102k2 => k_asm); (case z102k3 => k_asm); (case z102k4 => k_asm); (case z102k5 => k_asm); (case z102k6 => first | exact rfl | assumption); (case z102k7 => first | exact Nat.le_of_ble_eq_true rfl | ktr_room); k_whole); walk_at "i3"; (try k_sweep))
  k_with "call ref" => (k_here; (with_reducible show wpAny _ _ (call (Value.ref 55) [Value.str (PySem.Str.ofString "m") _]) _ _ _); k_dflt (refine' need_name_m ?z103k1 ?z103k2 ?z103k3 ?z103k4 ?z103k5 ?z103k6 ?z103k7 ?_; (case z103k1 => k_asm); (case z103k2 => k_asm); (case z103k3 => k_asm); (case z103k4 => k_asm); (case z103k5 => k_asm); (case z103k6 => first | exact rfl | assumption); (case z103k7 => first | exact Nat.le_of_ble_eq_true rfl | ktr_room); k_whole); walk_at "i3"; (try k_sweep))
  k_with "call ref" => (k_here; (with_reducible show wpAny _ _ (call (Value.ref 55) [Value.str (PySem.Str.ofString "n") _]) _ _ _); k_dflt (refine' need_name_n ?z104k1 ?z104k2 ?z104k3 ?z104k4 ?z104k5 ?z104k6 ?z104k7 ?_; (case z104k1 => k_asm); (case z104k2 => k_asm); (case z104k3 => k_asm); (case z104k4 => k_asm); (case z104k5 => k_asm); (case z104k6 => first | exact rfl | assumption); (case z104k7 => first | exact Nat.le_of_ble_eq_true rfl | ktr_room); k_whole); walk_at "i3"; (try k_sweep))
  k_with "call ref" => (k_here; (with_reducible show wpAny _ _ (call (Value.ref 367) [Value.str _ _, Value.int _ _, Value.ref _]) _ _ _); refine Hold.out ?_)
  k_with "call ref" => (k_here; (with_reducible show wpAny _ _ (call (Value.ref 314) _ _) _ _ _); refine Hold.out ?_)
  k_with "call ref" => (k_here; (with_reducible show wpAny _ _ (call (Value.ref 350) _ _) _ _ _); refine Hold.out ?_)
  k_with "call ref" => (k_here; (with_reducible show wpAny _ _ (call (Value.ref 336) _ _) _ _ _); refine Hold.out ?_)
  k_with "call ref" => (k_here; (with_reducible show wpAny _ _ (call (Value.ref 364) _ _) _ _ _); refine Hold.out ?_)
  k_with "call ref" => (k_here; (with_reducible show wpAny _ _ (call (Value.ref 94) _ _) _ _ _); refine Hold.out ?_)
  k_with "eval ListComp" => (k_here; lcg_look; k_dflt (refine LCg.ListComp_U (F₀ := by k_asm) (by rfl) (by decide) (by rfl) (by decide) (by rfl) ?_); k_dflt lcg_toSrc)
  k_with "eval ListComp" => (k_here; lcf_look; k_dflt (refine LCg.ListComp_U (F₀ := by k_asm) (by with_unfolding_all rfl) (by decide) (by rfl) (by decide) (by rfl) ?_); k_dflt lcg_toSrc)
  k_with "exec Assign cons ListComp" => (k_here; lcg_look; k_dflt (refine LCg.Assign_ListComp_U (F₀ := by k_asm) (by rfl) (by with_unfolding_all rfl) (by rfl) (by decide) (by rfl) (by decide) (by rfl) (by rfl) (by rfl) ?_); k_dflt lcg_toSrc)
  k_with "exec Assign cons ListComp" => (k_here; lcf_look; k_dflt (refine LCg.Assign_ListComp_U (F₀ := by k_asm) (by rfl) (by with_unfolding_all rfl) (by with_unfolding_all rfl) (by decide) (by rfl) (by decide) (by rfl) (by rfl) (by rfl) ?_); k_dflt lcg_toSrc)
  k_with "CompSrc" => (refine Hold.out ?_)
  k_with "CompEnd" => (show LCg.CompEnd _ _ _ _ _ _ _ _ _ _ _ _ _ _; refine Hold.out ?_)
  k_with "call builtin:len" => (k_here; (with_reducible show wpAny _ _ (call (Value.builtin "len") [Value.ref _]) _ _ _); k_dflt (refine' len_rep ?z105k1 ?z105k2 ?_; (case z105k1 => k_asm); (case z105k2 => k_mem); k_whole); walk_at "i7")
  k_with "pyIter ref" => (walk_at "i17"; (with_reducible show wpAny _ _ (pyIter (Value.ref _)) (fun it s₂ => TurnsAt _ _ _ _ _ _ _ _ _ it s₂) _ _); refine Hold.out ?_)
  k_with "eval Name" => (walk_at "i17"; k_here; k_dflt (refine' nameX_L ?z106k1 ?z106k2 ?_ ?z106k3 ?z106k4; (case z106k1 => k_asm); (case z106k2 => first | exact rfl | assumption); (case z106k3 => rfl); (case z106k4 => rfl); k_whole))
  k_with "exec For Name Name cons nil" => (refine Hold.out ?_)
  k_with "binaryOp Mult ref int" => (refine Hold.out ?_)
  k_with "compareOp Eq ref ref" => (k_here; (with_reducible show wpAny _ _ (compareOp CmpOp.Eq (Value.ref _) (Value.ref _)) _ _ _); refine Hold.out ?_)
  k_with "compareOp NotEq ref ref" => (k_here; (with_reducible show wpAny _ _ (compareOp CmpOp.NotEq (Value.ref _) (Value.ref _)) _ _ _); refine Hold.out ?_)
  k_with "UnrPostW" => (walk_at "i17"; dsimp only [UnrPostW])
  k_with "UnrEndW" => (walk_at "i17"; refine Hold.out ?_)
  k_with "call builtin:sum" => (walk_at "i18"; (try simp only [List.sum_cons, List.sum_nil]))
  k_with "subscriptTail Name Constant ref int" => (walk_at "i17"; k_here; (with_reducible show wpAny _ _ (subscriptTail _ _ (Value.ref _) (Value.int _ _)) _ _ _); k_dflt (refine' kim_list ?z107k1 ?z107k2 ?z107k3 ?z107k4 ?z107k5 ?z107k6 ?z107k7 ?_ ?z107k9 ?z107k10; (case z107k1 => k_asm); (case z107k2 => k_mem); (case z107k3 => exact rfl); (case z107k4 => exact rfl); (case z107k5 => decide); (case z107k6 => decide); (case z107k7 => exact rfl); (case z107k9 => with_unfolding_all rfl); (case z107k10 => (intro _; with_unfolding_all rfl)); k_whole))
  k_with "subscriptTail Name UnaryOp ref int" => (walk_at "i17"; k_here; (with_reducible show wpAny _ _ (subscriptTail _ _ (Value.ref _) (Value.int _ _)) _ _ _); k_dflt (refine' kim_back ?z108k1 ?z108k2 ?z108k3 ?z108k4 ?z108k5 ?z108k6 ?z108k7 ?z108k8 ?_ ?z108k9 ?z108k10; (case z108k1 => k_asm); (case z108k2 => k_mem); (case z108k3 => exact rfl); (case z108k4 => exact rfl); (case z108k5 => decide); (case z108k6 => exact last_le); (case z108k7 => decide); (case z108k8 => exact last_at); (case z108k9 => with_unfolding_all rfl); (case z108k10 => (intro _; with_unfolding_all rfl)); k_whole))
  k_with "exec If" => (walk_at "i19"; refine Hold.out ?_)
  k_with "binaryOp Mod int int" => (k_here; (with_reducible refine mod_gen ?z109mp ?_); (case z109mp => first | decide | assumption); walk_at "i9")
  k_with "binaryOp FloorDiv int int" => (with_reducible refine floordiv_int ?z110ne ?_ (Or.inl (PyProof.noPylong_of_log2 ?z110lg)); (case z110lg => with_reducible assumption); (case z110ne => with_reducible assumption))
  k_with "subscriptTail Name Constant ref str" => (walk_at "i17"; k_here; (with_reducible show wpAny _ _ (subscriptTail _ _ (Value.ref _) (Value.str _ _)) _ _ _); k_dflt (refine' kda_item (knd := PySem.strKind _ _) ?z111N ?z111hp ?z111hd (strKind_is _ _ _ _) ?z111hl ?_; (case z111N => k_asm); (case z111hp => k_mem); (case z111hd => with_reducible assumption); (case z111hl => rfl); k_whole))
  k_with "subscriptTail Attribute" => (walk_at "i17"; k_here; (with_reducible show wpAny _ _ (subscriptTail _ _ (Value.ref _) (Value.int _ _)) _ _ _); k_dflt (refine kba_turn (value' := PySem.Expr.Name (PySem.Str.ofString "_") ⟨0, 0, 0, 0⟩) (fun _ => rfl) ?_))
  k_with "subscriptTail Subscript" => (walk_at "i17"; k_here; (with_reducible show wpAny _ _ (subscriptTail _ _ (Value.ref _) (Value.int _ _)) _ _ _); k_dflt (refine kba_turn (value' := PySem.Expr.Name (PySem.Str.ofString "_") ⟨0, 0, 0, 0⟩) (fun _ => rfl) ?_))
  k_with "execs cons" => (walk_at "i20"; refine Hold.out ?_)
  k_with "hat9" => (exact News.get (by k_asm) (by first | (with_reducible assumption) | ((refine List.mem_cons_of_mem _ ?_); with_reducible assumption) | ((refine List.mem_cons_of_mem _ ?_); (refine List.mem_cons_of_mem _ ?_); with_reducible assumption) | ((refine List.mem_cons_of_mem _ ?_); (refine List.mem_cons_of_mem _ ?_); (refine List.mem_cons_of_mem _ ?_); with_reducible assumption) | ((refine List.mem_cons_of_mem _ ?_); (refine List.mem_cons_of_mem _ ?_); (refine List.mem_cons_of_mem _ ?_); (refine List.mem_cons_of_mem _ ?_); with_reducible assumption) | ((refine List.mem_cons_of_mem _ ?_); (refine List.mem_cons_of_mem _ ?_); (refine List.mem_cons_of_mem _ ?_); (refine List.mem_cons_of_mem _ ?_); (refine List.mem_cons_of_mem _ ?_); with_reducible assumption) | ((refine List.mem_cons_of_mem _ ?_); (refine List.mem_cons_of_mem _ ?_); (refine List.mem_cons_of_mem _ ?_); (refine List.mem_cons_of_mem _ ?_); (refine List.mem_cons_of_mem _ ?_); (refine List.mem_cons_of_mem _ ?_); with_reducible assumption) | ((refine List.mem_cons_of_mem _ ?_); (refine List.mem_cons_of_mem _ ?_); (refine List.mem_cons_of_mem _ ?_); (refine List.mem_cons_of_mem _ ?_); (refine List.mem_cons_of_mem _ ?_); (refine List.mem_cons_of_mem _ ?_); (refine List.mem_cons_of_mem _ ?_); with_reducible assumption) | ((refine List.mem_cons_of_mem _ ?_); (refine List.mem_cons_of_mem _ ?_); (refine List.mem_cons_of_mem _ ?_); (refine List.mem_cons_of_mem _ ?_); (refine List.mem_cons_of_mem _ ?_); (refine List.mem_cons_of_mem _ ?_); (refine List.mem_cons_of_mem _ ?_); (refine List.mem_cons_of_mem _ ?_); with_reducible assumption)))
  k_with "call ref" => (k_here; (with_reducible show wpAny _ _ (call (Value.ref 139) [Value.str _ _, Value.str _ _, Value.str _ _, Value.int _ _, Value.ref _, Value.ref _, Value.ref _]) _ _ _); k_dflt (refine' new_Pipe ?z112k1 ?z112k2 ?z112k3 ?z112k4 ?z112k5 ?z112k6 ?z112k7 ?z112k8 ?_; (case z112k1 => k_asm); (case z112k2 => k_asm); (case z112k3 => k_asm); (case z112k4 => k_asm); (case z112k5 => k_asm); (case z112k6 => first | exact rfl | assumption); (case z112k7 => first | exact Nat.le_of_ble_eq_true rfl | ktr_room); (case z112k8 => first | exact Nat.le_of_ble_eq_true rfl | ktr_units); k_whole); walk_at "i21"; (try k_sweep))
  k_with "call ref" => (k_here; (with_reducible show wpAny _ _ (call (Value.ref 167) [Value.str _ _, Value.str _ _, Value.ref _, Value.ref _, Value.ref _]) _ _ _); k_dflt (refine' new_Consumer ?z113k1 ?z113k2 ?z113k3 ?z113k4 ?z113k5 ?z113k6 ?z113k7 ?z113k8 ?_; (case z113k1 => k_asm); (case z113k2 => k_asm); (case z113k3 => k_asm); (case z113k4 => k_asm); (case z113k5 => k_asm); (case z113k6 => first | exact rfl | assumption); (case z113k7 => first | exact Nat.le_of_ble_eq_true rfl | ktr_room); (case z113k8 => first | exact Nat.le_of_ble_eq_true rfl | ktr_units); k_whole); walk_at "i22"; (try k_sweep))
  k_with "call ref" => (k_here; (with_reducible show wpAny _ _ (call (Value.ref 298) []) _ _ _); k_dflt (refine' net_new ?z114k1 ?z114k2 ?z114k3 ?z114k4 ?z114k5 ?z114k6 ?z114k7 ?z114k8 ?_; (case z114k1 => k_asm); (case z114k2 => k_asm); (case z114k3 => k_asm); (case z114k4 => k_asm); (case z114k5 => k_asm); (case z114k6 => first | exact rfl | assumption); (case z114k7 => first | exact Nat.le_of_ble_eq_true rfl | ktr_room); (case z114k8 => first | exact Nat.le_of_ble_eq_true rfl | ktr_units); k_whole); walk_at "i23"; (try k_sweep))
  k_with "k_mem" => (first | with_reducible assumption | (refine List.mem_cons_of_mem _ ?_; with_reducible assumption) | (refine List.mem_cons_of_mem _ (List.mem_cons_of_mem _ ?_); with_reducible assumption) | (refine List.mem_cons_of_mem _ (List.mem_cons_of_mem _ (List.mem_cons_of_mem _ ?_)); with_reducible assumption) | (refine List.mem_cons_of_mem _ (List.mem_cons_of_mem _ (List.mem_cons_of_mem _ (List.mem_cons_of_mem _ ?_))); with_reducible assumption) | (refine List.mem_cons_of_mem _ (List.mem_cons_of_mem _ (List.mem_cons_of_mem _ (List.mem_cons_of_mem _ (List.mem_cons_of_mem _ ?_)))); with_reducible assumption) | (refine List.mem_cons_of_mem _ (List.mem_cons_of_mem _ (List.mem_cons_of_mem _ (List.mem_cons_of_mem _ (List.mem_cons_of_mem _ (List.mem_cons_of_mem _ ?_))))); with_reducible assumption) | (refine List.mem_cons_of_mem _ (List.mem_cons_of_mem _ (List.mem_cons_of_mem _ (List.mem_cons_of_mem _ (List.mem_cons_of_mem _ (List.mem_cons_of_mem _ (List.mem_cons_of_mem _ ?_)))))); with_reducible assumption) | (refine List.mem_cons_of_mem _ (List.mem_cons_of_mem _ (List.mem_cons_of_mem _ (List.mem_cons_of_mem _ (List.mem_cons_of_mem _ (List.mem_cons_of_mem _ (List.mem_cons_of_mem _ (List.mem_cons_of_mem _ ?_))))))); with_reducible assumption) | (refine List.mem_cons_of_mem _ (List.mem_cons_of_mem _ (List.mem_cons_of_mem _ (List.mem_cons_of_mem _ (List.mem_cons_of_mem _ (List.mem_cons_of_mem _ (List.mem_cons_of_mem _ (List.mem_cons_of_mem _ (List.mem_cons_of_mem _ ?_)))))))); with_reducible assumption) | (refine List.mem_cons_of_mem _ (List.mem_cons_of_mem _ (List.mem_cons_of_mem _ (List.mem_cons_of_mem _ (List.mem_cons_of_mem _ (List.mem_cons_of_mem _ (List.mem_cons_of_mem _ (List.mem_cons_of_mem _ (List.mem_cons_of_mem _ (List.mem_cons_of_mem _ ?_))))))))); with_reducible assumption) | (refine List.mem_cons_of_mem _ (List.mem_cons_of_mem _ (List.mem_cons_of_mem _ (List.mem_cons_of_mem _ (List.mem_cons_of_mem _ (List.mem_cons_of_mem _ (List.mem_cons_of_mem _ (List.mem_cons_of_mem _ (List.mem_cons_of_mem _ (List.mem_cons_of_mem _ (List.mem_cons_of_mem _ ?_)))))))))); with_reducible assumption) | (refine List.mem_cons_of_mem _ (List.mem_cons_of_mem _ (List.mem_cons_of_mem _ (List.mem_cons_of_mem _ (List.mem_cons_of_mem _ (List.mem_cons_of_mem _ (List.mem_cons_of_mem _ (List.mem_cons_of_mem _ (List.mem_cons_of_mem _ (List.mem_cons_of_mem _ (List.mem_cons_of_mem _ (List.mem_cons_of_mem _ ?_))))))))))); with_reducible assumption))
  trivial
set_option maxRecDepth 100000 in
theorem tailB {w0 : World} {p : Program} {loose : List Str} {mean : ExcName → Option Value} {mg mb : Str → Option Value} {fa L : Addr} {cc : Value} {base h₀ : Heap} {Q : Flow → Shared → Prop} {EX : Value → Shared → Prop} {m : Str → Option Value} {z : NetP} {ndl : Nat} {s9 : Shared} {h9 : Heap} {tk9 : Nat} {Dh TL x1 d1 l1 x2 d2 l2 Df1 Df2 Do1 Do2 Dr Dw : Addr} {odo1 odo2 : Obj} {vh Fz day ca cb kd dl vl : Int} {E re : Rat}
    {p1 p2 p3 p4 p5 q1 q2 q3 q4 q5 th uh ta tb tn1 tt1 tn2 tt2 tf2 uf2 t9 u9 tw1 tw2 to1 to2 g1 g2 g3 g4 g5 : Tok} {ch cf2 c9 cw n3 n9 : Nat} {rr1 : Value} {ws1 vs : List Value} {qs : List MRow} {R5 W : List (Addr × Obj)}
    (K0 : Below callerA base [] h₀) (KX : (HD.K w0.params).In h₀) (T : Top p loose mean mg mb h₀) (F9 : Fr h₀ L h9 m) (N9 : News h₀ L h9 ((d2, meterD w0.params q1 q2 q3 q4 q5 (Value.str (Str.ofString "n") tn2) (Value.int 5000 tt2) (Value.ref Df2) (Value.ref l2) (Value.ref Dr)) :: (l2, PySem.W.listOf (vs ++ [Value.ref Dw]).toArray n9) :: R5))
    (n_net : m (Str.ofString "net") = some (Value.ref z.net)) (n_heat : m (Str.ofString "heat") = some (Value.int (1 + vh) g1)) (n_factor : m (Str.ofString "factor") = some (Value.int Fz g2)) (n_day : m (Str.ofString "day") = some (Value.int day g3)) (n_counts : m (Str.ofString "counts") = some (Value.ref TL)) (n_one : m (Str.ofString "one") = some (Value.ref x1)) (n_two : m (Str.ofString "two") = some (Value.ref x2)) (n_whole : m (Str.ofString "whole") = some (Value.ref Do1)) (n_first : m (Str.ofString "first") = some (Value.ref Do2)) (n_kind : m (Str.ofString "kind") = some (Value.int kd g4)) (n_lost : m (Str.ofString "lost") = some (Value.int 0 g5))
    (hWn : ∀ p ∈ [(z.net, instObj 298 z.dn), (z.dn, netDO w0.params z), (z.pd, z.opd), (z.pp, instObj 139 z.ppd), (z.ppd, pipDO w0.params z), (z.cd, z.ocd), (z.cu, instObj 167 z.cud), (z.cud, conDO w0.params z), (z.dl, PySem.W.listOf (List.replicate 24 (Value.ref Dh)).toArray ndl)], p ∈ W) (hWc : ∀ p ∈ W, p.2.cls ≠ .type "tuple") (hW5 : ∀ p ∈ W, p ∈ R5) (lpd : (z.pd == sysModules) = false) (hpd : z.opd.IsDictOf (PySem.strKind PySem.Challenge.rw_ui0509_14.row.prog w0) [(Str.ofString "p", Value.ref z.pp)]) (lcd : (z.cd == sysModules) = false) (hcd : z.ocd.IsDictOf (PySem.strKind PySem.Challenge.rw_ui0509_14.row.prog w0) [(Str.ofString "u", Value.ref z.cu)]) (mDh5 : (Dh, T2 (1 + vh) 1 th uh ch) ∈ R5)
    (hF7 : 7 ≤ Fz) (hF960 : Fz ≤ 960) (hFbits : Builtin.Int.intBits Fz ≤ 64) (vh0 : 0 ≤ vh) (vh1 : vh < 40) (hday1 : 1 ≤ day) (hday2 : day ≤ 20) (hca : 1 ≤ ca ∧ ca ≤ 5) (hcb : 1 ≤ cb ∧ cb ≤ 5) (eE : E = tot (List.replicate 24 ((1 + vh : Int) : Rat)) / (Fz : Rat))
    (mx1 : (x1, instObj 367 d1) ∈ R5) (mx2 : (x2, instObj 367 d2) ∈ R5) (md1 : (d1, meterD w0.params p1 p2 p3 p4 p5 (Value.str (Str.ofString "m") tn1) (Value.int 5000 tt1) (Value.ref Df1) (Value.ref l1) rr1) ∈ R5) (ml1 : (l1, PySem.W.listOf ([] ++ ws1).toArray n3) ∈ R5) (mDf2 : (Df2, T2 Fz 1 tf2 uf2 cf2) ∈ R5) (mDo1 : (Do1, odo1) ∈ R5) (mDo2 : (Do2, odo2) ∈ R5) (mTL5 : (TL, PySem.W.listOf [Value.int ca ta, Value.int cb tb].toArray 2) ∈ R5)
    (hd1 : odo1.IsDictOf (PySem.strKind PySem.Challenge.rw_ui0509_14.row.prog w0) [(Str.ofString "u", Value.int (fl (0 + E * ((ca + cb : Int) : Rat))) to1)]) (hd2 : odo2.IsDictOf (PySem.strKind PySem.Challenge.rw_ui0509_14.row.prog w0) [(Str.ofString "u", Value.int (fl (0 + E * (ca : Rat))) to2)]) (hw1' : All2 (RowN (Led R5)) ws1 ([(day, 0, none)] ++ cRows 5000 day 0 0 E (ca + cb).toNat))
    (aD5 : ∀ p ∈ R5, p.1 ≠ d2) (aL5 : ∀ p ∈ R5, p.1 ≠ l2) (mre : Tk h₀ R5 Dr (RatO re t9 u9 c9)) (bre : Bd 64 re) (hv9 : All2 (RowN (Led R5)) (vs ++ [Value.ref Dw]) (qs ++ [(dl, vl, none)])) (mDw : (Dw, Mine.Row dl vl tw1 tw2 .none cw) ∈ R5)
    (hvl0 : 0 ≤ vl) (hvl1 : vl < 5000) (hdl0 : day ≤ dl) (hdl1 : dl ≤ 100) (hlv9 : vs.length ≤ 10) (hK : K14 kd day ca E re (qs ++ [(dl, vl, none)]) dl vl) (hk0 : 0 ≤ kd) (hk1 : kd < 3) (ndx2 : d2 ≠ x2) (nlx2 : l2 ≠ x2) (nld2 : l2 ≠ d2)
    (hend : ∀ (h' : Heap) (tk' : Nat) (m' : Str → Option Value), Fr h₀ L h' m' → Q (.ret (.bool true)) { s9 with heap := h', toks := tk' }) :
    wpAny (model PySem.Challenge.rw_ui0509_14.row.prog w0) (callerA.deeper (envOfC HD.dH.name HD.dH.scope L fa cc)) (execs (HD.fb34.1.drop 15) (envOfC HD.dH.name HD.dH.scope L fa cc)) Q EX { s9 with heap := h9, toks := tk9 } := by
  w_top off
  revert KX; k_fill; intro KX
  dsimp only [HD.dH, HD.fb34, HD.fs34, List.drop_succ_cons, List.drop_zero]
  have hFb : Bd 64 (Fz : Rat) := bd64 (by omega) (by omega)
  have hF0 : (Fz : Rat) ≠ 0 := cast_ne (by omega)
  have hdb : ∀ r ∈ List.replicate 24 (((1 + vh : Int)) : Rat), Bd 64 r := rep_bd (bd64 (by omega) (by omega))
  have eE2 := eE.trans each14
  have hEb := each_bd (H := 24 * (1 + vh)) (F := Fz) (by omega) (by omega) hF7
  rw [← eE2] at hEb
  have hle : ¬ ((5000 - 1 : Int) : Rat) < tot (List.replicate 24 (((1 + vh : Int)) : Rat)) / (Fz : Rat) := by rw [← eE]; exact hEb.2.2
  have mk8 : Mark8L := .mk
  have mkM : MarkM := .mk
  -- G0
  have hFp : 0 < Fz := by omega
  have hFn : Fz ≠ 0 := by omega
  have hFl : Fz.natAbs.log2 < 9000 := fz_log hF7 hF960
  have mk9 : Mark9L := .mk
  -- G0
  k_steps
  change wpAny _ _ _ _ _ _
  (rename Mark9L => mk9)
  clear mk9
  -- G1
  (rename Fr _ _ _ _ => F6)
  (rename News _ _ _ _ => N7)
  refine wpAny_mono (show wpAny _ _ _ (fun (fl : Flow) (s' : Shared) => Held (fl = .next ∧ ∃ (h8 : Heap) (tk8 : Nat) (m8 : Str → Option Value) (lv : Int) (tv : Tok), s' = { s9 with heap := h8, toks := tk8 } ∧ at9 F6 h8 m8 ∧ same N7 h8 ∧ m8 (Str.ofString "lost") = some (.int lv tv) ∧ LV14 kd (24 * (1 + vh)) ca Fz lv ∧ m8 (Str.ofString "net") = m (Str.ofString "net") ∧ m8 (Str.ofString "heat") = m (Str.ofString "heat") ∧ m8 (Str.ofString "factor") = m (Str.ofString "factor") ∧ m8 (Str.ofString "day") = m (Str.ofString "day") ∧ m8 (Str.ofString "counts") = m (Str.ofString "counts") ∧ m8 (Str.ofString "one") = m (Str.ofString "one") ∧ m8 (Str.ofString "two") = m (Str.ofString "two") ∧ m8 (Str.ofString "whole") = m (Str.ofString "whole") ∧ m8 (Str.ofString "first") = m (Str.ofString "first") ∧ m8 (Str.ofString "kind") = m (Str.ofString "kind"))) _ _ from ?cutc) ?cutd (fun _ _ e => e)
  -- G2
  case cutc =>
    k_steps
    · (rename News _ _ _ _ => N8)
      (rename Fr _ _ _ _ => F8)
      (rename _ = Int.fmod _ _ => vE)
      exact .mk ⟨rfl, _, _, _, _, _, rfl, F8, N8, rfl, .more (by omega) vE, rfl, rfl, rfl, rfl, rfl, rfl, rfl, rfl, rfl, rfl⟩
    · (rename News _ _ _ _ => N8)
      (rename Fr _ _ _ _ => F8)
      exact .mk ⟨rfl, _, _, _, _, _, rfl, F8, N8, n_lost, .zero (by omega) rfl, rfl, rfl, rfl, rfl, rfl, rfl, rfl, rfl, rfl, rfl⟩
  case cutd =>
    intro fl s' hC
    obtain ⟨⟨rfl, h8, tk8, m8, lv, tv, rfl, F8, N8, n_lost8, hLv, j_net, j_heat, j_factor, j_day, j_counts, j_one, j_two, j_whole, j_first, j_kind⟩⟩ := hC
    replace F8 : Fr _ _ _ _ := F8
    replace N8 : News _ _ _ _ := N8
    clear F6 N7 n_lost
    replace n_net := j_net.trans n_net
    clear j_net
    replace n_heat := j_heat.trans n_heat
    clear j_heat
    replace n_factor := j_factor.trans n_factor
    clear j_factor
    replace n_day := j_day.trans n_day
    clear j_day
    replace n_counts := j_counts.trans n_counts
    clear j_counts
    replace n_one := j_one.trans n_one
    clear j_one
    replace n_two := j_two.trans n_two
    clear j_two
    replace n_whole := j_whole.trans n_whole
    clear j_whole
    replace n_first := j_first.trans n_first
    clear j_first
    replace n_kind := j_kind.trans n_kind
    clear j_kind
    -- H0
    k_steps
    unfold Hold
    -- H1
    rename_i aA hB oM FA NA loM hdM lM
    clear aA
    have gDr := mre.get FA NA ((by intro p9 hp9; first | ((repeat (first | exact hp9 | exact List.mem_append_left _ hp9 | exact List.mem_append_right _ hp9 | refine List.mem_cons_of_mem _ ?_)); done) | (simp only [List.mem_cons, List.mem_append]; simp only [hp9, true_or, or_true])))
    obtain ⟨R6, NB, s6, aD6, aL6⟩ := news_cut2 NA (List.mem_cons_of_mem _ (List.mem_cons_self ..)) (List.mem_cons_of_mem _ (List.mem_cons_of_mem _ (List.mem_cons_self ..)))
    have mmd := s6 _ oM (List.mem_cons_self ..) (apLt lM (by k_mem : (d2, _) ∈ _)).symm (apLt lM (by k_mem : (l2, _) ∈ _)).symm
    have s56 : ∀ p ∈ R5, p ∈ R6 := fun p hp => s6 p.1 p.2 (List.mem_cons_of_mem _ (List.mem_cons_of_mem _ (List.mem_cons_of_mem _ hp))) (aD5 p hp) (aL5 p hp)
    replace mx1 := s56 _ mx1
    replace mx2 := s56 _ mx2
    replace md1 := s56 _ md1
    replace ml1 := s56 _ ml1
    replace mDf2 := s56 _ mDf2
    replace mDo1 := s56 _ mDo1
    replace mDo2 := s56 _ mDo2
    replace mDw := s56 _ mDw
    have hW6 : ∀ p ∈ W, p ∈ R6 := fun p hp => s56 p (hW5 p hp)
    replace mDh5 := s56 _ mDh5
    replace hw1' : All2 (RowN (Led R6)) ws1 _ := hw1'.mono fun _ _ y => y.mono fun _ _ e => s56 _ e
    replace hv9 : All2 (RowN (Led R6)) _ _ := hv9.mono fun _ _ y => y.mono fun _ _ e => s56 _ e
    replace mTL5 := s56 _ mTL5
    clear NA mre s6 s56 hW5 lM F8 N8 aD5 aL5
    -- I1
    k_dflt (refine' count_c (z := z) (x := x2) (d := d2) (l := l2) (W := W) (VS := (vs ++ [Value.ref Dw])) (val0 := vl) (F0 := []) (dvs := List.replicate 24 (Value.ref Dh)) (ds := List.replicate 24 (((1 + vh : Int)) : Rat)) (f := (Fz : Rat)) (re := re) (br := 64) (tu := 5000) (tq := 0) ?k1_u7 ?k2_u7 ?k3_u7 ?k4_u7 ?k5_u7 ?k6_u7 ?ex_u7 ?em_u7 ?hWr_u7 ?hWc_u7 ?hn_u7 ?lpd_u7 ?hpd_u7 ?lcd_u7 ?hcd_u7 ?lmd_u7 ?hmd_u7 ?hdr_u7 ?hlr_u7 ?nld_u7 ?hf_u7 ?hbf_u7 ?hf0_u7 ?hr_u7 ?hbr_u7 ?hbr2_u7 ?hdv_u7 ?hdb_u7 ?hdl_u7 ?h1_u7 ?h2_u7 ?h3_u7 ?h4_u7 ?htu_u7 ?htu2_u7 ?hle_u7 ?hVS_u7 ?hv0_u7 ?hv1_u7 ?hlen_u7 ?k7_u7 ?k8_u7 ?_)
    case k1_u7 => k_asm
    case k2_u7 => k_asm
    case k3_u7 => k_asm
    case k4_u7 => k_asm
    case k5_u7 => k_asm
    case k6_u7 => first | exact rfl | assumption
    case k7_u7 => ktr_room
    case k8_u7 => ktr_units
    case ex_u7 => exact mx2
    case em_u7 => k_mem
    case hWr_u7 => exact hW6
    case hWc_u7 => exact hWc
    case hn_u7 => exact hWn
    case lpd_u7 => exact lpd
    case hpd_u7 => exact hpd
    case lcd_u7 => exact lcd
    case hcd_u7 => exact hcd
    case lmd_u7 => exact loM
    case hmd_u7 => exact hdM
    case hdr_u7 => exact aD6
    case hlr_u7 => exact aL6
    case nld_u7 => exact nld2
    case hf_u7 => exact NB.get (List.mem_cons_of_mem _ (List.mem_cons_of_mem _ mDf2))
    case hbf_u7 => exact hFb
    case hf0_u7 => exact hF0
    case hr_u7 => exact gDr
    case hbr_u7 => exact bre
    case hbr2_u7 => decide
    case hdv_u7 => exact all2_rep ⟨Dh, th, uh, ch, rfl, NB.get (List.mem_cons_of_mem _ (List.mem_cons_of_mem _ mDh5))⟩ 24
    case hdb_u7 => exact hdb
    case hdl_u7 => exact List.length_replicate
    case h1_u7 => omega
    case h2_u7 => omega
    case h3_u7 => omega
    case h4_u7 => omega
    case htu_u7 => decide
    case htu2_u7 => decide
    case hle_u7 => exact hle
    case hVS_u7 => exact .inr ⟨vs, Dw, tw1, tw2, cw, rfl, NB.get (List.mem_cons_of_mem _ (List.mem_cons_of_mem _ mDw)), rfl⟩
    case hv0_u7 => exact hvl0
    case hv1_u7 => exact hvl1
    case hlen_u7 => rw [List.length_append, List.length_singleton]; omega
    -- I2
    intro Do3 Dr3 odo3 to3 g5 g6 g7 n4 ws3 tl3 h4 tk4 F4 N4 hd3 mr3 b3 hw3 e1 e2 e3 e4 e5 e6 e7
    rw [← eE] at hd3 hw3
    rw [behind_val hFp eE2 hK hLv] at hd3
    rw [whole_val (y := ca + (cb + 0)) hFp eE2 (by omega)] at hd1
    rw [whole_val hFp eE2 rfl] at hd2
    clear b3 mr3 NB FA gDr bre loM hdM mmd
    obtain ⟨R7, eR7, N5⟩ := rot3 N4
    have mDo3 := mem1 eR7
    have s67 := (sub1 eR7).1
    have t67 := (sub1 eR7).2
    replace mx1 := s67 _ mx1
    replace mx2 := s67 _ mx2
    replace md1 := s67 _ md1
    replace ml1 := s67 _ ml1
    replace mDf2 := s67 _ mDf2
    replace mDo1 := s67 _ mDo1
    replace mDo2 := s67 _ mDo2
    replace mDw := s67 _ mDw
    replace hw1' : All2 (RowN (Led R7)) ws1 _ := hw1'.mono fun _ _ y => y.mono fun _ _ e => s67 _ e
    have hwA : All2 (RowN (Led R7)) _ _ := (hv9.mono fun _ _ y => y.mono fun _ _ e => s67 _ e).append (hw3.mono fun _ _ y => y.mono fun _ _ e => t67 _ e)
    replace mTL5 := s67 _ mTL5
    have hrl := rows_len (tu := 5000) (re := re) (E := E) hv9 hlv9 hcb.2
    obtain ⟨rs9, vl9, e9⟩ := rows_end (tu := 5000) (dl := dl) (vl := vl) (re := re) (E := E) (qs := qs) hcb.1
    rw [e9] at hwA hrl
    obtain ⟨vsL, DL, tL, tL', cL, eL, hvL, mDL⟩ := last2 hwA rfl
    rw [eL] at N5 hwA
    clear N4 eR7 s67 t67 hW6 hv9 hw3 e1 e2 e3 e4 e5 e6 e7 aD6 aL6 eL hvL mDw
    -- I3
    k_steps
    unfold Hold
    -- I4
    (rename News _ _ _ _ => N8)
    refine ne_rd (d := .list [.int ((24 * (1 + vh) * (ca + (cb + 0))).fdiv Fz), .int ((24 * (1 + vh) * ca).fdiv Fz)]) (Rd.list (vs := [_, _]) (N8.get (by k_mem)) (.cons .int (.cons .int .nil))) (Rd.list (vs := [_, _]) (N8.get (by k_mem)) (.cons .int (.cons .int .nil))) (by rfl) ?hu ?_
    case hu => ktr_units
    clear hWn hWc lpd hpd lcd hcd hdb hle
    -- J0
    k_steps
    all_goals (try unfold Hold)
    -- J1
    · rename_i hk
      exact absurd rfl hk
    · rename_i hk
      replace hk : kd = 0 := hk
      (rename News _ _ _ _ => N8)
      replace ml1 : (l1, PySem.W.listOf ws1.toArray _) ∈ R7 := ml1
      have hwB : All2 (RowN (Led R7)) ws1 (rs9 ++ [(dl + cb, vl9, none)]) := by rw [← e9, ← rows_zero hca.1 hcb.1 hk rfl hK]; exact hw1'
      refine eq_rd (d := .list (List.map rowP (rs9 ++ [(dl + cb, vl9, none)]))) (Rd.list (N8.get (by k_mem)) (hwB.map_r fun _ _ y => y.rd (ledG N8 (by intro p9 hp9; first | ((repeat (first | exact hp9 | exact List.mem_append_left _ hp9 | exact List.mem_append_right _ hp9 | refine List.mem_cons_of_mem _ ?_)); done) | (simp only [List.mem_cons, List.mem_append]; simp only [hp9, true_or, or_true]))))) (Rd.list (N8.get (by k_mem)) (hwA.map_r fun _ _ y => y.rd (ledG N8 (by intro p9 hp9; first | ((repeat (first | exact hp9 | exact List.mem_append_left _ hp9 | exact List.mem_append_right _ hp9 | refine List.mem_cons_of_mem _ ?_)); done) | (simp only [List.mem_cons, List.mem_append]; simp only [hp9, true_or, or_true]))))) (rows_shaped _) ?hu ?_
      case hu => ktr_units
      k_steps
      all_goals (try unfold Hold)
      all_goals (try dsimp only)
      exact hend _ _ _ (by assumption)
    · rename_i hk
      replace hk : kd ≠ 0 := hk
      -- J2
      obtain ⟨hre0, hR14⟩ := rows_more hEb.1 hEb.2.1 hcb.1 hvl0 hvl1 hk hK
      rw [e9] at hR14
      obtain ⟨rf, ra, hr0, hrz, hrf, hra, hus, hiu⟩ := hR14.uses rfl
      rw [whole_val hFp eE2 rfl, ← hre0, behind_val hFp eE2 hK hLv] at hus
      (rename News _ _ _ _ => N8)
      have hG8 := ledG (led := (l2, PySem.W.listOf (vsL ++ [Value.ref DL]).toArray n4) :: R7) N8 (fcons (by k_mem) (by intro p9 hp9; first | ((repeat (first | exact hp9 | exact List.mem_append_left _ hp9 | exact List.mem_append_right _ hp9 | refine List.mem_cons_of_mem _ ?_)); done) | (simp only [List.mem_cons, List.mem_append]; simp only [hp9, true_or, or_true])))
      have mDf9 := inL mDf2
      k_dflt (refine' used_c (fa := Value.none) (P := Led ((l2, PySem.W.listOf (vsL ++ [Value.ref DL]).toArray n4) :: R7)) (rows := rs9 ++ [(dl + cb, vl9, none)]) (tu := 5000) (ra := ra) (rf := rf) (Df := Df2) (f := (Fz : Rat)) (bf := 64) ?k1_u8 ?k2_u8 ?k3_u8 ?k4_u8 ?k5_u8 ?k6_u8 ?gx_u8 ?gd_u8 ?hP_u8 ?el_u8 ?hv_u8 ?htu_u8 ?hll_u8 ?h0_u8 ?hz_u8 ?est_u8 ?een_u8 ?hs0_u8 ?hse_u8 ?hen_u8 ?hq_u8 ?hf_u8 ?hbf_u8 ?hbf2_u8 ?k7_u8 ?k8_u8 ?_)
      case k1_u8 => k_asm
      case k2_u8 => k_asm
      case k3_u8 => k_asm
      case k4_u8 => k_asm
      case k5_u8 => k_asm
      case k6_u8 => first | exact rfl | assumption
      case k7_u8 => ktr_room
      case k8_u8 => ktr_units
      case gx_u8 => exact N8.get (by k_mem)
      case gd_u8 => exact N8.get (by k_mem)
      case hP_u8 => exact hG8
      case el_u8 => exact List.mem_cons_self ..
      case hv_u8 => exact hwA.mono fun _ _ y => y.mono fun _ _ e => List.mem_cons_of_mem _ e
      case htu_u8 => decide
      case hll_u8 => exact hrl
      case h0_u8 => exact hr0
      case hz_u8 => exact hrz
      case est_u8 => exact hrf
      case een_u8 => exact hra
      case hs0_u8 => omega
      case hse_u8 => omega
      case hen_u8 => omega
      case hq_u8 => exact hiu
      case hf_u8 => exact N8.get (by k_mem)
      case hbf_u8 => exact hFb
      case hbf2_u8 => decide
      intro D5 t5 u5 c5 h5 tk5 b5 F5 N9 l5
      replace l5 := allNe_of l5
      have hb1 : Builtin.Int.intBits 1 ≤ 64 := by decide
      have hbS := sum_bits vh0 vh1 hca hcb hF7 hF960 hLv
      clear hG8 N8
      -- K0
      k_steps
      unfold Hold
      -- K1
      rename_i r6 D6 t6 u6 c6 h6 tk6 rE rN rD F6 N6 l6
      k_dflt (refine' times_r (D1 := D5) (D2 := D6) (r1 := ((usum (stepsF 5000 (rs9 ++ [(dl + cb, vl9, none)])) : Int) : Rat) * (Fz : Rat)) (r2 := r6) (n := 128) (k := 64) ?k1_u9 ?k2_u9 ?k3_u9 ?k4_u9 ?k5_u9 ?k6_u9 ?e1_u9 ?e2_u9 ?k7_u9 ?k8_u9 ?b1_u9 ?b2_u9 ?hbq_u9 ?_)
      case k1_u9 => k_asm
      case k2_u9 => k_asm
      case k3_u9 => k_asm
      case k4_u9 => k_asm
      case k5_u9 => k_asm
      case k6_u9 => first | exact rfl | assumption
      case k7_u9 => ktr_room
      case k8_u9 => ktr_units
      case e1_u9 => exact N6.get (by k_mem)
      case e2_u9 => exact N6.get (by k_mem)
      case b1_u9 => exact b5
      case b2_u9 => exact ⟨rN, rD⟩
      case hbq_u9 => decide
      intro D7 t7 u7 c7 h7 tk7 b7 F7 N7 l7
      replace l7 := allNe_of l7
      rw [mul_back hF0 rE] at N7
      clear N6 F6 l6
      -- L0
      k_steps
      unfold Hold
      -- L1
      (rename News _ _ _ _ => NA)
      refine eq_rd (d := .tuple [.int ((24 * (1 + vh) * ca).fdiv Fz + ((24 * (1 + vh) * (ca + (cb + 0)) - lv).fdiv Fz - (24 * (1 + vh) * ca).fdiv Fz)), .int 1]) (RatN.rd' (P := Led _) (ledG NA fun _ h => h) (ratR (by k_mem)) (congrArg (Int.cast : Int → Rat) hus)) (T2_rd (NA.get (by k_mem))) (by rfl) ?hu ?_
      case hu => ktr_units
      k_steps
      all_goals (try unfold Hold)
      all_goals (try dsimp only)
      exact hend _ _ _ (by assumption)
set_option maxRecDepth 100000 in
theorem tailA {w0 : World} {p : Program} {loose : List Str} {mean : ExcName → Option Value} {mg mb : Str → Option Value} {fa L : Addr} {cc : Value} {base h₀ : Heap} {Q : Flow → Shared → Prop} {EX : Value → Shared → Prop} {m : Str → Option Value} {z : NetP} {ndl : Nat} {s : Shared} {Dh TL : Addr} {o0 : Obj} {l0 : Addr} {vs0 : List Value} {ns0 : List Int} {vh Fz day ca cb : Int} {th uh ta tb g1 g2 g3 : Tok} {ch : Nat} {R0 : List (Addr × Obj)}
    (K0 : Below callerA base [] h₀) (KX : (HD.K w0.params).In h₀) (T : Top p loose mean mg mb h₀) (F : Fr h₀ L s.heap m) (N : News h₀ L s.heap ((TL, PySem.W.listOf [Value.int ca ta, Value.int cb tb].toArray 2) :: (L + 1, o0) :: R0)) (hcell : o0.data = .cell (some (.ref l0))) (hL0 : base.IsList l0 vs0.toArray) (hI0 : IntsAre vs0 ns0) (hns0 : ns0.length ≤ 63)
    (n_net : m (Str.ofString "net") = some (Value.ref z.net)) (n_heat : m (Str.ofString "heat") = some (Value.int (1 + vh) g1)) (n_factor : m (Str.ofString "factor") = some (Value.int Fz g2)) (n_day : m (Str.ofString "day") = some (Value.int day g3)) (n_counts : m (Str.ofString "counts") = some (Value.ref TL))
    (hn0 : ∀ p ∈ [(z.net, instObj 298 z.dn), (z.dn, netDO w0.params z), (z.pd, z.opd), (z.pp, instObj 139 z.ppd), (z.ppd, pipDO w0.params z), (z.cd, z.ocd), (z.cu, instObj 167 z.cud), (z.cud, conDO w0.params z), (z.dl, PySem.W.listOf (List.replicate 24 (Value.ref Dh)).toArray ndl)], p ∈ R0) (mDh0 : (Dh, T2 (1 + vh) 1 th uh ch) ∈ R0) (lpd : (z.pd == sysModules) = false) (hpd : z.opd.IsDictOf (PySem.strKind PySem.Challenge.rw_ui0509_14.row.prog w0) [(Str.ofString "p", Value.ref z.pp)]) (lcd : (z.cd == sysModules) = false) (hcd : z.ocd.IsDictOf (PySem.strKind PySem.Challenge.rw_ui0509_14.row.prog w0) [(Str.ofString "u", Value.ref z.cu)])
    (hF7 : 7 ≤ Fz) (hF960 : Fz ≤ 960) (hFbits : Builtin.Int.intBits Fz ≤ 64) (vh0 : 0 ≤ vh) (vh1 : vh < 40) (hday1 : 1 ≤ day) (hday2 : day ≤ 20) (hca : 1 ≤ ca ∧ ca ≤ 5) (hcb : 1 ≤ cb ∧ cb ≤ 5)
    (hend : ∀ (h' : Heap) (tk' : Nat) (m' : Str → Option Value), Fr h₀ L h' m' → Q (.ret (.bool true)) { s with heap := h', toks := tk' }) :
    wpAny (model PySem.Challenge.rw_ui0509_14.row.prog w0) (callerA.deeper (envOfC HD.dH.name HD.dH.scope L fa cc)) (execs (HD.fb34.1.drop 8) (envOfC HD.dH.name HD.dH.scope L fa cc)) Q EX s := by
  w_top off
  revert KX; k_fill; intro KX
  dsimp only [HD.dH, HD.fb34, HD.fs34, List.drop_succ_cons, List.drop_zero]
  obtain ⟨RX, eRX, NX⟩ := name_led N
  have mTL : (TL, PySem.W.listOf [Value.int ca ta, Value.int cb tb].toArray 2) ∈ RX := mem1 eRX
  have mcl := mem2 eRX
  have sX0 : ∀ p ∈ R0, p ∈ RX := fun p hp => by rw [eRX]; exact List.mem_cons_of_mem _ (List.mem_cons_of_mem _ hp)
  clear N eRX
  have mDhX := sX0 _ mDh0
  obtain ⟨W, hWn, hWc, hWX⟩ : ∃ W : List (Addr × Obj), (∀ p ∈ [(z.net, instObj 298 z.dn), (z.dn, netDO w0.params z), (z.pd, z.opd), (z.pp, instObj 139 z.ppd), (z.ppd, pipDO w0.params z), (z.cd, z.ocd), (z.cu, instObj 167 z.cud), (z.cud, conDO w0.params z), (z.dl, PySem.W.listOf (List.replicate 24 (Value.ref Dh)).toArray ndl)], p ∈ W) ∧ (∀ p ∈ W, p.2.cls ≠ .type "tuple") ∧ (∀ p ∈ W, p ∈ RX) := ⟨_, fun _ h => h, fcons inst_cls (fcons dict_cls2 (fcons (dict_cls hpd) (fcons inst_cls (fcons dict_cls2 (fcons (dict_cls hcd) (fcons inst_cls (fcons dict_cls2 (fcons list_cls (List.forall_mem_nil _))))))))), fun p hp => sX0 p (hn0 p hp)⟩
  clear hn0 mDh0 sX0
  have hFb : Bd 64 (Fz : Rat) := bd64 (by omega) (by omega)
  have hF0 : (Fz : Rat) ≠ 0 := cast_ne (by omega)
  have hdb : ∀ r ∈ List.replicate 24 (((1 + vh : Int)) : Rat), Bd 64 r := rep_bd (bd64 (by omega) (by omega))
  obtain ⟨E, eE⟩ : ∃ E, E = tot (List.replicate 24 (((1 + vh : Int)) : Rat)) / (Fz : Rat) := ⟨_, rfl⟩
  have eE2 := eE.trans each14
  have hEb := each_bd (H := 24 * (1 + vh)) (F := Fz) (by omega) (by omega) hF7
  rw [← eE2] at hEb
  have hle : ¬ ((5000 - 1 : Int) : Rat) < tot (List.replicate 24 (((1 + vh : Int)) : Rat)) / (Fz : Rat) := by rw [← eE]; exact hEb.2.2
  have mk8 : Mark8L := .mk
  have mkM : MarkM := .mk
  -- A0
  k_steps
  unfold Hold
  rename_i Df1 tf1 uf1 cf1 hq1 tkq1 FQ1 NQ1 lQ1
  -- A00
  k_dflt (refine' meter_new_m (n1 := 64) (n2 := 64) ?k1_u1 ?k2_u1 ?k3_u1 ?k4_u1 ?k5_u1 ?k6_u1 ?e1_u1 ?k7_u1 ?k8_u1 ?h1_u1 ?b1_u1 ?b2_u1 ?z1_u1 ?z2_u1 ?hT_u1 ?hT2_u1 ?_)
  case k1_u1 => k_asm
  case k2_u1 => k_asm
  case k3_u1 => k_asm
  case k4_u1 => k_asm
  case k5_u1 => k_asm
  case k6_u1 => first | exact rfl | assumption
  case k7_u1 => ktr_room
  case k8_u1 => ktr_units
  case e1_u1 => exact inL (List.mem_cons_self ..)
  case h1_u1 => exact Int.lt_of_lt_of_le (by decide : (0 : Int) < 7) hF7
  case b1_u1 => exact hFbits
  case b2_u1 => exact (by decide : Builtin.Int.intBits ((1 : Nat) : Int) ≤ 64)
  case z1_u1 => decide
  case z2_u1 => decide
  case hT_u1 => decide
  case hT2_u1 => decide
  intro x1 d1 l1 p1 p2 p3 p4 p5 n1 h1 tk1 F1 N1 ndx1 nlx1 nld1 ax1 ad1 al1
  clear FQ1 NQ1 lQ1
  k_steps
  unfold Hold
  rename_i Df2 tf2 uf2 cf2 hq2 tkq2 FQ2 NQ2 lQ2
  -- A1
  k_dflt (refine' meter_new_n (n1 := 64) (n2 := 64) ?k1_u2 ?k2_u2 ?k3_u2 ?k4_u2 ?k5_u2 ?k6_u2 ?e1_u2 ?k7_u2 ?k8_u2 ?h1_u2 ?b1_u2 ?b2_u2 ?z1_u2 ?z2_u2 ?hT_u2 ?hT2_u2 ?_)
  case k1_u2 => k_asm
  case k2_u2 => k_asm
  case k3_u2 => k_asm
  case k4_u2 => k_asm
  case k5_u2 => k_asm
  case k6_u2 => first | exact rfl | assumption
  case k7_u2 => ktr_room
  case k8_u2 => ktr_units
  case e1_u2 => exact inL (List.mem_cons_self ..)
  case h1_u2 => exact Int.lt_of_lt_of_le (by decide : (0 : Int) < 7) hF7
  case b1_u2 => exact hFbits
  case b2_u2 => exact (by decide : Builtin.Int.intBits ((1 : Nat) : Int) ≤ 64)
  case z1_u2 => decide
  case z2_u2 => decide
  case hT_u2 => decide
  case hT2_u2 => decide
  intro x2 d2 l2 q1 q2 q3 q4 q5 n2 h2 tk2 F2 N2 ndx2 nlx2 nld2 ax2 ad2 al2
  clear FQ2 NQ2
  k_steps
  unfold Hold
  -- A2
  rename_i hA FA0 NA0 aA hB oM FA1 NA1 loM hdM lM hC tkC tsC FA NA
  clear FA0 NA0 aA FA1 NA1
  obtain ⟨R1, NB, s1, aD1, aL1⟩ := news_cut2 NA (by k_mem : (d1, _) ∈ _) (by k_mem : (l1, PySem.W.listOf ([] : List Value).toArray n1) ∈ _)
  have mx1 := s1 x1 (instObj 367 d1) (by k_mem) ndx1.symm nlx1.symm
  have mmd := s1 _ oM (List.mem_cons_self ..) (apLt lM (by k_mem : (d1, _) ∈ _)).symm (apLt lM (by k_mem : (l1, _) ∈ _)).symm
  have mx2 := s1 x2 (instObj 367 d2) (by k_mem) (ax2 (d1, _) (by k_mem)).symm (ax2 (l1, _) (by k_mem)).symm
  have md2 := s1 d2 _ (by k_mem) (ad2 (d1, _) (by k_mem)).symm (ad2 (l1, _) (by k_mem)).symm
  have ml2 := s1 l2 (PySem.W.listOf ([] : List Value).toArray n2) (by k_mem) (al2 (d1, _) (by k_mem)).symm (al2 (l1, _) (by k_mem)).symm
  have mDf1 := s1 Df1 _ (by k_mem) (ad1 (Df1, _) (by k_mem)) (al1 (Df1, _) (by k_mem))
  have mDf2 := s1 Df2 _ (by k_mem) (apLt lQ2 (by k_mem)).symm (apLt lQ2 (by k_mem)).symm
  have sX1 : ∀ p ∈ RX, p ∈ R1 := fun p hp => s1 p.1 p.2 (((by intro p9 hp9; first | ((repeat (first | exact hp9 | exact List.mem_append_left _ hp9 | exact List.mem_append_right _ hp9 | refine List.mem_cons_of_mem _ ?_)); done) | (simp only [List.mem_cons, List.mem_append]; simp only [hp9, true_or, or_true])) : ∀ p ∈ RX, p ∈ _) p hp) (ad1 p (List.mem_cons_of_mem _ hp)) (al1 p (List.mem_cons_of_mem _ hp))
  clear NA s1
  k_dflt (refine' count_c (z := z) (x := x1) (d := d1) (l := l1) (W := W) (VS := []) (val0 := 0) (F0 := [(day, 0, none)]) (dvs := List.replicate 24 (Value.ref Dh)) (ds := List.replicate 24 (((1 + vh : Int)) : Rat)) (f := (Fz : Rat)) (re := 0) (br := 1) (tu := 5000) (tq := 0) ?k1_u3 ?k2_u3 ?k3_u3 ?k4_u3 ?k5_u3 ?k6_u3 ?ex_u3 ?em_u3 ?hWr_u3 ?hWc_u3 ?hn_u3 ?lpd_u3 ?hpd_u3 ?lcd_u3 ?hcd_u3 ?lmd_u3 ?hmd_u3 ?hdr_u3 ?hlr_u3 ?nld_u3 ?hf_u3 ?hbf_u3 ?hf0_u3 ?hr_u3 ?hbr_u3 ?hbr2_u3 ?hdv_u3 ?hdb_u3 ?hdl_u3 ?h1_u3 ?h2_u3 ?h3_u3 ?h4_u3 ?htu_u3 ?htu2_u3 ?hle_u3 ?hVS_u3 ?hv0_u3 ?hv1_u3 ?hlen_u3 ?k7_u3 ?k8_u3 ?_)
  case k1_u3 => k_asm
  case k2_u3 => k_asm
  case k3_u3 => k_asm
  case k4_u3 => k_asm
  case k5_u3 => k_asm
  case k6_u3 => first | exact rfl | assumption
  case k7_u3 => ktr_room
  case k8_u3 => ktr_units
  case ex_u3 => exact mx1
  case em_u3 => k_mem
  case hWr_u3 => exact (fun p hp => sX1 p (hWX p hp))
  case hWc_u3 => exact hWc
  case hn_u3 => exact hWn
  case lpd_u3 => exact lpd
  case hpd_u3 => exact hpd
  case lcd_u3 => exact lcd
  case hcd_u3 => exact hcd
  case lmd_u3 => exact loM
  case hmd_u3 => exact hdM
  case hdr_u3 => exact aD1
  case hlr_u3 => exact aL1
  case nld_u3 => exact nld1
  case hf_u3 => exact NB.get (List.mem_cons_of_mem _ (List.mem_cons_of_mem _ mDf1))
  case hbf_u3 => exact hFb
  case hf0_u3 => exact hF0
  case hr_u3 => exact Frag.In.keeps (by k_asm) (Fr.keep (by k_asm)) _ _ (by k_is)
  case hbr_u3 => exact Bd.zero (by decide)
  case hbr2_u3 => decide
  case hdv_u3 => exact all2_rep ⟨Dh, th, uh, ch, rfl, NB.get (List.mem_cons_of_mem _ (List.mem_cons_of_mem _ (sX1 _ mDhX)))⟩ 24
  case hdb_u3 => exact hdb
  case hdl_u3 => exact List.length_replicate
  case h1_u3 => omega
  case h2_u3 => omega
  case h3_u3 => omega
  case h4_u3 => omega
  case htu_u3 => decide
  case htu2_u3 => decide
  case hle_u3 => exact hle
  case hVS_u3 => exact .inl ⟨rfl, rfl, rfl⟩
  case hv0_u3 => exact Int.le_refl _
  case hv1_u3 => exact by decide
  case hlen_u3 => exact Nat.zero_le _
  intro Do1 Dr1 odo1 to1 u5 u6 u7 n3 ws1 tl1 h3 tk3 F3 N3 hd1 mr1 b1 hw1 e1 e2 e3 e4 e5 e6 e7
  -- B1
  clear b1 mr1
  rw [← eE, show ca + (cb + 0) = ca + cb by omega] at hd1 hw1
  obtain ⟨R2, eR2, N4⟩ := name_led N3
  have mDo1 := mem1 eR2
  have md1 := mem2 eR2
  have ml1 := mem3 eR2
  have sR := sub3 eR2
  clear eR2 N3 NB
  have sX2 : ∀ p ∈ RX, p ∈ R2 := fun p hp => sR p (List.mem_append_left _ (sX1 p hp))
  have st1 : ∀ p ∈ tl1, p ∈ R2 := fun p hp => sR p (List.mem_append_right _ hp)
  have aX2 : ∀ p ∈ RX, p.1 ≠ d2 ∧ p.1 ≠ l2 := fun p hp => ⟨ad2 p (((by intro p9 hp9; first | ((repeat (first | exact hp9 | exact List.mem_append_left _ hp9 | exact List.mem_append_right _ hp9 | refine List.mem_cons_of_mem _ ?_)); done) | (simp only [List.mem_cons, List.mem_append]; simp only [hp9, true_or, or_true])) : ∀ p ∈ RX, p ∈ _) p hp), al2 p (((by intro p9 hp9; first | ((repeat (first | exact hp9 | exact List.mem_append_left _ hp9 | exact List.mem_append_right _ hp9 | refine List.mem_cons_of_mem _ ?_)); done) | (simp only [List.mem_cons, List.mem_append]; simp only [hp9, true_or, or_true])) : ∀ p ∈ RX, p ∈ _) p hp)⟩
  have at2 : ∀ p ∈ tl1, p.1 ≠ d2 ∧ p.1 ≠ l2 := fun p hp => ⟨(e7 _ md2 p hp).symm, (e7 _ ml2 p hp).symm⟩
  have aDo : Do1 ≠ d2 ∧ Do1 ≠ l2 := ⟨(e1 _ md2).symm, (e1 _ ml2).symm⟩
  have ax : x1 ≠ d2 ∧ x1 ≠ l2 := ⟨ad2 (x1, _) (by k_mem), al2 (x1, _) (by k_mem)⟩
  have ad : d1 ≠ d2 ∧ d1 ≠ l2 := ⟨ad2 (d1, _) (by k_mem), al2 (d1, _) (by k_mem)⟩
  have al : l1 ≠ d2 ∧ l1 ≠ l2 := ⟨ad2 (l1, _) (by k_mem), al2 (l1, _) (by k_mem)⟩
  have aDf : Df2 ≠ d2 ∧ Df2 ≠ l2 := ⟨ad2 (Df2, _) (by k_mem), al2 (Df2, _) (by k_mem)⟩
  replace mx1 := sR _ (List.mem_append_left _ mx1)
  replace mx2 := sR _ (List.mem_append_left _ mx2)
  replace md2 := sR _ (List.mem_append_left _ md2)
  replace ml2 := sR _ (List.mem_append_left _ ml2)
  replace mDf2 := sR _ (List.mem_append_left _ mDf2)
  have mTL2 := sX2 _ mTL
  obtain ⟨tn2, tt2, md2⟩ : ∃ t t' : Tok, (d2, meterD w0.params q1 q2 q3 q4 q5 (Value.str (Str.ofString "n") t) (Value.int 5000 t') (Value.ref Df2) (Value.ref l2) (Value.ref 56)) ∈ R2 := ⟨_, _, md2⟩
  clear sR sX1 e1 e2 e3 e4 e5 e6 e7 ad2 ax2 al2 aD1 aL1 ad1 ax1 al1 lQ2 lM hdM loM mmd mDf1 ndx1 nlx1 nld1
  obtain ⟨mB, eB, FB⟩ := fr_name F3
  clear F3 FA
  have n_net9 := n_net; clear n_net; have n_net := fr_at eB (PySem.Str.ofString "net") _ n_net9
  have n_heat9 := n_heat; clear n_heat; have n_heat := fr_at eB (PySem.Str.ofString "heat") _ n_heat9
  have n_factor9 := n_factor; clear n_factor; have n_factor := fr_at eB (PySem.Str.ofString "factor") _ n_factor9
  have n_day9 := n_day; clear n_day; have n_day := fr_at eB (PySem.Str.ofString "day") _ n_day9
  have n_counts9 := n_counts; clear n_counts; have n_counts := fr_at eB (PySem.Str.ofString "counts") _ n_counts9
  have n_one := fr_at eB (PySem.Str.ofString "one") _ (by rfl)
  have n_two := fr_at eB (PySem.Str.ofString "two") _ (by rfl)
  clear eB n_net9 n_heat9 n_factor9 n_day9 n_counts9
  k_steps
  unfold Hold
  -- C1
  rename_i hA FA0 NA0 aA hB oM FA NA loM hdM lM
  clear FA0 NA0 aA
  obtain ⟨R3, NB, s3, aD3, aL3⟩ := news_cut2 NA (List.mem_cons_of_mem _ md2) (List.mem_cons_of_mem _ ml2)
  have mmd := s3 _ oM (List.mem_cons_self ..) (apLt lM md2).symm (apLt lM ml2).symm
  replace mx1 := s3 x1 _ (List.mem_cons_of_mem _ mx1) ax.1 ax.2
  replace mx2 := s3 x2 _ (List.mem_cons_of_mem _ mx2) ndx2.symm nlx2.symm
  replace md1 := s3 d1 _ (List.mem_cons_of_mem _ md1) ad.1 ad.2
  replace ml1 := s3 l1 _ (List.mem_cons_of_mem _ ml1) al.1 al.2
  replace mDf2 := s3 Df2 _ (List.mem_cons_of_mem _ mDf2) aDf.1 aDf.2
  replace mDo1 := s3 Do1 _ (List.mem_cons_of_mem _ mDo1) aDo.1 aDo.2
  have sX3 : ∀ p ∈ RX, p ∈ R3 := fun p hp => s3 p.1 p.2 (List.mem_cons_of_mem _ (sX2 p hp)) (aX2 p hp).1 (aX2 p hp).2
  have st3 : ∀ p ∈ tl1, p ∈ R3 := fun p hp => s3 p.1 p.2 (List.mem_cons_of_mem _ (st1 p hp)) (at2 p hp).1 (at2 p hp).2
  clear NA s3 sX2 st1 aX2 at2 aDo ax ad al aDf lM md2 ml2 mTL2
  k_dflt (refine' count_c (z := z) (x := x2) (d := d2) (l := l2) (W := W) (VS := []) (val0 := 0) (F0 := [(day, 0, none)]) (dvs := List.replicate 24 (Value.ref Dh)) (ds := List.replicate 24 (((1 + vh : Int)) : Rat)) (f := (Fz : Rat)) (re := 0) (br := 1) (tu := 5000) (tq := 0) ?k1_u4 ?k2_u4 ?k3_u4 ?k4_u4 ?k5_u4 ?k6_u4 ?ex_u4 ?em_u4 ?hWr_u4 ?hWc_u4 ?hn_u4 ?lpd_u4 ?hpd_u4 ?lcd_u4 ?hcd_u4 ?lmd_u4 ?hmd_u4 ?hdr_u4 ?hlr_u4 ?nld_u4 ?hf_u4 ?hbf_u4 ?hf0_u4 ?hr_u4 ?hbr_u4 ?hbr2_u4 ?hdv_u4 ?hdb_u4 ?hdl_u4 ?h1_u4 ?h2_u4 ?h3_u4 ?h4_u4 ?htu_u4 ?htu2_u4 ?hle_u4 ?hVS_u4 ?hv0_u4 ?hv1_u4 ?hlen_u4 ?k7_u4 ?k8_u4 ?_)
  case k1_u4 => k_asm
  case k2_u4 => k_asm
  case k3_u4 => k_asm
  case k4_u4 => k_asm
  case k5_u4 => k_asm
  case k6_u4 => first | exact rfl | assumption
  case k7_u4 => ktr_room
  case k8_u4 => ktr_units
  case ex_u4 => exact mx2
  case em_u4 => k_mem
  case hWr_u4 => exact (fun p hp => sX3 p (hWX p hp))
  case hWc_u4 => exact hWc
  case hn_u4 => exact hWn
  case lpd_u4 => exact lpd
  case hpd_u4 => exact hpd
  case lcd_u4 => exact lcd
  case hcd_u4 => exact hcd
  case lmd_u4 => exact loM
  case hmd_u4 => exact hdM
  case hdr_u4 => exact aD3
  case hlr_u4 => exact aL3
  case nld_u4 => exact nld2
  case hf_u4 => exact NB.get (List.mem_cons_of_mem _ (List.mem_cons_of_mem _ mDf2))
  case hbf_u4 => exact hFb
  case hf0_u4 => exact hF0
  case hr_u4 => exact Frag.In.keeps (by k_asm) (Fr.keep (by k_asm)) _ _ (by k_is)
  case hbr_u4 => exact Bd.zero (by decide)
  case hbr2_u4 => decide
  case hdv_u4 => exact all2_rep ⟨Dh, th, uh, ch, rfl, NB.get (List.mem_cons_of_mem _ (List.mem_cons_of_mem _ (sX3 _ mDhX)))⟩ 24
  case hdb_u4 => exact hdb
  case hdl_u4 => exact List.length_replicate
  case h1_u4 => omega
  case h2_u4 => omega
  case h3_u4 => omega
  case h4_u4 => omega
  case htu_u4 => decide
  case htu2_u4 => decide
  case hle_u4 => exact hle
  case hVS_u4 => exact .inl ⟨rfl, rfl, rfl⟩
  case hv0_u4 => exact Int.le_refl _
  case hv1_u4 => exact by decide
  case hlen_u4 => exact Nat.zero_le _
  intro Do2 Dr2 odo2 to2 g5 g6 g7 n4 ws2 tl2 h4 tk4 F4 N4 hd2 mr2 b2 hw2 e1 e2 e3 e4 e5 e6 e7
  rw [← eE] at hd2 hw2 mr2
  clear b2 NB
  obtain ⟨rs, v2, ev2, hv20, hv21, ers, hrs⟩ := first_rows2 (tu := 5000) (day := day) (E := E) (by decide) hca.1
  obtain ⟨vs2, D0, ta0, tb0, c0, rfl, hv2, mD0⟩ := last2 hw2 ers
  have hlv : vs2.length ≤ 5 := by
    have h1 := congrArg List.length ers
    have h2 := hv2.length
    simp only [List.length_append, List.length_cons, List.length_nil, cRows_len] at h1
    omega
  have hbre : Bd 64 (frc (0 + E * (ca : Rat))) := by rw [eE2]; exact frc_bd (by omega) (by omega)
  have hR := r14_first2 (tu := 5000) (day := day) (E := E) hEb.1 hEb.2.1 (by decide) (by decide) hca.1
  rw [ers] at hR
  rw [List.nil_append] at N4
  obtain ⟨R4, eR4, N5⟩ := rot3 N4
  have aD4 := ne1 eR4 e2.symm aD3 e5
  have aL4 := ne1 eR4 e3.symm aL3 e6
  have mDo2 := mem1 eR4
  have s34 := (sub1 eR4).1
  have st2 := (sub1 eR4).2
  replace mx1 := s34 _ mx1
  replace mx2 := s34 _ mx2
  replace md1 := s34 _ md1
  replace ml1 := s34 _ ml1
  replace mDf2 := s34 _ mDf2
  replace mDo1 := s34 _ mDo1
  have sX4 : ∀ p ∈ RX, p ∈ R4 := fun p hp => s34 p (sX3 p hp)
  have hw1' : All2 (RowN (Led R4)) ws1 _ := hw1.mono fun _ _ y => y.mono fun _ _ e => s34 _ (st3 _ e)
  have hw2' : All2 (RowN (Led R4)) (vs2 ++ [Value.ref D0]) _ := hw2.mono fun _ _ y => y.mono fun _ _ e => st2 _ e
  replace hv2 : All2 (RowN (Led R4)) vs2 rs := hv2.mono fun _ _ y => y.mono fun _ _ e => st2 _ e
  replace mD0 := st2 _ mD0
  replace mr2 := st2 _ mr2
  clear N4 eR4 s34 st2 hw1 hw2 sX3 st3 e1 e2 e3 e4 e5 e6 e7 aD3 aL3 mmd hdM loM
  obtain ⟨mC, eC, FC⟩ := fr_name F4
  clear F4 FA
  have n_net9 := n_net; clear n_net; have n_net := fr_at eC (PySem.Str.ofString "net") _ n_net9
  have n_heat9 := n_heat; clear n_heat; have n_heat := fr_at eC (PySem.Str.ofString "heat") _ n_heat9
  have n_factor9 := n_factor; clear n_factor; have n_factor := fr_at eC (PySem.Str.ofString "factor") _ n_factor9
  have n_day9 := n_day; clear n_day; have n_day := fr_at eC (PySem.Str.ofString "day") _ n_day9
  have n_counts9 := n_counts; clear n_counts; have n_counts := fr_at eC (PySem.Str.ofString "counts") _ n_counts9
  have n_one9 := n_one; clear n_one; have n_one := fr_at eC (PySem.Str.ofString "one") _ n_one9
  have n_two9 := n_two; clear n_two; have n_two := fr_at eC (PySem.Str.ofString "two") _ n_two9
  have n_whole := fr_at eC (PySem.Str.ofString "whole") _ (by rfl)
  clear eC n_net9 n_heat9 n_factor9 n_day9 n_counts9 n_one9 n_two9
  -- D1
  have mk9 : Mark9L := .mk
  have mcl4 := sX4 _ mcl
  have mTL4 := sX4 _ mTL
  k_steps
  change wpAny _ _ _ _ _ _
  (rename Mark9L => mk9)
  clear mk9
  -- E1
  (rename Fr _ _ _ _ => F5)
  (rename News _ _ _ _ => N6)
  (rename _ < (3 : Int) => vk1)
  obtain ⟨mD, eD, FD⟩ := fr_name F5
  clear F5
  have n_net9 := n_net; clear n_net; have n_net := fr_at eD (PySem.Str.ofString "net") _ n_net9
  have n_heat9 := n_heat; clear n_heat; have n_heat := fr_at eD (PySem.Str.ofString "heat") _ n_heat9
  have n_factor9 := n_factor; clear n_factor; have n_factor := fr_at eD (PySem.Str.ofString "factor") _ n_factor9
  have n_day9 := n_day; clear n_day; have n_day := fr_at eD (PySem.Str.ofString "day") _ n_day9
  have n_counts9 := n_counts; clear n_counts; have n_counts := fr_at eD (PySem.Str.ofString "counts") _ n_counts9
  have n_one9 := n_one; clear n_one; have n_one := fr_at eD (PySem.Str.ofString "one") _ n_one9
  have n_two9 := n_two; clear n_two; have n_two := fr_at eD (PySem.Str.ofString "two") _ n_two9
  have n_whole9 := n_whole; clear n_whole; have n_whole := fr_at eD (PySem.Str.ofString "whole") _ n_whole9
  have n_first := fr_at eD (PySem.Str.ofString "first") _ (by rfl)
  have n_kind := fr_at eD (PySem.Str.ofString "kind") _ (by rfl)
  have n_lost := fr_at eD (PySem.Str.ofString "lost") _ (by rfl)
  clear eD n_net9 n_heat9 n_factor9 n_day9 n_counts9 n_one9 n_two9 n_whole9
  obtain ⟨kd, ekd, hk0, hk1⟩ := kind_name (by assumption) vk1
  rw [← ekd] at n_kind
  clear ekd
  (rename Shared => s9)
  refine wpAny_mono (show wpAny _ _ _ (fun (fl : Flow) (s' : Shared) => Held (fl = .next ∧ ∃ (h9 : Heap) (tk9 : Nat) (Dr : Addr) (re : Rat) (t9 u9 : Tok) (c9 : Nat) (qs : List MRow) (dl vl : Int) (vs : List Value) (Dw : Addr) (ta tb : Tok) (cw n9 : Nat) (R5 : List (Addr × Obj)), s' = { s9 with heap := h9, toks := tk9 } ∧ at9 FD h9 mD ∧ ats N6 h9 ((d2, meterD w0.params q1 q2 q3 q4 q5 (Value.str (Str.ofString "n") tn2) (Value.int 5000 tt2) (Value.ref Df2) (Value.ref l2) (Value.ref Dr)) :: (l2, PySem.W.listOf (vs ++ [Value.ref Dw]).toArray n9) :: R5) ∧ (∀ p ∈ R4, p ∈ R5) ∧ (∀ p ∈ R5, p.1 ≠ d2) ∧ (∀ p ∈ R5, p.1 ≠ l2) ∧ tks N6 R5 Dr (RatO re t9 u9 c9) ∧ Bd 64 re ∧ All2 (RowN (Led R5)) (vs ++ [Value.ref Dw]) (qs ++ [(dl, vl, none)]) ∧ (Dw, Mine.Row dl vl ta tb .none cw) ∈ R5 ∧ 0 ≤ vl ∧ vl < 5000 ∧ day ≤ dl ∧ dl ≤ 100 ∧ vs.length ≤ 10 ∧ K14 kd day ca E re (qs ++ [(dl, vl, none)]) dl vl)) _ _ from ?cut1) ?cut2 (fun _ _ e => e)
  -- E2
  case cut1 =>
    k_steps
    all_goals (try (exfalso; omega))
    · unfold Hold
      k_dflt (refine' correct_c (x := x2) (d := d2) (l := l2) (tu := 5000) (vs := vs2) (D0 := D0) (day := day + ca) (val := v2) (u0 := Value.none) ?k1_u5 ?k2_u5 ?k3_u5 ?k4_u5 ?k5_u5 ?k6_u5 ?ex_u5 ?U2_u5 ?U1_u5 ?n1_u5 ?n2_u5 ?n3_u5 ?e0_u5 ?n0_u5 ?hlen_u5 ?hv_u5 ?k7_u5 ?h3_u5 ?h4_u5 ?_)
      case k1_u5 => k_asm
      case k2_u5 => k_asm
      case k3_u5 => k_asm
      case k4_u5 => k_asm
      case k5_u5 => k_asm
      case k6_u5 => first | exact rfl | assumption
      case k7_u5 => ktr_room
      case ex_u5 => exact List.mem_cons_of_mem _ (List.mem_cons_of_mem _ mx2)
      case U2_u5 => k_upd
      case U1_u5 => k_updF
      case n1_u5 => exact ndx2
      case n2_u5 => exact nlx2
      case n3_u5 => exact nld2
      case e0_u5 => exact N6.get (List.mem_cons_of_mem _ (List.mem_cons_of_mem _ mD0))
      case n0_u5 => exact ⟨row_ne N6 (List.mem_cons_of_mem _ (List.mem_cons_of_mem _ mD0)) (List.mem_cons_of_mem _ (List.mem_cons_of_mem _ mx2)), aD4 _ mD0, aL4 _ mD0⟩
      case hlen_u5 => omega
      case hv_u5 => exact corr_hv N6 mx2 aD4 aL4 hv2 hrs
      case h3_u5 => exact hv20
      case h4_u5 => exact hv21
      intro D9 c9 n9 h9 tk9 F9 N9 a9
      k_steps
      (rename News _ _ _ _ => N8)
      (rename Fr _ _ _ _ => F8)
      exact .mk ⟨rfl, _, _, 56, 0, _, _, _, rs, (day + ca), v2, vs2, D9, _, _, _, _, (D9, _) :: R4, rfl, F8, fun p hp => N8 p ((fcons (by k_mem) (fcons (by k_mem) (fcons (by k_mem) (by intro p9 hp9; first | ((repeat (first | exact hp9 | exact List.mem_append_left _ hp9 | exact List.mem_append_right _ hp9 | refine List.mem_cons_of_mem _ ?_)); done) | (simp only [List.mem_cons, List.mem_append]; simp only [hp9, true_or, or_true])))) : ∀ p ∈ (d2, _) :: (l2, _) :: (D9, _) :: R4, p ∈ _) p hp), fun p hp => List.mem_cons_of_mem _ hp, fcons ((a9 (d2, _) (List.mem_cons_self ..)).symm) aD4, fcons ((a9 (l2, _) (List.mem_cons_of_mem _ (List.mem_cons_self ..))).symm) aL4, .inr (Frag.In.keeps (by k_asm) (fun _ _ h => h) _ _ (by k_is)), Bd.zero (by decide), (hv2.mono fun _ _ y => y.mono fun _ _ e => List.mem_cons_of_mem _ e).snoc (row_new (List.mem_cons_self ..)), List.mem_cons_self .., hv20, hv21, by omega, by omega, by first | omega | (rw [List.length_append, List.length_singleton]; omega), .more (.inl (by assumption)) rfl hR⟩
    · unfold Hold
      k_dflt (refine' read_snoc (x := x2) (d := d2) (l := l2) (tu := 5000) (vs := vs2) (D0 := D0) (day0 := day + ca) (day := day + ca + 1) (val := v2) (u0 := Value.none) ?k1_u6 ?k2_u6 ?k3_u6 ?k4_u6 ?k5_u6 ?k6_u6 ?ex_u6 ?U2_u6 ?U1_u6 ?n1_u6 ?n2_u6 ?n3_u6 ?e0_u6 ?n0_u6 ?hlen_u6 ?h5_u6 ?k7_u6 ?h1_u6 ?h2_u6 ?h3_u6 ?h4_u6 ?_)
      case k1_u6 => k_asm
      case k2_u6 => k_asm
      case k3_u6 => k_asm
      case k4_u6 => k_asm
      case k5_u6 => k_asm
      case k6_u6 => first | exact rfl | assumption
      case k7_u6 => ktr_room
      case ex_u6 => exact List.mem_cons_of_mem _ (List.mem_cons_of_mem _ mx2)
      case U2_u6 => k_upd
      case U1_u6 => k_updF
      case n1_u6 => exact ndx2
      case n2_u6 => exact nlx2
      case n3_u6 => exact nld2
      case e0_u6 => exact N6.get (List.mem_cons_of_mem _ (List.mem_cons_of_mem _ mD0))
      case n0_u6 => exact ⟨row_ne N6 (List.mem_cons_of_mem _ (List.mem_cons_of_mem _ mD0)) (List.mem_cons_of_mem _ (List.mem_cons_of_mem _ mx2)), aD4 _ mD0, aL4 _ mD0⟩
      case hlen_u6 => omega
      case h5_u6 => omega
      case h1_u6 => omega
      case h2_u6 => omega
      case h3_u6 => exact hv20
      case h4_u6 => exact hv21
      intro D9 c9 n9 h9 tk9 F9 N9 a9
      k_steps
      (rename News _ _ _ _ => N8)
      (rename Fr _ _ _ _ => F8)
      exact .mk ⟨rfl, _, _, 56, 0, _, _, _, (rs ++ [(day + ca, v2, none)]), (day + ca + 1), v2, (vs2 ++ [Value.ref D0]), D9, _, _, _, _, (D9, _) :: R4, rfl, F8, fun p hp => N8 p ((fcons (by k_mem) (fcons (by k_mem) (fcons (by k_mem) (by intro p9 hp9; first | ((repeat (first | exact hp9 | exact List.mem_append_left _ hp9 | exact List.mem_append_right _ hp9 | refine List.mem_cons_of_mem _ ?_)); done) | (simp only [List.mem_cons, List.mem_append]; simp only [hp9, true_or, or_true])))) : ∀ p ∈ (d2, _) :: (l2, _) :: (D9, _) :: R4, p ∈ _) p hp), fun p hp => List.mem_cons_of_mem _ hp, fcons ((a9 (d2, _) (List.mem_cons_self ..)).symm) aD4, fcons ((a9 (l2, _) (List.mem_cons_of_mem _ (List.mem_cons_self ..))).symm) aL4, .inr (Frag.In.keeps (by k_asm) (fun _ _ h => h) _ _ (by k_is)), Bd.zero (by decide), ((hv2.snoc (row_new mD0)).mono fun _ _ y => y.mono fun _ _ e => List.mem_cons_of_mem _ e).snoc (row_new (List.mem_cons_self ..)), List.mem_cons_self .., hv20, hv21, by omega, by omega, by first | omega | (rw [List.length_append, List.length_singleton]; omega), .more (.inr (by assumption)) rfl (r14_read (by decide) hR)⟩
    · (rename Fr _ _ _ _ => F8)
      exact .mk ⟨rfl, _, _, Dr2, _, _, _, _, rs, day + ca, v2, vs2, D0, _, _, _, _, R4, rfl, F8, N6, fun _ hp => hp, aD4, aL4, .inl mr2, hbre, hv2.snoc (row_new mD0), mD0, hv20, hv21, by omega, by omega, by omega, .zero (by omega) rfl rfl ev2 ers⟩
  case cut2 =>
    intro fl s' hC
    obtain ⟨⟨rfl, h9, tk9, Dr, re, t9, u9, c9, qs, dl, vl, vs, Dw, ta, tb, cw, n9, R5, rfl, F9, N9, s45, aD5, aL5, mre, bre, hv9, mDw, hvl0, hvl1, hdl0, hdl1, hlv9, hK⟩⟩ := hC
    replace F9 : Fr _ _ _ _ := F9
    replace N9 : News _ _ _ _ := N9
    replace mre : Tk _ R5 Dr _ := mre
    clear FD N6
    replace mx1 := s45 _ mx1
    replace mx2 := s45 _ mx2
    replace md1 := s45 _ md1
    replace ml1 := s45 _ ml1
    replace mDf2 := s45 _ mDf2
    replace mDo1 := s45 _ mDo1
    replace mDo2 := s45 _ mDo2
    have sX5 : ∀ p ∈ RX, p ∈ R5 := fun p hp => s45 p (sX4 p hp)
    replace hw1' : All2 (RowN (Led R5)) ws1 _ := hw1'.mono fun _ _ y => y.mono fun _ _ e => s45 _ e
    have mTL5 := sX5 _ mTL
    clear s45 sX4
    exact tailB K0 KX T F9 N9 n_net n_heat n_factor n_day n_counts n_one n_two n_whole n_first n_kind n_lost hWn hWc (fun p hp => sX5 p (hWX p hp)) lpd hpd lcd hcd (sX5 _ mDhX) hF7 hF960 hFbits vh0 vh1 hday1 hday2 hca hcb eE mx1 mx2 md1 ml1 mDf2 mDo1 mDo2 mTL5 hd1 hd2 hw1' aD5 aL5 mre bre hv9 mDw hvl0 hvl1 hdl0 hdl1 hlv9 hK hk0 hk1 ndx2 nlx2 nld2 hend
end Tl
namespace Tm
local macro_rules | `(tactic| walk_at "dummy") => `(tactic| fail)
local macro_rules | `(tactic| walk_at "dummy") => `(tactic| fail)
local macro_rules | `(tactic| walk_at "dummy") => `(tactic| fail)
theorem Mine.words23 : True := by
  k_with_none
  k_with "ne9" => (first | with_reducible assumption | exact Ne.symm (by with_reducible assumption) | omega)
  k_with "k_in" => (refine' in_of ?z88fF ?z88fX; (case z88fF => k_asm); (case z88fX => k_asm))
  k_with "kc_close" => ((fail_if_success (rename Final => fin')); (with_reducible show GoodW _ _ _ _ _ _ _); refine Hold.out ?_)
  k_with "wrow_close" => ((fail_if_success (rename Final => fin')); (with_reducible show GoodW _ _ _ _ _ _ _); refine Hold.out ?_)
  k_with "hat9" => (first | exact News.get (by k_asm) (by k_mem) | exact Fr.keep (by k_asm) _ _ (by with_reducible assumption) | exact Tk.get (by k_asm) (by k_asm) (by with_reducible assumption) (by intro p9 hp9; first | ((repeat (first | exact hp9 | exact List.mem_append_left _ hp9 | exact List.mem_append_right _ hp9 | refine List.mem_cons_of_mem _ ?_)); done) | (simp only [List.mem_cons, List.mem_append]; simp only [hp9, true_or, or_true])) | exact Frag.In.keeps (by k_asm) (Fr.keep (by k_asm)) _ _ (by k_is))
  k_with "bits_by_make" => (with_reducible assumption)
  k_with "ktr_units" => ((try simp only [units_under_make, units_in1, units_deeper, Around.mark_units, units_caller]); (try dsimp only [ktrTop]); first | exact un1 (by with_reducible assumption) (Nat.le_of_ble_eq_true rfl) | exact un2 (by with_reducible assumption) (Nat.le_of_ble_eq_true rfl) | exact un3 (by with_reducible assumption) (Nat.le_of_ble_eq_true rfl) | (have hcL9 := cLine_is; omega))
  k_with "binaryOp Mod int int" => (k_here; (with_reducible refine mod_gen ?z89mp ?_); (case z89mp => decide); walk_at "i9")
  k_with "call ref" => (k_here; (with_reducible show wpAny _ _ (call (Value.ref 72) [Value.int _ _, Value.int _ _]) _ _ _); k_dflt (refine' frac_use ?z90k1 ?z90k2 ?z90k3 ?z90k4 ?z90k5 ?z90k6 ?z90k7 ?z90k8 ?z90k9 ?z90k10 ?z90k11 ?z90k12 ?z90k13 ?_; (case z90k1 => k_asm); (case z90k2 => k_asm); (case z90k3 => k_asm); (case z90k4 => k_asm); (case z90k5 => k_asm); (case z90k6 => first | exact rfl | assumption); (case z90k7 => first | exact Nat.le_of_ble_eq_true rfl | ktr_room); (case z90k8 => first | exact Nat.le_of_ble_eq_true rfl | ktr_units); (case z90k10 => bits_by_make); (case z90k11 => bits_by_make); (case z90k12 => decide); (case z90k13 => decide); (case z90k9 => first | exact nzden _ | omega | ((try k_fmods); omega) | (refine nzmul ?_ ?_ <;> first | exact nzden _ | omega)); k_whole); walk_at "i10"; (try k_sweep))
  k_with "call ref" => (k_here; (with_reducible show wpAny _ _ (call (Value.ref 72) [Value.int _ _, Value.int 1 _]) _ _ _); k_dflt (refine' frac_one ?z91k1 ?z91k2 ?z91k3 ?z91k4 ?z91k5 ?z91k6 ?z91k7 ?z91k8 ?z91k10 ?z91k12 ?_; (case z91k1 => k_asm); (case z91k2 => k_asm); (case z91k3 => k_asm); (case z91k4 => k_asm); (case z91k5 => k_asm); (case z91k6 => first | exact rfl | assumption); (case z91k7 => first | exact Nat.le_of_ble_eq_true rfl | ktr_room); (case z91k8 => first | exact Nat.le_of_ble_eq_true rfl | ktr_units); (case z91k10 => bits_by_make); (case z91k12 => decide); k_whole); walk_at "i11"; (try k_sweep))
  k_with "call ref" => (k_here; (with_reducible show wpAny _ _ (call (Value.ref 72) [Value.int _ _]) _ _ _); k_dflt (refine' frac_dflt ?z92k1 ?z92k2 ?z92k3 ?z92k4 ?z92k5 ?z92k6 ?z92k7 ?z92k8 ?z92k10 ?z92k12 ?_; (case z92k1 => k_asm); (case z92k2 => k_asm); (case z92k3 => k_asm); (case z92k4 => k_asm); (case z92k5 => k_asm); (case z92k6 => first | exact rfl | assumption); (case z92k7 => first | exact Nat.le_of_ble_eq_true rfl | ktr_room); (case z92k8 => first | exact Nat.le_of_ble_eq_true rfl | ktr_units); (case z92k10 => bits_by_make); (case z92k12 => decide); k_whole); walk_at "i11"; (try k_sweep))
  k_with "call ref" => (k_here; (with_reducible show wpAny _ _ (call (Value.ref 80) [Value.ref _]) _ _ _); k_dflt (refine' need_cu ?z93k1 ?z93k2 ?z93k3 ?z93k4 ?z93k5 ?z93k6 ?z93m1 ?z93k7 ?z93k8 ?z93b1 ?z93b2 ?z93z1 ?z93z2 ?_; (case z93k1 => k_asm); (case z93k2 => k_asm); (case z93k3 => k_asm); (case z93k4 => k_asm); (case z93k5 => k_asm); (case z93k6 => first | exact rfl | assumption); (case z93k7 => first | exact Nat.le_of_ble_eq_true rfl | ktr_room); (case z93k8 => first | exact Nat.le_of_ble_eq_true rfl | ktr_units); (case z93m1 => (walk_at "hat9")); (case z93b1 => bits_by_make); (case z93b2 => bits_by_make); (case z93z1 => first | assumption | decide | omega); (case z93z2 => first | assumption | decide | omega); k_whole); walk_at "i3"; (try k_sweep))
  k_with "call ref" => (k_here; (with_reducible show wpAny _ _ (call (Value.ref 80) [Value.ref _]) _ _ _); k_dflt (refine' need_cz ?z94k1 ?z94k2 ?z94k3 ?z94k4 ?z94k5 ?z94k6 ?z94m1 ?z94k7 ?z94k8 ?z94b1 ?z94z1 ?_; (case z94k1 => k_asm); (case z94k2 => k_asm); (case z94k3 => k_asm); (case z94k4 => k_asm); (case z94k5 => k_asm); (case z94k6 => first | exact rfl | assumption); (case z94k7 => first | exact Nat.le_of_ble_eq_true rfl | ktr_room); (case z94k8 => first | exact Nat.le_of_ble_eq_true rfl | ktr_units); (case z94m1 => (walk_at "hat9")); (case z94b1 => bits_by_make); (case z94z1 => first | assumption | decide | omega); k_whole); walk_at "i3"; (try k_sweep))
  k_with "call ref" => (k_here; (with_reducible show wpAny _ _ (call (Value.ref 80) [Value.ref _, Value.ref _]) _ _ _); k_dflt (refine' need_nz ?z95k1 ?z95k2 ?z95k3 ?z95k4 ?z95k5 ?z95k6 ?z95m1 ?z95m2 ?z95k7 ?z95k8 ?z95b1 ?z95b2 ?z95z1 ?z95z2 ?z95h0 ?_; (case z95k1 => k_asm); (case z95k2 => k_asm); (case z95k3 => k_asm); (case z95k4 => k_asm); (case z95k5 => k_asm); (case z95k6 => first | exact rfl | assumption); (case z95k7 => first | exact Nat.le_of_ble_eq_true rfl | ktr_room); (case z95k8 => first | exact Nat.le_of_ble_eq_true rfl | ktr_units); (case z95m1 => (walk_at "hat9")); (case z95m2 => (walk_at "hat9")); (case z95b1 => bits_by_make); (case z95b2 => bits_by_make); (case z95z1 => first | assumption | decide | omega); (case z95z2 => first | assumption | decide | omega); (case z95h0 => omega); k_whole); walk_at "i3"; (try k_sweep))
  k_with "call ref" => (k_here; (with_reducible show wpAny _ _ (call (Value.ref 80) [Value.ref _]) _ _ _); k_dflt (refine' need_r ?z96k1 ?z96k2 ?z96k3 ?z96k4 ?z96k5 ?z96k6 ?z96m1 ?z96k7 ?z96k8 ?z96b1 ?z96hb ?_; (case z96k1 => k_asm); (case z96k2 => k_asm); (case z96k3 => k_asm); (case z96k4 => k_asm); (case z96k5 => k_asm); (case z96k6 => first | exact rfl | assumption); (case z96k7 => first | exact Nat.le_of_ble_eq_true rfl | ktr_room); (case z96k8 => first | exact Nat.le_of_ble_eq_true rfl | ktr_units); (case z96m1 => (walk_at "hat9")); (case z96b1 => with_reducible assumption); (case z96hb => first | assumption | omega | decide); k_whole); walk_at "i3"; (try k_sweep))
  k_with "call ref" => (k_here; (with_reducible show wpAny _ _ (call (Value.ref 80) [Value.ref _, Value.ref 56]) _ _ _); k_dflt (refine' need_rn (r2 := 0) (k := 1) ?z97k1 ?z97k2 ?z97k3 ?z97k4 ?z97k5 ?z97k6 ?z97m1 ?z97m2 ?z97k7 ?z97k8 ?z97b1 ?z97b2 ?z97hb ?z97hb2 ?z97hl ?_; (case z97k1 => k_asm); (case z97k2 => k_asm); (case z97k3 => k_asm); (case z97k4 => k_asm); (case z97k5 => k_asm); (case z97k6 => first | exact rfl | assumption); (case z97k7 => first | exact Nat.le_of_ble_eq_true rfl | ktr_room); (case z97k8 => first | exact Nat.le_of_ble_eq_true rfl | ktr_units); (case z97m1 => (walk_at "hat9")); (case z97m2 => exact Frag.In.keeps (by k_asm) (Fr.keep (by k_asm)) _ _ (by k_is)); (case z97b1 => with_reducible assumption); (case z97b2 => exact Bd.zero (by decide)); (case z97hb => first | assumption | omega | decide); (case z97hb2 => decide); (case z97hl => first | assumption | grind); k_whole); walk_at "i3"; (try k_sweep))
  k_with "k_ne" => (refine neN ?_; (try dsimp only); first | with_reducible assumption | exact Ne.symm (by with_reducible assumption) | exact apL (by with_reducible assumption) (by k_mem) | exact (apL (by with_reducible assumption) (by k_mem)).symm | exact apLt (by with_reducible assumption) (by k_mem) | exact (apLt (by with_reducible assumption) (by k_mem)).symm | exact neLt2 (by assumption) (by with_reducible assumption) (by k_mem) | exact (neLt2 (by assumption) (by with_reducible assumption) (by k_mem)).symm | exact Nat.ne_of_lt (by assumption) | exact (Nat.ne_of_lt (by assumption)).symm | omega)
  k_with "k_all" => (first | with_reducible assumption | exact List.forall_mem_nil _ | (refine fcons (?_) (?_) <;> first | k_ne | k_all) | exact allLt_mem (by with_reducible assumption))
  k_with "call ref" => (k_here; (with_reducible show wpAny _ _ (call (Value.ref 41) [Value.int _ _, Value.int _ _, Value.int _ _, Value.str _ _]) _ _ _); k_dflt (refine' need_number_c ?z98k1 ?z98k2 ?z98k3 ?z98k4 ?z98k5 ?z98k6 ?z98h1 ?z98h2 ?z98k7 ?_; (case z98k1 => k_asm); (case z98k2 => k_asm); (case z98k3 => k_asm); (case z98k4 => k_asm); (case z98k5 => k_asm); (case z98k6 => first | exact rfl | assumption); (case z98k7 => first | exact Nat.le_of_ble_eq_true rfl | ktr_room); (case z98h1 => first | decide | assumption | omega); (case z98h2 => first | decide | assumption | omega); k_whole); walk_at "i3"; (try k_sweep))
  k_with "call ref" => (k_here; (with_reducible show wpAny _ _ (call (Value.ref 55) [Value.str (PySem.Str.ofString "a") _]) _ _ _); k_dflt (refine' need_name_a ?z99k1 ?z99k2 ?z99k3 ?z99k4 ?z99k5 ?z99k6 ?z99k7 ?_; (case z99k1 => k_asm); (case z99k2 => k_asm); (case z99k3 => k_asm); (case z99k4 => k_asm); (case z99k5 => k_asm); (case z99k6 => first | exact rfl | assumption); (case z99k7 => first | exact Nat.le_of_ble_eq_true rfl | ktr_room); k_whole); walk_at "i3"; (try k_sweep))
  k_with "call ref" => (k_here; (with_reducible show wpAny _ _ (call (Value.ref 55) [Value.str (PySem.Str.ofString "b") _]) _ _ _); k_dflt (refine' need_name_b ?z100k1 ?z100k2 ?z100k3 ?z100k4 ?z100k5 ?z100k6 ?z100k7 ?_; (case z100k1 => k_asm); (case z100k2 => k_asm); (case z100k3 => k_asm); (case z100k4 => k_asm); (case z100k5 => k_asm); (case z100k6 => first | exact rfl | assumption); (case z100k7 => first | exact Nat.le_of_ble_eq_true rfl | ktr_room); k_whole); walk_at "i3"; (try k_sweep))
  k_with "call ref" => (k_here; (with_reducible show wpAny _ _ (call (Value.ref 55) [Value.str (PySem.Str.ofString "p") _]) _ _ _); k_dflt (refine' need_name_p ?z101k1 ?z101k2 ?z101k3 ?z101k4 ?z101k5 ?z101k6 ?z101k7 ?_; (case z101k1 => k_asm); (case z101k2 => k_asm); (case z101k3 => k_asm); (case z101k4 => k_asm); (case z101k5 => k_asm); (case z101k6 => first | exact rfl | assumption); (case z101k7 => first | exact Nat.le_of_ble_eq_true rfl | ktr_room); k_whole); walk_at "i3"; (try k_sweep))
  k_with "call ref" => (k_here; (with_reducible show wpAny _ _ (call (Value.ref 55) [Value.str (PySem.Str.ofString "u") _]) _ _ _); k_dflt (refine' need_name_u ?z102k1 ?z102k2 ?z102k3 ?z102k4 ?z102k5 ?z102k6 ?z102k7 ?_; (case z102k1 => k_asm); (case z102k2 => k_asm); (case z102k3 => k_asm); (case z102k4 => k_asm); (case z102k5 => k_asm); (case z102k6 => first | exact rfl | assumption); (case z102k7 => first | exact Nat.le_of_ble_eq_true rfl | ktr_room); k_whole); walk_at "i3"; (try k_sweep))
  k_with "call ref" => (k_here; (with_reducible show wpAny _ _ (call (Value.ref 55) [Value.str (PySem.Str.ofString "m") _]) _ _ _); k_dflt (refine' need_name_m ?z103k1 ?z103k2 ?z103k3 ?z103k4 ?z103k5 ?z103k6 ?z103k7 ?_; (case z103k1 => k_asm); (case z103k2 => k_asm); (case z103k3 => k_asm); (case z103k4 => k_asm); (case z103k5 => k_asm); (case z103k6 => first | exact rfl | assumption); (case z103k7 => first | exact Nat.le_of_ble_eq_true rfl | ktr_room); k_whole); walk_at "i3"; (try k_sweep))
  k_with "call ref" => (k_here; (with_reducible show wpAny _ _ (call (Value.ref 55) [Value.str (PySem.Str.ofString "n") _]) _ _ _); k_dflt (refine' need_name_n ?z104k1 ?z104k2 ?z104k3 ?z104k4 ?z104k5 ?z104k6 ?z104k7 ?_; (case z104k1 => k_asm); (case z104k2 => k_asm); (case z104k3 => k_asm); (case z104k4 => k_asm); (case z104k5 => k_asm); (case z104k6 => first | exact rfl | assumption); (case z104k7 => first | exact Nat.le_of_ble_eq_true rfl | ktr_room); k_whole); walk_at "i3"; (try k_sweep))
  k_with "call ref" => (k_here; (with_reducible show wpAny _ _ (call (Value.ref 367) [Value.str _ _, Value.int _ _, Value.ref _]) _ _ _); refine Hold.out ?_)
  k_with "call ref" => (k_here; (with_reducible show wpAny _ _ (call (Value.ref 314) _ _) _ _ _); refine Hold.out ?_)
  k_with "call ref" => (k_here; (with_reducible show wpAny _ _ (call (Value.ref 350) _ _) _ _ _); refine Hold.out ?_)
  k_with "call ref" => (k_here; (with_reducible show wpAny _ _ (call (Value.ref 336) _ _) _ _ _); refine Hold.out ?_)
  k_with "call ref" => (k_here; (with_reducible show wpAny _ _ (call (Value.ref 364) _ _) _ _ _); refine Hold.out ?_)
  k_with "call ref" => (k_here; (with_reducible show wpAny _ _ (call (Value.ref 94) _ _) _ _ _); refine Hold.out ?_)
  k_with "eval ListComp" => (k_here; lcg_look; k_dflt (refine LCg.ListComp_U (F₀ := by k_asm) (by rfl) (by decide) (by rfl) (by decide) (by rfl) ?_); k_dflt lcg_toSrc)
  k_with "eval ListComp" => (k_here; lcf_look; k_dflt (refine LCg.ListComp_U (F₀ := by k_asm) (by with_unfolding_all rfl) (by decide) (by rfl) (by decide) (by rfl) ?_); k_dflt lcg_toSrc)
  k_with "exec Assign cons ListComp" => (k_here; lcg_look; k_dflt (refine LCg.Assign_ListComp_U (F₀ := by k_asm) (by rfl) (by with_unfolding_all rfl) (by rfl) (by decide) (by rfl) (by decide) (by rfl) (by rfl) (by rfl) ?_); k_dflt lcg_toSrc)
  k_with "exec Assign cons ListComp" => (k_here; lcf_look; k_dflt (refine LCg.Assign_ListComp_U (F₀ := by k_asm) (by rfl) (by with_unfolding_all rfl) (by with_unfolding_all rfl) (by decide) (by rfl) (by decide) (by rfl) (by rfl) (by rfl) ?_); k_dflt lcg_toSrc)
  k_with "CompSrc" => (refine Hold.out ?_)
  k_with "CompEnd" => (show LCg.CompEnd _ _ _ _ _ _ _ _ _ _ _ _ _ _; refine Hold.out ?_)
  k_with "call builtin:len" => (k_here; (with_reducible show wpAny _ _ (call (Value.builtin "len") [Value.ref _]) _ _ _); k_dflt (refine' len_rep ?z105k1 ?z105k2 ?_; (case z105k1 => k_asm); (case z105k2 => k_mem); k_whole); walk_at "i7")
  k_with "pyIter ref" => (walk_at "i17"; (with_reducible show wpAny _ _ (pyIter (Value.ref _)) (fun it s₂ => TurnsAt _ _ _ _ _ _ _ _ _ it s₂) _ _); refine Hold.out ?_)
  k_with "eval Name" => (walk_at "i17"; k_here; k_dflt (refine' nameX_L ?z106k1 ?z106k2 ?_ ?z106k3 ?z106k4; (case z106k1 => k_asm); (case z106k2 => first | exact rfl | assumption); (case z106k3 => rfl); (case z106k4 => rfl); k_whole))
  k_with "exec For Name Name cons nil" => (refine Hold.out ?_)
  k_with "binaryOp Mult ref int" => (refine Hold.out ?_)
  k_with "compareOp Eq ref ref" => (k_here; (with_reducible show wpAny _ _ (compareOp CmpOp.Eq (Value.ref _) (Value.ref _)) _ _ _); refine Hold.out ?_)
  k_with "compareOp NotEq ref ref" => (k_here; (with_reducible show wpAny _ _ (compareOp CmpOp.NotEq (Value.ref _) (Value.ref _)) _ _ _); refine Hold.out ?_)
  k_with "UnrPostW" => (walk_at "i17"; dsimp only [UnrPostW])
  k_with "UnrEndW" => (walk_at "i17"; refine Hold.out ?_)
  k_with "call builtin:sum" => (walk_at "i18"; (try simp only [List.sum_cons, List.sum_nil]))
  k_with "subscriptTail Name Constant ref int" => (walk_at "i17"; k_here; (with_reducible show wpAny _ _ (subscriptTail _ _ (Value.ref _) (Value.int _ _)) _ _ _); k_dflt (refine' kim_list ?z107k1 ?z107k2 ?z107k3 ?z107k4 ?z107k5 ?z107k6 ?z107k7 ?_ ?z107k9 ?z107k10; (case z107k1 => k_asm); (case z107k2 => k_mem); (case z107k3 => exact rfl); (case z107k4 => exact rfl); (case z107k5 => decide); (case z107k6 => decide); (case z107k7 => exact rfl); (case z107k9 => with_unfolding_all rfl); (case z107k10 => (intro _; with_unfolding_all rfl)); k_whole))
  k_with "subscriptTail Name UnaryOp ref int" => (walk_at "i17"; k_here; (with_reducible show wpAny _ _ (subscriptTail _ _ (Value.ref _) (Value.int _ _)) _ _ _); k_dflt (refine' kim_back ?z108k1 ?z108k2 ?z108k3 ?z108k4 ?z108k5 ?z108k6 ?z108k7 ?z108k8 ?_ ?z108k9 ?z108k10; (case z108k1 => k_asm); (case z108k2 => k_mem); (case z108k3 => exact rfl); (case z108k4 => exact rfl); (case z108k5 => decide); (case z108k6 => exact last_le); (case z108k7 => decide); (case z108k8 => exact last_at); (case z108k9 => with_unfolding_all rfl); (case z108k10 => (intro _; with_unfolding_all rfl)); k_whole))
  k_with "exec If" => (walk_at "i19"; refine Hold.out ?_)
  k_with "binaryOp Mod int int" => (k_here; (with_reducible refine mod_gen ?z109mp ?_); (case z109mp => first | decide | assumption); walk_at "i9")
  k_with "binaryOp FloorDiv int int" => (with_reducible refine floordiv_int ?z110ne ?_ (Or.inl (PyProof.noPylong_of_log2 ?z110lg)); (case z110lg => with_reducible assumption); (case z110ne => with_reducible assumption))
  k_with "subscriptTail Name Constant ref str" => (walk_at "i17"; k_here; (with_reducible show wpAny _ _ (subscriptTail _ _ (Value.ref _) (Value.str _ _)) _ _ _); k_dflt (refine' kda_item (knd := PySem.strKind _ _) ?z111N ?z111hp ?z111hd (strKind_is _ _ _ _) ?z111hl ?_; (case z111N => k_asm); (case z111hp => k_mem); (case z111hd => with_reducible assumption); (case z111hl => rfl); k_whole))
  k_with "subscriptTail Attribute" => (walk_at "i17"; k_here; (with_reducible show wpAny _ _ (subscriptTail _ _ (Value.ref _) (Value.int _ _)) _ _ _); k_dflt (refine kba_turn (value' := PySem.Expr.Name (PySem.Str.ofString "_") ⟨0, 0, 0, 0⟩) (fun _ => rfl) ?_))
  k_with "subscriptTail Subscript" => (walk_at "i17"; k_here; (with_reducible show wpAny _ _ (subscriptTail _ _ (Value.ref _) (Value.int _ _)) _ _ _); k_dflt (refine kba_turn (value' := PySem.Expr.Name (PySem.Str.ofString "_") ⟨0, 0, 0, 0⟩) (fun _ => rfl) ?_))
  k_with "execs cons" => (walk_at "i20"; refine Hold.out ?_)
  k_with "hat9" => (exact News.get (by k_asm) (by first | (with_reducible assumption) | ((refine List.mem_cons_of_mem _ ?_); with_reducible assumption) | ((refine List.mem_cons_of_mem _ ?_); (refine List.mem_cons_of_mem _ ?_); with_reducible assumption) | ((refine List.mem_cons_of_mem _ ?_); (refine List.mem_cons_of_mem _ ?_); (refine List.mem_cons_of_mem _ ?_); with_reducible assumption) | ((refine List.mem_cons_of_mem _ ?_); (refine List.mem_cons_of_mem _ ?_); (refine List.mem_cons_of_mem _ ?_); (refine List.mem_cons_of_mem _ ?_); with_reducible assumption) | ((refine List.mem_cons_of_mem _ ?_); (refine List.mem_cons_of_mem _ ?_); (refine List.mem_cons_of_mem _ ?_); (refine List.mem_cons_of_mem _ ?_); (refine List.mem_cons_of_mem _ ?_); with_reducible assumption) | ((refine List.mem_cons_of_mem _ ?_); (refine List.mem_cons_of_mem _ ?_); (refine List.mem_cons_of_mem _ ?_); (refine List.mem_cons_of_mem _ ?_); (refine List.mem_cons_of_mem _ ?_); (refine List.mem_cons_of_mem _ ?_); with_reducible assumption) | ((refine List.mem_cons_of_mem _ ?_); (refine List.mem_cons_of_mem _ ?_); (refine List.mem_cons_of_mem _ ?_); (refine List.mem_cons_of_mem _ ?_); (refine List.mem_cons_of_mem _ ?_); (refine List.mem_cons_of_mem _ ?_); (refine List.mem_cons_of_mem _ ?_); with_reducible assumption) | ((refine List.mem_cons_of_mem _ ?_); (refine List.mem_cons_of_mem _ ?_); (refine List.mem_cons_of_mem _ ?_); (refine List.mem_cons_of_mem _ ?_); (refine List.mem_cons_of_mem _ ?_); (refine List.mem_cons_of_mem _ ?_); (refine List.mem_cons_of_mem _ ?_); (refine List.mem_cons_of_mem _ ?_); with_reducible assumption)))
  k_with "call ref" => (k_here; (with_reducible show wpAny _ _ (call (Value.ref 139) [Value.str _ _, Value.str _ _, Value.str _ _, Value.int _ _, Value.ref _, Value.ref _, Value.ref _]) _ _ _); k_dflt (refine' new_Pipe ?z112k1 ?z112k2 ?z112k3 ?z112k4 ?z112k5 ?z112k6 ?z112k7 ?z112k8 ?_; (case z112k1 => k_asm); (case z112k2 => k_asm); (case z112k3 => k_asm); (case z112k4 => k_asm); (case z112k5 => k_asm); (case z112k6 => first | exact rfl | assumption); (case z112k7 => first | exact Nat.le_of_ble_eq_true rfl | ktr_room); (case z112k8 => first | exact Nat.le_of_ble_eq_true rfl | ktr_units); k_whole); walk_at "i21"; (try k_sweep))
  k_with "call ref" => (k_here; (with_reducible show wpAny _ _ (call (Value.ref 167) [Value.str _ _, Value.str _ _, Value.ref _, Value.ref _, Value.ref _]) _ _ _); k_dflt (refine' new_Consumer ?z113k1 ?z113k2 ?z113k3 ?z113k4 ?z113k5 ?z113k6 ?z113k7 ?z113k8 ?_; (case z113k1 => k_asm); (case z113k2 => k_asm); (case z113k3 => k_asm); (case z113k4 => k_asm); (case z113k5 => k_asm); (case z113k6 => first | exact rfl | assumption); (case z113k7 => first | exact Nat.le_of_ble_eq_true rfl | ktr_room); (case z113k8 => first | exact Nat.le_of_ble_eq_true rfl | ktr_units); k_whole); walk_at "i22"; (try k_sweep))
  k_with "call ref" => (k_here; (with_reducible show wpAny _ _ (call (Value.ref 298) []) _ _ _); k_dflt (refine' net_new ?z114k1 ?z114k2 ?z114k3 ?z114k4 ?z114k5 ?z114k6 ?z114k7 ?z114k8 ?_; (case z114k1 => k_asm); (case z114k2 => k_asm); (case z114k3 => k_asm); (case z114k4 => k_asm); (case z114k5 => k_asm); (case z114k6 => first | exact rfl | assumption); (case z114k7 => first | exact Nat.le_of_ble_eq_true rfl | ktr_room); (case z114k8 => first | exact Nat.le_of_ble_eq_true rfl | ktr_units); k_whole); walk_at "i23"; (try k_sweep))
  trivial
set_option maxRecDepth 100000 in
set_option maxHeartbeats 40000000 in
theorem lawB {w0 : World} {p : Program} {loose : List Str} {mean : ExcName → Option Value} {mg mb : Str → Option Value} {fa L : Addr} {cc : Value} {base h₀ : Heap} {Q : Flow → Shared → Prop} {EX : Value → Shared → Prop} {m : Str → Option Value} {s : Shared} {o0 : Obj} {l0 : Addr} {vs0 : List Value} {ns0 : List Int}
    (K0 : Below callerA base [] h₀) (KX : (HD.K w0.params).In h₀) (T : Top p loose mean mg mb h₀) (F : Fr h₀ L s.heap m) (N : News h₀ L s.heap [(L + 1, o0)]) (hcell : o0.data = .cell (some (.ref l0))) (hL0 : base.IsList l0 vs0.toArray) (hI0 : IntsAre vs0 ns0) (hns0 : ns0.length ≤ 63)
    (hE : PassesOwn (model PySem.Challenge.rw_ui0509_14.row.prog w0) (callerA.deeper (envOfC HD.dH.name HD.dH.scope L fa cc)) (envOfC HD.dH.name HD.dH.scope L fa cc) EX)
    (hend : ∀ (h' : Heap) (tk' : Nat) (m' : Str → Option Value), Fr h₀ L h' m' → Q (.ret (.bool true)) { s with heap := h', toks := tk' }) :
    wpAny (model PySem.Challenge.rw_ui0509_14.row.prog w0) (callerA.deeper (envOfC HD.dH.name HD.dH.scope L fa cc)) (execs (HD.fb34.1.drop 0) (envOfC HD.dH.name HD.dH.scope L fa cc)) Q EX s := by
  w_top off
  revert KX; k_fill; intro KX
  dsimp only [HD.dH, HD.fb34, HD.fs34, List.drop_succ_cons, List.drop_zero]
  k_steps
  change wpAny _ _ _ _ _ _
  -- the demands: one number 24 times
  refine KMa.mul (vs := [_]) (ws := List.replicate 24 _) (by k_asm) (by k_asm) (by is_list) (by decide) (by decide) (by show 1 * Int.toNat 24 ≤ 256; decide) rfl ?_
  intro D9 h9 F9 N9 l9
  k_lt l9
  rename_i vh vh0 vh1 vhE hq Dh th uh ch hh tkh lh lw hw Fw Nw lw2
  clear Fw Nw
  k_steps
  change wpAny _ _ _ _ _ _
  -- S3
  (rename Fr _ _ _ _ => lF1)
  (rename News _ _ _ _ => lN1)
  obtain ⟨mQ, eQm, FQ⟩ := fr_name lF1
  clear lF1
  have n_self := fr_at eQm (PySem.Str.ofString "self") _ (by rfl)
  have n_name := fr_at eQm (PySem.Str.ofString "name") _ (by rfl)
  have n_joint := fr_at eQm (PySem.Str.ofString "joint") _ (by rfl)
  have n_demands := fr_at eQm (PySem.Str.ofString "demands") _ (by rfl)
  have n_drop := fr_at eQm (PySem.Str.ofString "drop") _ (by rfl)
  have n_least := fr_at eQm (PySem.Str.ofString "least") _ (by rfl)
  clear eQm
  obtain ⟨LE, eLE, NL⟩ := name_led lN1
  have mD9 : (D9, W.listOf (List.replicate 24 (Value.ref Dh)).toArray 0) ∈ LE := by rw [eLE]; k_mem
  have mDh : (Dh, T2 (1 + vh) 1 th uh ch) ∈ LE := by rw [eLE]; k_mem
  clear lN1
  have mk8 : Mark8L := .mk
  -- S4
  (with_unfolding_all refine' For_turns FQ ?_)
  k_whole
  k_steps
  change wpAny _ _ _ _ _ _
  -- S5
  (rename Fr _ _ _ _ => lF2)
  refine iter_listTurns (vs := List.replicate 24 (Value.ref Dh)) rfl lF2 NL mD9 rfl rfl (fun I2 lI2 => ?_)
  refine items_ind (fun i m nx => nx = LE ∧ m (PySem.Str.ofString "self") = mQ (PySem.Str.ofString "self") ∧ m (PySem.Str.ofString "name") = mQ (PySem.Str.ofString "name") ∧ m (PySem.Str.ofString "joint") = mQ (PySem.Str.ofString "joint") ∧ m (PySem.Str.ofString "demands") = mQ (PySem.Str.ofString "demands") ∧ m (PySem.Str.ofString "drop") = mQ (PySem.Str.ofString "drop") ∧ m (PySem.Str.ofString "least") = mQ (PySem.Str.ofString "least")) ?turn ?done _ 0 _ _ rfl (Nat.zero_le _) ⟨mD9, trivial⟩ (fun p hp => Nat.ne_of_lt (lI2 p hp)) ⟨rfl, rfl, rfl, rfl, rfl, rfl, rfl⟩
  case turn =>
    intro i a v m nx h tk o ha _ hI hJ hav Fm ho Nn
    obtain ⟨rfl, j_self, j_name, j_joint, j_demands, j_drop, j_least⟩ := hJ
    obtain rfl := rep_get (n := 24) (a := Value.ref Dh) (val_get (vs := List.replicate 24 (Value.ref Dh)) ha hav)
    clear NL lI2 lF2
    have bH : Bd 64 ((1 + vh : Int) : Rat) := bd64 (by omega) (by omega)
    have hH : ¬ ((1 + vh : Int) : Rat) < 0 := int_nonneg (by omega)
    have hH0 : (0 : Rat) ≤ ((1 + vh : Int) : Rat) := Rat.not_lt.mp hH
    have mH9 := inL mDh
    clear mDh
    k_steps
    (rename News _ _ _ _ => NN)
    (rename Fr _ _ _ _ => FF)
    exact unr_end nx FF NN (by k_mem) ((by intro p9 hp9; first | ((repeat (first | exact hp9 | exact List.mem_append_left _ hp9 | exact List.mem_append_right _ hp9 | refine List.mem_cons_of_mem _ ?_)); done) | (simp only [List.mem_cons, List.mem_append]; simp only [hp9, true_or, or_true]))) (fun p hp => hI p hp) ⟨⟨mD9, trivial⟩, rfl, j_self, j_name, j_joint, j_demands, j_drop, j_least⟩
  case done =>
    intro m nx h tk hJ Fm Nn
    obtain ⟨rfl, j_self, j_name, j_joint, j_demands, j_drop, j_least⟩ := hJ
    replace n_self := j_self.trans n_self
    replace n_name := j_name.trans n_name
    replace n_joint := j_joint.trans n_joint
    replace n_demands := j_demands.trans n_demands
    replace n_drop := j_drop.trans n_drop
    replace n_least := j_least.trans n_least
    clear NL lI2 lF2
    subst eLE
    clear mD9 mDh
    (rename News _ _ _ _ => Nn9)
    -- S6
    k_steps
    unfold Hold
    -- S7
    (rename _ < (4 : Int) => vf1)
    have hFc := fac_ok (by assumption) vf1 vh0 vh1
    (rename World => w0)
    (rename IsRange _ _ _ _ _ _ _ _ => hRg)
    (rename News _ _ _ _ => NN9)
    (rename Fr _ _ _ _ => lF9)
    obtain ⟨R0, eR0, NR0⟩ := name_led NN9
    clear NN9
    obtain ⟨z, ndl, hzn, hn0, mDh0, lpd, hpd, lcd, hcd⟩ : ∃ (z : NetP) (ndl : Nat), frm lF9 (Str.ofString "net") = some (Value.ref z.net) ∧ (∀ p ∈ [(z.net, instObj 298 z.dn), (z.dn, netDO w0.params z), (z.pd, z.opd), (z.pp, instObj 139 z.ppd), (z.ppd, pipDO w0.params z), (z.cd, z.ocd), (z.cu, instObj 167 z.cud), (z.cud, conDO w0.params z), (z.dl, PySem.W.listOf (List.replicate 24 (Value.ref Dh)).toArray ndl)], p ∈ R0) ∧ (Dh, T2 (1 + vh) 1 th uh ch) ∈ R0 ∧ (z.pd == sysModules) = false ∧ z.opd.IsDictOf (PySem.strKind PySem.Challenge.rw_ui0509_14.row.prog _) [(Str.ofString "p", Value.ref z.pp)] ∧ (z.cd == sysModules) = false ∧ z.ocd.IsDictOf (PySem.strKind PySem.Challenge.rw_ui0509_14.row.prog _) [(Str.ofString "u", Value.ref z.cu)] := by
      rw [eR0]
      refine' ⟨⟨_, _, _, _, _, _, _, _, _, _, _, _, _, _, _, _, _, _, _, _, _, _, _, _, _, _, _, _, th, th, _, th, th, _, _, _, th, th, _, _, _, _, _, _, _, _, _, _, _, _, _⟩, _, ?n0, fcons (?n1) (fcons (?n2) (fcons (?n3) (fcons (?n4) (fcons (?n5) (fcons (?n6) (fcons (?n7) (fcons (?n8) (fcons (?n9) (List.forall_mem_nil _))))))))), by k_mem, ?p1, ?p2, ?p3, ?p4⟩
      case n0 => rfl
      case n1 => k_mem
      case n2 => k_mem
      case n3 => k_mem
      case p2 => assumption
      case n4 => k_mem
      case n5 => k_mem
      case n6 => k_mem
      case p4 => assumption
      case n7 => k_mem
      case n8 => k_mem
      case n9 => k_mem
      case p1 => assumption
      case p3 => assumption
    -- S7b
    replace hzn : some (Value.ref _) = some (Value.ref z.net) := hzn
    obtain rfl := Value.ref.inj (Option.some.inj hzn)
    clear hzn
    replace NR0 := news_last eR0 NR0 (List.cons_ne_nil _ _)
    simp only [List.getLast_cons_cons, List.getLast_singleton] at NR0
    clear eR0
    obtain ⟨LE2, eLE2, NL2⟩ := name_led NR0
    clear NR0
    -- S7c
    refine LCg.CompSrc.range (n := 2) rfl (by k_asm) NL2 hRg (small_one (by omega) (by omega) (by omega) (by omega)) (rsize (by omega)) (by rw [sizeLine_eq]; omega) (fun g9 => ?_)
    refine comp_ind (fun i ys nx => nx = LE2 ∧ ∃ cs : List (Int × Tok), ys = cs.map (fun c => Value.int c.1 c.2) ∧ cs.length = i ∧ ∀ c ∈ cs, 1 ≤ c.1 ∧ c.1 ≤ 5) ?turn1 ?fin1 _ 0 [] _ (Nat.zero_add _) ⟨rfl, [], rfl, rfl, fun _ h => nomatch h⟩
    case turn1 =>
      intro i v9 I oI C oC D9 m2 h tk E' ys nx hi hJ hPv hC hx Fm Nn off ne
      obtain ⟨eNx, cs, rfl, hcl, hcs⟩ := hJ
      obtain ⟨t9, rfl⟩ := hPv
      rw [eNx, eLE2] at Nn
      clear NL2 hRg
      -- S8
      k_steps
      unfold Hold
      (rename News _ _ _ _ => NN)
      (rename (0 : Int) ≤ _ => vp)
      (rename _ < (5 : Int) => vq)
      refine comp_end (by k_asm) NN nx (by rw [eNx, eLE2]; exact (by intro p9 hp9; first | ((repeat (first | exact hp9 | exact List.mem_append_left _ hp9 | exact List.mem_append_right _ hp9 | refine List.mem_cons_of_mem _ ?_)); done) | (simp only [List.mem_cons, List.mem_append]; simp only [hp9, true_or, or_true]))) off trivial ⟨eNx, cs ++ [(_, _)], by rw [List.map_append]; rfl, by rw [List.length_append, hcl]; rfl, List.forall_mem_append.mpr ⟨hcs, fcons (by dsimp only; omega) (List.forall_mem_nil _)⟩⟩
    case fin1 =>
      intro ys nx hJ TL h tk Fm Nn off
      obtain ⟨rfl, cs, rfl, hcl, hcs⟩ := hJ
      obtain ⟨⟨ca, ta⟩, ⟨cb, tb⟩, rfl⟩ : ∃ x y, cs = [x, y] := two_ofL hcl
      have hca := hcs _ (List.mem_cons_self ..)
      have hcb := hcs _ (List.mem_cons_of_mem _ (List.mem_cons_self ..))
      dsimp only at hca hcb
      clear NL2 hRg hcs hcl
      subst eLE2
      have lT := allNe_of (off1_mem off)
      clear off
      have mkS : MarkQ := .mk
      -- S9
      k_steps
      change wpAny _ _ _ _ _ _
      (rename MarkQ => mkS)
      clear mkS
      (rename News _ _ _ _ => NT)
      (rename Fr _ _ _ _ => FT)
      -- S9b
      refine' Tl.tailA (z := z) (ndl := ndl) (by k_asm) (by k_asm) (by k_asm) FT NT ?hcl ?hl0 ?hi0 ?hns (by rfl) (by rfl) (by rfl) (by rfl) (by rfl) hn0 mDh0 lpd hpd lcd hcd hFc.1 hFc.2.1 hFc.2.2 vh0 vh1 (by omega) (by omega) hca hcb (fun h' tk' m' F' => ?_)
      case hcl => (rename _ = Data.cell _ => hcl9); exact hcl9
      case hl0 => k_asm
      case hi0 => k_asm
      case hns => omega
      exact hend _ _ _ F'
end Tm
local macro_rules | `(tactic| walk_at "dummy") => `(tactic| fail)
local macro_rules | `(tactic| walk_at "dummy") => `(tactic| fail)
local macro_rules | `(tactic| walk_at "dummy") => `(tactic| fail)
local macro_rules | `(tactic| walk_at "dummy") => `(tactic| fail)
set_option maxRecDepth 100000 in
set_option maxHeartbeats 40000000 in
theorem PySem.Challenge.cw_ui0509_14_holds : PySem.Challenge.rw_ui0509_14.Holds :=
  HD.hd (by
  k_go0; (all_goals try k_fold)
  (rename News _ _ _ _ => NT)
  (rename Fr _ _ _ _ => FT)
  refine' Tm.lawB (by k_asm) (by k_asm) (by k_asm) FT NT ?hcl ?hl0 ?hi0 ?hns ?hE (fun h' tk' m' F' => ?_)
  case hcl => (rename _ = Data.cell _ => hcl9); exact hcl9
  case hl0 => k_asm
  case hi0 => k_asm
  case hns => omega
  case hE => passes_own
  k_unfold
  (try dsimp only)
  exact good_true F' (by assumption) rfl)
