import PyProof.Rows.All
import Wide.All
import OpenK.AllK
import Wide.FinOn
import PySem.Challenge.RW_ui0509_16
open PySem PySem.W PyProof.Rows PySem.Spec PySem.Calls
set_option Elab.async false
set_option maxRecDepth 100000
set_option maxHeartbeats 8000000
set_option rowWalk.seconds 1500
set_option compiler.extract_closed false
set_option linter.all false
namespace HD
open PySem PySem.W PyProof.Rows PySem.Spec PySem.Calls
abbrev pw : Program := PySem.Challenge.pw_ui0509_16
def nth : List Stmt → Nat → Stmt
  | [], _ => .Pass ⟨0, 0, 0, 0⟩
  | x :: _, 0 => x
  | _ :: r, n + 1 => nth r n
def bodyS : Stmt → List Stmt
  | .FunctionDef _ _ b .. => b
  | .ClassDef _ _ _ b .. => b
  | .If _ b .. => b
  | _ => []
def argsS : Stmt → Arguments
  | .FunctionDef _ a .. => a
  | _ => ⟨[], [], none, [], [], none, []⟩
def scopeS : Stmt → Scope
  | .FunctionDef _ _ _ _ _ _ s .. => s
  | _ => ⟨.function, [], false, false, []⟩
abbrev lf (o : Obj) : BT := .node o .nil .nil
@[reducible] noncomputable def fa0 : {x : Arguments // x = argsS (nth pw.main.body 0)} := ⟨_, by conv => (rhs; whnf)⟩
@[reducible] noncomputable def fb0 : {x : List Stmt // x = bodyS (nth pw.main.body 0)} := ⟨_, by conv => (rhs; whnf)⟩
@[reducible] noncomputable def fs0 : {x : Scope // x = scopeS (nth pw.main.body 0)} := ⟨_, by conv => (rhs; whnf)⟩
@[reducible] noncomputable def fa3 : {x : Arguments // x = argsS (nth pw.main.body 3)} := ⟨_, by conv => (rhs; whnf)⟩
@[reducible] noncomputable def fb3 : {x : List Stmt // x = bodyS (nth pw.main.body 3)} := ⟨_, by conv => (rhs; whnf)⟩
@[reducible] noncomputable def fs3 : {x : Scope // x = scopeS (nth pw.main.body 3)} := ⟨_, by conv => (rhs; whnf)⟩
@[reducible] noncomputable def fa4 : {x : Arguments // x = argsS (nth pw.main.body 4)} := ⟨_, by conv => (rhs; whnf)⟩
@[reducible] noncomputable def fb4 : {x : List Stmt // x = bodyS (nth pw.main.body 4)} := ⟨_, by conv => (rhs; whnf)⟩
@[reducible] noncomputable def fs4 : {x : Scope // x = scopeS (nth pw.main.body 4)} := ⟨_, by conv => (rhs; whnf)⟩
@[reducible] noncomputable def fa5 : {x : Arguments // x = argsS (nth pw.main.body 5)} := ⟨_, by conv => (rhs; whnf)⟩
@[reducible] noncomputable def fb5 : {x : List Stmt // x = bodyS (nth pw.main.body 5)} := ⟨_, by conv => (rhs; whnf)⟩
@[reducible] noncomputable def fs5 : {x : Scope // x = scopeS (nth pw.main.body 5)} := ⟨_, by conv => (rhs; whnf)⟩
@[reducible] noncomputable def fa11 : {x : Arguments // x = argsS (nth pw.main.body 11)} := ⟨_, by conv => (rhs; whnf)⟩
@[reducible] noncomputable def fb11 : {x : List Stmt // x = bodyS (nth pw.main.body 11)} := ⟨_, by conv => (rhs; whnf)⟩
@[reducible] noncomputable def fs11 : {x : Scope // x = scopeS (nth pw.main.body 11)} := ⟨_, by conv => (rhs; whnf)⟩
@[reducible] noncomputable def fa12 : {x : Arguments // x = argsS (nth pw.main.body 12)} := ⟨_, by conv => (rhs; whnf)⟩
@[reducible] noncomputable def fb12 : {x : List Stmt // x = bodyS (nth pw.main.body 12)} := ⟨_, by conv => (rhs; whnf)⟩
@[reducible] noncomputable def fs12 : {x : Scope // x = scopeS (nth pw.main.body 12)} := ⟨_, by conv => (rhs; whnf)⟩
@[reducible] noncomputable def fa13 : {x : Arguments // x = argsS (nth pw.main.body 13)} := ⟨_, by conv => (rhs; whnf)⟩
@[reducible] noncomputable def fb13 : {x : List Stmt // x = bodyS (nth pw.main.body 13)} := ⟨_, by conv => (rhs; whnf)⟩
@[reducible] noncomputable def fs13 : {x : Scope // x = scopeS (nth pw.main.body 13)} := ⟨_, by conv => (rhs; whnf)⟩
@[reducible] noncomputable def fa14 : {x : Arguments // x = argsS (nth pw.main.body 14)} := ⟨_, by conv => (rhs; whnf)⟩
@[reducible] noncomputable def fb14 : {x : List Stmt // x = bodyS (nth pw.main.body 14)} := ⟨_, by conv => (rhs; whnf)⟩
@[reducible] noncomputable def fs14 : {x : Scope // x = scopeS (nth pw.main.body 14)} := ⟨_, by conv => (rhs; whnf)⟩
@[reducible] noncomputable def fa15 : {x : Arguments // x = argsS (nth pw.main.body 15)} := ⟨_, by conv => (rhs; whnf)⟩
@[reducible] noncomputable def fb15 : {x : List Stmt // x = bodyS (nth pw.main.body 15)} := ⟨_, by conv => (rhs; whnf)⟩
@[reducible] noncomputable def fs15 : {x : Scope // x = scopeS (nth pw.main.body 15)} := ⟨_, by conv => (rhs; whnf)⟩
@[reducible] noncomputable def fa16 : {x : Arguments // x = argsS (nth pw.main.body 16)} := ⟨_, by conv => (rhs; whnf)⟩
@[reducible] noncomputable def fb16 : {x : List Stmt // x = bodyS (nth pw.main.body 16)} := ⟨_, by conv => (rhs; whnf)⟩
@[reducible] noncomputable def fs16 : {x : Scope // x = scopeS (nth pw.main.body 16)} := ⟨_, by conv => (rhs; whnf)⟩
@[reducible] noncomputable def fa17 : {x : Arguments // x = argsS (nth pw.main.body 17)} := ⟨_, by conv => (rhs; whnf)⟩
@[reducible] noncomputable def fb17 : {x : List Stmt // x = bodyS (nth pw.main.body 17)} := ⟨_, by conv => (rhs; whnf)⟩
@[reducible] noncomputable def fs17 : {x : Scope // x = scopeS (nth pw.main.body 17)} := ⟨_, by conv => (rhs; whnf)⟩
@[reducible] noncomputable def fa18 : {x : Arguments // x = argsS (nth pw.main.body 18)} := ⟨_, by conv => (rhs; whnf)⟩
@[reducible] noncomputable def fb18 : {x : List Stmt // x = bodyS (nth pw.main.body 18)} := ⟨_, by conv => (rhs; whnf)⟩
@[reducible] noncomputable def fs18 : {x : Scope // x = scopeS (nth pw.main.body 18)} := ⟨_, by conv => (rhs; whnf)⟩
@[reducible] noncomputable def fa19 : {x : Arguments // x = argsS (nth pw.main.body 19)} := ⟨_, by conv => (rhs; whnf)⟩
@[reducible] noncomputable def fb19 : {x : List Stmt // x = bodyS (nth pw.main.body 19)} := ⟨_, by conv => (rhs; whnf)⟩
@[reducible] noncomputable def fs19 : {x : Scope // x = scopeS (nth pw.main.body 19)} := ⟨_, by conv => (rhs; whnf)⟩
@[reducible] noncomputable def fa20 : {x : Arguments // x = argsS (nth pw.main.body 20)} := ⟨_, by conv => (rhs; whnf)⟩
@[reducible] noncomputable def fb20 : {x : List Stmt // x = bodyS (nth pw.main.body 20)} := ⟨_, by conv => (rhs; whnf)⟩
@[reducible] noncomputable def fs20 : {x : Scope // x = scopeS (nth pw.main.body 20)} := ⟨_, by conv => (rhs; whnf)⟩
@[reducible] noncomputable def fa21 : {x : Arguments // x = argsS (nth pw.main.body 21)} := ⟨_, by conv => (rhs; whnf)⟩
@[reducible] noncomputable def fb21 : {x : List Stmt // x = bodyS (nth pw.main.body 21)} := ⟨_, by conv => (rhs; whnf)⟩
@[reducible] noncomputable def fs21 : {x : Scope // x = scopeS (nth pw.main.body 21)} := ⟨_, by conv => (rhs; whnf)⟩
@[reducible] noncomputable def fa26_0 : {x : Arguments // x = argsS (nth (bodyS (nth pw.main.body 26)) 0)} := ⟨_, by conv => (rhs; whnf)⟩
@[reducible] noncomputable def fb26_0 : {x : List Stmt // x = bodyS (nth (bodyS (nth pw.main.body 26)) 0)} := ⟨_, by conv => (rhs; whnf)⟩
@[reducible] noncomputable def fs26_0 : {x : Scope // x = scopeS (nth (bodyS (nth pw.main.body 26)) 0)} := ⟨_, by conv => (rhs; whnf)⟩
@[reducible] noncomputable def fa27_0 : {x : Arguments // x = argsS (nth (bodyS (nth pw.main.body 27)) 0)} := ⟨_, by conv => (rhs; whnf)⟩
@[reducible] noncomputable def fb27_0 : {x : List Stmt // x = bodyS (nth (bodyS (nth pw.main.body 27)) 0)} := ⟨_, by conv => (rhs; whnf)⟩
@[reducible] noncomputable def fs27_0 : {x : Scope // x = scopeS (nth (bodyS (nth pw.main.body 27)) 0)} := ⟨_, by conv => (rhs; whnf)⟩
@[reducible] noncomputable def fa27_1 : {x : Arguments // x = argsS (nth (bodyS (nth pw.main.body 27)) 1)} := ⟨_, by conv => (rhs; whnf)⟩
@[reducible] noncomputable def fb27_1 : {x : List Stmt // x = bodyS (nth (bodyS (nth pw.main.body 27)) 1)} := ⟨_, by conv => (rhs; whnf)⟩
@[reducible] noncomputable def fs27_1 : {x : Scope // x = scopeS (nth (bodyS (nth pw.main.body 27)) 1)} := ⟨_, by conv => (rhs; whnf)⟩
@[reducible] noncomputable def fa28_0 : {x : Arguments // x = argsS (nth (bodyS (nth pw.main.body 28)) 0)} := ⟨_, by conv => (rhs; whnf)⟩
@[reducible] noncomputable def fb28_0 : {x : List Stmt // x = bodyS (nth (bodyS (nth pw.main.body 28)) 0)} := ⟨_, by conv => (rhs; whnf)⟩
@[reducible] noncomputable def fs28_0 : {x : Scope // x = scopeS (nth (bodyS (nth pw.main.body 28)) 0)} := ⟨_, by conv => (rhs; whnf)⟩
@[reducible] noncomputable def fa28_1 : {x : Arguments // x = argsS (nth (bodyS (nth pw.main.body 28)) 1)} := ⟨_, by conv => (rhs; whnf)⟩
@[reducible] noncomputable def fb28_1 : {x : List Stmt // x = bodyS (nth (bodyS (nth pw.main.body 28)) 1)} := ⟨_, by conv => (rhs; whnf)⟩
@[reducible] noncomputable def fs28_1 : {x : Scope // x = scopeS (nth (bodyS (nth pw.main.body 28)) 1)} := ⟨_, by conv => (rhs; whnf)⟩
@[reducible] noncomputable def fa28_2 : {x : Arguments // x = argsS (nth (bodyS (nth pw.main.body 28)) 2)} := ⟨_, by conv => (rhs; whnf)⟩
@[reducible] noncomputable def fb28_2 : {x : List Stmt // x = bodyS (nth (bodyS (nth pw.main.body 28)) 2)} := ⟨_, by conv => (rhs; whnf)⟩
@[reducible] noncomputable def fs28_2 : {x : Scope // x = scopeS (nth (bodyS (nth pw.main.body 28)) 2)} := ⟨_, by conv => (rhs; whnf)⟩
@[reducible] noncomputable def fa28_3 : {x : Arguments // x = argsS (nth (bodyS (nth pw.main.body 28)) 3)} := ⟨_, by conv => (rhs; whnf)⟩
@[reducible] noncomputable def fb28_3 : {x : List Stmt // x = bodyS (nth (bodyS (nth pw.main.body 28)) 3)} := ⟨_, by conv => (rhs; whnf)⟩
@[reducible] noncomputable def fs28_3 : {x : Scope // x = scopeS (nth (bodyS (nth pw.main.body 28)) 3)} := ⟨_, by conv => (rhs; whnf)⟩
@[reducible] noncomputable def fa28_4 : {x : Arguments // x = argsS (nth (bodyS (nth pw.main.body 28)) 4)} := ⟨_, by conv => (rhs; whnf)⟩
@[reducible] noncomputable def fb28_4 : {x : List Stmt // x = bodyS (nth (bodyS (nth pw.main.body 28)) 4)} := ⟨_, by conv => (rhs; whnf)⟩
@[reducible] noncomputable def fs28_4 : {x : Scope // x = scopeS (nth (bodyS (nth pw.main.body 28)) 4)} := ⟨_, by conv => (rhs; whnf)⟩
@[reducible] noncomputable def fa28_5 : {x : Arguments // x = argsS (nth (bodyS (nth pw.main.body 28)) 5)} := ⟨_, by conv => (rhs; whnf)⟩
@[reducible] noncomputable def fb28_5 : {x : List Stmt // x = bodyS (nth (bodyS (nth pw.main.body 28)) 5)} := ⟨_, by conv => (rhs; whnf)⟩
@[reducible] noncomputable def fs28_5 : {x : Scope // x = scopeS (nth (bodyS (nth pw.main.body 28)) 5)} := ⟨_, by conv => (rhs; whnf)⟩
@[reducible] noncomputable def fa28_6 : {x : Arguments // x = argsS (nth (bodyS (nth pw.main.body 28)) 6)} := ⟨_, by conv => (rhs; whnf)⟩
@[reducible] noncomputable def fb28_6 : {x : List Stmt // x = bodyS (nth (bodyS (nth pw.main.body 28)) 6)} := ⟨_, by conv => (rhs; whnf)⟩
@[reducible] noncomputable def fs28_6 : {x : Scope // x = scopeS (nth (bodyS (nth pw.main.body 28)) 6)} := ⟨_, by conv => (rhs; whnf)⟩
@[reducible] noncomputable def fa28_7 : {x : Arguments // x = argsS (nth (bodyS (nth pw.main.body 28)) 7)} := ⟨_, by conv => (rhs; whnf)⟩
@[reducible] noncomputable def fb28_7 : {x : List Stmt // x = bodyS (nth (bodyS (nth pw.main.body 28)) 7)} := ⟨_, by conv => (rhs; whnf)⟩
@[reducible] noncomputable def fs28_7 : {x : Scope // x = scopeS (nth (bodyS (nth pw.main.body 28)) 7)} := ⟨_, by conv => (rhs; whnf)⟩
@[reducible] noncomputable def fa28_8 : {x : Arguments // x = argsS (nth (bodyS (nth pw.main.body 28)) 8)} := ⟨_, by conv => (rhs; whnf)⟩
@[reducible] noncomputable def fb28_8 : {x : List Stmt // x = bodyS (nth (bodyS (nth pw.main.body 28)) 8)} := ⟨_, by conv => (rhs; whnf)⟩
@[reducible] noncomputable def fs28_8 : {x : Scope // x = scopeS (nth (bodyS (nth pw.main.body 28)) 8)} := ⟨_, by conv => (rhs; whnf)⟩
@[reducible] noncomputable def fa28_9 : {x : Arguments // x = argsS (nth (bodyS (nth pw.main.body 28)) 9)} := ⟨_, by conv => (rhs; whnf)⟩
@[reducible] noncomputable def fb28_9 : {x : List Stmt // x = bodyS (nth (bodyS (nth pw.main.body 28)) 9)} := ⟨_, by conv => (rhs; whnf)⟩
@[reducible] noncomputable def fs28_9 : {x : Scope // x = scopeS (nth (bodyS (nth pw.main.body 28)) 9)} := ⟨_, by conv => (rhs; whnf)⟩
@[reducible] noncomputable def fa28_10 : {x : Arguments // x = argsS (nth (bodyS (nth pw.main.body 28)) 10)} := ⟨_, by conv => (rhs; whnf)⟩
@[reducible] noncomputable def fb28_10 : {x : List Stmt // x = bodyS (nth (bodyS (nth pw.main.body 28)) 10)} := ⟨_, by conv => (rhs; whnf)⟩
@[reducible] noncomputable def fs28_10 : {x : Scope // x = scopeS (nth (bodyS (nth pw.main.body 28)) 10)} := ⟨_, by conv => (rhs; whnf)⟩
@[reducible] noncomputable def fa28_11 : {x : Arguments // x = argsS (nth (bodyS (nth pw.main.body 28)) 11)} := ⟨_, by conv => (rhs; whnf)⟩
@[reducible] noncomputable def fb28_11 : {x : List Stmt // x = bodyS (nth (bodyS (nth pw.main.body 28)) 11)} := ⟨_, by conv => (rhs; whnf)⟩
@[reducible] noncomputable def fs28_11 : {x : Scope // x = scopeS (nth (bodyS (nth pw.main.body 28)) 11)} := ⟨_, by conv => (rhs; whnf)⟩
@[reducible] noncomputable def fa28_12 : {x : Arguments // x = argsS (nth (bodyS (nth pw.main.body 28)) 12)} := ⟨_, by conv => (rhs; whnf)⟩
@[reducible] noncomputable def fb28_12 : {x : List Stmt // x = bodyS (nth (bodyS (nth pw.main.body 28)) 12)} := ⟨_, by conv => (rhs; whnf)⟩
@[reducible] noncomputable def fs28_12 : {x : Scope // x = scopeS (nth (bodyS (nth pw.main.body 28)) 12)} := ⟨_, by conv => (rhs; whnf)⟩
@[reducible] noncomputable def fa28_13 : {x : Arguments // x = argsS (nth (bodyS (nth pw.main.body 28)) 13)} := ⟨_, by conv => (rhs; whnf)⟩
@[reducible] noncomputable def fb28_13 : {x : List Stmt // x = bodyS (nth (bodyS (nth pw.main.body 28)) 13)} := ⟨_, by conv => (rhs; whnf)⟩
@[reducible] noncomputable def fs28_13 : {x : Scope // x = scopeS (nth (bodyS (nth pw.main.body 28)) 13)} := ⟨_, by conv => (rhs; whnf)⟩
@[reducible] noncomputable def fa28_14 : {x : Arguments // x = argsS (nth (bodyS (nth pw.main.body 28)) 14)} := ⟨_, by conv => (rhs; whnf)⟩
@[reducible] noncomputable def fb28_14 : {x : List Stmt // x = bodyS (nth (bodyS (nth pw.main.body 28)) 14)} := ⟨_, by conv => (rhs; whnf)⟩
@[reducible] noncomputable def fs28_14 : {x : Scope // x = scopeS (nth (bodyS (nth pw.main.body 28)) 14)} := ⟨_, by conv => (rhs; whnf)⟩
@[reducible] noncomputable def fa28_15 : {x : Arguments // x = argsS (nth (bodyS (nth pw.main.body 28)) 15)} := ⟨_, by conv => (rhs; whnf)⟩
@[reducible] noncomputable def fb28_15 : {x : List Stmt // x = bodyS (nth (bodyS (nth pw.main.body 28)) 15)} := ⟨_, by conv => (rhs; whnf)⟩
@[reducible] noncomputable def fs28_15 : {x : Scope // x = scopeS (nth (bodyS (nth pw.main.body 28)) 15)} := ⟨_, by conv => (rhs; whnf)⟩
@[reducible] noncomputable def fa30 : {x : Arguments // x = argsS (nth pw.main.body 30)} := ⟨_, by conv => (rhs; whnf)⟩
@[reducible] noncomputable def fb30 : {x : List Stmt // x = bodyS (nth pw.main.body 30)} := ⟨_, by conv => (rhs; whnf)⟩
@[reducible] noncomputable def fs30 : {x : Scope // x = scopeS (nth pw.main.body 30)} := ⟨_, by conv => (rhs; whnf)⟩
@[reducible] noncomputable def fa31 : {x : Arguments // x = argsS (nth pw.main.body 31)} := ⟨_, by conv => (rhs; whnf)⟩
@[reducible] noncomputable def fb31 : {x : List Stmt // x = bodyS (nth pw.main.body 31)} := ⟨_, by conv => (rhs; whnf)⟩
@[reducible] noncomputable def fs31 : {x : Scope // x = scopeS (nth pw.main.body 31)} := ⟨_, by conv => (rhs; whnf)⟩
@[reducible] noncomputable def fa33 : {x : Arguments // x = argsS (nth pw.main.body 33)} := ⟨_, by conv => (rhs; whnf)⟩
@[reducible] noncomputable def fb33 : {x : List Stmt // x = bodyS (nth pw.main.body 33)} := ⟨_, by conv => (rhs; whnf)⟩
@[reducible] noncomputable def fs33 : {x : Scope // x = scopeS (nth pw.main.body 33)} := ⟨_, by conv => (rhs; whnf)⟩
@[reducible] noncomputable def fa34 : {x : Arguments // x = argsS (nth pw.main.body 34)} := ⟨_, by conv => (rhs; whnf)⟩
@[reducible] noncomputable def fb34 : {x : List Stmt // x = bodyS (nth pw.main.body 34)} := ⟨_, by conv => (rhs; whnf)⟩
@[reducible] noncomputable def fs34 : {x : Scope // x = scopeS (nth pw.main.body 34)} := ⟨_, by conv => (rhs; whnf)⟩
@[reducible] noncomputable def fa36_0 : {x : Arguments // x = argsS (nth (bodyS (nth pw.main.body 36)) 0)} := ⟨_, by conv => (rhs; whnf)⟩
@[reducible] noncomputable def fb36_0 : {x : List Stmt // x = bodyS (nth (bodyS (nth pw.main.body 36)) 0)} := ⟨_, by conv => (rhs; whnf)⟩
@[reducible] noncomputable def fs36_0 : {x : Scope // x = scopeS (nth (bodyS (nth pw.main.body 36)) 0)} := ⟨_, by conv => (rhs; whnf)⟩
@[reducible] noncomputable def fa36_1 : {x : Arguments // x = argsS (nth (bodyS (nth pw.main.body 36)) 1)} := ⟨_, by conv => (rhs; whnf)⟩
@[reducible] noncomputable def fb36_1 : {x : List Stmt // x = bodyS (nth (bodyS (nth pw.main.body 36)) 1)} := ⟨_, by conv => (rhs; whnf)⟩
@[reducible] noncomputable def fs36_1 : {x : Scope // x = scopeS (nth (bodyS (nth pw.main.body 36)) 1)} := ⟨_, by conv => (rhs; whnf)⟩
@[reducible] noncomputable def fa36_2 : {x : Arguments // x = argsS (nth (bodyS (nth pw.main.body 36)) 2)} := ⟨_, by conv => (rhs; whnf)⟩
@[reducible] noncomputable def fb36_2 : {x : List Stmt // x = bodyS (nth (bodyS (nth pw.main.body 36)) 2)} := ⟨_, by conv => (rhs; whnf)⟩
@[reducible] noncomputable def fs36_2 : {x : Scope // x = scopeS (nth (bodyS (nth pw.main.body 36)) 2)} := ⟨_, by conv => (rhs; whnf)⟩
@[reducible] noncomputable def fa36_3 : {x : Arguments // x = argsS (nth (bodyS (nth pw.main.body 36)) 3)} := ⟨_, by conv => (rhs; whnf)⟩
@[reducible] noncomputable def fb36_3 : {x : List Stmt // x = bodyS (nth (bodyS (nth pw.main.body 36)) 3)} := ⟨_, by conv => (rhs; whnf)⟩
@[reducible] noncomputable def fs36_3 : {x : Scope // x = scopeS (nth (bodyS (nth pw.main.body 36)) 3)} := ⟨_, by conv => (rhs; whnf)⟩
@[reducible] noncomputable def fa36_4 : {x : Arguments // x = argsS (nth (bodyS (nth pw.main.body 36)) 4)} := ⟨_, by conv => (rhs; whnf)⟩
@[reducible] noncomputable def fb36_4 : {x : List Stmt // x = bodyS (nth (bodyS (nth pw.main.body 36)) 4)} := ⟨_, by conv => (rhs; whnf)⟩
@[reducible] noncomputable def fs36_4 : {x : Scope // x = scopeS (nth (bodyS (nth pw.main.body 36)) 4)} := ⟨_, by conv => (rhs; whnf)⟩
@[reducible] noncomputable def fa36_5 : {x : Arguments // x = argsS (nth (bodyS (nth pw.main.body 36)) 5)} := ⟨_, by conv => (rhs; whnf)⟩
@[reducible] noncomputable def fb36_5 : {x : List Stmt // x = bodyS (nth (bodyS (nth pw.main.body 36)) 5)} := ⟨_, by conv => (rhs; whnf)⟩
@[reducible] noncomputable def fs36_5 : {x : Scope // x = scopeS (nth (bodyS (nth pw.main.body 36)) 5)} := ⟨_, by conv => (rhs; whnf)⟩
@[reducible] noncomputable def fa39 : {x : Arguments // x = argsS (nth pw.main.body 39)} := ⟨_, by conv => (rhs; whnf)⟩
@[reducible] noncomputable def fb39 : {x : List Stmt // x = bodyS (nth pw.main.body 39)} := ⟨_, by conv => (rhs; whnf)⟩
@[reducible] noncomputable def fs39 : {x : Scope // x = scopeS (nth pw.main.body 39)} := ⟨_, by conv => (rhs; whnf)⟩
@[reducible] noncomputable def fa40 : {x : Arguments // x = argsS (nth pw.main.body 40)} := ⟨_, by conv => (rhs; whnf)⟩
@[reducible] noncomputable def fb40 : {x : List Stmt // x = bodyS (nth pw.main.body 40)} := ⟨_, by conv => (rhs; whnf)⟩
@[reducible] noncomputable def fs40 : {x : Scope // x = scopeS (nth pw.main.body 40)} := ⟨_, by conv => (rhs; whnf)⟩
@[reducible] noncomputable def fa41 : {x : Arguments // x = argsS (nth pw.main.body 41)} := ⟨_, by conv => (rhs; whnf)⟩
@[reducible] noncomputable def fb41 : {x : List Stmt // x = bodyS (nth pw.main.body 41)} := ⟨_, by conv => (rhs; whnf)⟩
@[reducible] noncomputable def fs41 : {x : Scope // x = scopeS (nth pw.main.body 41)} := ⟨_, by conv => (rhs; whnf)⟩
@[reducible] noncomputable def fa42 : {x : Arguments // x = argsS (nth pw.main.body 42)} := ⟨_, by conv => (rhs; whnf)⟩
@[reducible] noncomputable def fb42 : {x : List Stmt // x = bodyS (nth pw.main.body 42)} := ⟨_, by conv => (rhs; whnf)⟩
@[reducible] noncomputable def fs42 : {x : Scope // x = scopeS (nth pw.main.body 42)} := ⟨_, by conv => (rhs; whnf)⟩
@[reducible] noncomputable def fa43 : {x : Arguments // x = argsS (nth pw.main.body 43)} := ⟨_, by conv => (rhs; whnf)⟩
@[reducible] noncomputable def fb43 : {x : List Stmt // x = bodyS (nth pw.main.body 43)} := ⟨_, by conv => (rhs; whnf)⟩
@[reducible] noncomputable def fs43 : {x : Scope // x = scopeS (nth pw.main.body 43)} := ⟨_, by conv => (rhs; whnf)⟩
@[reducible] noncomputable def fa45 : {x : Arguments // x = argsS (nth pw.main.body 45)} := ⟨_, by conv => (rhs; whnf)⟩
@[reducible] noncomputable def fb45 : {x : List Stmt // x = bodyS (nth pw.main.body 45)} := ⟨_, by conv => (rhs; whnf)⟩
@[reducible] noncomputable def fs45 : {x : Scope // x = scopeS (nth pw.main.body 45)} := ⟨_, by conv => (rhs; whnf)⟩
noncomputable def envH : Env := { scope := pw.main.scope, locals := mainNs, globals := mainNs, cells := [], code := (.ref 13), frame := some 14 }
noncomputable def cE : Code := Code.body (behindTheImports pw) envH
abbrev qH : Pos := (.mk 0 0 0 0)
abbrev annH : Option Value := (.some (.ref 6))
noncomputable def s0H (P : Params) (os : OsState) : Shared := ⟨boot_heap P, ⟨[]⟩, boot_drawn, boot_toks, os⟩
noncomputable def o11 (P : Params) : Obj := (PySem.Obj.mk (.type "tuple") .none (.seq (List.toArray []) 0) (List.toArray []))
noncomputable def o12 (P : Params) : Obj := (PySem.Obj.mk .none .none (.fields (List.toArray [])) (List.toArray []))
noncomputable def o13 (P : Params) : Obj := (PySem.Obj.mk (.type "code") .none (.fields (List.toArray [(.str (Str.ofString "<module>") 182), (.str (Str.ofString "<module>") 183), (.str (Str.ofString "/claim/cut.py") 184), (.int 1 0), (.int 0 0), (.int 0 0), (.int 0 0), (.int 0 0), (.ref 11), (.bool .false), (.int 181 0), (.ref 12), .none, .none, .none, .none, (.int 185 0), (.int 1 0), (.str (Str.ofString "/claim/cut.py") 186)])) (List.toArray []))
noncomputable def o14 (P : Params) : Obj := (PySem.Obj.mk (.type "frame") .none .plain (List.toArray [(.some (.ref 13)), (.some (.ref 3)), (.some (.ref 3)), .none, (.some (.str (Str.ofString "__main__") 164)), .none, (.some (.ref 0))]))
noncomputable def tA (P : Params) : BT := (.node (boot_o_0 P) (.node (boot_o_1 P) (.node (boot_o_3 P) (lf (boot_o_7 P)) (lf (o11 P))) (.node (boot_o_5 P) (lf (boot_o_9 P)) (lf (o13 P)))) (.node (boot_o_2 P) (.node (boot_o_4 P) (lf (boot_o_8 P)) (lf (o12 P))) (.node (boot_o_6 P) (lf (boot_o_10 P)) (lf (o14 P)))))
noncomputable def tAS (P : Params) (os : OsState) : SharedT := ⟨tA P, 15, (.mk [] [] [] 0 [] [] .false (List.toArray []) [] 0 .false .false .false 0 [2000, 10, 10] .false 0 .true [] [] 0 .false), ⟨[]⟩, (.mk 0 0 0 0), 187, os⟩
theorem preH (w : World) : (fun os => topGo treeTable pw w 11 annH 12 (s0H w.params os) (topStub pw)) = fun os => some ((tAS w.params os).abs, ⟨denote treeTable cE, cE, ((.mk 0 0 0 0) : Pos), [topFrame qH]⟩) := by
  rw [PySem.W.Fast.te15667345088766844465, PySem.W.Fast.te14364793385576792824, PySem.W.Fast.te11892475500146522536]; kernel_rfl!
noncomputable def tB (P : Params) : BT := (.node (boot_o_0 P) (.node (boot_o_1 P) (.node (boot_o_3 P) (lf (boot_o_7 P)) (lf (o11 P))) (.node (boot_o_5 P) (lf (boot_o_9 P)) (lf (o13 P)))) (.node (boot_o_2 P) (.node (boot_o_4 P) (lf (boot_o_8 P)) (lf (o12 P))) (.node (boot_o_6 P) (lf (boot_o_10 P)) (lf (o14 P)))))
noncomputable def tBS (P : Params) (os : OsState) : SharedT := ⟨tB P, 15, (.mk [] [] [] 0 [] [] .false (List.toArray []) [] 0 .false .false .false 0 [2000, 10, 10] .false 0 .true [] [] 0 .false), ⟨[]⟩, (.mk 0 0 0 0), 187, os⟩
theorem blockH (w : World) : (fun os => segRunT treeTable pw w 11 annH 1 1 (tAS w.params os) (blockOf (behindTheImports pw) envH cE ((.mk 0 0 0 0) : Pos) [topFrame qH])) = fun os => some (.next, tBS w.params os, cE, ((.mk 0 0 0 0) : Pos)) := by
  unfold blockOf; rw [PySem.W.Fast.te10110043849684766642, PySem.W.Fast.te14364793385576792824, PySem.W.Fast.te1066825118222455980]; kernel_rfl!
noncomputable def o3 (P : Params) : Obj := (PySem.Obj.mk (.type "dict") .none (.dict (List.toArray [(.mk (PySem.PyData.keyHash P (Str.ofString "__name__")) (.str (Str.ofString "__name__") 165) (.str (Str.ofString "heatnet.exact") 241)), (.mk (PySem.PyData.keyHash P (Str.ofString "__doc__")) (.str (Str.ofString "__doc__") 166) .none), (.mk (PySem.PyData.keyHash P (Str.ofString "__package__")) (.str (Str.ofString "__package__") 167) .none), (.mk (PySem.PyData.keyHash P (Str.ofString "__loader__")) (.str (Str.ofString "__loader__") 168) (.builtin "__main__.__loader__#opaque")), (.mk (PySem.PyData.keyHash P (Str.ofString "__spec__")) (.str (Str.ofString "__spec__") 169) .none), (.mk (PySem.PyData.keyHash P (Str.ofString "__annotations__")) (.str (Str.ofString "__annotations__") 170) (.ref 6)), (.mk (PySem.PyData.keyHash P (Str.ofString "__builtins__")) (.str (Str.ofString "__builtins__") 171) (.ref 4)), (.mk (PySem.PyData.keyHash P (Str.ofString "__file__")) (.str (Str.ofString "__file__") 173) (.str (Str.ofString "/claim/cut.py") 172)), (.mk (PySem.PyData.keyHash P (Str.ofString "__cached__")) (.str (Str.ofString "__cached__") 174) .none), (.mk (PySem.PyData.keyHash P (Str.ofString "_wall")) (.str (Str.ofString "_wall") 193) (.ref 21)), (.mk (PySem.PyData.keyHash P (Str.ofString "HeatError")) (.str (Str.ofString "HeatError") 213) (.ref 31)), (.mk (PySem.PyData.keyHash P (Str.ofString "need_number")) (.str (Str.ofString "need_number") 223) (.ref 41)), (.mk (PySem.PyData.keyHash P (Str.ofString "shown")) (.str (Str.ofString "shown") 230) (.ref 48)), (.mk (PySem.PyData.keyHash P (Str.ofString "need_name")) (.str (Str.ofString "need_name") 240) (.ref 55)), (.mk (PySem.PyData.keyHash P (Str.ofString "FIGURES")) (.str (Str.ofString "FIGURES") 244) (.int 2000 243)), (.mk (PySem.PyData.keyHash P (Str.ofString "MOST")) (.str (Str.ofString "MOST") 247) (.int 100000000000000000000000000000000000000000000000000000000000000000000000000000000000000000000000000000000000000000000000000000000000000000000000000000000000000000000000000000000000000000000000000000000000000000000000000000000000000000000000000000000000000000000000000000000000000000000000000000000000000000000000000000000000000000000000000000000000000000000000000000000000000000000000000000000000000000000000000000000000000000000000000000000000000000000000000000000000000000000000000000000000000000000000000000000000000000000000000000000000000000000000000000000000000000000000000000000000000000000000000000000000000000000000000000000000000000000000000000000000000000000000000000000000000000000000000000000000000000000000000000000000000000000000000000000000000000000000000000000000000000000000000000000000000000000000000000000000000000000000000000000000000000000000000000000000000000000000000000000000000000000000000000000000000000000000000000000000000000000000000000000000000000000000000000000000000000000000000000000000000000000000000000000000000000000000000000000000000000000000000000000000000000000000000000000000000000000000000000000000000000000000000000000000000000000000000000000000000000000000000000000000000000000000000000000000000000000000000000000000000000000000000000000000000000000000000000000000000000000000000000000000000000000000000000000000000000000000000000000000000000000000000000000000000000000000000000000000000000000000000000000000000000000000000000000000000000000000000000000000000000000000000000000000000000000000000000000000000000000000000000000000000000000000000000000000000000000000000000000000000000000000000000000000000000000000000000000000000000000000000000000000000000000000000000000000000000000000000000000000000000000000000000000000000000000000000000000000000000000000000000000000000000000000000000000000000000000000000000000000000000000000000000000000000000000000000000000000000000000000000000000000000000000000000000000000000000000000000000000000000000000000000000000 246)), (.mk (PySem.PyData.keyHash P (Str.ofString "NOUGHT")) (.str (Str.ofString "NOUGHT") 250) (.ref 56)), (.mk (PySem.PyData.keyHash P (Str.ofString "ONE")) (.str (Str.ofString "ONE") 253) (.ref 57)), (.mk (PySem.PyData.keyHash P (Str.ofString "divisor")) (.str (Str.ofString "divisor") 261) (.ref 64))]) 19) (List.toArray []))
noncomputable def o12v1 (P : Params) : Obj := (PySem.Obj.mk .none .none (.fields (List.toArray [(.int 1 0), (.int 0 0), (.ref 20), (.int 5 0), (.int 0 0), (.ref 27), (.int 7 0), (.int 0 0), (.ref 40), (.int 11 0), (.int 0 0), (.ref 47), (.int 17 0), (.int 0 0), (.ref 54), (.int 31 0), (.int 0 0), (.ref 63)])) (List.toArray []))
noncomputable def o15 (P : Params) : Obj := (PySem.Obj.mk (.type "tuple") .none (.seq (List.toArray []) 0) (List.toArray []))
noncomputable def o16 (P : Params) : Obj := (PySem.Obj.mk .none .none (.fields (List.toArray [])) (List.toArray []))
noncomputable def o17 (P : Params) : Obj := (PySem.Obj.mk (.type "tuple") .none (.seq (List.toArray [(.str (Str.ofString "k") 190)]) 0) (List.toArray []))
noncomputable def o18 (P : Params) : Obj := (PySem.Obj.mk (.type "tuple") .none (.seq (List.toArray []) 0) (List.toArray []))
noncomputable def o19 (P : Params) : Obj := (PySem.Obj.mk .none .none (.func (FuncData.mk (Str.ofString "_wall") (Str.ofString "_wall") fa0.1 (.stmts fb0.1) fs0.1 0 [] .none .none .none .none .none .none .none 0)) (List.toArray []))
noncomputable def o20 (P : Params) : Obj := (PySem.Obj.mk (.type "code") .none (.fields (List.toArray [(.str (Str.ofString "_wall") 187), (.str (Str.ofString "_wall") 188), (.str (Str.ofString "/claim/cut.py") 189), (.int 1 0), (.int 1 0), (.int 0 0), (.int 0 0), (.int 3 0), (.ref 15), (.bool .true), (.int 181 0), (.ref 16), .none, (.ref 17), (.ref 18), (.ref 19), (.int 191 0), (.int 1 0), (.str (Str.ofString "/claim/cut.py") 192)])) (List.toArray []))
noncomputable def o21 (P : Params) : Obj := (PySem.Obj.mk (.type "function") .none (.func (FuncData.mk (Str.ofString "_wall") (Str.ofString "_wall") fa0.1 (.stmts fb0.1) fs0.1 3 [] .none .none .none (.str (Str.ofString "__main__") 164) .none (.ref 20) .none 0)) (List.toArray []))
noncomputable def o22 (P : Params) : Obj := (PySem.Obj.mk (.type "tuple") .none (.seq (List.toArray [(.type "ValueError")]) 0) (List.toArray []))
noncomputable def o23 (P : Params) : Obj := (PySem.Obj.mk (.type "builtin_function_or_method") .none (.fields (List.toArray [(.builtin "type.__prepare__"), (.type "type")])) (List.toArray []))
noncomputable def o24 (P : Params) : Obj := (PySem.Obj.mk (.type "dict") .none (.dict (List.toArray [(.mk (PySem.PyData.keyHash P (Str.ofString "__module__")) (.str (Str.ofString "__module__") 203) (.str (Str.ofString "heatnet.errors") 194)), (.mk (PySem.PyData.keyHash P (Str.ofString "__qualname__")) (.str (Str.ofString "__qualname__") 205) (.str (Str.ofString "HeatError") 204)), (.mk (PySem.PyData.keyHash P (Str.ofString "__firstlineno__")) (.str (Str.ofString "__firstlineno__") 207) (.int 5 206)), (.mk (PySem.PyData.keyHash P (Str.ofString "__static_attributes__")) (.str (Str.ofString "__static_attributes__") 208) (.ref 29))]) 4) (List.toArray []))
noncomputable def o25 (P : Params) : Obj := (PySem.Obj.mk (.type "tuple") .none (.seq (List.toArray []) 0) (List.toArray []))
noncomputable def o26 (P : Params) : Obj := (PySem.Obj.mk .none .none (.fields (List.toArray [])) (List.toArray []))
noncomputable def o27 (P : Params) : Obj := (PySem.Obj.mk (.type "code") .none (.fields (List.toArray [(.str (Str.ofString "HeatError") 198), (.str (Str.ofString "HeatError") 199), (.str (Str.ofString "/claim/cut.py") 200), (.int 5 0), (.int 0 0), (.int 0 0), (.int 0 0), (.int 0 0), (.ref 25), (.bool .false), (.int 181 0), (.ref 26), .none, .none, .none, .none, (.int 201 0), (.int 5 0), (.str (Str.ofString "/claim/cut.py") 202)])) (List.toArray []))
noncomputable def o28 (P : Params) : Obj := (PySem.Obj.mk (.type "frame") .none .plain (List.toArray [(.some (.ref 27)), (.some (.ref 3)), (.some (.ref 24)), .none, (.some (.str (Str.ofString "heatnet.errors") 194)), .none, (.some (.ref 0))]))
noncomputable def o29 (P : Params) : Obj := (PySem.Obj.mk (.type "tuple") .none (.seq (List.toArray []) 0) (List.toArray []))
noncomputable def o30 (P : Params) : Obj := (PySem.Obj.mk (.type "dict") .none (.dict (List.toArray [(.mk (PySem.PyData.keyHash P (Str.ofString "__module__")) (.str (Str.ofString "__module__") 203) (.str (Str.ofString "heatnet.errors") 194)), (.mk (PySem.PyData.keyHash P (Str.ofString "__firstlineno__")) (.str (Str.ofString "__firstlineno__") 207) (.int 5 206)), (.mk (PySem.PyData.keyHash P (Str.ofString "__static_attributes__")) (.str (Str.ofString "__static_attributes__") 208) (.ref 29)), (.mk (PySem.PyData.keyHash P (Str.ofString "__weakref__")) (.str (Str.ofString "__weakref__") 210) (.ref 32)), (.mk (PySem.PyData.keyHash P (Str.ofString "__doc__")) (.str (Str.ofString "__doc__") 211) .none)]) 3) (List.toArray []))
noncomputable def o31 (P : Params) : Obj := (PySem.Obj.mk (.type "type") .none (.cls (.mk (Str.ofString "HeatError") [(.type "ValueError")] [(.ref 31), (.type "ValueError"), (.type "Exception"), (.type "BaseException"), (.type "object")] 30 (Str.ofString "HeatError") .true [] [] .false .none .false)) (List.toArray [(.some (.ref 22)), .none, (.some (.str (Str.ofString "HeatError") 196)), (.some (.str (Str.ofString "HeatError") 204)), (.some (.builtin "ValueError.__new__")), (.some (.bool .true))]))
noncomputable def o32 (P : Params) : Obj := (PySem.Obj.mk (.type "getset_descriptor") .none (.fields (List.toArray [(.str (Str.ofString "__weakref__") 209), (.ref 31), (.builtin "ExceptionGroup.__weakref__"), .none])) (List.toArray []))
noncomputable def o33 (P : Params) : Obj := (PySem.Obj.mk (.type "super") .none (.fields (List.toArray [(.ref 31), (.ref 31), (.ref 31)])) (List.toArray []))
noncomputable def o34 (P : Params) : Obj := (PySem.Obj.mk (.type "builtin_function_or_method") .none (.fields (List.toArray [(.builtin "object.__init_subclass__"), (.ref 31)])) (List.toArray []))
noncomputable def o35 (P : Params) : Obj := (PySem.Obj.mk (.type "tuple") .none (.seq (List.toArray []) 0) (List.toArray []))
noncomputable def o36 (P : Params) : Obj := (PySem.Obj.mk .none .none (.fields (List.toArray [])) (List.toArray []))
noncomputable def o37 (P : Params) : Obj := (PySem.Obj.mk (.type "tuple") .none (.seq (List.toArray [(.str (Str.ofString "value") 217), (.str (Str.ofString "least") 218), (.str (Str.ofString "most") 219), (.str (Str.ofString "what") 220)]) 0) (List.toArray []))
noncomputable def o38 (P : Params) : Obj := (PySem.Obj.mk (.type "tuple") .none (.seq (List.toArray []) 0) (List.toArray []))
noncomputable def o39 (P : Params) : Obj := (PySem.Obj.mk .none .none (.func (FuncData.mk (Str.ofString "need_number") (Str.ofString "need_number") fa3.1 (.stmts fb3.1) fs3.1 0 [] .none .none .none .none .none .none .none 0)) (List.toArray []))
noncomputable def o40 (P : Params) : Obj := (PySem.Obj.mk (.type "code") .none (.fields (List.toArray [(.str (Str.ofString "need_number") 214), (.str (Str.ofString "need_number") 215), (.str (Str.ofString "/claim/cut.py") 216), (.int 7 0), (.int 4 0), (.int 0 0), (.int 0 0), (.int 3 0), (.ref 35), (.bool .true), (.int 181 0), (.ref 36), .none, (.ref 37), (.ref 38), (.ref 39), (.int 221 0), (.int 7 0), (.str (Str.ofString "/claim/cut.py") 222)])) (List.toArray []))
noncomputable def o41 (P : Params) : Obj := (PySem.Obj.mk (.type "function") .none (.func (FuncData.mk (Str.ofString "need_number") (Str.ofString "need_number") fa3.1 (.stmts fb3.1) fs3.1 3 [] .none .none .none (.str (Str.ofString "heatnet.errors") 194) .none (.ref 40) .none 0)) (List.toArray []))
noncomputable def o42 (P : Params) : Obj := (PySem.Obj.mk (.type "tuple") .none (.seq (List.toArray []) 0) (List.toArray []))
noncomputable def o43 (P : Params) : Obj := (PySem.Obj.mk .none .none (.fields (List.toArray [])) (List.toArray []))
noncomputable def o44 (P : Params) : Obj := (PySem.Obj.mk (.type "tuple") .none (.seq (List.toArray [(.str (Str.ofString "value") 227)]) 0) (List.toArray []))
noncomputable def o45 (P : Params) : Obj := (PySem.Obj.mk (.type "tuple") .none (.seq (List.toArray []) 0) (List.toArray []))
noncomputable def o46 (P : Params) : Obj := (PySem.Obj.mk .none .none (.func (FuncData.mk (Str.ofString "shown") (Str.ofString "shown") fa4.1 (.stmts fb4.1) fs4.1 0 [] .none .none .none .none .none .none .none 0)) (List.toArray []))
noncomputable def o47 (P : Params) : Obj := (PySem.Obj.mk (.type "code") .none (.fields (List.toArray [(.str (Str.ofString "shown") 224), (.str (Str.ofString "shown") 225), (.str (Str.ofString "/claim/cut.py") 226), (.int 11 0), (.int 1 0), (.int 0 0), (.int 0 0), (.int 3 0), (.ref 42), (.bool .true), (.int 181 0), (.ref 43), .none, (.ref 44), (.ref 45), (.ref 46), (.int 228 0), (.int 11 0), (.str (Str.ofString "/claim/cut.py") 229)])) (List.toArray []))
noncomputable def o48 (P : Params) : Obj := (PySem.Obj.mk (.type "function") .none (.func (FuncData.mk (Str.ofString "shown") (Str.ofString "shown") fa4.1 (.stmts fb4.1) fs4.1 3 [] .none .none .none (.str (Str.ofString "heatnet.errors") 194) .none (.ref 47) .none 0)) (List.toArray []))
noncomputable def o49 (P : Params) : Obj := (PySem.Obj.mk (.type "tuple") .none (.seq (List.toArray []) 0) (List.toArray []))
noncomputable def o50 (P : Params) : Obj := (PySem.Obj.mk .none .none (.fields (List.toArray [])) (List.toArray []))
noncomputable def o51 (P : Params) : Obj := (PySem.Obj.mk (.type "tuple") .none (.seq (List.toArray [(.str (Str.ofString "text") 234), (.str (Str.ofString "k") 235), (.str (Str.ofString "sign") 236), (.str (Str.ofString "letter") 237)]) 0) (List.toArray []))
noncomputable def o52 (P : Params) : Obj := (PySem.Obj.mk (.type "tuple") .none (.seq (List.toArray []) 0) (List.toArray []))
noncomputable def o53 (P : Params) : Obj := (PySem.Obj.mk .none .none (.func (FuncData.mk (Str.ofString "need_name") (Str.ofString "need_name") fa5.1 (.stmts fb5.1) fs5.1 0 [] .none .none .none .none .none .none .none 0)) (List.toArray []))
noncomputable def o54 (P : Params) : Obj := (PySem.Obj.mk (.type "code") .none (.fields (List.toArray [(.str (Str.ofString "need_name") 231), (.str (Str.ofString "need_name") 232), (.str (Str.ofString "/claim/cut.py") 233), (.int 17 0), (.int 1 0), (.int 0 0), (.int 0 0), (.int 3 0), (.ref 49), (.bool .true), (.int 181 0), (.ref 50), .none, (.ref 51), (.ref 52), (.ref 53), (.int 238 0), (.int 17 0), (.str (Str.ofString "/claim/cut.py") 239)])) (List.toArray []))
noncomputable def o55 (P : Params) : Obj := (PySem.Obj.mk (.type "function") .none (.func (FuncData.mk (Str.ofString "need_name") (Str.ofString "need_name") fa5.1 (.stmts fb5.1) fs5.1 3 [] .none .none .none (.str (Str.ofString "heatnet.errors") 194) .none (.ref 54) .none 0)) (List.toArray []))
noncomputable def o56 (P : Params) : Obj := (PySem.Obj.mk (.type "tuple") .none (.seq (List.toArray [(.int 0 248), (.int 1 249)]) 0) (List.toArray []))
noncomputable def o57 (P : Params) : Obj := (PySem.Obj.mk (.type "tuple") .none (.seq (List.toArray [(.int 1 251), (.int 1 252)]) 0) (List.toArray []))
noncomputable def o58 (P : Params) : Obj := (PySem.Obj.mk (.type "tuple") .none (.seq (List.toArray []) 0) (List.toArray []))
noncomputable def o59 (P : Params) : Obj := (PySem.Obj.mk .none .none (.fields (List.toArray [])) (List.toArray []))
noncomputable def o60 (P : Params) : Obj := (PySem.Obj.mk (.type "tuple") .none (.seq (List.toArray [(.str (Str.ofString "a") 257), (.str (Str.ofString "b") 258)]) 0) (List.toArray []))
noncomputable def o61 (P : Params) : Obj := (PySem.Obj.mk (.type "tuple") .none (.seq (List.toArray []) 0) (List.toArray []))
noncomputable def o62 (P : Params) : Obj := (PySem.Obj.mk .none .none (.func (FuncData.mk (Str.ofString "divisor") (Str.ofString "divisor") fa11.1 (.stmts fb11.1) fs11.1 0 [] .none .none .none .none .none .none .none 0)) (List.toArray []))
noncomputable def o63 (P : Params) : Obj := (PySem.Obj.mk (.type "code") .none (.fields (List.toArray [(.str (Str.ofString "divisor") 254), (.str (Str.ofString "divisor") 255), (.str (Str.ofString "/claim/cut.py") 256), (.int 31 0), (.int 2 0), (.int 0 0), (.int 0 0), (.int 3 0), (.ref 58), (.bool .true), (.int 181 0), (.ref 59), .none, (.ref 60), (.ref 61), (.ref 62), (.int 259 0), (.int 31 0), (.str (Str.ofString "/claim/cut.py") 260)])) (List.toArray []))
noncomputable def o64 (P : Params) : Obj := (PySem.Obj.mk (.type "function") .none (.func (FuncData.mk (Str.ofString "divisor") (Str.ofString "divisor") fa11.1 (.stmts fb11.1) fs11.1 3 [] .none .none .none (.str (Str.ofString "heatnet.exact") 241) .none (.ref 63) .none 0)) (List.toArray []))
noncomputable def t0 (P : Params) : BT := (.node (boot_o_0 P) (.node (boot_o_1 P) (.node (o3 P) (.node (boot_o_7 P) (.node (o15 P) (.node (o31 P) (lf (o63 P)) .nil) (lf (o47 P))) (.node (o23 P) (lf (o39 P)) (lf (o55 P)))) (.node (o11 P) (.node (o19 P) (lf (o35 P)) (lf (o51 P))) (.node (o27 P) (lf (o43 P)) (lf (o59 P))))) (.node (boot_o_5 P) (.node (boot_o_9 P) (.node (o17 P) (lf (o33 P)) (lf (o49 P))) (.node (o25 P) (lf (o41 P)) (lf (o57 P)))) (.node (o13 P) (.node (o21 P) (lf (o37 P)) (lf (o53 P))) (.node (o29 P) (lf (o45 P)) (lf (o61 P)))))) (.node (boot_o_2 P) (.node (boot_o_4 P) (.node (boot_o_8 P) (.node (o16 P) (.node (o32 P) (lf (o64 P)) .nil) (lf (o48 P))) (.node (o24 P) (lf (o40 P)) (lf (o56 P)))) (.node (o12v1 P) (.node (o20 P) (lf (o36 P)) (lf (o52 P))) (.node (o28 P) (lf (o44 P)) (lf (o60 P))))) (.node (boot_o_6 P) (.node (boot_o_10 P) (.node (o18 P) (lf (o34 P)) (lf (o50 P))) (.node (o26 P) (lf (o42 P)) (lf (o58 P)))) (.node (o14 P) (.node (o22 P) (lf (o38 P)) (lf (o54 P))) (.node (o30 P) (lf (o46 P)) (lf (o62 P)))))))
noncomputable def t0S (P : Params) (os : OsState) : SharedT := ⟨t0 P, 65, (.mk [] [] [] 0 [] [] .false (List.toArray []) [] 0 .false .false .false 0 [2000, 10, 10] .false 0 .true [] [] 0 .false), ⟨[]⟩, (.mk 0 0 0 0), 262, os⟩
set_option maxRecDepth 100000 in
theorem pc0 (w : World) : (fun os => segRunT treeTable pw w 11 annH 1 406 (tBS (w).params os) (piecesOf (((behindTheImports pw).drop 0).take 12) envH cE ((.mk 0 0 0 0) : Pos) [topFrame qH])) = fun os => some (.next, t0S (w).params os, cE, ((.mk 31 0 36 12) : Pos)) := by
  unfold piecesOf; rw [PySem.W.Fast.te10110043849684766642, PySem.W.Fast.te14364793385576792824, PySem.W.Fast.te12563942051412417395]; kernel_rfl!
noncomputable def o3v1 (P : Params) : Obj := (PySem.Obj.mk (.type "dict") .none (.dict (List.toArray [(.mk (PySem.PyData.keyHash P (Str.ofString "__name__")) (.str (Str.ofString "__name__") 165) (.str (Str.ofString "heatnet.net") 343)), (.mk (PySem.PyData.keyHash P (Str.ofString "__doc__")) (.str (Str.ofString "__doc__") 166) .none), (.mk (PySem.PyData.keyHash P (Str.ofString "__package__")) (.str (Str.ofString "__package__") 167) .none), (.mk (PySem.PyData.keyHash P (Str.ofString "__loader__")) (.str (Str.ofString "__loader__") 168) (.builtin "__main__.__loader__#opaque")), (.mk (PySem.PyData.keyHash P (Str.ofString "__spec__")) (.str (Str.ofString "__spec__") 169) .none), (.mk (PySem.PyData.keyHash P (Str.ofString "__annotations__")) (.str (Str.ofString "__annotations__") 170) (.ref 6)), (.mk (PySem.PyData.keyHash P (Str.ofString "__builtins__")) (.str (Str.ofString "__builtins__") 171) (.ref 4)), (.mk (PySem.PyData.keyHash P (Str.ofString "__file__")) (.str (Str.ofString "__file__") 173) (.str (Str.ofString "/claim/cut.py") 172)), (.mk (PySem.PyData.keyHash P (Str.ofString "__cached__")) (.str (Str.ofString "__cached__") 174) .none), (.mk (PySem.PyData.keyHash P (Str.ofString "_wall")) (.str (Str.ofString "_wall") 193) (.ref 21)), (.mk (PySem.PyData.keyHash P (Str.ofString "HeatError")) (.str (Str.ofString "HeatError") 213) (.ref 31)), (.mk (PySem.PyData.keyHash P (Str.ofString "need_number")) (.str (Str.ofString "need_number") 223) (.ref 41)), (.mk (PySem.PyData.keyHash P (Str.ofString "shown")) (.str (Str.ofString "shown") 230) (.ref 48)), (.mk (PySem.PyData.keyHash P (Str.ofString "need_name")) (.str (Str.ofString "need_name") 240) (.ref 55)), (.mk (PySem.PyData.keyHash P (Str.ofString "FIGURES")) (.str (Str.ofString "FIGURES") 244) (.int 2000 243)), (.mk (PySem.PyData.keyHash P (Str.ofString "MOST")) (.str (Str.ofString "MOST") 247) (.int 100000000000000000000000000000000000000000000000000000000000000000000000000000000000000000000000000000000000000000000000000000000000000000000000000000000000000000000000000000000000000000000000000000000000000000000000000000000000000000000000000000000000000000000000000000000000000000000000000000000000000000000000000000000000000000000000000000000000000000000000000000000000000000000000000000000000000000000000000000000000000000000000000000000000000000000000000000000000000000000000000000000000000000000000000000000000000000000000000000000000000000000000000000000000000000000000000000000000000000000000000000000000000000000000000000000000000000000000000000000000000000000000000000000000000000000000000000000000000000000000000000000000000000000000000000000000000000000000000000000000000000000000000000000000000000000000000000000000000000000000000000000000000000000000000000000000000000000000000000000000000000000000000000000000000000000000000000000000000000000000000000000000000000000000000000000000000000000000000000000000000000000000000000000000000000000000000000000000000000000000000000000000000000000000000000000000000000000000000000000000000000000000000000000000000000000000000000000000000000000000000000000000000000000000000000000000000000000000000000000000000000000000000000000000000000000000000000000000000000000000000000000000000000000000000000000000000000000000000000000000000000000000000000000000000000000000000000000000000000000000000000000000000000000000000000000000000000000000000000000000000000000000000000000000000000000000000000000000000000000000000000000000000000000000000000000000000000000000000000000000000000000000000000000000000000000000000000000000000000000000000000000000000000000000000000000000000000000000000000000000000000000000000000000000000000000000000000000000000000000000000000000000000000000000000000000000000000000000000000000000000000000000000000000000000000000000000000000000000000000000000000000000000000000000000000000000000000000000000000000000000000000000000000000 246)), (.mk (PySem.PyData.keyHash P (Str.ofString "NOUGHT")) (.str (Str.ofString "NOUGHT") 250) (.ref 56)), (.mk (PySem.PyData.keyHash P (Str.ofString "ONE")) (.str (Str.ofString "ONE") 253) (.ref 57)), (.mk (PySem.PyData.keyHash P (Str.ofString "divisor")) (.str (Str.ofString "divisor") 261) (.ref 64)), (.mk (PySem.PyData.keyHash P (Str.ofString "frac")) (.str (Str.ofString "frac") 271) (.ref 72)), (.mk (PySem.PyData.keyHash P (Str.ofString "need")) (.str (Str.ofString "need") 279) (.ref 80)), (.mk (PySem.PyData.keyHash P (Str.ofString "plus")) (.str (Str.ofString "plus") 287) (.ref 87)), (.mk (PySem.PyData.keyHash P (Str.ofString "minus")) (.str (Str.ofString "minus") 295) (.ref 94)), (.mk (PySem.PyData.keyHash P (Str.ofString "times")) (.str (Str.ofString "times") 303) (.ref 101)), (.mk (PySem.PyData.keyHash P (Str.ofString "over")) (.str (Str.ofString "over") 311) (.ref 108)), (.mk (PySem.PyData.keyHash P (Str.ofString "less")) (.str (Str.ofString "less") 319) (.ref 115)), (.mk (PySem.PyData.keyHash P (Str.ofString "total")) (.str (Str.ofString "total") 328) (.ref 122)), (.mk (PySem.PyData.keyHash P (Str.ofString "up")) (.str (Str.ofString "up") 335) (.ref 129)), (.mk (PySem.PyData.keyHash P (Str.ofString "show")) (.str (Str.ofString "show") 342) (.ref 136)), (.mk (PySem.PyData.keyHash P (Str.ofString "JOINTS")) (.str (Str.ofString "JOINTS") 346) (.int 60 345)), (.mk (PySem.PyData.keyHash P (Str.ofString "PIPES")) (.str (Str.ofString "PIPES") 348) (.int 90 347)), (.mk (PySem.PyData.keyHash P (Str.ofString "HOURS")) (.str (Str.ofString "HOURS") 350) (.int 24 349))]) 32) (List.toArray []))
noncomputable def o12v2 (P : Params) : Obj := (PySem.Obj.mk .none .none (.fields (List.toArray ((.int 1 0) :: (.int 0 0) :: (.ref 20) :: (.int 5 0) :: (.int 0 0) :: (.ref 27) :: (.int 7 0) :: (.int 0 0) :: (.ref 40) :: (.int 11 0) :: (.int 0 0) :: (.ref 47) :: (.int 17 0) :: (.int 0 0) :: (.ref 54) :: (.int 31 0) :: (.int 0 0) :: (.ref 63) :: (.int 37 0) :: (.int 0 0) :: (.ref 71) :: (.int 47 0) :: (.int 0 0) :: (.ref 79) :: (.int 53 0) :: (.int 0 0) :: (.ref 86) :: (.int 55 0) :: (.int 0 0) :: (.ref 93) :: (.int 57 0) :: (.int 0 0) :: (.ref 100) :: (.int 59 0) :: (.int 0 0) :: (.ref 107) :: (.int 63 0) :: (.int 0 0) :: (.ref 114) :: (.int 65 0) :: (.int 0 0) :: (.ref 121) :: (.int 70 0) :: (.int 0 0) :: (.ref 128) :: (.int 72 0) :: (.int 0 0) :: (.ref 135) :: []))) (List.toArray []))
noncomputable def o65 (P : Params) : Obj := (PySem.Obj.mk (.type "tuple") .none (.seq (List.toArray [(.int 1 262)]) 0) (List.toArray []))
noncomputable def o66 (P : Params) : Obj := (PySem.Obj.mk (.type "tuple") .none (.seq (List.toArray []) 0) (List.toArray []))
noncomputable def o67 (P : Params) : Obj := (PySem.Obj.mk .none .none (.fields (List.toArray [])) (List.toArray []))
noncomputable def o68 (P : Params) : Obj := (PySem.Obj.mk (.type "tuple") .none (.seq (List.toArray [(.str (Str.ofString "upper") 266), (.str (Str.ofString "lower") 267), (.str (Str.ofString "by") 268)]) 0) (List.toArray []))
noncomputable def o69 (P : Params) : Obj := (PySem.Obj.mk (.type "tuple") .none (.seq (List.toArray []) 0) (List.toArray []))
noncomputable def o70 (P : Params) : Obj := (PySem.Obj.mk .none .none (.func (FuncData.mk (Str.ofString "frac") (Str.ofString "frac") fa12.1 (.stmts fb12.1) fs12.1 0 [] .none .none .none .none .none .none .none 0)) (List.toArray []))
noncomputable def o71 (P : Params) : Obj := (PySem.Obj.mk (.type "code") .none (.fields (List.toArray [(.str (Str.ofString "frac") 263), (.str (Str.ofString "frac") 264), (.str (Str.ofString "/claim/cut.py") 265), (.int 37 0), (.int 2 0), (.int 0 0), (.int 0 0), (.int 3 0), (.ref 66), (.bool .true), (.int 181 0), (.ref 67), .none, (.ref 68), (.ref 69), (.ref 70), (.int 269 0), (.int 37 0), (.str (Str.ofString "/claim/cut.py") 270)])) (List.toArray []))
noncomputable def o72 (P : Params) : Obj := (PySem.Obj.mk (.type "function") .none (.func (FuncData.mk (Str.ofString "frac") (Str.ofString "frac") fa12.1 (.stmts fb12.1) fs12.1 3 [] (.ref 65) .none .none (.str (Str.ofString "heatnet.exact") 241) .none (.ref 71) .none 0)) (List.toArray []))
noncomputable def o73 (P : Params) : Obj := (PySem.Obj.mk (.type "tuple") .none (.seq (List.toArray [.none]) 0) (List.toArray []))
noncomputable def o74 (P : Params) : Obj := (PySem.Obj.mk (.type "tuple") .none (.seq (List.toArray []) 0) (List.toArray []))
noncomputable def o75 (P : Params) : Obj := (PySem.Obj.mk .none .none (.fields (List.toArray [])) (List.toArray []))
noncomputable def o76 (P : Params) : Obj := (PySem.Obj.mk (.type "tuple") .none (.seq (List.toArray [(.str (Str.ofString "a") 275), (.str (Str.ofString "least") 276)]) 0) (List.toArray []))
noncomputable def o77 (P : Params) : Obj := (PySem.Obj.mk (.type "tuple") .none (.seq (List.toArray []) 0) (List.toArray []))
noncomputable def o78 (P : Params) : Obj := (PySem.Obj.mk .none .none (.func (FuncData.mk (Str.ofString "need") (Str.ofString "need") fa13.1 (.stmts fb13.1) fs13.1 0 [] .none .none .none .none .none .none .none 0)) (List.toArray []))
noncomputable def o79 (P : Params) : Obj := (PySem.Obj.mk (.type "code") .none (.fields (List.toArray [(.str (Str.ofString "need") 272), (.str (Str.ofString "need") 273), (.str (Str.ofString "/claim/cut.py") 274), (.int 47 0), (.int 2 0), (.int 0 0), (.int 0 0), (.int 3 0), (.ref 74), (.bool .true), (.int 181 0), (.ref 75), .none, (.ref 76), (.ref 77), (.ref 78), (.int 277 0), (.int 47 0), (.str (Str.ofString "/claim/cut.py") 278)])) (List.toArray []))
noncomputable def o80 (P : Params) : Obj := (PySem.Obj.mk (.type "function") .none (.func (FuncData.mk (Str.ofString "need") (Str.ofString "need") fa13.1 (.stmts fb13.1) fs13.1 3 [] (.ref 73) .none .none (.str (Str.ofString "heatnet.exact") 241) .none (.ref 79) .none 0)) (List.toArray []))
noncomputable def o81 (P : Params) : Obj := (PySem.Obj.mk (.type "tuple") .none (.seq (List.toArray []) 0) (List.toArray []))
noncomputable def o82 (P : Params) : Obj := (PySem.Obj.mk .none .none (.fields (List.toArray [])) (List.toArray []))
noncomputable def o83 (P : Params) : Obj := (PySem.Obj.mk (.type "tuple") .none (.seq (List.toArray [(.str (Str.ofString "a") 283), (.str (Str.ofString "b") 284)]) 0) (List.toArray []))
noncomputable def o84 (P : Params) : Obj := (PySem.Obj.mk (.type "tuple") .none (.seq (List.toArray []) 0) (List.toArray []))
noncomputable def o85 (P : Params) : Obj := (PySem.Obj.mk .none .none (.func (FuncData.mk (Str.ofString "plus") (Str.ofString "plus") fa14.1 (.stmts fb14.1) fs14.1 0 [] .none .none .none .none .none .none .none 0)) (List.toArray []))
noncomputable def o86 (P : Params) : Obj := (PySem.Obj.mk (.type "code") .none (.fields (List.toArray [(.str (Str.ofString "plus") 280), (.str (Str.ofString "plus") 281), (.str (Str.ofString "/claim/cut.py") 282), (.int 53 0), (.int 2 0), (.int 0 0), (.int 0 0), (.int 3 0), (.ref 81), (.bool .true), (.int 181 0), (.ref 82), .none, (.ref 83), (.ref 84), (.ref 85), (.int 285 0), (.int 53 0), (.str (Str.ofString "/claim/cut.py") 286)])) (List.toArray []))
noncomputable def o87 (P : Params) : Obj := (PySem.Obj.mk (.type "function") .none (.func (FuncData.mk (Str.ofString "plus") (Str.ofString "plus") fa14.1 (.stmts fb14.1) fs14.1 3 [] .none .none .none (.str (Str.ofString "heatnet.exact") 241) .none (.ref 86) .none 0)) (List.toArray []))
noncomputable def o88 (P : Params) : Obj := (PySem.Obj.mk (.type "tuple") .none (.seq (List.toArray []) 0) (List.toArray []))
noncomputable def o89 (P : Params) : Obj := (PySem.Obj.mk .none .none (.fields (List.toArray [])) (List.toArray []))
noncomputable def o90 (P : Params) : Obj := (PySem.Obj.mk (.type "tuple") .none (.seq (List.toArray [(.str (Str.ofString "a") 291), (.str (Str.ofString "b") 292)]) 0) (List.toArray []))
noncomputable def o91 (P : Params) : Obj := (PySem.Obj.mk (.type "tuple") .none (.seq (List.toArray []) 0) (List.toArray []))
noncomputable def o92 (P : Params) : Obj := (PySem.Obj.mk .none .none (.func (FuncData.mk (Str.ofString "minus") (Str.ofString "minus") fa15.1 (.stmts fb15.1) fs15.1 0 [] .none .none .none .none .none .none .none 0)) (List.toArray []))
noncomputable def o93 (P : Params) : Obj := (PySem.Obj.mk (.type "code") .none (.fields (List.toArray [(.str (Str.ofString "minus") 288), (.str (Str.ofString "minus") 289), (.str (Str.ofString "/claim/cut.py") 290), (.int 55 0), (.int 2 0), (.int 0 0), (.int 0 0), (.int 3 0), (.ref 88), (.bool .true), (.int 181 0), (.ref 89), .none, (.ref 90), (.ref 91), (.ref 92), (.int 293 0), (.int 55 0), (.str (Str.ofString "/claim/cut.py") 294)])) (List.toArray []))
noncomputable def o94 (P : Params) : Obj := (PySem.Obj.mk (.type "function") .none (.func (FuncData.mk (Str.ofString "minus") (Str.ofString "minus") fa15.1 (.stmts fb15.1) fs15.1 3 [] .none .none .none (.str (Str.ofString "heatnet.exact") 241) .none (.ref 93) .none 0)) (List.toArray []))
noncomputable def o95 (P : Params) : Obj := (PySem.Obj.mk (.type "tuple") .none (.seq (List.toArray []) 0) (List.toArray []))
noncomputable def o96 (P : Params) : Obj := (PySem.Obj.mk .none .none (.fields (List.toArray [])) (List.toArray []))
noncomputable def o97 (P : Params) : Obj := (PySem.Obj.mk (.type "tuple") .none (.seq (List.toArray [(.str (Str.ofString "a") 299), (.str (Str.ofString "b") 300)]) 0) (List.toArray []))
noncomputable def o98 (P : Params) : Obj := (PySem.Obj.mk (.type "tuple") .none (.seq (List.toArray []) 0) (List.toArray []))
noncomputable def o99 (P : Params) : Obj := (PySem.Obj.mk .none .none (.func (FuncData.mk (Str.ofString "times") (Str.ofString "times") fa16.1 (.stmts fb16.1) fs16.1 0 [] .none .none .none .none .none .none .none 0)) (List.toArray []))
noncomputable def o100 (P : Params) : Obj := (PySem.Obj.mk (.type "code") .none (.fields (List.toArray [(.str (Str.ofString "times") 296), (.str (Str.ofString "times") 297), (.str (Str.ofString "/claim/cut.py") 298), (.int 57 0), (.int 2 0), (.int 0 0), (.int 0 0), (.int 3 0), (.ref 95), (.bool .true), (.int 181 0), (.ref 96), .none, (.ref 97), (.ref 98), (.ref 99), (.int 301 0), (.int 57 0), (.str (Str.ofString "/claim/cut.py") 302)])) (List.toArray []))
noncomputable def o101 (P : Params) : Obj := (PySem.Obj.mk (.type "function") .none (.func (FuncData.mk (Str.ofString "times") (Str.ofString "times") fa16.1 (.stmts fb16.1) fs16.1 3 [] .none .none .none (.str (Str.ofString "heatnet.exact") 241) .none (.ref 100) .none 0)) (List.toArray []))
noncomputable def o102 (P : Params) : Obj := (PySem.Obj.mk (.type "tuple") .none (.seq (List.toArray []) 0) (List.toArray []))
noncomputable def o103 (P : Params) : Obj := (PySem.Obj.mk .none .none (.fields (List.toArray [])) (List.toArray []))
noncomputable def o104 (P : Params) : Obj := (PySem.Obj.mk (.type "tuple") .none (.seq (List.toArray [(.str (Str.ofString "a") 307), (.str (Str.ofString "b") 308)]) 0) (List.toArray []))
noncomputable def o105 (P : Params) : Obj := (PySem.Obj.mk (.type "tuple") .none (.seq (List.toArray []) 0) (List.toArray []))
noncomputable def o106 (P : Params) : Obj := (PySem.Obj.mk .none .none (.func (FuncData.mk (Str.ofString "over") (Str.ofString "over") fa17.1 (.stmts fb17.1) fs17.1 0 [] .none .none .none .none .none .none .none 0)) (List.toArray []))
noncomputable def o107 (P : Params) : Obj := (PySem.Obj.mk (.type "code") .none (.fields (List.toArray [(.str (Str.ofString "over") 304), (.str (Str.ofString "over") 305), (.str (Str.ofString "/claim/cut.py") 306), (.int 59 0), (.int 2 0), (.int 0 0), (.int 0 0), (.int 3 0), (.ref 102), (.bool .true), (.int 181 0), (.ref 103), .none, (.ref 104), (.ref 105), (.ref 106), (.int 309 0), (.int 59 0), (.str (Str.ofString "/claim/cut.py") 310)])) (List.toArray []))
noncomputable def o108 (P : Params) : Obj := (PySem.Obj.mk (.type "function") .none (.func (FuncData.mk (Str.ofString "over") (Str.ofString "over") fa17.1 (.stmts fb17.1) fs17.1 3 [] .none .none .none (.str (Str.ofString "heatnet.exact") 241) .none (.ref 107) .none 0)) (List.toArray []))
noncomputable def o109 (P : Params) : Obj := (PySem.Obj.mk (.type "tuple") .none (.seq (List.toArray []) 0) (List.toArray []))
noncomputable def o110 (P : Params) : Obj := (PySem.Obj.mk .none .none (.fields (List.toArray [])) (List.toArray []))
noncomputable def o111 (P : Params) : Obj := (PySem.Obj.mk (.type "tuple") .none (.seq (List.toArray [(.str (Str.ofString "a") 315), (.str (Str.ofString "b") 316)]) 0) (List.toArray []))
noncomputable def o112 (P : Params) : Obj := (PySem.Obj.mk (.type "tuple") .none (.seq (List.toArray []) 0) (List.toArray []))
noncomputable def o113 (P : Params) : Obj := (PySem.Obj.mk .none .none (.func (FuncData.mk (Str.ofString "less") (Str.ofString "less") fa18.1 (.stmts fb18.1) fs18.1 0 [] .none .none .none .none .none .none .none 0)) (List.toArray []))
noncomputable def o114 (P : Params) : Obj := (PySem.Obj.mk (.type "code") .none (.fields (List.toArray [(.str (Str.ofString "less") 312), (.str (Str.ofString "less") 313), (.str (Str.ofString "/claim/cut.py") 314), (.int 63 0), (.int 2 0), (.int 0 0), (.int 0 0), (.int 3 0), (.ref 109), (.bool .true), (.int 181 0), (.ref 110), .none, (.ref 111), (.ref 112), (.ref 113), (.int 317 0), (.int 63 0), (.str (Str.ofString "/claim/cut.py") 318)])) (List.toArray []))
noncomputable def o115 (P : Params) : Obj := (PySem.Obj.mk (.type "function") .none (.func (FuncData.mk (Str.ofString "less") (Str.ofString "less") fa18.1 (.stmts fb18.1) fs18.1 3 [] .none .none .none (.str (Str.ofString "heatnet.exact") 241) .none (.ref 114) .none 0)) (List.toArray []))
noncomputable def o116 (P : Params) : Obj := (PySem.Obj.mk (.type "tuple") .none (.seq (List.toArray []) 0) (List.toArray []))
noncomputable def o117 (P : Params) : Obj := (PySem.Obj.mk .none .none (.fields (List.toArray [])) (List.toArray []))
noncomputable def o118 (P : Params) : Obj := (PySem.Obj.mk (.type "tuple") .none (.seq (List.toArray [(.str (Str.ofString "row") 323), (.str (Str.ofString "out") 324), (.str (Str.ofString "one") 325)]) 0) (List.toArray []))
noncomputable def o119 (P : Params) : Obj := (PySem.Obj.mk (.type "tuple") .none (.seq (List.toArray []) 0) (List.toArray []))
noncomputable def o120 (P : Params) : Obj := (PySem.Obj.mk .none .none (.func (FuncData.mk (Str.ofString "total") (Str.ofString "total") fa19.1 (.stmts fb19.1) fs19.1 0 [] .none .none .none .none .none .none .none 0)) (List.toArray []))
noncomputable def o121 (P : Params) : Obj := (PySem.Obj.mk (.type "code") .none (.fields (List.toArray [(.str (Str.ofString "total") 320), (.str (Str.ofString "total") 321), (.str (Str.ofString "/claim/cut.py") 322), (.int 65 0), (.int 1 0), (.int 0 0), (.int 0 0), (.int 3 0), (.ref 116), (.bool .true), (.int 181 0), (.ref 117), .none, (.ref 118), (.ref 119), (.ref 120), (.int 326 0), (.int 65 0), (.str (Str.ofString "/claim/cut.py") 327)])) (List.toArray []))
noncomputable def o122 (P : Params) : Obj := (PySem.Obj.mk (.type "function") .none (.func (FuncData.mk (Str.ofString "total") (Str.ofString "total") fa19.1 (.stmts fb19.1) fs19.1 3 [] .none .none .none (.str (Str.ofString "heatnet.exact") 241) .none (.ref 121) .none 0)) (List.toArray []))
noncomputable def o123 (P : Params) : Obj := (PySem.Obj.mk (.type "tuple") .none (.seq (List.toArray []) 0) (List.toArray []))
noncomputable def o124 (P : Params) : Obj := (PySem.Obj.mk .none .none (.fields (List.toArray [])) (List.toArray []))
noncomputable def o125 (P : Params) : Obj := (PySem.Obj.mk (.type "tuple") .none (.seq (List.toArray [(.str (Str.ofString "a") 332)]) 0) (List.toArray []))
noncomputable def o126 (P : Params) : Obj := (PySem.Obj.mk (.type "tuple") .none (.seq (List.toArray []) 0) (List.toArray []))
noncomputable def o127 (P : Params) : Obj := (PySem.Obj.mk .none .none (.func (FuncData.mk (Str.ofString "up") (Str.ofString "up") fa20.1 (.stmts fb20.1) fs20.1 0 [] .none .none .none .none .none .none .none 0)) (List.toArray []))
noncomputable def o128 (P : Params) : Obj := (PySem.Obj.mk (.type "code") .none (.fields (List.toArray [(.str (Str.ofString "up") 329), (.str (Str.ofString "up") 330), (.str (Str.ofString "/claim/cut.py") 331), (.int 70 0), (.int 1 0), (.int 0 0), (.int 0 0), (.int 3 0), (.ref 123), (.bool .true), (.int 181 0), (.ref 124), .none, (.ref 125), (.ref 126), (.ref 127), (.int 333 0), (.int 70 0), (.str (Str.ofString "/claim/cut.py") 334)])) (List.toArray []))
noncomputable def o129 (P : Params) : Obj := (PySem.Obj.mk (.type "function") .none (.func (FuncData.mk (Str.ofString "up") (Str.ofString "up") fa20.1 (.stmts fb20.1) fs20.1 3 [] .none .none .none (.str (Str.ofString "heatnet.exact") 241) .none (.ref 128) .none 0)) (List.toArray []))
noncomputable def o130 (P : Params) : Obj := (PySem.Obj.mk (.type "tuple") .none (.seq (List.toArray []) 0) (List.toArray []))
noncomputable def o131 (P : Params) : Obj := (PySem.Obj.mk .none .none (.fields (List.toArray [])) (List.toArray []))
noncomputable def o132 (P : Params) : Obj := (PySem.Obj.mk (.type "tuple") .none (.seq (List.toArray [(.str (Str.ofString "a") 339)]) 0) (List.toArray []))
noncomputable def o133 (P : Params) : Obj := (PySem.Obj.mk (.type "tuple") .none (.seq (List.toArray []) 0) (List.toArray []))
noncomputable def o134 (P : Params) : Obj := (PySem.Obj.mk .none .none (.func (FuncData.mk (Str.ofString "show") (Str.ofString "show") fa21.1 (.stmts fb21.1) fs21.1 0 [] .none .none .none .none .none .none .none 0)) (List.toArray []))
noncomputable def o135 (P : Params) : Obj := (PySem.Obj.mk (.type "code") .none (.fields (List.toArray [(.str (Str.ofString "show") 336), (.str (Str.ofString "show") 337), (.str (Str.ofString "/claim/cut.py") 338), (.int 72 0), (.int 1 0), (.int 0 0), (.int 0 0), (.int 3 0), (.ref 130), (.bool .true), (.int 181 0), (.ref 131), .none, (.ref 132), (.ref 133), (.ref 134), (.int 340 0), (.int 72 0), (.str (Str.ofString "/claim/cut.py") 341)])) (List.toArray []))
noncomputable def o136 (P : Params) : Obj := (PySem.Obj.mk (.type "function") .none (.func (FuncData.mk (Str.ofString "show") (Str.ofString "show") fa21.1 (.stmts fb21.1) fs21.1 3 [] .none .none .none (.str (Str.ofString "heatnet.exact") 241) .none (.ref 135) .none 0)) (List.toArray []))
noncomputable def t1 (P : Params) : BT := (.node (boot_o_0 P) (.node (boot_o_1 P) (.node (o3v1 P) (.node (boot_o_7 P) (.node (o15 P) (.node (o31 P) (.node (o63 P) (lf (o127 P)) .nil) (lf (o95 P))) (.node (o47 P) (lf (o79 P)) (lf (o111 P)))) (.node (o23 P) (.node (o39 P) (.node (o71 P) (lf (o135 P)) .nil) (lf (o103 P))) (.node (o55 P) (lf (o87 P)) (lf (o119 P))))) (.node (o11 P) (.node (o19 P) (.node (o35 P) (.node (o67 P) (lf (o131 P)) .nil) (lf (o99 P))) (.node (o51 P) (lf (o83 P)) (lf (o115 P)))) (.node (o27 P) (.node (o43 P) (lf (o75 P)) (lf (o107 P))) (.node (o59 P) (lf (o91 P)) (lf (o123 P)))))) (.node (boot_o_5 P) (.node (boot_o_9 P) (.node (o17 P) (.node (o33 P) (.node (o65 P) (lf (o129 P)) .nil) (lf (o97 P))) (.node (o49 P) (lf (o81 P)) (lf (o113 P)))) (.node (o25 P) (.node (o41 P) (lf (o73 P)) (lf (o105 P))) (.node (o57 P) (lf (o89 P)) (lf (o121 P))))) (.node (o13 P) (.node (o21 P) (.node (o37 P) (.node (o69 P) (lf (o133 P)) .nil) (lf (o101 P))) (.node (o53 P) (lf (o85 P)) (lf (o117 P)))) (.node (o29 P) (.node (o45 P) (lf (o77 P)) (lf (o109 P))) (.node (o61 P) (lf (o93 P)) (lf (o125 P))))))) (.node (boot_o_2 P) (.node (boot_o_4 P) (.node (boot_o_8 P) (.node (o16 P) (.node (o32 P) (.node (o64 P) (lf (o128 P)) .nil) (lf (o96 P))) (.node (o48 P) (lf (o80 P)) (lf (o112 P)))) (.node (o24 P) (.node (o40 P) (.node (o72 P) (lf (o136 P)) .nil) (lf (o104 P))) (.node (o56 P) (lf (o88 P)) (lf (o120 P))))) (.node (o12v2 P) (.node (o20 P) (.node (o36 P) (.node (o68 P) (lf (o132 P)) .nil) (lf (o100 P))) (.node (o52 P) (lf (o84 P)) (lf (o116 P)))) (.node (o28 P) (.node (o44 P) (lf (o76 P)) (lf (o108 P))) (.node (o60 P) (lf (o92 P)) (lf (o124 P)))))) (.node (boot_o_6 P) (.node (boot_o_10 P) (.node (o18 P) (.node (o34 P) (.node (o66 P) (lf (o130 P)) .nil) (lf (o98 P))) (.node (o50 P) (lf (o82 P)) (lf (o114 P)))) (.node (o26 P) (.node (o42 P) (lf (o74 P)) (lf (o106 P))) (.node (o58 P) (lf (o90 P)) (lf (o122 P))))) (.node (o14 P) (.node (o22 P) (.node (o38 P) (.node (o70 P) (lf (o134 P)) .nil) (lf (o102 P))) (.node (o54 P) (lf (o86 P)) (lf (o118 P)))) (.node (o30 P) (.node (o46 P) (lf (o78 P)) (lf (o110 P))) (.node (o62 P) (lf (o94 P)) (lf (o126 P))))))))
noncomputable def t1S (P : Params) (os : OsState) : SharedT := ⟨t1 P, 137, (.mk [] [] [] 0 [] [] .false (List.toArray []) [] 0 .false .false .false 0 [2000, 10, 10] .false 0 .true [] [] 0 .false), ⟨[]⟩, (.mk 0 0 0 0), 351, os⟩
set_option maxRecDepth 100000 in
theorem pc1 (w : World) : (fun os => segRunT treeTable pw w 11 annH 1 340 (t0S (w).params os) (piecesOf (((behindTheImports pw).drop 12).take 14) envH cE ((.mk 31 0 36 12) : Pos) [topFrame qH])) = fun os => some (.next, t1S (w).params os, cE, ((.mk 77 0 77 5) : Pos)) := by
  unfold piecesOf; rw [PySem.W.Fast.te10110043849684766642, PySem.W.Fast.te14364793385576792824, PySem.W.Fast.te12563942051412417395]; kernel_rfl!
noncomputable def o3v2 (P : Params) : Obj := (PySem.Obj.mk (.type "dict") .none (.dict (List.toArray [(.mk (PySem.PyData.keyHash P (Str.ofString "__name__")) (.str (Str.ofString "__name__") 165) (.str (Str.ofString "heatnet.net") 343)), (.mk (PySem.PyData.keyHash P (Str.ofString "__doc__")) (.str (Str.ofString "__doc__") 166) .none), (.mk (PySem.PyData.keyHash P (Str.ofString "__package__")) (.str (Str.ofString "__package__") 167) .none), (.mk (PySem.PyData.keyHash P (Str.ofString "__loader__")) (.str (Str.ofString "__loader__") 168) (.builtin "__main__.__loader__#opaque")), (.mk (PySem.PyData.keyHash P (Str.ofString "__spec__")) (.str (Str.ofString "__spec__") 169) .none), (.mk (PySem.PyData.keyHash P (Str.ofString "__annotations__")) (.str (Str.ofString "__annotations__") 170) (.ref 6)), (.mk (PySem.PyData.keyHash P (Str.ofString "__builtins__")) (.str (Str.ofString "__builtins__") 171) (.ref 4)), (.mk (PySem.PyData.keyHash P (Str.ofString "__file__")) (.str (Str.ofString "__file__") 173) (.str (Str.ofString "/claim/cut.py") 172)), (.mk (PySem.PyData.keyHash P (Str.ofString "__cached__")) (.str (Str.ofString "__cached__") 174) .none), (.mk (PySem.PyData.keyHash P (Str.ofString "_wall")) (.str (Str.ofString "_wall") 193) (.ref 21)), (.mk (PySem.PyData.keyHash P (Str.ofString "HeatError")) (.str (Str.ofString "HeatError") 213) (.ref 31)), (.mk (PySem.PyData.keyHash P (Str.ofString "need_number")) (.str (Str.ofString "need_number") 223) (.ref 41)), (.mk (PySem.PyData.keyHash P (Str.ofString "shown")) (.str (Str.ofString "shown") 230) (.ref 48)), (.mk (PySem.PyData.keyHash P (Str.ofString "need_name")) (.str (Str.ofString "need_name") 240) (.ref 55)), (.mk (PySem.PyData.keyHash P (Str.ofString "FIGURES")) (.str (Str.ofString "FIGURES") 244) (.int 2000 243)), (.mk (PySem.PyData.keyHash P (Str.ofString "MOST")) (.str (Str.ofString "MOST") 247) (.int 100000000000000000000000000000000000000000000000000000000000000000000000000000000000000000000000000000000000000000000000000000000000000000000000000000000000000000000000000000000000000000000000000000000000000000000000000000000000000000000000000000000000000000000000000000000000000000000000000000000000000000000000000000000000000000000000000000000000000000000000000000000000000000000000000000000000000000000000000000000000000000000000000000000000000000000000000000000000000000000000000000000000000000000000000000000000000000000000000000000000000000000000000000000000000000000000000000000000000000000000000000000000000000000000000000000000000000000000000000000000000000000000000000000000000000000000000000000000000000000000000000000000000000000000000000000000000000000000000000000000000000000000000000000000000000000000000000000000000000000000000000000000000000000000000000000000000000000000000000000000000000000000000000000000000000000000000000000000000000000000000000000000000000000000000000000000000000000000000000000000000000000000000000000000000000000000000000000000000000000000000000000000000000000000000000000000000000000000000000000000000000000000000000000000000000000000000000000000000000000000000000000000000000000000000000000000000000000000000000000000000000000000000000000000000000000000000000000000000000000000000000000000000000000000000000000000000000000000000000000000000000000000000000000000000000000000000000000000000000000000000000000000000000000000000000000000000000000000000000000000000000000000000000000000000000000000000000000000000000000000000000000000000000000000000000000000000000000000000000000000000000000000000000000000000000000000000000000000000000000000000000000000000000000000000000000000000000000000000000000000000000000000000000000000000000000000000000000000000000000000000000000000000000000000000000000000000000000000000000000000000000000000000000000000000000000000000000000000000000000000000000000000000000000000000000000000000000000000000000000000000000000000000000000 246)), (.mk (PySem.PyData.keyHash P (Str.ofString "NOUGHT")) (.str (Str.ofString "NOUGHT") 250) (.ref 56)), (.mk (PySem.PyData.keyHash P (Str.ofString "ONE")) (.str (Str.ofString "ONE") 253) (.ref 57)), (.mk (PySem.PyData.keyHash P (Str.ofString "divisor")) (.str (Str.ofString "divisor") 261) (.ref 64)), (.mk (PySem.PyData.keyHash P (Str.ofString "frac")) (.str (Str.ofString "frac") 271) (.ref 72)), (.mk (PySem.PyData.keyHash P (Str.ofString "need")) (.str (Str.ofString "need") 279) (.ref 80)), (.mk (PySem.PyData.keyHash P (Str.ofString "plus")) (.str (Str.ofString "plus") 287) (.ref 87)), (.mk (PySem.PyData.keyHash P (Str.ofString "minus")) (.str (Str.ofString "minus") 295) (.ref 94)), (.mk (PySem.PyData.keyHash P (Str.ofString "times")) (.str (Str.ofString "times") 303) (.ref 101)), (.mk (PySem.PyData.keyHash P (Str.ofString "over")) (.str (Str.ofString "over") 311) (.ref 108)), (.mk (PySem.PyData.keyHash P (Str.ofString "less")) (.str (Str.ofString "less") 319) (.ref 115)), (.mk (PySem.PyData.keyHash P (Str.ofString "total")) (.str (Str.ofString "total") 328) (.ref 122)), (.mk (PySem.PyData.keyHash P (Str.ofString "up")) (.str (Str.ofString "up") 335) (.ref 129)), (.mk (PySem.PyData.keyHash P (Str.ofString "show")) (.str (Str.ofString "show") 342) (.ref 136)), (.mk (PySem.PyData.keyHash P (Str.ofString "JOINTS")) (.str (Str.ofString "JOINTS") 346) (.int 60 345)), (.mk (PySem.PyData.keyHash P (Str.ofString "PIPES")) (.str (Str.ofString "PIPES") 348) (.int 90 347)), (.mk (PySem.PyData.keyHash P (Str.ofString "HOURS")) (.str (Str.ofString "HOURS") 350) (.int 24 349)), (.mk (PySem.PyData.keyHash P (Str.ofString "Pipe")) (.str (Str.ofString "Pipe") 392) (.ref 153))]) 33) (List.toArray []))
noncomputable def o12v3 (P : Params) : Obj := (PySem.Obj.mk .none .none (.fields (List.toArray ((.int 1 0) :: (.int 0 0) :: (.ref 20) :: (.int 5 0) :: (.int 0 0) :: (.ref 27) :: (.int 7 0) :: (.int 0 0) :: (.ref 40) :: (.int 11 0) :: (.int 0 0) :: (.ref 47) :: (.int 17 0) :: (.int 0 0) :: (.ref 54) :: (.int 31 0) :: (.int 0 0) :: (.ref 63) :: (.int 37 0) :: (.int 0 0) :: (.ref 71) :: (.int 47 0) :: (.int 0 0) :: (.ref 79) :: (.int 53 0) :: (.int 0 0) :: (.ref 86) :: (.int 55 0) :: (.int 0 0) :: (.ref 93) :: (.int 57 0) :: (.int 0 0) :: (.ref 100) :: (.int 59 0) :: (.int 0 0) :: (.ref 107) :: (.int 63 0) :: (.int 0 0) :: (.ref 114) :: (.int 65 0) :: (.int 0 0) :: (.ref 121) :: (.int 70 0) :: (.int 0 0) :: (.ref 128) :: (.int 72 0) :: (.int 0 0) :: (.ref 135) :: (.int 78 0) :: (.int 0 0) :: (.ref 142) :: []))) (List.toArray []))
noncomputable def o137 (P : Params) : Obj := (PySem.Obj.mk (.type "tuple") .none (.seq (List.toArray []) 0) (List.toArray []))
noncomputable def o138 (P : Params) : Obj := (PySem.Obj.mk (.type "builtin_function_or_method") .none (.fields (List.toArray [(.builtin "type.__prepare__"), (.type "type")])) (List.toArray []))
noncomputable def o139 (P : Params) : Obj := (PySem.Obj.mk (.type "dict") .none (.dict (List.toArray [(.mk (PySem.PyData.keyHash P (Str.ofString "__module__")) (.str (Str.ofString "__module__") 358) (.str (Str.ofString "heatnet.net") 343)), (.mk (PySem.PyData.keyHash P (Str.ofString "__qualname__")) (.str (Str.ofString "__qualname__") 360) (.str (Str.ofString "Pipe") 359)), (.mk (PySem.PyData.keyHash P (Str.ofString "__firstlineno__")) (.str (Str.ofString "__firstlineno__") 362) (.int 78 361)), (.mk (PySem.PyData.keyHash P (Str.ofString "__init__")) (.str (Str.ofString "__init__") 376) (.ref 150)), (.mk (PySem.PyData.keyHash P (Str.ofString "__static_attributes__")) (.str (Str.ofString "__static_attributes__") 385) (.ref 151))]) 5) (List.toArray []))
noncomputable def o140 (P : Params) : Obj := (PySem.Obj.mk (.type "tuple") .none (.seq (List.toArray []) 0) (List.toArray []))
noncomputable def o141 (P : Params) : Obj := (PySem.Obj.mk .none .none (.fields (List.toArray [(.int 80 0), (.int 4 0), (.ref 149)])) (List.toArray []))
noncomputable def o142 (P : Params) : Obj := (PySem.Obj.mk (.type "code") .none (.fields (List.toArray [(.str (Str.ofString "Pipe") 353), (.str (Str.ofString "Pipe") 354), (.str (Str.ofString "/claim/cut.py") 355), (.int 78 0), (.int 0 0), (.int 0 0), (.int 0 0), (.int 0 0), (.ref 140), (.bool .false), (.int 181 0), (.ref 141), .none, .none, .none, .none, (.int 356 0), (.int 78 0), (.str (Str.ofString "/claim/cut.py") 357)])) (List.toArray []))
noncomputable def o143 (P : Params) : Obj := (PySem.Obj.mk (.type "frame") .none .plain (List.toArray [(.some (.ref 142)), (.some (.ref 3)), (.some (.ref 139)), .none, (.some (.str (Str.ofString "heatnet.net") 343)), .none, (.some (.ref 0))]))
noncomputable def o144 (P : Params) : Obj := (PySem.Obj.mk (.type "tuple") .none (.seq (List.toArray []) 0) (List.toArray []))
noncomputable def o145 (P : Params) : Obj := (PySem.Obj.mk .none .none (.fields (List.toArray [])) (List.toArray []))
noncomputable def o146 (P : Params) : Obj := (PySem.Obj.mk (.type "tuple") .none (.seq (List.toArray [(.str (Str.ofString "self") 366), (.str (Str.ofString "name") 367), (.str (Str.ofString "start") 368), (.str (Str.ofString "end") 369), (.str (Str.ofString "length") 370), (.str (Str.ofString "resistance") 371), (.str (Str.ofString "loss") 372), (.str (Str.ofString "litres") 373)]) 0) (List.toArray []))
noncomputable def o147 (P : Params) : Obj := (PySem.Obj.mk (.type "tuple") .none (.seq (List.toArray []) 0) (List.toArray []))
noncomputable def o148 (P : Params) : Obj := (PySem.Obj.mk .none .none (.func (FuncData.mk (Str.ofString "__init__") (Str.ofString "Pipe.__init__") fa26_0.1 (.stmts fb26_0.1) fs26_0.1 0 [] .none .none .none .none .none .none .none 0)) (List.toArray []))
noncomputable def o149 (P : Params) : Obj := (PySem.Obj.mk (.type "code") .none (.fields (List.toArray [(.str (Str.ofString "__init__") 363), (.str (Str.ofString "Pipe.__init__") 364), (.str (Str.ofString "/claim/cut.py") 365), (.int 80 0), (.int 8 0), (.int 0 0), (.int 0 0), (.int 3 0), (.ref 144), (.bool .true), (.int 181 0), (.ref 145), .none, (.ref 146), (.ref 147), (.ref 148), (.int 374 0), (.int 80 0), (.str (Str.ofString "/claim/cut.py") 375)])) (List.toArray []))
noncomputable def o150 (P : Params) : Obj := (PySem.Obj.mk (.type "function") .none (.func (FuncData.mk (Str.ofString "__init__") (Str.ofString "Pipe.__init__") fa26_0.1 (.stmts fb26_0.1) fs26_0.1 3 [] .none .none .none (.str (Str.ofString "heatnet.net") 343) .none (.ref 149) .none 0)) (List.toArray []))
noncomputable def o151 (P : Params) : Obj := (PySem.Obj.mk (.type "tuple") .none (.seq (List.toArray [(.str (Str.ofString "end") 377), (.str (Str.ofString "length") 378), (.str (Str.ofString "litres") 379), (.str (Str.ofString "loss") 380), (.str (Str.ofString "name") 381), (.str (Str.ofString "open") 382), (.str (Str.ofString "resistance") 383), (.str (Str.ofString "start") 384)]) 0) (List.toArray []))
noncomputable def o152 (P : Params) : Obj := (PySem.Obj.mk (.type "dict") .none (.dict (List.toArray [(.mk (PySem.PyData.keyHash P (Str.ofString "__module__")) (.str (Str.ofString "__module__") 358) (.str (Str.ofString "heatnet.net") 343)), (.mk (PySem.PyData.keyHash P (Str.ofString "__firstlineno__")) (.str (Str.ofString "__firstlineno__") 362) (.int 78 361)), (.mk (PySem.PyData.keyHash P (Str.ofString "__init__")) (.str (Str.ofString "__init__") 376) (.ref 150)), (.mk (PySem.PyData.keyHash P (Str.ofString "__static_attributes__")) (.str (Str.ofString "__static_attributes__") 385) (.ref 151)), (.mk (PySem.PyData.keyHash P (Str.ofString "__dict__")) (.str (Str.ofString "__dict__") 387) (.ref 154)), (.mk (PySem.PyData.keyHash P (Str.ofString "__weakref__")) (.str (Str.ofString "__weakref__") 389) (.ref 155)), (.mk (PySem.PyData.keyHash P (Str.ofString "__doc__")) (.str (Str.ofString "__doc__") 390) .none)]) 4) (List.toArray []))
noncomputable def o153 (P : Params) : Obj := (PySem.Obj.mk (.type "type") .none (.cls (.mk (Str.ofString "Pipe") [(.type "object")] [(.ref 153), (.type "object")] 152 (Str.ofString "Pipe") .true [] [] .false .none .false)) (List.toArray [.none, .none, (.some (.str (Str.ofString "Pipe") 351)), (.some (.str (Str.ofString "Pipe") 359)), (.some (.builtin "object.__new__")), (.some (.bool .true))]))
noncomputable def o154 (P : Params) : Obj := (PySem.Obj.mk (.type "getset_descriptor") .none (.fields (List.toArray [(.str (Str.ofString "__dict__") 386), (.ref 153), (.builtin "function.__dict__"), (.builtin "function.__dict__#set")])) (List.toArray []))
noncomputable def o155 (P : Params) : Obj := (PySem.Obj.mk (.type "getset_descriptor") .none (.fields (List.toArray [(.str (Str.ofString "__weakref__") 388), (.ref 153), (.builtin "ExceptionGroup.__weakref__"), .none])) (List.toArray []))
noncomputable def o156 (P : Params) : Obj := (PySem.Obj.mk (.type "super") .none (.fields (List.toArray [(.ref 153), (.ref 153), (.ref 153)])) (List.toArray []))
noncomputable def o157 (P : Params) : Obj := (PySem.Obj.mk (.type "builtin_function_or_method") .none (.fields (List.toArray [(.builtin "object.__init_subclass__"), (.ref 153)])) (List.toArray []))
noncomputable def t2 (P : Params) : BT := (.node (boot_o_0 P) (.node (boot_o_1 P) (.node (o3v2 P) (.node (boot_o_7 P) (.node (o15 P) (.node (o31 P) (.node (o63 P) (lf (o127 P)) .nil) (lf (o95 P))) (.node (o47 P) (.node (o79 P) (lf (o143 P)) .nil) (lf (o111 P)))) (.node (o23 P) (.node (o39 P) (.node (o71 P) (lf (o135 P)) .nil) (lf (o103 P))) (.node (o55 P) (.node (o87 P) (lf (o151 P)) .nil) (lf (o119 P))))) (.node (o11 P) (.node (o19 P) (.node (o35 P) (.node (o67 P) (lf (o131 P)) .nil) (lf (o99 P))) (.node (o51 P) (.node (o83 P) (lf (o147 P)) .nil) (lf (o115 P)))) (.node (o27 P) (.node (o43 P) (.node (o75 P) (lf (o139 P)) .nil) (lf (o107 P))) (.node (o59 P) (.node (o91 P) (lf (o155 P)) .nil) (lf (o123 P)))))) (.node (boot_o_5 P) (.node (boot_o_9 P) (.node (o17 P) (.node (o33 P) (.node (o65 P) (lf (o129 P)) .nil) (lf (o97 P))) (.node (o49 P) (.node (o81 P) (lf (o145 P)) .nil) (lf (o113 P)))) (.node (o25 P) (.node (o41 P) (.node (o73 P) (lf (o137 P)) .nil) (lf (o105 P))) (.node (o57 P) (.node (o89 P) (lf (o153 P)) .nil) (lf (o121 P))))) (.node (o13 P) (.node (o21 P) (.node (o37 P) (.node (o69 P) (lf (o133 P)) .nil) (lf (o101 P))) (.node (o53 P) (.node (o85 P) (lf (o149 P)) .nil) (lf (o117 P)))) (.node (o29 P) (.node (o45 P) (.node (o77 P) (lf (o141 P)) .nil) (lf (o109 P))) (.node (o61 P) (.node (o93 P) (lf (o157 P)) .nil) (lf (o125 P))))))) (.node (boot_o_2 P) (.node (boot_o_4 P) (.node (boot_o_8 P) (.node (o16 P) (.node (o32 P) (.node (o64 P) (lf (o128 P)) .nil) (lf (o96 P))) (.node (o48 P) (.node (o80 P) (lf (o144 P)) .nil) (lf (o112 P)))) (.node (o24 P) (.node (o40 P) (.node (o72 P) (lf (o136 P)) .nil) (lf (o104 P))) (.node (o56 P) (.node (o88 P) (lf (o152 P)) .nil) (lf (o120 P))))) (.node (o12v3 P) (.node (o20 P) (.node (o36 P) (.node (o68 P) (lf (o132 P)) .nil) (lf (o100 P))) (.node (o52 P) (.node (o84 P) (lf (o148 P)) .nil) (lf (o116 P)))) (.node (o28 P) (.node (o44 P) (.node (o76 P) (lf (o140 P)) .nil) (lf (o108 P))) (.node (o60 P) (.node (o92 P) (lf (o156 P)) .nil) (lf (o124 P)))))) (.node (boot_o_6 P) (.node (boot_o_10 P) (.node (o18 P) (.node (o34 P) (.node (o66 P) (lf (o130 P)) .nil) (lf (o98 P))) (.node (o50 P) (.node (o82 P) (lf (o146 P)) .nil) (lf (o114 P)))) (.node (o26 P) (.node (o42 P) (.node (o74 P) (lf (o138 P)) .nil) (lf (o106 P))) (.node (o58 P) (.node (o90 P) (lf (o154 P)) .nil) (lf (o122 P))))) (.node (o14 P) (.node (o22 P) (.node (o38 P) (.node (o70 P) (lf (o134 P)) .nil) (lf (o102 P))) (.node (o54 P) (.node (o86 P) (lf (o150 P)) .nil) (lf (o118 P)))) (.node (o30 P) (.node (o46 P) (.node (o78 P) (lf (o142 P)) .nil) (lf (o110 P))) (.node (o62 P) (lf (o94 P)) (lf (o126 P))))))))
noncomputable def t2S (P : Params) (os : OsState) : SharedT := ⟨t2 P, 158, (.mk [] [] [] 0 [] [] .false (List.toArray []) [] 0 .false .false .false 0 [2000, 10, 10] .false 0 .true [] [] 0 .false), ⟨[]⟩, (.mk 0 0 0 0), 393, os⟩
set_option maxRecDepth 100000 in
theorem pc2 (w : World) : (fun os => segRunT treeTable pw w 11 annH 1 236 (t1S (w).params os) (piecesOf (((behindTheImports pw).drop 26).take 1) envH cE ((.mk 77 0 77 5) : Pos) [topFrame qH])) = fun os => some (.next, t2S (w).params os, cE, ((.mk 78 0 88 24) : Pos)) := by
  unfold piecesOf; rw [PySem.W.Fast.te10110043849684766642, PySem.W.Fast.te14364793385576792824, PySem.W.Fast.te12563942051412417395]; kernel_rfl!
noncomputable def o3v3 (P : Params) : Obj := (PySem.Obj.mk (.type "dict") .none (.dict (List.toArray [(.mk (PySem.PyData.keyHash P (Str.ofString "__name__")) (.str (Str.ofString "__name__") 165) (.str (Str.ofString "heatnet.net") 343)), (.mk (PySem.PyData.keyHash P (Str.ofString "__doc__")) (.str (Str.ofString "__doc__") 166) .none), (.mk (PySem.PyData.keyHash P (Str.ofString "__package__")) (.str (Str.ofString "__package__") 167) .none), (.mk (PySem.PyData.keyHash P (Str.ofString "__loader__")) (.str (Str.ofString "__loader__") 168) (.builtin "__main__.__loader__#opaque")), (.mk (PySem.PyData.keyHash P (Str.ofString "__spec__")) (.str (Str.ofString "__spec__") 169) .none), (.mk (PySem.PyData.keyHash P (Str.ofString "__annotations__")) (.str (Str.ofString "__annotations__") 170) (.ref 6)), (.mk (PySem.PyData.keyHash P (Str.ofString "__builtins__")) (.str (Str.ofString "__builtins__") 171) (.ref 4)), (.mk (PySem.PyData.keyHash P (Str.ofString "__file__")) (.str (Str.ofString "__file__") 173) (.str (Str.ofString "/claim/cut.py") 172)), (.mk (PySem.PyData.keyHash P (Str.ofString "__cached__")) (.str (Str.ofString "__cached__") 174) .none), (.mk (PySem.PyData.keyHash P (Str.ofString "_wall")) (.str (Str.ofString "_wall") 193) (.ref 21)), (.mk (PySem.PyData.keyHash P (Str.ofString "HeatError")) (.str (Str.ofString "HeatError") 213) (.ref 31)), (.mk (PySem.PyData.keyHash P (Str.ofString "need_number")) (.str (Str.ofString "need_number") 223) (.ref 41)), (.mk (PySem.PyData.keyHash P (Str.ofString "shown")) (.str (Str.ofString "shown") 230) (.ref 48)), (.mk (PySem.PyData.keyHash P (Str.ofString "need_name")) (.str (Str.ofString "need_name") 240) (.ref 55)), (.mk (PySem.PyData.keyHash P (Str.ofString "FIGURES")) (.str (Str.ofString "FIGURES") 244) (.int 2000 243)), (.mk (PySem.PyData.keyHash P (Str.ofString "MOST")) (.str (Str.ofString "MOST") 247) (.int 100000000000000000000000000000000000000000000000000000000000000000000000000000000000000000000000000000000000000000000000000000000000000000000000000000000000000000000000000000000000000000000000000000000000000000000000000000000000000000000000000000000000000000000000000000000000000000000000000000000000000000000000000000000000000000000000000000000000000000000000000000000000000000000000000000000000000000000000000000000000000000000000000000000000000000000000000000000000000000000000000000000000000000000000000000000000000000000000000000000000000000000000000000000000000000000000000000000000000000000000000000000000000000000000000000000000000000000000000000000000000000000000000000000000000000000000000000000000000000000000000000000000000000000000000000000000000000000000000000000000000000000000000000000000000000000000000000000000000000000000000000000000000000000000000000000000000000000000000000000000000000000000000000000000000000000000000000000000000000000000000000000000000000000000000000000000000000000000000000000000000000000000000000000000000000000000000000000000000000000000000000000000000000000000000000000000000000000000000000000000000000000000000000000000000000000000000000000000000000000000000000000000000000000000000000000000000000000000000000000000000000000000000000000000000000000000000000000000000000000000000000000000000000000000000000000000000000000000000000000000000000000000000000000000000000000000000000000000000000000000000000000000000000000000000000000000000000000000000000000000000000000000000000000000000000000000000000000000000000000000000000000000000000000000000000000000000000000000000000000000000000000000000000000000000000000000000000000000000000000000000000000000000000000000000000000000000000000000000000000000000000000000000000000000000000000000000000000000000000000000000000000000000000000000000000000000000000000000000000000000000000000000000000000000000000000000000000000000000000000000000000000000000000000000000000000000000000000000000000000000000000000000000000000 246)), (.mk (PySem.PyData.keyHash P (Str.ofString "NOUGHT")) (.str (Str.ofString "NOUGHT") 250) (.ref 56)), (.mk (PySem.PyData.keyHash P (Str.ofString "ONE")) (.str (Str.ofString "ONE") 253) (.ref 57)), (.mk (PySem.PyData.keyHash P (Str.ofString "divisor")) (.str (Str.ofString "divisor") 261) (.ref 64)), (.mk (PySem.PyData.keyHash P (Str.ofString "frac")) (.str (Str.ofString "frac") 271) (.ref 72)), (.mk (PySem.PyData.keyHash P (Str.ofString "need")) (.str (Str.ofString "need") 279) (.ref 80)), (.mk (PySem.PyData.keyHash P (Str.ofString "plus")) (.str (Str.ofString "plus") 287) (.ref 87)), (.mk (PySem.PyData.keyHash P (Str.ofString "minus")) (.str (Str.ofString "minus") 295) (.ref 94)), (.mk (PySem.PyData.keyHash P (Str.ofString "times")) (.str (Str.ofString "times") 303) (.ref 101)), (.mk (PySem.PyData.keyHash P (Str.ofString "over")) (.str (Str.ofString "over") 311) (.ref 108)), (.mk (PySem.PyData.keyHash P (Str.ofString "less")) (.str (Str.ofString "less") 319) (.ref 115)), (.mk (PySem.PyData.keyHash P (Str.ofString "total")) (.str (Str.ofString "total") 328) (.ref 122)), (.mk (PySem.PyData.keyHash P (Str.ofString "up")) (.str (Str.ofString "up") 335) (.ref 129)), (.mk (PySem.PyData.keyHash P (Str.ofString "show")) (.str (Str.ofString "show") 342) (.ref 136)), (.mk (PySem.PyData.keyHash P (Str.ofString "JOINTS")) (.str (Str.ofString "JOINTS") 346) (.int 60 345)), (.mk (PySem.PyData.keyHash P (Str.ofString "PIPES")) (.str (Str.ofString "PIPES") 348) (.int 90 347)), (.mk (PySem.PyData.keyHash P (Str.ofString "HOURS")) (.str (Str.ofString "HOURS") 350) (.int 24 349)), (.mk (PySem.PyData.keyHash P (Str.ofString "Pipe")) (.str (Str.ofString "Pipe") 392) (.ref 153)), (.mk (PySem.PyData.keyHash P (Str.ofString "Consumer")) (.str (Str.ofString "Consumer") 437) (.ref 181))]) 34) (List.toArray []))
noncomputable def o12v4 (P : Params) : Obj := (PySem.Obj.mk .none .none (.fields (List.toArray ((.int 1 0) :: (.int 0 0) :: (.ref 20) :: (.int 5 0) :: (.int 0 0) :: (.ref 27) :: (.int 7 0) :: (.int 0 0) :: (.ref 40) :: (.int 11 0) :: (.int 0 0) :: (.ref 47) :: (.int 17 0) :: (.int 0 0) :: (.ref 54) :: (.int 31 0) :: (.int 0 0) :: (.ref 63) :: (.int 37 0) :: (.int 0 0) :: (.ref 71) :: (.int 47 0) :: (.int 0 0) :: (.ref 79) :: (.int 53 0) :: (.int 0 0) :: (.ref 86) :: (.int 55 0) :: (.int 0 0) :: (.ref 93) :: (.int 57 0) :: (.int 0 0) :: (.ref 100) :: (.int 59 0) :: (.int 0 0) :: (.ref 107) :: (.int 63 0) :: (.int 0 0) :: (.ref 114) :: (.int 65 0) :: (.int 0 0) :: (.ref 121) :: (.int 70 0) :: (.int 0 0) :: (.ref 128) :: (.int 72 0) :: (.int 0 0) :: (.ref 135) :: (.int 78 0) :: (.int 0 0) :: (.ref 142) :: (.int 89 0) :: (.int 0 0) :: (.ref 163) :: []))) (List.toArray []))
noncomputable def o158 (P : Params) : Obj := (PySem.Obj.mk (.type "tuple") .none (.seq (List.toArray []) 0) (List.toArray []))
noncomputable def o159 (P : Params) : Obj := (PySem.Obj.mk (.type "builtin_function_or_method") .none (.fields (List.toArray [(.builtin "type.__prepare__"), (.type "type")])) (List.toArray []))
noncomputable def o160 (P : Params) : Obj := (PySem.Obj.mk (.type "dict") .none (.dict (List.toArray [(.mk (PySem.PyData.keyHash P (Str.ofString "__module__")) (.str (Str.ofString "__module__") 400) (.str (Str.ofString "heatnet.net") 343)), (.mk (PySem.PyData.keyHash P (Str.ofString "__qualname__")) (.str (Str.ofString "__qualname__") 402) (.str (Str.ofString "Consumer") 401)), (.mk (PySem.PyData.keyHash P (Str.ofString "__firstlineno__")) (.str (Str.ofString "__firstlineno__") 404) (.int 89 403)), (.mk (PySem.PyData.keyHash P (Str.ofString "__init__")) (.str (Str.ofString "__init__") 416) (.ref 171)), (.mk (PySem.PyData.keyHash P (Str.ofString "flow")) (.str (Str.ofString "flow") 424) (.ref 178)), (.mk (PySem.PyData.keyHash P (Str.ofString "__static_attributes__")) (.str (Str.ofString "__static_attributes__") 430) (.ref 179))]) 6) (List.toArray []))
noncomputable def o161 (P : Params) : Obj := (PySem.Obj.mk (.type "tuple") .none (.seq (List.toArray []) 0) (List.toArray []))
noncomputable def o162 (P : Params) : Obj := (PySem.Obj.mk .none .none (.fields (List.toArray [(.int 91 0), (.int 4 0), (.ref 170), (.int 98 0), (.int 4 0), (.ref 177)])) (List.toArray []))
noncomputable def o163 (P : Params) : Obj := (PySem.Obj.mk (.type "code") .none (.fields (List.toArray [(.str (Str.ofString "Consumer") 395), (.str (Str.ofString "Consumer") 396), (.str (Str.ofString "/claim/cut.py") 397), (.int 89 0), (.int 0 0), (.int 0 0), (.int 0 0), (.int 0 0), (.ref 161), (.bool .false), (.int 181 0), (.ref 162), .none, .none, .none, .none, (.int 398 0), (.int 89 0), (.str (Str.ofString "/claim/cut.py") 399)])) (List.toArray []))
noncomputable def o164 (P : Params) : Obj := (PySem.Obj.mk (.type "frame") .none .plain (List.toArray [(.some (.ref 163)), (.some (.ref 3)), (.some (.ref 160)), .none, (.some (.str (Str.ofString "heatnet.net") 343)), .none, (.some (.ref 0))]))
noncomputable def o165 (P : Params) : Obj := (PySem.Obj.mk (.type "tuple") .none (.seq (List.toArray []) 0) (List.toArray []))
noncomputable def o166 (P : Params) : Obj := (PySem.Obj.mk .none .none (.fields (List.toArray [])) (List.toArray []))
noncomputable def o167 (P : Params) : Obj := (PySem.Obj.mk (.type "tuple") .none (.seq (List.toArray [(.str (Str.ofString "self") 408), (.str (Str.ofString "name") 409), (.str (Str.ofString "joint") 410), (.str (Str.ofString "demands") 411), (.str (Str.ofString "drop") 412), (.str (Str.ofString "least") 413)]) 0) (List.toArray []))
noncomputable def o168 (P : Params) : Obj := (PySem.Obj.mk (.type "tuple") .none (.seq (List.toArray []) 0) (List.toArray []))
noncomputable def o169 (P : Params) : Obj := (PySem.Obj.mk .none .none (.func (FuncData.mk (Str.ofString "__init__") (Str.ofString "Consumer.__init__") fa27_0.1 (.stmts fb27_0.1) fs27_0.1 0 [] .none .none .none .none .none .none .none 0)) (List.toArray []))
noncomputable def o170 (P : Params) : Obj := (PySem.Obj.mk (.type "code") .none (.fields (List.toArray [(.str (Str.ofString "__init__") 405), (.str (Str.ofString "Consumer.__init__") 406), (.str (Str.ofString "/claim/cut.py") 407), (.int 91 0), (.int 6 0), (.int 0 0), (.int 0 0), (.int 3 0), (.ref 165), (.bool .true), (.int 181 0), (.ref 166), .none, (.ref 167), (.ref 168), (.ref 169), (.int 414 0), (.int 91 0), (.str (Str.ofString "/claim/cut.py") 415)])) (List.toArray []))
noncomputable def o171 (P : Params) : Obj := (PySem.Obj.mk (.type "function") .none (.func (FuncData.mk (Str.ofString "__init__") (Str.ofString "Consumer.__init__") fa27_0.1 (.stmts fb27_0.1) fs27_0.1 3 [] .none .none .none (.str (Str.ofString "heatnet.net") 343) .none (.ref 170) .none 0)) (List.toArray []))
noncomputable def o172 (P : Params) : Obj := (PySem.Obj.mk (.type "tuple") .none (.seq (List.toArray []) 0) (List.toArray []))
noncomputable def o173 (P : Params) : Obj := (PySem.Obj.mk .none .none (.fields (List.toArray [])) (List.toArray []))
noncomputable def o174 (P : Params) : Obj := (PySem.Obj.mk (.type "tuple") .none (.seq (List.toArray [(.str (Str.ofString "self") 420), (.str (Str.ofString "hour") 421)]) 0) (List.toArray []))
noncomputable def o175 (P : Params) : Obj := (PySem.Obj.mk (.type "tuple") .none (.seq (List.toArray []) 0) (List.toArray []))
noncomputable def o176 (P : Params) : Obj := (PySem.Obj.mk .none .none (.func (FuncData.mk (Str.ofString "flow") (Str.ofString "Consumer.flow") fa27_1.1 (.stmts fb27_1.1) fs27_1.1 0 [] .none .none .none .none .none .none .none 0)) (List.toArray []))
noncomputable def o177 (P : Params) : Obj := (PySem.Obj.mk (.type "code") .none (.fields (List.toArray [(.str (Str.ofString "flow") 417), (.str (Str.ofString "Consumer.flow") 418), (.str (Str.ofString "/claim/cut.py") 419), (.int 98 0), (.int 2 0), (.int 0 0), (.int 0 0), (.int 3 0), (.ref 172), (.bool .true), (.int 181 0), (.ref 173), .none, (.ref 174), (.ref 175), (.ref 176), (.int 422 0), (.int 98 0), (.str (Str.ofString "/claim/cut.py") 423)])) (List.toArray []))
noncomputable def o178 (P : Params) : Obj := (PySem.Obj.mk (.type "function") .none (.func (FuncData.mk (Str.ofString "flow") (Str.ofString "Consumer.flow") fa27_1.1 (.stmts fb27_1.1) fs27_1.1 3 [] .none .none .none (.str (Str.ofString "heatnet.net") 343) .none (.ref 177) .none 0)) (List.toArray []))
noncomputable def o179 (P : Params) : Obj := (PySem.Obj.mk (.type "tuple") .none (.seq (List.toArray [(.str (Str.ofString "demands") 425), (.str (Str.ofString "drop") 426), (.str (Str.ofString "joint") 427), (.str (Str.ofString "least") 428), (.str (Str.ofString "name") 429)]) 0) (List.toArray []))
noncomputable def o180 (P : Params) : Obj := (PySem.Obj.mk (.type "dict") .none (.dict (List.toArray [(.mk (PySem.PyData.keyHash P (Str.ofString "__module__")) (.str (Str.ofString "__module__") 400) (.str (Str.ofString "heatnet.net") 343)), (.mk (PySem.PyData.keyHash P (Str.ofString "__firstlineno__")) (.str (Str.ofString "__firstlineno__") 404) (.int 89 403)), (.mk (PySem.PyData.keyHash P (Str.ofString "__init__")) (.str (Str.ofString "__init__") 416) (.ref 171)), (.mk (PySem.PyData.keyHash P (Str.ofString "flow")) (.str (Str.ofString "flow") 424) (.ref 178)), (.mk (PySem.PyData.keyHash P (Str.ofString "__static_attributes__")) (.str (Str.ofString "__static_attributes__") 430) (.ref 179)), (.mk (PySem.PyData.keyHash P (Str.ofString "__dict__")) (.str (Str.ofString "__dict__") 432) (.ref 182)), (.mk (PySem.PyData.keyHash P (Str.ofString "__weakref__")) (.str (Str.ofString "__weakref__") 434) (.ref 183)), (.mk (PySem.PyData.keyHash P (Str.ofString "__doc__")) (.str (Str.ofString "__doc__") 435) .none)]) 4) (List.toArray []))
noncomputable def o181 (P : Params) : Obj := (PySem.Obj.mk (.type "type") .none (.cls (.mk (Str.ofString "Consumer") [(.type "object")] [(.ref 181), (.type "object")] 180 (Str.ofString "Consumer") .true [] [] .false .none .false)) (List.toArray [.none, .none, (.some (.str (Str.ofString "Consumer") 393)), (.some (.str (Str.ofString "Consumer") 401)), (.some (.builtin "object.__new__")), (.some (.bool .true))]))
noncomputable def o182 (P : Params) : Obj := (PySem.Obj.mk (.type "getset_descriptor") .none (.fields (List.toArray [(.str (Str.ofString "__dict__") 431), (.ref 181), (.builtin "function.__dict__"), (.builtin "function.__dict__#set")])) (List.toArray []))
noncomputable def o183 (P : Params) : Obj := (PySem.Obj.mk (.type "getset_descriptor") .none (.fields (List.toArray [(.str (Str.ofString "__weakref__") 433), (.ref 181), (.builtin "ExceptionGroup.__weakref__"), .none])) (List.toArray []))
noncomputable def o184 (P : Params) : Obj := (PySem.Obj.mk (.type "super") .none (.fields (List.toArray [(.ref 181), (.ref 181), (.ref 181)])) (List.toArray []))
noncomputable def o185 (P : Params) : Obj := (PySem.Obj.mk (.type "builtin_function_or_method") .none (.fields (List.toArray [(.builtin "object.__init_subclass__"), (.ref 181)])) (List.toArray []))
noncomputable def t3 (P : Params) : BT := (.node (boot_o_0 P) (.node (boot_o_1 P) (.node (o3v3 P) (.node (boot_o_7 P) (.node (o15 P) (.node (o31 P) (.node (o63 P) (lf (o127 P)) .nil) (.node (o95 P) (lf (o159 P)) .nil)) (.node (o47 P) (.node (o79 P) (lf (o143 P)) .nil) (.node (o111 P) (lf (o175 P)) .nil))) (.node (o23 P) (.node (o39 P) (.node (o71 P) (lf (o135 P)) .nil) (.node (o103 P) (lf (o167 P)) .nil)) (.node (o55 P) (.node (o87 P) (lf (o151 P)) .nil) (.node (o119 P) (lf (o183 P)) .nil)))) (.node (o11 P) (.node (o19 P) (.node (o35 P) (.node (o67 P) (lf (o131 P)) .nil) (.node (o99 P) (lf (o163 P)) .nil)) (.node (o51 P) (.node (o83 P) (lf (o147 P)) .nil) (.node (o115 P) (lf (o179 P)) .nil))) (.node (o27 P) (.node (o43 P) (.node (o75 P) (lf (o139 P)) .nil) (.node (o107 P) (lf (o171 P)) .nil)) (.node (o59 P) (.node (o91 P) (lf (o155 P)) .nil) (lf (o123 P)))))) (.node (boot_o_5 P) (.node (boot_o_9 P) (.node (o17 P) (.node (o33 P) (.node (o65 P) (lf (o129 P)) .nil) (.node (o97 P) (lf (o161 P)) .nil)) (.node (o49 P) (.node (o81 P) (lf (o145 P)) .nil) (.node (o113 P) (lf (o177 P)) .nil))) (.node (o25 P) (.node (o41 P) (.node (o73 P) (lf (o137 P)) .nil) (.node (o105 P) (lf (o169 P)) .nil)) (.node (o57 P) (.node (o89 P) (lf (o153 P)) .nil) (.node (o121 P) (lf (o185 P)) .nil)))) (.node (o13 P) (.node (o21 P) (.node (o37 P) (.node (o69 P) (lf (o133 P)) .nil) (.node (o101 P) (lf (o165 P)) .nil)) (.node (o53 P) (.node (o85 P) (lf (o149 P)) .nil) (.node (o117 P) (lf (o181 P)) .nil))) (.node (o29 P) (.node (o45 P) (.node (o77 P) (lf (o141 P)) .nil) (.node (o109 P) (lf (o173 P)) .nil)) (.node (o61 P) (.node (o93 P) (lf (o157 P)) .nil) (lf (o125 P))))))) (.node (boot_o_2 P) (.node (boot_o_4 P) (.node (boot_o_8 P) (.node (o16 P) (.node (o32 P) (.node (o64 P) (lf (o128 P)) .nil) (.node (o96 P) (lf (o160 P)) .nil)) (.node (o48 P) (.node (o80 P) (lf (o144 P)) .nil) (.node (o112 P) (lf (o176 P)) .nil))) (.node (o24 P) (.node (o40 P) (.node (o72 P) (lf (o136 P)) .nil) (.node (o104 P) (lf (o168 P)) .nil)) (.node (o56 P) (.node (o88 P) (lf (o152 P)) .nil) (.node (o120 P) (lf (o184 P)) .nil)))) (.node (o12v4 P) (.node (o20 P) (.node (o36 P) (.node (o68 P) (lf (o132 P)) .nil) (.node (o100 P) (lf (o164 P)) .nil)) (.node (o52 P) (.node (o84 P) (lf (o148 P)) .nil) (.node (o116 P) (lf (o180 P)) .nil))) (.node (o28 P) (.node (o44 P) (.node (o76 P) (lf (o140 P)) .nil) (.node (o108 P) (lf (o172 P)) .nil)) (.node (o60 P) (.node (o92 P) (lf (o156 P)) .nil) (lf (o124 P)))))) (.node (boot_o_6 P) (.node (boot_o_10 P) (.node (o18 P) (.node (o34 P) (.node (o66 P) (lf (o130 P)) .nil) (.node (o98 P) (lf (o162 P)) .nil)) (.node (o50 P) (.node (o82 P) (lf (o146 P)) .nil) (.node (o114 P) (lf (o178 P)) .nil))) (.node (o26 P) (.node (o42 P) (.node (o74 P) (lf (o138 P)) .nil) (.node (o106 P) (lf (o170 P)) .nil)) (.node (o58 P) (.node (o90 P) (lf (o154 P)) .nil) (lf (o122 P))))) (.node (o14 P) (.node (o22 P) (.node (o38 P) (.node (o70 P) (lf (o134 P)) .nil) (.node (o102 P) (lf (o166 P)) .nil)) (.node (o54 P) (.node (o86 P) (lf (o150 P)) .nil) (.node (o118 P) (lf (o182 P)) .nil))) (.node (o30 P) (.node (o46 P) (.node (o78 P) (lf (o142 P)) .nil) (.node (o110 P) (lf (o174 P)) .nil)) (.node (o62 P) (.node (o94 P) (lf (o158 P)) .nil) (lf (o126 P))))))))
noncomputable def t3S (P : Params) (os : OsState) : SharedT := ⟨t3 P, 186, (.mk [] [] [] 0 [] [] .false (List.toArray []) [] 0 .false .false .false 0 [2000, 10, 10] .false 0 .true [] [] 0 .false), ⟨[]⟩, (.mk 0 0 0 0), 438, os⟩
set_option maxRecDepth 100000 in
theorem pc3 (w : World) : (fun os => segRunT treeTable pw w 11 annH 1 263 (t2S (w).params os) (piecesOf (((behindTheImports pw).drop 27).take 1) envH cE ((.mk 78 0 88 24) : Pos) [topFrame qH])) = fun os => some (.next, t3S (w).params os, cE, ((.mk 89 0 99 58) : Pos)) := by
  unfold piecesOf; rw [PySem.W.Fast.te10110043849684766642, PySem.W.Fast.te14364793385576792824, PySem.W.Fast.te12563942051412417395]; kernel_rfl!
noncomputable def o3v4 (P : Params) : Obj := (PySem.Obj.mk (.type "dict") .none (.dict (List.toArray [(.mk (PySem.PyData.keyHash P (Str.ofString "__name__")) (.str (Str.ofString "__name__") 165) (.str (Str.ofString "heatnet.net") 343)), (.mk (PySem.PyData.keyHash P (Str.ofString "__doc__")) (.str (Str.ofString "__doc__") 166) .none), (.mk (PySem.PyData.keyHash P (Str.ofString "__package__")) (.str (Str.ofString "__package__") 167) .none), (.mk (PySem.PyData.keyHash P (Str.ofString "__loader__")) (.str (Str.ofString "__loader__") 168) (.builtin "__main__.__loader__#opaque")), (.mk (PySem.PyData.keyHash P (Str.ofString "__spec__")) (.str (Str.ofString "__spec__") 169) .none), (.mk (PySem.PyData.keyHash P (Str.ofString "__annotations__")) (.str (Str.ofString "__annotations__") 170) (.ref 6)), (.mk (PySem.PyData.keyHash P (Str.ofString "__builtins__")) (.str (Str.ofString "__builtins__") 171) (.ref 4)), (.mk (PySem.PyData.keyHash P (Str.ofString "__file__")) (.str (Str.ofString "__file__") 173) (.str (Str.ofString "/claim/cut.py") 172)), (.mk (PySem.PyData.keyHash P (Str.ofString "__cached__")) (.str (Str.ofString "__cached__") 174) .none), (.mk (PySem.PyData.keyHash P (Str.ofString "_wall")) (.str (Str.ofString "_wall") 193) (.ref 21)), (.mk (PySem.PyData.keyHash P (Str.ofString "HeatError")) (.str (Str.ofString "HeatError") 213) (.ref 31)), (.mk (PySem.PyData.keyHash P (Str.ofString "need_number")) (.str (Str.ofString "need_number") 223) (.ref 41)), (.mk (PySem.PyData.keyHash P (Str.ofString "shown")) (.str (Str.ofString "shown") 230) (.ref 48)), (.mk (PySem.PyData.keyHash P (Str.ofString "need_name")) (.str (Str.ofString "need_name") 240) (.ref 55)), (.mk (PySem.PyData.keyHash P (Str.ofString "FIGURES")) (.str (Str.ofString "FIGURES") 244) (.int 2000 243)), (.mk (PySem.PyData.keyHash P (Str.ofString "MOST")) (.str (Str.ofString "MOST") 247) (.int 100000000000000000000000000000000000000000000000000000000000000000000000000000000000000000000000000000000000000000000000000000000000000000000000000000000000000000000000000000000000000000000000000000000000000000000000000000000000000000000000000000000000000000000000000000000000000000000000000000000000000000000000000000000000000000000000000000000000000000000000000000000000000000000000000000000000000000000000000000000000000000000000000000000000000000000000000000000000000000000000000000000000000000000000000000000000000000000000000000000000000000000000000000000000000000000000000000000000000000000000000000000000000000000000000000000000000000000000000000000000000000000000000000000000000000000000000000000000000000000000000000000000000000000000000000000000000000000000000000000000000000000000000000000000000000000000000000000000000000000000000000000000000000000000000000000000000000000000000000000000000000000000000000000000000000000000000000000000000000000000000000000000000000000000000000000000000000000000000000000000000000000000000000000000000000000000000000000000000000000000000000000000000000000000000000000000000000000000000000000000000000000000000000000000000000000000000000000000000000000000000000000000000000000000000000000000000000000000000000000000000000000000000000000000000000000000000000000000000000000000000000000000000000000000000000000000000000000000000000000000000000000000000000000000000000000000000000000000000000000000000000000000000000000000000000000000000000000000000000000000000000000000000000000000000000000000000000000000000000000000000000000000000000000000000000000000000000000000000000000000000000000000000000000000000000000000000000000000000000000000000000000000000000000000000000000000000000000000000000000000000000000000000000000000000000000000000000000000000000000000000000000000000000000000000000000000000000000000000000000000000000000000000000000000000000000000000000000000000000000000000000000000000000000000000000000000000000000000000000000000000000000000000000000 246)), (.mk (PySem.PyData.keyHash P (Str.ofString "NOUGHT")) (.str (Str.ofString "NOUGHT") 250) (.ref 56)), (.mk (PySem.PyData.keyHash P (Str.ofString "ONE")) (.str (Str.ofString "ONE") 253) (.ref 57)), (.mk (PySem.PyData.keyHash P (Str.ofString "divisor")) (.str (Str.ofString "divisor") 261) (.ref 64)), (.mk (PySem.PyData.keyHash P (Str.ofString "frac")) (.str (Str.ofString "frac") 271) (.ref 72)), (.mk (PySem.PyData.keyHash P (Str.ofString "need")) (.str (Str.ofString "need") 279) (.ref 80)), (.mk (PySem.PyData.keyHash P (Str.ofString "plus")) (.str (Str.ofString "plus") 287) (.ref 87)), (.mk (PySem.PyData.keyHash P (Str.ofString "minus")) (.str (Str.ofString "minus") 295) (.ref 94)), (.mk (PySem.PyData.keyHash P (Str.ofString "times")) (.str (Str.ofString "times") 303) (.ref 101)), (.mk (PySem.PyData.keyHash P (Str.ofString "over")) (.str (Str.ofString "over") 311) (.ref 108)), (.mk (PySem.PyData.keyHash P (Str.ofString "less")) (.str (Str.ofString "less") 319) (.ref 115)), (.mk (PySem.PyData.keyHash P (Str.ofString "total")) (.str (Str.ofString "total") 328) (.ref 122)), (.mk (PySem.PyData.keyHash P (Str.ofString "up")) (.str (Str.ofString "up") 335) (.ref 129)), (.mk (PySem.PyData.keyHash P (Str.ofString "show")) (.str (Str.ofString "show") 342) (.ref 136)), (.mk (PySem.PyData.keyHash P (Str.ofString "JOINTS")) (.str (Str.ofString "JOINTS") 346) (.int 60 345)), (.mk (PySem.PyData.keyHash P (Str.ofString "PIPES")) (.str (Str.ofString "PIPES") 348) (.int 90 347)), (.mk (PySem.PyData.keyHash P (Str.ofString "HOURS")) (.str (Str.ofString "HOURS") 350) (.int 24 349)), (.mk (PySem.PyData.keyHash P (Str.ofString "Pipe")) (.str (Str.ofString "Pipe") 392) (.ref 153)), (.mk (PySem.PyData.keyHash P (Str.ofString "Consumer")) (.str (Str.ofString "Consumer") 437) (.ref 181)), (.mk (PySem.PyData.keyHash P (Str.ofString "Net")) (.str (Str.ofString "Net") 619) (.ref 312))]) 35) (List.toArray []))
noncomputable def o12v5 (P : Params) : Obj := (PySem.Obj.mk .none .none (.fields (List.toArray ((.int 1 0) :: (.int 0 0) :: (.ref 20) :: (.int 5 0) :: (.int 0 0) :: (.ref 27) :: (.int 7 0) :: (.int 0 0) :: (.ref 40) :: (.int 11 0) :: (.int 0 0) :: (.ref 47) :: (.int 17 0) :: (.int 0 0) :: (.ref 54) :: (.int 31 0) :: (.int 0 0) :: (.ref 63) :: (.int 37 0) :: (.int 0 0) :: (.ref 71) :: (.int 47 0) :: (.int 0 0) :: (.ref 79) :: (.int 53 0) :: (.int 0 0) :: (.ref 86) :: (.int 55 0) :: (.int 0 0) :: (.ref 93) :: (.int 57 0) :: (.int 0 0) :: (.ref 100) :: (.int 59 0) :: (.int 0 0) :: (.ref 107) :: (.int 63 0) :: (.int 0 0) :: (.ref 114) :: (.int 65 0) :: (.int 0 0) :: (.ref 121) :: (.int 70 0) :: (.int 0 0) :: (.ref 128) :: (.int 72 0) :: (.int 0 0) :: (.ref 135) :: (.int 78 0) :: (.int 0 0) :: (.ref 142) :: (.int 89 0) :: (.int 0 0) :: (.ref 163) :: (.int 100 0) :: (.int 0 0) :: (.ref 191) :: []))) (List.toArray []))
noncomputable def o186 (P : Params) : Obj := (PySem.Obj.mk (.type "tuple") .none (.seq (List.toArray []) 0) (List.toArray []))
noncomputable def o187 (P : Params) : Obj := (PySem.Obj.mk (.type "builtin_function_or_method") .none (.fields (List.toArray [(.builtin "type.__prepare__"), (.type "type")])) (List.toArray []))
noncomputable def o188 (P : Params) : Obj := (PySem.Obj.mk (.type "dict") .none (.dict (List.toArray [(.mk (PySem.PyData.keyHash P (Str.ofString "__module__")) (.str (Str.ofString "__module__") 445) (.str (Str.ofString "heatnet.net") 343)), (.mk (PySem.PyData.keyHash P (Str.ofString "__qualname__")) (.str (Str.ofString "__qualname__") 447) (.str (Str.ofString "Net") 446)), (.mk (PySem.PyData.keyHash P (Str.ofString "__firstlineno__")) (.str (Str.ofString "__firstlineno__") 449) (.int 100 448)), (.mk (PySem.PyData.keyHash P (Str.ofString "__init__")) (.str (Str.ofString "__init__") 476) (.ref 207)), (.mk (PySem.PyData.keyHash P (Str.ofString "add_joint")) (.str (Str.ofString "add_joint") 484) (.ref 214)), (.mk (PySem.PyData.keyHash P (Str.ofString "need_joint")) (.str (Str.ofString "need_joint") 492) (.ref 221)), (.mk (PySem.PyData.keyHash P (Str.ofString "add_pipe")) (.str (Str.ofString "add_pipe") 506) (.ref 228)), (.mk (PySem.PyData.keyHash P (Str.ofString "pipe")) (.str (Str.ofString "pipe") 514) (.ref 235)), (.mk (PySem.PyData.keyHash P (Str.ofString "add_consumer")) (.str (Str.ofString "add_consumer") 527) (.ref 243)), (.mk (PySem.PyData.keyHash P (Str.ofString "consumer")) (.str (Str.ofString "consumer") 535) (.ref 250)), (.mk (PySem.PyData.keyHash P (Str.ofString "add_bypass")) (.str (Str.ofString "add_bypass") 544) (.ref 257)), (.mk (PySem.PyData.keyHash P (Str.ofString "set_valve")) (.str (Str.ofString "set_valve") 553) (.ref 264)), (.mk (PySem.PyData.keyHash P (Str.ofString "open_pipes")) (.str (Str.ofString "open_pipes") 559) (.ref 269)), (.mk (PySem.PyData.keyHash P (Str.ofString "at")) (.str (Str.ofString "at") 565) (.ref 274)), (.mk (PySem.PyData.keyHash P (Str.ofString "far")) (.str (Str.ofString "far") 574) (.ref 281)), (.mk (PySem.PyData.keyHash P (Str.ofString "fed")) (.str (Str.ofString "fed") 584) (.ref 288)), (.mk (PySem.PyData.keyHash P (Str.ofString "rings")) (.str (Str.ofString "rings") 591) (.ref 295)), (.mk (PySem.PyData.keyHash P (Str.ofString "unfed")) (.str (Str.ofString "unfed") 598) (.ref 302)), (.mk (PySem.PyData.keyHash P (Str.ofString "lines")) (.str (Str.ofString "lines") 605) (.ref 309)), (.mk (PySem.PyData.keyHash P (Str.ofString "__static_attributes__")) (.str (Str.ofString "__static_attributes__") 612) (.ref 310))]) 20) (List.toArray []))
noncomputable def o189 (P : Params) : Obj := (PySem.Obj.mk (.type "tuple") .none (.seq (List.toArray []) 0) (List.toArray []))
noncomputable def o190 (P : Params) : Obj := (PySem.Obj.mk .none .none (.fields (List.toArray ((.int 102 0) :: (.int 4 0) :: (.ref 206) :: (.int 110 0) :: (.int 4 0) :: (.ref 213) :: (.int 117 0) :: (.int 4 0) :: (.ref 220) :: (.int 122 0) :: (.int 4 0) :: (.ref 227) :: (.int 136 0) :: (.int 4 0) :: (.ref 234) :: (.int 141 0) :: (.int 4 0) :: (.ref 242) :: (.int 153 0) :: (.int 4 0) :: (.ref 249) :: (.int 158 0) :: (.int 4 0) :: (.ref 256) :: (.int 161 0) :: (.int 4 0) :: (.ref 263) :: (.int 164 0) :: (.int 4 0) :: (.ref 268) :: (.int 167 0) :: (.int 4 0) :: (.ref 273) :: (.int 170 0) :: (.int 4 0) :: (.ref 280) :: (.int 173 0) :: (.int 4 0) :: (.ref 287) :: (.int 183 0) :: (.int 4 0) :: (.ref 294) :: (.int 186 0) :: (.int 4 0) :: (.ref 301) :: (.int 189 0) :: (.int 4 0) :: (.ref 308) :: []))) (List.toArray []))
noncomputable def o191 (P : Params) : Obj := (PySem.Obj.mk (.type "code") .none (.fields (List.toArray [(.str (Str.ofString "Net") 440), (.str (Str.ofString "Net") 441), (.str (Str.ofString "/claim/cut.py") 442), (.int 100 0), (.int 0 0), (.int 0 0), (.int 0 0), (.int 0 0), (.ref 189), (.bool .false), (.int 181 0), (.ref 190), .none, .none, .none, .none, (.int 443 0), (.int 100 0), (.str (Str.ofString "/claim/cut.py") 444)])) (List.toArray []))
noncomputable def o192 (P : Params) : Obj := (PySem.Obj.mk (.type "frame") .none .plain (List.toArray [(.some (.ref 191)), (.some (.ref 3)), (.some (.ref 188)), .none, (.some (.str (Str.ofString "heatnet.net") 343)), .none, (.some (.ref 0))]))
noncomputable def o193 (P : Params) : Obj := (PySem.Obj.mk (.type "frame") .none (.dict (List.toArray [(.mk (PySem.PyData.keyHash P (Str.ofString "upper")) (.str (Str.ofString "upper") 451) (.int 10 450)), (.mk (PySem.PyData.keyHash P (Str.ofString "lower")) (.str (Str.ofString "lower") 452) (.int 1 262)), (.mk (PySem.PyData.keyHash P (Str.ofString "by")) (.str (Str.ofString "by") 464) (.int 1 262))]) 3) (List.toArray []))
noncomputable def o194 (P : Params) : Obj := (PySem.Obj.mk (.type "frame") .none (.dict (List.toArray [(.mk (PySem.PyData.keyHash P (Str.ofString "a")) (.str (Str.ofString "a") 455) (.int 1 262)), (.mk (PySem.PyData.keyHash P (Str.ofString "b")) (.str (Str.ofString "b") 456) (.int 0 460))]) 2) (List.toArray []))
noncomputable def o195 (P : Params) : Obj := (PySem.Obj.mk (.type "tuple") .none (.seq (List.toArray [(.int 1 262), (.int 0 460)]) 0) (List.toArray []))
noncomputable def o196 (P : Params) : Obj := (PySem.Obj.mk (.type "tuple_iterator") .none (.fields (List.toArray [.none, (.int 2 0)])) (List.toArray []))
noncomputable def o197 (P : Params) : Obj := (PySem.Obj.mk (.type "tuple") .none (.seq (List.toArray []) 0) (List.toArray []))
noncomputable def o198 (P : Params) : Obj := (PySem.Obj.mk (.type "StopIteration") .none (.fields (List.toArray [(.ref 197), .none, .none, .none, (.bool .false), .none])) (List.toArray []))
noncomputable def o199 (P : Params) : Obj := (PySem.Obj.mk (.type "tuple") .none (.seq (List.toArray [(.int 10 467), (.int 1 468)]) 0) (List.toArray []))
noncomputable def o200 (P : Params) : Obj := (PySem.Obj.mk (.type "tuple") .none (.seq (List.toArray [(.ref 199)]) 0) (List.toArray []))
noncomputable def o201 (P : Params) : Obj := (PySem.Obj.mk (.type "tuple") .none (.seq (List.toArray []) 0) (List.toArray []))
noncomputable def o202 (P : Params) : Obj := (PySem.Obj.mk .none .none (.fields (List.toArray [])) (List.toArray []))
noncomputable def o203 (P : Params) : Obj := (PySem.Obj.mk (.type "tuple") .none (.seq (List.toArray [(.str (Str.ofString "self") 472), (.str (Str.ofString "ground") 473)]) 0) (List.toArray []))
noncomputable def o204 (P : Params) : Obj := (PySem.Obj.mk (.type "tuple") .none (.seq (List.toArray []) 0) (List.toArray []))
noncomputable def o205 (P : Params) : Obj := (PySem.Obj.mk .none .none (.func (FuncData.mk (Str.ofString "__init__") (Str.ofString "Net.__init__") fa28_0.1 (.stmts fb28_0.1) fs28_0.1 0 [] .none .none .none .none .none .none .none 0)) (List.toArray []))
noncomputable def o206 (P : Params) : Obj := (PySem.Obj.mk (.type "code") .none (.fields (List.toArray [(.str (Str.ofString "__init__") 469), (.str (Str.ofString "Net.__init__") 470), (.str (Str.ofString "/claim/cut.py") 471), (.int 102 0), (.int 2 0), (.int 0 0), (.int 0 0), (.int 3 0), (.ref 201), (.bool .true), (.int 181 0), (.ref 202), .none, (.ref 203), (.ref 204), (.ref 205), (.int 474 0), (.int 102 0), (.str (Str.ofString "/claim/cut.py") 475)])) (List.toArray []))
noncomputable def o207 (P : Params) : Obj := (PySem.Obj.mk (.type "function") .none (.func (FuncData.mk (Str.ofString "__init__") (Str.ofString "Net.__init__") fa28_0.1 (.stmts fb28_0.1) fs28_0.1 3 [] (.ref 200) .none .none (.str (Str.ofString "heatnet.net") 343) .none (.ref 206) .none 0)) (List.toArray []))
noncomputable def o208 (P : Params) : Obj := (PySem.Obj.mk (.type "tuple") .none (.seq (List.toArray []) 0) (List.toArray []))
noncomputable def o209 (P : Params) : Obj := (PySem.Obj.mk .none .none (.fields (List.toArray [])) (List.toArray []))
noncomputable def o210 (P : Params) : Obj := (PySem.Obj.mk (.type "tuple") .none (.seq (List.toArray [(.str (Str.ofString "self") 480), (.str (Str.ofString "name") 481)]) 0) (List.toArray []))
noncomputable def o211 (P : Params) : Obj := (PySem.Obj.mk (.type "tuple") .none (.seq (List.toArray []) 0) (List.toArray []))
noncomputable def o212 (P : Params) : Obj := (PySem.Obj.mk .none .none (.func (FuncData.mk (Str.ofString "add_joint") (Str.ofString "Net.add_joint") fa28_1.1 (.stmts fb28_1.1) fs28_1.1 0 [] .none .none .none .none .none .none .none 0)) (List.toArray []))
noncomputable def o213 (P : Params) : Obj := (PySem.Obj.mk (.type "code") .none (.fields (List.toArray [(.str (Str.ofString "add_joint") 477), (.str (Str.ofString "Net.add_joint") 478), (.str (Str.ofString "/claim/cut.py") 479), (.int 110 0), (.int 2 0), (.int 0 0), (.int 0 0), (.int 3 0), (.ref 208), (.bool .true), (.int 181 0), (.ref 209), .none, (.ref 210), (.ref 211), (.ref 212), (.int 482 0), (.int 110 0), (.str (Str.ofString "/claim/cut.py") 483)])) (List.toArray []))
noncomputable def o214 (P : Params) : Obj := (PySem.Obj.mk (.type "function") .none (.func (FuncData.mk (Str.ofString "add_joint") (Str.ofString "Net.add_joint") fa28_1.1 (.stmts fb28_1.1) fs28_1.1 3 [] .none .none .none (.str (Str.ofString "heatnet.net") 343) .none (.ref 213) .none 0)) (List.toArray []))
noncomputable def o215 (P : Params) : Obj := (PySem.Obj.mk (.type "tuple") .none (.seq (List.toArray []) 0) (List.toArray []))
noncomputable def o216 (P : Params) : Obj := (PySem.Obj.mk .none .none (.fields (List.toArray [])) (List.toArray []))
noncomputable def o217 (P : Params) : Obj := (PySem.Obj.mk (.type "tuple") .none (.seq (List.toArray [(.str (Str.ofString "self") 488), (.str (Str.ofString "name") 489)]) 0) (List.toArray []))
noncomputable def o218 (P : Params) : Obj := (PySem.Obj.mk (.type "tuple") .none (.seq (List.toArray []) 0) (List.toArray []))
noncomputable def o219 (P : Params) : Obj := (PySem.Obj.mk .none .none (.func (FuncData.mk (Str.ofString "need_joint") (Str.ofString "Net.need_joint") fa28_2.1 (.stmts fb28_2.1) fs28_2.1 0 [] .none .none .none .none .none .none .none 0)) (List.toArray []))
noncomputable def o220 (P : Params) : Obj := (PySem.Obj.mk (.type "code") .none (.fields (List.toArray [(.str (Str.ofString "need_joint") 485), (.str (Str.ofString "Net.need_joint") 486), (.str (Str.ofString "/claim/cut.py") 487), (.int 117 0), (.int 2 0), (.int 0 0), (.int 0 0), (.int 3 0), (.ref 215), (.bool .true), (.int 181 0), (.ref 216), .none, (.ref 217), (.ref 218), (.ref 219), (.int 490 0), (.int 117 0), (.str (Str.ofString "/claim/cut.py") 491)])) (List.toArray []))
noncomputable def o221 (P : Params) : Obj := (PySem.Obj.mk (.type "function") .none (.func (FuncData.mk (Str.ofString "need_joint") (Str.ofString "Net.need_joint") fa28_2.1 (.stmts fb28_2.1) fs28_2.1 3 [] .none .none .none (.str (Str.ofString "heatnet.net") 343) .none (.ref 220) .none 0)) (List.toArray []))
noncomputable def o222 (P : Params) : Obj := (PySem.Obj.mk (.type "tuple") .none (.seq (List.toArray []) 0) (List.toArray []))
noncomputable def o223 (P : Params) : Obj := (PySem.Obj.mk .none .none (.fields (List.toArray [])) (List.toArray []))
noncomputable def o224 (P : Params) : Obj := (PySem.Obj.mk (.type "tuple") .none (.seq (List.toArray [(.str (Str.ofString "self") 496), (.str (Str.ofString "name") 497), (.str (Str.ofString "start") 498), (.str (Str.ofString "end") 499), (.str (Str.ofString "length") 500), (.str (Str.ofString "resistance") 501), (.str (Str.ofString "loss") 502), (.str (Str.ofString "litres") 503)]) 0) (List.toArray []))
noncomputable def o225 (P : Params) : Obj := (PySem.Obj.mk (.type "tuple") .none (.seq (List.toArray []) 0) (List.toArray []))
noncomputable def o226 (P : Params) : Obj := (PySem.Obj.mk .none .none (.func (FuncData.mk (Str.ofString "add_pipe") (Str.ofString "Net.add_pipe") fa28_3.1 (.stmts fb28_3.1) fs28_3.1 0 [] .none .none .none .none .none .none .none 0)) (List.toArray []))
noncomputable def o227 (P : Params) : Obj := (PySem.Obj.mk (.type "code") .none (.fields (List.toArray [(.str (Str.ofString "add_pipe") 493), (.str (Str.ofString "Net.add_pipe") 494), (.str (Str.ofString "/claim/cut.py") 495), (.int 122 0), (.int 8 0), (.int 0 0), (.int 0 0), (.int 3 0), (.ref 222), (.bool .true), (.int 181 0), (.ref 223), .none, (.ref 224), (.ref 225), (.ref 226), (.int 504 0), (.int 122 0), (.str (Str.ofString "/claim/cut.py") 505)])) (List.toArray []))
noncomputable def o228 (P : Params) : Obj := (PySem.Obj.mk (.type "function") .none (.func (FuncData.mk (Str.ofString "add_pipe") (Str.ofString "Net.add_pipe") fa28_3.1 (.stmts fb28_3.1) fs28_3.1 3 [] .none .none .none (.str (Str.ofString "heatnet.net") 343) .none (.ref 227) .none 0)) (List.toArray []))
noncomputable def o229 (P : Params) : Obj := (PySem.Obj.mk (.type "tuple") .none (.seq (List.toArray []) 0) (List.toArray []))
noncomputable def o230 (P : Params) : Obj := (PySem.Obj.mk .none .none (.fields (List.toArray [])) (List.toArray []))
noncomputable def o231 (P : Params) : Obj := (PySem.Obj.mk (.type "tuple") .none (.seq (List.toArray [(.str (Str.ofString "self") 510), (.str (Str.ofString "name") 511)]) 0) (List.toArray []))
noncomputable def o232 (P : Params) : Obj := (PySem.Obj.mk (.type "tuple") .none (.seq (List.toArray []) 0) (List.toArray []))
noncomputable def o233 (P : Params) : Obj := (PySem.Obj.mk .none .none (.func (FuncData.mk (Str.ofString "pipe") (Str.ofString "Net.pipe") fa28_4.1 (.stmts fb28_4.1) fs28_4.1 0 [] .none .none .none .none .none .none .none 0)) (List.toArray []))
noncomputable def o234 (P : Params) : Obj := (PySem.Obj.mk (.type "code") .none (.fields (List.toArray [(.str (Str.ofString "pipe") 507), (.str (Str.ofString "Net.pipe") 508), (.str (Str.ofString "/claim/cut.py") 509), (.int 136 0), (.int 2 0), (.int 0 0), (.int 0 0), (.int 3 0), (.ref 229), (.bool .true), (.int 181 0), (.ref 230), .none, (.ref 231), (.ref 232), (.ref 233), (.int 512 0), (.int 136 0), (.str (Str.ofString "/claim/cut.py") 513)])) (List.toArray []))
noncomputable def o235 (P : Params) : Obj := (PySem.Obj.mk (.type "function") .none (.func (FuncData.mk (Str.ofString "pipe") (Str.ofString "Net.pipe") fa28_4.1 (.stmts fb28_4.1) fs28_4.1 3 [] .none .none .none (.str (Str.ofString "heatnet.net") 343) .none (.ref 234) .none 0)) (List.toArray []))
noncomputable def o236 (P : Params) : Obj := (PySem.Obj.mk (.type "tuple") .none (.seq (List.toArray [(.ref 56)]) 0) (List.toArray []))
noncomputable def o237 (P : Params) : Obj := (PySem.Obj.mk (.type "tuple") .none (.seq (List.toArray []) 0) (List.toArray []))
noncomputable def o238 (P : Params) : Obj := (PySem.Obj.mk .none .none (.fields (List.toArray [])) (List.toArray []))
noncomputable def o239 (P : Params) : Obj := (PySem.Obj.mk (.type "tuple") .none (.seq (List.toArray [(.str (Str.ofString "self") 518), (.str (Str.ofString "name") 519), (.str (Str.ofString "joint") 520), (.str (Str.ofString "demands") 521), (.str (Str.ofString "drop") 522), (.str (Str.ofString "least") 523), (.str (Str.ofString "one") 524)]) 0) (List.toArray []))
noncomputable def o240 (P : Params) : Obj := (PySem.Obj.mk (.type "tuple") .none (.seq (List.toArray []) 0) (List.toArray []))
noncomputable def o241 (P : Params) : Obj := (PySem.Obj.mk .none .none (.func (FuncData.mk (Str.ofString "add_consumer") (Str.ofString "Net.add_consumer") fa28_5.1 (.stmts fb28_5.1) fs28_5.1 0 [] .none .none .none .none .none .none .none 0)) (List.toArray []))
noncomputable def o242 (P : Params) : Obj := (PySem.Obj.mk (.type "code") .none (.fields (List.toArray [(.str (Str.ofString "add_consumer") 515), (.str (Str.ofString "Net.add_consumer") 516), (.str (Str.ofString "/claim/cut.py") 517), (.int 141 0), (.int 6 0), (.int 0 0), (.int 0 0), (.int 3 0), (.ref 237), (.bool .true), (.int 181 0), (.ref 238), .none, (.ref 239), (.ref 240), (.ref 241), (.int 525 0), (.int 141 0), (.str (Str.ofString "/claim/cut.py") 526)])) (List.toArray []))
noncomputable def o243 (P : Params) : Obj := (PySem.Obj.mk (.type "function") .none (.func (FuncData.mk (Str.ofString "add_consumer") (Str.ofString "Net.add_consumer") fa28_5.1 (.stmts fb28_5.1) fs28_5.1 3 [] (.ref 236) .none .none (.str (Str.ofString "heatnet.net") 343) .none (.ref 242) .none 0)) (List.toArray []))
noncomputable def o244 (P : Params) : Obj := (PySem.Obj.mk (.type "tuple") .none (.seq (List.toArray []) 0) (List.toArray []))
noncomputable def o245 (P : Params) : Obj := (PySem.Obj.mk .none .none (.fields (List.toArray [])) (List.toArray []))
noncomputable def o246 (P : Params) : Obj := (PySem.Obj.mk (.type "tuple") .none (.seq (List.toArray [(.str (Str.ofString "self") 531), (.str (Str.ofString "name") 532)]) 0) (List.toArray []))
noncomputable def o247 (P : Params) : Obj := (PySem.Obj.mk (.type "tuple") .none (.seq (List.toArray []) 0) (List.toArray []))
noncomputable def o248 (P : Params) : Obj := (PySem.Obj.mk .none .none (.func (FuncData.mk (Str.ofString "consumer") (Str.ofString "Net.consumer") fa28_6.1 (.stmts fb28_6.1) fs28_6.1 0 [] .none .none .none .none .none .none .none 0)) (List.toArray []))
noncomputable def o249 (P : Params) : Obj := (PySem.Obj.mk (.type "code") .none (.fields (List.toArray [(.str (Str.ofString "consumer") 528), (.str (Str.ofString "Net.consumer") 529), (.str (Str.ofString "/claim/cut.py") 530), (.int 153 0), (.int 2 0), (.int 0 0), (.int 0 0), (.int 3 0), (.ref 244), (.bool .true), (.int 181 0), (.ref 245), .none, (.ref 246), (.ref 247), (.ref 248), (.int 533 0), (.int 153 0), (.str (Str.ofString "/claim/cut.py") 534)])) (List.toArray []))
noncomputable def o250 (P : Params) : Obj := (PySem.Obj.mk (.type "function") .none (.func (FuncData.mk (Str.ofString "consumer") (Str.ofString "Net.consumer") fa28_6.1 (.stmts fb28_6.1) fs28_6.1 3 [] .none .none .none (.str (Str.ofString "heatnet.net") 343) .none (.ref 249) .none 0)) (List.toArray []))
noncomputable def o251 (P : Params) : Obj := (PySem.Obj.mk (.type "tuple") .none (.seq (List.toArray []) 0) (List.toArray []))
noncomputable def o252 (P : Params) : Obj := (PySem.Obj.mk .none .none (.fields (List.toArray [])) (List.toArray []))
noncomputable def o253 (P : Params) : Obj := (PySem.Obj.mk (.type "tuple") .none (.seq (List.toArray [(.str (Str.ofString "self") 539), (.str (Str.ofString "joint") 540), (.str (Str.ofString "litres") 541)]) 0) (List.toArray []))
noncomputable def o254 (P : Params) : Obj := (PySem.Obj.mk (.type "tuple") .none (.seq (List.toArray []) 0) (List.toArray []))
noncomputable def o255 (P : Params) : Obj := (PySem.Obj.mk .none .none (.func (FuncData.mk (Str.ofString "add_bypass") (Str.ofString "Net.add_bypass") fa28_7.1 (.stmts fb28_7.1) fs28_7.1 0 [] .none .none .none .none .none .none .none 0)) (List.toArray []))
noncomputable def o256 (P : Params) : Obj := (PySem.Obj.mk (.type "code") .none (.fields (List.toArray [(.str (Str.ofString "add_bypass") 536), (.str (Str.ofString "Net.add_bypass") 537), (.str (Str.ofString "/claim/cut.py") 538), (.int 158 0), (.int 3 0), (.int 0 0), (.int 0 0), (.int 3 0), (.ref 251), (.bool .true), (.int 181 0), (.ref 252), .none, (.ref 253), (.ref 254), (.ref 255), (.int 542 0), (.int 158 0), (.str (Str.ofString "/claim/cut.py") 543)])) (List.toArray []))
noncomputable def o257 (P : Params) : Obj := (PySem.Obj.mk (.type "function") .none (.func (FuncData.mk (Str.ofString "add_bypass") (Str.ofString "Net.add_bypass") fa28_7.1 (.stmts fb28_7.1) fs28_7.1 3 [] .none .none .none (.str (Str.ofString "heatnet.net") 343) .none (.ref 256) .none 0)) (List.toArray []))
noncomputable def o258 (P : Params) : Obj := (PySem.Obj.mk (.type "tuple") .none (.seq (List.toArray []) 0) (List.toArray []))
noncomputable def o259 (P : Params) : Obj := (PySem.Obj.mk .none .none (.fields (List.toArray [])) (List.toArray []))
noncomputable def o260 (P : Params) : Obj := (PySem.Obj.mk (.type "tuple") .none (.seq (List.toArray [(.str (Str.ofString "self") 548), (.str (Str.ofString "name") 549), (.str (Str.ofString "is_open") 550)]) 0) (List.toArray []))
noncomputable def o261 (P : Params) : Obj := (PySem.Obj.mk (.type "tuple") .none (.seq (List.toArray []) 0) (List.toArray []))
noncomputable def o262 (P : Params) : Obj := (PySem.Obj.mk .none .none (.func (FuncData.mk (Str.ofString "set_valve") (Str.ofString "Net.set_valve") fa28_8.1 (.stmts fb28_8.1) fs28_8.1 0 [] .none .none .none .none .none .none .none 0)) (List.toArray []))
noncomputable def o263 (P : Params) : Obj := (PySem.Obj.mk (.type "code") .none (.fields (List.toArray [(.str (Str.ofString "set_valve") 545), (.str (Str.ofString "Net.set_valve") 546), (.str (Str.ofString "/claim/cut.py") 547), (.int 161 0), (.int 3 0), (.int 0 0), (.int 0 0), (.int 3 0), (.ref 258), (.bool .true), (.int 181 0), (.ref 259), .none, (.ref 260), (.ref 261), (.ref 262), (.int 551 0), (.int 161 0), (.str (Str.ofString "/claim/cut.py") 552)])) (List.toArray []))
noncomputable def o264 (P : Params) : Obj := (PySem.Obj.mk (.type "function") .none (.func (FuncData.mk (Str.ofString "set_valve") (Str.ofString "Net.set_valve") fa28_8.1 (.stmts fb28_8.1) fs28_8.1 3 [] .none .none .none (.str (Str.ofString "heatnet.net") 343) .none (.ref 263) .none 0)) (List.toArray []))
noncomputable def o265 (P : Params) : Obj := (PySem.Obj.mk (.type "tuple") .none (.seq (List.toArray []) 0) (List.toArray []))
noncomputable def o266 (P : Params) : Obj := (PySem.Obj.mk .none .none (.fields (List.toArray [])) (List.toArray []))
noncomputable def o267 (P : Params) : Obj := (PySem.Obj.mk .none .none (.func (FuncData.mk (Str.ofString "open_pipes") (Str.ofString "Net.open_pipes") fa28_9.1 (.stmts fb28_9.1) fs28_9.1 0 [] .none .none .none .none .none .none .none 0)) (List.toArray []))
noncomputable def o268 (P : Params) : Obj := (PySem.Obj.mk (.type "code") .none (.fields (List.toArray [(.str (Str.ofString "open_pipes") 554), (.str (Str.ofString "Net.open_pipes") 555), (.str (Str.ofString "/claim/cut.py") 556), (.int 164 0), (.int 1 0), (.int 0 0), (.int 0 0), (.int 3 0), (.ref 265), (.bool .true), (.int 181 0), (.ref 266), .none, .none, .none, (.ref 267), (.int 557 0), (.int 164 0), (.str (Str.ofString "/claim/cut.py") 558)])) (List.toArray []))
noncomputable def o269 (P : Params) : Obj := (PySem.Obj.mk (.type "function") .none (.func (FuncData.mk (Str.ofString "open_pipes") (Str.ofString "Net.open_pipes") fa28_9.1 (.stmts fb28_9.1) fs28_9.1 3 [] .none .none .none (.str (Str.ofString "heatnet.net") 343) .none (.ref 268) .none 0)) (List.toArray []))
noncomputable def o270 (P : Params) : Obj := (PySem.Obj.mk (.type "tuple") .none (.seq (List.toArray []) 0) (List.toArray []))
noncomputable def o271 (P : Params) : Obj := (PySem.Obj.mk .none .none (.fields (List.toArray [])) (List.toArray []))
noncomputable def o272 (P : Params) : Obj := (PySem.Obj.mk .none .none (.func (FuncData.mk (Str.ofString "at") (Str.ofString "Net.at") fa28_10.1 (.stmts fb28_10.1) fs28_10.1 0 [] .none .none .none .none .none .none .none 0)) (List.toArray []))
noncomputable def o273 (P : Params) : Obj := (PySem.Obj.mk (.type "code") .none (.fields (List.toArray [(.str (Str.ofString "at") 560), (.str (Str.ofString "Net.at") 561), (.str (Str.ofString "/claim/cut.py") 562), (.int 167 0), (.int 2 0), (.int 0 0), (.int 0 0), (.int 3 0), (.ref 270), (.bool .true), (.int 181 0), (.ref 271), .none, .none, .none, (.ref 272), (.int 563 0), (.int 167 0), (.str (Str.ofString "/claim/cut.py") 564)])) (List.toArray []))
noncomputable def o274 (P : Params) : Obj := (PySem.Obj.mk (.type "function") .none (.func (FuncData.mk (Str.ofString "at") (Str.ofString "Net.at") fa28_10.1 (.stmts fb28_10.1) fs28_10.1 3 [] .none .none .none (.str (Str.ofString "heatnet.net") 343) .none (.ref 273) .none 0)) (List.toArray []))
noncomputable def o275 (P : Params) : Obj := (PySem.Obj.mk (.type "tuple") .none (.seq (List.toArray []) 0) (List.toArray []))
noncomputable def o276 (P : Params) : Obj := (PySem.Obj.mk .none .none (.fields (List.toArray [])) (List.toArray []))
noncomputable def o277 (P : Params) : Obj := (PySem.Obj.mk (.type "tuple") .none (.seq (List.toArray [(.str (Str.ofString "self") 569), (.str (Str.ofString "pipe") 570), (.str (Str.ofString "joint") 571)]) 0) (List.toArray []))
noncomputable def o278 (P : Params) : Obj := (PySem.Obj.mk (.type "tuple") .none (.seq (List.toArray []) 0) (List.toArray []))
noncomputable def o279 (P : Params) : Obj := (PySem.Obj.mk .none .none (.func (FuncData.mk (Str.ofString "far") (Str.ofString "Net.far") fa28_11.1 (.stmts fb28_11.1) fs28_11.1 0 [] .none .none .none .none .none .none .none 0)) (List.toArray []))
noncomputable def o280 (P : Params) : Obj := (PySem.Obj.mk (.type "code") .none (.fields (List.toArray [(.str (Str.ofString "far") 566), (.str (Str.ofString "Net.far") 567), (.str (Str.ofString "/claim/cut.py") 568), (.int 170 0), (.int 3 0), (.int 0 0), (.int 0 0), (.int 3 0), (.ref 275), (.bool .true), (.int 181 0), (.ref 276), .none, (.ref 277), (.ref 278), (.ref 279), (.int 572 0), (.int 170 0), (.str (Str.ofString "/claim/cut.py") 573)])) (List.toArray []))
noncomputable def o281 (P : Params) : Obj := (PySem.Obj.mk (.type "function") .none (.func (FuncData.mk (Str.ofString "far") (Str.ofString "Net.far") fa28_11.1 (.stmts fb28_11.1) fs28_11.1 3 [] .none .none .none (.str (Str.ofString "heatnet.net") 343) .none (.ref 280) .none 0)) (List.toArray []))
noncomputable def o282 (P : Params) : Obj := (PySem.Obj.mk (.type "tuple") .none (.seq (List.toArray []) 0) (List.toArray []))
noncomputable def o283 (P : Params) : Obj := (PySem.Obj.mk .none .none (.fields (List.toArray [])) (List.toArray []))
noncomputable def o284 (P : Params) : Obj := (PySem.Obj.mk (.type "tuple") .none (.seq (List.toArray [(.str (Str.ofString "self") 578), (.str (Str.ofString "out") 579), (.str (Str.ofString "joint") 580), (.str (Str.ofString "pipe") 581)]) 0) (List.toArray []))
noncomputable def o285 (P : Params) : Obj := (PySem.Obj.mk (.type "tuple") .none (.seq (List.toArray []) 0) (List.toArray []))
noncomputable def o286 (P : Params) : Obj := (PySem.Obj.mk .none .none (.func (FuncData.mk (Str.ofString "fed") (Str.ofString "Net.fed") fa28_12.1 (.stmts fb28_12.1) fs28_12.1 0 [] .none .none .none .none .none .none .none 0)) (List.toArray []))
noncomputable def o287 (P : Params) : Obj := (PySem.Obj.mk (.type "code") .none (.fields (List.toArray [(.str (Str.ofString "fed") 575), (.str (Str.ofString "Net.fed") 576), (.str (Str.ofString "/claim/cut.py") 577), (.int 173 0), (.int 1 0), (.int 0 0), (.int 0 0), (.int 3 0), (.ref 282), (.bool .true), (.int 181 0), (.ref 283), .none, (.ref 284), (.ref 285), (.ref 286), (.int 582 0), (.int 173 0), (.str (Str.ofString "/claim/cut.py") 583)])) (List.toArray []))
noncomputable def o288 (P : Params) : Obj := (PySem.Obj.mk (.type "function") .none (.func (FuncData.mk (Str.ofString "fed") (Str.ofString "Net.fed") fa28_12.1 (.stmts fb28_12.1) fs28_12.1 3 [] .none .none .none (.str (Str.ofString "heatnet.net") 343) .none (.ref 287) .none 0)) (List.toArray []))
noncomputable def o289 (P : Params) : Obj := (PySem.Obj.mk (.type "tuple") .none (.seq (List.toArray []) 0) (List.toArray []))
noncomputable def o290 (P : Params) : Obj := (PySem.Obj.mk .none .none (.fields (List.toArray [])) (List.toArray []))
noncomputable def o291 (P : Params) : Obj := (PySem.Obj.mk (.type "tuple") .none (.seq (List.toArray [(.str (Str.ofString "self") 588)]) 0) (List.toArray []))
noncomputable def o292 (P : Params) : Obj := (PySem.Obj.mk (.type "tuple") .none (.seq (List.toArray []) 0) (List.toArray []))
noncomputable def o293 (P : Params) : Obj := (PySem.Obj.mk .none .none (.func (FuncData.mk (Str.ofString "rings") (Str.ofString "Net.rings") fa28_13.1 (.stmts fb28_13.1) fs28_13.1 0 [] .none .none .none .none .none .none .none 0)) (List.toArray []))
noncomputable def o294 (P : Params) : Obj := (PySem.Obj.mk (.type "code") .none (.fields (List.toArray [(.str (Str.ofString "rings") 585), (.str (Str.ofString "Net.rings") 586), (.str (Str.ofString "/claim/cut.py") 587), (.int 183 0), (.int 1 0), (.int 0 0), (.int 0 0), (.int 3 0), (.ref 289), (.bool .true), (.int 181 0), (.ref 290), .none, (.ref 291), (.ref 292), (.ref 293), (.int 589 0), (.int 183 0), (.str (Str.ofString "/claim/cut.py") 590)])) (List.toArray []))
noncomputable def o295 (P : Params) : Obj := (PySem.Obj.mk (.type "function") .none (.func (FuncData.mk (Str.ofString "rings") (Str.ofString "Net.rings") fa28_13.1 (.stmts fb28_13.1) fs28_13.1 3 [] .none .none .none (.str (Str.ofString "heatnet.net") 343) .none (.ref 294) .none 0)) (List.toArray []))
noncomputable def o296 (P : Params) : Obj := (PySem.Obj.mk (.type "tuple") .none (.seq (List.toArray []) 0) (List.toArray []))
noncomputable def o297 (P : Params) : Obj := (PySem.Obj.mk .none .none (.fields (List.toArray [])) (List.toArray []))
noncomputable def o298 (P : Params) : Obj := (PySem.Obj.mk (.type "tuple") .none (.seq (List.toArray [(.str (Str.ofString "self") 595)]) 0) (List.toArray []))
noncomputable def o299 (P : Params) : Obj := (PySem.Obj.mk (.type "tuple") .none (.seq (List.toArray []) 0) (List.toArray []))
noncomputable def o300 (P : Params) : Obj := (PySem.Obj.mk .none .none (.func (FuncData.mk (Str.ofString "unfed") (Str.ofString "Net.unfed") fa28_14.1 (.stmts fb28_14.1) fs28_14.1 0 [] .none .none .none .none .none .none .none 0)) (List.toArray []))
noncomputable def o301 (P : Params) : Obj := (PySem.Obj.mk (.type "code") .none (.fields (List.toArray [(.str (Str.ofString "unfed") 592), (.str (Str.ofString "Net.unfed") 593), (.str (Str.ofString "/claim/cut.py") 594), (.int 186 0), (.int 1 0), (.int 0 0), (.int 0 0), (.int 3 0), (.ref 296), (.bool .true), (.int 181 0), (.ref 297), .none, (.ref 298), (.ref 299), (.ref 300), (.int 596 0), (.int 186 0), (.str (Str.ofString "/claim/cut.py") 597)])) (List.toArray []))
noncomputable def o302 (P : Params) : Obj := (PySem.Obj.mk (.type "function") .none (.func (FuncData.mk (Str.ofString "unfed") (Str.ofString "Net.unfed") fa28_14.1 (.stmts fb28_14.1) fs28_14.1 3 [] .none .none .none (.str (Str.ofString "heatnet.net") 343) .none (.ref 301) .none 0)) (List.toArray []))
noncomputable def o303 (P : Params) : Obj := (PySem.Obj.mk (.type "tuple") .none (.seq (List.toArray []) 0) (List.toArray []))
noncomputable def o304 (P : Params) : Obj := (PySem.Obj.mk .none .none (.fields (List.toArray [])) (List.toArray []))
noncomputable def o305 (P : Params) : Obj := (PySem.Obj.mk (.type "tuple") .none (.seq (List.toArray [(.str (Str.ofString "self") 602)]) 0) (List.toArray []))
noncomputable def o306 (P : Params) : Obj := (PySem.Obj.mk (.type "tuple") .none (.seq (List.toArray []) 0) (List.toArray []))
noncomputable def o307 (P : Params) : Obj := (PySem.Obj.mk .none .none (.func (FuncData.mk (Str.ofString "lines") (Str.ofString "Net.lines") fa28_15.1 (.stmts fb28_15.1) fs28_15.1 0 [] .none .none .none .none .none .none .none 0)) (List.toArray []))
noncomputable def o308 (P : Params) : Obj := (PySem.Obj.mk (.type "code") .none (.fields (List.toArray [(.str (Str.ofString "lines") 599), (.str (Str.ofString "Net.lines") 600), (.str (Str.ofString "/claim/cut.py") 601), (.int 189 0), (.int 1 0), (.int 0 0), (.int 0 0), (.int 3 0), (.ref 303), (.bool .true), (.int 181 0), (.ref 304), .none, (.ref 305), (.ref 306), (.ref 307), (.int 603 0), (.int 189 0), (.str (Str.ofString "/claim/cut.py") 604)])) (List.toArray []))
noncomputable def o309 (P : Params) : Obj := (PySem.Obj.mk (.type "function") .none (.func (FuncData.mk (Str.ofString "lines") (Str.ofString "Net.lines") fa28_15.1 (.stmts fb28_15.1) fs28_15.1 3 [] .none .none .none (.str (Str.ofString "heatnet.net") 343) .none (.ref 308) .none 0)) (List.toArray []))
noncomputable def o310 (P : Params) : Obj := (PySem.Obj.mk (.type "tuple") .none (.seq (List.toArray [(.str (Str.ofString "bypasses") 606), (.str (Str.ofString "consumers") 607), (.str (Str.ofString "ground") 608), (.str (Str.ofString "joints") 609), (.str (Str.ofString "pipes") 610), (.str (Str.ofString "source") 611)]) 0) (List.toArray []))
noncomputable def o311 (P : Params) : Obj := (PySem.Obj.mk (.type "dict") .none (.dict (List.toArray [(.mk (PySem.PyData.keyHash P (Str.ofString "__module__")) (.str (Str.ofString "__module__") 445) (.str (Str.ofString "heatnet.net") 343)), (.mk (PySem.PyData.keyHash P (Str.ofString "__firstlineno__")) (.str (Str.ofString "__firstlineno__") 449) (.int 100 448)), (.mk (PySem.PyData.keyHash P (Str.ofString "__init__")) (.str (Str.ofString "__init__") 476) (.ref 207)), (.mk (PySem.PyData.keyHash P (Str.ofString "add_joint")) (.str (Str.ofString "add_joint") 484) (.ref 214)), (.mk (PySem.PyData.keyHash P (Str.ofString "need_joint")) (.str (Str.ofString "need_joint") 492) (.ref 221)), (.mk (PySem.PyData.keyHash P (Str.ofString "add_pipe")) (.str (Str.ofString "add_pipe") 506) (.ref 228)), (.mk (PySem.PyData.keyHash P (Str.ofString "pipe")) (.str (Str.ofString "pipe") 514) (.ref 235)), (.mk (PySem.PyData.keyHash P (Str.ofString "add_consumer")) (.str (Str.ofString "add_consumer") 527) (.ref 243)), (.mk (PySem.PyData.keyHash P (Str.ofString "consumer")) (.str (Str.ofString "consumer") 535) (.ref 250)), (.mk (PySem.PyData.keyHash P (Str.ofString "add_bypass")) (.str (Str.ofString "add_bypass") 544) (.ref 257)), (.mk (PySem.PyData.keyHash P (Str.ofString "set_valve")) (.str (Str.ofString "set_valve") 553) (.ref 264)), (.mk (PySem.PyData.keyHash P (Str.ofString "open_pipes")) (.str (Str.ofString "open_pipes") 559) (.ref 269)), (.mk (PySem.PyData.keyHash P (Str.ofString "at")) (.str (Str.ofString "at") 565) (.ref 274)), (.mk (PySem.PyData.keyHash P (Str.ofString "far")) (.str (Str.ofString "far") 574) (.ref 281)), (.mk (PySem.PyData.keyHash P (Str.ofString "fed")) (.str (Str.ofString "fed") 584) (.ref 288)), (.mk (PySem.PyData.keyHash P (Str.ofString "rings")) (.str (Str.ofString "rings") 591) (.ref 295)), (.mk (PySem.PyData.keyHash P (Str.ofString "unfed")) (.str (Str.ofString "unfed") 598) (.ref 302)), (.mk (PySem.PyData.keyHash P (Str.ofString "lines")) (.str (Str.ofString "lines") 605) (.ref 309)), (.mk (PySem.PyData.keyHash P (Str.ofString "__static_attributes__")) (.str (Str.ofString "__static_attributes__") 612) (.ref 310)), (.mk (PySem.PyData.keyHash P (Str.ofString "__dict__")) (.str (Str.ofString "__dict__") 614) (.ref 313)), (.mk (PySem.PyData.keyHash P (Str.ofString "__weakref__")) (.str (Str.ofString "__weakref__") 616) (.ref 314)), (.mk (PySem.PyData.keyHash P (Str.ofString "__doc__")) (.str (Str.ofString "__doc__") 617) .none)]) 4) (List.toArray []))
noncomputable def o312 (P : Params) : Obj := (PySem.Obj.mk (.type "type") .none (.cls (.mk (Str.ofString "Net") [(.type "object")] [(.ref 312), (.type "object")] 311 (Str.ofString "Net") .true [] [] .false .none .false)) (List.toArray [.none, .none, (.some (.str (Str.ofString "Net") 438)), (.some (.str (Str.ofString "Net") 446)), (.some (.builtin "object.__new__")), (.some (.bool .true))]))
noncomputable def o313 (P : Params) : Obj := (PySem.Obj.mk (.type "getset_descriptor") .none (.fields (List.toArray [(.str (Str.ofString "__dict__") 613), (.ref 312), (.builtin "function.__dict__"), (.builtin "function.__dict__#set")])) (List.toArray []))
noncomputable def o314 (P : Params) : Obj := (PySem.Obj.mk (.type "getset_descriptor") .none (.fields (List.toArray [(.str (Str.ofString "__weakref__") 615), (.ref 312), (.builtin "ExceptionGroup.__weakref__"), .none])) (List.toArray []))
noncomputable def o315 (P : Params) : Obj := (PySem.Obj.mk (.type "super") .none (.fields (List.toArray [(.ref 312), (.ref 312), (.ref 312)])) (List.toArray []))
noncomputable def o316 (P : Params) : Obj := (PySem.Obj.mk (.type "builtin_function_or_method") .none (.fields (List.toArray [(.builtin "object.__init_subclass__"), (.ref 312)])) (List.toArray []))
noncomputable def t4 (P : Params) : BT := (.node (boot_o_0 P) (.node (boot_o_1 P) (.node (o3v4 P) (.node (boot_o_7 P) (.node (o15 P) (.node (o31 P) (.node (o63 P) (.node (o127 P) (lf (o255 P)) .nil) (lf (o191 P))) (.node (o95 P) (.node (o159 P) (lf (o287 P)) .nil) (lf (o223 P)))) (.node (o47 P) (.node (o79 P) (.node (o143 P) (lf (o271 P)) .nil) (lf (o207 P))) (.node (o111 P) (.node (o175 P) (lf (o303 P)) .nil) (lf (o239 P))))) (.node (o23 P) (.node (o39 P) (.node (o71 P) (.node (o135 P) (lf (o263 P)) .nil) (lf (o199 P))) (.node (o103 P) (.node (o167 P) (lf (o295 P)) .nil) (lf (o231 P)))) (.node (o55 P) (.node (o87 P) (.node (o151 P) (lf (o279 P)) .nil) (lf (o215 P))) (.node (o119 P) (.node (o183 P) (lf (o311 P)) .nil) (lf (o247 P)))))) (.node (o11 P) (.node (o19 P) (.node (o35 P) (.node (o67 P) (.node (o131 P) (lf (o259 P)) .nil) (lf (o195 P))) (.node (o99 P) (.node (o163 P) (lf (o291 P)) .nil) (lf (o227 P)))) (.node (o51 P) (.node (o83 P) (.node (o147 P) (lf (o275 P)) .nil) (lf (o211 P))) (.node (o115 P) (.node (o179 P) (lf (o307 P)) .nil) (lf (o243 P))))) (.node (o27 P) (.node (o43 P) (.node (o75 P) (.node (o139 P) (lf (o267 P)) .nil) (lf (o203 P))) (.node (o107 P) (.node (o171 P) (lf (o299 P)) .nil) (lf (o235 P)))) (.node (o59 P) (.node (o91 P) (.node (o155 P) (lf (o283 P)) .nil) (lf (o219 P))) (.node (o123 P) (.node (o187 P) (lf (o315 P)) .nil) (lf (o251 P))))))) (.node (boot_o_5 P) (.node (boot_o_9 P) (.node (o17 P) (.node (o33 P) (.node (o65 P) (.node (o129 P) (lf (o257 P)) .nil) (lf (o193 P))) (.node (o97 P) (.node (o161 P) (lf (o289 P)) .nil) (lf (o225 P)))) (.node (o49 P) (.node (o81 P) (.node (o145 P) (lf (o273 P)) .nil) (lf (o209 P))) (.node (o113 P) (.node (o177 P) (lf (o305 P)) .nil) (lf (o241 P))))) (.node (o25 P) (.node (o41 P) (.node (o73 P) (.node (o137 P) (lf (o265 P)) .nil) (lf (o201 P))) (.node (o105 P) (.node (o169 P) (lf (o297 P)) .nil) (lf (o233 P)))) (.node (o57 P) (.node (o89 P) (.node (o153 P) (lf (o281 P)) .nil) (lf (o217 P))) (.node (o121 P) (.node (o185 P) (lf (o313 P)) .nil) (lf (o249 P)))))) (.node (o13 P) (.node (o21 P) (.node (o37 P) (.node (o69 P) (.node (o133 P) (lf (o261 P)) .nil) (lf (o197 P))) (.node (o101 P) (.node (o165 P) (lf (o293 P)) .nil) (lf (o229 P)))) (.node (o53 P) (.node (o85 P) (.node (o149 P) (lf (o277 P)) .nil) (lf (o213 P))) (.node (o117 P) (.node (o181 P) (lf (o309 P)) .nil) (lf (o245 P))))) (.node (o29 P) (.node (o45 P) (.node (o77 P) (.node (o141 P) (lf (o269 P)) .nil) (lf (o205 P))) (.node (o109 P) (.node (o173 P) (lf (o301 P)) .nil) (lf (o237 P)))) (.node (o61 P) (.node (o93 P) (.node (o157 P) (lf (o285 P)) .nil) (lf (o221 P))) (.node (o125 P) (lf (o189 P)) (lf (o253 P)))))))) (.node (boot_o_2 P) (.node (boot_o_4 P) (.node (boot_o_8 P) (.node (o16 P) (.node (o32 P) (.node (o64 P) (.node (o128 P) (lf (o256 P)) .nil) (lf (o192 P))) (.node (o96 P) (.node (o160 P) (lf (o288 P)) .nil) (lf (o224 P)))) (.node (o48 P) (.node (o80 P) (.node (o144 P) (lf (o272 P)) .nil) (lf (o208 P))) (.node (o112 P) (.node (o176 P) (lf (o304 P)) .nil) (lf (o240 P))))) (.node (o24 P) (.node (o40 P) (.node (o72 P) (.node (o136 P) (lf (o264 P)) .nil) (lf (o200 P))) (.node (o104 P) (.node (o168 P) (lf (o296 P)) .nil) (lf (o232 P)))) (.node (o56 P) (.node (o88 P) (.node (o152 P) (lf (o280 P)) .nil) (lf (o216 P))) (.node (o120 P) (.node (o184 P) (lf (o312 P)) .nil) (lf (o248 P)))))) (.node (o12v5 P) (.node (o20 P) (.node (o36 P) (.node (o68 P) (.node (o132 P) (lf (o260 P)) .nil) (lf (o196 P))) (.node (o100 P) (.node (o164 P) (lf (o292 P)) .nil) (lf (o228 P)))) (.node (o52 P) (.node (o84 P) (.node (o148 P) (lf (o276 P)) .nil) (lf (o212 P))) (.node (o116 P) (.node (o180 P) (lf (o308 P)) .nil) (lf (o244 P))))) (.node (o28 P) (.node (o44 P) (.node (o76 P) (.node (o140 P) (lf (o268 P)) .nil) (lf (o204 P))) (.node (o108 P) (.node (o172 P) (lf (o300 P)) .nil) (lf (o236 P)))) (.node (o60 P) (.node (o92 P) (.node (o156 P) (lf (o284 P)) .nil) (lf (o220 P))) (.node (o124 P) (.node (o188 P) (lf (o316 P)) .nil) (lf (o252 P))))))) (.node (boot_o_6 P) (.node (boot_o_10 P) (.node (o18 P) (.node (o34 P) (.node (o66 P) (.node (o130 P) (lf (o258 P)) .nil) (lf (o194 P))) (.node (o98 P) (.node (o162 P) (lf (o290 P)) .nil) (lf (o226 P)))) (.node (o50 P) (.node (o82 P) (.node (o146 P) (lf (o274 P)) .nil) (lf (o210 P))) (.node (o114 P) (.node (o178 P) (lf (o306 P)) .nil) (lf (o242 P))))) (.node (o26 P) (.node (o42 P) (.node (o74 P) (.node (o138 P) (lf (o266 P)) .nil) (lf (o202 P))) (.node (o106 P) (.node (o170 P) (lf (o298 P)) .nil) (lf (o234 P)))) (.node (o58 P) (.node (o90 P) (.node (o154 P) (lf (o282 P)) .nil) (lf (o218 P))) (.node (o122 P) (.node (o186 P) (lf (o314 P)) .nil) (lf (o250 P)))))) (.node (o14 P) (.node (o22 P) (.node (o38 P) (.node (o70 P) (.node (o134 P) (lf (o262 P)) .nil) (lf (o198 P))) (.node (o102 P) (.node (o166 P) (lf (o294 P)) .nil) (lf (o230 P)))) (.node (o54 P) (.node (o86 P) (.node (o150 P) (lf (o278 P)) .nil) (lf (o214 P))) (.node (o118 P) (.node (o182 P) (lf (o310 P)) .nil) (lf (o246 P))))) (.node (o30 P) (.node (o46 P) (.node (o78 P) (.node (o142 P) (lf (o270 P)) .nil) (lf (o206 P))) (.node (o110 P) (.node (o174 P) (lf (o302 P)) .nil) (lf (o238 P)))) (.node (o62 P) (.node (o94 P) (.node (o158 P) (lf (o286 P)) .nil) (lf (o222 P))) (.node (o126 P) (lf (o190 P)) (lf (o254 P)))))))))
noncomputable def t4S (P : Params) (os : OsState) : SharedT := ⟨t4 P, 317, (.mk [] [] [] 0 [] [] .false (List.toArray []) [] 0 .false .false .false 0 [2000, 10, 10] .false 0 .true [] [] 0 .false), ⟨[]⟩, (.mk 0 0 0 0), 620, os⟩
set_option maxRecDepth 100000 in
theorem pc4f (w : World) : (fun os => segRunT treeTable pw (w.withFollow "special-get-raises" false) 11 annH 1 1027 (t3S ((w.withFollow "special-get-raises" false)).params os) (piecesOf (((behindTheImports pw).drop 28).take 1) envH cE ((.mk 89 0 99 58) : Pos) [topFrame qH])) = fun os => some (.next, t4S ((w.withFollow "special-get-raises" false)).params os, cE, ((.mk 100 0 190 16) : Pos)) := by
  unfold piecesOf; rw [PySem.W.Fast.te10110043849684766642, PySem.W.Fast.te14364793385576792824, PySem.W.Fast.te12563942051412417395]; kernel_rfl!
set_option maxRecDepth 100000 in
theorem pc4t (w : World) : (fun os => segRunT treeTable pw (w.withFollow "special-get-raises" true) 11 annH 1 1027 (t3S ((w.withFollow "special-get-raises" true)).params os) (piecesOf (((behindTheImports pw).drop 28).take 1) envH cE ((.mk 89 0 99 58) : Pos) [topFrame qH])) = fun os => some (.next, t4S ((w.withFollow "special-get-raises" true)).params os, cE, ((.mk 100 0 190 16) : Pos)) := by
  unfold piecesOf; rw [PySem.W.Fast.te10110043849684766642, PySem.W.Fast.te14364793385576792824, PySem.W.Fast.te12563942051412417395]; kernel_rfl!
theorem pc4 (w : World) : (fun os => segRunT treeTable pw w 11 annH 1 1027 (t3S (w).params os) (piecesOf (((behindTheImports pw).drop 28).take 1) envH cE ((.mk 89 0 99 58) : Pos) [topFrame qH])) = fun os => some (.next, t4S (w).params os, cE, ((.mk 100 0 190 16) : Pos)) := byRow2 "special-get-raises" (P := fun w => (fun os => segRunT treeTable pw w 11 annH 1 1027 (t3S (w).params os) (piecesOf (((behindTheImports pw).drop 28).take 1) envH cE ((.mk 89 0 99 58) : Pos) [topFrame qH])) = fun os => some (.next, t4S (w).params os, cE, ((.mk 100 0 190 16) : Pos))) (fun w => pc4f w) (fun w => pc4t w) w
noncomputable def o3v5 (P : Params) : Obj := (PySem.Obj.mk (.type "dict") .none (.dict (List.toArray [(.mk (PySem.PyData.keyHash P (Str.ofString "__name__")) (.str (Str.ofString "__name__") 165) (.str (Str.ofString "heatnet.meters") 656)), (.mk (PySem.PyData.keyHash P (Str.ofString "__doc__")) (.str (Str.ofString "__doc__") 166) .none), (.mk (PySem.PyData.keyHash P (Str.ofString "__package__")) (.str (Str.ofString "__package__") 167) .none), (.mk (PySem.PyData.keyHash P (Str.ofString "__loader__")) (.str (Str.ofString "__loader__") 168) (.builtin "__main__.__loader__#opaque")), (.mk (PySem.PyData.keyHash P (Str.ofString "__spec__")) (.str (Str.ofString "__spec__") 169) .none), (.mk (PySem.PyData.keyHash P (Str.ofString "__annotations__")) (.str (Str.ofString "__annotations__") 170) (.ref 6)), (.mk (PySem.PyData.keyHash P (Str.ofString "__builtins__")) (.str (Str.ofString "__builtins__") 171) (.ref 4)), (.mk (PySem.PyData.keyHash P (Str.ofString "__file__")) (.str (Str.ofString "__file__") 173) (.str (Str.ofString "/claim/cut.py") 172)), (.mk (PySem.PyData.keyHash P (Str.ofString "__cached__")) (.str (Str.ofString "__cached__") 174) .none), (.mk (PySem.PyData.keyHash P (Str.ofString "_wall")) (.str (Str.ofString "_wall") 193) (.ref 21)), (.mk (PySem.PyData.keyHash P (Str.ofString "HeatError")) (.str (Str.ofString "HeatError") 213) (.ref 31)), (.mk (PySem.PyData.keyHash P (Str.ofString "need_number")) (.str (Str.ofString "need_number") 223) (.ref 41)), (.mk (PySem.PyData.keyHash P (Str.ofString "shown")) (.str (Str.ofString "shown") 230) (.ref 48)), (.mk (PySem.PyData.keyHash P (Str.ofString "need_name")) (.str (Str.ofString "need_name") 240) (.ref 55)), (.mk (PySem.PyData.keyHash P (Str.ofString "FIGURES")) (.str (Str.ofString "FIGURES") 244) (.int 2000 243)), (.mk (PySem.PyData.keyHash P (Str.ofString "MOST")) (.str (Str.ofString "MOST") 247) (.int 100000000000000000000000000000000000000000000000000000000000000000000000000000000000000000000000000000000000000000000000000000000000000000000000000000000000000000000000000000000000000000000000000000000000000000000000000000000000000000000000000000000000000000000000000000000000000000000000000000000000000000000000000000000000000000000000000000000000000000000000000000000000000000000000000000000000000000000000000000000000000000000000000000000000000000000000000000000000000000000000000000000000000000000000000000000000000000000000000000000000000000000000000000000000000000000000000000000000000000000000000000000000000000000000000000000000000000000000000000000000000000000000000000000000000000000000000000000000000000000000000000000000000000000000000000000000000000000000000000000000000000000000000000000000000000000000000000000000000000000000000000000000000000000000000000000000000000000000000000000000000000000000000000000000000000000000000000000000000000000000000000000000000000000000000000000000000000000000000000000000000000000000000000000000000000000000000000000000000000000000000000000000000000000000000000000000000000000000000000000000000000000000000000000000000000000000000000000000000000000000000000000000000000000000000000000000000000000000000000000000000000000000000000000000000000000000000000000000000000000000000000000000000000000000000000000000000000000000000000000000000000000000000000000000000000000000000000000000000000000000000000000000000000000000000000000000000000000000000000000000000000000000000000000000000000000000000000000000000000000000000000000000000000000000000000000000000000000000000000000000000000000000000000000000000000000000000000000000000000000000000000000000000000000000000000000000000000000000000000000000000000000000000000000000000000000000000000000000000000000000000000000000000000000000000000000000000000000000000000000000000000000000000000000000000000000000000000000000000000000000000000000000000000000000000000000000000000000000000000000000000000000000000000000 246)), (.mk (PySem.PyData.keyHash P (Str.ofString "NOUGHT")) (.str (Str.ofString "NOUGHT") 250) (.ref 56)), (.mk (PySem.PyData.keyHash P (Str.ofString "ONE")) (.str (Str.ofString "ONE") 253) (.ref 57)), (.mk (PySem.PyData.keyHash P (Str.ofString "divisor")) (.str (Str.ofString "divisor") 261) (.ref 64)), (.mk (PySem.PyData.keyHash P (Str.ofString "frac")) (.str (Str.ofString "frac") 271) (.ref 72)), (.mk (PySem.PyData.keyHash P (Str.ofString "need")) (.str (Str.ofString "need") 279) (.ref 80)), (.mk (PySem.PyData.keyHash P (Str.ofString "plus")) (.str (Str.ofString "plus") 287) (.ref 87)), (.mk (PySem.PyData.keyHash P (Str.ofString "minus")) (.str (Str.ofString "minus") 295) (.ref 94)), (.mk (PySem.PyData.keyHash P (Str.ofString "times")) (.str (Str.ofString "times") 303) (.ref 101)), (.mk (PySem.PyData.keyHash P (Str.ofString "over")) (.str (Str.ofString "over") 311) (.ref 108)), (.mk (PySem.PyData.keyHash P (Str.ofString "less")) (.str (Str.ofString "less") 319) (.ref 115)), (.mk (PySem.PyData.keyHash P (Str.ofString "total")) (.str (Str.ofString "total") 328) (.ref 122)), (.mk (PySem.PyData.keyHash P (Str.ofString "up")) (.str (Str.ofString "up") 335) (.ref 129)), (.mk (PySem.PyData.keyHash P (Str.ofString "show")) (.str (Str.ofString "show") 342) (.ref 136)), (.mk (PySem.PyData.keyHash P (Str.ofString "JOINTS")) (.str (Str.ofString "JOINTS") 346) (.int 60 345)), (.mk (PySem.PyData.keyHash P (Str.ofString "PIPES")) (.str (Str.ofString "PIPES") 348) (.int 90 347)), (.mk (PySem.PyData.keyHash P (Str.ofString "HOURS")) (.str (Str.ofString "HOURS") 350) (.int 24 349)), (.mk (PySem.PyData.keyHash P (Str.ofString "Pipe")) (.str (Str.ofString "Pipe") 392) (.ref 153)), (.mk (PySem.PyData.keyHash P (Str.ofString "Consumer")) (.str (Str.ofString "Consumer") 437) (.ref 181)), (.mk (PySem.PyData.keyHash P (Str.ofString "Net")) (.str (Str.ofString "Net") 619) (.ref 312)), (.mk (PySem.PyData.keyHash P (Str.ofString "behind")) (.str (Str.ofString "behind") 632) (.ref 323)), (.mk (PySem.PyData.keyHash P (Str.ofString "mixed")) (.str (Str.ofString "mixed") 638) (.ref 328)), (.mk (PySem.PyData.keyHash P (Str.ofString "day_heat")) (.str (Str.ofString "day_heat") 649) (.ref 335)), (.mk (PySem.PyData.keyHash P (Str.ofString "count_days")) (.str (Str.ofString "count_days") 655) (.ref 340))]) 39) (List.toArray []))
noncomputable def o12v6 (P : Params) : Obj := (PySem.Obj.mk .none .none (.fields (List.toArray ((.int 1 0) :: (.int 0 0) :: (.ref 20) :: (.int 5 0) :: (.int 0 0) :: (.ref 27) :: (.int 7 0) :: (.int 0 0) :: (.ref 40) :: (.int 11 0) :: (.int 0 0) :: (.ref 47) :: (.int 17 0) :: (.int 0 0) :: (.ref 54) :: (.int 31 0) :: (.int 0 0) :: (.ref 63) :: (.int 37 0) :: (.int 0 0) :: (.ref 71) :: (.int 47 0) :: (.int 0 0) :: (.ref 79) :: (.int 53 0) :: (.int 0 0) :: (.ref 86) :: (.int 55 0) :: (.int 0 0) :: (.ref 93) :: (.int 57 0) :: (.int 0 0) :: (.ref 100) :: (.int 59 0) :: (.int 0 0) :: (.ref 107) :: (.int 63 0) :: (.int 0 0) :: (.ref 114) :: (.int 65 0) :: (.int 0 0) :: (.ref 121) :: (.int 70 0) :: (.int 0 0) :: (.ref 128) :: (.int 72 0) :: (.int 0 0) :: (.ref 135) :: (.int 78 0) :: (.int 0 0) :: (.ref 142) :: (.int 89 0) :: (.int 0 0) :: (.ref 163) :: (.int 100 0) :: (.int 0 0) :: (.ref 191) :: (.int 192 0) :: (.int 0 0) :: (.ref 322) :: (.int 195 0) :: (.int 0 0) :: (.ref 327) :: (.int 201 0) :: (.int 0 0) :: (.ref 334) :: (.int 204 0) :: (.int 0 0) :: (.ref 339) :: []))) (List.toArray []))
noncomputable def o317 (P : Params) : Obj := (PySem.Obj.mk (.type "tuple") .none (.seq (List.toArray []) 0) (List.toArray []))
noncomputable def o318 (P : Params) : Obj := (PySem.Obj.mk .none .none (.fields (List.toArray [])) (List.toArray []))
noncomputable def o319 (P : Params) : Obj := (PySem.Obj.mk (.type "tuple") .none (.seq (List.toArray [(.str (Str.ofString "net") 625), (.str (Str.ofString "pipe") 626), (.str (Str.ofString "flow") 627), (.str (Str.ofString "warm") 628), (.str (Str.ofString "keep") 629)]) 0) (List.toArray []))
noncomputable def o320 (P : Params) : Obj := (PySem.Obj.mk (.type "tuple") .none (.seq (List.toArray []) 0) (List.toArray []))
noncomputable def o321 (P : Params) : Obj := (PySem.Obj.mk .none .none (.func (FuncData.mk (Str.ofString "behind") (Str.ofString "behind") fa30.1 (.stmts fb30.1) fs30.1 0 [] .none .none .none .none .none .none .none 0)) (List.toArray []))
noncomputable def o322 (P : Params) : Obj := (PySem.Obj.mk (.type "code") .none (.fields (List.toArray [(.str (Str.ofString "behind") 622), (.str (Str.ofString "behind") 623), (.str (Str.ofString "/claim/cut.py") 624), (.int 192 0), (.int 4 0), (.int 0 0), (.int 0 0), (.int 3 0), (.ref 317), (.bool .true), (.int 181 0), (.ref 318), .none, (.ref 319), (.ref 320), (.ref 321), (.int 630 0), (.int 192 0), (.str (Str.ofString "/claim/cut.py") 631)])) (List.toArray []))
noncomputable def o323 (P : Params) : Obj := (PySem.Obj.mk (.type "function") .none (.func (FuncData.mk (Str.ofString "behind") (Str.ofString "behind") fa30.1 (.stmts fb30.1) fs30.1 3 [] .none .none .none (.str (Str.ofString "heatnet.warmth") 620) .none (.ref 322) .none 0)) (List.toArray []))
noncomputable def o324 (P : Params) : Obj := (PySem.Obj.mk (.type "tuple") .none (.seq (List.toArray []) 0) (List.toArray []))
noncomputable def o325 (P : Params) : Obj := (PySem.Obj.mk .none .none (.fields (List.toArray [])) (List.toArray []))
noncomputable def o326 (P : Params) : Obj := (PySem.Obj.mk .none .none (.func (FuncData.mk (Str.ofString "mixed") (Str.ofString "mixed") fa31.1 (.stmts fb31.1) fs31.1 0 [] .none .none .none .none .none .none .none 0)) (List.toArray []))
noncomputable def o327 (P : Params) : Obj := (PySem.Obj.mk (.type "code") .none (.fields (List.toArray [(.str (Str.ofString "mixed") 633), (.str (Str.ofString "mixed") 634), (.str (Str.ofString "/claim/cut.py") 635), (.int 195 0), (.int 1 0), (.int 0 0), (.int 0 0), (.int 3 0), (.ref 324), (.bool .true), (.int 181 0), (.ref 325), .none, .none, .none, (.ref 326), (.int 636 0), (.int 195 0), (.str (Str.ofString "/claim/cut.py") 637)])) (List.toArray []))
noncomputable def o328 (P : Params) : Obj := (PySem.Obj.mk (.type "function") .none (.func (FuncData.mk (Str.ofString "mixed") (Str.ofString "mixed") fa31.1 (.stmts fb31.1) fs31.1 3 [] .none .none .none (.str (Str.ofString "heatnet.warmth") 620) .none (.ref 327) .none 0)) (List.toArray []))
noncomputable def o329 (P : Params) : Obj := (PySem.Obj.mk (.type "tuple") .none (.seq (List.toArray []) 0) (List.toArray []))
noncomputable def o330 (P : Params) : Obj := (PySem.Obj.mk .none .none (.fields (List.toArray [])) (List.toArray []))
noncomputable def o331 (P : Params) : Obj := (PySem.Obj.mk (.type "tuple") .none (.seq (List.toArray [(.str (Str.ofString "net") 644), (.str (Str.ofString "name") 645), (.str (Str.ofString "one") 646)]) 0) (List.toArray []))
noncomputable def o332 (P : Params) : Obj := (PySem.Obj.mk (.type "tuple") .none (.seq (List.toArray []) 0) (List.toArray []))
noncomputable def o333 (P : Params) : Obj := (PySem.Obj.mk .none .none (.func (FuncData.mk (Str.ofString "day_heat") (Str.ofString "day_heat") fa33.1 (.stmts fb33.1) fs33.1 0 [] .none .none .none .none .none .none .none 0)) (List.toArray []))
noncomputable def o334 (P : Params) : Obj := (PySem.Obj.mk (.type "code") .none (.fields (List.toArray [(.str (Str.ofString "day_heat") 641), (.str (Str.ofString "day_heat") 642), (.str (Str.ofString "/claim/cut.py") 643), (.int 201 0), (.int 2 0), (.int 0 0), (.int 0 0), (.int 3 0), (.ref 329), (.bool .true), (.int 181 0), (.ref 330), .none, (.ref 331), (.ref 332), (.ref 333), (.int 647 0), (.int 201 0), (.str (Str.ofString "/claim/cut.py") 648)])) (List.toArray []))
noncomputable def o335 (P : Params) : Obj := (PySem.Obj.mk (.type "function") .none (.func (FuncData.mk (Str.ofString "day_heat") (Str.ofString "day_heat") fa33.1 (.stmts fb33.1) fs33.1 3 [] .none .none .none (.str (Str.ofString "heatnet.running") 639) .none (.ref 334) .none 0)) (List.toArray []))
noncomputable def o336 (P : Params) : Obj := (PySem.Obj.mk (.type "tuple") .none (.seq (List.toArray []) 0) (List.toArray []))
noncomputable def o337 (P : Params) : Obj := (PySem.Obj.mk .none .none (.fields (List.toArray [])) (List.toArray []))
noncomputable def o338 (P : Params) : Obj := (PySem.Obj.mk .none .none (.func (FuncData.mk (Str.ofString "count_days") (Str.ofString "count_days") fa34.1 (.stmts fb34.1) fs34.1 0 [] .none .none .none .none .none .none .none 0)) (List.toArray []))
noncomputable def o339 (P : Params) : Obj := (PySem.Obj.mk (.type "code") .none (.fields (List.toArray [(.str (Str.ofString "count_days") 650), (.str (Str.ofString "count_days") 651), (.str (Str.ofString "/claim/cut.py") 652), (.int 204 0), (.int 4 0), (.int 0 0), (.int 0 0), (.int 3 0), (.ref 336), (.bool .true), (.int 181 0), (.ref 337), .none, .none, .none, (.ref 338), (.int 653 0), (.int 204 0), (.str (Str.ofString "/claim/cut.py") 654)])) (List.toArray []))
noncomputable def o340 (P : Params) : Obj := (PySem.Obj.mk (.type "function") .none (.func (FuncData.mk (Str.ofString "count_days") (Str.ofString "count_days") fa34.1 (.stmts fb34.1) fs34.1 3 [] .none .none .none (.str (Str.ofString "heatnet.running") 639) .none (.ref 339) .none 0)) (List.toArray []))
noncomputable def t5 (P : Params) : BT := (.node (boot_o_0 P) (.node (boot_o_1 P) (.node (o3v5 P) (.node (boot_o_7 P) (.node (o15 P) (.node (o31 P) (.node (o63 P) (.node (o127 P) (lf (o255 P)) .nil) (.node (o191 P) (lf (o319 P)) .nil)) (.node (o95 P) (.node (o159 P) (lf (o287 P)) .nil) (lf (o223 P)))) (.node (o47 P) (.node (o79 P) (.node (o143 P) (lf (o271 P)) .nil) (.node (o207 P) (lf (o335 P)) .nil)) (.node (o111 P) (.node (o175 P) (lf (o303 P)) .nil) (lf (o239 P))))) (.node (o23 P) (.node (o39 P) (.node (o71 P) (.node (o135 P) (lf (o263 P)) .nil) (.node (o199 P) (lf (o327 P)) .nil)) (.node (o103 P) (.node (o167 P) (lf (o295 P)) .nil) (lf (o231 P)))) (.node (o55 P) (.node (o87 P) (.node (o151 P) (lf (o279 P)) .nil) (lf (o215 P))) (.node (o119 P) (.node (o183 P) (lf (o311 P)) .nil) (lf (o247 P)))))) (.node (o11 P) (.node (o19 P) (.node (o35 P) (.node (o67 P) (.node (o131 P) (lf (o259 P)) .nil) (.node (o195 P) (lf (o323 P)) .nil)) (.node (o99 P) (.node (o163 P) (lf (o291 P)) .nil) (lf (o227 P)))) (.node (o51 P) (.node (o83 P) (.node (o147 P) (lf (o275 P)) .nil) (.node (o211 P) (lf (o339 P)) .nil)) (.node (o115 P) (.node (o179 P) (lf (o307 P)) .nil) (lf (o243 P))))) (.node (o27 P) (.node (o43 P) (.node (o75 P) (.node (o139 P) (lf (o267 P)) .nil) (.node (o203 P) (lf (o331 P)) .nil)) (.node (o107 P) (.node (o171 P) (lf (o299 P)) .nil) (lf (o235 P)))) (.node (o59 P) (.node (o91 P) (.node (o155 P) (lf (o283 P)) .nil) (lf (o219 P))) (.node (o123 P) (.node (o187 P) (lf (o315 P)) .nil) (lf (o251 P))))))) (.node (boot_o_5 P) (.node (boot_o_9 P) (.node (o17 P) (.node (o33 P) (.node (o65 P) (.node (o129 P) (lf (o257 P)) .nil) (.node (o193 P) (lf (o321 P)) .nil)) (.node (o97 P) (.node (o161 P) (lf (o289 P)) .nil) (lf (o225 P)))) (.node (o49 P) (.node (o81 P) (.node (o145 P) (lf (o273 P)) .nil) (.node (o209 P) (lf (o337 P)) .nil)) (.node (o113 P) (.node (o177 P) (lf (o305 P)) .nil) (lf (o241 P))))) (.node (o25 P) (.node (o41 P) (.node (o73 P) (.node (o137 P) (lf (o265 P)) .nil) (.node (o201 P) (lf (o329 P)) .nil)) (.node (o105 P) (.node (o169 P) (lf (o297 P)) .nil) (lf (o233 P)))) (.node (o57 P) (.node (o89 P) (.node (o153 P) (lf (o281 P)) .nil) (lf (o217 P))) (.node (o121 P) (.node (o185 P) (lf (o313 P)) .nil) (lf (o249 P)))))) (.node (o13 P) (.node (o21 P) (.node (o37 P) (.node (o69 P) (.node (o133 P) (lf (o261 P)) .nil) (.node (o197 P) (lf (o325 P)) .nil)) (.node (o101 P) (.node (o165 P) (lf (o293 P)) .nil) (lf (o229 P)))) (.node (o53 P) (.node (o85 P) (.node (o149 P) (lf (o277 P)) .nil) (lf (o213 P))) (.node (o117 P) (.node (o181 P) (lf (o309 P)) .nil) (lf (o245 P))))) (.node (o29 P) (.node (o45 P) (.node (o77 P) (.node (o141 P) (lf (o269 P)) .nil) (.node (o205 P) (lf (o333 P)) .nil)) (.node (o109 P) (.node (o173 P) (lf (o301 P)) .nil) (lf (o237 P)))) (.node (o61 P) (.node (o93 P) (.node (o157 P) (lf (o285 P)) .nil) (lf (o221 P))) (.node (o125 P) (.node (o189 P) (lf (o317 P)) .nil) (lf (o253 P)))))))) (.node (boot_o_2 P) (.node (boot_o_4 P) (.node (boot_o_8 P) (.node (o16 P) (.node (o32 P) (.node (o64 P) (.node (o128 P) (lf (o256 P)) .nil) (.node (o192 P) (lf (o320 P)) .nil)) (.node (o96 P) (.node (o160 P) (lf (o288 P)) .nil) (lf (o224 P)))) (.node (o48 P) (.node (o80 P) (.node (o144 P) (lf (o272 P)) .nil) (.node (o208 P) (lf (o336 P)) .nil)) (.node (o112 P) (.node (o176 P) (lf (o304 P)) .nil) (lf (o240 P))))) (.node (o24 P) (.node (o40 P) (.node (o72 P) (.node (o136 P) (lf (o264 P)) .nil) (.node (o200 P) (lf (o328 P)) .nil)) (.node (o104 P) (.node (o168 P) (lf (o296 P)) .nil) (lf (o232 P)))) (.node (o56 P) (.node (o88 P) (.node (o152 P) (lf (o280 P)) .nil) (lf (o216 P))) (.node (o120 P) (.node (o184 P) (lf (o312 P)) .nil) (lf (o248 P)))))) (.node (o12v6 P) (.node (o20 P) (.node (o36 P) (.node (o68 P) (.node (o132 P) (lf (o260 P)) .nil) (.node (o196 P) (lf (o324 P)) .nil)) (.node (o100 P) (.node (o164 P) (lf (o292 P)) .nil) (lf (o228 P)))) (.node (o52 P) (.node (o84 P) (.node (o148 P) (lf (o276 P)) .nil) (.node (o212 P) (lf (o340 P)) .nil)) (.node (o116 P) (.node (o180 P) (lf (o308 P)) .nil) (lf (o244 P))))) (.node (o28 P) (.node (o44 P) (.node (o76 P) (.node (o140 P) (lf (o268 P)) .nil) (.node (o204 P) (lf (o332 P)) .nil)) (.node (o108 P) (.node (o172 P) (lf (o300 P)) .nil) (lf (o236 P)))) (.node (o60 P) (.node (o92 P) (.node (o156 P) (lf (o284 P)) .nil) (lf (o220 P))) (.node (o124 P) (.node (o188 P) (lf (o316 P)) .nil) (lf (o252 P))))))) (.node (boot_o_6 P) (.node (boot_o_10 P) (.node (o18 P) (.node (o34 P) (.node (o66 P) (.node (o130 P) (lf (o258 P)) .nil) (.node (o194 P) (lf (o322 P)) .nil)) (.node (o98 P) (.node (o162 P) (lf (o290 P)) .nil) (lf (o226 P)))) (.node (o50 P) (.node (o82 P) (.node (o146 P) (lf (o274 P)) .nil) (.node (o210 P) (lf (o338 P)) .nil)) (.node (o114 P) (.node (o178 P) (lf (o306 P)) .nil) (lf (o242 P))))) (.node (o26 P) (.node (o42 P) (.node (o74 P) (.node (o138 P) (lf (o266 P)) .nil) (.node (o202 P) (lf (o330 P)) .nil)) (.node (o106 P) (.node (o170 P) (lf (o298 P)) .nil) (lf (o234 P)))) (.node (o58 P) (.node (o90 P) (.node (o154 P) (lf (o282 P)) .nil) (lf (o218 P))) (.node (o122 P) (.node (o186 P) (lf (o314 P)) .nil) (lf (o250 P)))))) (.node (o14 P) (.node (o22 P) (.node (o38 P) (.node (o70 P) (.node (o134 P) (lf (o262 P)) .nil) (.node (o198 P) (lf (o326 P)) .nil)) (.node (o102 P) (.node (o166 P) (lf (o294 P)) .nil) (lf (o230 P)))) (.node (o54 P) (.node (o86 P) (.node (o150 P) (lf (o278 P)) .nil) (lf (o214 P))) (.node (o118 P) (.node (o182 P) (lf (o310 P)) .nil) (lf (o246 P))))) (.node (o30 P) (.node (o46 P) (.node (o78 P) (.node (o142 P) (lf (o270 P)) .nil) (.node (o206 P) (lf (o334 P)) .nil)) (.node (o110 P) (.node (o174 P) (lf (o302 P)) .nil) (lf (o238 P)))) (.node (o62 P) (.node (o94 P) (.node (o158 P) (lf (o286 P)) .nil) (lf (o222 P))) (.node (o126 P) (.node (o190 P) (lf (o318 P)) .nil) (lf (o254 P)))))))))
noncomputable def t5S (P : Params) (os : OsState) : SharedT := ⟨t5 P, 341, (.mk [] [] [] 0 [] [] .false (List.toArray []) [] 0 .false .false .false 0 [2000, 10, 10] .false 0 .true [] [] 0 .false), ⟨[]⟩, (.mk 0 0 0 0), 658, os⟩
set_option maxRecDepth 100000 in
theorem pc5 (w : World) : (fun os => segRunT treeTable pw w 11 annH 1 144 (t4S (w).params os) (piecesOf (((behindTheImports pw).drop 29).take 7) envH cE ((.mk 100 0 190 16) : Pos) [topFrame qH])) = fun os => some (.next, t5S (w).params os, cE, ((.mk 237 0 237 8) : Pos)) := by
  unfold piecesOf; rw [PySem.W.Fast.te10110043849684766642, PySem.W.Fast.te14364793385576792824, PySem.W.Fast.te12563942051412417395]; kernel_rfl!
noncomputable def o3v6 (P : Params) : Obj := (PySem.Obj.mk (.type "dict") .none (.dict (List.toArray ((.mk (PySem.PyData.keyHash P (Str.ofString "__name__")) (.str (Str.ofString "__name__") 165) (.str (Str.ofString "heatnet.travel") 737)) :: (.mk (PySem.PyData.keyHash P (Str.ofString "__doc__")) (.str (Str.ofString "__doc__") 166) .none) :: (.mk (PySem.PyData.keyHash P (Str.ofString "__package__")) (.str (Str.ofString "__package__") 167) .none) :: (.mk (PySem.PyData.keyHash P (Str.ofString "__loader__")) (.str (Str.ofString "__loader__") 168) (.builtin "__main__.__loader__#opaque")) :: (.mk (PySem.PyData.keyHash P (Str.ofString "__spec__")) (.str (Str.ofString "__spec__") 169) .none) :: (.mk (PySem.PyData.keyHash P (Str.ofString "__annotations__")) (.str (Str.ofString "__annotations__") 170) (.ref 6)) :: (.mk (PySem.PyData.keyHash P (Str.ofString "__builtins__")) (.str (Str.ofString "__builtins__") 171) (.ref 4)) :: (.mk (PySem.PyData.keyHash P (Str.ofString "__file__")) (.str (Str.ofString "__file__") 173) (.str (Str.ofString "/claim/cut.py") 172)) :: (.mk (PySem.PyData.keyHash P (Str.ofString "__cached__")) (.str (Str.ofString "__cached__") 174) .none) :: (.mk (PySem.PyData.keyHash P (Str.ofString "_wall")) (.str (Str.ofString "_wall") 193) (.ref 21)) :: (.mk (PySem.PyData.keyHash P (Str.ofString "HeatError")) (.str (Str.ofString "HeatError") 213) (.ref 31)) :: (.mk (PySem.PyData.keyHash P (Str.ofString "need_number")) (.str (Str.ofString "need_number") 223) (.ref 41)) :: (.mk (PySem.PyData.keyHash P (Str.ofString "shown")) (.str (Str.ofString "shown") 230) (.ref 48)) :: (.mk (PySem.PyData.keyHash P (Str.ofString "need_name")) (.str (Str.ofString "need_name") 240) (.ref 55)) :: (.mk (PySem.PyData.keyHash P (Str.ofString "FIGURES")) (.str (Str.ofString "FIGURES") 244) (.int 2000 243)) :: (.mk (PySem.PyData.keyHash P (Str.ofString "MOST")) (.str (Str.ofString "MOST") 247) (.int 100000000000000000000000000000000000000000000000000000000000000000000000000000000000000000000000000000000000000000000000000000000000000000000000000000000000000000000000000000000000000000000000000000000000000000000000000000000000000000000000000000000000000000000000000000000000000000000000000000000000000000000000000000000000000000000000000000000000000000000000000000000000000000000000000000000000000000000000000000000000000000000000000000000000000000000000000000000000000000000000000000000000000000000000000000000000000000000000000000000000000000000000000000000000000000000000000000000000000000000000000000000000000000000000000000000000000000000000000000000000000000000000000000000000000000000000000000000000000000000000000000000000000000000000000000000000000000000000000000000000000000000000000000000000000000000000000000000000000000000000000000000000000000000000000000000000000000000000000000000000000000000000000000000000000000000000000000000000000000000000000000000000000000000000000000000000000000000000000000000000000000000000000000000000000000000000000000000000000000000000000000000000000000000000000000000000000000000000000000000000000000000000000000000000000000000000000000000000000000000000000000000000000000000000000000000000000000000000000000000000000000000000000000000000000000000000000000000000000000000000000000000000000000000000000000000000000000000000000000000000000000000000000000000000000000000000000000000000000000000000000000000000000000000000000000000000000000000000000000000000000000000000000000000000000000000000000000000000000000000000000000000000000000000000000000000000000000000000000000000000000000000000000000000000000000000000000000000000000000000000000000000000000000000000000000000000000000000000000000000000000000000000000000000000000000000000000000000000000000000000000000000000000000000000000000000000000000000000000000000000000000000000000000000000000000000000000000000000000000000000000000000000000000000000000000000000000000000000000000000000000000000000000000000 246)) :: (.mk (PySem.PyData.keyHash P (Str.ofString "NOUGHT")) (.str (Str.ofString "NOUGHT") 250) (.ref 56)) :: (.mk (PySem.PyData.keyHash P (Str.ofString "ONE")) (.str (Str.ofString "ONE") 253) (.ref 57)) :: (.mk (PySem.PyData.keyHash P (Str.ofString "divisor")) (.str (Str.ofString "divisor") 261) (.ref 64)) :: (.mk (PySem.PyData.keyHash P (Str.ofString "frac")) (.str (Str.ofString "frac") 271) (.ref 72)) :: (.mk (PySem.PyData.keyHash P (Str.ofString "need")) (.str (Str.ofString "need") 279) (.ref 80)) :: (.mk (PySem.PyData.keyHash P (Str.ofString "plus")) (.str (Str.ofString "plus") 287) (.ref 87)) :: (.mk (PySem.PyData.keyHash P (Str.ofString "minus")) (.str (Str.ofString "minus") 295) (.ref 94)) :: (.mk (PySem.PyData.keyHash P (Str.ofString "times")) (.str (Str.ofString "times") 303) (.ref 101)) :: (.mk (PySem.PyData.keyHash P (Str.ofString "over")) (.str (Str.ofString "over") 311) (.ref 108)) :: (.mk (PySem.PyData.keyHash P (Str.ofString "less")) (.str (Str.ofString "less") 319) (.ref 115)) :: (.mk (PySem.PyData.keyHash P (Str.ofString "total")) (.str (Str.ofString "total") 328) (.ref 122)) :: (.mk (PySem.PyData.keyHash P (Str.ofString "up")) (.str (Str.ofString "up") 335) (.ref 129)) :: (.mk (PySem.PyData.keyHash P (Str.ofString "show")) (.str (Str.ofString "show") 342) (.ref 136)) :: (.mk (PySem.PyData.keyHash P (Str.ofString "JOINTS")) (.str (Str.ofString "JOINTS") 346) (.int 60 345)) :: (.mk (PySem.PyData.keyHash P (Str.ofString "PIPES")) (.str (Str.ofString "PIPES") 348) (.int 90 347)) :: (.mk (PySem.PyData.keyHash P (Str.ofString "HOURS")) (.str (Str.ofString "HOURS") 350) (.int 24 349)) :: (.mk (PySem.PyData.keyHash P (Str.ofString "Pipe")) (.str (Str.ofString "Pipe") 392) (.ref 153)) :: (.mk (PySem.PyData.keyHash P (Str.ofString "Consumer")) (.str (Str.ofString "Consumer") 437) (.ref 181)) :: (.mk (PySem.PyData.keyHash P (Str.ofString "Net")) (.str (Str.ofString "Net") 619) (.ref 312)) :: (.mk (PySem.PyData.keyHash P (Str.ofString "behind")) (.str (Str.ofString "behind") 632) (.ref 323)) :: (.mk (PySem.PyData.keyHash P (Str.ofString "mixed")) (.str (Str.ofString "mixed") 638) (.ref 328)) :: (.mk (PySem.PyData.keyHash P (Str.ofString "day_heat")) (.str (Str.ofString "day_heat") 649) (.ref 335)) :: (.mk (PySem.PyData.keyHash P (Str.ofString "count_days")) (.str (Str.ofString "count_days") 655) (.ref 340)) :: (.mk (PySem.PyData.keyHash P (Str.ofString "Meter")) (.str (Str.ofString "Meter") 736) (.ref 393)) :: (.mk (PySem.PyData.keyHash P (Str.ofString "TICKS")) (.str (Str.ofString "TICKS") 740) (.int 6 739)) :: [])) 41) (List.toArray []))
noncomputable def o12v7 (P : Params) : Obj := (PySem.Obj.mk .none .none (.fields (List.toArray ((.int 1 0) :: (.int 0 0) :: (.ref 20) :: (.int 5 0) :: (.int 0 0) :: (.ref 27) :: (.int 7 0) :: (.int 0 0) :: (.ref 40) :: (.int 11 0) :: (.int 0 0) :: (.ref 47) :: (.int 17 0) :: (.int 0 0) :: (.ref 54) :: (.int 31 0) :: (.int 0 0) :: (.ref 63) :: (.int 37 0) :: (.int 0 0) :: (.ref 71) :: (.int 47 0) :: (.int 0 0) :: (.ref 79) :: (.int 53 0) :: (.int 0 0) :: (.ref 86) :: (.int 55 0) :: (.int 0 0) :: (.ref 93) :: (.int 57 0) :: (.int 0 0) :: (.ref 100) :: (.int 59 0) :: (.int 0 0) :: (.ref 107) :: (.int 63 0) :: (.int 0 0) :: (.ref 114) :: (.int 65 0) :: (.int 0 0) :: (.ref 121) :: (.int 70 0) :: (.int 0 0) :: (.ref 128) :: (.int 72 0) :: (.int 0 0) :: (.ref 135) :: (.int 78 0) :: (.int 0 0) :: (.ref 142) :: (.int 89 0) :: (.int 0 0) :: (.ref 163) :: (.int 100 0) :: (.int 0 0) :: (.ref 191) :: (.int 192 0) :: (.int 0 0) :: (.ref 322) :: (.int 195 0) :: (.int 0 0) :: (.ref 327) :: (.int 201 0) :: (.int 0 0) :: (.ref 334) :: (.int 204 0) :: (.int 0 0) :: (.ref 339) :: (.int 238 0) :: (.int 0 0) :: (.ref 346) :: []))) (List.toArray []))
noncomputable def o341 (P : Params) : Obj := (PySem.Obj.mk (.type "tuple") .none (.seq (List.toArray []) 0) (List.toArray []))
noncomputable def o342 (P : Params) : Obj := (PySem.Obj.mk (.type "builtin_function_or_method") .none (.fields (List.toArray [(.builtin "type.__prepare__"), (.type "type")])) (List.toArray []))
noncomputable def o343 (P : Params) : Obj := (PySem.Obj.mk (.type "dict") .none (.dict (List.toArray [(.mk (PySem.PyData.keyHash P (Str.ofString "__module__")) (.str (Str.ofString "__module__") 665) (.str (Str.ofString "heatnet.meters") 656)), (.mk (PySem.PyData.keyHash P (Str.ofString "__qualname__")) (.str (Str.ofString "__qualname__") 667) (.str (Str.ofString "Meter") 666)), (.mk (PySem.PyData.keyHash P (Str.ofString "__firstlineno__")) (.str (Str.ofString "__firstlineno__") 669) (.int 238 668)), (.mk (PySem.PyData.keyHash P (Str.ofString "__init__")) (.str (Str.ofString "__init__") 679) (.ref 355)), (.mk (PySem.PyData.keyHash P (Str.ofString "read")) (.str (Str.ofString "read") 688) (.ref 362)), (.mk (PySem.PyData.keyHash P (Str.ofString "exchange")) (.str (Str.ofString "exchange") 698) (.ref 369)), (.mk (PySem.PyData.keyHash P (Str.ofString "correct")) (.str (Str.ofString "correct") 707) (.ref 376)), (.mk (PySem.PyData.keyHash P (Str.ofString "steps")) (.str (Str.ofString "steps") 714) (.ref 383)), (.mk (PySem.PyData.keyHash P (Str.ofString "used")) (.str (Str.ofString "used") 723) (.ref 390)), (.mk (PySem.PyData.keyHash P (Str.ofString "__static_attributes__")) (.str (Str.ofString "__static_attributes__") 729) (.ref 391))]) 10) (List.toArray []))
noncomputable def o344 (P : Params) : Obj := (PySem.Obj.mk (.type "tuple") .none (.seq (List.toArray []) 0) (List.toArray []))
noncomputable def o345 (P : Params) : Obj := (PySem.Obj.mk .none .none (.fields (List.toArray [(.int 240 0), (.int 4 0), (.ref 354), (.int 249 0), (.int 4 0), (.ref 361), (.int 257 0), (.int 4 0), (.ref 368), (.int 260 0), (.int 4 0), (.ref 375), (.int 263 0), (.int 4 0), (.ref 382), (.int 266 0), (.int 4 0), (.ref 389)])) (List.toArray []))
noncomputable def o346 (P : Params) : Obj := (PySem.Obj.mk (.type "code") .none (.fields (List.toArray [(.str (Str.ofString "Meter") 660), (.str (Str.ofString "Meter") 661), (.str (Str.ofString "/claim/cut.py") 662), (.int 238 0), (.int 0 0), (.int 0 0), (.int 0 0), (.int 0 0), (.ref 344), (.bool .false), (.int 181 0), (.ref 345), .none, .none, .none, .none, (.int 663 0), (.int 238 0), (.str (Str.ofString "/claim/cut.py") 664)])) (List.toArray []))
noncomputable def o347 (P : Params) : Obj := (PySem.Obj.mk (.type "frame") .none .plain (List.toArray [(.some (.ref 346)), (.some (.ref 3)), (.some (.ref 343)), .none, (.some (.str (Str.ofString "heatnet.meters") 656)), .none, (.some (.ref 0))]))
noncomputable def o348 (P : Params) : Obj := (PySem.Obj.mk (.type "tuple") .none (.seq (List.toArray [(.ref 57)]) 0) (List.toArray []))
noncomputable def o349 (P : Params) : Obj := (PySem.Obj.mk (.type "tuple") .none (.seq (List.toArray []) 0) (List.toArray []))
noncomputable def o350 (P : Params) : Obj := (PySem.Obj.mk .none .none (.fields (List.toArray [])) (List.toArray []))
noncomputable def o351 (P : Params) : Obj := (PySem.Obj.mk (.type "tuple") .none (.seq (List.toArray [(.str (Str.ofString "self") 673), (.str (Str.ofString "name") 674), (.str (Str.ofString "turns") 675), (.str (Str.ofString "factor") 676)]) 0) (List.toArray []))
noncomputable def o352 (P : Params) : Obj := (PySem.Obj.mk (.type "tuple") .none (.seq (List.toArray []) 0) (List.toArray []))
noncomputable def o353 (P : Params) : Obj := (PySem.Obj.mk .none .none (.func (FuncData.mk (Str.ofString "__init__") (Str.ofString "Meter.__init__") fa36_0.1 (.stmts fb36_0.1) fs36_0.1 0 [] .none .none .none .none .none .none .none 0)) (List.toArray []))
noncomputable def o354 (P : Params) : Obj := (PySem.Obj.mk (.type "code") .none (.fields (List.toArray [(.str (Str.ofString "__init__") 670), (.str (Str.ofString "Meter.__init__") 671), (.str (Str.ofString "/claim/cut.py") 672), (.int 240 0), (.int 4 0), (.int 0 0), (.int 0 0), (.int 3 0), (.ref 349), (.bool .true), (.int 181 0), (.ref 350), .none, (.ref 351), (.ref 352), (.ref 353), (.int 677 0), (.int 240 0), (.str (Str.ofString "/claim/cut.py") 678)])) (List.toArray []))
noncomputable def o355 (P : Params) : Obj := (PySem.Obj.mk (.type "function") .none (.func (FuncData.mk (Str.ofString "__init__") (Str.ofString "Meter.__init__") fa36_0.1 (.stmts fb36_0.1) fs36_0.1 3 [] (.ref 348) .none .none (.str (Str.ofString "heatnet.meters") 656) .none (.ref 354) .none 0)) (List.toArray []))
noncomputable def o356 (P : Params) : Obj := (PySem.Obj.mk (.type "tuple") .none (.seq (List.toArray []) 0) (List.toArray []))
noncomputable def o357 (P : Params) : Obj := (PySem.Obj.mk .none .none (.fields (List.toArray [])) (List.toArray []))
noncomputable def o358 (P : Params) : Obj := (PySem.Obj.mk (.type "tuple") .none (.seq (List.toArray [(.str (Str.ofString "self") 683), (.str (Str.ofString "day") 684), (.str (Str.ofString "value") 685)]) 0) (List.toArray []))
noncomputable def o359 (P : Params) : Obj := (PySem.Obj.mk (.type "tuple") .none (.seq (List.toArray []) 0) (List.toArray []))
noncomputable def o360 (P : Params) : Obj := (PySem.Obj.mk .none .none (.func (FuncData.mk (Str.ofString "read") (Str.ofString "Meter.read") fa36_1.1 (.stmts fb36_1.1) fs36_1.1 0 [] .none .none .none .none .none .none .none 0)) (List.toArray []))
noncomputable def o361 (P : Params) : Obj := (PySem.Obj.mk (.type "code") .none (.fields (List.toArray [(.str (Str.ofString "read") 680), (.str (Str.ofString "Meter.read") 681), (.str (Str.ofString "/claim/cut.py") 682), (.int 249 0), (.int 3 0), (.int 0 0), (.int 0 0), (.int 3 0), (.ref 356), (.bool .true), (.int 181 0), (.ref 357), .none, (.ref 358), (.ref 359), (.ref 360), (.int 686 0), (.int 249 0), (.str (Str.ofString "/claim/cut.py") 687)])) (List.toArray []))
noncomputable def o362 (P : Params) : Obj := (PySem.Obj.mk (.type "function") .none (.func (FuncData.mk (Str.ofString "read") (Str.ofString "Meter.read") fa36_1.1 (.stmts fb36_1.1) fs36_1.1 3 [] .none .none .none (.str (Str.ofString "heatnet.meters") 656) .none (.ref 361) .none 0)) (List.toArray []))
noncomputable def o363 (P : Params) : Obj := (PySem.Obj.mk (.type "tuple") .none (.seq (List.toArray []) 0) (List.toArray []))
noncomputable def o364 (P : Params) : Obj := (PySem.Obj.mk .none .none (.fields (List.toArray [])) (List.toArray []))
noncomputable def o365 (P : Params) : Obj := (PySem.Obj.mk (.type "tuple") .none (.seq (List.toArray [(.str (Str.ofString "self") 692), (.str (Str.ofString "day") 693), (.str (Str.ofString "old") 694), (.str (Str.ofString "new") 695)]) 0) (List.toArray []))
noncomputable def o366 (P : Params) : Obj := (PySem.Obj.mk (.type "tuple") .none (.seq (List.toArray []) 0) (List.toArray []))
noncomputable def o367 (P : Params) : Obj := (PySem.Obj.mk .none .none (.func (FuncData.mk (Str.ofString "exchange") (Str.ofString "Meter.exchange") fa36_2.1 (.stmts fb36_2.1) fs36_2.1 0 [] .none .none .none .none .none .none .none 0)) (List.toArray []))
noncomputable def o368 (P : Params) : Obj := (PySem.Obj.mk (.type "code") .none (.fields (List.toArray [(.str (Str.ofString "exchange") 689), (.str (Str.ofString "Meter.exchange") 690), (.str (Str.ofString "/claim/cut.py") 691), (.int 257 0), (.int 4 0), (.int 0 0), (.int 0 0), (.int 3 0), (.ref 363), (.bool .true), (.int 181 0), (.ref 364), .none, (.ref 365), (.ref 366), (.ref 367), (.int 696 0), (.int 257 0), (.str (Str.ofString "/claim/cut.py") 697)])) (List.toArray []))
noncomputable def o369 (P : Params) : Obj := (PySem.Obj.mk (.type "function") .none (.func (FuncData.mk (Str.ofString "exchange") (Str.ofString "Meter.exchange") fa36_2.1 (.stmts fb36_2.1) fs36_2.1 3 [] .none .none .none (.str (Str.ofString "heatnet.meters") 656) .none (.ref 368) .none 0)) (List.toArray []))
noncomputable def o370 (P : Params) : Obj := (PySem.Obj.mk (.type "tuple") .none (.seq (List.toArray []) 0) (List.toArray []))
noncomputable def o371 (P : Params) : Obj := (PySem.Obj.mk .none .none (.fields (List.toArray [])) (List.toArray []))
noncomputable def o372 (P : Params) : Obj := (PySem.Obj.mk (.type "tuple") .none (.seq (List.toArray [(.str (Str.ofString "self") 702), (.str (Str.ofString "day") 703), (.str (Str.ofString "value") 704)]) 0) (List.toArray []))
noncomputable def o373 (P : Params) : Obj := (PySem.Obj.mk (.type "tuple") .none (.seq (List.toArray []) 0) (List.toArray []))
noncomputable def o374 (P : Params) : Obj := (PySem.Obj.mk .none .none (.func (FuncData.mk (Str.ofString "correct") (Str.ofString "Meter.correct") fa36_3.1 (.stmts fb36_3.1) fs36_3.1 0 [] .none .none .none .none .none .none .none 0)) (List.toArray []))
noncomputable def o375 (P : Params) : Obj := (PySem.Obj.mk (.type "code") .none (.fields (List.toArray [(.str (Str.ofString "correct") 699), (.str (Str.ofString "Meter.correct") 700), (.str (Str.ofString "/claim/cut.py") 701), (.int 260 0), (.int 3 0), (.int 0 0), (.int 0 0), (.int 3 0), (.ref 370), (.bool .true), (.int 181 0), (.ref 371), .none, (.ref 372), (.ref 373), (.ref 374), (.int 705 0), (.int 260 0), (.str (Str.ofString "/claim/cut.py") 706)])) (List.toArray []))
noncomputable def o376 (P : Params) : Obj := (PySem.Obj.mk (.type "function") .none (.func (FuncData.mk (Str.ofString "correct") (Str.ofString "Meter.correct") fa36_3.1 (.stmts fb36_3.1) fs36_3.1 3 [] .none .none .none (.str (Str.ofString "heatnet.meters") 656) .none (.ref 375) .none 0)) (List.toArray []))
noncomputable def o377 (P : Params) : Obj := (PySem.Obj.mk (.type "tuple") .none (.seq (List.toArray []) 0) (List.toArray []))
noncomputable def o378 (P : Params) : Obj := (PySem.Obj.mk .none .none (.fields (List.toArray [])) (List.toArray []))
noncomputable def o379 (P : Params) : Obj := (PySem.Obj.mk (.type "tuple") .none (.seq (List.toArray [(.str (Str.ofString "self") 711)]) 0) (List.toArray []))
noncomputable def o380 (P : Params) : Obj := (PySem.Obj.mk (.type "tuple") .none (.seq (List.toArray []) 0) (List.toArray []))
noncomputable def o381 (P : Params) : Obj := (PySem.Obj.mk .none .none (.func (FuncData.mk (Str.ofString "steps") (Str.ofString "Meter.steps") fa36_4.1 (.stmts fb36_4.1) fs36_4.1 0 [] .none .none .none .none .none .none .none 0)) (List.toArray []))
noncomputable def o382 (P : Params) : Obj := (PySem.Obj.mk (.type "code") .none (.fields (List.toArray [(.str (Str.ofString "steps") 708), (.str (Str.ofString "Meter.steps") 709), (.str (Str.ofString "/claim/cut.py") 710), (.int 263 0), (.int 1 0), (.int 0 0), (.int 0 0), (.int 3 0), (.ref 377), (.bool .true), (.int 181 0), (.ref 378), .none, (.ref 379), (.ref 380), (.ref 381), (.int 712 0), (.int 263 0), (.str (Str.ofString "/claim/cut.py") 713)])) (List.toArray []))
noncomputable def o383 (P : Params) : Obj := (PySem.Obj.mk (.type "function") .none (.func (FuncData.mk (Str.ofString "steps") (Str.ofString "Meter.steps") fa36_4.1 (.stmts fb36_4.1) fs36_4.1 3 [] .none .none .none (.str (Str.ofString "heatnet.meters") 656) .none (.ref 382) .none 0)) (List.toArray []))
noncomputable def o384 (P : Params) : Obj := (PySem.Obj.mk (.type "tuple") .none (.seq (List.toArray []) 0) (List.toArray []))
noncomputable def o385 (P : Params) : Obj := (PySem.Obj.mk .none .none (.fields (List.toArray [])) (List.toArray []))
noncomputable def o386 (P : Params) : Obj := (PySem.Obj.mk (.type "tuple") .none (.seq (List.toArray [(.str (Str.ofString "self") 718), (.str (Str.ofString "start") 719), (.str (Str.ofString "end") 720)]) 0) (List.toArray []))
noncomputable def o387 (P : Params) : Obj := (PySem.Obj.mk (.type "tuple") .none (.seq (List.toArray []) 0) (List.toArray []))
noncomputable def o388 (P : Params) : Obj := (PySem.Obj.mk .none .none (.func (FuncData.mk (Str.ofString "used") (Str.ofString "Meter.used") fa36_5.1 (.stmts fb36_5.1) fs36_5.1 0 [] .none .none .none .none .none .none .none 0)) (List.toArray []))
noncomputable def o389 (P : Params) : Obj := (PySem.Obj.mk (.type "code") .none (.fields (List.toArray [(.str (Str.ofString "used") 715), (.str (Str.ofString "Meter.used") 716), (.str (Str.ofString "/claim/cut.py") 717), (.int 266 0), (.int 3 0), (.int 0 0), (.int 0 0), (.int 3 0), (.ref 384), (.bool .true), (.int 181 0), (.ref 385), .none, (.ref 386), (.ref 387), (.ref 388), (.int 721 0), (.int 266 0), (.str (Str.ofString "/claim/cut.py") 722)])) (List.toArray []))
noncomputable def o390 (P : Params) : Obj := (PySem.Obj.mk (.type "function") .none (.func (FuncData.mk (Str.ofString "used") (Str.ofString "Meter.used") fa36_5.1 (.stmts fb36_5.1) fs36_5.1 3 [] .none .none .none (.str (Str.ofString "heatnet.meters") 656) .none (.ref 389) .none 0)) (List.toArray []))
noncomputable def o391 (P : Params) : Obj := (PySem.Obj.mk (.type "tuple") .none (.seq (List.toArray [(.str (Str.ofString "factor") 724), (.str (Str.ofString "name") 725), (.str (Str.ofString "rest") 726), (.str (Str.ofString "rows") 727), (.str (Str.ofString "turns") 728)]) 0) (List.toArray []))
noncomputable def o392 (P : Params) : Obj := (PySem.Obj.mk (.type "dict") .none (.dict (List.toArray [(.mk (PySem.PyData.keyHash P (Str.ofString "__module__")) (.str (Str.ofString "__module__") 665) (.str (Str.ofString "heatnet.meters") 656)), (.mk (PySem.PyData.keyHash P (Str.ofString "__firstlineno__")) (.str (Str.ofString "__firstlineno__") 669) (.int 238 668)), (.mk (PySem.PyData.keyHash P (Str.ofString "__init__")) (.str (Str.ofString "__init__") 679) (.ref 355)), (.mk (PySem.PyData.keyHash P (Str.ofString "read")) (.str (Str.ofString "read") 688) (.ref 362)), (.mk (PySem.PyData.keyHash P (Str.ofString "exchange")) (.str (Str.ofString "exchange") 698) (.ref 369)), (.mk (PySem.PyData.keyHash P (Str.ofString "correct")) (.str (Str.ofString "correct") 707) (.ref 376)), (.mk (PySem.PyData.keyHash P (Str.ofString "steps")) (.str (Str.ofString "steps") 714) (.ref 383)), (.mk (PySem.PyData.keyHash P (Str.ofString "used")) (.str (Str.ofString "used") 723) (.ref 390)), (.mk (PySem.PyData.keyHash P (Str.ofString "__static_attributes__")) (.str (Str.ofString "__static_attributes__") 729) (.ref 391)), (.mk (PySem.PyData.keyHash P (Str.ofString "__dict__")) (.str (Str.ofString "__dict__") 731) (.ref 394)), (.mk (PySem.PyData.keyHash P (Str.ofString "__weakref__")) (.str (Str.ofString "__weakref__") 733) (.ref 395)), (.mk (PySem.PyData.keyHash P (Str.ofString "__doc__")) (.str (Str.ofString "__doc__") 734) .none)]) 4) (List.toArray []))
noncomputable def o393 (P : Params) : Obj := (PySem.Obj.mk (.type "type") .none (.cls (.mk (Str.ofString "Meter") [(.type "object")] [(.ref 393), (.type "object")] 392 (Str.ofString "Meter") .true [] [] .false .none .false)) (List.toArray [.none, .none, (.some (.str (Str.ofString "Meter") 658)), (.some (.str (Str.ofString "Meter") 666)), (.some (.builtin "object.__new__")), (.some (.bool .true))]))
noncomputable def o394 (P : Params) : Obj := (PySem.Obj.mk (.type "getset_descriptor") .none (.fields (List.toArray [(.str (Str.ofString "__dict__") 730), (.ref 393), (.builtin "function.__dict__"), (.builtin "function.__dict__#set")])) (List.toArray []))
noncomputable def o395 (P : Params) : Obj := (PySem.Obj.mk (.type "getset_descriptor") .none (.fields (List.toArray [(.str (Str.ofString "__weakref__") 732), (.ref 393), (.builtin "ExceptionGroup.__weakref__"), .none])) (List.toArray []))
noncomputable def o396 (P : Params) : Obj := (PySem.Obj.mk (.type "super") .none (.fields (List.toArray [(.ref 393), (.ref 393), (.ref 393)])) (List.toArray []))
noncomputable def o397 (P : Params) : Obj := (PySem.Obj.mk (.type "builtin_function_or_method") .none (.fields (List.toArray [(.builtin "object.__init_subclass__"), (.ref 393)])) (List.toArray []))
noncomputable def t6 (P : Params) : BT := (.node (boot_o_0 P) (.node (boot_o_1 P) (.node (o3v6 P) (.node (boot_o_7 P) (.node (o15 P) (.node (o31 P) (.node (o63 P) (.node (o127 P) (lf (o255 P)) (lf (o383 P))) (.node (o191 P) (lf (o319 P)) .nil)) (.node (o95 P) (.node (o159 P) (lf (o287 P)) .nil) (.node (o223 P) (lf (o351 P)) .nil))) (.node (o47 P) (.node (o79 P) (.node (o143 P) (lf (o271 P)) .nil) (.node (o207 P) (lf (o335 P)) .nil)) (.node (o111 P) (.node (o175 P) (lf (o303 P)) .nil) (.node (o239 P) (lf (o367 P)) .nil)))) (.node (o23 P) (.node (o39 P) (.node (o71 P) (.node (o135 P) (lf (o263 P)) (lf (o391 P))) (.node (o199 P) (lf (o327 P)) .nil)) (.node (o103 P) (.node (o167 P) (lf (o295 P)) .nil) (.node (o231 P) (lf (o359 P)) .nil))) (.node (o55 P) (.node (o87 P) (.node (o151 P) (lf (o279 P)) .nil) (.node (o215 P) (lf (o343 P)) .nil)) (.node (o119 P) (.node (o183 P) (lf (o311 P)) .nil) (.node (o247 P) (lf (o375 P)) .nil))))) (.node (o11 P) (.node (o19 P) (.node (o35 P) (.node (o67 P) (.node (o131 P) (lf (o259 P)) (lf (o387 P))) (.node (o195 P) (lf (o323 P)) .nil)) (.node (o99 P) (.node (o163 P) (lf (o291 P)) .nil) (.node (o227 P) (lf (o355 P)) .nil))) (.node (o51 P) (.node (o83 P) (.node (o147 P) (lf (o275 P)) .nil) (.node (o211 P) (lf (o339 P)) .nil)) (.node (o115 P) (.node (o179 P) (lf (o307 P)) .nil) (.node (o243 P) (lf (o371 P)) .nil)))) (.node (o27 P) (.node (o43 P) (.node (o75 P) (.node (o139 P) (lf (o267 P)) (lf (o395 P))) (.node (o203 P) (lf (o331 P)) .nil)) (.node (o107 P) (.node (o171 P) (lf (o299 P)) .nil) (.node (o235 P) (lf (o363 P)) .nil))) (.node (o59 P) (.node (o91 P) (.node (o155 P) (lf (o283 P)) .nil) (.node (o219 P) (lf (o347 P)) .nil)) (.node (o123 P) (.node (o187 P) (lf (o315 P)) .nil) (.node (o251 P) (lf (o379 P)) .nil)))))) (.node (boot_o_5 P) (.node (boot_o_9 P) (.node (o17 P) (.node (o33 P) (.node (o65 P) (.node (o129 P) (lf (o257 P)) (lf (o385 P))) (.node (o193 P) (lf (o321 P)) .nil)) (.node (o97 P) (.node (o161 P) (lf (o289 P)) .nil) (.node (o225 P) (lf (o353 P)) .nil))) (.node (o49 P) (.node (o81 P) (.node (o145 P) (lf (o273 P)) .nil) (.node (o209 P) (lf (o337 P)) .nil)) (.node (o113 P) (.node (o177 P) (lf (o305 P)) .nil) (.node (o241 P) (lf (o369 P)) .nil)))) (.node (o25 P) (.node (o41 P) (.node (o73 P) (.node (o137 P) (lf (o265 P)) (lf (o393 P))) (.node (o201 P) (lf (o329 P)) .nil)) (.node (o105 P) (.node (o169 P) (lf (o297 P)) .nil) (.node (o233 P) (lf (o361 P)) .nil))) (.node (o57 P) (.node (o89 P) (.node (o153 P) (lf (o281 P)) .nil) (.node (o217 P) (lf (o345 P)) .nil)) (.node (o121 P) (.node (o185 P) (lf (o313 P)) .nil) (.node (o249 P) (lf (o377 P)) .nil))))) (.node (o13 P) (.node (o21 P) (.node (o37 P) (.node (o69 P) (.node (o133 P) (lf (o261 P)) (lf (o389 P))) (.node (o197 P) (lf (o325 P)) .nil)) (.node (o101 P) (.node (o165 P) (lf (o293 P)) .nil) (.node (o229 P) (lf (o357 P)) .nil))) (.node (o53 P) (.node (o85 P) (.node (o149 P) (lf (o277 P)) .nil) (.node (o213 P) (lf (o341 P)) .nil)) (.node (o117 P) (.node (o181 P) (lf (o309 P)) .nil) (.node (o245 P) (lf (o373 P)) .nil)))) (.node (o29 P) (.node (o45 P) (.node (o77 P) (.node (o141 P) (lf (o269 P)) (lf (o397 P))) (.node (o205 P) (lf (o333 P)) .nil)) (.node (o109 P) (.node (o173 P) (lf (o301 P)) .nil) (.node (o237 P) (lf (o365 P)) .nil))) (.node (o61 P) (.node (o93 P) (.node (o157 P) (lf (o285 P)) .nil) (.node (o221 P) (lf (o349 P)) .nil)) (.node (o125 P) (.node (o189 P) (lf (o317 P)) .nil) (.node (o253 P) (lf (o381 P)) .nil))))))) (.node (boot_o_2 P) (.node (boot_o_4 P) (.node (boot_o_8 P) (.node (o16 P) (.node (o32 P) (.node (o64 P) (.node (o128 P) (lf (o256 P)) (lf (o384 P))) (.node (o192 P) (lf (o320 P)) .nil)) (.node (o96 P) (.node (o160 P) (lf (o288 P)) .nil) (.node (o224 P) (lf (o352 P)) .nil))) (.node (o48 P) (.node (o80 P) (.node (o144 P) (lf (o272 P)) .nil) (.node (o208 P) (lf (o336 P)) .nil)) (.node (o112 P) (.node (o176 P) (lf (o304 P)) .nil) (.node (o240 P) (lf (o368 P)) .nil)))) (.node (o24 P) (.node (o40 P) (.node (o72 P) (.node (o136 P) (lf (o264 P)) (lf (o392 P))) (.node (o200 P) (lf (o328 P)) .nil)) (.node (o104 P) (.node (o168 P) (lf (o296 P)) .nil) (.node (o232 P) (lf (o360 P)) .nil))) (.node (o56 P) (.node (o88 P) (.node (o152 P) (lf (o280 P)) .nil) (.node (o216 P) (lf (o344 P)) .nil)) (.node (o120 P) (.node (o184 P) (lf (o312 P)) .nil) (.node (o248 P) (lf (o376 P)) .nil))))) (.node (o12v7 P) (.node (o20 P) (.node (o36 P) (.node (o68 P) (.node (o132 P) (lf (o260 P)) (lf (o388 P))) (.node (o196 P) (lf (o324 P)) .nil)) (.node (o100 P) (.node (o164 P) (lf (o292 P)) .nil) (.node (o228 P) (lf (o356 P)) .nil))) (.node (o52 P) (.node (o84 P) (.node (o148 P) (lf (o276 P)) .nil) (.node (o212 P) (lf (o340 P)) .nil)) (.node (o116 P) (.node (o180 P) (lf (o308 P)) .nil) (.node (o244 P) (lf (o372 P)) .nil)))) (.node (o28 P) (.node (o44 P) (.node (o76 P) (.node (o140 P) (lf (o268 P)) (lf (o396 P))) (.node (o204 P) (lf (o332 P)) .nil)) (.node (o108 P) (.node (o172 P) (lf (o300 P)) .nil) (.node (o236 P) (lf (o364 P)) .nil))) (.node (o60 P) (.node (o92 P) (.node (o156 P) (lf (o284 P)) .nil) (.node (o220 P) (lf (o348 P)) .nil)) (.node (o124 P) (.node (o188 P) (lf (o316 P)) .nil) (.node (o252 P) (lf (o380 P)) .nil)))))) (.node (boot_o_6 P) (.node (boot_o_10 P) (.node (o18 P) (.node (o34 P) (.node (o66 P) (.node (o130 P) (lf (o258 P)) (lf (o386 P))) (.node (o194 P) (lf (o322 P)) .nil)) (.node (o98 P) (.node (o162 P) (lf (o290 P)) .nil) (.node (o226 P) (lf (o354 P)) .nil))) (.node (o50 P) (.node (o82 P) (.node (o146 P) (lf (o274 P)) .nil) (.node (o210 P) (lf (o338 P)) .nil)) (.node (o114 P) (.node (o178 P) (lf (o306 P)) .nil) (.node (o242 P) (lf (o370 P)) .nil)))) (.node (o26 P) (.node (o42 P) (.node (o74 P) (.node (o138 P) (lf (o266 P)) (lf (o394 P))) (.node (o202 P) (lf (o330 P)) .nil)) (.node (o106 P) (.node (o170 P) (lf (o298 P)) .nil) (.node (o234 P) (lf (o362 P)) .nil))) (.node (o58 P) (.node (o90 P) (.node (o154 P) (lf (o282 P)) .nil) (.node (o218 P) (lf (o346 P)) .nil)) (.node (o122 P) (.node (o186 P) (lf (o314 P)) .nil) (.node (o250 P) (lf (o378 P)) .nil))))) (.node (o14 P) (.node (o22 P) (.node (o38 P) (.node (o70 P) (.node (o134 P) (lf (o262 P)) (lf (o390 P))) (.node (o198 P) (lf (o326 P)) .nil)) (.node (o102 P) (.node (o166 P) (lf (o294 P)) .nil) (.node (o230 P) (lf (o358 P)) .nil))) (.node (o54 P) (.node (o86 P) (.node (o150 P) (lf (o278 P)) .nil) (.node (o214 P) (lf (o342 P)) .nil)) (.node (o118 P) (.node (o182 P) (lf (o310 P)) .nil) (.node (o246 P) (lf (o374 P)) .nil)))) (.node (o30 P) (.node (o46 P) (.node (o78 P) (.node (o142 P) (lf (o270 P)) .nil) (.node (o206 P) (lf (o334 P)) .nil)) (.node (o110 P) (.node (o174 P) (lf (o302 P)) .nil) (.node (o238 P) (lf (o366 P)) .nil))) (.node (o62 P) (.node (o94 P) (.node (o158 P) (lf (o286 P)) .nil) (.node (o222 P) (lf (o350 P)) .nil)) (.node (o126 P) (.node (o190 P) (lf (o318 P)) .nil) (.node (o254 P) (lf (o382 P)) .nil))))))))
noncomputable def t6S (P : Params) (os : OsState) : SharedT := ⟨t6 P, 398, (.mk [] [] [] 0 [] [] .false (List.toArray []) [] 0 .false .false .false 0 [2000, 10, 10] .false 0 .true [] [] 0 .false), ⟨[]⟩, (.mk 0 0 0 0), 741, os⟩
set_option maxRecDepth 100000 in
theorem pc6 (w : World) : (fun os => segRunT treeTable pw w 11 annH 1 416 (t5S (w).params os) (piecesOf (((behindTheImports pw).drop 36).take 3) envH cE ((.mk 237 0 237 8) : Pos) [topFrame qH])) = fun os => some (.next, t6S (w).params os, cE, ((.mk 269 0 269 5) : Pos)) := by
  unfold piecesOf; rw [PySem.W.Fast.te10110043849684766642, PySem.W.Fast.te14364793385576792824, PySem.W.Fast.te12563942051412417395]; kernel_rfl!
noncomputable def o3v7 (P : Params) : Obj := (PySem.Obj.mk (.type "dict") .none (.dict (List.toArray ((.mk (PySem.PyData.keyHash P (Str.ofString "__name__")) (.str (Str.ofString "__name__") 165) (.str (Str.ofString "law_ui0509_16") 793)) :: (.mk (PySem.PyData.keyHash P (Str.ofString "__doc__")) (.str (Str.ofString "__doc__") 166) .none) :: (.mk (PySem.PyData.keyHash P (Str.ofString "__package__")) (.str (Str.ofString "__package__") 167) .none) :: (.mk (PySem.PyData.keyHash P (Str.ofString "__loader__")) (.str (Str.ofString "__loader__") 168) (.builtin "__main__.__loader__#opaque")) :: (.mk (PySem.PyData.keyHash P (Str.ofString "__spec__")) (.str (Str.ofString "__spec__") 169) .none) :: (.mk (PySem.PyData.keyHash P (Str.ofString "__annotations__")) (.str (Str.ofString "__annotations__") 170) (.ref 6)) :: (.mk (PySem.PyData.keyHash P (Str.ofString "__builtins__")) (.str (Str.ofString "__builtins__") 171) (.ref 4)) :: (.mk (PySem.PyData.keyHash P (Str.ofString "__file__")) (.str (Str.ofString "__file__") 173) (.str (Str.ofString "/claim/cut.py") 172)) :: (.mk (PySem.PyData.keyHash P (Str.ofString "__cached__")) (.str (Str.ofString "__cached__") 174) .none) :: (.mk (PySem.PyData.keyHash P (Str.ofString "_wall")) (.str (Str.ofString "_wall") 193) (.ref 21)) :: (.mk (PySem.PyData.keyHash P (Str.ofString "HeatError")) (.str (Str.ofString "HeatError") 213) (.ref 31)) :: (.mk (PySem.PyData.keyHash P (Str.ofString "need_number")) (.str (Str.ofString "need_number") 223) (.ref 41)) :: (.mk (PySem.PyData.keyHash P (Str.ofString "shown")) (.str (Str.ofString "shown") 230) (.ref 48)) :: (.mk (PySem.PyData.keyHash P (Str.ofString "need_name")) (.str (Str.ofString "need_name") 240) (.ref 55)) :: (.mk (PySem.PyData.keyHash P (Str.ofString "FIGURES")) (.str (Str.ofString "FIGURES") 244) (.int 2000 243)) :: (.mk (PySem.PyData.keyHash P (Str.ofString "MOST")) (.str (Str.ofString "MOST") 247) (.int 100000000000000000000000000000000000000000000000000000000000000000000000000000000000000000000000000000000000000000000000000000000000000000000000000000000000000000000000000000000000000000000000000000000000000000000000000000000000000000000000000000000000000000000000000000000000000000000000000000000000000000000000000000000000000000000000000000000000000000000000000000000000000000000000000000000000000000000000000000000000000000000000000000000000000000000000000000000000000000000000000000000000000000000000000000000000000000000000000000000000000000000000000000000000000000000000000000000000000000000000000000000000000000000000000000000000000000000000000000000000000000000000000000000000000000000000000000000000000000000000000000000000000000000000000000000000000000000000000000000000000000000000000000000000000000000000000000000000000000000000000000000000000000000000000000000000000000000000000000000000000000000000000000000000000000000000000000000000000000000000000000000000000000000000000000000000000000000000000000000000000000000000000000000000000000000000000000000000000000000000000000000000000000000000000000000000000000000000000000000000000000000000000000000000000000000000000000000000000000000000000000000000000000000000000000000000000000000000000000000000000000000000000000000000000000000000000000000000000000000000000000000000000000000000000000000000000000000000000000000000000000000000000000000000000000000000000000000000000000000000000000000000000000000000000000000000000000000000000000000000000000000000000000000000000000000000000000000000000000000000000000000000000000000000000000000000000000000000000000000000000000000000000000000000000000000000000000000000000000000000000000000000000000000000000000000000000000000000000000000000000000000000000000000000000000000000000000000000000000000000000000000000000000000000000000000000000000000000000000000000000000000000000000000000000000000000000000000000000000000000000000000000000000000000000000000000000000000000000000000000000000000000000000000 246)) :: (.mk (PySem.PyData.keyHash P (Str.ofString "NOUGHT")) (.str (Str.ofString "NOUGHT") 250) (.ref 56)) :: (.mk (PySem.PyData.keyHash P (Str.ofString "ONE")) (.str (Str.ofString "ONE") 253) (.ref 57)) :: (.mk (PySem.PyData.keyHash P (Str.ofString "divisor")) (.str (Str.ofString "divisor") 261) (.ref 64)) :: (.mk (PySem.PyData.keyHash P (Str.ofString "frac")) (.str (Str.ofString "frac") 271) (.ref 72)) :: (.mk (PySem.PyData.keyHash P (Str.ofString "need")) (.str (Str.ofString "need") 279) (.ref 80)) :: (.mk (PySem.PyData.keyHash P (Str.ofString "plus")) (.str (Str.ofString "plus") 287) (.ref 87)) :: (.mk (PySem.PyData.keyHash P (Str.ofString "minus")) (.str (Str.ofString "minus") 295) (.ref 94)) :: (.mk (PySem.PyData.keyHash P (Str.ofString "times")) (.str (Str.ofString "times") 303) (.ref 101)) :: (.mk (PySem.PyData.keyHash P (Str.ofString "over")) (.str (Str.ofString "over") 311) (.ref 108)) :: (.mk (PySem.PyData.keyHash P (Str.ofString "less")) (.str (Str.ofString "less") 319) (.ref 115)) :: (.mk (PySem.PyData.keyHash P (Str.ofString "total")) (.str (Str.ofString "total") 328) (.ref 122)) :: (.mk (PySem.PyData.keyHash P (Str.ofString "up")) (.str (Str.ofString "up") 335) (.ref 129)) :: (.mk (PySem.PyData.keyHash P (Str.ofString "show")) (.str (Str.ofString "show") 342) (.ref 136)) :: (.mk (PySem.PyData.keyHash P (Str.ofString "JOINTS")) (.str (Str.ofString "JOINTS") 346) (.int 60 345)) :: (.mk (PySem.PyData.keyHash P (Str.ofString "PIPES")) (.str (Str.ofString "PIPES") 348) (.int 90 347)) :: (.mk (PySem.PyData.keyHash P (Str.ofString "HOURS")) (.str (Str.ofString "HOURS") 350) (.int 24 349)) :: (.mk (PySem.PyData.keyHash P (Str.ofString "Pipe")) (.str (Str.ofString "Pipe") 392) (.ref 153)) :: (.mk (PySem.PyData.keyHash P (Str.ofString "Consumer")) (.str (Str.ofString "Consumer") 437) (.ref 181)) :: (.mk (PySem.PyData.keyHash P (Str.ofString "Net")) (.str (Str.ofString "Net") 619) (.ref 312)) :: (.mk (PySem.PyData.keyHash P (Str.ofString "behind")) (.str (Str.ofString "behind") 632) (.ref 323)) :: (.mk (PySem.PyData.keyHash P (Str.ofString "mixed")) (.str (Str.ofString "mixed") 638) (.ref 328)) :: (.mk (PySem.PyData.keyHash P (Str.ofString "day_heat")) (.str (Str.ofString "day_heat") 649) (.ref 335)) :: (.mk (PySem.PyData.keyHash P (Str.ofString "count_days")) (.str (Str.ofString "count_days") 655) (.ref 340)) :: (.mk (PySem.PyData.keyHash P (Str.ofString "Meter")) (.str (Str.ofString "Meter") 736) (.ref 393)) :: (.mk (PySem.PyData.keyHash P (Str.ofString "TICKS")) (.str (Str.ofString "TICKS") 740) (.int 6 739)) :: (.mk (PySem.PyData.keyHash P (Str.ofString "ticks")) (.str (Str.ofString "ticks") 748) (.ref 404)) :: (.mk (PySem.PyData.keyHash P (Str.ofString "_came")) (.str (Str.ofString "_came") 764) (.ref 411)) :: (.mk (PySem.PyData.keyHash P (Str.ofString "settled")) (.str (Str.ofString "settled") 778) (.ref 418)) :: (.mk (PySem.PyData.keyHash P (Str.ofString "longest")) (.str (Str.ofString "longest") 786) (.ref 425)) :: (.mk (PySem.PyData.keyHash P (Str.ofString "_longest")) (.str (Str.ofString "_longest") 792) (.ref 430)) :: (.mk (PySem.PyData.keyHash P (Str.ofString "law")) (.str (Str.ofString "law") 800) (.ref 435)) :: [])) 47) (List.toArray []))
noncomputable def o12v8 (P : Params) : Obj := (PySem.Obj.mk .none .none (.fields (List.toArray ((.int 1 0) :: (.int 0 0) :: (.ref 20) :: (.int 5 0) :: (.int 0 0) :: (.ref 27) :: (.int 7 0) :: (.int 0 0) :: (.ref 40) :: (.int 11 0) :: (.int 0 0) :: (.ref 47) :: (.int 17 0) :: (.int 0 0) :: (.ref 54) :: (.int 31 0) :: (.int 0 0) :: (.ref 63) :: (.int 37 0) :: (.int 0 0) :: (.ref 71) :: (.int 47 0) :: (.int 0 0) :: (.ref 79) :: (.int 53 0) :: (.int 0 0) :: (.ref 86) :: (.int 55 0) :: (.int 0 0) :: (.ref 93) :: (.int 57 0) :: (.int 0 0) :: (.ref 100) :: (.int 59 0) :: (.int 0 0) :: (.ref 107) :: (.int 63 0) :: (.int 0 0) :: (.ref 114) :: (.int 65 0) :: (.int 0 0) :: (.ref 121) :: (.int 70 0) :: (.int 0 0) :: (.ref 128) :: (.int 72 0) :: (.int 0 0) :: (.ref 135) :: (.int 78 0) :: (.int 0 0) :: (.ref 142) :: (.int 89 0) :: (.int 0 0) :: (.ref 163) :: (.int 100 0) :: (.int 0 0) :: (.ref 191) :: (.int 192 0) :: (.int 0 0) :: (.ref 322) :: (.int 195 0) :: (.int 0 0) :: (.ref 327) :: (.int 201 0) :: (.int 0 0) :: (.ref 334) :: (.int 204 0) :: (.int 0 0) :: (.ref 339) :: (.int 238 0) :: (.int 0 0) :: (.ref 346) :: (.int 270 0) :: (.int 0 0) :: (.ref 403) :: (.int 274 0) :: (.int 0 0) :: (.ref 410) :: (.int 285 0) :: (.int 0 0) :: (.ref 417) :: (.int 297 0) :: (.int 0 0) :: (.ref 424) :: (.int 300 0) :: (.int 0 0) :: (.ref 429) :: (.int 305 0) :: (.int 0 0) :: (.ref 434) :: []))) (List.toArray []))
noncomputable def o398 (P : Params) : Obj := (PySem.Obj.mk (.type "tuple") .none (.seq (List.toArray []) 0) (List.toArray []))
noncomputable def o399 (P : Params) : Obj := (PySem.Obj.mk .none .none (.fields (List.toArray [])) (List.toArray []))
noncomputable def o400 (P : Params) : Obj := (PySem.Obj.mk (.type "tuple") .none (.seq (List.toArray [(.str (Str.ofString "pipe") 744), (.str (Str.ofString "flow") 745)]) 0) (List.toArray []))
noncomputable def o401 (P : Params) : Obj := (PySem.Obj.mk (.type "tuple") .none (.seq (List.toArray []) 0) (List.toArray []))
noncomputable def o402 (P : Params) : Obj := (PySem.Obj.mk .none .none (.func (FuncData.mk (Str.ofString "ticks") (Str.ofString "ticks") fa39.1 (.stmts fb39.1) fs39.1 0 [] .none .none .none .none .none .none .none 0)) (List.toArray []))
noncomputable def o403 (P : Params) : Obj := (PySem.Obj.mk (.type "code") .none (.fields (List.toArray [(.str (Str.ofString "ticks") 741), (.str (Str.ofString "ticks") 742), (.str (Str.ofString "/claim/cut.py") 743), (.int 270 0), (.int 2 0), (.int 0 0), (.int 0 0), (.int 3 0), (.ref 398), (.bool .true), (.int 181 0), (.ref 399), .none, (.ref 400), (.ref 401), (.ref 402), (.int 746 0), (.int 270 0), (.str (Str.ofString "/claim/cut.py") 747)])) (List.toArray []))
noncomputable def o404 (P : Params) : Obj := (PySem.Obj.mk (.type "function") .none (.func (FuncData.mk (Str.ofString "ticks") (Str.ofString "ticks") fa39.1 (.stmts fb39.1) fs39.1 3 [] .none .none .none (.str (Str.ofString "heatnet.travel") 737) .none (.ref 403) .none 0)) (List.toArray []))
noncomputable def o405 (P : Params) : Obj := (PySem.Obj.mk (.type "tuple") .none (.seq (List.toArray []) 0) (List.toArray []))
noncomputable def o406 (P : Params) : Obj := (PySem.Obj.mk .none .none (.fields (List.toArray [])) (List.toArray []))
noncomputable def o407 (P : Params) : Obj := (PySem.Obj.mk (.type "tuple") .none (.seq (List.toArray [(.str (Str.ofString "found") 752), (.str (Str.ofString "sent") 753), (.str (Str.ofString "joint") 754), (.str (Str.ofString "tick") 755), (.str (Str.ofString "known") 756), (.str (Str.ofString "net") 757), (.str (Str.ofString "rows") 758), (.str (Str.ofString "pipe") 759), (.str (Str.ofString "flow") 760), (.str (Str.ofString "warm") 761)]) 0) (List.toArray []))
noncomputable def o408 (P : Params) : Obj := (PySem.Obj.mk (.type "tuple") .none (.seq (List.toArray []) 0) (List.toArray []))
noncomputable def o409 (P : Params) : Obj := (PySem.Obj.mk .none .none (.func (FuncData.mk (Str.ofString "_came") (Str.ofString "_came") fa40.1 (.stmts fb40.1) fs40.1 0 [] .none .none .none .none .none .none .none 0)) (List.toArray []))
noncomputable def o410 (P : Params) : Obj := (PySem.Obj.mk (.type "code") .none (.fields (List.toArray [(.str (Str.ofString "_came") 749), (.str (Str.ofString "_came") 750), (.str (Str.ofString "/claim/cut.py") 751), (.int 274 0), (.int 5 0), (.int 0 0), (.int 0 0), (.int 3 0), (.ref 405), (.bool .true), (.int 181 0), (.ref 406), .none, (.ref 407), (.ref 408), (.ref 409), (.int 762 0), (.int 274 0), (.str (Str.ofString "/claim/cut.py") 763)])) (List.toArray []))
noncomputable def o411 (P : Params) : Obj := (PySem.Obj.mk (.type "function") .none (.func (FuncData.mk (Str.ofString "_came") (Str.ofString "_came") fa40.1 (.stmts fb40.1) fs40.1 3 [] .none .none .none (.str (Str.ofString "heatnet.travel") 737) .none (.ref 410) .none 0)) (List.toArray []))
noncomputable def o412 (P : Params) : Obj := (PySem.Obj.mk (.type "tuple") .none (.seq (List.toArray []) 0) (List.toArray []))
noncomputable def o413 (P : Params) : Obj := (PySem.Obj.mk .none .none (.fields (List.toArray [])) (List.toArray []))
noncomputable def o414 (P : Params) : Obj := (PySem.Obj.mk (.type "tuple") .none (.seq (List.toArray [(.str (Str.ofString "found") 768), (.str (Str.ofString "sent") 769), (.str (Str.ofString "joint") 770), (.str (Str.ofString "last") 771), (.str (Str.ofString "out") 772), (.str (Str.ofString "end") 773), (.str (Str.ofString "known") 774), (.str (Str.ofString "tick") 775)]) 0) (List.toArray []))
noncomputable def o415 (P : Params) : Obj := (PySem.Obj.mk (.type "tuple") .none (.seq (List.toArray []) 0) (List.toArray []))
noncomputable def o416 (P : Params) : Obj := (PySem.Obj.mk .none .none (.func (FuncData.mk (Str.ofString "settled") (Str.ofString "settled") fa41.1 (.stmts fb41.1) fs41.1 0 [] .none .none .none .none .none .none .none 0)) (List.toArray []))
noncomputable def o417 (P : Params) : Obj := (PySem.Obj.mk (.type "code") .none (.fields (List.toArray [(.str (Str.ofString "settled") 765), (.str (Str.ofString "settled") 766), (.str (Str.ofString "/claim/cut.py") 767), (.int 285 0), (.int 3 0), (.int 0 0), (.int 0 0), (.int 3 0), (.ref 412), (.bool .true), (.int 181 0), (.ref 413), .none, (.ref 414), (.ref 415), (.ref 416), (.int 776 0), (.int 285 0), (.str (Str.ofString "/claim/cut.py") 777)])) (List.toArray []))
noncomputable def o418 (P : Params) : Obj := (PySem.Obj.mk (.type "function") .none (.func (FuncData.mk (Str.ofString "settled") (Str.ofString "settled") fa41.1 (.stmts fb41.1) fs41.1 3 [] .none .none .none (.str (Str.ofString "heatnet.travel") 737) .none (.ref 417) .none 0)) (List.toArray []))
noncomputable def o419 (P : Params) : Obj := (PySem.Obj.mk (.type "tuple") .none (.seq (List.toArray []) 0) (List.toArray []))
noncomputable def o420 (P : Params) : Obj := (PySem.Obj.mk .none .none (.fields (List.toArray [])) (List.toArray []))
noncomputable def o421 (P : Params) : Obj := (PySem.Obj.mk (.type "tuple") .none (.seq (List.toArray [(.str (Str.ofString "found") 782), (.str (Str.ofString "joint") 783)]) 0) (List.toArray []))
noncomputable def o422 (P : Params) : Obj := (PySem.Obj.mk (.type "tuple") .none (.seq (List.toArray []) 0) (List.toArray []))
noncomputable def o423 (P : Params) : Obj := (PySem.Obj.mk .none .none (.func (FuncData.mk (Str.ofString "longest") (Str.ofString "longest") fa42.1 (.stmts fb42.1) fs42.1 0 [] .none .none .none .none .none .none .none 0)) (List.toArray []))
noncomputable def o424 (P : Params) : Obj := (PySem.Obj.mk (.type "code") .none (.fields (List.toArray [(.str (Str.ofString "longest") 779), (.str (Str.ofString "longest") 780), (.str (Str.ofString "/claim/cut.py") 781), (.int 297 0), (.int 2 0), (.int 0 0), (.int 0 0), (.int 3 0), (.ref 419), (.bool .true), (.int 181 0), (.ref 420), .none, (.ref 421), (.ref 422), (.ref 423), (.int 784 0), (.int 297 0), (.str (Str.ofString "/claim/cut.py") 785)])) (List.toArray []))
noncomputable def o425 (P : Params) : Obj := (PySem.Obj.mk (.type "function") .none (.func (FuncData.mk (Str.ofString "longest") (Str.ofString "longest") fa42.1 (.stmts fb42.1) fs42.1 3 [] .none .none .none (.str (Str.ofString "heatnet.travel") 737) .none (.ref 424) .none 0)) (List.toArray []))
noncomputable def o426 (P : Params) : Obj := (PySem.Obj.mk (.type "tuple") .none (.seq (List.toArray []) 0) (List.toArray []))
noncomputable def o427 (P : Params) : Obj := (PySem.Obj.mk .none .none (.fields (List.toArray [])) (List.toArray []))
noncomputable def o428 (P : Params) : Obj := (PySem.Obj.mk .none .none (.func (FuncData.mk (Str.ofString "_longest") (Str.ofString "_longest") fa43.1 (.stmts fb43.1) fs43.1 0 [] .none .none .none .none .none .none .none 0)) (List.toArray []))
noncomputable def o429 (P : Params) : Obj := (PySem.Obj.mk (.type "code") .none (.fields (List.toArray [(.str (Str.ofString "_longest") 787), (.str (Str.ofString "_longest") 788), (.str (Str.ofString "/claim/cut.py") 789), (.int 300 0), (.int 3 0), (.int 0 0), (.int 0 0), (.int 3 0), (.ref 426), (.bool .true), (.int 181 0), (.ref 427), .none, .none, .none, (.ref 428), (.int 790 0), (.int 300 0), (.str (Str.ofString "/claim/cut.py") 791)])) (List.toArray []))
noncomputable def o430 (P : Params) : Obj := (PySem.Obj.mk (.type "function") .none (.func (FuncData.mk (Str.ofString "_longest") (Str.ofString "_longest") fa43.1 (.stmts fb43.1) fs43.1 3 [] .none .none .none (.str (Str.ofString "heatnet.travel") 737) .none (.ref 429) .none 0)) (List.toArray []))
noncomputable def o431 (P : Params) : Obj := (PySem.Obj.mk (.type "tuple") .none (.seq (List.toArray []) 0) (List.toArray []))
noncomputable def o432 (P : Params) : Obj := (PySem.Obj.mk .none .none (.fields (List.toArray [])) (List.toArray []))
noncomputable def o433 (P : Params) : Obj := (PySem.Obj.mk .none .none (.func (FuncData.mk (Str.ofString "law") (Str.ofString "law") fa45.1 (.stmts fb45.1) fs45.1 0 [] .none .none .none .none .none .none .none 0)) (List.toArray []))
noncomputable def o434 (P : Params) : Obj := (PySem.Obj.mk (.type "code") .none (.fields (List.toArray [(.str (Str.ofString "law") 795), (.str (Str.ofString "law") 796), (.str (Str.ofString "/claim/cut.py") 797), (.int 305 0), (.int 1 0), (.int 0 0), (.int 0 0), (.int 3 0), (.ref 431), (.bool .true), (.int 181 0), (.ref 432), .none, .none, .none, (.ref 433), (.int 798 0), (.int 305 0), (.str (Str.ofString "/claim/cut.py") 799)])) (List.toArray []))
noncomputable def o435 (P : Params) : Obj := (PySem.Obj.mk (.type "function") .none (.func (FuncData.mk (Str.ofString "law") (Str.ofString "law") fa45.1 (.stmts fb45.1) fs45.1 3 [] .none .none .none (.str (Str.ofString "law_ui0509_16") 793) .none (.ref 434) .none 0)) (List.toArray []))
noncomputable def t7 (P : Params) : BT := (.node (boot_o_0 P) (.node (boot_o_1 P) (.node (o3v7 P) (.node (boot_o_7 P) (.node (o15 P) (.node (o31 P) (.node (o63 P) (.node (o127 P) (lf (o255 P)) (lf (o383 P))) (.node (o191 P) (lf (o319 P)) .nil)) (.node (o95 P) (.node (o159 P) (lf (o287 P)) (lf (o415 P))) (.node (o223 P) (lf (o351 P)) .nil))) (.node (o47 P) (.node (o79 P) (.node (o143 P) (lf (o271 P)) (lf (o399 P))) (.node (o207 P) (lf (o335 P)) .nil)) (.node (o111 P) (.node (o175 P) (lf (o303 P)) (lf (o431 P))) (.node (o239 P) (lf (o367 P)) .nil)))) (.node (o23 P) (.node (o39 P) (.node (o71 P) (.node (o135 P) (lf (o263 P)) (lf (o391 P))) (.node (o199 P) (lf (o327 P)) .nil)) (.node (o103 P) (.node (o167 P) (lf (o295 P)) (lf (o423 P))) (.node (o231 P) (lf (o359 P)) .nil))) (.node (o55 P) (.node (o87 P) (.node (o151 P) (lf (o279 P)) (lf (o407 P))) (.node (o215 P) (lf (o343 P)) .nil)) (.node (o119 P) (.node (o183 P) (lf (o311 P)) .nil) (.node (o247 P) (lf (o375 P)) .nil))))) (.node (o11 P) (.node (o19 P) (.node (o35 P) (.node (o67 P) (.node (o131 P) (lf (o259 P)) (lf (o387 P))) (.node (o195 P) (lf (o323 P)) .nil)) (.node (o99 P) (.node (o163 P) (lf (o291 P)) (lf (o419 P))) (.node (o227 P) (lf (o355 P)) .nil))) (.node (o51 P) (.node (o83 P) (.node (o147 P) (lf (o275 P)) (lf (o403 P))) (.node (o211 P) (lf (o339 P)) .nil)) (.node (o115 P) (.node (o179 P) (lf (o307 P)) (lf (o435 P))) (.node (o243 P) (lf (o371 P)) .nil)))) (.node (o27 P) (.node (o43 P) (.node (o75 P) (.node (o139 P) (lf (o267 P)) (lf (o395 P))) (.node (o203 P) (lf (o331 P)) .nil)) (.node (o107 P) (.node (o171 P) (lf (o299 P)) (lf (o427 P))) (.node (o235 P) (lf (o363 P)) .nil))) (.node (o59 P) (.node (o91 P) (.node (o155 P) (lf (o283 P)) (lf (o411 P))) (.node (o219 P) (lf (o347 P)) .nil)) (.node (o123 P) (.node (o187 P) (lf (o315 P)) .nil) (.node (o251 P) (lf (o379 P)) .nil)))))) (.node (boot_o_5 P) (.node (boot_o_9 P) (.node (o17 P) (.node (o33 P) (.node (o65 P) (.node (o129 P) (lf (o257 P)) (lf (o385 P))) (.node (o193 P) (lf (o321 P)) .nil)) (.node (o97 P) (.node (o161 P) (lf (o289 P)) (lf (o417 P))) (.node (o225 P) (lf (o353 P)) .nil))) (.node (o49 P) (.node (o81 P) (.node (o145 P) (lf (o273 P)) (lf (o401 P))) (.node (o209 P) (lf (o337 P)) .nil)) (.node (o113 P) (.node (o177 P) (lf (o305 P)) (lf (o433 P))) (.node (o241 P) (lf (o369 P)) .nil)))) (.node (o25 P) (.node (o41 P) (.node (o73 P) (.node (o137 P) (lf (o265 P)) (lf (o393 P))) (.node (o201 P) (lf (o329 P)) .nil)) (.node (o105 P) (.node (o169 P) (lf (o297 P)) (lf (o425 P))) (.node (o233 P) (lf (o361 P)) .nil))) (.node (o57 P) (.node (o89 P) (.node (o153 P) (lf (o281 P)) (lf (o409 P))) (.node (o217 P) (lf (o345 P)) .nil)) (.node (o121 P) (.node (o185 P) (lf (o313 P)) .nil) (.node (o249 P) (lf (o377 P)) .nil))))) (.node (o13 P) (.node (o21 P) (.node (o37 P) (.node (o69 P) (.node (o133 P) (lf (o261 P)) (lf (o389 P))) (.node (o197 P) (lf (o325 P)) .nil)) (.node (o101 P) (.node (o165 P) (lf (o293 P)) (lf (o421 P))) (.node (o229 P) (lf (o357 P)) .nil))) (.node (o53 P) (.node (o85 P) (.node (o149 P) (lf (o277 P)) (lf (o405 P))) (.node (o213 P) (lf (o341 P)) .nil)) (.node (o117 P) (.node (o181 P) (lf (o309 P)) .nil) (.node (o245 P) (lf (o373 P)) .nil)))) (.node (o29 P) (.node (o45 P) (.node (o77 P) (.node (o141 P) (lf (o269 P)) (lf (o397 P))) (.node (o205 P) (lf (o333 P)) .nil)) (.node (o109 P) (.node (o173 P) (lf (o301 P)) (lf (o429 P))) (.node (o237 P) (lf (o365 P)) .nil))) (.node (o61 P) (.node (o93 P) (.node (o157 P) (lf (o285 P)) (lf (o413 P))) (.node (o221 P) (lf (o349 P)) .nil)) (.node (o125 P) (.node (o189 P) (lf (o317 P)) .nil) (.node (o253 P) (lf (o381 P)) .nil))))))) (.node (boot_o_2 P) (.node (boot_o_4 P) (.node (boot_o_8 P) (.node (o16 P) (.node (o32 P) (.node (o64 P) (.node (o128 P) (lf (o256 P)) (lf (o384 P))) (.node (o192 P) (lf (o320 P)) .nil)) (.node (o96 P) (.node (o160 P) (lf (o288 P)) (lf (o416 P))) (.node (o224 P) (lf (o352 P)) .nil))) (.node (o48 P) (.node (o80 P) (.node (o144 P) (lf (o272 P)) (lf (o400 P))) (.node (o208 P) (lf (o336 P)) .nil)) (.node (o112 P) (.node (o176 P) (lf (o304 P)) (lf (o432 P))) (.node (o240 P) (lf (o368 P)) .nil)))) (.node (o24 P) (.node (o40 P) (.node (o72 P) (.node (o136 P) (lf (o264 P)) (lf (o392 P))) (.node (o200 P) (lf (o328 P)) .nil)) (.node (o104 P) (.node (o168 P) (lf (o296 P)) (lf (o424 P))) (.node (o232 P) (lf (o360 P)) .nil))) (.node (o56 P) (.node (o88 P) (.node (o152 P) (lf (o280 P)) (lf (o408 P))) (.node (o216 P) (lf (o344 P)) .nil)) (.node (o120 P) (.node (o184 P) (lf (o312 P)) .nil) (.node (o248 P) (lf (o376 P)) .nil))))) (.node (o12v8 P) (.node (o20 P) (.node (o36 P) (.node (o68 P) (.node (o132 P) (lf (o260 P)) (lf (o388 P))) (.node (o196 P) (lf (o324 P)) .nil)) (.node (o100 P) (.node (o164 P) (lf (o292 P)) (lf (o420 P))) (.node (o228 P) (lf (o356 P)) .nil))) (.node (o52 P) (.node (o84 P) (.node (o148 P) (lf (o276 P)) (lf (o404 P))) (.node (o212 P) (lf (o340 P)) .nil)) (.node (o116 P) (.node (o180 P) (lf (o308 P)) .nil) (.node (o244 P) (lf (o372 P)) .nil)))) (.node (o28 P) (.node (o44 P) (.node (o76 P) (.node (o140 P) (lf (o268 P)) (lf (o396 P))) (.node (o204 P) (lf (o332 P)) .nil)) (.node (o108 P) (.node (o172 P) (lf (o300 P)) (lf (o428 P))) (.node (o236 P) (lf (o364 P)) .nil))) (.node (o60 P) (.node (o92 P) (.node (o156 P) (lf (o284 P)) (lf (o412 P))) (.node (o220 P) (lf (o348 P)) .nil)) (.node (o124 P) (.node (o188 P) (lf (o316 P)) .nil) (.node (o252 P) (lf (o380 P)) .nil)))))) (.node (boot_o_6 P) (.node (boot_o_10 P) (.node (o18 P) (.node (o34 P) (.node (o66 P) (.node (o130 P) (lf (o258 P)) (lf (o386 P))) (.node (o194 P) (lf (o322 P)) .nil)) (.node (o98 P) (.node (o162 P) (lf (o290 P)) (lf (o418 P))) (.node (o226 P) (lf (o354 P)) .nil))) (.node (o50 P) (.node (o82 P) (.node (o146 P) (lf (o274 P)) (lf (o402 P))) (.node (o210 P) (lf (o338 P)) .nil)) (.node (o114 P) (.node (o178 P) (lf (o306 P)) (lf (o434 P))) (.node (o242 P) (lf (o370 P)) .nil)))) (.node (o26 P) (.node (o42 P) (.node (o74 P) (.node (o138 P) (lf (o266 P)) (lf (o394 P))) (.node (o202 P) (lf (o330 P)) .nil)) (.node (o106 P) (.node (o170 P) (lf (o298 P)) (lf (o426 P))) (.node (o234 P) (lf (o362 P)) .nil))) (.node (o58 P) (.node (o90 P) (.node (o154 P) (lf (o282 P)) (lf (o410 P))) (.node (o218 P) (lf (o346 P)) .nil)) (.node (o122 P) (.node (o186 P) (lf (o314 P)) .nil) (.node (o250 P) (lf (o378 P)) .nil))))) (.node (o14 P) (.node (o22 P) (.node (o38 P) (.node (o70 P) (.node (o134 P) (lf (o262 P)) (lf (o390 P))) (.node (o198 P) (lf (o326 P)) .nil)) (.node (o102 P) (.node (o166 P) (lf (o294 P)) (lf (o422 P))) (.node (o230 P) (lf (o358 P)) .nil))) (.node (o54 P) (.node (o86 P) (.node (o150 P) (lf (o278 P)) (lf (o406 P))) (.node (o214 P) (lf (o342 P)) .nil)) (.node (o118 P) (.node (o182 P) (lf (o310 P)) .nil) (.node (o246 P) (lf (o374 P)) .nil)))) (.node (o30 P) (.node (o46 P) (.node (o78 P) (.node (o142 P) (lf (o270 P)) (lf (o398 P))) (.node (o206 P) (lf (o334 P)) .nil)) (.node (o110 P) (.node (o174 P) (lf (o302 P)) (lf (o430 P))) (.node (o238 P) (lf (o366 P)) .nil))) (.node (o62 P) (.node (o94 P) (.node (o158 P) (lf (o286 P)) (lf (o414 P))) (.node (o222 P) (lf (o350 P)) .nil)) (.node (o126 P) (.node (o190 P) (lf (o318 P)) .nil) (.node (o254 P) (lf (o382 P)) .nil))))))))
noncomputable def t7S (P : Params) (os : OsState) : SharedT := ⟨t7 P, 436, (.mk [] [] [] 0 [] [] .false (List.toArray []) [] 0 .false .false .false 0 [2000, 10, 10] .false 0 .true [] [] 0 .false), ⟨[]⟩, (.mk 0 0 0 0), 801, os⟩
set_option maxRecDepth 100000 in
theorem pc7 (w : World) : (fun os => segRunT treeTable pw w 11 annH 1 196 (t6S (w).params os) (piecesOf (((behindTheImports pw).drop 39).take 7) envH cE ((.mk 269 0 269 5) : Pos) [topFrame qH])) = fun os => some (.next, t7S (w).params os, cE, ((.mk 305 0 330 61) : Pos)) := by
  unfold piecesOf; rw [PySem.W.Fast.te10110043849684766642, PySem.W.Fast.te14364793385576792824, PySem.W.Fast.te12563942051412417395]; kernel_rfl!
noncomputable def tF (P : Params) : BT := (.node (boot_o_0 P) (.node (boot_o_1 P) (.node (o3v7 P) (.node (boot_o_7 P) (.node (o15 P) (.node (o31 P) (.node (o63 P) (.node (o127 P) (lf (o255 P)) (lf (o383 P))) (.node (o191 P) (lf (o319 P)) .nil)) (.node (o95 P) (.node (o159 P) (lf (o287 P)) (lf (o415 P))) (.node (o223 P) (lf (o351 P)) .nil))) (.node (o47 P) (.node (o79 P) (.node (o143 P) (lf (o271 P)) (lf (o399 P))) (.node (o207 P) (lf (o335 P)) .nil)) (.node (o111 P) (.node (o175 P) (lf (o303 P)) (lf (o431 P))) (.node (o239 P) (lf (o367 P)) .nil)))) (.node (o23 P) (.node (o39 P) (.node (o71 P) (.node (o135 P) (lf (o263 P)) (lf (o391 P))) (.node (o199 P) (lf (o327 P)) .nil)) (.node (o103 P) (.node (o167 P) (lf (o295 P)) (lf (o423 P))) (.node (o231 P) (lf (o359 P)) .nil))) (.node (o55 P) (.node (o87 P) (.node (o151 P) (lf (o279 P)) (lf (o407 P))) (.node (o215 P) (lf (o343 P)) .nil)) (.node (o119 P) (.node (o183 P) (lf (o311 P)) .nil) (.node (o247 P) (lf (o375 P)) .nil))))) (.node (o11 P) (.node (o19 P) (.node (o35 P) (.node (o67 P) (.node (o131 P) (lf (o259 P)) (lf (o387 P))) (.node (o195 P) (lf (o323 P)) .nil)) (.node (o99 P) (.node (o163 P) (lf (o291 P)) (lf (o419 P))) (.node (o227 P) (lf (o355 P)) .nil))) (.node (o51 P) (.node (o83 P) (.node (o147 P) (lf (o275 P)) (lf (o403 P))) (.node (o211 P) (lf (o339 P)) .nil)) (.node (o115 P) (.node (o179 P) (lf (o307 P)) (lf (o435 P))) (.node (o243 P) (lf (o371 P)) .nil)))) (.node (o27 P) (.node (o43 P) (.node (o75 P) (.node (o139 P) (lf (o267 P)) (lf (o395 P))) (.node (o203 P) (lf (o331 P)) .nil)) (.node (o107 P) (.node (o171 P) (lf (o299 P)) (lf (o427 P))) (.node (o235 P) (lf (o363 P)) .nil))) (.node (o59 P) (.node (o91 P) (.node (o155 P) (lf (o283 P)) (lf (o411 P))) (.node (o219 P) (lf (o347 P)) .nil)) (.node (o123 P) (.node (o187 P) (lf (o315 P)) .nil) (.node (o251 P) (lf (o379 P)) .nil)))))) (.node (boot_o_5 P) (.node (boot_o_9 P) (.node (o17 P) (.node (o33 P) (.node (o65 P) (.node (o129 P) (lf (o257 P)) (lf (o385 P))) (.node (o193 P) (lf (o321 P)) .nil)) (.node (o97 P) (.node (o161 P) (lf (o289 P)) (lf (o417 P))) (.node (o225 P) (lf (o353 P)) .nil))) (.node (o49 P) (.node (o81 P) (.node (o145 P) (lf (o273 P)) (lf (o401 P))) (.node (o209 P) (lf (o337 P)) .nil)) (.node (o113 P) (.node (o177 P) (lf (o305 P)) (lf (o433 P))) (.node (o241 P) (lf (o369 P)) .nil)))) (.node (o25 P) (.node (o41 P) (.node (o73 P) (.node (o137 P) (lf (o265 P)) (lf (o393 P))) (.node (o201 P) (lf (o329 P)) .nil)) (.node (o105 P) (.node (o169 P) (lf (o297 P)) (lf (o425 P))) (.node (o233 P) (lf (o361 P)) .nil))) (.node (o57 P) (.node (o89 P) (.node (o153 P) (lf (o281 P)) (lf (o409 P))) (.node (o217 P) (lf (o345 P)) .nil)) (.node (o121 P) (.node (o185 P) (lf (o313 P)) .nil) (.node (o249 P) (lf (o377 P)) .nil))))) (.node (o13 P) (.node (o21 P) (.node (o37 P) (.node (o69 P) (.node (o133 P) (lf (o261 P)) (lf (o389 P))) (.node (o197 P) (lf (o325 P)) .nil)) (.node (o101 P) (.node (o165 P) (lf (o293 P)) (lf (o421 P))) (.node (o229 P) (lf (o357 P)) .nil))) (.node (o53 P) (.node (o85 P) (.node (o149 P) (lf (o277 P)) (lf (o405 P))) (.node (o213 P) (lf (o341 P)) .nil)) (.node (o117 P) (.node (o181 P) (lf (o309 P)) .nil) (.node (o245 P) (lf (o373 P)) .nil)))) (.node (o29 P) (.node (o45 P) (.node (o77 P) (.node (o141 P) (lf (o269 P)) (lf (o397 P))) (.node (o205 P) (lf (o333 P)) .nil)) (.node (o109 P) (.node (o173 P) (lf (o301 P)) (lf (o429 P))) (.node (o237 P) (lf (o365 P)) .nil))) (.node (o61 P) (.node (o93 P) (.node (o157 P) (lf (o285 P)) (lf (o413 P))) (.node (o221 P) (lf (o349 P)) .nil)) (.node (o125 P) (.node (o189 P) (lf (o317 P)) .nil) (.node (o253 P) (lf (o381 P)) .nil))))))) (.node (boot_o_2 P) (.node (boot_o_4 P) (.node (boot_o_8 P) (.node (o16 P) (.node (o32 P) (.node (o64 P) (.node (o128 P) (lf (o256 P)) (lf (o384 P))) (.node (o192 P) (lf (o320 P)) .nil)) (.node (o96 P) (.node (o160 P) (lf (o288 P)) (lf (o416 P))) (.node (o224 P) (lf (o352 P)) .nil))) (.node (o48 P) (.node (o80 P) (.node (o144 P) (lf (o272 P)) (lf (o400 P))) (.node (o208 P) (lf (o336 P)) .nil)) (.node (o112 P) (.node (o176 P) (lf (o304 P)) (lf (o432 P))) (.node (o240 P) (lf (o368 P)) .nil)))) (.node (o24 P) (.node (o40 P) (.node (o72 P) (.node (o136 P) (lf (o264 P)) (lf (o392 P))) (.node (o200 P) (lf (o328 P)) .nil)) (.node (o104 P) (.node (o168 P) (lf (o296 P)) (lf (o424 P))) (.node (o232 P) (lf (o360 P)) .nil))) (.node (o56 P) (.node (o88 P) (.node (o152 P) (lf (o280 P)) (lf (o408 P))) (.node (o216 P) (lf (o344 P)) .nil)) (.node (o120 P) (.node (o184 P) (lf (o312 P)) .nil) (.node (o248 P) (lf (o376 P)) .nil))))) (.node (o12v8 P) (.node (o20 P) (.node (o36 P) (.node (o68 P) (.node (o132 P) (lf (o260 P)) (lf (o388 P))) (.node (o196 P) (lf (o324 P)) .nil)) (.node (o100 P) (.node (o164 P) (lf (o292 P)) (lf (o420 P))) (.node (o228 P) (lf (o356 P)) .nil))) (.node (o52 P) (.node (o84 P) (.node (o148 P) (lf (o276 P)) (lf (o404 P))) (.node (o212 P) (lf (o340 P)) .nil)) (.node (o116 P) (.node (o180 P) (lf (o308 P)) .nil) (.node (o244 P) (lf (o372 P)) .nil)))) (.node (o28 P) (.node (o44 P) (.node (o76 P) (.node (o140 P) (lf (o268 P)) (lf (o396 P))) (.node (o204 P) (lf (o332 P)) .nil)) (.node (o108 P) (.node (o172 P) (lf (o300 P)) (lf (o428 P))) (.node (o236 P) (lf (o364 P)) .nil))) (.node (o60 P) (.node (o92 P) (.node (o156 P) (lf (o284 P)) (lf (o412 P))) (.node (o220 P) (lf (o348 P)) .nil)) (.node (o124 P) (.node (o188 P) (lf (o316 P)) .nil) (.node (o252 P) (lf (o380 P)) .nil)))))) (.node (boot_o_6 P) (.node (boot_o_10 P) (.node (o18 P) (.node (o34 P) (.node (o66 P) (.node (o130 P) (lf (o258 P)) (lf (o386 P))) (.node (o194 P) (lf (o322 P)) .nil)) (.node (o98 P) (.node (o162 P) (lf (o290 P)) (lf (o418 P))) (.node (o226 P) (lf (o354 P)) .nil))) (.node (o50 P) (.node (o82 P) (.node (o146 P) (lf (o274 P)) (lf (o402 P))) (.node (o210 P) (lf (o338 P)) .nil)) (.node (o114 P) (.node (o178 P) (lf (o306 P)) (lf (o434 P))) (.node (o242 P) (lf (o370 P)) .nil)))) (.node (o26 P) (.node (o42 P) (.node (o74 P) (.node (o138 P) (lf (o266 P)) (lf (o394 P))) (.node (o202 P) (lf (o330 P)) .nil)) (.node (o106 P) (.node (o170 P) (lf (o298 P)) (lf (o426 P))) (.node (o234 P) (lf (o362 P)) .nil))) (.node (o58 P) (.node (o90 P) (.node (o154 P) (lf (o282 P)) (lf (o410 P))) (.node (o218 P) (lf (o346 P)) .nil)) (.node (o122 P) (.node (o186 P) (lf (o314 P)) .nil) (.node (o250 P) (lf (o378 P)) .nil))))) (.node (o14 P) (.node (o22 P) (.node (o38 P) (.node (o70 P) (.node (o134 P) (lf (o262 P)) (lf (o390 P))) (.node (o198 P) (lf (o326 P)) .nil)) (.node (o102 P) (.node (o166 P) (lf (o294 P)) (lf (o422 P))) (.node (o230 P) (lf (o358 P)) .nil))) (.node (o54 P) (.node (o86 P) (.node (o150 P) (lf (o278 P)) (lf (o406 P))) (.node (o214 P) (lf (o342 P)) .nil)) (.node (o118 P) (.node (o182 P) (lf (o310 P)) .nil) (.node (o246 P) (lf (o374 P)) .nil)))) (.node (o30 P) (.node (o46 P) (.node (o78 P) (.node (o142 P) (lf (o270 P)) (lf (o398 P))) (.node (o206 P) (lf (o334 P)) .nil)) (.node (o110 P) (.node (o174 P) (lf (o302 P)) (lf (o430 P))) (.node (o238 P) (lf (o366 P)) .nil))) (.node (o62 P) (.node (o94 P) (.node (o158 P) (lf (o286 P)) (lf (o414 P))) (.node (o222 P) (lf (o350 P)) .nil)) (.node (o126 P) (.node (o190 P) (lf (o318 P)) .nil) (.node (o254 P) (lf (o382 P)) .nil))))))))
noncomputable def tFS (P : Params) (os : OsState) : SharedT := ⟨tF P, 436, (.mk [] [] [] 0 [] [] .false (List.toArray []) [] 0 .false .false .false 0 [2000, 10, 10] .false 0 .true [] [] 0 .false), ⟨[]⟩, (.mk 0 0 0 0), 801, os⟩
theorem finH (w : World) : (fun os => topRun treeTable pw w 11 annH 2 (t7S w.params os).abs ⟨doneF .next, cE, ((.mk 305 0 330 61) : Pos), [topFrame qH]⟩) = fun os => some (tFS w.params os).abs := by
  rw [PySem.W.Fast.te14082659384304107361, PySem.W.Fast.te14364793385576792824]; kernel_rfl!
theorem step_pc {tb : String → Option Builtin} {p : Program} {w : World} {n₀ : Nat} {ann : Option Value} {env : Env} {q : Pos} {n N : Nat} {s s' : SharedT} {r : Shared} {c : Code} {pos p' : Pos} (b : List Stmt) (a k : Nat) (h : segRunT tb p w n₀ ann 1 n s (piecesOf ((b.drop a).take k) env c pos [topFrame q]) = some (.next, s', c, p'))
    (kk : topRun tb p w n₀ ann N s'.abs (PySem.W.restOf (b.drop (a + k)) env c p' [topFrame q]) = some r) : topRun tb p w n₀ ann (n + N) s.abs (PySem.W.restOf (b.drop a) env c pos [topFrame q]) = some r := by
  have e : (b.drop a).take k ++ b.drop (a + k) = b.drop a := by rw [← List.drop_drop, List.take_append_drop]
  have h2 := piece_app (segRun_of h) kk
  rw [e] at h2; exact h2
theorem runH (w : World) (os : OsState) : topRun treeTable pw w 11 annH 3043 (s0H w.params os) (topStub pw) = some (tFS w.params os).abs :=
  go_top (N := 3031) (congrFun (preH w) os) (piece_block (N := 3030) (segRun_of (congrFun (blockH w) os)) (step_pc (behindTheImports pw) 0 12 (congrFun (pc0 w) os) (step_pc (behindTheImports pw) 12 14 (congrFun (pc1 w) os) (step_pc (behindTheImports pw) 26 1 (congrFun (pc2 w) os) (step_pc (behindTheImports pw) 27 1 (congrFun (pc3 w) os) (step_pc (behindTheImports pw) 28 1 (congrFun (pc4 w) os) (step_pc (behindTheImports pw) 29 7 (congrFun (pc5 w) os) (step_pc (behindTheImports pw) 36 3 (congrFun (pc6 w) os) (step_pc (behindTheImports pw) 39 7 (congrFun (pc7 w) os) (congrFun (finH w) os))))))))))
noncomputable def vq : Program := view pw [0, 2, 3, 4, 5, 7, 8, 9, 10, 11, 14, 15, 16, 17, 18, 19, 20, 21, 23, 24, 25, 26, 27, 28, 30, 31, 33, 34, 36, 38, 39, 40, 41, 42, 43, 45]
noncomputable def K : Params → Frag := fun P => (nat_lit 2, boot_o_2 P) :: (nat_lit 3, o3v7 P) :: (nat_lit 15, o15 P) :: (nat_lit 17, o17 P) :: (nat_lit 18, o18 P) :: (nat_lit 20, o20 P) :: (nat_lit 21, o21 P) :: (nat_lit 22, o22 P) :: (nat_lit 29, o29 P) :: (nat_lit 30, o30 P) :: (nat_lit 31, o31 P) :: (nat_lit 32, o32 P) :: (nat_lit 35, o35 P) :: (nat_lit 37, o37 P) :: (nat_lit 38, o38 P) :: (nat_lit 40, o40 P) :: (nat_lit 41, o41 P) :: (nat_lit 42, o42 P) :: (nat_lit 44, o44 P) :: (nat_lit 45, o45 P) :: (nat_lit 47, o47 P) :: (nat_lit 48, o48 P) :: (nat_lit 49, o49 P) :: (nat_lit 51, o51 P) :: (nat_lit 52, o52 P) :: (nat_lit 54, o54 P) :: (nat_lit 55, o55 P) :: (nat_lit 56, o56 P) :: (nat_lit 57, o57 P) :: (nat_lit 58, o58 P) :: (nat_lit 60, o60 P) :: (nat_lit 61, o61 P) :: (nat_lit 63, o63 P) :: (nat_lit 64, o64 P) :: (nat_lit 65, o65 P) :: (nat_lit 66, o66 P) :: (nat_lit 68, o68 P) :: (nat_lit 69, o69 P) :: (nat_lit 71, o71 P) :: (nat_lit 72, o72 P) :: (nat_lit 73, o73 P) :: (nat_lit 74, o74 P) :: (nat_lit 76, o76 P) :: (nat_lit 77, o77 P) :: (nat_lit 79, o79 P) :: (nat_lit 80, o80 P) :: (nat_lit 81, o81 P) :: (nat_lit 83, o83 P) :: (nat_lit 84, o84 P) :: (nat_lit 86, o86 P) :: (nat_lit 87, o87 P) :: (nat_lit 88, o88 P) :: (nat_lit 90, o90 P) :: (nat_lit 91, o91 P) :: (nat_lit 93, o93 P) :: (nat_lit 94, o94 P) :: (nat_lit 95, o95 P) :: (nat_lit 97, o97 P) :: (nat_lit 98, o98 P) :: (nat_lit 100, o100 P) :: (nat_lit 101, o101 P) :: (nat_lit 102, o102 P) :: (nat_lit 104, o104 P) :: (nat_lit 105, o105 P) :: (nat_lit 107, o107 P) :: (nat_lit 108, o108 P) :: (nat_lit 109, o109 P) :: (nat_lit 111, o111 P) :: (nat_lit 112, o112 P) :: (nat_lit 114, o114 P) :: (nat_lit 115, o115 P) :: (nat_lit 116, o116 P) :: (nat_lit 118, o118 P) :: (nat_lit 119, o119 P) :: (nat_lit 121, o121 P) :: (nat_lit 122, o122 P) :: (nat_lit 123, o123 P) :: (nat_lit 125, o125 P) :: (nat_lit 126, o126 P) :: (nat_lit 128, o128 P) :: (nat_lit 129, o129 P) :: (nat_lit 130, o130 P) :: (nat_lit 132, o132 P) :: (nat_lit 133, o133 P) :: (nat_lit 135, o135 P) :: (nat_lit 136, o136 P) :: (nat_lit 144, o144 P) :: (nat_lit 146, o146 P) :: (nat_lit 147, o147 P) :: (nat_lit 149, o149 P) :: (nat_lit 150, o150 P) :: (nat_lit 151, o151 P) :: (nat_lit 152, o152 P) :: (nat_lit 153, o153 P) :: (nat_lit 154, o154 P) :: (nat_lit 155, o155 P) :: (nat_lit 165, o165 P) :: (nat_lit 167, o167 P) :: (nat_lit 168, o168 P) :: (nat_lit 170, o170 P) :: (nat_lit 171, o171 P) :: (nat_lit 172, o172 P) :: (nat_lit 174, o174 P) :: (nat_lit 175, o175 P) :: (nat_lit 177, o177 P) :: (nat_lit 178, o178 P) :: (nat_lit 179, o179 P) :: (nat_lit 180, o180 P) :: (nat_lit 181, o181 P) :: (nat_lit 182, o182 P) :: (nat_lit 183, o183 P) :: (nat_lit 199, o199 P) :: (nat_lit 200, o200 P) :: (nat_lit 201, o201 P) :: (nat_lit 203, o203 P) :: (nat_lit 204, o204 P) :: (nat_lit 206, o206 P) :: (nat_lit 207, o207 P) :: (nat_lit 208, o208 P) :: (nat_lit 210, o210 P) :: (nat_lit 211, o211 P) :: (nat_lit 213, o213 P) :: (nat_lit 214, o214 P) :: (nat_lit 215, o215 P) :: (nat_lit 217, o217 P) :: (nat_lit 218, o218 P) :: (nat_lit 220, o220 P) :: (nat_lit 221, o221 P) :: (nat_lit 222, o222 P) :: (nat_lit 224, o224 P) :: (nat_lit 225, o225 P) :: (nat_lit 227, o227 P) :: (nat_lit 228, o228 P) :: (nat_lit 229, o229 P) :: (nat_lit 231, o231 P) :: (nat_lit 232, o232 P) :: (nat_lit 234, o234 P) :: (nat_lit 235, o235 P) :: (nat_lit 236, o236 P) :: (nat_lit 237, o237 P) :: (nat_lit 239, o239 P) :: (nat_lit 240, o240 P) :: (nat_lit 242, o242 P) :: (nat_lit 243, o243 P) :: (nat_lit 244, o244 P) :: (nat_lit 246, o246 P) :: (nat_lit 247, o247 P) :: (nat_lit 249, o249 P) :: (nat_lit 250, o250 P) :: (nat_lit 251, o251 P) :: (nat_lit 253, o253 P) :: (nat_lit 254, o254 P) :: (nat_lit 256, o256 P) :: (nat_lit 257, o257 P) :: (nat_lit 258, o258 P) :: (nat_lit 260, o260 P) :: (nat_lit 261, o261 P) :: (nat_lit 263, o263 P) :: (nat_lit 264, o264 P) :: (nat_lit 265, o265 P) :: (nat_lit 268, o268 P) :: (nat_lit 269, o269 P) :: (nat_lit 270, o270 P) :: (nat_lit 273, o273 P) :: (nat_lit 274, o274 P) :: (nat_lit 275, o275 P) :: (nat_lit 277, o277 P) :: (nat_lit 278, o278 P) :: (nat_lit 280, o280 P) :: (nat_lit 281, o281 P) :: (nat_lit 282, o282 P) :: (nat_lit 284, o284 P) :: (nat_lit 285, o285 P) :: (nat_lit 287, o287 P) :: (nat_lit 288, o288 P) :: (nat_lit 289, o289 P) :: (nat_lit 291, o291 P) :: (nat_lit 292, o292 P) :: (nat_lit 294, o294 P) :: (nat_lit 295, o295 P) :: (nat_lit 296, o296 P) :: (nat_lit 298, o298 P) :: (nat_lit 299, o299 P) :: (nat_lit 301, o301 P) :: (nat_lit 302, o302 P) :: (nat_lit 303, o303 P) :: (nat_lit 305, o305 P) :: (nat_lit 306, o306 P) :: (nat_lit 308, o308 P) :: (nat_lit 309, o309 P) :: (nat_lit 310, o310 P) :: (nat_lit 311, o311 P) :: (nat_lit 312, o312 P) :: (nat_lit 313, o313 P) :: (nat_lit 314, o314 P) :: (nat_lit 317, o317 P) :: (nat_lit 319, o319 P) :: (nat_lit 320, o320 P) :: (nat_lit 322, o322 P) :: (nat_lit 323, o323 P) :: (nat_lit 324, o324 P) :: (nat_lit 327, o327 P) :: (nat_lit 328, o328 P) :: (nat_lit 329, o329 P) :: (nat_lit 331, o331 P) :: (nat_lit 332, o332 P) :: (nat_lit 334, o334 P) :: (nat_lit 335, o335 P) :: (nat_lit 336, o336 P) :: (nat_lit 339, o339 P) :: (nat_lit 340, o340 P) :: (nat_lit 348, o348 P) :: (nat_lit 349, o349 P) :: (nat_lit 351, o351 P) :: (nat_lit 352, o352 P) :: (nat_lit 354, o354 P) :: (nat_lit 355, o355 P) :: (nat_lit 356, o356 P) :: (nat_lit 358, o358 P) :: (nat_lit 359, o359 P) :: (nat_lit 361, o361 P) :: (nat_lit 362, o362 P) :: (nat_lit 363, o363 P) :: (nat_lit 365, o365 P) :: (nat_lit 366, o366 P) :: (nat_lit 368, o368 P) :: (nat_lit 369, o369 P) :: (nat_lit 370, o370 P) :: (nat_lit 372, o372 P) :: (nat_lit 373, o373 P) :: (nat_lit 375, o375 P) :: (nat_lit 376, o376 P) :: (nat_lit 377, o377 P) :: (nat_lit 379, o379 P) :: (nat_lit 380, o380 P) :: (nat_lit 382, o382 P) :: (nat_lit 383, o383 P) :: (nat_lit 384, o384 P) :: (nat_lit 386, o386 P) :: (nat_lit 387, o387 P) :: (nat_lit 389, o389 P) :: (nat_lit 390, o390 P) :: (nat_lit 391, o391 P) :: (nat_lit 392, o392 P) :: (nat_lit 393, o393 P) :: (nat_lit 394, o394 P) :: (nat_lit 395, o395 P) :: (nat_lit 398, o398 P) :: (nat_lit 400, o400 P) :: (nat_lit 401, o401 P) :: (nat_lit 403, o403 P) :: (nat_lit 404, o404 P) :: (nat_lit 405, o405 P) :: (nat_lit 407, o407 P) :: (nat_lit 408, o408 P) :: (nat_lit 410, o410 P) :: (nat_lit 411, o411 P) :: (nat_lit 412, o412 P) :: (nat_lit 414, o414 P) :: (nat_lit 415, o415 P) :: (nat_lit 417, o417 P) :: (nat_lit 418, o418 P) :: (nat_lit 419, o419 P) :: (nat_lit 421, o421 P) :: (nat_lit 422, o422 P) :: (nat_lit 424, o424 P) :: (nat_lit 425, o425 P) :: (nat_lit 426, o426 P) :: (nat_lit 429, o429 P) :: (nat_lit 430, o430 P) :: (nat_lit 431, o431 P) :: (nat_lit 434, o434 P) :: (nat_lit 435, o435 P) :: []
theorem hkH : ∀ P, (((nat_lit 2) :: (nat_lit 3) :: (nat_lit 15) :: (nat_lit 17) :: (nat_lit 18) :: (nat_lit 20) :: (nat_lit 21) :: (nat_lit 22) :: (nat_lit 29) :: (nat_lit 30) :: (nat_lit 31) :: (nat_lit 32) :: (nat_lit 35) :: (nat_lit 37) :: (nat_lit 38) :: (nat_lit 40) :: (nat_lit 41) :: (nat_lit 42) :: (nat_lit 44) :: (nat_lit 45) :: (nat_lit 47) :: (nat_lit 48) :: (nat_lit 49) :: (nat_lit 51) :: (nat_lit 52) :: (nat_lit 54) :: (nat_lit 55) :: (nat_lit 56) :: (nat_lit 57) :: (nat_lit 58) :: (nat_lit 60) :: (nat_lit 61) :: (nat_lit 63) :: (nat_lit 64) :: (nat_lit 65) :: (nat_lit 66) :: (nat_lit 68) :: (nat_lit 69) :: (nat_lit 71) :: (nat_lit 72) :: (nat_lit 73) :: (nat_lit 74) :: (nat_lit 76) :: (nat_lit 77) :: (nat_lit 79) :: (nat_lit 80) :: (nat_lit 81) :: (nat_lit 83) :: (nat_lit 84) :: (nat_lit 86) :: (nat_lit 87) :: (nat_lit 88) :: (nat_lit 90) :: (nat_lit 91) :: (nat_lit 93) :: (nat_lit 94) :: (nat_lit 95) :: (nat_lit 97) :: (nat_lit 98) :: (nat_lit 100) :: (nat_lit 101) :: (nat_lit 102) :: (nat_lit 104) :: (nat_lit 105) :: (nat_lit 107) :: (nat_lit 108) :: (nat_lit 109) :: (nat_lit 111) :: (nat_lit 112) :: (nat_lit 114) :: (nat_lit 115) :: (nat_lit 116) :: (nat_lit 118) :: (nat_lit 119) :: (nat_lit 121) :: (nat_lit 122) :: (nat_lit 123) :: (nat_lit 125) :: (nat_lit 126) :: (nat_lit 128) :: (nat_lit 129) :: (nat_lit 130) :: (nat_lit 132) :: (nat_lit 133) :: (nat_lit 135) :: (nat_lit 136) :: (nat_lit 144) :: (nat_lit 146) :: (nat_lit 147) :: (nat_lit 149) :: (nat_lit 150) :: (nat_lit 151) :: (nat_lit 152) :: (nat_lit 153) :: (nat_lit 154) :: (nat_lit 155) :: (nat_lit 165) :: (nat_lit 167) :: (nat_lit 168) :: (nat_lit 170) :: (nat_lit 171) :: (nat_lit 172) :: (nat_lit 174) :: (nat_lit 175) :: (nat_lit 177) :: (nat_lit 178) :: (nat_lit 179) :: (nat_lit 180) :: (nat_lit 181) :: (nat_lit 182) :: (nat_lit 183) :: (nat_lit 199) :: (nat_lit 200) :: (nat_lit 201) :: (nat_lit 203) :: (nat_lit 204) :: (nat_lit 206) :: (nat_lit 207) :: (nat_lit 208) :: (nat_lit 210) :: (nat_lit 211) :: (nat_lit 213) :: (nat_lit 214) :: (nat_lit 215) :: (nat_lit 217) :: (nat_lit 218) :: (nat_lit 220) :: (nat_lit 221) :: (nat_lit 222) :: (nat_lit 224) :: (nat_lit 225) :: (nat_lit 227) :: (nat_lit 228) :: (nat_lit 229) :: (nat_lit 231) :: (nat_lit 232) :: (nat_lit 234) :: (nat_lit 235) :: (nat_lit 236) :: (nat_lit 237) :: (nat_lit 239) :: (nat_lit 240) :: (nat_lit 242) :: (nat_lit 243) :: (nat_lit 244) :: (nat_lit 246) :: (nat_lit 247) :: (nat_lit 249) :: (nat_lit 250) :: (nat_lit 251) :: (nat_lit 253) :: (nat_lit 254) :: (nat_lit 256) :: (nat_lit 257) :: (nat_lit 258) :: (nat_lit 260) :: (nat_lit 261) :: (nat_lit 263) :: (nat_lit 264) :: (nat_lit 265) :: (nat_lit 268) :: (nat_lit 269) :: (nat_lit 270) :: (nat_lit 273) :: (nat_lit 274) :: (nat_lit 275) :: (nat_lit 277) :: (nat_lit 278) :: (nat_lit 280) :: (nat_lit 281) :: (nat_lit 282) :: (nat_lit 284) :: (nat_lit 285) :: (nat_lit 287) :: (nat_lit 288) :: (nat_lit 289) :: (nat_lit 291) :: (nat_lit 292) :: (nat_lit 294) :: (nat_lit 295) :: (nat_lit 296) :: (nat_lit 298) :: (nat_lit 299) :: (nat_lit 301) :: (nat_lit 302) :: (nat_lit 303) :: (nat_lit 305) :: (nat_lit 306) :: (nat_lit 308) :: (nat_lit 309) :: (nat_lit 310) :: (nat_lit 311) :: (nat_lit 312) :: (nat_lit 313) :: (nat_lit 314) :: (nat_lit 317) :: (nat_lit 319) :: (nat_lit 320) :: (nat_lit 322) :: (nat_lit 323) :: (nat_lit 324) :: (nat_lit 327) :: (nat_lit 328) :: (nat_lit 329) :: (nat_lit 331) :: (nat_lit 332) :: (nat_lit 334) :: (nat_lit 335) :: (nat_lit 336) :: (nat_lit 339) :: (nat_lit 340) :: (nat_lit 348) :: (nat_lit 349) :: (nat_lit 351) :: (nat_lit 352) :: (nat_lit 354) :: (nat_lit 355) :: (nat_lit 356) :: (nat_lit 358) :: (nat_lit 359) :: (nat_lit 361) :: (nat_lit 362) :: (nat_lit 363) :: (nat_lit 365) :: (nat_lit 366) :: (nat_lit 368) :: (nat_lit 369) :: (nat_lit 370) :: (nat_lit 372) :: (nat_lit 373) :: (nat_lit 375) :: (nat_lit 376) :: (nat_lit 377) :: (nat_lit 379) :: (nat_lit 380) :: (nat_lit 382) :: (nat_lit 383) :: (nat_lit 384) :: (nat_lit 386) :: (nat_lit 387) :: (nat_lit 389) :: (nat_lit 390) :: (nat_lit 391) :: (nat_lit 392) :: (nat_lit 393) :: (nat_lit 394) :: (nat_lit 395) :: (nat_lit 398) :: (nat_lit 400) :: (nat_lit 401) :: (nat_lit 403) :: (nat_lit 404) :: (nat_lit 405) :: (nat_lit 407) :: (nat_lit 408) :: (nat_lit 410) :: (nat_lit 411) :: (nat_lit 412) :: (nat_lit 414) :: (nat_lit 415) :: (nat_lit 417) :: (nat_lit 418) :: (nat_lit 419) :: (nat_lit 421) :: (nat_lit 422) :: (nat_lit 424) :: (nat_lit 425) :: (nat_lit 426) :: (nat_lit 429) :: (nat_lit 430) :: (nat_lit 431) :: (nat_lit 434) :: (nat_lit 435) :: []) : List Addr) = (K P).map (·.1) := fun _ => by kernel_rfl!
@[reducible] noncomputable def dH : DefRec := ⟨Str.ofString "law", fa45.1, fb45.1, fs45.1, (.mk 305 0 330 61)⟩
theorem openH : ∀ w : World, (fencedOpening treeTable pw w 6166).map (fun s => (s.heap, s.gens, s.drawn, s.toks)) = some (boot_heap w.params, Array.mk [], boot_drawn, boot_toks) :=
  boot_open (by kernel_rfl!) (by decide) (fun s => by kernel_rfl!)
theorem sizeH : ∀ w : World, ((boot_heap w.params).isNs mainGlobals && (Array.mk [] : Array GenState).size == 0, (boot_heap w.params).objs.size, (boot_heap w.params).nsMap mainGlobals "__annotations__") = (true, 11, annH) := fun w => by kernel_rfl!
theorem looksH (w : World) : (fun os => ((staticsOk (importedModules pw.main.body) (boot_heap w.params) (tFS w.params os).abs.heap && namesBound pw (tFS w.params os).abs.heap && gensDone (tFS w.params os).abs && laidKept (boot_heap w.params) (tFS w.params os).abs.heap),
    openSeen vq [Str.ofString "MOST", Str.ofString "frac", Str.ofString "need", Str.ofString "Net", Str.ofString "Meter"] (importedModules pw.main.body) (fun s => xlAt vq ([(Str.ofString "MOST", (.int 100000000000000000000000000000000000000000000000000000000000000000000000000000000000000000000000000000000000000000000000000000000000000000000000000000000000000000000000000000000000000000000000000000000000000000000000000000000000000000000000000000000000000000000000000000000000000000000000000000000000000000000000000000000000000000000000000000000000000000000000000000000000000000000000000000000000000000000000000000000000000000000000000000000000000000000000000000000000000000000000000000000000000000000000000000000000000000000000000000000000000000000000000000000000000000000000000000000000000000000000000000000000000000000000000000000000000000000000000000000000000000000000000000000000000000000000000000000000000000000000000000000000000000000000000000000000000000000000000000000000000000000000000000000000000000000000000000000000000000000000000000000000000000000000000000000000000000000000000000000000000000000000000000000000000000000000000000000000000000000000000000000000000000000000000000000000000000000000000000000000000000000000000000000000000000000000000000000000000000000000000000000000000000000000000000000000000000000000000000000000000000000000000000000000000000000000000000000000000000000000000000000000000000000000000000000000000000000000000000000000000000000000000000000000000000000000000000000000000000000000000000000000000000000000000000000000000000000000000000000000000000000000000000000000000000000000000000000000000000000000000000000000000000000000000000000000000000000000000000000000000000000000000000000000000000000000000000000000000000000000000000000000000000000000000000000000000000000000000000000000000000000000000000000000000000000000000000000000000000000000000000000000000000000000000000000000000000000000000000000000000000000000000000000000000000000000000000000000000000000000000000000000000000000000000000000000000000000000000000000000000000000000000000000000000000000000000000000000000000000000000000000000000000000000000000000000000000000000000000000000000000000000000000000))] : List (Str × WData)) s && recOk (RowW.records (OpenRow.toRowW (OpenLaw.row PySem.Challenge.rw_ui0509_16))) s) true (tFS w.params os).abs, Hook.obs (kHook K ((nat_lit 2) :: (nat_lit 3) :: (nat_lit 15) :: (nat_lit 17) :: (nat_lit 18) :: (nat_lit 20) :: (nat_lit 21) :: (nat_lit 22) :: (nat_lit 29) :: (nat_lit 30) :: (nat_lit 31) :: (nat_lit 32) :: (nat_lit 35) :: (nat_lit 37) :: (nat_lit 38) :: (nat_lit 40) :: (nat_lit 41) :: (nat_lit 42) :: (nat_lit 44) :: (nat_lit 45) :: (nat_lit 47) :: (nat_lit 48) :: (nat_lit 49) :: (nat_lit 51) :: (nat_lit 52) :: (nat_lit 54) :: (nat_lit 55) :: (nat_lit 56) :: (nat_lit 57) :: (nat_lit 58) :: (nat_lit 60) :: (nat_lit 61) :: (nat_lit 63) :: (nat_lit 64) :: (nat_lit 65) :: (nat_lit 66) :: (nat_lit 68) :: (nat_lit 69) :: (nat_lit 71) :: (nat_lit 72) :: (nat_lit 73) :: (nat_lit 74) :: (nat_lit 76) :: (nat_lit 77) :: (nat_lit 79) :: (nat_lit 80) :: (nat_lit 81) :: (nat_lit 83) :: (nat_lit 84) :: (nat_lit 86) :: (nat_lit 87) :: (nat_lit 88) :: (nat_lit 90) :: (nat_lit 91) :: (nat_lit 93) :: (nat_lit 94) :: (nat_lit 95) :: (nat_lit 97) :: (nat_lit 98) :: (nat_lit 100) :: (nat_lit 101) :: (nat_lit 102) :: (nat_lit 104) :: (nat_lit 105) :: (nat_lit 107) :: (nat_lit 108) :: (nat_lit 109) :: (nat_lit 111) :: (nat_lit 112) :: (nat_lit 114) :: (nat_lit 115) :: (nat_lit 116) :: (nat_lit 118) :: (nat_lit 119) :: (nat_lit 121) :: (nat_lit 122) :: (nat_lit 123) :: (nat_lit 125) :: (nat_lit 126) :: (nat_lit 128) :: (nat_lit 129) :: (nat_lit 130) :: (nat_lit 132) :: (nat_lit 133) :: (nat_lit 135) :: (nat_lit 136) :: (nat_lit 144) :: (nat_lit 146) :: (nat_lit 147) :: (nat_lit 149) :: (nat_lit 150) :: (nat_lit 151) :: (nat_lit 152) :: (nat_lit 153) :: (nat_lit 154) :: (nat_lit 155) :: (nat_lit 165) :: (nat_lit 167) :: (nat_lit 168) :: (nat_lit 170) :: (nat_lit 171) :: (nat_lit 172) :: (nat_lit 174) :: (nat_lit 175) :: (nat_lit 177) :: (nat_lit 178) :: (nat_lit 179) :: (nat_lit 180) :: (nat_lit 181) :: (nat_lit 182) :: (nat_lit 183) :: (nat_lit 199) :: (nat_lit 200) :: (nat_lit 201) :: (nat_lit 203) :: (nat_lit 204) :: (nat_lit 206) :: (nat_lit 207) :: (nat_lit 208) :: (nat_lit 210) :: (nat_lit 211) :: (nat_lit 213) :: (nat_lit 214) :: (nat_lit 215) :: (nat_lit 217) :: (nat_lit 218) :: (nat_lit 220) :: (nat_lit 221) :: (nat_lit 222) :: (nat_lit 224) :: (nat_lit 225) :: (nat_lit 227) :: (nat_lit 228) :: (nat_lit 229) :: (nat_lit 231) :: (nat_lit 232) :: (nat_lit 234) :: (nat_lit 235) :: (nat_lit 236) :: (nat_lit 237) :: (nat_lit 239) :: (nat_lit 240) :: (nat_lit 242) :: (nat_lit 243) :: (nat_lit 244) :: (nat_lit 246) :: (nat_lit 247) :: (nat_lit 249) :: (nat_lit 250) :: (nat_lit 251) :: (nat_lit 253) :: (nat_lit 254) :: (nat_lit 256) :: (nat_lit 257) :: (nat_lit 258) :: (nat_lit 260) :: (nat_lit 261) :: (nat_lit 263) :: (nat_lit 264) :: (nat_lit 265) :: (nat_lit 268) :: (nat_lit 269) :: (nat_lit 270) :: (nat_lit 273) :: (nat_lit 274) :: (nat_lit 275) :: (nat_lit 277) :: (nat_lit 278) :: (nat_lit 280) :: (nat_lit 281) :: (nat_lit 282) :: (nat_lit 284) :: (nat_lit 285) :: (nat_lit 287) :: (nat_lit 288) :: (nat_lit 289) :: (nat_lit 291) :: (nat_lit 292) :: (nat_lit 294) :: (nat_lit 295) :: (nat_lit 296) :: (nat_lit 298) :: (nat_lit 299) :: (nat_lit 301) :: (nat_lit 302) :: (nat_lit 303) :: (nat_lit 305) :: (nat_lit 306) :: (nat_lit 308) :: (nat_lit 309) :: (nat_lit 310) :: (nat_lit 311) :: (nat_lit 312) :: (nat_lit 313) :: (nat_lit 314) :: (nat_lit 317) :: (nat_lit 319) :: (nat_lit 320) :: (nat_lit 322) :: (nat_lit 323) :: (nat_lit 324) :: (nat_lit 327) :: (nat_lit 328) :: (nat_lit 329) :: (nat_lit 331) :: (nat_lit 332) :: (nat_lit 334) :: (nat_lit 335) :: (nat_lit 336) :: (nat_lit 339) :: (nat_lit 340) :: (nat_lit 348) :: (nat_lit 349) :: (nat_lit 351) :: (nat_lit 352) :: (nat_lit 354) :: (nat_lit 355) :: (nat_lit 356) :: (nat_lit 358) :: (nat_lit 359) :: (nat_lit 361) :: (nat_lit 362) :: (nat_lit 363) :: (nat_lit 365) :: (nat_lit 366) :: (nat_lit 368) :: (nat_lit 369) :: (nat_lit 370) :: (nat_lit 372) :: (nat_lit 373) :: (nat_lit 375) :: (nat_lit 376) :: (nat_lit 377) :: (nat_lit 379) :: (nat_lit 380) :: (nat_lit 382) :: (nat_lit 383) :: (nat_lit 384) :: (nat_lit 386) :: (nat_lit 387) :: (nat_lit 389) :: (nat_lit 390) :: (nat_lit 391) :: (nat_lit 392) :: (nat_lit 393) :: (nat_lit 394) :: (nat_lit 395) :: (nat_lit 398) :: (nat_lit 400) :: (nat_lit 401) :: (nat_lit 403) :: (nat_lit 404) :: (nat_lit 405) :: (nat_lit 407) :: (nat_lit 408) :: (nat_lit 410) :: (nat_lit 411) :: (nat_lit 412) :: (nat_lit 414) :: (nat_lit 415) :: (nat_lit 417) :: (nat_lit 418) :: (nat_lit 419) :: (nat_lit 421) :: (nat_lit 422) :: (nat_lit 424) :: (nat_lit 425) :: (nat_lit 426) :: (nat_lit 429) :: (nat_lit 430) :: (nat_lit 431) :: (nat_lit 434) :: (nat_lit 435) :: []) hkH) (tFS w.params os).abs)) = fun _ => (true, openGood vq [Str.ofString "MOST", Str.ofString "frac", Str.ofString "need", Str.ofString "Net", Str.ofString "Meter"], Hook.val (kHook K ((nat_lit 2) :: (nat_lit 3) :: (nat_lit 15) :: (nat_lit 17) :: (nat_lit 18) :: (nat_lit 20) :: (nat_lit 21) :: (nat_lit 22) :: (nat_lit 29) :: (nat_lit 30) :: (nat_lit 31) :: (nat_lit 32) :: (nat_lit 35) :: (nat_lit 37) :: (nat_lit 38) :: (nat_lit 40) :: (nat_lit 41) :: (nat_lit 42) :: (nat_lit 44) :: (nat_lit 45) :: (nat_lit 47) :: (nat_lit 48) :: (nat_lit 49) :: (nat_lit 51) :: (nat_lit 52) :: (nat_lit 54) :: (nat_lit 55) :: (nat_lit 56) :: (nat_lit 57) :: (nat_lit 58) :: (nat_lit 60) :: (nat_lit 61) :: (nat_lit 63) :: (nat_lit 64) :: (nat_lit 65) :: (nat_lit 66) :: (nat_lit 68) :: (nat_lit 69) :: (nat_lit 71) :: (nat_lit 72) :: (nat_lit 73) :: (nat_lit 74) :: (nat_lit 76) :: (nat_lit 77) :: (nat_lit 79) :: (nat_lit 80) :: (nat_lit 81) :: (nat_lit 83) :: (nat_lit 84) :: (nat_lit 86) :: (nat_lit 87) :: (nat_lit 88) :: (nat_lit 90) :: (nat_lit 91) :: (nat_lit 93) :: (nat_lit 94) :: (nat_lit 95) :: (nat_lit 97) :: (nat_lit 98) :: (nat_lit 100) :: (nat_lit 101) :: (nat_lit 102) :: (nat_lit 104) :: (nat_lit 105) :: (nat_lit 107) :: (nat_lit 108) :: (nat_lit 109) :: (nat_lit 111) :: (nat_lit 112) :: (nat_lit 114) :: (nat_lit 115) :: (nat_lit 116) :: (nat_lit 118) :: (nat_lit 119) :: (nat_lit 121) :: (nat_lit 122) :: (nat_lit 123) :: (nat_lit 125) :: (nat_lit 126) :: (nat_lit 128) :: (nat_lit 129) :: (nat_lit 130) :: (nat_lit 132) :: (nat_lit 133) :: (nat_lit 135) :: (nat_lit 136) :: (nat_lit 144) :: (nat_lit 146) :: (nat_lit 147) :: (nat_lit 149) :: (nat_lit 150) :: (nat_lit 151) :: (nat_lit 152) :: (nat_lit 153) :: (nat_lit 154) :: (nat_lit 155) :: (nat_lit 165) :: (nat_lit 167) :: (nat_lit 168) :: (nat_lit 170) :: (nat_lit 171) :: (nat_lit 172) :: (nat_lit 174) :: (nat_lit 175) :: (nat_lit 177) :: (nat_lit 178) :: (nat_lit 179) :: (nat_lit 180) :: (nat_lit 181) :: (nat_lit 182) :: (nat_lit 183) :: (nat_lit 199) :: (nat_lit 200) :: (nat_lit 201) :: (nat_lit 203) :: (nat_lit 204) :: (nat_lit 206) :: (nat_lit 207) :: (nat_lit 208) :: (nat_lit 210) :: (nat_lit 211) :: (nat_lit 213) :: (nat_lit 214) :: (nat_lit 215) :: (nat_lit 217) :: (nat_lit 218) :: (nat_lit 220) :: (nat_lit 221) :: (nat_lit 222) :: (nat_lit 224) :: (nat_lit 225) :: (nat_lit 227) :: (nat_lit 228) :: (nat_lit 229) :: (nat_lit 231) :: (nat_lit 232) :: (nat_lit 234) :: (nat_lit 235) :: (nat_lit 236) :: (nat_lit 237) :: (nat_lit 239) :: (nat_lit 240) :: (nat_lit 242) :: (nat_lit 243) :: (nat_lit 244) :: (nat_lit 246) :: (nat_lit 247) :: (nat_lit 249) :: (nat_lit 250) :: (nat_lit 251) :: (nat_lit 253) :: (nat_lit 254) :: (nat_lit 256) :: (nat_lit 257) :: (nat_lit 258) :: (nat_lit 260) :: (nat_lit 261) :: (nat_lit 263) :: (nat_lit 264) :: (nat_lit 265) :: (nat_lit 268) :: (nat_lit 269) :: (nat_lit 270) :: (nat_lit 273) :: (nat_lit 274) :: (nat_lit 275) :: (nat_lit 277) :: (nat_lit 278) :: (nat_lit 280) :: (nat_lit 281) :: (nat_lit 282) :: (nat_lit 284) :: (nat_lit 285) :: (nat_lit 287) :: (nat_lit 288) :: (nat_lit 289) :: (nat_lit 291) :: (nat_lit 292) :: (nat_lit 294) :: (nat_lit 295) :: (nat_lit 296) :: (nat_lit 298) :: (nat_lit 299) :: (nat_lit 301) :: (nat_lit 302) :: (nat_lit 303) :: (nat_lit 305) :: (nat_lit 306) :: (nat_lit 308) :: (nat_lit 309) :: (nat_lit 310) :: (nat_lit 311) :: (nat_lit 312) :: (nat_lit 313) :: (nat_lit 314) :: (nat_lit 317) :: (nat_lit 319) :: (nat_lit 320) :: (nat_lit 322) :: (nat_lit 323) :: (nat_lit 324) :: (nat_lit 327) :: (nat_lit 328) :: (nat_lit 329) :: (nat_lit 331) :: (nat_lit 332) :: (nat_lit 334) :: (nat_lit 335) :: (nat_lit 336) :: (nat_lit 339) :: (nat_lit 340) :: (nat_lit 348) :: (nat_lit 349) :: (nat_lit 351) :: (nat_lit 352) :: (nat_lit 354) :: (nat_lit 355) :: (nat_lit 356) :: (nat_lit 358) :: (nat_lit 359) :: (nat_lit 361) :: (nat_lit 362) :: (nat_lit 363) :: (nat_lit 365) :: (nat_lit 366) :: (nat_lit 368) :: (nat_lit 369) :: (nat_lit 370) :: (nat_lit 372) :: (nat_lit 373) :: (nat_lit 375) :: (nat_lit 376) :: (nat_lit 377) :: (nat_lit 379) :: (nat_lit 380) :: (nat_lit 382) :: (nat_lit 383) :: (nat_lit 384) :: (nat_lit 386) :: (nat_lit 387) :: (nat_lit 389) :: (nat_lit 390) :: (nat_lit 391) :: (nat_lit 392) :: (nat_lit 393) :: (nat_lit 394) :: (nat_lit 395) :: (nat_lit 398) :: (nat_lit 400) :: (nat_lit 401) :: (nat_lit 403) :: (nat_lit 404) :: (nat_lit 405) :: (nat_lit 407) :: (nat_lit 408) :: (nat_lit 410) :: (nat_lit 411) :: (nat_lit 412) :: (nat_lit 414) :: (nat_lit 415) :: (nat_lit 417) :: (nat_lit 418) :: (nat_lit 419) :: (nat_lit 421) :: (nat_lit 422) :: (nat_lit 424) :: (nat_lit 425) :: (nat_lit 426) :: (nat_lit 429) :: (nat_lit 430) :: (nat_lit 431) :: (nat_lit 434) :: (nat_lit 435) :: []) hkH) w) := by
  rw [PySem.W.Fast.te4187177175401517315, PySem.W.Fast.te5923862056798008813]; kernel_rfl!
theorem leftH : LeftO pw vq [Str.ofString "MOST", Str.ofString "frac", Str.ofString "need", Str.ofString "Net", Str.ofString "Meter"] (fun s => xlAt vq ([(Str.ofString "MOST", (.int 100000000000000000000000000000000000000000000000000000000000000000000000000000000000000000000000000000000000000000000000000000000000000000000000000000000000000000000000000000000000000000000000000000000000000000000000000000000000000000000000000000000000000000000000000000000000000000000000000000000000000000000000000000000000000000000000000000000000000000000000000000000000000000000000000000000000000000000000000000000000000000000000000000000000000000000000000000000000000000000000000000000000000000000000000000000000000000000000000000000000000000000000000000000000000000000000000000000000000000000000000000000000000000000000000000000000000000000000000000000000000000000000000000000000000000000000000000000000000000000000000000000000000000000000000000000000000000000000000000000000000000000000000000000000000000000000000000000000000000000000000000000000000000000000000000000000000000000000000000000000000000000000000000000000000000000000000000000000000000000000000000000000000000000000000000000000000000000000000000000000000000000000000000000000000000000000000000000000000000000000000000000000000000000000000000000000000000000000000000000000000000000000000000000000000000000000000000000000000000000000000000000000000000000000000000000000000000000000000000000000000000000000000000000000000000000000000000000000000000000000000000000000000000000000000000000000000000000000000000000000000000000000000000000000000000000000000000000000000000000000000000000000000000000000000000000000000000000000000000000000000000000000000000000000000000000000000000000000000000000000000000000000000000000000000000000000000000000000000000000000000000000000000000000000000000000000000000000000000000000000000000000000000000000000000000000000000000000000000000000000000000000000000000000000000000000000000000000000000000000000000000000000000000000000000000000000000000000000000000000000000000000000000000000000000000000000000000000000000000000000000000000000000000000000000000000000000000000000000000000000000000000000000000000))] : List (Str × WData)) s && recOk (RowW.records (OpenRow.toRowW (OpenLaw.row PySem.Challenge.rw_ui0509_16))) s) (Hook.obs (kHook K ((nat_lit 2) :: (nat_lit 3) :: (nat_lit 15) :: (nat_lit 17) :: (nat_lit 18) :: (nat_lit 20) :: (nat_lit 21) :: (nat_lit 22) :: (nat_lit 29) :: (nat_lit 30) :: (nat_lit 31) :: (nat_lit 32) :: (nat_lit 35) :: (nat_lit 37) :: (nat_lit 38) :: (nat_lit 40) :: (nat_lit 41) :: (nat_lit 42) :: (nat_lit 44) :: (nat_lit 45) :: (nat_lit 47) :: (nat_lit 48) :: (nat_lit 49) :: (nat_lit 51) :: (nat_lit 52) :: (nat_lit 54) :: (nat_lit 55) :: (nat_lit 56) :: (nat_lit 57) :: (nat_lit 58) :: (nat_lit 60) :: (nat_lit 61) :: (nat_lit 63) :: (nat_lit 64) :: (nat_lit 65) :: (nat_lit 66) :: (nat_lit 68) :: (nat_lit 69) :: (nat_lit 71) :: (nat_lit 72) :: (nat_lit 73) :: (nat_lit 74) :: (nat_lit 76) :: (nat_lit 77) :: (nat_lit 79) :: (nat_lit 80) :: (nat_lit 81) :: (nat_lit 83) :: (nat_lit 84) :: (nat_lit 86) :: (nat_lit 87) :: (nat_lit 88) :: (nat_lit 90) :: (nat_lit 91) :: (nat_lit 93) :: (nat_lit 94) :: (nat_lit 95) :: (nat_lit 97) :: (nat_lit 98) :: (nat_lit 100) :: (nat_lit 101) :: (nat_lit 102) :: (nat_lit 104) :: (nat_lit 105) :: (nat_lit 107) :: (nat_lit 108) :: (nat_lit 109) :: (nat_lit 111) :: (nat_lit 112) :: (nat_lit 114) :: (nat_lit 115) :: (nat_lit 116) :: (nat_lit 118) :: (nat_lit 119) :: (nat_lit 121) :: (nat_lit 122) :: (nat_lit 123) :: (nat_lit 125) :: (nat_lit 126) :: (nat_lit 128) :: (nat_lit 129) :: (nat_lit 130) :: (nat_lit 132) :: (nat_lit 133) :: (nat_lit 135) :: (nat_lit 136) :: (nat_lit 144) :: (nat_lit 146) :: (nat_lit 147) :: (nat_lit 149) :: (nat_lit 150) :: (nat_lit 151) :: (nat_lit 152) :: (nat_lit 153) :: (nat_lit 154) :: (nat_lit 155) :: (nat_lit 165) :: (nat_lit 167) :: (nat_lit 168) :: (nat_lit 170) :: (nat_lit 171) :: (nat_lit 172) :: (nat_lit 174) :: (nat_lit 175) :: (nat_lit 177) :: (nat_lit 178) :: (nat_lit 179) :: (nat_lit 180) :: (nat_lit 181) :: (nat_lit 182) :: (nat_lit 183) :: (nat_lit 199) :: (nat_lit 200) :: (nat_lit 201) :: (nat_lit 203) :: (nat_lit 204) :: (nat_lit 206) :: (nat_lit 207) :: (nat_lit 208) :: (nat_lit 210) :: (nat_lit 211) :: (nat_lit 213) :: (nat_lit 214) :: (nat_lit 215) :: (nat_lit 217) :: (nat_lit 218) :: (nat_lit 220) :: (nat_lit 221) :: (nat_lit 222) :: (nat_lit 224) :: (nat_lit 225) :: (nat_lit 227) :: (nat_lit 228) :: (nat_lit 229) :: (nat_lit 231) :: (nat_lit 232) :: (nat_lit 234) :: (nat_lit 235) :: (nat_lit 236) :: (nat_lit 237) :: (nat_lit 239) :: (nat_lit 240) :: (nat_lit 242) :: (nat_lit 243) :: (nat_lit 244) :: (nat_lit 246) :: (nat_lit 247) :: (nat_lit 249) :: (nat_lit 250) :: (nat_lit 251) :: (nat_lit 253) :: (nat_lit 254) :: (nat_lit 256) :: (nat_lit 257) :: (nat_lit 258) :: (nat_lit 260) :: (nat_lit 261) :: (nat_lit 263) :: (nat_lit 264) :: (nat_lit 265) :: (nat_lit 268) :: (nat_lit 269) :: (nat_lit 270) :: (nat_lit 273) :: (nat_lit 274) :: (nat_lit 275) :: (nat_lit 277) :: (nat_lit 278) :: (nat_lit 280) :: (nat_lit 281) :: (nat_lit 282) :: (nat_lit 284) :: (nat_lit 285) :: (nat_lit 287) :: (nat_lit 288) :: (nat_lit 289) :: (nat_lit 291) :: (nat_lit 292) :: (nat_lit 294) :: (nat_lit 295) :: (nat_lit 296) :: (nat_lit 298) :: (nat_lit 299) :: (nat_lit 301) :: (nat_lit 302) :: (nat_lit 303) :: (nat_lit 305) :: (nat_lit 306) :: (nat_lit 308) :: (nat_lit 309) :: (nat_lit 310) :: (nat_lit 311) :: (nat_lit 312) :: (nat_lit 313) :: (nat_lit 314) :: (nat_lit 317) :: (nat_lit 319) :: (nat_lit 320) :: (nat_lit 322) :: (nat_lit 323) :: (nat_lit 324) :: (nat_lit 327) :: (nat_lit 328) :: (nat_lit 329) :: (nat_lit 331) :: (nat_lit 332) :: (nat_lit 334) :: (nat_lit 335) :: (nat_lit 336) :: (nat_lit 339) :: (nat_lit 340) :: (nat_lit 348) :: (nat_lit 349) :: (nat_lit 351) :: (nat_lit 352) :: (nat_lit 354) :: (nat_lit 355) :: (nat_lit 356) :: (nat_lit 358) :: (nat_lit 359) :: (nat_lit 361) :: (nat_lit 362) :: (nat_lit 363) :: (nat_lit 365) :: (nat_lit 366) :: (nat_lit 368) :: (nat_lit 369) :: (nat_lit 370) :: (nat_lit 372) :: (nat_lit 373) :: (nat_lit 375) :: (nat_lit 376) :: (nat_lit 377) :: (nat_lit 379) :: (nat_lit 380) :: (nat_lit 382) :: (nat_lit 383) :: (nat_lit 384) :: (nat_lit 386) :: (nat_lit 387) :: (nat_lit 389) :: (nat_lit 390) :: (nat_lit 391) :: (nat_lit 392) :: (nat_lit 393) :: (nat_lit 394) :: (nat_lit 395) :: (nat_lit 398) :: (nat_lit 400) :: (nat_lit 401) :: (nat_lit 403) :: (nat_lit 404) :: (nat_lit 405) :: (nat_lit 407) :: (nat_lit 408) :: (nat_lit 410) :: (nat_lit 411) :: (nat_lit 412) :: (nat_lit 414) :: (nat_lit 415) :: (nat_lit 417) :: (nat_lit 418) :: (nat_lit 419) :: (nat_lit 421) :: (nat_lit 422) :: (nat_lit 424) :: (nat_lit 425) :: (nat_lit 426) :: (nat_lit 429) :: (nat_lit 430) :: (nat_lit 431) :: (nat_lit 434) :: (nat_lit 435) :: []) hkH)) (Hook.val (kHook K ((nat_lit 2) :: (nat_lit 3) :: (nat_lit 15) :: (nat_lit 17) :: (nat_lit 18) :: (nat_lit 20) :: (nat_lit 21) :: (nat_lit 22) :: (nat_lit 29) :: (nat_lit 30) :: (nat_lit 31) :: (nat_lit 32) :: (nat_lit 35) :: (nat_lit 37) :: (nat_lit 38) :: (nat_lit 40) :: (nat_lit 41) :: (nat_lit 42) :: (nat_lit 44) :: (nat_lit 45) :: (nat_lit 47) :: (nat_lit 48) :: (nat_lit 49) :: (nat_lit 51) :: (nat_lit 52) :: (nat_lit 54) :: (nat_lit 55) :: (nat_lit 56) :: (nat_lit 57) :: (nat_lit 58) :: (nat_lit 60) :: (nat_lit 61) :: (nat_lit 63) :: (nat_lit 64) :: (nat_lit 65) :: (nat_lit 66) :: (nat_lit 68) :: (nat_lit 69) :: (nat_lit 71) :: (nat_lit 72) :: (nat_lit 73) :: (nat_lit 74) :: (nat_lit 76) :: (nat_lit 77) :: (nat_lit 79) :: (nat_lit 80) :: (nat_lit 81) :: (nat_lit 83) :: (nat_lit 84) :: (nat_lit 86) :: (nat_lit 87) :: (nat_lit 88) :: (nat_lit 90) :: (nat_lit 91) :: (nat_lit 93) :: (nat_lit 94) :: (nat_lit 95) :: (nat_lit 97) :: (nat_lit 98) :: (nat_lit 100) :: (nat_lit 101) :: (nat_lit 102) :: (nat_lit 104) :: (nat_lit 105) :: (nat_lit 107) :: (nat_lit 108) :: (nat_lit 109) :: (nat_lit 111) :: (nat_lit 112) :: (nat_lit 114) :: (nat_lit 115) :: (nat_lit 116) :: (nat_lit 118) :: (nat_lit 119) :: (nat_lit 121) :: (nat_lit 122) :: (nat_lit 123) :: (nat_lit 125) :: (nat_lit 126) :: (nat_lit 128) :: (nat_lit 129) :: (nat_lit 130) :: (nat_lit 132) :: (nat_lit 133) :: (nat_lit 135) :: (nat_lit 136) :: (nat_lit 144) :: (nat_lit 146) :: (nat_lit 147) :: (nat_lit 149) :: (nat_lit 150) :: (nat_lit 151) :: (nat_lit 152) :: (nat_lit 153) :: (nat_lit 154) :: (nat_lit 155) :: (nat_lit 165) :: (nat_lit 167) :: (nat_lit 168) :: (nat_lit 170) :: (nat_lit 171) :: (nat_lit 172) :: (nat_lit 174) :: (nat_lit 175) :: (nat_lit 177) :: (nat_lit 178) :: (nat_lit 179) :: (nat_lit 180) :: (nat_lit 181) :: (nat_lit 182) :: (nat_lit 183) :: (nat_lit 199) :: (nat_lit 200) :: (nat_lit 201) :: (nat_lit 203) :: (nat_lit 204) :: (nat_lit 206) :: (nat_lit 207) :: (nat_lit 208) :: (nat_lit 210) :: (nat_lit 211) :: (nat_lit 213) :: (nat_lit 214) :: (nat_lit 215) :: (nat_lit 217) :: (nat_lit 218) :: (nat_lit 220) :: (nat_lit 221) :: (nat_lit 222) :: (nat_lit 224) :: (nat_lit 225) :: (nat_lit 227) :: (nat_lit 228) :: (nat_lit 229) :: (nat_lit 231) :: (nat_lit 232) :: (nat_lit 234) :: (nat_lit 235) :: (nat_lit 236) :: (nat_lit 237) :: (nat_lit 239) :: (nat_lit 240) :: (nat_lit 242) :: (nat_lit 243) :: (nat_lit 244) :: (nat_lit 246) :: (nat_lit 247) :: (nat_lit 249) :: (nat_lit 250) :: (nat_lit 251) :: (nat_lit 253) :: (nat_lit 254) :: (nat_lit 256) :: (nat_lit 257) :: (nat_lit 258) :: (nat_lit 260) :: (nat_lit 261) :: (nat_lit 263) :: (nat_lit 264) :: (nat_lit 265) :: (nat_lit 268) :: (nat_lit 269) :: (nat_lit 270) :: (nat_lit 273) :: (nat_lit 274) :: (nat_lit 275) :: (nat_lit 277) :: (nat_lit 278) :: (nat_lit 280) :: (nat_lit 281) :: (nat_lit 282) :: (nat_lit 284) :: (nat_lit 285) :: (nat_lit 287) :: (nat_lit 288) :: (nat_lit 289) :: (nat_lit 291) :: (nat_lit 292) :: (nat_lit 294) :: (nat_lit 295) :: (nat_lit 296) :: (nat_lit 298) :: (nat_lit 299) :: (nat_lit 301) :: (nat_lit 302) :: (nat_lit 303) :: (nat_lit 305) :: (nat_lit 306) :: (nat_lit 308) :: (nat_lit 309) :: (nat_lit 310) :: (nat_lit 311) :: (nat_lit 312) :: (nat_lit 313) :: (nat_lit 314) :: (nat_lit 317) :: (nat_lit 319) :: (nat_lit 320) :: (nat_lit 322) :: (nat_lit 323) :: (nat_lit 324) :: (nat_lit 327) :: (nat_lit 328) :: (nat_lit 329) :: (nat_lit 331) :: (nat_lit 332) :: (nat_lit 334) :: (nat_lit 335) :: (nat_lit 336) :: (nat_lit 339) :: (nat_lit 340) :: (nat_lit 348) :: (nat_lit 349) :: (nat_lit 351) :: (nat_lit 352) :: (nat_lit 354) :: (nat_lit 355) :: (nat_lit 356) :: (nat_lit 358) :: (nat_lit 359) :: (nat_lit 361) :: (nat_lit 362) :: (nat_lit 363) :: (nat_lit 365) :: (nat_lit 366) :: (nat_lit 368) :: (nat_lit 369) :: (nat_lit 370) :: (nat_lit 372) :: (nat_lit 373) :: (nat_lit 375) :: (nat_lit 376) :: (nat_lit 377) :: (nat_lit 379) :: (nat_lit 380) :: (nat_lit 382) :: (nat_lit 383) :: (nat_lit 384) :: (nat_lit 386) :: (nat_lit 387) :: (nat_lit 389) :: (nat_lit 390) :: (nat_lit 391) :: (nat_lit 392) :: (nat_lit 393) :: (nat_lit 394) :: (nat_lit 395) :: (nat_lit 398) :: (nat_lit 400) :: (nat_lit 401) :: (nat_lit 403) :: (nat_lit 404) :: (nat_lit 405) :: (nat_lit 407) :: (nat_lit 408) :: (nat_lit 410) :: (nat_lit 411) :: (nat_lit 412) :: (nat_lit 414) :: (nat_lit 415) :: (nat_lit 417) :: (nat_lit 418) :: (nat_lit 419) :: (nat_lit 421) :: (nat_lit 422) :: (nat_lit 424) :: (nat_lit 425) :: (nat_lit 426) :: (nat_lit 429) :: (nat_lit 430) :: (nat_lit 431) :: (nat_lit 434) :: (nat_lit 435) :: []) hkH)) 6166 :=
  LeftO.of_pieces (M := 3043) (H₁ := fun P => absHeap (tF P) 436 (.mk [] [] [] 0 [] [] .false (List.toArray []) [] 0 .false .false .false 0 [2000, 10, 10] .false 0 .true [] [] 0 .false)) (gs₁ := ⟨[]⟩) (d₁ := (.mk 0 0 0 0)) (k₁ := 801) openH sizeH runH (by decide) looksH
theorem saidH : OpenLaw.wellSaid PySem.Challenge.rw_ui0509_16 = true := by rw [PySem.W.Fast.te9446332074065402090]; kernel_rfl!
theorem okH : (chainsOk vq && opensWell pw && (frees (OpenRow.toRowW (OpenLaw.row PySem.Challenge.rw_ui0509_16)) && (RowW.within (OpenRow.toRowW (OpenLaw.row PySem.Challenge.rw_ui0509_16))).isEmpty)) = true := by kernel_rfl!
theorem hd (walk : WalkO vq [Str.ofString "MOST", Str.ofString "frac", Str.ofString "need", Str.ofString "Net", Str.ofString "Meter"] (XL vq ([(Str.ofString "MOST", (.int 100000000000000000000000000000000000000000000000000000000000000000000000000000000000000000000000000000000000000000000000000000000000000000000000000000000000000000000000000000000000000000000000000000000000000000000000000000000000000000000000000000000000000000000000000000000000000000000000000000000000000000000000000000000000000000000000000000000000000000000000000000000000000000000000000000000000000000000000000000000000000000000000000000000000000000000000000000000000000000000000000000000000000000000000000000000000000000000000000000000000000000000000000000000000000000000000000000000000000000000000000000000000000000000000000000000000000000000000000000000000000000000000000000000000000000000000000000000000000000000000000000000000000000000000000000000000000000000000000000000000000000000000000000000000000000000000000000000000000000000000000000000000000000000000000000000000000000000000000000000000000000000000000000000000000000000000000000000000000000000000000000000000000000000000000000000000000000000000000000000000000000000000000000000000000000000000000000000000000000000000000000000000000000000000000000000000000000000000000000000000000000000000000000000000000000000000000000000000000000000000000000000000000000000000000000000000000000000000000000000000000000000000000000000000000000000000000000000000000000000000000000000000000000000000000000000000000000000000000000000000000000000000000000000000000000000000000000000000000000000000000000000000000000000000000000000000000000000000000000000000000000000000000000000000000000000000000000000000000000000000000000000000000000000000000000000000000000000000000000000000000000000000000000000000000000000000000000000000000000000000000000000000000000000000000000000000000000000000000000000000000000000000000000000000000000000000000000000000000000000000000000000000000000000000000000000000000000000000000000000000000000000000000000000000000000000000000000000000000000000000000000000000000000000000000000000000000000000000000000000000000000000000000000000))] : List (Str × WData))) (kHook K ((nat_lit 2) :: (nat_lit 3) :: (nat_lit 15) :: (nat_lit 17) :: (nat_lit 18) :: (nat_lit 20) :: (nat_lit 21) :: (nat_lit 22) :: (nat_lit 29) :: (nat_lit 30) :: (nat_lit 31) :: (nat_lit 32) :: (nat_lit 35) :: (nat_lit 37) :: (nat_lit 38) :: (nat_lit 40) :: (nat_lit 41) :: (nat_lit 42) :: (nat_lit 44) :: (nat_lit 45) :: (nat_lit 47) :: (nat_lit 48) :: (nat_lit 49) :: (nat_lit 51) :: (nat_lit 52) :: (nat_lit 54) :: (nat_lit 55) :: (nat_lit 56) :: (nat_lit 57) :: (nat_lit 58) :: (nat_lit 60) :: (nat_lit 61) :: (nat_lit 63) :: (nat_lit 64) :: (nat_lit 65) :: (nat_lit 66) :: (nat_lit 68) :: (nat_lit 69) :: (nat_lit 71) :: (nat_lit 72) :: (nat_lit 73) :: (nat_lit 74) :: (nat_lit 76) :: (nat_lit 77) :: (nat_lit 79) :: (nat_lit 80) :: (nat_lit 81) :: (nat_lit 83) :: (nat_lit 84) :: (nat_lit 86) :: (nat_lit 87) :: (nat_lit 88) :: (nat_lit 90) :: (nat_lit 91) :: (nat_lit 93) :: (nat_lit 94) :: (nat_lit 95) :: (nat_lit 97) :: (nat_lit 98) :: (nat_lit 100) :: (nat_lit 101) :: (nat_lit 102) :: (nat_lit 104) :: (nat_lit 105) :: (nat_lit 107) :: (nat_lit 108) :: (nat_lit 109) :: (nat_lit 111) :: (nat_lit 112) :: (nat_lit 114) :: (nat_lit 115) :: (nat_lit 116) :: (nat_lit 118) :: (nat_lit 119) :: (nat_lit 121) :: (nat_lit 122) :: (nat_lit 123) :: (nat_lit 125) :: (nat_lit 126) :: (nat_lit 128) :: (nat_lit 129) :: (nat_lit 130) :: (nat_lit 132) :: (nat_lit 133) :: (nat_lit 135) :: (nat_lit 136) :: (nat_lit 144) :: (nat_lit 146) :: (nat_lit 147) :: (nat_lit 149) :: (nat_lit 150) :: (nat_lit 151) :: (nat_lit 152) :: (nat_lit 153) :: (nat_lit 154) :: (nat_lit 155) :: (nat_lit 165) :: (nat_lit 167) :: (nat_lit 168) :: (nat_lit 170) :: (nat_lit 171) :: (nat_lit 172) :: (nat_lit 174) :: (nat_lit 175) :: (nat_lit 177) :: (nat_lit 178) :: (nat_lit 179) :: (nat_lit 180) :: (nat_lit 181) :: (nat_lit 182) :: (nat_lit 183) :: (nat_lit 199) :: (nat_lit 200) :: (nat_lit 201) :: (nat_lit 203) :: (nat_lit 204) :: (nat_lit 206) :: (nat_lit 207) :: (nat_lit 208) :: (nat_lit 210) :: (nat_lit 211) :: (nat_lit 213) :: (nat_lit 214) :: (nat_lit 215) :: (nat_lit 217) :: (nat_lit 218) :: (nat_lit 220) :: (nat_lit 221) :: (nat_lit 222) :: (nat_lit 224) :: (nat_lit 225) :: (nat_lit 227) :: (nat_lit 228) :: (nat_lit 229) :: (nat_lit 231) :: (nat_lit 232) :: (nat_lit 234) :: (nat_lit 235) :: (nat_lit 236) :: (nat_lit 237) :: (nat_lit 239) :: (nat_lit 240) :: (nat_lit 242) :: (nat_lit 243) :: (nat_lit 244) :: (nat_lit 246) :: (nat_lit 247) :: (nat_lit 249) :: (nat_lit 250) :: (nat_lit 251) :: (nat_lit 253) :: (nat_lit 254) :: (nat_lit 256) :: (nat_lit 257) :: (nat_lit 258) :: (nat_lit 260) :: (nat_lit 261) :: (nat_lit 263) :: (nat_lit 264) :: (nat_lit 265) :: (nat_lit 268) :: (nat_lit 269) :: (nat_lit 270) :: (nat_lit 273) :: (nat_lit 274) :: (nat_lit 275) :: (nat_lit 277) :: (nat_lit 278) :: (nat_lit 280) :: (nat_lit 281) :: (nat_lit 282) :: (nat_lit 284) :: (nat_lit 285) :: (nat_lit 287) :: (nat_lit 288) :: (nat_lit 289) :: (nat_lit 291) :: (nat_lit 292) :: (nat_lit 294) :: (nat_lit 295) :: (nat_lit 296) :: (nat_lit 298) :: (nat_lit 299) :: (nat_lit 301) :: (nat_lit 302) :: (nat_lit 303) :: (nat_lit 305) :: (nat_lit 306) :: (nat_lit 308) :: (nat_lit 309) :: (nat_lit 310) :: (nat_lit 311) :: (nat_lit 312) :: (nat_lit 313) :: (nat_lit 314) :: (nat_lit 317) :: (nat_lit 319) :: (nat_lit 320) :: (nat_lit 322) :: (nat_lit 323) :: (nat_lit 324) :: (nat_lit 327) :: (nat_lit 328) :: (nat_lit 329) :: (nat_lit 331) :: (nat_lit 332) :: (nat_lit 334) :: (nat_lit 335) :: (nat_lit 336) :: (nat_lit 339) :: (nat_lit 340) :: (nat_lit 348) :: (nat_lit 349) :: (nat_lit 351) :: (nat_lit 352) :: (nat_lit 354) :: (nat_lit 355) :: (nat_lit 356) :: (nat_lit 358) :: (nat_lit 359) :: (nat_lit 361) :: (nat_lit 362) :: (nat_lit 363) :: (nat_lit 365) :: (nat_lit 366) :: (nat_lit 368) :: (nat_lit 369) :: (nat_lit 370) :: (nat_lit 372) :: (nat_lit 373) :: (nat_lit 375) :: (nat_lit 376) :: (nat_lit 377) :: (nat_lit 379) :: (nat_lit 380) :: (nat_lit 382) :: (nat_lit 383) :: (nat_lit 384) :: (nat_lit 386) :: (nat_lit 387) :: (nat_lit 389) :: (nat_lit 390) :: (nat_lit 391) :: (nat_lit 392) :: (nat_lit 393) :: (nat_lit 394) :: (nat_lit 395) :: (nat_lit 398) :: (nat_lit 400) :: (nat_lit 401) :: (nat_lit 403) :: (nat_lit 404) :: (nat_lit 405) :: (nat_lit 407) :: (nat_lit 408) :: (nat_lit 410) :: (nat_lit 411) :: (nat_lit 412) :: (nat_lit 414) :: (nat_lit 415) :: (nat_lit 417) :: (nat_lit 418) :: (nat_lit 419) :: (nat_lit 421) :: (nat_lit 422) :: (nat_lit 424) :: (nat_lit 425) :: (nat_lit 426) :: (nat_lit 429) :: (nat_lit 430) :: (nat_lit 431) :: (nat_lit 434) :: (nat_lit 435) :: []) hkH).says (OpenRow.toRowW (OpenLaw.row PySem.Challenge.rw_ui0509_16)) dH [] fun f vs => PySem.call f vs) : PySem.Challenge.rw_ui0509_16.Holds := by
  refine holds_law saidH fun said => holds_open (r := OpenLaw.row PySem.Challenge.rw_ui0509_16) (q := vq) (loose := [Str.ofString "MOST", Str.ofString "frac", Str.ofString "need", Str.ofString "Net", Str.ofString "Meter"]) (Xt := (fun s => xlAt vq ([(Str.ofString "MOST", (.int 100000000000000000000000000000000000000000000000000000000000000000000000000000000000000000000000000000000000000000000000000000000000000000000000000000000000000000000000000000000000000000000000000000000000000000000000000000000000000000000000000000000000000000000000000000000000000000000000000000000000000000000000000000000000000000000000000000000000000000000000000000000000000000000000000000000000000000000000000000000000000000000000000000000000000000000000000000000000000000000000000000000000000000000000000000000000000000000000000000000000000000000000000000000000000000000000000000000000000000000000000000000000000000000000000000000000000000000000000000000000000000000000000000000000000000000000000000000000000000000000000000000000000000000000000000000000000000000000000000000000000000000000000000000000000000000000000000000000000000000000000000000000000000000000000000000000000000000000000000000000000000000000000000000000000000000000000000000000000000000000000000000000000000000000000000000000000000000000000000000000000000000000000000000000000000000000000000000000000000000000000000000000000000000000000000000000000000000000000000000000000000000000000000000000000000000000000000000000000000000000000000000000000000000000000000000000000000000000000000000000000000000000000000000000000000000000000000000000000000000000000000000000000000000000000000000000000000000000000000000000000000000000000000000000000000000000000000000000000000000000000000000000000000000000000000000000000000000000000000000000000000000000000000000000000000000000000000000000000000000000000000000000000000000000000000000000000000000000000000000000000000000000000000000000000000000000000000000000000000000000000000000000000000000000000000000000000000000000000000000000000000000000000000000000000000000000000000000000000000000000000000000000000000000000000000000000000000000000000000000000000000000000000000000000000000000000000000000000000000000000000000000000000000000000000000000000000000000000000000000000000000000000000000000))] : List (Str × WData)) s && recOk (RowW.records (OpenRow.toRowW (OpenLaw.row PySem.Challenge.rw_ui0509_16))) s)) (XP := XL vq ([(Str.ofString "MOST", (.int 100000000000000000000000000000000000000000000000000000000000000000000000000000000000000000000000000000000000000000000000000000000000000000000000000000000000000000000000000000000000000000000000000000000000000000000000000000000000000000000000000000000000000000000000000000000000000000000000000000000000000000000000000000000000000000000000000000000000000000000000000000000000000000000000000000000000000000000000000000000000000000000000000000000000000000000000000000000000000000000000000000000000000000000000000000000000000000000000000000000000000000000000000000000000000000000000000000000000000000000000000000000000000000000000000000000000000000000000000000000000000000000000000000000000000000000000000000000000000000000000000000000000000000000000000000000000000000000000000000000000000000000000000000000000000000000000000000000000000000000000000000000000000000000000000000000000000000000000000000000000000000000000000000000000000000000000000000000000000000000000000000000000000000000000000000000000000000000000000000000000000000000000000000000000000000000000000000000000000000000000000000000000000000000000000000000000000000000000000000000000000000000000000000000000000000000000000000000000000000000000000000000000000000000000000000000000000000000000000000000000000000000000000000000000000000000000000000000000000000000000000000000000000000000000000000000000000000000000000000000000000000000000000000000000000000000000000000000000000000000000000000000000000000000000000000000000000000000000000000000000000000000000000000000000000000000000000000000000000000000000000000000000000000000000000000000000000000000000000000000000000000000000000000000000000000000000000000000000000000000000000000000000000000000000000000000000000000000000000000000000000000000000000000000000000000000000000000000000000000000000000000000000000000000000000000000000000000000000000000000000000000000000000000000000000000000000000000000000000000000000000000000000000000000000000000000000000000000000000000000000000000000000000000000))] : List (Str × WData))) (Yf := Hook.obs (kHook K ((nat_lit 2) :: (nat_lit 3) :: (nat_lit 15) :: (nat_lit 17) :: (nat_lit 18) :: (nat_lit 20) :: (nat_lit 21) :: (nat_lit 22) :: (nat_lit 29) :: (nat_lit 30) :: (nat_lit 31) :: (nat_lit 32) :: (nat_lit 35) :: (nat_lit 37) :: (nat_lit 38) :: (nat_lit 40) :: (nat_lit 41) :: (nat_lit 42) :: (nat_lit 44) :: (nat_lit 45) :: (nat_lit 47) :: (nat_lit 48) :: (nat_lit 49) :: (nat_lit 51) :: (nat_lit 52) :: (nat_lit 54) :: (nat_lit 55) :: (nat_lit 56) :: (nat_lit 57) :: (nat_lit 58) :: (nat_lit 60) :: (nat_lit 61) :: (nat_lit 63) :: (nat_lit 64) :: (nat_lit 65) :: (nat_lit 66) :: (nat_lit 68) :: (nat_lit 69) :: (nat_lit 71) :: (nat_lit 72) :: (nat_lit 73) :: (nat_lit 74) :: (nat_lit 76) :: (nat_lit 77) :: (nat_lit 79) :: (nat_lit 80) :: (nat_lit 81) :: (nat_lit 83) :: (nat_lit 84) :: (nat_lit 86) :: (nat_lit 87) :: (nat_lit 88) :: (nat_lit 90) :: (nat_lit 91) :: (nat_lit 93) :: (nat_lit 94) :: (nat_lit 95) :: (nat_lit 97) :: (nat_lit 98) :: (nat_lit 100) :: (nat_lit 101) :: (nat_lit 102) :: (nat_lit 104) :: (nat_lit 105) :: (nat_lit 107) :: (nat_lit 108) :: (nat_lit 109) :: (nat_lit 111) :: (nat_lit 112) :: (nat_lit 114) :: (nat_lit 115) :: (nat_lit 116) :: (nat_lit 118) :: (nat_lit 119) :: (nat_lit 121) :: (nat_lit 122) :: (nat_lit 123) :: (nat_lit 125) :: (nat_lit 126) :: (nat_lit 128) :: (nat_lit 129) :: (nat_lit 130) :: (nat_lit 132) :: (nat_lit 133) :: (nat_lit 135) :: (nat_lit 136) :: (nat_lit 144) :: (nat_lit 146) :: (nat_lit 147) :: (nat_lit 149) :: (nat_lit 150) :: (nat_lit 151) :: (nat_lit 152) :: (nat_lit 153) :: (nat_lit 154) :: (nat_lit 155) :: (nat_lit 165) :: (nat_lit 167) :: (nat_lit 168) :: (nat_lit 170) :: (nat_lit 171) :: (nat_lit 172) :: (nat_lit 174) :: (nat_lit 175) :: (nat_lit 177) :: (nat_lit 178) :: (nat_lit 179) :: (nat_lit 180) :: (nat_lit 181) :: (nat_lit 182) :: (nat_lit 183) :: (nat_lit 199) :: (nat_lit 200) :: (nat_lit 201) :: (nat_lit 203) :: (nat_lit 204) :: (nat_lit 206) :: (nat_lit 207) :: (nat_lit 208) :: (nat_lit 210) :: (nat_lit 211) :: (nat_lit 213) :: (nat_lit 214) :: (nat_lit 215) :: (nat_lit 217) :: (nat_lit 218) :: (nat_lit 220) :: (nat_lit 221) :: (nat_lit 222) :: (nat_lit 224) :: (nat_lit 225) :: (nat_lit 227) :: (nat_lit 228) :: (nat_lit 229) :: (nat_lit 231) :: (nat_lit 232) :: (nat_lit 234) :: (nat_lit 235) :: (nat_lit 236) :: (nat_lit 237) :: (nat_lit 239) :: (nat_lit 240) :: (nat_lit 242) :: (nat_lit 243) :: (nat_lit 244) :: (nat_lit 246) :: (nat_lit 247) :: (nat_lit 249) :: (nat_lit 250) :: (nat_lit 251) :: (nat_lit 253) :: (nat_lit 254) :: (nat_lit 256) :: (nat_lit 257) :: (nat_lit 258) :: (nat_lit 260) :: (nat_lit 261) :: (nat_lit 263) :: (nat_lit 264) :: (nat_lit 265) :: (nat_lit 268) :: (nat_lit 269) :: (nat_lit 270) :: (nat_lit 273) :: (nat_lit 274) :: (nat_lit 275) :: (nat_lit 277) :: (nat_lit 278) :: (nat_lit 280) :: (nat_lit 281) :: (nat_lit 282) :: (nat_lit 284) :: (nat_lit 285) :: (nat_lit 287) :: (nat_lit 288) :: (nat_lit 289) :: (nat_lit 291) :: (nat_lit 292) :: (nat_lit 294) :: (nat_lit 295) :: (nat_lit 296) :: (nat_lit 298) :: (nat_lit 299) :: (nat_lit 301) :: (nat_lit 302) :: (nat_lit 303) :: (nat_lit 305) :: (nat_lit 306) :: (nat_lit 308) :: (nat_lit 309) :: (nat_lit 310) :: (nat_lit 311) :: (nat_lit 312) :: (nat_lit 313) :: (nat_lit 314) :: (nat_lit 317) :: (nat_lit 319) :: (nat_lit 320) :: (nat_lit 322) :: (nat_lit 323) :: (nat_lit 324) :: (nat_lit 327) :: (nat_lit 328) :: (nat_lit 329) :: (nat_lit 331) :: (nat_lit 332) :: (nat_lit 334) :: (nat_lit 335) :: (nat_lit 336) :: (nat_lit 339) :: (nat_lit 340) :: (nat_lit 348) :: (nat_lit 349) :: (nat_lit 351) :: (nat_lit 352) :: (nat_lit 354) :: (nat_lit 355) :: (nat_lit 356) :: (nat_lit 358) :: (nat_lit 359) :: (nat_lit 361) :: (nat_lit 362) :: (nat_lit 363) :: (nat_lit 365) :: (nat_lit 366) :: (nat_lit 368) :: (nat_lit 369) :: (nat_lit 370) :: (nat_lit 372) :: (nat_lit 373) :: (nat_lit 375) :: (nat_lit 376) :: (nat_lit 377) :: (nat_lit 379) :: (nat_lit 380) :: (nat_lit 382) :: (nat_lit 383) :: (nat_lit 384) :: (nat_lit 386) :: (nat_lit 387) :: (nat_lit 389) :: (nat_lit 390) :: (nat_lit 391) :: (nat_lit 392) :: (nat_lit 393) :: (nat_lit 394) :: (nat_lit 395) :: (nat_lit 398) :: (nat_lit 400) :: (nat_lit 401) :: (nat_lit 403) :: (nat_lit 404) :: (nat_lit 405) :: (nat_lit 407) :: (nat_lit 408) :: (nat_lit 410) :: (nat_lit 411) :: (nat_lit 412) :: (nat_lit 414) :: (nat_lit 415) :: (nat_lit 417) :: (nat_lit 418) :: (nat_lit 419) :: (nat_lit 421) :: (nat_lit 422) :: (nat_lit 424) :: (nat_lit 425) :: (nat_lit 426) :: (nat_lit 429) :: (nat_lit 430) :: (nat_lit 431) :: (nat_lit 434) :: (nat_lit 435) :: []) hkH)) (Ya := Hook.val (kHook K ((nat_lit 2) :: (nat_lit 3) :: (nat_lit 15) :: (nat_lit 17) :: (nat_lit 18) :: (nat_lit 20) :: (nat_lit 21) :: (nat_lit 22) :: (nat_lit 29) :: (nat_lit 30) :: (nat_lit 31) :: (nat_lit 32) :: (nat_lit 35) :: (nat_lit 37) :: (nat_lit 38) :: (nat_lit 40) :: (nat_lit 41) :: (nat_lit 42) :: (nat_lit 44) :: (nat_lit 45) :: (nat_lit 47) :: (nat_lit 48) :: (nat_lit 49) :: (nat_lit 51) :: (nat_lit 52) :: (nat_lit 54) :: (nat_lit 55) :: (nat_lit 56) :: (nat_lit 57) :: (nat_lit 58) :: (nat_lit 60) :: (nat_lit 61) :: (nat_lit 63) :: (nat_lit 64) :: (nat_lit 65) :: (nat_lit 66) :: (nat_lit 68) :: (nat_lit 69) :: (nat_lit 71) :: (nat_lit 72) :: (nat_lit 73) :: (nat_lit 74) :: (nat_lit 76) :: (nat_lit 77) :: (nat_lit 79) :: (nat_lit 80) :: (nat_lit 81) :: (nat_lit 83) :: (nat_lit 84) :: (nat_lit 86) :: (nat_lit 87) :: (nat_lit 88) :: (nat_lit 90) :: (nat_lit 91) :: (nat_lit 93) :: (nat_lit 94) :: (nat_lit 95) :: (nat_lit 97) :: (nat_lit 98) :: (nat_lit 100) :: (nat_lit 101) :: (nat_lit 102) :: (nat_lit 104) :: (nat_lit 105) :: (nat_lit 107) :: (nat_lit 108) :: (nat_lit 109) :: (nat_lit 111) :: (nat_lit 112) :: (nat_lit 114) :: (nat_lit 115) :: (nat_lit 116) :: (nat_lit 118) :: (nat_lit 119) :: (nat_lit 121) :: (nat_lit 122) :: (nat_lit 123) :: (nat_lit 125) :: (nat_lit 126) :: (nat_lit 128) :: (nat_lit 129) :: (nat_lit 130) :: (nat_lit 132) :: (nat_lit 133) :: (nat_lit 135) :: (nat_lit 136) :: (nat_lit 144) :: (nat_lit 146) :: (nat_lit 147) :: (nat_lit 149) :: (nat_lit 150) :: (nat_lit 151) :: (nat_lit 152) :: (nat_lit 153) :: (nat_lit 154) :: (nat_lit 155) :: (nat_lit 165) :: (nat_lit 167) :: (nat_lit 168) :: (nat_lit 170) :: (nat_lit 171) :: (nat_lit 172) :: (nat_lit 174) :: (nat_lit 175) :: (nat_lit 177) :: (nat_lit 178) :: (nat_lit 179) :: (nat_lit 180) :: (nat_lit 181) :: (nat_lit 182) :: (nat_lit 183) :: (nat_lit 199) :: (nat_lit 200) :: (nat_lit 201) :: (nat_lit 203) :: (nat_lit 204) :: (nat_lit 206) :: (nat_lit 207) :: (nat_lit 208) :: (nat_lit 210) :: (nat_lit 211) :: (nat_lit 213) :: (nat_lit 214) :: (nat_lit 215) :: (nat_lit 217) :: (nat_lit 218) :: (nat_lit 220) :: (nat_lit 221) :: (nat_lit 222) :: (nat_lit 224) :: (nat_lit 225) :: (nat_lit 227) :: (nat_lit 228) :: (nat_lit 229) :: (nat_lit 231) :: (nat_lit 232) :: (nat_lit 234) :: (nat_lit 235) :: (nat_lit 236) :: (nat_lit 237) :: (nat_lit 239) :: (nat_lit 240) :: (nat_lit 242) :: (nat_lit 243) :: (nat_lit 244) :: (nat_lit 246) :: (nat_lit 247) :: (nat_lit 249) :: (nat_lit 250) :: (nat_lit 251) :: (nat_lit 253) :: (nat_lit 254) :: (nat_lit 256) :: (nat_lit 257) :: (nat_lit 258) :: (nat_lit 260) :: (nat_lit 261) :: (nat_lit 263) :: (nat_lit 264) :: (nat_lit 265) :: (nat_lit 268) :: (nat_lit 269) :: (nat_lit 270) :: (nat_lit 273) :: (nat_lit 274) :: (nat_lit 275) :: (nat_lit 277) :: (nat_lit 278) :: (nat_lit 280) :: (nat_lit 281) :: (nat_lit 282) :: (nat_lit 284) :: (nat_lit 285) :: (nat_lit 287) :: (nat_lit 288) :: (nat_lit 289) :: (nat_lit 291) :: (nat_lit 292) :: (nat_lit 294) :: (nat_lit 295) :: (nat_lit 296) :: (nat_lit 298) :: (nat_lit 299) :: (nat_lit 301) :: (nat_lit 302) :: (nat_lit 303) :: (nat_lit 305) :: (nat_lit 306) :: (nat_lit 308) :: (nat_lit 309) :: (nat_lit 310) :: (nat_lit 311) :: (nat_lit 312) :: (nat_lit 313) :: (nat_lit 314) :: (nat_lit 317) :: (nat_lit 319) :: (nat_lit 320) :: (nat_lit 322) :: (nat_lit 323) :: (nat_lit 324) :: (nat_lit 327) :: (nat_lit 328) :: (nat_lit 329) :: (nat_lit 331) :: (nat_lit 332) :: (nat_lit 334) :: (nat_lit 335) :: (nat_lit 336) :: (nat_lit 339) :: (nat_lit 340) :: (nat_lit 348) :: (nat_lit 349) :: (nat_lit 351) :: (nat_lit 352) :: (nat_lit 354) :: (nat_lit 355) :: (nat_lit 356) :: (nat_lit 358) :: (nat_lit 359) :: (nat_lit 361) :: (nat_lit 362) :: (nat_lit 363) :: (nat_lit 365) :: (nat_lit 366) :: (nat_lit 368) :: (nat_lit 369) :: (nat_lit 370) :: (nat_lit 372) :: (nat_lit 373) :: (nat_lit 375) :: (nat_lit 376) :: (nat_lit 377) :: (nat_lit 379) :: (nat_lit 380) :: (nat_lit 382) :: (nat_lit 383) :: (nat_lit 384) :: (nat_lit 386) :: (nat_lit 387) :: (nat_lit 389) :: (nat_lit 390) :: (nat_lit 391) :: (nat_lit 392) :: (nat_lit 393) :: (nat_lit 394) :: (nat_lit 395) :: (nat_lit 398) :: (nat_lit 400) :: (nat_lit 401) :: (nat_lit 403) :: (nat_lit 404) :: (nat_lit 405) :: (nat_lit 407) :: (nat_lit 408) :: (nat_lit 410) :: (nat_lit 411) :: (nat_lit 412) :: (nat_lit 414) :: (nat_lit 415) :: (nat_lit 417) :: (nat_lit 418) :: (nat_lit 419) :: (nat_lit 421) :: (nat_lit 422) :: (nat_lit 424) :: (nat_lit 425) :: (nat_lit 426) :: (nat_lit 429) :: (nat_lit 430) :: (nat_lit 431) :: (nat_lit 434) :: (nat_lit 435) :: []) hkH)) (YP := Hook.says (kHook K ((nat_lit 2) :: (nat_lit 3) :: (nat_lit 15) :: (nat_lit 17) :: (nat_lit 18) :: (nat_lit 20) :: (nat_lit 21) :: (nat_lit 22) :: (nat_lit 29) :: (nat_lit 30) :: (nat_lit 31) :: (nat_lit 32) :: (nat_lit 35) :: (nat_lit 37) :: (nat_lit 38) :: (nat_lit 40) :: (nat_lit 41) :: (nat_lit 42) :: (nat_lit 44) :: (nat_lit 45) :: (nat_lit 47) :: (nat_lit 48) :: (nat_lit 49) :: (nat_lit 51) :: (nat_lit 52) :: (nat_lit 54) :: (nat_lit 55) :: (nat_lit 56) :: (nat_lit 57) :: (nat_lit 58) :: (nat_lit 60) :: (nat_lit 61) :: (nat_lit 63) :: (nat_lit 64) :: (nat_lit 65) :: (nat_lit 66) :: (nat_lit 68) :: (nat_lit 69) :: (nat_lit 71) :: (nat_lit 72) :: (nat_lit 73) :: (nat_lit 74) :: (nat_lit 76) :: (nat_lit 77) :: (nat_lit 79) :: (nat_lit 80) :: (nat_lit 81) :: (nat_lit 83) :: (nat_lit 84) :: (nat_lit 86) :: (nat_lit 87) :: (nat_lit 88) :: (nat_lit 90) :: (nat_lit 91) :: (nat_lit 93) :: (nat_lit 94) :: (nat_lit 95) :: (nat_lit 97) :: (nat_lit 98) :: (nat_lit 100) :: (nat_lit 101) :: (nat_lit 102) :: (nat_lit 104) :: (nat_lit 105) :: (nat_lit 107) :: (nat_lit 108) :: (nat_lit 109) :: (nat_lit 111) :: (nat_lit 112) :: (nat_lit 114) :: (nat_lit 115) :: (nat_lit 116) :: (nat_lit 118) :: (nat_lit 119) :: (nat_lit 121) :: (nat_lit 122) :: (nat_lit 123) :: (nat_lit 125) :: (nat_lit 126) :: (nat_lit 128) :: (nat_lit 129) :: (nat_lit 130) :: (nat_lit 132) :: (nat_lit 133) :: (nat_lit 135) :: (nat_lit 136) :: (nat_lit 144) :: (nat_lit 146) :: (nat_lit 147) :: (nat_lit 149) :: (nat_lit 150) :: (nat_lit 151) :: (nat_lit 152) :: (nat_lit 153) :: (nat_lit 154) :: (nat_lit 155) :: (nat_lit 165) :: (nat_lit 167) :: (nat_lit 168) :: (nat_lit 170) :: (nat_lit 171) :: (nat_lit 172) :: (nat_lit 174) :: (nat_lit 175) :: (nat_lit 177) :: (nat_lit 178) :: (nat_lit 179) :: (nat_lit 180) :: (nat_lit 181) :: (nat_lit 182) :: (nat_lit 183) :: (nat_lit 199) :: (nat_lit 200) :: (nat_lit 201) :: (nat_lit 203) :: (nat_lit 204) :: (nat_lit 206) :: (nat_lit 207) :: (nat_lit 208) :: (nat_lit 210) :: (nat_lit 211) :: (nat_lit 213) :: (nat_lit 214) :: (nat_lit 215) :: (nat_lit 217) :: (nat_lit 218) :: (nat_lit 220) :: (nat_lit 221) :: (nat_lit 222) :: (nat_lit 224) :: (nat_lit 225) :: (nat_lit 227) :: (nat_lit 228) :: (nat_lit 229) :: (nat_lit 231) :: (nat_lit 232) :: (nat_lit 234) :: (nat_lit 235) :: (nat_lit 236) :: (nat_lit 237) :: (nat_lit 239) :: (nat_lit 240) :: (nat_lit 242) :: (nat_lit 243) :: (nat_lit 244) :: (nat_lit 246) :: (nat_lit 247) :: (nat_lit 249) :: (nat_lit 250) :: (nat_lit 251) :: (nat_lit 253) :: (nat_lit 254) :: (nat_lit 256) :: (nat_lit 257) :: (nat_lit 258) :: (nat_lit 260) :: (nat_lit 261) :: (nat_lit 263) :: (nat_lit 264) :: (nat_lit 265) :: (nat_lit 268) :: (nat_lit 269) :: (nat_lit 270) :: (nat_lit 273) :: (nat_lit 274) :: (nat_lit 275) :: (nat_lit 277) :: (nat_lit 278) :: (nat_lit 280) :: (nat_lit 281) :: (nat_lit 282) :: (nat_lit 284) :: (nat_lit 285) :: (nat_lit 287) :: (nat_lit 288) :: (nat_lit 289) :: (nat_lit 291) :: (nat_lit 292) :: (nat_lit 294) :: (nat_lit 295) :: (nat_lit 296) :: (nat_lit 298) :: (nat_lit 299) :: (nat_lit 301) :: (nat_lit 302) :: (nat_lit 303) :: (nat_lit 305) :: (nat_lit 306) :: (nat_lit 308) :: (nat_lit 309) :: (nat_lit 310) :: (nat_lit 311) :: (nat_lit 312) :: (nat_lit 313) :: (nat_lit 314) :: (nat_lit 317) :: (nat_lit 319) :: (nat_lit 320) :: (nat_lit 322) :: (nat_lit 323) :: (nat_lit 324) :: (nat_lit 327) :: (nat_lit 328) :: (nat_lit 329) :: (nat_lit 331) :: (nat_lit 332) :: (nat_lit 334) :: (nat_lit 335) :: (nat_lit 336) :: (nat_lit 339) :: (nat_lit 340) :: (nat_lit 348) :: (nat_lit 349) :: (nat_lit 351) :: (nat_lit 352) :: (nat_lit 354) :: (nat_lit 355) :: (nat_lit 356) :: (nat_lit 358) :: (nat_lit 359) :: (nat_lit 361) :: (nat_lit 362) :: (nat_lit 363) :: (nat_lit 365) :: (nat_lit 366) :: (nat_lit 368) :: (nat_lit 369) :: (nat_lit 370) :: (nat_lit 372) :: (nat_lit 373) :: (nat_lit 375) :: (nat_lit 376) :: (nat_lit 377) :: (nat_lit 379) :: (nat_lit 380) :: (nat_lit 382) :: (nat_lit 383) :: (nat_lit 384) :: (nat_lit 386) :: (nat_lit 387) :: (nat_lit 389) :: (nat_lit 390) :: (nat_lit 391) :: (nat_lit 392) :: (nat_lit 393) :: (nat_lit 394) :: (nat_lit 395) :: (nat_lit 398) :: (nat_lit 400) :: (nat_lit 401) :: (nat_lit 403) :: (nat_lit 404) :: (nat_lit 405) :: (nat_lit 407) :: (nat_lit 408) :: (nat_lit 410) :: (nat_lit 411) :: (nat_lit 412) :: (nat_lit 414) :: (nat_lit 415) :: (nat_lit 417) :: (nat_lit 418) :: (nat_lit 419) :: (nat_lit 421) :: (nat_lit 422) :: (nat_lit 424) :: (nat_lit 425) :: (nat_lit 426) :: (nat_lit 429) :: (nat_lit 430) :: (nat_lit 431) :: (nat_lit 434) :: (nat_lit 435) :: []) hkH)) (N := 6166) (d := dH) (kwd := []) leftH (Hook.of (kHook K ((nat_lit 2) :: (nat_lit 3) :: (nat_lit 15) :: (nat_lit 17) :: (nat_lit 18) :: (nat_lit 20) :: (nat_lit 21) :: (nat_lit 22) :: (nat_lit 29) :: (nat_lit 30) :: (nat_lit 31) :: (nat_lit 32) :: (nat_lit 35) :: (nat_lit 37) :: (nat_lit 38) :: (nat_lit 40) :: (nat_lit 41) :: (nat_lit 42) :: (nat_lit 44) :: (nat_lit 45) :: (nat_lit 47) :: (nat_lit 48) :: (nat_lit 49) :: (nat_lit 51) :: (nat_lit 52) :: (nat_lit 54) :: (nat_lit 55) :: (nat_lit 56) :: (nat_lit 57) :: (nat_lit 58) :: (nat_lit 60) :: (nat_lit 61) :: (nat_lit 63) :: (nat_lit 64) :: (nat_lit 65) :: (nat_lit 66) :: (nat_lit 68) :: (nat_lit 69) :: (nat_lit 71) :: (nat_lit 72) :: (nat_lit 73) :: (nat_lit 74) :: (nat_lit 76) :: (nat_lit 77) :: (nat_lit 79) :: (nat_lit 80) :: (nat_lit 81) :: (nat_lit 83) :: (nat_lit 84) :: (nat_lit 86) :: (nat_lit 87) :: (nat_lit 88) :: (nat_lit 90) :: (nat_lit 91) :: (nat_lit 93) :: (nat_lit 94) :: (nat_lit 95) :: (nat_lit 97) :: (nat_lit 98) :: (nat_lit 100) :: (nat_lit 101) :: (nat_lit 102) :: (nat_lit 104) :: (nat_lit 105) :: (nat_lit 107) :: (nat_lit 108) :: (nat_lit 109) :: (nat_lit 111) :: (nat_lit 112) :: (nat_lit 114) :: (nat_lit 115) :: (nat_lit 116) :: (nat_lit 118) :: (nat_lit 119) :: (nat_lit 121) :: (nat_lit 122) :: (nat_lit 123) :: (nat_lit 125) :: (nat_lit 126) :: (nat_lit 128) :: (nat_lit 129) :: (nat_lit 130) :: (nat_lit 132) :: (nat_lit 133) :: (nat_lit 135) :: (nat_lit 136) :: (nat_lit 144) :: (nat_lit 146) :: (nat_lit 147) :: (nat_lit 149) :: (nat_lit 150) :: (nat_lit 151) :: (nat_lit 152) :: (nat_lit 153) :: (nat_lit 154) :: (nat_lit 155) :: (nat_lit 165) :: (nat_lit 167) :: (nat_lit 168) :: (nat_lit 170) :: (nat_lit 171) :: (nat_lit 172) :: (nat_lit 174) :: (nat_lit 175) :: (nat_lit 177) :: (nat_lit 178) :: (nat_lit 179) :: (nat_lit 180) :: (nat_lit 181) :: (nat_lit 182) :: (nat_lit 183) :: (nat_lit 199) :: (nat_lit 200) :: (nat_lit 201) :: (nat_lit 203) :: (nat_lit 204) :: (nat_lit 206) :: (nat_lit 207) :: (nat_lit 208) :: (nat_lit 210) :: (nat_lit 211) :: (nat_lit 213) :: (nat_lit 214) :: (nat_lit 215) :: (nat_lit 217) :: (nat_lit 218) :: (nat_lit 220) :: (nat_lit 221) :: (nat_lit 222) :: (nat_lit 224) :: (nat_lit 225) :: (nat_lit 227) :: (nat_lit 228) :: (nat_lit 229) :: (nat_lit 231) :: (nat_lit 232) :: (nat_lit 234) :: (nat_lit 235) :: (nat_lit 236) :: (nat_lit 237) :: (nat_lit 239) :: (nat_lit 240) :: (nat_lit 242) :: (nat_lit 243) :: (nat_lit 244) :: (nat_lit 246) :: (nat_lit 247) :: (nat_lit 249) :: (nat_lit 250) :: (nat_lit 251) :: (nat_lit 253) :: (nat_lit 254) :: (nat_lit 256) :: (nat_lit 257) :: (nat_lit 258) :: (nat_lit 260) :: (nat_lit 261) :: (nat_lit 263) :: (nat_lit 264) :: (nat_lit 265) :: (nat_lit 268) :: (nat_lit 269) :: (nat_lit 270) :: (nat_lit 273) :: (nat_lit 274) :: (nat_lit 275) :: (nat_lit 277) :: (nat_lit 278) :: (nat_lit 280) :: (nat_lit 281) :: (nat_lit 282) :: (nat_lit 284) :: (nat_lit 285) :: (nat_lit 287) :: (nat_lit 288) :: (nat_lit 289) :: (nat_lit 291) :: (nat_lit 292) :: (nat_lit 294) :: (nat_lit 295) :: (nat_lit 296) :: (nat_lit 298) :: (nat_lit 299) :: (nat_lit 301) :: (nat_lit 302) :: (nat_lit 303) :: (nat_lit 305) :: (nat_lit 306) :: (nat_lit 308) :: (nat_lit 309) :: (nat_lit 310) :: (nat_lit 311) :: (nat_lit 312) :: (nat_lit 313) :: (nat_lit 314) :: (nat_lit 317) :: (nat_lit 319) :: (nat_lit 320) :: (nat_lit 322) :: (nat_lit 323) :: (nat_lit 324) :: (nat_lit 327) :: (nat_lit 328) :: (nat_lit 329) :: (nat_lit 331) :: (nat_lit 332) :: (nat_lit 334) :: (nat_lit 335) :: (nat_lit 336) :: (nat_lit 339) :: (nat_lit 340) :: (nat_lit 348) :: (nat_lit 349) :: (nat_lit 351) :: (nat_lit 352) :: (nat_lit 354) :: (nat_lit 355) :: (nat_lit 356) :: (nat_lit 358) :: (nat_lit 359) :: (nat_lit 361) :: (nat_lit 362) :: (nat_lit 363) :: (nat_lit 365) :: (nat_lit 366) :: (nat_lit 368) :: (nat_lit 369) :: (nat_lit 370) :: (nat_lit 372) :: (nat_lit 373) :: (nat_lit 375) :: (nat_lit 376) :: (nat_lit 377) :: (nat_lit 379) :: (nat_lit 380) :: (nat_lit 382) :: (nat_lit 383) :: (nat_lit 384) :: (nat_lit 386) :: (nat_lit 387) :: (nat_lit 389) :: (nat_lit 390) :: (nat_lit 391) :: (nat_lit 392) :: (nat_lit 393) :: (nat_lit 394) :: (nat_lit 395) :: (nat_lit 398) :: (nat_lit 400) :: (nat_lit 401) :: (nat_lit 403) :: (nat_lit 404) :: (nat_lit 405) :: (nat_lit 407) :: (nat_lit 408) :: (nat_lit 410) :: (nat_lit 411) :: (nat_lit 412) :: (nat_lit 414) :: (nat_lit 415) :: (nat_lit 417) :: (nat_lit 418) :: (nat_lit 419) :: (nat_lit 421) :: (nat_lit 422) :: (nat_lit 424) :: (nat_lit 425) :: (nat_lit 426) :: (nat_lit 429) :: (nat_lit 430) :: (nat_lit 431) :: (nat_lit 434) :: (nat_lit 435) :: []) hkH)) (Hook.keeps (kHook K ((nat_lit 2) :: (nat_lit 3) :: (nat_lit 15) :: (nat_lit 17) :: (nat_lit 18) :: (nat_lit 20) :: (nat_lit 21) :: (nat_lit 22) :: (nat_lit 29) :: (nat_lit 30) :: (nat_lit 31) :: (nat_lit 32) :: (nat_lit 35) :: (nat_lit 37) :: (nat_lit 38) :: (nat_lit 40) :: (nat_lit 41) :: (nat_lit 42) :: (nat_lit 44) :: (nat_lit 45) :: (nat_lit 47) :: (nat_lit 48) :: (nat_lit 49) :: (nat_lit 51) :: (nat_lit 52) :: (nat_lit 54) :: (nat_lit 55) :: (nat_lit 56) :: (nat_lit 57) :: (nat_lit 58) :: (nat_lit 60) :: (nat_lit 61) :: (nat_lit 63) :: (nat_lit 64) :: (nat_lit 65) :: (nat_lit 66) :: (nat_lit 68) :: (nat_lit 69) :: (nat_lit 71) :: (nat_lit 72) :: (nat_lit 73) :: (nat_lit 74) :: (nat_lit 76) :: (nat_lit 77) :: (nat_lit 79) :: (nat_lit 80) :: (nat_lit 81) :: (nat_lit 83) :: (nat_lit 84) :: (nat_lit 86) :: (nat_lit 87) :: (nat_lit 88) :: (nat_lit 90) :: (nat_lit 91) :: (nat_lit 93) :: (nat_lit 94) :: (nat_lit 95) :: (nat_lit 97) :: (nat_lit 98) :: (nat_lit 100) :: (nat_lit 101) :: (nat_lit 102) :: (nat_lit 104) :: (nat_lit 105) :: (nat_lit 107) :: (nat_lit 108) :: (nat_lit 109) :: (nat_lit 111) :: (nat_lit 112) :: (nat_lit 114) :: (nat_lit 115) :: (nat_lit 116) :: (nat_lit 118) :: (nat_lit 119) :: (nat_lit 121) :: (nat_lit 122) :: (nat_lit 123) :: (nat_lit 125) :: (nat_lit 126) :: (nat_lit 128) :: (nat_lit 129) :: (nat_lit 130) :: (nat_lit 132) :: (nat_lit 133) :: (nat_lit 135) :: (nat_lit 136) :: (nat_lit 144) :: (nat_lit 146) :: (nat_lit 147) :: (nat_lit 149) :: (nat_lit 150) :: (nat_lit 151) :: (nat_lit 152) :: (nat_lit 153) :: (nat_lit 154) :: (nat_lit 155) :: (nat_lit 165) :: (nat_lit 167) :: (nat_lit 168) :: (nat_lit 170) :: (nat_lit 171) :: (nat_lit 172) :: (nat_lit 174) :: (nat_lit 175) :: (nat_lit 177) :: (nat_lit 178) :: (nat_lit 179) :: (nat_lit 180) :: (nat_lit 181) :: (nat_lit 182) :: (nat_lit 183) :: (nat_lit 199) :: (nat_lit 200) :: (nat_lit 201) :: (nat_lit 203) :: (nat_lit 204) :: (nat_lit 206) :: (nat_lit 207) :: (nat_lit 208) :: (nat_lit 210) :: (nat_lit 211) :: (nat_lit 213) :: (nat_lit 214) :: (nat_lit 215) :: (nat_lit 217) :: (nat_lit 218) :: (nat_lit 220) :: (nat_lit 221) :: (nat_lit 222) :: (nat_lit 224) :: (nat_lit 225) :: (nat_lit 227) :: (nat_lit 228) :: (nat_lit 229) :: (nat_lit 231) :: (nat_lit 232) :: (nat_lit 234) :: (nat_lit 235) :: (nat_lit 236) :: (nat_lit 237) :: (nat_lit 239) :: (nat_lit 240) :: (nat_lit 242) :: (nat_lit 243) :: (nat_lit 244) :: (nat_lit 246) :: (nat_lit 247) :: (nat_lit 249) :: (nat_lit 250) :: (nat_lit 251) :: (nat_lit 253) :: (nat_lit 254) :: (nat_lit 256) :: (nat_lit 257) :: (nat_lit 258) :: (nat_lit 260) :: (nat_lit 261) :: (nat_lit 263) :: (nat_lit 264) :: (nat_lit 265) :: (nat_lit 268) :: (nat_lit 269) :: (nat_lit 270) :: (nat_lit 273) :: (nat_lit 274) :: (nat_lit 275) :: (nat_lit 277) :: (nat_lit 278) :: (nat_lit 280) :: (nat_lit 281) :: (nat_lit 282) :: (nat_lit 284) :: (nat_lit 285) :: (nat_lit 287) :: (nat_lit 288) :: (nat_lit 289) :: (nat_lit 291) :: (nat_lit 292) :: (nat_lit 294) :: (nat_lit 295) :: (nat_lit 296) :: (nat_lit 298) :: (nat_lit 299) :: (nat_lit 301) :: (nat_lit 302) :: (nat_lit 303) :: (nat_lit 305) :: (nat_lit 306) :: (nat_lit 308) :: (nat_lit 309) :: (nat_lit 310) :: (nat_lit 311) :: (nat_lit 312) :: (nat_lit 313) :: (nat_lit 314) :: (nat_lit 317) :: (nat_lit 319) :: (nat_lit 320) :: (nat_lit 322) :: (nat_lit 323) :: (nat_lit 324) :: (nat_lit 327) :: (nat_lit 328) :: (nat_lit 329) :: (nat_lit 331) :: (nat_lit 332) :: (nat_lit 334) :: (nat_lit 335) :: (nat_lit 336) :: (nat_lit 339) :: (nat_lit 340) :: (nat_lit 348) :: (nat_lit 349) :: (nat_lit 351) :: (nat_lit 352) :: (nat_lit 354) :: (nat_lit 355) :: (nat_lit 356) :: (nat_lit 358) :: (nat_lit 359) :: (nat_lit 361) :: (nat_lit 362) :: (nat_lit 363) :: (nat_lit 365) :: (nat_lit 366) :: (nat_lit 368) :: (nat_lit 369) :: (nat_lit 370) :: (nat_lit 372) :: (nat_lit 373) :: (nat_lit 375) :: (nat_lit 376) :: (nat_lit 377) :: (nat_lit 379) :: (nat_lit 380) :: (nat_lit 382) :: (nat_lit 383) :: (nat_lit 384) :: (nat_lit 386) :: (nat_lit 387) :: (nat_lit 389) :: (nat_lit 390) :: (nat_lit 391) :: (nat_lit 392) :: (nat_lit 393) :: (nat_lit 394) :: (nat_lit 395) :: (nat_lit 398) :: (nat_lit 400) :: (nat_lit 401) :: (nat_lit 403) :: (nat_lit 404) :: (nat_lit 405) :: (nat_lit 407) :: (nat_lit 408) :: (nat_lit 410) :: (nat_lit 411) :: (nat_lit 412) :: (nat_lit 414) :: (nat_lit 415) :: (nat_lit 417) :: (nat_lit 418) :: (nat_lit 419) :: (nat_lit 421) :: (nat_lit 422) :: (nat_lit 424) :: (nat_lit 425) :: (nat_lit 426) :: (nat_lit 429) :: (nat_lit 430) :: (nat_lit 431) :: (nat_lit 434) :: (nat_lit 435) :: []) hkH)) (fun s e => xl_of s (Bool.and_eq_true_iff.mp e).1) XL.keeps ?hdef ?hp ?hk (fun s e => recFacts_of (Bool.and_eq_true_iff.mp e).2) ?wr said okH ⟨rfl, rfl, rfl, rfl, rfl, by decide +kernel⟩ ?hw walk
  case hdef => kernel_rfl!
  case hp => kernel_rfl!
  case hk => kernel_rfl!
  case wr => rfl
  case hw => w_witness2
end HD

local macro_rules | `(tactic| walk_at $s:str) => `(tactic| k_extra $s)
local macro_rules | `(tactic| k_in) => `(tactic| k_extra "k_in")
local macro_rules | `(tactic| bits_by_make) => `(tactic| k_extra "bits_by_make")
local macro_rules | `(tactic| ktr_units) => `(tactic| k_extra "ktr_units")
local macro_rules | `(tactic| size_fits) => `(tactic| k_extra "size_fits")
local macro_rules | `(tactic| k_mem) => `(tactic| k_extra "k_mem")
local macro_rules | `(tactic| k_ne) => `(tactic| k_extra "k_ne")
local macro_rules | `(tactic| k_all) => `(tactic| k_extra "k_all")
local macro_rules | `(tactic| kc_close) => `(tactic| k_extra "kc_close")
local macro_rules | `(tactic| wrow_close) => `(tactic| k_extra "wrow_close")
local macro_rules | `(tactic| walk_at "st") => `(tactic| (intro p9 hp9; first | exact hp9 | exact absurd hp9 List.not_mem_nil | (repeat (first | exact hp9 | refine List.mem_cons_of_mem _ ?_))))
local macro_rules | `(tactic| walk_at "sx") => `(tactic| (intro p9 hp9; first | ((repeat (first | exact hp9 | exact List.mem_append_left _ hp9 | exact List.mem_append_right _ hp9 | refine List.mem_cons_of_mem _ ?_)); done) | (simp only [List.mem_cons, List.mem_append]; simp only [hp9, true_or, or_true])))
local macro_rules | `(tactic| walk_at "ne9") => `(tactic| (first | with_reducible assumption | exact Ne.symm (by with_reducible assumption) | omega))
set_option hygiene false in
local macro_rules | `(tactic| walk_at "en0") => `(tactic| ((case kA | kF => exact rfl); (case kK => assumption); (case k1 | k2 | k3 | k4 | k5 => k_asm); (case k6 | k7 => k_is); (case k8 => ktr_room); (case k9 => first | exact BindsTo.of_eq rfl | exact binds_K (by k_in) rfl (by k_is) rfl rfl rfl); (case c5 => decide); (case kB => exact locs rfl)))
set_option hygiene false in
local macro_rules | `(tactic| walk_at "en1") => `(tactic| ((case c2 | c3 | c4 => exact rfl); k_whole; intro g' L' h' tk0 FG' F' N' B' X' T' hG'; (try dsimp only); (try k_fold)))
section V9
variable {p : Program} {loose : List Str} {mean : ExcName → Option Value} {mg mb : Str → Option Value} {dp un : Nat} {gd : Option (List Code)} {cn : Str} {cs : Scope} {ccd : Value} {cl : List (Str × Addr)} {outer : List Env}
namespace Mine
theorem cC9 {α : Type} {a b : α} {l : List α} (h : a ∈ l) : a ∈ b :: l := List.mem_cons_of_mem _ h
theorem cS9 {α : Type} {a : α} {l : List α} : a ∈ a :: l := List.mem_cons_self
theorem aL0 {α : Type} {a : α} {l l' : List α} (h : a ∈ l) : a ∈ l ++ l' := List.mem_append_left _ h
theorem aR0 {α : Type} {a : α} {l l' : List α} (h : a ∈ l') : a ∈ l ++ l' := List.mem_append_right _ h
theorem m1K {α : Type} {a0 a1 : α} {l : List α} : a1 ∈ a0 :: a1 :: l := by simp
theorem m2K {α : Type} {a0 a1 a2 : α} {l : List α} : a2 ∈ a0 :: a1 :: a2 :: l := by simp
theorem n2K {α : Type} {a b0 b1 : α} {l : List α} (h : a ∈ l) : a ∈ b0 :: b1 :: l := by simp [h]
theorem m3K {α : Type} {a0 a1 a2 a3 : α} {l : List α} : a3 ∈ a0 :: a1 :: a2 :: a3 :: l := by simp
theorem n3K {α : Type} {a b0 b1 b2 : α} {l : List α} (h : a ∈ l) : a ∈ b0 :: b1 :: b2 :: l := by simp [h]
theorem m4K {α : Type} {a0 a1 a2 a3 a4 : α} {l : List α} : a4 ∈ a0 :: a1 :: a2 :: a3 :: a4 :: l := by simp
theorem n4K {α : Type} {a b0 b1 b2 b3 : α} {l : List α} (h : a ∈ l) : a ∈ b0 :: b1 :: b2 :: b3 :: l := by simp [h]
theorem m5K {α : Type} {a0 a1 a2 a3 a4 a5 : α} {l : List α} : a5 ∈ a0 :: a1 :: a2 :: a3 :: a4 :: a5 :: l := by simp
theorem n5K {α : Type} {a b0 b1 b2 b3 b4 : α} {l : List α} (h : a ∈ l) : a ∈ b0 :: b1 :: b2 :: b3 :: b4 :: l := by simp [h]
theorem m6K {α : Type} {a0 a1 a2 a3 a4 a5 a6 : α} {l : List α} : a6 ∈ a0 :: a1 :: a2 :: a3 :: a4 :: a5 :: a6 :: l := by simp
theorem n6K {α : Type} {a b0 b1 b2 b3 b4 b5 : α} {l : List α} (h : a ∈ l) : a ∈ b0 :: b1 :: b2 :: b3 :: b4 :: b5 :: l := by simp [h]
theorem m7K {α : Type} {a0 a1 a2 a3 a4 a5 a6 a7 : α} {l : List α} : a7 ∈ a0 :: a1 :: a2 :: a3 :: a4 :: a5 :: a6 :: a7 :: l := by simp
theorem n7K {α : Type} {a b0 b1 b2 b3 b4 b5 b6 : α} {l : List α} (h : a ∈ l) : a ∈ b0 :: b1 :: b2 :: b3 :: b4 :: b5 :: b6 :: l := by simp [h]
theorem m8K {α : Type} {a0 a1 a2 a3 a4 a5 a6 a7 a8 : α} {l : List α} : a8 ∈ a0 :: a1 :: a2 :: a3 :: a4 :: a5 :: a6 :: a7 :: a8 :: l := by simp
theorem n8K {α : Type} {a b0 b1 b2 b3 b4 b5 b6 b7 : α} {l : List α} (h : a ∈ l) : a ∈ b0 :: b1 :: b2 :: b3 :: b4 :: b5 :: b6 :: b7 :: l := by simp [h]
theorem m9K {α : Type} {a0 a1 a2 a3 a4 a5 a6 a7 a8 a9 : α} {l : List α} : a9 ∈ a0 :: a1 :: a2 :: a3 :: a4 :: a5 :: a6 :: a7 :: a8 :: a9 :: l := by simp
theorem n9K {α : Type} {a b0 b1 b2 b3 b4 b5 b6 b7 b8 : α} {l : List α} (h : a ∈ l) : a ∈ b0 :: b1 :: b2 :: b3 :: b4 :: b5 :: b6 :: b7 :: b8 :: l := by simp [h]
theorem m10K {α : Type} {a0 a1 a2 a3 a4 a5 a6 a7 a8 a9 a10 : α} {l : List α} : a10 ∈ a0 :: a1 :: a2 :: a3 :: a4 :: a5 :: a6 :: a7 :: a8 :: a9 :: a10 :: l := by simp
theorem n10K {α : Type} {a b0 b1 b2 b3 b4 b5 b6 b7 b8 b9 : α} {l : List α} (h : a ∈ l) : a ∈ b0 :: b1 :: b2 :: b3 :: b4 :: b5 :: b6 :: b7 :: b8 :: b9 :: l := by simp [h]
theorem m11K {α : Type} {a0 a1 a2 a3 a4 a5 a6 a7 a8 a9 a10 a11 : α} {l : List α} : a11 ∈ a0 :: a1 :: a2 :: a3 :: a4 :: a5 :: a6 :: a7 :: a8 :: a9 :: a10 :: a11 :: l := by simp
theorem n11K {α : Type} {a b0 b1 b2 b3 b4 b5 b6 b7 b8 b9 b10 : α} {l : List α} (h : a ∈ l) : a ∈ b0 :: b1 :: b2 :: b3 :: b4 :: b5 :: b6 :: b7 :: b8 :: b9 :: b10 :: l := by simp [h]
theorem m12K {α : Type} {a0 a1 a2 a3 a4 a5 a6 a7 a8 a9 a10 a11 a12 : α} {l : List α} : a12 ∈ a0 :: a1 :: a2 :: a3 :: a4 :: a5 :: a6 :: a7 :: a8 :: a9 :: a10 :: a11 :: a12 :: l := by simp
theorem n12K {α : Type} {a b0 b1 b2 b3 b4 b5 b6 b7 b8 b9 b10 b11 : α} {l : List α} (h : a ∈ l) : a ∈ b0 :: b1 :: b2 :: b3 :: b4 :: b5 :: b6 :: b7 :: b8 :: b9 :: b10 :: b11 :: l := by simp [h]
theorem m13K {α : Type} {a0 a1 a2 a3 a4 a5 a6 a7 a8 a9 a10 a11 a12 a13 : α} {l : List α} : a13 ∈ a0 :: a1 :: a2 :: a3 :: a4 :: a5 :: a6 :: a7 :: a8 :: a9 :: a10 :: a11 :: a12 :: a13 :: l := by simp
theorem n13K {α : Type} {a b0 b1 b2 b3 b4 b5 b6 b7 b8 b9 b10 b11 b12 : α} {l : List α} (h : a ∈ l) : a ∈ b0 :: b1 :: b2 :: b3 :: b4 :: b5 :: b6 :: b7 :: b8 :: b9 :: b10 :: b11 :: b12 :: l := by simp [h]
abbrev dN9 (P : Params) (k0 k1 k2 k3 k4 k5 : Tok) (v0 v1 v2 v3 v4 v5 : Value) : Obj := dictOf [⟨PyData.keyHash P (Str.ofString "ground"), .str (Str.ofString "ground") k0, v0⟩, ⟨PyData.keyHash P (Str.ofString "joints"), .str (Str.ofString "joints") k1, v1⟩, ⟨PyData.keyHash P (Str.ofString "source"), .str (Str.ofString "source") k2, v2⟩, ⟨PyData.keyHash P (Str.ofString "pipes"), .str (Str.ofString "pipes") k3, v3⟩, ⟨PyData.keyHash P (Str.ofString "consumers"), .str (Str.ofString "consumers") k4, v4⟩, ⟨PyData.keyHash P (Str.ofString "bypasses"), .str (Str.ofString "bypasses") k5, v5⟩] 6
abbrev dP9 (P : Params) (k0 k1 k2 k3 k4 k5 k6 k7 : Tok) (v0 v1 v2 v3 v4 v5 v6 v7 : Value) : Obj := dictOf [⟨PyData.keyHash P (Str.ofString "name"), .str (Str.ofString "name") k0, v0⟩, ⟨PyData.keyHash P (Str.ofString "start"), .str (Str.ofString "start") k1, v1⟩, ⟨PyData.keyHash P (Str.ofString "end"), .str (Str.ofString "end") k2, v2⟩, ⟨PyData.keyHash P (Str.ofString "length"), .str (Str.ofString "length") k3, v3⟩, ⟨PyData.keyHash P (Str.ofString "resistance"), .str (Str.ofString "resistance") k4, v4⟩, ⟨PyData.keyHash P (Str.ofString "loss"), .str (Str.ofString "loss") k5, v5⟩, ⟨PyData.keyHash P (Str.ofString "litres"), .str (Str.ofString "litres") k6, v6⟩, ⟨PyData.keyHash P (Str.ofString "open"), .str (Str.ofString "open") k7, v7⟩] 8
abbrev dC9 (P : Params) (k0 k1 k2 k3 k4 : Tok) (v0 v1 v2 v3 v4 : Value) : Obj := dictOf [⟨PyData.keyHash P (Str.ofString "name"), .str (Str.ofString "name") k0, v0⟩, ⟨PyData.keyHash P (Str.ofString "joint"), .str (Str.ofString "joint") k1, v1⟩, ⟨PyData.keyHash P (Str.ofString "demands"), .str (Str.ofString "demands") k2, v2⟩, ⟨PyData.keyHash P (Str.ofString "drop"), .str (Str.ofString "drop") k3, v3⟩, ⟨PyData.keyHash P (Str.ofString "least"), .str (Str.ofString "least") k4, v4⟩] 5
theorem fcons {α : Type} {P : α → Prop} {a : α} {l : List α} (h : P a) (k : ∀ x ∈ l, P x) : ∀ x ∈ a :: l, P x := fun x hx => by
  cases hx with
  | head => exact h
  | tail _ h2 => exact k x h2

theorem un1 {a b d e : Nat} (h : a + e < d) (hb : b ≤ e) : a + b < d := by omega
theorem un2 {a b c d e : Nat} (h : a + e < d) (hb : b + c ≤ e) : a + b + c < d := by omega
theorem un3 {a b c f d e : Nat} (h : a + e < d) (hb : b + c + f ≤ e) : a + b + c + f < d := by omega
end Mine
open Mine
local macro_rules | `(tactic| ktr_units) => `(tactic| ((try simp only [units_under_make, units_in1, units_deeper, Around.mark_units, units_caller]); (try dsimp only [ktrTop]); first | exact un1 (by with_reducible assumption) (Nat.le_of_ble_eq_true rfl) | exact un2 (by with_reducible assumption) (Nat.le_of_ble_eq_true rfl) | exact un3 (by with_reducible assumption) (Nat.le_of_ble_eq_true rfl) | (have hcL9 := cLine_is; omega)))
namespace Mine
theorem in_of {K : Frag} {h₀ h : Heap} {L : Addr} {m : Str → Option Value} (F : Fr h₀ L h m) (X : K.In h₀) : K.In h := X.keeps F.keep
def restOf (news need : List (Addr × Obj)) : List (Addr × Obj) := news.filter fun p => !(need.map (·.1)).contains p.1
theorem mem_rest {news need : List (Addr × Obj)} {p : Addr × Obj} (h : p ∈ news) (hn : p.1 ∉ need.map (·.1)) : p ∈ restOf news need :=
  List.mem_filter.mpr ⟨h, by simpa [List.contains_iff_mem] using hn⟩
theorem rest_mem {news need : List (Addr × Obj)} {p : Addr × Obj} (h : p ∈ restOf news need) : p ∈ news ∧ p.1 ∉ need.map (·.1) := by
  obtain ⟨h1, h2⟩ := List.mem_filter.mp h
  exact ⟨h1, by simpa [List.contains_iff_mem] using h2⟩
theorem mem_rest0 {news : List (Addr × Obj)} {p : Addr × Obj} (h : p ∈ news) : p ∈ restOf news [] := mem_rest h (by simp)
def LeaveN (h₀ : Heap) (L : Addr) (m : Str → Option Value) (g : Heap) (news need : List (Addr × Obj)) (R : Result → Shared → Prop) (v : Value) (s' : Shared) : Prop :=
  ∃ L' m' news', Fr g L' s'.heap m' ∧ News g L' s'.heap news' ∧ (Fr h₀ L s'.heap m → News h₀ L s'.heap news' → News h₀ L s'.heap (restOf news need) → (∀ p ∈ restOf news need, ∀ q ∈ news', p.1 ≠ q.1) → R (.ok (.ret v)) s')
theorem leaveN_ {h₀ g : Heap} {L L' : Addr} {m m' : Str → Option Value} {news need news' : List (Addr × Obj)} {R : Result → Shared → Prop} {v : Value} {s' : Shared} (F' : Fr g L' s'.heap m') (N' : News g L' s'.heap news')
    (k : Fr h₀ L s'.heap m → News h₀ L s'.heap news' → News h₀ L s'.heap (restOf news need) → (∀ p ∈ restOf news need, ∀ q ∈ news', p.1 ≠ q.1) → R (.ok (.ret v)) s') : LeaveN h₀ L m g news need R v s' := ⟨L', m', news', F', N', k⟩
theorem leaveN_K {h₀ h g : Heap} {L : Addr} {m : Str → Option Value} {news need : List (Addr × Obj)} {R : Result → Shared → Prop} {v : Value} {s' : Shared} (N : News h₀ L h news) (hg : g = hideAll h (need.map (·.1)))
    (hl : LeaveN h₀ L m g news need R v s') : LeaveK h₀ L m g R v s' := by
  obtain ⟨L', m', news', F', N', k⟩ := hl
  have keep : ∀ p ∈ restOf news need, g.get? p.1 = some p.2 := fun p hp => by
    obtain ⟨h1, h2⟩ := rest_mem hp
    rw [hg]
    exact hideAll_get _ (N p h1).1 h2
  refine ⟨L', m', news', F', N', fun a b => k a b (fun p hp => ⟨F'.keep _ _ (keep p hp), (N p (rest_mem hp).1).2⟩) fun p hp q hq e => ?_⟩
  have h1 := keep p hp
  rw [e, (N' q hq).2.2] at h1
  cases h1
theorem news_back {h₀ h h' : Heap} {L : Addr} {news need full : List (Addr × Obj)} (N : News h₀ L h news) (hn : ∀ p ∈ need, p ∈ news) (N1 : News h₀ L h' full) (hf : ∀ p ∈ need, p ∈ full)
    (N2 : News h₀ L h' (restOf news need)) : News h₀ L h' news := by
  intro p hp
  by_cases q : p.1 ∈ need.map (·.1)
  · obtain ⟨p', hp', e⟩ := List.mem_map.mp q
    have h1 := (N p' (hn p' hp')).1
    have h2 := (N p hp).1
    rw [e, h2] at h1
    have : p = p' := Prod.ext e.symm (Option.some.inj h1)
    rw [this]
    exact N1 _ (hf _ hp')
  · exact N2 p (mem_rest hp q)
theorem news_all {h₀ h' : Heap} {L : Addr} {news : List (Addr × Obj)} (N2 : News h₀ L h' (restOf news [])) : News h₀ L h' news := fun p hp => N2 p (mem_rest0 hp)
theorem news_cons {h₀ h' : Heap} {L : Addr} {news : List (Addr × Obj)} {p : Addr × Obj} {full : List (Addr × Obj)} (N1 : News h₀ L h' full) (hp : p ∈ full) (N : News h₀ L h' news) : News h₀ L h' (p :: news) := by
  intro q hq
  rcases List.mem_cons.mp hq with rfl | hq
  · exact N1 _ hp
  · exact N q hq
theorem rest_two {news : List (Addr × Obj)} {x d : Addr} {ox od : Obj} (l0 : ∀ p ∈ news, p.1 < d) (l00 : d < x) {p : Addr × Obj} (hp : p ∈ news) : p ∈ restOf ((x, ox) :: (d, od) :: news) [(x, ox), (d, od)] := by
  refine mem_rest (cC9 (cC9 hp)) ?_
  have h1 := l0 p hp
  simp only [List.map_cons, List.map_nil, List.mem_cons, List.not_mem_nil, or_false, not_or]
  exact ⟨Nat.ne_of_lt (Nat.lt_trans h1 l00), Nat.ne_of_lt h1⟩
theorem ne_all {news full : List (Addr × Obj)} {q : Addr × Obj} (hd : ∀ p ∈ restOf news [], ∀ q ∈ full, p.1 ≠ q.1) (hq : q ∈ full) : ∀ p ∈ news, p.1 ≠ q.1 := fun p hp => hd p (mem_rest0 hp) q hq
def AllNe (d : Nat) : List (Addr × Obj) → Prop
  | [] => True
  | p :: r => (@Ne Nat p.1 d) ∧ AllNe d r
theorem allNe_of {d : Addr} : ∀ {l : List (Addr × Obj)}, (∀ p ∈ l, p.1 ≠ d) → AllNe d l
  | [], _ => trivial
  | p :: _, h => ⟨h p (.head _), allNe_of fun q hq => h q (.tail _ hq)⟩
section
variable {prog : Program} {w : World} {A A₀ : Around} {s : Shared} {K : Frag} {L : Addr} {h₀ base : Heap} {m mg mb : Str → Option Value} {news : List (Addr × Obj)} {p : Program} {loose : List Str} {mean : ExcName → Option Value}
theorem code_need (need : List (Addr × Obj)) {env : Env} {outer : List Env} {R : Result → Shared → Prop} {name qual : Str} {params : Arguments} {body : List Stmt} {scope : Scope} {dV kV doc pm cdv ct oc : Value} {an od : Option Addr} {osl : Array (Option Value)} {f : Addr} {args : Args} {binds : List (Str × Value)}
    (B : Below A₀ base outer h₀) (F : Fr h₀ L s.heap m) (X₀ : K.In h₀) (N : News h₀ L s.heap news) (T : Top p loose mean mg mb h₀) (hA : A.frames = some (env :: outer)) (hf : env.frame = some L) (hke : env.scope.kind = .function)
    (ho : K.lookup f = some ⟨oc, od, .func (fnOf name qual params body scope dV kV doc pm an cdv ct), osl⟩) (hcd : codeIn K cdv qual = true) (hroom : A.depth < recursionLimit)
    (hbind : BindsTo s (fnOf name qual params body scope dV kV doc pm an cdv ct) args binds) (hloc : ∀ y ∈ binds, scope.names.lookup y.1 = some .local) (hn : ∀ p ∈ need, p ∈ news)
    (h : ∀ g L' h₁ tk, Fr h₀ L g m → Fr g L' h₁ (fun y => binds.reverse.lookup y) → News g L' h₁ need → Below A base (env :: outer) g → K.In g → Top p loose mean mg mb g → (∀ b o, s.heap.get? b = some o → b ∉ need.map (·.1) → g.get? b = some o) →
      wpAny (model prog w) (A.deeper (envOf qual scope L' f cdv)) (execs body (envOf qual scope L' f cdv))
        (fun fl s' => LeaveN h₀ L m g news need R (match fl with | .ret v => v | _ => .none) s')
        (fun e s' => wpAny (model prog w) (A.deeper (envOf qual scope L' f cdv)) (leaving (envOf qual scope L' f cdv) e) (fun _ s'' => R (.error e) s'') (fun e' s'' => R (.error e') s'') s')
        { s with heap := h₁, toks := tk })
    (hco : scope.isCoroutine = false) (hgen : scope.isGenerator = false) (hk : scope.kind = .function)
    (hcell : ∀ x ∈ scope.names, x.2 ≠ .cell) : codeAny (model prog w) A (.call (.ref f) args) R s := by
  have N0 : News h₀ L s.heap need := fun p hp => N p (hn p hp)
  obtain ⟨FG, BG, st, lv⟩ := groundX (R := R) B F N0 hA hf hke
  refine codeAny_call_def (fd := fnOf name qual params body scope dV kV doc pm an cdv ct) (body := body) (binds := binds) hroom ((X₀.keeps F.keep) _ _ ho) rfl (T.nolimit.keeps F.keep) (codeRec_of (X₀.keeps F.keep) hcd) rfl hbind hcell hloc (fun h₁ hns hk₁ => ?_) hco hgen hk
  exact wpAny_mono (h _ s.heap.objs.size h₁ _ FG ⟨hns, fun b o e => hk₁ b o (of_hideAll _ e), Nat.le_of_eq (hideAll_size _ _)⟩
    (fun p hp => ⟨hk₁ _ _ (N0 p hp).1, Nat.ne_of_lt (Heap.lt_size (N0 p hp).1), hideAll_none _ (List.mem_map_of_mem hp)⟩) BG (X₀.keeps st) (T.keeps st) (fun b o e n => hideAll_get _ e n)) (fun fl s' hl => lv _ _ (leaveN_K N rfl hl)) fun _ _ y => y
theorem code_needC (need : List (Addr × Obj)) {env : Env} {outer : List Env} {R : Result → Shared → Prop} {name qual : Str} {params : Arguments} {body : List Stmt} {scope : Scope} {dV kV doc pm cdv ct oc : Value} {an od : Option Addr} {osl : Array (Option Value)} {f : Addr} {args : Args} {binds : List (Str × Value)}
    (B : Below A₀ base outer h₀) (F : Fr h₀ L s.heap m) (X₀ : K.In h₀) (N : News h₀ L s.heap news) (T : Top p loose mean mg mb h₀) (hA : A.frames = some (env :: outer)) (hf : env.frame = some L) (hke : env.scope.kind = .function)
    (ho : K.lookup f = some ⟨oc, od, .func (fnOf name qual params body scope dV kV doc pm an cdv ct), osl⟩) (hcd : codeIn K cdv qual = true) (hroom : A.depth < recursionLimit)
    (hbind : BindsTo s (fnOf name qual params body scope dV kV doc pm an cdv ct) args binds) (hkind : (binds.all fun y => scope.names.lookup y.1 == some .local || scope.names.lookup y.1 == some .cell) = true)
    (hnd : ((cellsFrom 0 scope.names []).map (·.1)).Nodup) (hn : ∀ p ∈ need, p ∈ news)
    (h : ∀ g L' h₁ tk cells, Fr h₀ L g m → Fr g L' h₁ (bindL (envOfC qual scope L' f cdv).kindOf binds fun _ => none) → News g L' h₁ (cells ++ need) →
      CellsAre (bindC (envOfC qual scope L' f cdv).kindOf binds fun _ => none) (cellsFrom (L' + 1) scope.names []) cells → Below A base (env :: outer) g → K.In g → Top p loose mean mg mb g → (∀ p ∈ need, p.1 < L') → (∀ b o, s.heap.get? b = some o → b ∉ need.map (·.1) → g.get? b = some o) →
      wpAny (model prog w) (A.deeper (envOfC qual scope L' f cdv)) (execs body (envOfC qual scope L' f cdv))
        (fun fl s' => LeaveN h₀ L m g news need R (match fl with | .ret v => v | _ => .none) s')
        (fun e s' => wpAny (model prog w) (A.deeper (envOfC qual scope L' f cdv)) (leaving (envOfC qual scope L' f cdv) e) (fun _ s'' => R (.error e) s'') (fun e' s'' => R (.error e') s'') s')
        { s with heap := h₁, toks := tk })
    (hco : scope.isCoroutine = false) (hgen : scope.isGenerator = false) (hk : scope.kind = .function) : codeAny (model prog w) A (.call (.ref f) args) R s := by
  have N0 : News h₀ L s.heap need := fun p hp => N p (hn p hp)
  obtain ⟨FG, BG, st, lv⟩ := groundX (R := R) B F N0 hA hf hke
  refine codeAny_call_function hroom ((X₀.keeps F.keep) _ _ ho) rfl hco hgen rfl (codeRec_of (X₀.keeps F.keep) hcd) (hbind _ _ _ _ ?_)
  refine wpAny_newFunctionEnv_cells hk (kindsX hkind _) fun env' he s' x => ?_
  subst he
  refine ⟨(T.nolimit.keeps F.keep).keeps x.toInCall.keep, codeAny_func ?_⟩
  obtain ⟨h₁, tk, rfl, _⟩ := x.done
  have hk₁ := x.toInCall.keep
  obtain ⟨cells, NC, Y⟩ := Cl.news (h₀ := s.heap) (Nat.le_refl _) fun n c hm => ⟨x.cell n c (lookup_of_mem_nodup (cellsFrom_names scope.names 0 (s.heap.objs.size + 1) [] [] rfl ▸ hnd) hm), x.above n c hm⟩
  refine wpAny_mono (h _ s.heap.objs.size h₁ tk cells FG ⟨x.toInCall.ns, fun b o e => hk₁ b o (of_hideAll _ e), Nat.le_of_eq (hideAll_size _ _)⟩ (fun p hp => ?_) Y BG (X₀.keeps st) (T.keeps st) (fun p hp => Heap.lt_size (N0 p hp).1) (fun b o e n => hideAll_get _ e n)) (fun fl s' hl => lv _ _ (leaveN_K N rfl hl)) fun _ _ y => y
  rcases List.mem_append.mp hp with hp | hp
  · refine ⟨(NC p hp).1, (NC p hp).2.1, ?_⟩
    cases q : (hideAll s.heap (need.map (·.1))).get? p.1 with
    | none => rfl
    | some o => have := of_hideAll _ q; rw [(NC p hp).2.2] at this; cases this
  · exact ⟨hk₁ _ _ (N0 p hp).1, Nat.ne_of_lt (Heap.lt_size (N0 p hp).1), hideAll_none _ (List.mem_map_of_mem hp)⟩
end
theorem news_upd2 {h₀ h h' : Heap} {L x d l : Addr} {ox od od' ol ol' : Obj} {news news1 full : List (Addr × Obj)} {g1 : Obj → List (Addr × Obj)} (N : News h₀ L h news) (ex : (x, ox) ∈ news) (U2 : Upd d od od' news news1) (U1 : UpdF l ol news1 g1)
    (N1 : News h₀ L h' full) (fx : (x, ox) ∈ full) (fd : (d, od') ∈ full) (fl : (l, ol') ∈ full) (kR : News h₀ L h' (restOf news [(x, ox), (d, od), (l, ol)])) : News h₀ L h' (g1 ol') := by
  obtain ⟨p1, q1, e1, e1', a1, b1⟩ := U2.split
  obtain ⟨p2, q2, e2, e2', a2, b2⟩ := U1.split
  intro p hp
  rw [e2'] at hp
  have main : p = (l, ol') ∨ (p ∈ news1 ∧ p.1 ≠ l) := by
    rcases List.mem_append.mp hp with h | h
    · exact .inr ⟨by rw [e2]; exact List.mem_append.mpr (.inl h), a2 p h⟩
    · rcases List.mem_cons.mp h with h | h
      · exact .inl h
      · exact .inr ⟨by rw [e2]; exact List.mem_append.mpr (.inr (cC9 h)), b2 p h⟩
  rcases main with rfl | ⟨hp, hl⟩
  · exact N1 _ fl
  rw [e1'] at hp
  have main2 : p = (d, od') ∨ (p ∈ news ∧ p.1 ≠ d) := by
    rcases List.mem_append.mp hp with h | h
    · exact .inr ⟨by rw [e1]; exact List.mem_append.mpr (.inl h), a1 p h⟩
    · rcases List.mem_cons.mp h with h | h
      · exact .inl h
      · exact .inr ⟨by rw [e1]; exact List.mem_append.mpr (.inr (cC9 h)), b1 p h⟩
  rcases main2 with rfl | ⟨hp, hd⟩
  · exact N1 _ fd
  by_cases hx : p.1 = x
  · have h1 := (N p hp).1
    have h2 := (N _ ex).1
    rw [hx, h2] at h1
    have : p = (x, ox) := Prod.ext hx (Option.some.inj h1).symm
    rw [this]
    exact N1 _ fx
  · exact kR p (mem_rest hp (by simp only [List.map_cons, List.map_nil, List.mem_cons, List.not_mem_nil, or_false, not_or]; exact ⟨hx, hd, hl⟩))
theorem ne_three {news full : List (Addr × Obj)} {x d l : Addr} {ox od ol : Obj} {q : Addr × Obj} (kD : ∀ p ∈ restOf news [(x, ox), (d, od), (l, ol)], ∀ q ∈ full, p.1 ≠ q.1) (hq : q ∈ full) (hx : x ≠ q.1) (hd : d ≠ q.1) (hl : l ≠ q.1) : ∀ p ∈ news, p.1 ≠ q.1 := by
  intro p hp
  by_cases h1 : p.1 = x
  · rw [h1]; exact hx
  by_cases h2 : p.1 = d
  · rw [h2]; exact hd
  by_cases h3 : p.1 = l
  · rw [h3]; exact hl
  exact kD p (mem_rest hp (by simp only [List.map_cons, List.map_nil, List.mem_cons, List.not_mem_nil, or_false, not_or]; exact ⟨h1, h2, h3⟩)) q hq
theorem three_in {news : List (Addr × Obj)} {a b c : Addr × Obj} (h1 : a ∈ news) (h2 : b ∈ news) (h3 : c ∈ news) : ∀ p ∈ [a, b, c], p ∈ news :=
  fcons h1 (fcons h2 (fcons h3 (List.forall_mem_nil _)))
theorem Upd.mem {d : Addr} {o o' : Obj} {l l' : List (Addr × Obj)} (U : Upd d o o' l l') : (d, o) ∈ l := by
  obtain ⟨p, q, e, _, _, _⟩ := U.split; rw [e]; exact List.mem_append.mpr (.inr (.head _))
theorem Upd.other {d : Addr} {o o' : Obj} {l l' : List (Addr × Obj)} (U : Upd d o o' l l') {p : Addr × Obj} (h : p ∈ l') (hd : p.1 ≠ d) : p ∈ l := by
  obtain ⟨p1, q1, e1, e1', _, _⟩ := U.split
  rw [e1'] at h; rw [e1]
  rcases List.mem_append.mp h with h | h
  · exact List.mem_append.mpr (.inl h)
  · rcases List.mem_cons.mp h with h | h
    · rw [h] at hd; exact absurd rfl hd
    · exact List.mem_append.mpr (.inr (cC9 h))
theorem UpdF.mem {d : Addr} {o : Obj} {l : List (Addr × Obj)} {g : Obj → List (Addr × Obj)} (U : UpdF d o l g) : (d, o) ∈ l := by
  obtain ⟨p, q, e, _, _, _⟩ := U.split; rw [e]; exact List.mem_append.mpr (.inr (.head _))
theorem UpdF.other {d : Addr} {o o' : Obj} {l : List (Addr × Obj)} {g : Obj → List (Addr × Obj)} (U : UpdF d o l g) {p : Addr × Obj} (h : p ∈ g o') : p = (d, o') ∨ (p ∈ l ∧ p.1 ≠ d) := by
  obtain ⟨p1, q1, e1, e1', a, b⟩ := U.split
  rw [e1'] at h; rw [e1]
  rcases List.mem_append.mp h with h | h
  · exact .inr ⟨List.mem_append.mpr (.inl h), a p h⟩
  · rcases List.mem_cons.mp h with h | h
    · exact .inl h
    · exact .inr ⟨List.mem_append.mpr (.inr (cC9 h)), b p h⟩
end Mine
open Mine
local macro_rules | `(tactic| walk_at "i0") => `(tactic| (intro g' t' h' tk' g0' gE' gL' F' N'))
namespace Mine
section
theorem gcd_turn {a b : Int} (hb : 0 < b) : Int.gcd b (a.fmod b) = Int.gcd a b := by
  rw [Int.fmod_eq_emod_of_nonneg _ (by omega), Int.gcd_comm a b]
  conv => rhs; rw [← Int.mul_ediv_add_emod a b]
  rw [Int.gcd_mul_left_add_right]
theorem dv_turn {a b : Int} {g : Nat} (hb : b > 0) (h : Int.gcd a b = g) : 0 ≤ b ∧ 0 ≤ a.fmod b ∧ Int.gcd b (a.fmod b) = g :=
  ⟨by omega, by rw [Int.fmod_eq_emod_of_nonneg _ (by omega)]; exact Int.emod_nonneg _ (by omega), by rw [gcd_turn hb]; exact h⟩
theorem dv_less {a b : Int} (hb : b > 0) : (a.fmod b).toNat < b.toNat := by
  have h1 : a.fmod b = a % b := Int.fmod_eq_emod_of_nonneg _ (by omega)
  have h2 := Int.emod_nonneg a (show b ≠ 0 by omega)
  have h3 := Int.emod_lt_of_pos a (show 0 < b by omega)
  omega
theorem dv_end {x y a b : Int} (ha : 0 ≤ a) (hb : 0 ≤ b) (hn : ¬ b > 0) (h : Int.gcd a b = Int.gcd (if x < 0 then -x else x) (if y < 0 then -y else y)) : a = ((Int.gcd x y : Nat) : Int) := by
  have e : b = 0 := by omega
  subst e
  rw [Int.gcd_zero] at h
  have h1 : Int.gcd (if x < 0 then -x else x) (if y < 0 then -y else y) = Int.gcd x y := by
    split <;> split <;> simp
  omega
theorem num_p {x y g : Int} (h : ¬ y < 0) (h0 : y ≠ 0) (e : g = ((Int.gcd x y : Nat) : Int)) : x.fdiv g = (Rat.divInt x y).num := by
  rw [e, Rat.num_divInt, Int.sign_eq_one_of_pos (by omega), Int.one_mul, Int.gcd_comm, Int.fdiv_eq_ediv_of_nonneg _ (by omega)]
theorem den_p {x y g : Int} (h : ¬ y < 0) (h0 : y ≠ 0) (e : g = ((Int.gcd x y : Nat) : Int)) : y.fdiv g = ((Rat.divInt x y).den : Int) := by
  rw [e, Rat.den_divInt, if_neg (by omega), Int.gcd_comm, Int.fdiv_eq_ediv_of_nonneg _ (by omega), Int.natCast_ediv]
  congr 1
  omega
theorem num_n {x y g : Int} (h : y < 0) (e : g = ((Int.gcd (-x) (-y) : Nat) : Int)) : (-x).fdiv g = (Rat.divInt x y).num := by
  rw [← Rat.neg_divInt_neg]; exact num_p (by omega) (by omega) e
theorem den_n {x y g : Int} (h : y < 0) (e : g = ((Int.gcd (-x) (-y) : Nat) : Int)) : (-y).fdiv g = ((Rat.divInt x y).den : Int) := by
  rw [← Rat.neg_divInt_neg]; exact den_p (by omega) (by omega) e
theorem num_le (u l : Int) : (Rat.divInt u l).num.natAbs ≤ u.natAbs := by
  rw [Rat.num_divInt]
  refine Nat.le_trans (Int.natAbs_ediv_le_natAbs _ _) ?_
  rcases Int.lt_trichotomy l 0 with h | h | h
  · rw [Int.sign_eq_neg_one_of_neg h]; omega
  · subst h; simp
  · rw [Int.sign_eq_one_of_pos h]; omega
theorem den_le {u l : Int} (h : l ≠ 0) : (Rat.divInt u l).den ≤ l.natAbs := by
  rw [Rat.den_divInt, if_neg h]
  exact Nat.div_le_self _ _
theorem r_plus (r q : Rat) : Rat.divInt (r.num * q.den + q.num * r.den) (r.den * q.den) = r + q := by
  rw [Rat.add_def', ← Rat.divInt_ofNat]; rfl
theorem r_times (r q : Rat) : Rat.divInt (r.num * q.num) (r.den * q.den) = r * q := by
  rw [Rat.mul_def', ← Rat.divInt_ofNat]; rfl
theorem r_over (r q : Rat) : Rat.divInt (r.num * q.den) (r.den * q.num) = r / q := by
  rw [Rat.div_def, Rat.inv_def]
  conv => rhs; rw [← Rat.num_divInt_den r]
  rw [Rat.divInt_mul_divInt]
theorem r_int (n : Int) : Rat.divInt n 1 = (n : Rat) := by
  rw [Rat.divInt_eq_div]; grind
theorem nzmul {a b : Int} (ha : a ≠ 0) (hb : b ≠ 0) : a * b ≠ 0 := Int.mul_ne_zero ha hb
theorem nzden (r : Rat) : (r.den : Int) ≠ 0 := by have := r.den_nz; omega
def Fits (x : Int) : Prop := x.natAbs < 10 ^ 2000
theorem Fits.no {x g M : Int} (h : Fits x) (hg : 0 < g) (hb : x.fdiv g ≥ M) (hM : M = 10 ^ 2000) : False := by
  have h1 : (x.fdiv g).natAbs ≤ x.natAbs := by
    rw [Int.fdiv_eq_ediv_of_nonneg _ (by omega)]
    exact Int.natAbs_ediv_le_natAbs _ _
  have h2 : ((10 ^ 2000 : Nat) : Int) = M := by rw [hM]; simp
  unfold Fits at h
  generalize (10 : Nat) ^ 2000 = P at h h2
  omega
theorem Fits.noA {x g M : Int} (h : Fits x) (hg : 0 < g) (hb : (if x.fdiv g < 0 then -(x.fdiv g) else x.fdiv g) ≥ M) (hM : M = 10 ^ 2000) : False := by
  have h1 : (x.fdiv g).natAbs ≤ x.natAbs := by
    rw [Int.fdiv_eq_ediv_of_nonneg _ (by omega)]
    exact Int.natAbs_ediv_le_natAbs _ _
  have h2 : ((10 ^ 2000 : Nat) : Int) = M := by rw [hM]; simp
  unfold Fits at h
  generalize (10 : Nat) ^ 2000 = P at h h2
  omega
theorem Fits.neg {x : Int} (h : Fits x) : Fits (-x) := by unfold Fits at *; omega
theorem ten_two : (10 : Nat) ^ 2000 < 2 ^ 9000 := by decide +kernel
theorem two_ten : (2 : Nat) ^ 6643 < 10 ^ 2000 := by decide +kernel
theorem Fits.log {x : Int} {n : Nat} (h : Fits x) (h0 : 0 < n) (hn : n ≤ x.natAbs) : (n : Int).natAbs.log2 < 9000 := by
  have e : (n : Int).natAbs = n := by omega
  rw [e]
  refine (Nat.log2_lt (by omega)).mpr ?_
  unfold Fits at h
  have := ten_two
  generalize (10 : Nat) ^ 2000 = P at *
  generalize (2 : Nat) ^ 9000 = R at *
  omega
theorem Fits.of {x : Int} {n : Nat} (h : Builtin.Int.intBits x ≤ n) (hn : n ≤ 6643) : Fits x := by
  have h1 := natAbs_lt_pow_bits x
  have h2 : (2 : Nat) ^ Builtin.Int.intBits x ≤ 2 ^ 6643 := Nat.pow_le_pow_right (by decide) (by omega)
  have h3 := two_ten
  unfold Fits
  generalize (10 : Nat) ^ 2000 = P at *
  generalize (2 : Nat) ^ 6643 = R at *
  omega
theorem bits_num {u l : Int} {n : Nat} (h : Builtin.Int.intBits u ≤ n) : Builtin.Int.intBits (Rat.divInt u l).num ≤ n := bits_of_natAbs_le (num_le u l) h
theorem bits_den {u l : Int} {n : Nat} (h0 : l ≠ 0) (h : Builtin.Int.intBits l ≤ n) : Builtin.Int.intBits ((Rat.divInt u l).den : Int) ≤ n := bits_of_natAbs_le (by have := den_le (u := u) h0; omega) h

abbrev RatO (r : Rat) (t t' : Tok) (c : Nat) : Obj := { cls := .type "tuple", data := .seq #[.int r.num t, .int (r.den : Int) t'] c }
theorem words1 : True := by
  k_with "k_in" => (refine' in_of ?z1fF ?z1fX; (case z1fF | z1fX => k_asm))
  trivial
theorem div_c {w : World} (dp un : Nat) (gd : Option (List Code)) (cn : Str) (cs : Scope) (a : Addr) (ccd : Value) (cl : List (Str × Addr)) (outer : List Env) (A₀ : Around) (base h₀ : Heap) (L : Addr) (m : Str → Option Value) (news : List (Addr × Obj)) (s : Shared) (Q E : Value → Shared → Prop) (x y : Int) (t1 t2 : Tok)
    (B : Below A₀ base outer h₀) (F : Fr h₀ L s.heap m) (X : (HD.K w.params).In h₀) (N : News h₀ L s.heap news) (T : Top p loose mean mg mb h₀) (hk : cs.kind = .function)
    (hd : dp + 1 < recursionLimit) (hu : un + 8 < cLine)
    (hret : ∀ (t : Tok) (h' : Heap) (tk' : Nat), Fr h₀ L h' m → News h₀ L h' news → Q (.int ((Int.gcd x y : Nat) : Int) t) { s with heap := h', toks := tk' }) :
      wpAny (model Challenge.rw_ui0509_16.row.prog w) (ktrTop dp un gd cn cs L a ccd cl outer) (call (.ref 64) [.int x t1, .int y t2]) Q E s := by
  revert X; k_fill; intro X
  refine wpAny_call ?_
  k_dflt ktr_enter
  (k_with "exec While Compare cons nil" => k_while_given ["a!", "b!"] (fun a₀ b₀ _ a b => 0 ≤ a ∧ 0 ≤ b ∧ Int.gcd a b = Int.gcd a₀ b₀) (fun _ _ _ _ b => b.toNat) "a" "b")
  (k_with "state" => exact dv_turn (by assumption) (by assumption))
  (k_with "measure" => exact dv_less (by assumption))
  k_steps
  all_goals exact cb_retI hret (dv_end (by assumption) (by assumption) (by assumption) (by assumption)) (by k_asm) (by k_asm)
theorem div_use {w : World} (dp un : Nat) (gd : Option (List Code)) (cn : Str) (cs : Scope) (a : Addr) (ccd : Value) (cl : List (Str × Addr)) (outer : List Env) (A₀ : Around) (base h₀ : Heap) (L : Addr) (m : Str → Option Value) (news : List (Addr × Obj)) (s : Shared) (Q E : Value → Shared → Prop) (x y : Int) (t1 t2 : Tok)
    (B : Below A₀ base outer h₀) (F : Fr h₀ L s.heap m) (X : (HD.K w.params).In h₀) (N : News h₀ L s.heap news) (T : Top p loose mean mg mb h₀) (hk : cs.kind = .function)
    (hd : dp + 1 < recursionLimit) (hu : un + 8 < cLine) (hy : y ≠ 0) (hf : Fits y)
    (hret : ∀ (g : Int) (t : Tok) (h' : Heap) (tk' : Nat), 0 < g → g = ((Int.gcd x y : Nat) : Int) → g.natAbs.log2 < 9000 → Fr h₀ L h' m → News h₀ L h' news → Q (.int g t) { s with heap := h', toks := tk' }) :
      wpAny (model Challenge.rw_ui0509_16.row.prog w) (ktrTop dp un gd cn cs L a ccd cl outer) (call (.ref 64) [.int x t1, .int y t2]) Q E s :=
  div_c dp un gd cn cs a ccd cl outer A₀ base h₀ L m news s Q E x y t1 t2 B F X N T hk hd hu (fun t h' tk' F' N' => hret _ t h' tk' (by have := Int.gcd_pos_of_ne_zero_right x hy; omega) rfl (Fits.log hf (Int.gcd_pos_of_ne_zero_right x hy) (Int.gcd_le_natAbs_right x hy)) F' N')
theorem fr_end {h₀ h' : Heap} {L D : Addr} {m : Str → Option Value} {news : List (Addr × Obj)} {s : Shared} {Q : Value → Shared → Prop} {x y a b : Int} {t t' : Tok} {c tk' : Nat}
    (hret : ∀ (r : Rat) (D : Addr) (t t' : Tok) (c : Nat) (h' : Heap) (tk' : Nat), r = Rat.divInt x y → Fr h₀ L h' m → News h₀ L h' ((D, RatO r t t' c) :: news) → (∀ p ∈ news, p.1 < D) → Q (.ref D) { s with heap := h', toks := tk' })
    (e1 : a = (Rat.divInt x y).num) (e2 : b = ((Rat.divInt x y).den : Int)) (F : Fr h₀ L h' m) (N : News h₀ L h' ((D, ({ cls := .type "tuple", data := .seq #[.int a t, .int b t'] c } : Obj)) :: news)) (hl : ∀ p ∈ news, p.1 < D) : Q (.ref D) { s with heap := h', toks := tk' } := by
  subst e1; subst e2
  exact hret _ D t t' c h' tk' rfl F N hl
theorem words2 : True := by
  k_with "call ref" => (k_here; (with_reducible show wpAny _ _ (call (Value.ref 64) [Value.int _ _, Value.int _ _]) _ _ _); k_dflt (refine' div_use _ _ _ _ _ _ _ _ _ _ _ _ _ _ _ _ _ _ _ _ _ _ ?z2k1 ?z2k2 ?z2k3 ?z2k4 ?z2k5 ?z2k6 ?z2k7 ?z2k8 ?z2k9 ?z2k10 ?_; (case z2k1 | z2k2 | z2k3 | z2k4 | z2k5 => k_asm); (case z2k6 => first | exact rfl | assumption); (case z2k7 => ktr_room); (case z2k8 => ktr_units); (case z2k9 => omega); (case z2k10 => first | assumption | exact Fits.neg (by assumption) | exact Fits.of (n := 64) (PySem.intBits_le_64 (by omega) (by omega)) (by decide)); k_whole); walk_at "i0"; (try k_sweep))
  k_with "binaryOp FloorDiv int int" => (with_reducible refine floordiv_int ?z3ne ?_ (Or.inl (PyProof.noPylong_of_log2 ?z3lg)); (case z3lg => with_reducible assumption); (case z3ne => omega))
  trivial
theorem frac_c {w : World} (dp un : Nat) (gd : Option (List Code)) (cn : Str) (cs : Scope) (a : Addr) (ccd : Value) (cl : List (Str × Addr)) (outer : List Env) (A₀ : Around) (base h₀ : Heap) (L : Addr) (m : Str → Option Value) (news : List (Addr × Obj)) (s : Shared) (Q E : Value → Shared → Prop) (x y : Int) (t1 t2 : Tok)
    (B : Below A₀ base outer h₀) (F : Fr h₀ L s.heap m) (X : (HD.K w.params).In h₀) (N : News h₀ L s.heap news) (T : Top p loose mean mg mb h₀) (hk : cs.kind = .function)
    (hd : dp + 2 < recursionLimit) (hu : un + 16 < cLine) (hy : y ≠ 0) (hx1 : Fits x) (hy1 : Fits y)
    (hret : ∀ (r : Rat) (D : Addr) (t t' : Tok) (c : Nat) (h' : Heap) (tk' : Nat), r = Rat.divInt x y → Fr h₀ L h' m → News h₀ L h' ((D, RatO r t t' c) :: news) → (∀ p ∈ news, p.1 < D) → Q (.ref D) { s with heap := h', toks := tk' }) :
      wpAny (model Challenge.rw_ui0509_16.row.prog w) (ktrTop dp un gd cn cs L a ccd cl outer) (call (.ref 72) [.int x t1, .int y t2]) Q E s := by
  revert X; k_fill; intro X
  refine wpAny_call ?_
  k_dflt (refine' code_def ?k1 ?k2 ?k3 ?k4 ?k5 ?kA ?kF ?kK ?k6 ?k7 ?k8 ?k9 ?kB ?_ ?c2 ?c3 ?c4 ?c5; (case kA | kF => exact rfl); (case kK => assumption); (case k1 | k2 | k3 | k4 | k5 => k_asm); (case k6 | k7 => k_is); (case k8 => ktr_room); (case k9 => first | exact BindsTo.of_eq rfl | exact binds_K (by k_in) rfl (by k_is) rfl rfl rfl); (case c5 => decide); (case kB => exact locs rfl); (case c2 | c3 | c4 => exact rfl); k_whole; intro g' L' h' FG' F' N' B' X' T'; (try dsimp only); (try k_fold))
  k_steps
  all_goals first
    | exact absurd (by assumption) hy
    | exact fr_end hret (num_p (by assumption) hy (by assumption)) (den_p (by assumption) hy (by assumption)) (by k_asm) (by k_asm) (by assumption)
    | exact fr_end hret (num_n (by assumption) (by assumption)) (den_n (by assumption) (by assumption)) (by k_asm) (by k_asm) (by assumption)
    | exact (Fits.no hy1 (by assumption) (by assumption) (by decide +kernel)).elim
    | exact (Fits.no (Fits.neg hy1) (by assumption) (by assumption) (by decide +kernel)).elim
    | exact (Fits.noA hx1 (by assumption) (by assumption) (by decide +kernel)).elim
    | exact (Fits.noA (Fits.neg hx1) (by assumption) (by assumption) (by decide +kernel)).elim
theorem fits_one : Fits 1 := Fits.of (n := 64) (PySem.intBits_le_64 (by omega) (by omega)) (by decide)
theorem fd_end {h₀ h' : Heap} {L D : Addr} {m : Str → Option Value} {news : List (Addr × Obj)} {s : Shared} {Q : Value → Shared → Prop} {x g : Int} {t t' : Tok} {c tk' : Nat}
    (hret : ∀ (D : Addr) (t t' : Tok) (c : Nat) (h' : Heap) (tk' : Nat), Fr h₀ L h' m → News h₀ L h' ((D, ({ cls := .type "tuple", data := .seq #[.int x t, .int 1 t'] c } : Obj)) :: news) → (∀ p ∈ news, p.1 < D) → Q (.ref D) { s with heap := h', toks := tk' })
    (e : g = ((Int.gcd x 1 : Nat) : Int)) (F : Fr h₀ L h' m) (N : News h₀ L h' ((D, ({ cls := .type "tuple", data := .seq #[.int (x.fdiv g) t, .int (Int.fdiv 1 g) t'] c } : Obj)) :: news)) (hl : ∀ p ∈ news, p.1 < D) : Q (.ref D) { s with heap := h', toks := tk' } := by
  have e1 : g = 1 := by rw [e, Int.gcd_one]; rfl
  subst e1
  rw [Int.fdiv_one, Int.fdiv_one] at N
  exact hret D t t' c h' tk' F N hl
theorem frac_d {w : World} (dp un : Nat) (gd : Option (List Code)) (cn : Str) (cs : Scope) (a : Addr) (ccd : Value) (cl : List (Str × Addr)) (outer : List Env) (A₀ : Around) (base h₀ : Heap) (L : Addr) (m : Str → Option Value) (news : List (Addr × Obj)) (s : Shared) (Q E : Value → Shared → Prop) (x : Int) (t1 : Tok)
    (B : Below A₀ base outer h₀) (F : Fr h₀ L s.heap m) (X : (HD.K w.params).In h₀) (N : News h₀ L s.heap news) (T : Top p loose mean mg mb h₀) (hk : cs.kind = .function)
    (hd : dp + 2 < recursionLimit) (hu : un + 16 < cLine) (hx1 : Fits x)
    (hret : ∀ (D : Addr) (t t' : Tok) (c : Nat) (h' : Heap) (tk' : Nat), Fr h₀ L h' m → News h₀ L h' ((D, ({ cls := .type "tuple", data := .seq #[.int x t, .int 1 t'] c } : Obj)) :: news) → (∀ p ∈ news, p.1 < D) → Q (.ref D) { s with heap := h', toks := tk' }) :
      wpAny (model Challenge.rw_ui0509_16.row.prog w) (ktrTop dp un gd cn cs L a ccd cl outer) (call (.ref 72) [.int x t1]) Q E s := by
  revert X; k_fill; intro X
  refine wpAny_call ?_
  k_dflt (refine' code_def ?k1 ?k2 ?k3 ?k4 ?k5 ?kA ?kF ?kK ?k6 ?k7 ?k8 ?k9 ?kB ?_ ?c2 ?c3 ?c4 ?c5; (case kA | kF => exact rfl); (case kK => assumption); (case k1 | k2 | k3 | k4 | k5 => k_asm); (case k6 | k7 => k_is); (case k8 => ktr_room); (case k9 => first | exact BindsTo.of_eq rfl | exact binds_K (by k_in) rfl (by k_is) rfl rfl rfl); (case c5 => decide); (case kB => exact locs rfl); (case c2 | c3 | c4 => exact rfl); k_whole; intro g' L' h' FG' F' N' B' X' T'; (try dsimp only); (try k_fold))
  k_steps
  all_goals first
    | exact fd_end hret (by assumption) (by k_asm) (by k_asm) (by assumption)
    | exact (Fits.no fits_one (by assumption) (by assumption) (by decide +kernel)).elim
    | exact (Fits.noA hx1 (by assumption) (by assumption) (by decide +kernel)).elim
theorem frac_use {w : World} {a : Addr} {A₀ : Around} {base h₀ : Heap} {L : Addr} {m : Str → Option Value} {news : List (Addr × Obj)} {s : Shared} {Q E : Value → Shared → Prop} {x y : Int} {t1 t2 : Tok} {nx ny : Nat} 
    (B : Below A₀ base outer h₀) (F : Fr h₀ L s.heap m) (X : (HD.K w.params).In h₀) (N : News h₀ L s.heap news) (T : Top p loose mean mg mb h₀) (hk : cs.kind = .function)
    (hd : dp + 2 < recursionLimit) (hu : un + 16 < cLine) (hy : y ≠ 0) (hx1 : Builtin.Int.intBits x ≤ nx) (hy1 : Builtin.Int.intBits y ≤ ny) (hnx : nx ≤ 6643) (hny : ny ≤ 6643)
    (hret : ∀ (r : Rat) (D : Addr) (t t' : Tok) (c : Nat) (h' : Heap) (tk' : Nat), r = Rat.divInt x y → Builtin.Int.intBits r.num ≤ nx → Builtin.Int.intBits (r.den : Int) ≤ ny → Fr h₀ L h' m → News h₀ L h' ((D, RatO r t t' c) :: news) → (∀ p ∈ news, p.1 < D) → Q (.ref D) { s with heap := h', toks := tk' }) :
      wpAny (model Challenge.rw_ui0509_16.row.prog w) (ktrTop dp un gd cn cs L a ccd cl outer) (call (.ref 72) [.int x t1, .int y t2]) Q E s :=
  frac_c dp un gd cn cs a ccd cl outer A₀ base h₀ L m news s Q E x y t1 t2 B F X N T hk hd hu hy (Fits.of hx1 hnx) (Fits.of hy1 hny) fun r D t t' c h' tk' e F' N' l => hret r D t t' c h' tk' e (e ▸ bits_num hx1) (e ▸ bits_den hy hy1) F' N' l
theorem r_one_num (x : Int) : (Rat.divInt x 1).num = x := by rw [r_int]; rfl
theorem r_one_den (x : Int) : (Rat.divInt x 1).den = 1 := by rw [r_int]; rfl
theorem frac_one {w : World} {a : Addr} {A₀ : Around} {base h₀ : Heap} {L : Addr} {m : Str → Option Value} {news : List (Addr × Obj)} {s : Shared} {Q E : Value → Shared → Prop} {x : Int} {t1 t2 : Tok} {nx : Nat} 
    (B : Below A₀ base outer h₀) (F : Fr h₀ L s.heap m) (X : (HD.K w.params).In h₀) (N : News h₀ L s.heap news) (T : Top p loose mean mg mb h₀) (hk : cs.kind = .function)
    (hd : dp + 2 < recursionLimit) (hu : un + 16 < cLine) (hx1 : Builtin.Int.intBits x ≤ nx) (hnx : nx ≤ 6643)
    (hret : ∀ (D : Addr) (t t' : Tok) (c : Nat) (h' : Heap) (tk' : Nat), Fr h₀ L h' m → News h₀ L h' ((D, ({ cls := .type "tuple", data := .seq #[.int x t, .int 1 t'] c } : Obj)) :: news) → (∀ p ∈ news, p.1 < D) → Q (.ref D) { s with heap := h', toks := tk' }) :
      wpAny (model Challenge.rw_ui0509_16.row.prog w) (ktrTop dp un gd cn cs L a ccd cl outer) (call (.ref 72) [.int x t1, .int 1 t2]) Q E s :=
  frac_c dp un gd cn cs a ccd cl outer A₀ base h₀ L m news s Q E x 1 t1 t2 B F X N T hk hd hu (by decide) (Fits.of hx1 hnx) (Fits.of (n := 64) (PySem.intBits_le_64 (by omega) (by omega)) (by decide)) fun r D t t' c h' tk' e F' N' l => hret D t t' c h' tk' F' (by
    subst e
    unfold RatO at N'
    rw [r_one_num, r_one_den] at N'
    exact N') l
theorem frac_dflt {w : World} {a : Addr} {A₀ : Around} {base h₀ : Heap} {L : Addr} {m : Str → Option Value} {news : List (Addr × Obj)} {s : Shared} {Q E : Value → Shared → Prop} {x : Int} {t1 : Tok} {nx : Nat} 
    (B : Below A₀ base outer h₀) (F : Fr h₀ L s.heap m) (X : (HD.K w.params).In h₀) (N : News h₀ L s.heap news) (T : Top p loose mean mg mb h₀) (hk : cs.kind = .function)
    (hd : dp + 2 < recursionLimit) (hu : un + 16 < cLine) (hx1 : Builtin.Int.intBits x ≤ nx) (hnx : nx ≤ 6643)
    (hret : ∀ (D : Addr) (t t' : Tok) (c : Nat) (h' : Heap) (tk' : Nat), Fr h₀ L h' m → News h₀ L h' ((D, ({ cls := .type "tuple", data := .seq #[.int x t, .int 1 t'] c } : Obj)) :: news) → (∀ p ∈ news, p.1 < D) → Q (.ref D) { s with heap := h', toks := tk' }) :
      wpAny (model Challenge.rw_ui0509_16.row.prog w) (ktrTop dp un gd cn cs L a ccd cl outer) (call (.ref 72) [.int x t1]) Q E s :=
  frac_d dp un gd cn cs a ccd cl outer A₀ base h₀ L m news s Q E x t1 B F X N T hk hd hu (Fits.of hx1 hnx) hret
end
abbrev T2 (x y : Int) (t t' : Tok) (c : Nat) : Obj := { cls := .type "tuple", data := .seq #[.int x t, .int y t'] c }
theorem tup_g {prog : Program} {w : World} {A : Around} {E : Value → Shared → Prop} {s : Shared} {h₀ : Heap} {L D : Addr} {m : Str → Option Value} {lo : Obj} {value slice : Expr} {l : List Value} {n : Nat} {k : Int} {u : Tok} {j : Nat} {x : Value} {Q : Value → Shared → Prop}
    (F : Fr h₀ L s.heap m) (e : h₀.get? D = some lo) (hc : lo.cls = .type "tuple") (hd : lo.data = .seq l.toArray n) (hlo : -(2 ^ 63) ≤ k) (hhi : k < 2 ^ 63) (hj : seqIndex? k l.length = some j) (hx : l[j]? = some x) (h : Q x s)
    (hs : subscripted slice false (.ref D) (.int k u) = operate [.ref D, .int k u] (getItem (.ref D) (.int k u))) (hg : ∀ r, letTemporaryGo value (.ref D) r = pure ()) :
    wpAny (model prog w) A (subscriptTail value slice (.ref D) (.int k u)) Q E s := item_tupleL ⟨lo, F.keep _ _ e, hc, n, hd⟩ hlo hhi hj hx h hs hg
theorem bits_one : Builtin.Int.intBits 1 ≤ 1 := by decide
end Mine
open Mine
local macro_rules | `(tactic| walk_at "i1") => `(tactic| (intro r' D' t' u' c' h' tk' rE' F' N' l1))
namespace Mine
section
theorem words3 : True := by
  k_with_none
  k_with "k_in" => (refine' in_of ?z4fF ?z4fX; (case z4fF | z4fX => k_asm))
  k_with "call ref" => (k_here; (with_reducible show wpAny _ _ (call (Value.ref 72) [Value.int _ _, Value.int _ _]) _ _ _); k_dflt (refine' frac_c _ _ _ _ _ _ _ _ _ _ _ _ _ _ _ _ _ _ _ _ _ _ ?z5k1 ?z5k2 ?z5k3 ?z5k4 ?z5k5 ?z5k6 ?z5k7 ?z5k8 ?z5k9 ?z5k10 ?z5k11 ?_; (case z5k1 | z5k2 | z5k3 | z5k4 | z5k5 => k_asm); (case z5k6 => first | exact rfl | assumption); (case z5k7 => ktr_room); (case z5k8 => ktr_units); (case z5k9 | z5k10 | z5k11 => assumption); k_whole); walk_at "i1"; (try k_sweep))
  k_with "binaryOp Mult int int" => (with_reducible refine mul_int ?_ ?z6mo; (case z6mo => assumption))
  k_with "subscriptTail" => (k_here; (with_reducible show wpAny _ _ (subscriptTail _ _ (Value.ref _) (Value.int _ _)) _ _ _); k_dflt (refine' tup_g ?z7k1 ?z7k2 ?z7k3 ?z7k4 ?z7k5 ?z7k6 ?z7k7 ?z7k8 ?_ ?z7k9 ?z7k10; (case z7k1 => k_asm); (case z7k2 => with_reducible assumption); (case z7k3 | z7k4 => exact rfl); (case z7k5 | z7k6 => decide); (case z7k7 | z7k8 => exact rfl); (case z7k9 => with_unfolding_all rfl); (case z7k10 => (intro _; with_unfolding_all rfl)); k_whole))
  trivial
theorem plus_c {w : World} {a : Addr} {A₀ : Around} {base h₀ : Heap} {L : Addr} {m : Str → Option Value} {news : List (Addr × Obj)} {s : Shared} {Q E : Value → Shared → Prop} {D1 D2 : Addr} {x1 y1 x2 y2 : Int} {t1 t1' t2 t2' : Tok} {c1 c2 : Nat} 
    (B : Below A₀ base outer h₀) (F : Fr h₀ L s.heap m) (X : (HD.K w.params).In h₀) (N : News h₀ L s.heap news) (T : Top p loose mean mg mb h₀) (hk : cs.kind = .function) (e1 : s.heap.get? D1 = some (T2 x1 y1 t1 t1' c1)) (e2 : s.heap.get? D2 = some (T2 x2 y2 t2 t2' c2))
    (hd : dp + 3 < recursionLimit) (hu : un + 24 < cLine) (nz : y1 * y2 ≠ 0) (m0 : IntMulOk x1 y2) (m1 : IntMulOk x2 y1) (m2 : IntMulOk y1 y2) (f1 : Fits (x1 * y2 + x2 * y1)) (f2 : Fits (y1 * y2))
    (hret : ∀ (r : Rat) (D : Addr) (t t' : Tok) (c : Nat) (h' : Heap) (tk' : Nat), r = Rat.divInt (x1 * y2 + x2 * y1) (y1 * y2) → Fr h₀ L h' m → News h₀ L h' ((D, RatO r t t' c) :: news) → (∀ p ∈ news, p.1 ≠ D) → Q (.ref D) { s with heap := h', toks := tk' }) :
    wpAny (model Challenge.rw_ui0509_16.row.prog w) (ktrTop dp un gd cn cs L a ccd cl outer) (call (.ref 87) [.ref D1, .ref D2]) Q E s := by
  w_top off
  revert X; k_fill; intro X
  refine wpAny_call ?_
  k_dflt (refine' code_need [] ?k1 ?k2 ?k3 ?k4 ?k5 ?kA ?kF ?kK ?k6 ?k7 ?k8 ?k9 ?kB ?kN ?_ ?c2 ?c3 ?c4 ?c5; walk_at "en0"; (case kN => exact fun _ h => nomatch h); walk_at "en1")
  replace e1 := hG' _ _ e1 (by simp)
  replace e2 := hG' _ _ e2 (by simp)
  k_steps
  all_goals first | (refine leaveN_ (by k_asm) (by k_asm) ?_; intro kF kN kR kD; (try dsimp only); exact hret _ _ _ _ _ _ _ (by assumption) kF (news_cons kN (by k_mem) (news_all kR)) (ne_all kD cS9))
theorem times_c {w : World} {a : Addr} {A₀ : Around} {base h₀ : Heap} {L : Addr} {m : Str → Option Value} {news : List (Addr × Obj)} {s : Shared} {Q E : Value → Shared → Prop} {D1 D2 : Addr} {x1 y1 x2 y2 : Int} {t1 t1' t2 t2' : Tok} {c1 c2 : Nat} 
    (B : Below A₀ base outer h₀) (F : Fr h₀ L s.heap m) (X : (HD.K w.params).In h₀) (N : News h₀ L s.heap news) (T : Top p loose mean mg mb h₀) (hk : cs.kind = .function) (e1 : s.heap.get? D1 = some (T2 x1 y1 t1 t1' c1)) (e2 : s.heap.get? D2 = some (T2 x2 y2 t2 t2' c2))
    (hd : dp + 3 < recursionLimit) (hu : un + 24 < cLine) (nz : y1 * y2 ≠ 0) (m0 : IntMulOk x1 x2) (m1 : IntMulOk y1 y2) (f1 : Fits (x1 * x2)) (f2 : Fits (y1 * y2))
    (hret : ∀ (r : Rat) (D : Addr) (t t' : Tok) (c : Nat) (h' : Heap) (tk' : Nat), r = Rat.divInt (x1 * x2) (y1 * y2) → Fr h₀ L h' m → News h₀ L h' ((D, RatO r t t' c) :: news) → (∀ p ∈ news, p.1 ≠ D) → Q (.ref D) { s with heap := h', toks := tk' }) :
    wpAny (model Challenge.rw_ui0509_16.row.prog w) (ktrTop dp un gd cn cs L a ccd cl outer) (call (.ref 101) [.ref D1, .ref D2]) Q E s := by
  w_top off
  revert X; k_fill; intro X
  refine wpAny_call ?_
  k_dflt (refine' code_need [] ?k1 ?k2 ?k3 ?k4 ?k5 ?kA ?kF ?kK ?k6 ?k7 ?k8 ?k9 ?kB ?kN ?_ ?c2 ?c3 ?c4 ?c5; walk_at "en0"; (case kN => exact fun _ h => nomatch h); walk_at "en1")
  replace e1 := hG' _ _ e1 (by simp)
  replace e2 := hG' _ _ e2 (by simp)
  k_steps
  all_goals first | (refine leaveN_ (by k_asm) (by k_asm) ?_; intro kF kN kR kD; (try dsimp only); exact hret _ _ _ _ _ _ _ (by assumption) kF (news_cons kN (by k_mem) (news_all kR)) (ne_all kD cS9))
theorem over_c {w : World} {a : Addr} {A₀ : Around} {base h₀ : Heap} {L : Addr} {m : Str → Option Value} {news : List (Addr × Obj)} {s : Shared} {Q E : Value → Shared → Prop} {D1 D2 : Addr} {x1 y1 x2 y2 : Int} {t1 t1' t2 t2' : Tok} {c1 c2 : Nat} 
    (B : Below A₀ base outer h₀) (F : Fr h₀ L s.heap m) (X : (HD.K w.params).In h₀) (N : News h₀ L s.heap news) (T : Top p loose mean mg mb h₀) (hk : cs.kind = .function) (e1 : s.heap.get? D1 = some (T2 x1 y1 t1 t1' c1)) (e2 : s.heap.get? D2 = some (T2 x2 y2 t2 t2' c2))
    (hd : dp + 3 < recursionLimit) (hu : un + 24 < cLine) (nz : y1 * x2 ≠ 0) (hz : x2 ≠ 0) (m0 : IntMulOk x1 y2) (m1 : IntMulOk y1 x2) (f1 : Fits (x1 * y2)) (f2 : Fits (y1 * x2))
    (hret : ∀ (r : Rat) (D : Addr) (t t' : Tok) (c : Nat) (h' : Heap) (tk' : Nat), r = Rat.divInt (x1 * y2) (y1 * x2) → Fr h₀ L h' m → News h₀ L h' ((D, RatO r t t' c) :: news) → (∀ p ∈ news, p.1 ≠ D) → Q (.ref D) { s with heap := h', toks := tk' }) :
    wpAny (model Challenge.rw_ui0509_16.row.prog w) (ktrTop dp un gd cn cs L a ccd cl outer) (call (.ref 108) [.ref D1, .ref D2]) Q E s := by
  w_top off
  revert X; k_fill; intro X
  refine wpAny_call ?_
  k_dflt (refine' code_need [] ?k1 ?k2 ?k3 ?k4 ?k5 ?kA ?kF ?kK ?k6 ?k7 ?k8 ?k9 ?kB ?kN ?_ ?c2 ?c3 ?c4 ?c5; walk_at "en0"; (case kN => exact fun _ h => nomatch h); walk_at "en1")
  replace e1 := hG' _ _ e1 (by simp)
  replace e2 := hG' _ _ e2 (by simp)
  k_steps
  all_goals first | exact absurd (by assumption) hz | (refine leaveN_ (by k_asm) (by k_asm) ?_; intro kF kN kR kD; (try dsimp only); exact hret _ _ _ _ _ _ _ (by assumption) kF (news_cons kN (by k_mem) (news_all kR)) (ne_all kD cS9))
theorem less_c {w : World} {a : Addr} {A₀ : Around} {base h₀ : Heap} {L : Addr} {m : Str → Option Value} {news : List (Addr × Obj)} {s : Shared} {Q E : Value → Shared → Prop} {D1 D2 : Addr} {x1 y1 x2 y2 : Int} {t1 t1' t2 t2' : Tok} {c1 c2 : Nat} 
    (B : Below A₀ base outer h₀) (F : Fr h₀ L s.heap m) (X : (HD.K w.params).In h₀) (N : News h₀ L s.heap news) (T : Top p loose mean mg mb h₀) (hk : cs.kind = .function) (e1 : s.heap.get? D1 = some (T2 x1 y1 t1 t1' c1)) (e2 : s.heap.get? D2 = some (T2 x2 y2 t2 t2' c2))
    (hd : dp + 3 < recursionLimit) (hu : un + 24 < cLine) (m0 : IntMulOk x1 y2) (m1 : IntMulOk x2 y1)
    (hret : ∀ (h' : Heap) (tk' : Nat), Fr h₀ L h' m → News h₀ L h' news → Q (.bool (decide (x1 * y2 < x2 * y1))) { s with heap := h', toks := tk' }) :
    wpAny (model Challenge.rw_ui0509_16.row.prog w) (ktrTop dp un gd cn cs L a ccd cl outer) (call (.ref 115) [.ref D1, .ref D2]) Q E s := by
  w_top off
  revert X; k_fill; intro X
  refine wpAny_call ?_
  k_dflt (refine' code_need [] ?k1 ?k2 ?k3 ?k4 ?k5 ?kA ?kF ?kK ?k6 ?k7 ?k8 ?k9 ?kB ?kN ?_ ?c2 ?c3 ?c4 ?c5; walk_at "en0"; (case kN => exact fun _ h => nomatch h); walk_at "en1")
  replace e1 := hG' _ _ e1 (by simp)
  replace e2 := hG' _ _ e2 (by simp)
  k_steps
  all_goals (refine leaveN_ (by k_asm) (by k_asm) ?_; intro kF kN kR kD; (try dsimp only); exact hret _ _ kF (news_all kR))
end
theorem plus_u {w : World} {a : Addr} {A₀ : Around} {base h₀ : Heap} {L : Addr} {m : Str → Option Value} {news : List (Addr × Obj)} {s : Shared} {Q E : Value → Shared → Prop} {D1 D2 : Addr} {x1 y1 x2 y2 : Int} {t1 t1' t2 t2' : Tok} {c1 c2 : Nat} {n1 k1 n2 k2 : Nat} 
    (B : Below A₀ base outer h₀) (F : Fr h₀ L s.heap m) (X : (HD.K w.params).In h₀) (N : News h₀ L s.heap news) (T : Top p loose mean mg mb h₀) (hk : cs.kind = .function) (e1 : s.heap.get? D1 = some (T2 x1 y1 t1 t1' c1)) (e2 : s.heap.get? D2 = some (T2 x2 y2 t2 t2' c2))
    (hd : dp + 3 < recursionLimit) (hu : un + 24 < cLine) (hy : y1 ≠ 0) (hz : y2 ≠ 0) (b1 : Builtin.Int.intBits x1 ≤ n1) (b2 : Builtin.Int.intBits y1 ≤ k1) (b3 : Builtin.Int.intBits x2 ≤ n2) (b4 : Builtin.Int.intBits y2 ≤ k2) (hbu : max (n1 + k2) (n2 + k1) + 1 ≤ 6643) (hbl : k1 + k2 ≤ 6643)
    (hret : ∀ (r : Rat) (D : Addr) (t t' : Tok) (c : Nat) (h' : Heap) (tk' : Nat), r = Rat.divInt (x1 * y2 + x2 * y1) (y1 * y2) → Builtin.Int.intBits r.num ≤ max (n1 + k2) (n2 + k1) + 1 → Builtin.Int.intBits (r.den : Int) ≤ k1 + k2 → Fr h₀ L h' m → News h₀ L h' ((D, RatO r t t' c) :: news) → (∀ p ∈ news, p.1 ≠ D) → Q (.ref D) { s with heap := h', toks := tk' }) :
    wpAny (model Challenge.rw_ui0509_16.row.prog w) (ktrTop dp un gd cn cs L a ccd cl outer) (call (.ref 87) [.ref D1, .ref D2]) Q E s :=
  plus_c B F X N T hk e1 e2 hd hu (nzmul hy hz) (mulOk_of_bits b1 b4 (by omega)) (mulOk_of_bits b3 b2 (by omega)) (mulOk_of_bits b2 b4 (by omega)) (Fits.of (bits_add (bits_mul b1 b4) (bits_mul b3 b2)) hbu) (Fits.of (bits_mul b2 b4) hbl) fun r D t t' c h' tk' e F' N' l => hret r D t t' c h' tk' e (e ▸ bits_num (bits_add (bits_mul b1 b4) (bits_mul b3 b2))) (e ▸ bits_den (nzmul hy hz) (bits_mul b2 b4)) F' N' l
theorem times_u {w : World} {a : Addr} {A₀ : Around} {base h₀ : Heap} {L : Addr} {m : Str → Option Value} {news : List (Addr × Obj)} {s : Shared} {Q E : Value → Shared → Prop} {D1 D2 : Addr} {x1 y1 x2 y2 : Int} {t1 t1' t2 t2' : Tok} {c1 c2 : Nat} {n1 k1 n2 k2 : Nat} 
    (B : Below A₀ base outer h₀) (F : Fr h₀ L s.heap m) (X : (HD.K w.params).In h₀) (N : News h₀ L s.heap news) (T : Top p loose mean mg mb h₀) (hk : cs.kind = .function) (e1 : s.heap.get? D1 = some (T2 x1 y1 t1 t1' c1)) (e2 : s.heap.get? D2 = some (T2 x2 y2 t2 t2' c2))
    (hd : dp + 3 < recursionLimit) (hu : un + 24 < cLine) (hy : y1 ≠ 0) (hz : y2 ≠ 0) (b1 : Builtin.Int.intBits x1 ≤ n1) (b2 : Builtin.Int.intBits y1 ≤ k1) (b3 : Builtin.Int.intBits x2 ≤ n2) (b4 : Builtin.Int.intBits y2 ≤ k2) (hbu : n1 + n2 ≤ 6643) (hbl : k1 + k2 ≤ 6643)
    (hret : ∀ (r : Rat) (D : Addr) (t t' : Tok) (c : Nat) (h' : Heap) (tk' : Nat), r = Rat.divInt (x1 * x2) (y1 * y2) → Builtin.Int.intBits r.num ≤ n1 + n2 → Builtin.Int.intBits (r.den : Int) ≤ k1 + k2 → Fr h₀ L h' m → News h₀ L h' ((D, RatO r t t' c) :: news) → (∀ p ∈ news, p.1 ≠ D) → Q (.ref D) { s with heap := h', toks := tk' }) :
    wpAny (model Challenge.rw_ui0509_16.row.prog w) (ktrTop dp un gd cn cs L a ccd cl outer) (call (.ref 101) [.ref D1, .ref D2]) Q E s :=
  times_c B F X N T hk e1 e2 hd hu (nzmul hy hz) (mulOk_of_bits b1 b3 (by omega)) (mulOk_of_bits b2 b4 (by omega)) (Fits.of (bits_mul b1 b3) hbu) (Fits.of (bits_mul b2 b4) hbl) fun r D t t' c h' tk' e F' N' l => hret r D t t' c h' tk' e (e ▸ bits_num (bits_mul b1 b3)) (e ▸ bits_den (nzmul hy hz) (bits_mul b2 b4)) F' N' l
theorem over_u {w : World} {a : Addr} {A₀ : Around} {base h₀ : Heap} {L : Addr} {m : Str → Option Value} {news : List (Addr × Obj)} {s : Shared} {Q E : Value → Shared → Prop} {D1 D2 : Addr} {x1 y1 x2 y2 : Int} {t1 t1' t2 t2' : Tok} {c1 c2 : Nat} {n1 k1 n2 k2 : Nat} 
    (B : Below A₀ base outer h₀) (F : Fr h₀ L s.heap m) (X : (HD.K w.params).In h₀) (N : News h₀ L s.heap news) (T : Top p loose mean mg mb h₀) (hk : cs.kind = .function) (e1 : s.heap.get? D1 = some (T2 x1 y1 t1 t1' c1)) (e2 : s.heap.get? D2 = some (T2 x2 y2 t2 t2' c2))
    (hd : dp + 3 < recursionLimit) (hu : un + 24 < cLine) (hy : y1 ≠ 0) (hz : x2 ≠ 0) (b1 : Builtin.Int.intBits x1 ≤ n1) (b2 : Builtin.Int.intBits y1 ≤ k1) (b3 : Builtin.Int.intBits x2 ≤ n2) (b4 : Builtin.Int.intBits y2 ≤ k2) (hbu : n1 + k2 ≤ 6643) (hbl : k1 + n2 ≤ 6643)
    (hret : ∀ (r : Rat) (D : Addr) (t t' : Tok) (c : Nat) (h' : Heap) (tk' : Nat), r = Rat.divInt (x1 * y2) (y1 * x2) → Builtin.Int.intBits r.num ≤ n1 + k2 → Builtin.Int.intBits (r.den : Int) ≤ k1 + n2 → Fr h₀ L h' m → News h₀ L h' ((D, RatO r t t' c) :: news) → (∀ p ∈ news, p.1 ≠ D) → Q (.ref D) { s with heap := h', toks := tk' }) :
    wpAny (model Challenge.rw_ui0509_16.row.prog w) (ktrTop dp un gd cn cs L a ccd cl outer) (call (.ref 108) [.ref D1, .ref D2]) Q E s :=
  over_c B F X N T hk e1 e2 hd hu (nzmul hy hz) hz (mulOk_of_bits b1 b4 (by omega)) (mulOk_of_bits b2 b3 (by omega)) (Fits.of (bits_mul b1 b4) hbu) (Fits.of (bits_mul b2 b3) hbl) fun r D t t' c h' tk' e F' N' l => hret r D t t' c h' tk' e (e ▸ bits_num (bits_mul b1 b4)) (e ▸ bits_den (nzmul hy hz) (bits_mul b2 b3)) F' N' l
theorem less_u {w : World} {a : Addr} {A₀ : Around} {base h₀ : Heap} {L : Addr} {m : Str → Option Value} {news : List (Addr × Obj)} {s : Shared} {Q E : Value → Shared → Prop} {D1 D2 : Addr} {x1 y1 x2 y2 : Int} {t1 t1' t2 t2' : Tok} {c1 c2 : Nat} {n1 k1 n2 k2 : Nat} 
    (B : Below A₀ base outer h₀) (F : Fr h₀ L s.heap m) (X : (HD.K w.params).In h₀) (N : News h₀ L s.heap news) (T : Top p loose mean mg mb h₀) (hk : cs.kind = .function) (e1 : s.heap.get? D1 = some (T2 x1 y1 t1 t1' c1)) (e2 : s.heap.get? D2 = some (T2 x2 y2 t2 t2' c2))
    (hd : dp + 3 < recursionLimit) (hu : un + 24 < cLine) (b1 : Builtin.Int.intBits x1 ≤ n1) (b2 : Builtin.Int.intBits y1 ≤ k1) (b3 : Builtin.Int.intBits x2 ≤ n2) (b4 : Builtin.Int.intBits y2 ≤ k2) (hbu : n1 + k2 ≤ 100000) (hbl : n2 + k1 ≤ 100000)
    (hret : ∀ (h' : Heap) (tk' : Nat), Fr h₀ L h' m → News h₀ L h' news → Q (.bool (decide (x1 * y2 < x2 * y1))) { s with heap := h', toks := tk' }) :
    wpAny (model Challenge.rw_ui0509_16.row.prog w) (ktrTop dp un gd cn cs L a ccd cl outer) (call (.ref 115) [.ref D1, .ref D2]) Q E s :=
  less_c B F X N T hk e1 e2 hd hu (mulOk_of_bits b1 b4 (by omega)) (mulOk_of_bits b3 b2 (by omega)) hret
theorem frac_sf {w : World} {a : Addr} {A₀ : Around} {base h₀ : Heap} {L : Addr} {m : Str → Option Value} {news : List (Addr × Obj)} {s : Shared} {Q E : Value → Shared → Prop} {r : Rat} {t1 t2 : Tok} 
    (B : Below A₀ base outer h₀) (F : Fr h₀ L s.heap m) (X : (HD.K w.params).In h₀) (N : News h₀ L s.heap news) (T : Top p loose mean mg mb h₀) (hk : cs.kind = .function)
    (hd : dp + 2 < recursionLimit) (hu : un + 16 < cLine) (hx1 : Fits r.num) (hy1 : Fits (r.den : Int))
    (hret : ∀ (D : Addr) (t t' : Tok) (c : Nat) (h' : Heap) (tk' : Nat), Fr h₀ L h' m → News h₀ L h' ((D, RatO r t t' c) :: news) → (∀ p ∈ news, p.1 < D) → Q (.ref D) { s with heap := h', toks := tk' }) :
    wpAny (model Challenge.rw_ui0509_16.row.prog w) (ktrTop dp un gd cn cs L a ccd cl outer) (call (.ref 72) [.int r.num t1, .int (r.den : Int) t2]) Q E s :=
  frac_c dp un gd cn cs a ccd cl outer A₀ base h₀ L m news s Q E r.num r.den t1 t2 B F X N T hk hd hu (nzden r) hx1 hy1 fun r' D t t' c h' tk' e F' N' l => hret D t t' c h' tk' F' (by
    rw [Rat.num_divInt_den] at e
    subst e
    exact N') l
theorem ne_T2h {prog : Program} {w : World} {A : Around} {E : Value → Shared → Prop} {s : Shared} {D1 D2 : Addr} {x1 y1 x2 y2 : Int} {t1 t1' t2 t2' : Tok} {c1 c2 : Nat} {Q : Value → Shared → Prop}
    (e1 : s.heap.get? D1 = some (T2 x1 y1 t1 t1' c1)) (e2 : s.heap.get? D2 = some (T2 x2 y2 t2 t2' c2)) (hu : A.units + 64 < cLine) (h : Q (.bool (!(x1 == x2 && y1 == y2))) s) : wpAny (model prog w) A (compareOp .NotEq (.ref D1) (.ref D2)) Q E s := by
  refine ne_dataH (reads_tuple_at e1 rfl rfl (ReadsAll.cons (Reads.int _ _) (ReadsAll.cons (Reads.int _ _) ReadsAll.nil))) (reads_tuple_at e2 rfl rfl (ReadsAll.cons (Reads.int _ _) (ReadsAll.cons (Reads.int _ _) ReadsAll.nil))) (by ke_shaped) (by ke_shaped) hu ?_
  ke_norm
  exact h
end Mine
open Mine
local macro_rules | `(tactic| walk_at "i2") => `(tactic| (intro D' t' u' c' h' tk' F' N' l1))
local macro_rules | `(tactic| walk_at "i3") => `(tactic| (intro h' tk' F' N'))
namespace Mine
section
theorem words4 : True := by
  k_with_none
  k_with "k_in" => (refine' in_of ?z4fF ?z4fX; (case z4fF | z4fX => k_asm))
  k_with "subscriptTail" => (k_here; (with_reducible show wpAny _ _ (subscriptTail _ _ (Value.ref _) (Value.int _ _)) _ _ _); k_dflt (refine' tup_g ?z8k1 ?z8k2 ?z8k3 ?z8k4 ?z8k5 ?z8k6 ?z8k7 ?z8k8 ?_ ?z8k9 ?z8k10; (case z8k1 => k_asm); (case z8k2 => with_reducible assumption); (case z8k3 | z8k4 => exact rfl); (case z8k5 | z8k6 => decide); (case z8k7 | z8k8 => exact rfl); (case z8k9 => with_unfolding_all rfl); (case z8k10 => (intro _; with_unfolding_all rfl)); k_whole))
  k_with "call type:type" => (k_here; (with_reducible show wpAny _ _ (call (Value.type "type") [Value.ref _]) _ _ _); k_dflt (refine' kto_cont (T := "tuple") ?z9c ?z9n ?_; (case z9c => exact ⟨_, Fr.keep (by k_asm) _ _ (by assumption), rfl⟩); (case z9n => decide +kernel); k_whole))
  k_with "call builtin:len" => (k_here; (with_reducible show wpAny _ _ (call (Value.builtin "len") [Value.ref _]) _ _ _); k_dflt (refine' kun_lenT (k := 2) ?z10k1 ?z10k2 ?z10k3 ?_; (case z10k1 => exact ⟨_, Fr.keep (by k_asm) _ _ (by assumption), rfl, _, rfl⟩); (case z10k2 => exact rfl); (case z10k3 => decide); k_whole))
  k_with "binaryOp Mult int int" => (with_reducible refine mul_int ?_ ?z11mo; (case z11mo => assumption))
  k_with "call ref" => (k_here; (with_reducible show wpAny _ _ (call (Value.ref 72) [Value.int _ _, Value.int _ _]) _ _ _); k_dflt (refine' frac_sf ?z12k1 ?z12k2 ?z12k3 ?z12k4 ?z12k5 ?z12k6 ?z12k7 ?z12k8 ?z12k10 ?z12k11 ?_; (case z12k1 | z12k2 | z12k3 | z12k4 | z12k5 => k_asm); (case z12k6 => first | exact rfl | assumption); (case z12k7 => ktr_room); (case z12k8 => ktr_units); (case z12k10 | z12k11 => assumption); k_whole); walk_at "i2"; (try k_sweep))
  k_with "call ref" => (k_here; (with_reducible show wpAny _ _ (call (Value.ref 115) [Value.ref _, Value.ref _]) _ _ _); k_dflt (refine' less_c ?z13k1 ?z13k2 ?z13k3 ?z13k4 ?z13k5 ?z13k6 ?z13m1 ?z13m2 ?z13k7 ?z13k8 ?z13k10 ?z13k11 ?_; (case z13k1 | z13k2 | z13k3 | z13k4 | z13k5 => k_asm); (case z13k6 => first | exact rfl | assumption); (case z13m1 | z13m2 => exact Fr.keep (by k_asm) _ _ (by with_reducible assumption)); (case z13k7 => ktr_room); (case z13k8 => ktr_units); (case z13k10 | z13k11 => assumption); k_whole); walk_at "i3"; (try k_sweep))
  k_with "compareOp NotEq ref ref" => (k_here; (with_reducible show wpAny _ _ (compareOp CmpOp.NotEq (Value.ref _) (Value.ref _)) _ _ _); k_dflt (refine' ne_T2h ?z14k2 ?z14k3 ?z14k4 ?_; (case z14k2 | z14k3 => first | exact Fr.keep (by k_asm) _ _ (by with_reducible assumption) | exact News.get (by k_asm) (by k_mem)); (case z14k4 => first | exact Nat.le_of_ble_eq_true rfl | ktr_units)); (try simp only [beq_self_eq_true, Bool.and_true, Bool.true_and, Bool.not_true, Bool.not_false]))
  trivial
theorem need_c {w : World} {a : Addr} {A₀ : Around} {base h₀ : Heap} {L : Addr} {m : Str → Option Value} {news : List (Addr × Obj)} {s : Shared} {Q E : Value → Shared → Prop} {D1 : Addr} {r : Rat} {t1 t1' : Tok} {c1 : Nat} 
    (B : Below A₀ base outer h₀) (F : Fr h₀ L s.heap m) (X : (HD.K w.params).In h₀) (N : News h₀ L s.heap news) (T : Top p loose mean mg mb h₀) (hk : cs.kind = .function) (e1 : s.heap.get? D1 = some (RatO r t1 t1' c1))
    (hd : dp + 4 < recursionLimit) (hu : un + 100 < cLine) (hx1 : Fits r.num) (hy1 : Fits (r.den : Int))
    (hret : ∀ (h' : Heap) (tk' : Nat), Fr h₀ L h' m → News h₀ L h' news → Q (.ref D1) { s with heap := h', toks := tk' }) :
    wpAny (model Challenge.rw_ui0509_16.row.prog w) (ktrTop dp un gd cn cs L a ccd cl outer) (call (.ref 80) [.ref D1]) Q E s := by
  w_top off
  revert X; k_fill; intro X
  refine wpAny_call ?_
  k_dflt (refine' code_need [] ?k1 ?k2 ?k3 ?k4 ?k5 ?kA ?kF ?kK ?k6 ?k7 ?k8 ?k9 ?kB ?kN ?_ ?c2 ?c3 ?c4 ?c5; walk_at "en0"; (case kN => exact fun _ h => nomatch h); walk_at "en1")
  replace e1 := hG' _ _ e1 (by simp)
  k_steps
  all_goals (refine leaveN_ (by k_asm) (by k_asm) ?_; intro kF kN kR kD; (try dsimp only); exact hret _ _ kF (news_all kR))
theorem need_n {w : World} {a : Addr} {A₀ : Around} {base h₀ : Heap} {L : Addr} {m : Str → Option Value} {news : List (Addr × Obj)} {s : Shared} {Q E : Value → Shared → Prop} {D1 : Addr} {r : Rat} {t1 t1' : Tok} {c1 : Nat} {D2 : Addr} {x2 y2 : Int} {t2 t2' : Tok} {c2 : Nat} 
    (B : Below A₀ base outer h₀) (F : Fr h₀ L s.heap m) (X : (HD.K w.params).In h₀) (N : News h₀ L s.heap news) (T : Top p loose mean mg mb h₀) (hk : cs.kind = .function) (e1 : s.heap.get? D1 = some (RatO r t1 t1' c1)) (e2 : s.heap.get? D2 = some (T2 x2 y2 t2 t2' c2)) (m0 : IntMulOk r.num y2) (m1 : IntMulOk x2 (r.den : Int)) (hl : ¬ (r.num * y2 < x2 * (r.den : Int)))
    (hd : dp + 4 < recursionLimit) (hu : un + 100 < cLine) (hx1 : Fits r.num) (hy1 : Fits (r.den : Int))
    (hret : ∀ (h' : Heap) (tk' : Nat), Fr h₀ L h' m → News h₀ L h' news → Q (.ref D1) { s with heap := h', toks := tk' }) :
    wpAny (model Challenge.rw_ui0509_16.row.prog w) (ktrTop dp un gd cn cs L a ccd cl outer) (call (.ref 80) [.ref D1, .ref D2]) Q E s := by
  w_top off
  revert X; k_fill; intro X
  refine wpAny_call ?_
  k_dflt (refine' code_need [] ?k1 ?k2 ?k3 ?k4 ?k5 ?kA ?kF ?kK ?k6 ?k7 ?k8 ?k9 ?kB ?kN ?_ ?c2 ?c3 ?c4 ?c5; walk_at "en0"; (case kN => exact fun _ h => nomatch h); walk_at "en1")
  replace e1 := hG' _ _ e1 (by simp)
  replace e2 := hG' _ _ e2 (by simp)
  k_steps
  all_goals (refine leaveN_ (by k_asm) (by k_asm) ?_; intro kF kN kR kD; (try dsimp only); exact hret _ _ kF (news_all kR))
end
theorem need_cu {w : World} {a : Addr} {A₀ : Around} {base h₀ : Heap} {L : Addr} {m : Str → Option Value} {news : List (Addr × Obj)} {s : Shared} {Q E : Value → Shared → Prop} {D1 : Addr} {r : Rat} {t1 t1' : Tok} {c1 : Nat} {nx ny : Nat} 
    (B : Below A₀ base outer h₀) (F : Fr h₀ L s.heap m) (X : (HD.K w.params).In h₀) (N : News h₀ L s.heap news) (T : Top p loose mean mg mb h₀) (hk : cs.kind = .function) (e1 : s.heap.get? D1 = some (RatO r t1 t1' c1))
    (hd : dp + 4 < recursionLimit) (hu : un + 100 < cLine) (b1 : Builtin.Int.intBits r.num ≤ nx) (b2 : Builtin.Int.intBits (r.den : Int) ≤ ny) (hnx : nx ≤ 6643) (hny : ny ≤ 6643)
    (hret : ∀ (h' : Heap) (tk' : Nat), Fr h₀ L h' m → News h₀ L h' news → Q (.ref D1) { s with heap := h', toks := tk' }) :
    wpAny (model Challenge.rw_ui0509_16.row.prog w) (ktrTop dp un gd cn cs L a ccd cl outer) (call (.ref 80) [.ref D1]) Q E s :=
  need_c B F X N T hk e1 hd hu (Fits.of b1 hnx) (Fits.of b2 hny) hret
theorem need_cz {w : World} {a : Addr} {A₀ : Around} {base h₀ : Heap} {L : Addr} {m : Str → Option Value} {news : List (Addr × Obj)} {s : Shared} {Q E : Value → Shared → Prop} {D1 : Addr} {x1 : Int} {t1 t1' : Tok} {c1 : Nat} {nx : Nat} 
    (B : Below A₀ base outer h₀) (F : Fr h₀ L s.heap m) (X : (HD.K w.params).In h₀) (N : News h₀ L s.heap news) (T : Top p loose mean mg mb h₀) (hk : cs.kind = .function) (e1 : s.heap.get? D1 = some (T2 x1 1 t1 t1' c1))
    (hd : dp + 4 < recursionLimit) (hu : un + 100 < cLine) (b1 : Builtin.Int.intBits x1 ≤ nx) (hnx : nx ≤ 6643)
    (hret : ∀ (h' : Heap) (tk' : Nat), Fr h₀ L h' m → News h₀ L h' news → Q (.ref D1) { s with heap := h', toks := tk' }) :
    wpAny (model Challenge.rw_ui0509_16.row.prog w) (ktrTop dp un gd cn cs L a ccd cl outer) (call (.ref 80) [.ref D1]) Q E s :=
  need_c (r := (x1 : Rat)) (t1 := t1) (t1' := t1') (c1 := c1) B F X N T hk e1 hd hu (Fits.of b1 hnx) fits_one hret
theorem need_nz {w : World} {a : Addr} {A₀ : Around} {base h₀ : Heap} {L : Addr} {m : Str → Option Value} {news : List (Addr × Obj)} {s : Shared} {Q E : Value → Shared → Prop} {D1 D2 : Addr} {x1 x2 : Int} {t1 t1' t2 t2' : Tok} {c1 c2 : Nat} {nx n2 : Nat} 
    (B : Below A₀ base outer h₀) (F : Fr h₀ L s.heap m) (X : (HD.K w.params).In h₀) (N : News h₀ L s.heap news) (T : Top p loose mean mg mb h₀) (hk : cs.kind = .function) (e1 : s.heap.get? D1 = some (T2 x1 1 t1 t1' c1)) (e2 : s.heap.get? D2 = some (T2 x2 1 t2 t2' c2))
    (hd : dp + 4 < recursionLimit) (hu : un + 100 < cLine) (b1 : Builtin.Int.intBits x1 ≤ nx) (b2 : Builtin.Int.intBits x2 ≤ n2) (hnx : nx ≤ 6643) (hn2 : n2 ≤ 6643) (hl : x2 ≤ x1)
    (hret : ∀ (h' : Heap) (tk' : Nat), Fr h₀ L h' m → News h₀ L h' news → Q (.ref D1) { s with heap := h', toks := tk' }) :
    wpAny (model Challenge.rw_ui0509_16.row.prog w) (ktrTop dp un gd cn cs L a ccd cl outer) (call (.ref 80) [.ref D1, .ref D2]) Q E s :=
  need_n (r := (x1 : Rat)) (t1 := t1) (t1' := t1') (c1 := c1) B F X N T hk e1 e2 (mulOk_of_bits b1 bits_one (by omega)) (mulOk_of_bits b2 bits_one (by omega)) (by show ¬ (x1 * 1 < x2 * 1); omega) hd hu (Fits.of b1 hnx) fits_one hret
structure Bd (n : Nat) (r : Rat) : Prop where
  num : Builtin.Int.intBits r.num ≤ n
  den : Builtin.Int.intBits (r.den : Int) ≤ n
theorem Bd.mono {n k : Nat} {r : Rat} (h : Bd n r) (hk : n ≤ k) : Bd k r := ⟨Nat.le_trans h.num hk, Nat.le_trans h.den hk⟩
theorem Bd.int {n : Nat} {x : Int} (h : Builtin.Int.intBits x ≤ n) (h1 : 1 ≤ n) : Bd n (x : Rat) := ⟨h, Nat.le_trans bits_one h1⟩
theorem bits_zero : Builtin.Int.intBits 0 ≤ 1 := by decide
theorem Bd.zero {n : Nat} (h : 1 ≤ n) : Bd n (0 : Rat) := Bd.int (x := 0) (Nat.le_trans bits_zero h) h
theorem nznum {r : Rat} (h : r ≠ 0) : r.num ≠ 0 := fun e => h (Rat.num_eq_zero.mp e)
theorem Bd.fits {n : Nat} {r : Rat} (h : Bd n r) (hn : n ≤ 6643) : Fits r.num ∧ Fits (r.den : Int) := ⟨Fits.of h.num hn, Fits.of h.den hn⟩
theorem plus_r {w : World} {a : Addr} {A₀ : Around} {base h₀ : Heap} {L : Addr} {m : Str → Option Value} {news : List (Addr × Obj)} {s : Shared} {Q E : Value → Shared → Prop} {D1 D2 : Addr} {r1 r2 : Rat} {t1 t1' t2 t2' : Tok} {c1 c2 n k : Nat} 
    (B : Below A₀ base outer h₀) (F : Fr h₀ L s.heap m) (X : (HD.K w.params).In h₀) (N : News h₀ L s.heap news) (T : Top p loose mean mg mb h₀) (hk : cs.kind = .function) (e1 : s.heap.get? D1 = some (RatO r1 t1 t1' c1)) (e2 : s.heap.get? D2 = some (RatO r2 t2 t2' c2))
    (hd : dp + 3 < recursionLimit) (hu : un + 24 < cLine) (b1 : Bd n r1) (b2 : Bd k r2) (hb : n + k + 1 ≤ 6643)
    (hret : ∀ (D : Addr) (t t' : Tok) (c : Nat) (h' : Heap) (tk' : Nat), Bd (n + k + 1) (r1 + r2) → Fr h₀ L h' m → News h₀ L h' ((D, RatO (r1 + r2) t t' c) :: news) → (∀ p ∈ news, p.1 ≠ D) → Q (.ref D) { s with heap := h', toks := tk' }) :
    wpAny (model Challenge.rw_ui0509_16.row.prog w) (ktrTop dp un gd cn cs L a ccd cl outer) (call (.ref 87) [.ref D1, .ref D2]) Q E s :=
  plus_u B F X N T hk e1 e2 hd hu (nzden r1) (nzden r2) b1.num b1.den b2.num b2.den (by omega) (by omega) fun r D t t' c h' tk' e bn bd F' N' l => by
    have e' : r = r1 + r2 := e.trans (r_plus r1 r2)
    subst e'
    exact hret D t t' c h' tk' ⟨Nat.le_trans bn (by omega), Nat.le_trans bd (by omega)⟩ F' N' l
theorem times_r {w : World} {a : Addr} {A₀ : Around} {base h₀ : Heap} {L : Addr} {m : Str → Option Value} {news : List (Addr × Obj)} {s : Shared} {Q E : Value → Shared → Prop} {D1 D2 : Addr} {r1 r2 : Rat} {t1 t1' t2 t2' : Tok} {c1 c2 n k : Nat} 
    (B : Below A₀ base outer h₀) (F : Fr h₀ L s.heap m) (X : (HD.K w.params).In h₀) (N : News h₀ L s.heap news) (T : Top p loose mean mg mb h₀) (hk : cs.kind = .function) (e1 : s.heap.get? D1 = some (RatO r1 t1 t1' c1)) (e2 : s.heap.get? D2 = some (RatO r2 t2 t2' c2))
    (hd : dp + 3 < recursionLimit) (hu : un + 24 < cLine) (b1 : Bd n r1) (b2 : Bd k r2) (hb : n + k ≤ 6643)
    (hret : ∀ (D : Addr) (t t' : Tok) (c : Nat) (h' : Heap) (tk' : Nat), Bd (n + k) (r1 * r2) → Fr h₀ L h' m → News h₀ L h' ((D, RatO (r1 * r2) t t' c) :: news) → (∀ p ∈ news, p.1 ≠ D) → Q (.ref D) { s with heap := h', toks := tk' }) :
    wpAny (model Challenge.rw_ui0509_16.row.prog w) (ktrTop dp un gd cn cs L a ccd cl outer) (call (.ref 101) [.ref D1, .ref D2]) Q E s :=
  times_u B F X N T hk e1 e2 hd hu (nzden r1) (nzden r2) b1.num b1.den b2.num b2.den (by omega) (by omega) fun r D t t' c h' tk' e bn bd F' N' l => by
    have e' : r = r1 * r2 := e.trans (r_times r1 r2)
    subst e'
    exact hret D t t' c h' tk' ⟨Nat.le_trans bn (by omega), Nat.le_trans bd (by omega)⟩ F' N' l
theorem over_r {w : World} {a : Addr} {A₀ : Around} {base h₀ : Heap} {L : Addr} {m : Str → Option Value} {news : List (Addr × Obj)} {s : Shared} {Q E : Value → Shared → Prop} {D1 D2 : Addr} {r1 r2 : Rat} {t1 t1' t2 t2' : Tok} {c1 c2 n k : Nat} 
    (B : Below A₀ base outer h₀) (F : Fr h₀ L s.heap m) (X : (HD.K w.params).In h₀) (N : News h₀ L s.heap news) (T : Top p loose mean mg mb h₀) (hk : cs.kind = .function) (e1 : s.heap.get? D1 = some (RatO r1 t1 t1' c1)) (e2 : s.heap.get? D2 = some (RatO r2 t2 t2' c2))
    (hd : dp + 3 < recursionLimit) (hu : un + 24 < cLine) (b1 : Bd n r1) (b2 : Bd k r2) (hz : r2 ≠ 0) (hb : n + k ≤ 6643)
    (hret : ∀ (D : Addr) (t t' : Tok) (c : Nat) (h' : Heap) (tk' : Nat), Bd (n + k) (r1 / r2) → Fr h₀ L h' m → News h₀ L h' ((D, RatO (r1 / r2) t t' c) :: news) → (∀ p ∈ news, p.1 ≠ D) → Q (.ref D) { s with heap := h', toks := tk' }) :
    wpAny (model Challenge.rw_ui0509_16.row.prog w) (ktrTop dp un gd cn cs L a ccd cl outer) (call (.ref 108) [.ref D1, .ref D2]) Q E s :=
  over_u B F X N T hk e1 e2 hd hu (nzden r1) (nznum hz) b1.num b1.den b2.num b2.den (by omega) (by omega) fun r D t t' c h' tk' e bn bd F' N' l => by
    have e' : r = r1 / r2 := e.trans (r_over r1 r2)
    subst e'
    exact hret D t t' c h' tk' ⟨Nat.le_trans bn (by omega), Nat.le_trans bd (by omega)⟩ F' N' l
theorem less_r {w : World} {a : Addr} {A₀ : Around} {base h₀ : Heap} {L : Addr} {m : Str → Option Value} {news : List (Addr × Obj)} {s : Shared} {Q E : Value → Shared → Prop} {D1 D2 : Addr} {r1 r2 : Rat} {t1 t1' t2 t2' : Tok} {c1 c2 n k : Nat} 
    (B : Below A₀ base outer h₀) (F : Fr h₀ L s.heap m) (X : (HD.K w.params).In h₀) (N : News h₀ L s.heap news) (T : Top p loose mean mg mb h₀) (hk : cs.kind = .function) (e1 : s.heap.get? D1 = some (RatO r1 t1 t1' c1)) (e2 : s.heap.get? D2 = some (RatO r2 t2 t2' c2))
    (hd : dp + 3 < recursionLimit) (hu : un + 24 < cLine) (b1 : Bd n r1) (b2 : Bd k r2) (hb : n + k ≤ 100000)
    (hret : ∀ (h' : Heap) (tk' : Nat), Fr h₀ L h' m → News h₀ L h' news → Q (.bool (decide (r1 < r2))) { s with heap := h', toks := tk' }) :
    wpAny (model Challenge.rw_ui0509_16.row.prog w) (ktrTop dp un gd cn cs L a ccd cl outer) (call (.ref 115) [.ref D1, .ref D2]) Q E s :=
  less_u B F X N T hk e1 e2 hd hu b1.num b1.den b2.num b2.den (by omega) (by omega) fun h' tk' F' N' => by
    have e : decide (r1.num * (r2.den : Int) < r2.num * (r1.den : Int)) = decide (r1 < r2) := decide_eq_decide.mpr (Rat.lt_iff r1 r2).symm
    rw [e]
    exact hret h' tk' F' N'
inductive All2 {α β : Type} (R : α → β → Prop) : List α → List β → Prop
  | nil : All2 R [] []
  | cons {a : α} {b : β} {as : List α} {bs : List β} : R a b → All2 R as bs → All2 R (a :: as) (b :: bs)
section
variable {α β : Type} {R S : α → β → Prop} {as cs : List α} {bs ds : List β} {a : α} {b : β}
theorem All2.length (h : All2 R as bs) : as.length = bs.length := by
  induction h with
  | nil => rfl
  | cons _ _ ih => rw [List.length_cons, List.length_cons, ih]
theorem All2.mono (hs : ∀ a b, R a b → S a b) (h : All2 R as bs) : All2 S as bs := by
  induction h with
  | nil => exact .nil
  | cons h _ ih => exact .cons (hs _ _ h) ih
theorem All2.append (h : All2 R as bs) (k : All2 R cs ds) : All2 R (as ++ cs) (bs ++ ds) := by
  induction h with
  | nil => exact k
  | cons h _ ih => exact .cons h ih
theorem All2.snoc (h : All2 R as bs) (k : R a b) : All2 R (as ++ [a]) (bs ++ [b]) := h.append (.cons k .nil)
theorem All2.get (h : All2 R as bs) {i : Nat} (ha : as[i]? = some a) : ∃ b, bs[i]? = some b ∧ R a b := by
  induction h generalizing i with
  | nil => simp at ha
  | cons h _ ih =>
    cases i with
    | zero => exact ⟨_, rfl, by simp at ha; rw [← ha]; exact h⟩
    | succ i => exact ih (by simpa using ha)
theorem All2.at (h : All2 R as bs) {i : Nat} (hb : bs[i]? = some b) : ∃ a, as[i]? = some a ∧ R a b := by
  induction h generalizing i with
  | nil => simp at hb
  | cons h _ ih =>
    cases i with
    | zero => exact ⟨_, rfl, by simp at hb; rw [← hb]; exact h⟩
    | succ i => exact ih (by simpa using hb)
theorem All2.reverse (h : All2 R as bs) : All2 R as.reverse bs.reverse := by
  induction h with
  | nil => exact .nil
  | cons h _ ih => rw [List.reverse_cons, List.reverse_cons]; exact ih.snoc h
theorem All2.set (h : All2 R as bs) (k : R a b) (i : Nat) : All2 R (as.set i a) (bs.set i b) := by
  induction h generalizing i with
  | nil => exact .nil
  | cons h r ih =>
    cases i with
    | zero => exact .cons k r
    | succ i => exact .cons h (ih i)
end
section
variable {prog : Program} {w : World} {A : Around} {E : Value → Shared → Prop} {s : Shared} {env : Env} {h₀ : Heap} {target : Expr} {body : List Stmt} {Q : Flow → Shared → Prop}
theorem items_ind {I : Addr} {cl : String} {keep : List (Addr × Obj)} {xs : List Itm} (J : Nat → (Str → Option Value) → List (Addr × Obj) → Prop)
    (turn : ∀ i a v m news h tk (o : Obj), xs[i]? = some a → SubL keep news → (∀ p ∈ news, p.1 ≠ I) → J i m news → a.Is v h → Fr h₀ env.locals h m → o.cls = .type cl → News h₀ env.locals h ((I, o) :: news) →
      wpAny (model prog w) A (assign target env v) (fun _ s₂ => wpAny (model prog w) A (execs body env) (UnrPostW h₀ env.locals { s with heap := h, toks := tk } [(I, o)] (fun m' n' => SubL keep n' ∧ J (i + 1) m' n') Q) E s₂) E { s with heap := h, toks := tk })
    (done : ∀ m news h tk, J xs.length m news → Fr h₀ env.locals h m → News h₀ env.locals h news → Q .next { s with heap := h, toks := tk }) :
    ∀ (ys : List Itm) (i : Nat) (m : Str → Option Value) (news : List (Addr × Obj)), xs.drop i = ys → i ≤ xs.length → SubL keep news → (∀ p ∈ news, p.1 ≠ I) → J i m news → ItemsRest prog w A E h₀ env target body Q s [(I, cl)] keep ys m news := by
  intro ys
  induction ys with
  | nil =>
    intro i m news hd hi _ _ hJ h tk F N
    have : i = xs.length := by
      have := congrArg List.length hd
      rw [List.length_drop, List.length_nil] at this
      omega
    subst this
    exact done m news h tk hJ F N
  | cons a ys ih =>
    intro i m news hd hi hk hI hJ v h tk hv F
    refine AllObj.cons fun o ho => AllObj.nil fun N => ?_
    have hlt : i < xs.length := by
      have := congrArg List.length hd
      rw [List.length_drop, List.length_cons] at this
      omega
    have ha : xs[i]? = some a := by
      have := congrArg (fun l => l[0]?) hd
      simpa [List.getElem?_drop] using this
    have hd' : xs.drop (i + 1) = ys := by
      have := congrArg List.tail hd
      simpa [List.tail_drop] using this
    have fin : ∀ s₃, UnrEndW h₀ env.locals { s with heap := h, toks := tk } [(I, o)] (fun m' n' => SubL keep n' ∧ J (i + 1) m' n') s₃ →
        UnrEndW h₀ env.locals { s with heap := h, toks := tk } [(I, o)] (fun m' n' => SubL keep n' ∧ ItemsRest prog w A E h₀ env target body Q s [(I, cl)] keep ys m' n') s₃ := by
      rintro s₃ ⟨h', tk', m', news', e, F', N', ho', hk', hJ'⟩
      exact ⟨h', tk', m', news', e, F', N', ho', hk', ih (i + 1) m' news' hd' hlt hk' (fun p hp => ho' p hp (I, o) cS9) hJ'⟩
    refine wpAny_mono (turn i a v m news h tk o ha hk hI hJ hv F ho N) (fun _ s₂ h₂ => wpAny_mono h₂ (fun f s₃ p => ?_) fun _ _ e => e) fun _ _ e => e
    cases f with
    | ret v => exact p
    | brk => exact p
    | next => exact fin _ p
    | cont => exact fin _ p
theorem unr_end {L I : Addr} {o : Obj} {rest : (Str → Option Value) → List (Addr × Obj) → Prop} {s₁ : Shared} {h' : Heap} {tk : Nat} {m' : Str → Option Value} {all : List (Addr × Obj)} (news' : List (Addr × Obj)) (F : Fr h₀ L h' m') (N : News h₀ L h' all)
    (hI : (I, o) ∈ all) (hs : ∀ p ∈ news', p ∈ all) (hne : ∀ p ∈ news', p.1 ≠ I) (r : rest m' news') : UnrEndW h₀ L s₁ [(I, o)] rest { s₁ with heap := h', toks := tk } :=
  ⟨h', tk, m', news', rfl, F, fun p hp => by
    rcases List.mem_append.mp hp with hp | hp
    · rw [List.mem_singleton.mp hp]; exact N _ hI
    · exact N p (hs p hp), fun p hp q hq => by rw [List.mem_singleton.mp hq]; exact hne p hp, r⟩
theorem iter_baseTurns {ax : Addr} {lo : Obj} {vs : List Value} {n : Nat} {m₀ : Str → Option Value} {news : List (Addr × Obj)}
    (hh : A.handled = none) (F : Fr h₀ env.locals s.heap m₀) (N : News h₀ env.locals s.heap news) (hg : h₀.get? ax = some lo) (hc : lo.cls = .type "list") (hd : lo.data = .seq vs.toArray n)
    (rest₀ : ∀ I : Addr, (∀ p ∈ news, p.1 < I) → ItemsRest prog w A E h₀ env target body Q s [(I, "list_iterator")] [] (vs.map .val) m₀ news) :
    wpAny (model prog w) A (pyIter (.ref ax)) (fun it s₂ => TurnsAt prog w A h₀ env target body Q E it s₂) E s := by
  have hax : s.heap.get? ax = some lo := F.keep _ _ hg
  have hl : s.heap.IsList ax vs.toArray := ⟨lo, hax, hc, n, hd⟩
  have hne : ax ≠ s.heap.objs.size := Nat.ne_of_lt (Heap.lt_size hax)
  refine wpAny_pyIter_list hl ?_
  refine ktg_core (tk0 := s.toks) (keep := []) (KTurns.ofWalks (Walks.list hh s.heap.objs.size ax hne vs.toArray) fun i v s Q E st q => letGo_listiter st.1 q) (by simp) (fun i v h hp => ⟨.val v, ?_, rfl⟩) (fun i h st => ?_) (fun b hb => ?_) (fun b hb => by simpa using hb) (fun b hb => ?_) ?_ (fun p hp hI => ?_) ?_ (F.push _) (fun p hp => ⟨Heap.get?_push_of_some _ (N p hp).1, (N p hp).2⟩) trivial (rest₀ _ fun p hp => Heap.lt_size (N p hp).1)
  · have hp' : vs.toArray[i]? = some v := hp
    simpa using hp'
  · obtain ⟨it, hit, hic, _⟩ := st.1
    exact ⟨[(s.heap.objs.size, it)], ⟨⟨rfl, hic⟩, trivial⟩, fun p hp => by rw [List.mem_singleton.mp hp]; exact hit⟩
  · have hb' : b = s.heap.objs.size := by simpa using hb
    rw [hb']
    exact ⟨cS9, next_is_new F⟩
  · have hb' : b = s.heap.objs.size ∨ b = ax := by simpa using hb
    rcases hb' with e | e
    · exact .inl (by simp [e])
    · exact .inr (.inr ⟨lo, by rw [e]; exact hg⟩)
  · intro hI
    rcases List.mem_cons.mp hI with e | hI
    · exact absurd F.ns.lt (e ▸ Nat.lt_irrefl _)
    · have e : env.locals = ax := List.mem_singleton.mp hI
      exact absurd (Heap.lt_size hg) (Nat.not_lt.mpr (e ▸ F.above))
  · exact absurd (Heap.lt_size (N p hp).1) ((List.mem_singleton.mp hI) ▸ Nat.lt_irrefl _)
  · exact ⟨⟨_, Heap.get?_push_size _ rfl, rfl, rfl⟩, hl.at fun o e => Heap.get?_push_of_some _ e⟩
def rangeItems (a : Int) (n : Nat) : List Itm := (List.range n).map fun (i : Nat) => Itm.tok fun t => Value.int (a + (i : Int)) t
theorem rangeItems_length (a : Int) (n : Nat) : (rangeItems a n).length = n := by simp [rangeItems]
theorem rangeItems_get {a : Int} {n i : Nat} {x : Itm} (h : (rangeItems a n)[i]? = some x) : i < n ∧ x = .tok fun t => .int (a + (i : Int)) t := by
  unfold rangeItems at h
  rw [List.getElem?_map] at h
  obtain ⟨j, hj, e⟩ := Option.map_eq_some_iff.mp h
  obtain ⟨h1, h2⟩ := List.getElem?_eq_some_iff.mp hj
  rw [List.getElem_range] at h2
  subst h2
  exact ⟨by simpa using h1, e.symm⟩
theorem iter_rangeTurns {x : Str} {px : Pos} {r : Addr} {a₀ b₀ : Int} {t₀ u₀ v₀ : Tok} {n : Nat} {m₀ : Str → Option Value} {news : List (Addr × Obj)}
    (hh : A.handled = none) (hr : IsRange s.heap r a₀ b₀ 1 t₀ u₀ v₀) (hsmall : Builtin.Range.small a₀ b₀ 1 = true) (hn : Builtin.Range.rangeSize a₀ b₀ 1 = (n : Int)) (F : Fr h₀ env.locals s.heap m₀) (N : News h₀ env.locals s.heap news)
    (rest₀ : ∀ I : Addr, (∀ p ∈ news, p.1 < I) → ItemsRest prog w A E h₀ env (.Name x px) body Q s [(I, "range_iterator")] [] (rangeItems a₀ n) m₀ news) :
    wpAny (model prog w) A (pyIter (.ref r)) (fun it s₂ => TurnsAt prog w A h₀ env (.Name x px) body Q E it s₂) E s := by
  refine wpAny_pyIter_range hr hsmall ?_
  have W : Walks prog w A s.heap.objs.size [s.heap.objs.size] [s.heap.objs.size] n (fun i v => i < n ∧ ∃ t, v = .int (a₀ + i * 1) t)
      (fun i h => IsRangeIter h s.heap.objs.size (a₀ + (i : Nat) * 1) ((n : Int) - (i : Nat)) 1) := (Walks.range hh _ a₀ 1 n).bound
  refine ktg_core (tk0 := s.toks) (keep := []) (KTurns.ofWalks W fun i v s Q E st q => wpAny_pure q) (rangeItems_length a₀ n).symm (fun i v h hp => ?_) (fun i h st => ?_) (fun b hb => ?_) (fun b hb => by simpa using hb) (fun b hb => .inl (by simpa using hb)) ?_ (fun p hp hI => ?_) ?_ (F.push _) (fun p hp => ⟨Heap.get?_push_of_some _ (N p hp).1, (N p hp).2⟩) trivial (rest₀ _ fun p hp => Heap.lt_size (N p hp).1)
  · obtain ⟨hi, t, rfl⟩ := hp
    refine ⟨.tok fun t => .int (a₀ + (i : Int)) t, ?_, t, by rw [Int.mul_one]⟩
    unfold rangeItems
    rw [List.getElem?_map, List.getElem?_range hi]
    rfl
  · exact ⟨[(s.heap.objs.size, _)], ⟨⟨rfl, rfl⟩, trivial⟩, fun p hp => by rw [List.mem_singleton.mp hp]; exact st⟩
  · have hb' : b = s.heap.objs.size := by simpa using hb
    rw [hb']
    exact ⟨cS9, next_is_new F⟩
  · intro hI
    exact absurd F.ns.lt ((List.mem_singleton.mp hI) ▸ Nat.lt_irrefl _)
  · exact absurd (Heap.lt_size (N p hp).1) ((List.mem_singleton.mp hI) ▸ Nat.lt_irrefl _)
  · show IsRangeIter _ _ _ _ _
    rw [hn]
    simpa using Heap.get?_push_size _ rfl
end
theorem unr_one {h₀ h' : Heap} {L I D : Addr} {o od : Obj} {rest : (Str → Option Value) → List (Addr × Obj) → Prop} {s₁ : Shared} {tk : Nat} {m' : Str → Option Value} {all : List (Addr × Obj)} (F : Fr h₀ L h' m') (N : News h₀ L h' ((D, od) :: all))
    (hI : (I, o) ∈ (D, od) :: all) (hne : D ≠ I) (r : rest m' [(D, od)]) : UnrEndW h₀ L s₁ [(I, o)] rest { s₁ with heap := h', toks := tk } :=
  unr_end [(D, od)] F N hI (fun p hp => by rw [List.mem_singleton.mp hp]; exact cS9) (fun p hp => by rw [List.mem_singleton.mp hp]; exact hne) r
def Hold (P : Prop) : Prop := P
theorem Hold.out {P : Prop} (h : Hold P) : P := h
def RatH (h : Heap) (v : Value) (r : Rat) : Prop := ∃ D t t' c, v = .ref D ∧ h.get? D = some (RatO r t t' c)
theorem RatH.keeps {h g : Heap} {v : Value} {r : Rat} (hk : ∀ b o, h.get? b = some o → g.get? b = some o) (x : RatH h v r) : RatH g v r := let ⟨D, t, t', c, e, hd⟩ := x; ⟨D, t, t', c, e, hk _ _ hd⟩
def tot (rs : List Rat) : Rat := rs.foldl (· + ·) 0
theorem tot_take {rs : List Rat} {i : Nat} {r : Rat} (h : rs[i]? = some r) : tot (rs.take (i + 1)) = tot (rs.take i) + r := by
  unfold tot
  rw [List.take_add_one, h, List.foldl_append]; rfl
theorem val_get {vs : List Value} {i : Nat} {a : Itm} {v : Value} {h : Heap} (ha : (vs.map Itm.val)[i]? = some a) (hv : a.Is v h) : vs[i]? = some v := by
  rw [List.getElem?_map] at ha
  obtain ⟨x, hx, e⟩ := Option.map_eq_some_iff.mp ha
  subst e
  have : v = x := hv
  rw [this]; exact hx
theorem mul_le_of_lt {i n b : Nat} (h : i < n) : i * (b + 1) + 1 + b + 1 ≤ n * (b + 1) + 1 := by
  have : (i + 1) * (b + 1) ≤ n * (b + 1) := Nat.mul_le_mul_right _ h
  rw [Nat.add_mul] at this
  omega
def Tk (h₀ : Heap) (nx : List (Addr × Obj)) (a : Addr) (o : Obj) : Prop := (a, o) ∈ nx ∨ h₀.get? a = some o
theorem Tk.mono {h₀ : Heap} {nx ny : List (Addr × Obj)} {a : Addr} {o : Obj} (e : Tk h₀ nx a o) (hs : ∀ p ∈ nx, p ∈ ny) : Tk h₀ ny a o := e.imp (hs _) id
theorem Tk.get {h₀ h : Heap} {L : Addr} {m : Str → Option Value} {nx led : List (Addr × Obj)} {a : Addr} {o : Obj} (F : Fr h₀ L h m) (N : News h₀ L h led) (e : Tk h₀ nx a o) (hs : ∀ p ∈ nx, p ∈ led) : h.get? a = some o :=
  e.elim (fun h1 => (N _ (hs _ h1)).1) fun h1 => F.keep _ _ h1
abbrev pairO (v1 v2 : Value) (c : Nat) : Obj := { cls := .type "tuple", data := .seq #[v1, v2] c }
abbrev PT (P : Addr → Obj → Prop) (tl : List (Addr × Obj)) (a : Addr) (o : Obj) : Prop := P a o ∨ (a, o) ∈ tl
theorem PT.mono {P : Addr → Obj → Prop} {tl tm : List (Addr × Obj)} (hs : ∀ p ∈ tl, p ∈ tm) : ∀ a o, PT P tl a o → PT P tm a o := fun _ _ e => e.imp id (hs _)
def RatN (P : Addr → Obj → Prop) (v : Value) (r : Rat) : Prop := ∃ D t t' c, v = .ref D ∧ P D (RatO r t t' c)
def LayN (P : Addr → Obj → Prop) (v : Value) (l : Rat × Rat) : Prop := ∃ D v1 v2 c, v = .ref D ∧ P D (pairO v1 v2 c) ∧ RatN P v1 l.1 ∧ RatN P v2 l.2
def LstN {β : Type} (R : Value → β → Prop) (P : Addr → Obj → Prop) (v : Value) (bs : List β) : Prop := ∃ l vs n, v = .ref l ∧ P l (listOf vs.toArray n) ∧ All2 R vs bs
abbrev LaysN (P : Addr → Obj → Prop) (v : Value) (ls : List (Rat × Rat)) : Prop := LstN (LayN P) P v ls
abbrev RatsN (P : Addr → Obj → Prop) (v : Value) (rs : List Rat) : Prop := LstN (RatN P) P v rs
section
variable {P P' : Addr → Obj → Prop} {v : Value}
theorem RatN.mono {r : Rat} (hs : ∀ a o, P a o → P' a o) (x : RatN P v r) : RatN P' v r := let ⟨D, t, t', c, e, k⟩ := x; ⟨D, t, t', c, e, hs _ _ k⟩
theorem LayN.mono {l : Rat × Rat} (hs : ∀ a o, P a o → P' a o) (x : LayN P v l) : LayN P' v l := let ⟨D, v1, v2, c, e, k, a, b⟩ := x; ⟨D, v1, v2, c, e, hs _ _ k, a.mono hs, b.mono hs⟩
theorem LaysN.mono {ls : List (Rat × Rat)} (hs : ∀ a o, P a o → P' a o) (x : LaysN P v ls) : LaysN P' v ls := let ⟨l, vs, n, e, k, a⟩ := x; ⟨l, vs, n, e, hs _ _ k, a.mono fun _ _ y => y.mono hs⟩
theorem RatsN.mono {rs : List Rat} (hs : ∀ a o, P a o → P' a o) (x : RatsN P v rs) : RatsN P' v rs := let ⟨l, vs, n, e, k, a⟩ := x; ⟨l, vs, n, e, hs _ _ k, a.mono fun _ _ y => y.mono hs⟩
end
theorem tracked {h₀ h : Heap} {L : Addr} {m : Str → Option Value} {led : List (Addr × Obj)} (F : Fr h₀ L h m) (N : News h₀ L h led) : ∀ a o, Tk h₀ led a o → h.get? a = some o := fun _ _ e => e.get F N fun _ hp => hp
section
variable {prog : Program} {w : World} {A : Around} {E : Value → Shared → Prop} {s : Shared} {h₀ : Heap} {L D : Addr} {m : Str → Option Value} {nx led : List (Addr × Obj)} {lo : Obj} {env : Env}
theorem tup_t {value slice : Expr} {l : List Value} {n : Nat} {k : Int} {u : Tok} {j : Nat} {x : Value} {Q : Value → Shared → Prop}
    (F : Fr h₀ L s.heap m) (N : News h₀ L s.heap led) (e : Tk h₀ nx D lo) (hsub : ∀ p ∈ nx, p ∈ led) (hc : lo.cls = .type "tuple") (hd : lo.data = .seq l.toArray n) (hlo : -(2 ^ 63) ≤ k) (hhi : k < 2 ^ 63) (hj : seqIndex? k l.length = some j) (hx : l[j]? = some x) (h : Q x s)
    (hs : subscripted slice false (.ref D) (.int k u) = operate [.ref D, .int k u] (getItem (.ref D) (.int k u))) (hg : ∀ r, letTemporaryGo value (.ref D) r = pure ()) :
    wpAny (model prog w) A (subscriptTail value slice (.ref D) (.int k u)) Q E s := item_tupleL ⟨lo, e.get F N hsub, hc, n, hd⟩ hlo hhi hj hx h hs hg
end
theorem allNe_mem {d : Nat} : ∀ {l : List (Addr × Obj)}, AllNe d l → ∀ p ∈ l, p.1 ≠ d
  | [], _, _, h => nomatch h
  | _ :: _, x, p, h => by
    rcases List.mem_cons.mp h with rfl | h
    · exact x.1
    · exact allNe_mem x.2 p h
theorem rat_new {P : Addr → Obj → Prop} {D : Addr} {t t' : Tok} {c : Nat} {r : Rat} (h : P D (RatO r t t' c)) : RatN P (.ref D) r := ⟨D, t, t', c, rfl, h⟩
theorem allLt_mem {d : Nat} : ∀ {l : List (Addr × Obj)}, AllLt d l → ∀ p ∈ l, p.1 ≠ d
  | [], _, _, h => nomatch h
  | _ :: _, x, p, h => by
    rcases List.mem_cons.mp h with rfl | h
    · exact Nat.ne_of_lt x.1
    · exact allLt_mem x.2 p h
theorem lst_len {prog : Program} {w : World} {A : Around} {E : Value → Shared → Prop} {s : Shared} {h₀ : Heap} {L l : Addr} {news : List (Addr × Obj)} {vs : List Value} {n : Nat} {Q : Value → Shared → Prop} (N : News h₀ L s.heap news) (hm : (l, listOf vs.toArray n) ∈ news) (hf : vs.length < 1000000) (h : ∀ tk, Q (.int (vs.length : Int) tk) { s with toks := tk + 1 }) :
    wpAny (model prog w) A (call (.builtin "len") [.ref l]) Q E s := by
  refine len_list ⟨_, N.get hm, rfl, n, rfl⟩ (by rw [List.size_toArray]; omega) ?_
  rw [List.size_toArray]
  exact h _
theorem add_k {prog : Program} {w : World} {A : Around} {E : Value → Shared → Prop} {s : Shared} {h₀ : Heap} {L a b : Addr} {m : Str → Option Value} {news : List (Addr × Obj)} {vs ws : List Value} {n1 n2 : Nat} {Q : Value → Shared → Prop} (F : Fr h₀ L s.heap m) (N : News h₀ L s.heap news)
    (h1 : s.heap.get? a = some (listOf vs.toArray n1)) (h2 : s.heap.get? b = some (listOf ws.toArray n2)) (hz : vs.length + ws.length ≤ 16000)
    (h : ∀ D h', Fr h₀ L h' m → News h₀ L h' ((D, listOf (vs ++ ws).toArray 0) :: news) → (∀ p ∈ news, p.1 < D) → Q (.ref D) { s with heap := h' }) : wpAny (model prog w) A (binaryOp .Add (.ref a) (.ref b)) Q E s :=
  add_lists F N ⟨_, h1, rfl, n1, rfl⟩ ⟨_, h2, rfl, n2, rfl⟩ (fun h' F' N' => h _ h' F' N' fun p hp => Heap.lt_size (N p hp).1) (by rw [sizeLine_eq]; omega)
section
variable {prog : Program} {w : World} {A : Around} {E : Value → Shared → Prop} {s : Shared} {h₀ : Heap} {L D : Addr} {m : Str → Option Value} {nx led : List (Addr × Obj)} {lo : Obj} {value slice : Expr} {l : List Value} {n : Nat} {k : Int} {u : Tok} {x : Value} {Q : Value → Shared → Prop}
end
theorem at_of {α : Type} {l : List α} {k : Int} {i : Nat} {x : α} (h : l[i]? = some x) (e : k = (i : Int)) : l[k.toNat]? = some x := by
  have : k.toNat = i := by omega
  rw [this]; exact h
def Rd (h : Heap) (v : Value) (d : PyData) : Prop := ∃ as, Reads h v d as
theorem rdAll {h : Heap} {vs : List Value} {ds : List PyData} (hv : All2 (Rd h) vs ds) : ∃ as, ReadsAll h vs ds as := by
  induction hv with
  | nil => exact ⟨_, .nil⟩
  | cons a _ ih => obtain ⟨as, ra⟩ := a; obtain ⟨bs, rb⟩ := ih; exact ⟨_, .cons ra rb⟩
theorem Rd.int {h : Heap} {i : Int} {t : Tok} : Rd h (.int i t) (.int i) := ⟨_, .int i t⟩
theorem Rd.none {h : Heap} : Rd h .none .none := ⟨_, .none⟩
theorem Rd.bool {h : Heap} {b : Bool} : Rd h (.bool b) (.bool b) := ⟨_, .bool b⟩
theorem Rd.tuple {h : Heap} {D : Addr} {vs : List Value} {c : Nat} {ds : List PyData} (e : h.get? D = some { cls := .type "tuple", data := .seq vs.toArray c }) (hv : All2 (Rd h) vs ds) : Rd h (.ref D) (.tuple ds) :=
  let ⟨as, ra⟩ := rdAll hv; ⟨as, .tuple e rfl rfl (by simpa using ra)⟩
theorem Rd.list {h : Heap} {D : Addr} {vs : List Value} {c : Nat} {ds : List PyData} (e : h.get? D = some (listOf vs.toArray c)) (hv : All2 (Rd h) vs ds) : Rd h (.ref D) (.list ds) :=
  let ⟨as, ra⟩ := rdAll hv; ⟨D :: as, .list e rfl rfl (by simpa using ra)⟩
theorem Rd.keeps {h g : Heap} {v : Value} {d : PyData} (hk : ∀ b o, h.get? b = some o → g.get? b = some o) (x : Rd h v d) : Rd g v d := let ⟨as, r⟩ := x; ⟨as, PyProof.Rows.Reads.keeps hk r⟩
section
variable {P : Addr → Obj → Prop} {h : Heap} {v : Value}
theorem All2.map_r {α β γ : Type} {R : α → β → Prop} {S : α → γ → Prop} {f : β → γ} {as : List α} {bs : List β} (hs : ∀ a b, R a b → S a (f b)) (x : All2 R as bs) : All2 S as (bs.map f) := by
  induction x with
  | nil => exact .nil
  | cons a _ ih => exact .cons (hs _ _ a) ih
end
section
variable {prog : Program} {w : World} {A : Around} {E : Value → Shared → Prop} {s : Shared} {a b : Value} {d : PyData} {Q : Value → Shared → Prop}
theorem eq_rd (ra : Rd s.heap a d) (rb : Rd s.heap b d) (hs : SeqAt.shaped d = true) (hu : A.units + 64 < cLine) (h : Q (.bool true) s) : wpAny (model prog w) A (compareOp .Eq a b) Q E s := by
  obtain ⟨as, ra⟩ := ra; obtain ⟨bs, rb⟩ := rb
  exact eq_dataH ra rb hs hs hu (by rw [SeqAt.eqv_refl d (SeqAt.canLay_of_shaped hs)]; exact h)
end
theorem rsize {a b : Int} {n : Nat} (h : b = a + (n : Int)) : Builtin.Range.rangeSize a b 1 = (n : Int) := by
  unfold Builtin.Range.rangeSize
  rw [if_pos (by decide)]
  split <;> omega
theorem mod_gen {prog : Program} {w : World} {A : Around} {E : Value → Shared → Prop} {s : Shared} {a n : Int} {t u : Tok} {Q : Value → Shared → Prop} (hn : 0 < n)
    (h : ∀ v : Int, 0 ≤ v → v < n → v = a.fmod n → Q (.int v s.toks) { s with toks := s.toks + 1 }) : wpAny (model prog w) A (binaryOp .Mod (.int a t) (.int n u)) Q E s := by
  have e : a.fmod n = a % n := Int.fmod_eq_emod_of_nonneg a (by omega)
  exact mod_int' (by omega) (h _ (by rw [e]; exact Int.emod_nonneg a (by omega)) (by rw [e]; exact Int.emod_lt_of_pos a hn) rfl)
def Fit9 (x : Int) : Prop := x.natAbs < 2 ^ 9000
theorem Fit9.of {x : Int} {n : Nat} (h : Builtin.Int.intBits x ≤ n) (hn : n ≤ 9000) : Fit9 x := by
  have h1 := natAbs_lt_pow_bits x
  have h2 : (2 : Nat) ^ Builtin.Int.intBits x ≤ 2 ^ 9000 := Nat.pow_le_pow_right (by decide) (by omega)
  unfold Fit9
  exact Nat.lt_of_lt_of_le h1 h2
theorem Fit9.neg {x : Int} (h : Fit9 x) : Fit9 (-x) := by unfold Fit9 at *; rw [Int.natAbs_neg]; exact h
theorem Fit9.log {x : Int} {n : Nat} (h : Fit9 x) (h0 : 0 < n) (hn : n ≤ x.natAbs) : (n : Int).natAbs.log2 < 9000 := by
  have e : (n : Int).natAbs = n := by omega
  rw [e]
  exact (Nat.log2_lt (by omega)).mpr (Nat.lt_of_le_of_lt hn h)
theorem FitQ.no {x g M r : Int} (h : Fits r) (e : x.fdiv g = r) (hb : x.fdiv g ≥ M) (hM : M = 10 ^ 2000) : False := by
  have h2 : ((10 ^ 2000 : Nat) : Int) = M := by rw [hM]; simp
  unfold Fits at h
  rw [e] at hb
  generalize (10 : Nat) ^ 2000 = P at h h2
  omega
theorem FitQ.noA {x g M r : Int} (h : Fits r) (e : x.fdiv g = r) (hb : (if x.fdiv g < 0 then -(x.fdiv g) else x.fdiv g) ≥ M) (hM : M = 10 ^ 2000) : False := by
  have h2 : ((10 ^ 2000 : Nat) : Int) = M := by rw [hM]; simp
  unfold Fits at h
  rw [e] at hb
  generalize (10 : Nat) ^ 2000 = P at h h2
  omega
theorem FitQ.big {x g M r : Int} (h : (10 : Int) ^ 2000 ≤ r) (e : x.fdiv g = r) (hb : ¬ (if x.fdiv g < 0 then -(x.fdiv g) else x.fdiv g) ≥ M) (hM : M = 10 ^ 2000) : False := by
  rw [e] at hb
  have h0 : (0 : Int) < 10 ^ 2000 := by decide +kernel
  rw [hM] at hb
  generalize (10 : Int) ^ 2000 = P at *
  omega
structure FitsR (r : Rat) : Prop where
  num : Fits r.num
  den : Fits (r.den : Int)
theorem Bd.fitsR {n : Nat} {r : Rat} (h : Bd n r) (hn : n ≤ 6643) : FitsR r := ⟨(h.fits hn).1, (h.fits hn).2⟩
theorem bits_fits {x : Int} (h : Fits x) : Builtin.Int.intBits x ≤ 6645 := by
  refine intBits_le ?_
  unfold Fits at h
  exact Nat.lt_of_lt_of_le h (by decide +kernel)
section
theorem div_use9 {w : World} (dp un : Nat) (gd : Option (List Code)) (cn : Str) (cs : Scope) (a : Addr) (ccd : Value) (cl : List (Str × Addr)) (outer : List Env) (A₀ : Around) (base h₀ : Heap) (L : Addr) (m : Str → Option Value) (news : List (Addr × Obj)) (s : Shared) (Q E : Value → Shared → Prop) (x y : Int) (t1 t2 : Tok)
    (B : Below A₀ base outer h₀) (F : Fr h₀ L s.heap m) (X : (HD.K w.params).In h₀) (N : News h₀ L s.heap news) (T : Top p loose mean mg mb h₀) (hk : cs.kind = .function)
    (hd : dp + 1 < recursionLimit) (hu : un + 8 < cLine) (hy : y ≠ 0) (hf : Fit9 y)
    (hret : ∀ (g : Int) (t : Tok) (h' : Heap) (tk' : Nat), 0 < g → g = ((Int.gcd x y : Nat) : Int) → g.natAbs.log2 < 9000 → Fr h₀ L h' m → News h₀ L h' news → Q (.int g t) { s with heap := h', toks := tk' }) :
      wpAny (model Challenge.rw_ui0509_16.row.prog w) (ktrTop dp un gd cn cs L a ccd cl outer) (call (.ref 64) [.int x t1, .int y t2]) Q E s :=
  div_c dp un gd cn cs a ccd cl outer A₀ base h₀ L m news s Q E x y t1 t2 B F X N T hk hd hu (fun t h' tk' F' N' => hret _ t h' tk' (by have := Int.gcd_pos_of_ne_zero_right x hy; omega) rfl (Fit9.log hf (Int.gcd_pos_of_ne_zero_right x hy) (Int.gcd_le_natAbs_right x hy)) F' N')
theorem words5 : True := by
  k_with_none
  k_with "k_in" => (refine' in_of ?z4fF ?z4fX; (case z4fF | z4fX => k_asm))
  k_with "call ref" => (k_here; (with_reducible show wpAny _ _ (call (Value.ref 64) [Value.int _ _, Value.int _ _]) _ _ _); k_dflt (refine' div_use9 _ _ _ _ _ _ _ _ _ _ _ _ _ _ _ _ _ _ _ _ _ _ ?z15k1 ?z15k2 ?z15k3 ?z15k4 ?z15k5 ?z15k6 ?z15k7 ?z15k8 ?z15k9 ?z15k10 ?_; (case z15k1 | z15k2 | z15k3 | z15k4 | z15k5 => k_asm); (case z15k6 => first | exact rfl | assumption); (case z15k7 => ktr_room); (case z15k8 => ktr_units); (case z15k9 => omega); (case z15k10 => first | assumption | exact Fit9.neg (by assumption) | fail); k_whole); walk_at "i0"; (try k_sweep))
  k_with "binaryOp FloorDiv int int" => (with_reducible refine floordiv_int ?z16ne ?_ (Or.inl (PyProof.noPylong_of_log2 ?z16lg)); (case z16lg => with_reducible assumption); (case z16ne => omega))
  trivial
theorem frac_k {w : World} (dp un : Nat) (gd : Option (List Code)) (cn : Str) (cs : Scope) (a : Addr) (ccd : Value) (cl : List (Str × Addr)) (outer : List Env) (A₀ : Around) (base h₀ : Heap) (L : Addr) (m : Str → Option Value) (news : List (Addr × Obj)) (s : Shared) (Q E : Value → Shared → Prop) (x y : Int) (t1 t2 : Tok)
    (B : Below A₀ base outer h₀) (F : Fr h₀ L s.heap m) (X : (HD.K w.params).In h₀) (N : News h₀ L s.heap news) (T : Top p loose mean mg mb h₀) (hk : cs.kind = .function)
    (hd : dp + 2 < recursionLimit) (hu : un + 16 < cLine) (hy : y ≠ 0) (hy9 : Fit9 y) (hr1 : Fits (Rat.divInt x y).num) (hr2 : Fits ((Rat.divInt x y).den : Int))
    (hret : ∀ (r : Rat) (D : Addr) (t t' : Tok) (c : Nat) (h' : Heap) (tk' : Nat), r = Rat.divInt x y → Fr h₀ L h' m → News h₀ L h' ((D, RatO r t t' c) :: news) → (∀ p ∈ news, p.1 < D) → Q (.ref D) { s with heap := h', toks := tk' }) :
      wpAny (model Challenge.rw_ui0509_16.row.prog w) (ktrTop dp un gd cn cs L a ccd cl outer) (call (.ref 72) [.int x t1, .int y t2]) Q E s := by
  revert X; k_fill; intro X
  refine wpAny_call ?_
  k_dflt (refine' code_def ?k1 ?k2 ?k3 ?k4 ?k5 ?kA ?kF ?kK ?k6 ?k7 ?k8 ?k9 ?kB ?_ ?c2 ?c3 ?c4 ?c5; (case kA | kF => exact rfl); (case kK => assumption); (case k1 | k2 | k3 | k4 | k5 => k_asm); (case k6 | k7 => k_is); (case k8 => ktr_room); (case k9 => first | exact BindsTo.of_eq rfl | exact binds_K (by k_in) rfl (by k_is) rfl rfl rfl); (case c5 => decide); (case kB => exact locs rfl); (case c2 | c3 | c4 => exact rfl); k_whole; intro g' L' h' FG' F' N' B' X' T'; (try dsimp only); (try k_fold))
  k_steps
  all_goals first
    | exact absurd (by assumption) hy
    | exact fr_end hret (num_p (by assumption) hy (by assumption)) (den_p (by assumption) hy (by assumption)) (by k_asm) (by k_asm) (by assumption)
    | exact fr_end hret (num_n (by assumption) (by assumption)) (den_n (by assumption) (by assumption)) (by k_asm) (by k_asm) (by assumption)
    | exact (FitQ.no hr2 (den_p (by assumption) hy (by assumption)) (by assumption) (by decide +kernel)).elim
    | exact (FitQ.no hr2 (den_n (by assumption) (by assumption)) (by assumption) (by decide +kernel)).elim
    | exact (FitQ.noA hr1 (num_p (by assumption) hy (by assumption)) (by assumption) (by decide +kernel)).elim
    | exact (FitQ.noA hr1 (num_n (by assumption) (by assumption)) (by assumption) (by decide +kernel)).elim
theorem frac_x {w : World} {a : Addr} {A₀ : Around} {base h₀ : Heap} {L : Addr} {m : Str → Option Value} {news : List (Addr × Obj)} {s : Shared} {Q E : Value → Shared → Prop} {x y : Int} {t1 t2 : Tok} 
    (B : Below A₀ base outer h₀) (F : Fr h₀ L s.heap m) (X : (HD.K w.params).In h₀) (N : News h₀ L s.heap news) (T : Top p loose mean mg mb h₀) (hk : cs.kind = .function) (hd : dp + 6 < recursionLimit) (hu : un + 100 < cLine) (hy : y ≠ 0) (hy9 : Fit9 y) (hr1 : (10 : Int) ^ 2000 ≤ (Rat.divInt x y).num) (hr2 : Fits ((Rat.divInt x y).den : Int))
    (hE : ∀ (g : Heap) (e t : Addr) (u : Tok) (h' : Heap) (tk' : Nat), Fr h₀ L g m → g.UpToSlots h' → RaisedK base (envX cn cs L a ccd cl :: outer) e (.ref 31) t [.str (Str.ofString "a fraction of too many figures") u] news h' → E (.ref e) { s with heap := h', toks := tk' }) :
    wpAny (model Challenge.rw_ui0509_16.row.prog w) (ktrTop dp un gd cn cs L a ccd cl outer) (call (.ref 72) [.int x t1, .int y t2]) Q E s := by
  w_top off
  revert X; k_fill; intro X
  refine wpAny_call ?_
  k_dflt (refine' code_need news ?k1 ?k2 ?k3 ?k4 ?k5 ?kA ?kF ?kK ?k6 ?k7 ?k8 ?k9 ?kB ?kN ?_ ?c2 ?c3 ?c4 ?c5; walk_at "en0"; (case kN => exact fun _ h => h); walk_at "en1")
  k_steps
  all_goals first
    | exact absurd (by assumption) hy
    | exact (FitQ.no hr2 (den_p (by assumption) hy (by assumption)) (by assumption) (by decide +kernel)).elim
    | exact (FitQ.no hr2 (den_n (by assumption) (by assumption)) (by assumption) (by decide +kernel)).elim
    | exact (FitQ.big hr1 (num_p (by assumption) hy (by assumption)) (by assumption) (by decide +kernel)).elim
    | exact (FitQ.big hr1 (num_n (by assumption) (by assumption)) (by assumption) (by decide +kernel)).elim
    | exact hE _ _ _ _ _ _ (by assumption) (by assumption) (by assumption)
end
section
theorem words6 : True := by
  k_with_none
  k_with "k_in" => (refine' in_of ?z4fF ?z4fX; (case z4fF | z4fX => k_asm))
  k_with "call ref" => (k_here; (with_reducible show wpAny _ _ (call (Value.ref 72) [Value.int _ _, Value.int _ _]) _ _ _); k_dflt (refine' frac_k _ _ _ _ _ _ _ _ _ _ _ _ _ _ _ _ _ _ _ _ _ _ ?z17k1 ?z17k2 ?z17k3 ?z17k4 ?z17k5 ?z17k6 ?z17k7 ?z17k8 ?z17k9 ?z17k10 ?z17k11 ?z17k12 ?_; (case z17k1 | z17k2 | z17k3 | z17k4 | z17k5 => k_asm); (case z17k6 => first | exact rfl | assumption); (case z17k7 => ktr_room); (case z17k8 => ktr_units); (case z17k9 | z17k10 | z17k11 | z17k12 => assumption); k_whole); walk_at "i1"; (try k_sweep))
  k_with "binaryOp Mult int int" => (with_reducible refine mul_int ?_ ?z18mo; (case z18mo => assumption))
  k_with "subscriptTail" => (k_here; (with_reducible show wpAny _ _ (subscriptTail _ _ (Value.ref _) (Value.int _ _)) _ _ _); k_dflt (refine' tup_g ?z19k1 ?z19k2 ?z19k3 ?z19k4 ?z19k5 ?z19k6 ?z19k7 ?z19k8 ?_ ?z19k9 ?z19k10; (case z19k1 => k_asm); (case z19k2 => with_reducible assumption); (case z19k3 | z19k4 => exact rfl); (case z19k5 | z19k6 => decide); (case z19k7 | z19k8 => exact rfl); (case z19k9 => with_unfolding_all rfl); (case z19k10 => (intro _; with_unfolding_all rfl)); k_whole))
  trivial
theorem plus_k {w : World} {a : Addr} {A₀ : Around} {base h₀ : Heap} {L : Addr} {m : Str → Option Value} {news : List (Addr × Obj)} {s : Shared} {Q E : Value → Shared → Prop} {D1 D2 : Addr} {r1 r2 : Rat} {t1 t1' t2 t2' : Tok} {c1 c2 : Nat} 
    (B : Below A₀ base outer h₀) (F : Fr h₀ L s.heap m) (X : (HD.K w.params).In h₀) (N : News h₀ L s.heap news) (T : Top p loose mean mg mb h₀) (hk : cs.kind = .function) (e1 : s.heap.get? D1 = some (RatO r1 t1 t1' c1)) (e2 : s.heap.get? D2 = some (RatO r2 t2 t2' c2))
    (hd : dp + 3 < recursionLimit) (hu : un + 24 < cLine) (f1 : FitsR r1) (f2 : FitsR r2) (hl9 : Fit9 ((r1.den : Int) * (r2.den : Int))) (fr : FitsR (r1 + r2))
    (hret : ∀ (D : Addr) (t t' : Tok) (c : Nat) (h' : Heap) (tk' : Nat), Fr h₀ L h' m → News h₀ L h' ((D, RatO (r1 + r2) t t' c) :: news) → (∀ p ∈ news, p.1 ≠ D) → Q (.ref D) { s with heap := h', toks := tk' }) :
    wpAny (model Challenge.rw_ui0509_16.row.prog w) (ktrTop dp un gd cn cs L a ccd cl outer) (call (.ref 87) [.ref D1, .ref D2]) Q E s := by
  have nz : (r1.den : Int) * (r2.den : Int) ≠ 0 := nzmul (nzden r1) (nzden r2)
  have q1 : Fits (Rat.divInt (r1.num * (r2.den : Int) + r2.num * (r1.den : Int)) ((r1.den : Int) * (r2.den : Int))).num := by rw [r_plus]; exact fr.num
  have q2 : Fits ((Rat.divInt (r1.num * (r2.den : Int) + r2.num * (r1.den : Int)) ((r1.den : Int) * (r2.den : Int))).den : Int) := by rw [r_plus]; exact fr.den
  have m0 : IntMulOk (r1.num) ((r2.den : Int)) := mulOk_of_bits (bits_fits f1.num) (bits_fits f2.den) (by omega)
  have m1 : IntMulOk (r2.num) ((r1.den : Int)) := mulOk_of_bits (bits_fits f2.num) (bits_fits f1.den) (by omega)
  have m2 : IntMulOk ((r1.den : Int)) ((r2.den : Int)) := mulOk_of_bits (bits_fits f1.den) (bits_fits f2.den) (by omega)
  w_top off
  revert X; k_fill; intro X
  refine wpAny_call ?_
  k_dflt (refine' code_need [] ?k1 ?k2 ?k3 ?k4 ?k5 ?kA ?kF ?kK ?k6 ?k7 ?k8 ?k9 ?kB ?kN ?_ ?c2 ?c3 ?c4 ?c5; walk_at "en0"; (case kN => exact fun _ h => nomatch h); walk_at "en1")
  replace e1 := hG' _ _ e1 (by simp)
  replace e2 := hG' _ _ e2 (by simp)
  k_steps
  all_goals first | (refine leaveN_ (by k_asm) (by k_asm) ?_; intro kF kN kR kD; (try dsimp only); (rename _ = Rat.divInt _ _ => eR); rw [r_plus] at eR; subst eR; exact hret _ _ _ _ _ _ kF (news_cons kN (by k_mem) (news_all kR)) (ne_all kD cS9))
theorem times_k {w : World} {a : Addr} {A₀ : Around} {base h₀ : Heap} {L : Addr} {m : Str → Option Value} {news : List (Addr × Obj)} {s : Shared} {Q E : Value → Shared → Prop} {D1 D2 : Addr} {r1 r2 : Rat} {t1 t1' t2 t2' : Tok} {c1 c2 : Nat} 
    (B : Below A₀ base outer h₀) (F : Fr h₀ L s.heap m) (X : (HD.K w.params).In h₀) (N : News h₀ L s.heap news) (T : Top p loose mean mg mb h₀) (hk : cs.kind = .function) (e1 : s.heap.get? D1 = some (RatO r1 t1 t1' c1)) (e2 : s.heap.get? D2 = some (RatO r2 t2 t2' c2))
    (hd : dp + 3 < recursionLimit) (hu : un + 24 < cLine) (f1 : FitsR r1) (f2 : FitsR r2) (hl9 : Fit9 ((r1.den : Int) * (r2.den : Int))) (fr : FitsR (r1 * r2))
    (hret : ∀ (D : Addr) (t t' : Tok) (c : Nat) (h' : Heap) (tk' : Nat), Fr h₀ L h' m → News h₀ L h' ((D, RatO (r1 * r2) t t' c) :: news) → (∀ p ∈ news, p.1 ≠ D) → Q (.ref D) { s with heap := h', toks := tk' }) :
    wpAny (model Challenge.rw_ui0509_16.row.prog w) (ktrTop dp un gd cn cs L a ccd cl outer) (call (.ref 101) [.ref D1, .ref D2]) Q E s := by
  have nz : (r1.den : Int) * (r2.den : Int) ≠ 0 := nzmul (nzden r1) (nzden r2)
  have q1 : Fits (Rat.divInt (r1.num * r2.num) ((r1.den : Int) * (r2.den : Int))).num := by rw [r_times]; exact fr.num
  have q2 : Fits ((Rat.divInt (r1.num * r2.num) ((r1.den : Int) * (r2.den : Int))).den : Int) := by rw [r_times]; exact fr.den
  have m0 : IntMulOk (r1.num) (r2.num) := mulOk_of_bits (bits_fits f1.num) (bits_fits f2.num) (by omega)
  have m1 : IntMulOk ((r1.den : Int)) ((r2.den : Int)) := mulOk_of_bits (bits_fits f1.den) (bits_fits f2.den) (by omega)
  w_top off
  revert X; k_fill; intro X
  refine wpAny_call ?_
  k_dflt (refine' code_need [] ?k1 ?k2 ?k3 ?k4 ?k5 ?kA ?kF ?kK ?k6 ?k7 ?k8 ?k9 ?kB ?kN ?_ ?c2 ?c3 ?c4 ?c5; walk_at "en0"; (case kN => exact fun _ h => nomatch h); walk_at "en1")
  replace e1 := hG' _ _ e1 (by simp)
  replace e2 := hG' _ _ e2 (by simp)
  k_steps
  all_goals first | (refine leaveN_ (by k_asm) (by k_asm) ?_; intro kF kN kR kD; (try dsimp only); (rename _ = Rat.divInt _ _ => eR); rw [r_times] at eR; subst eR; exact hret _ _ _ _ _ _ kF (news_cons kN (by k_mem) (news_all kR)) (ne_all kD cS9))
theorem over_k {w : World} {a : Addr} {A₀ : Around} {base h₀ : Heap} {L : Addr} {m : Str → Option Value} {news : List (Addr × Obj)} {s : Shared} {Q E : Value → Shared → Prop} {D1 D2 : Addr} {r1 r2 : Rat} {t1 t1' t2 t2' : Tok} {c1 c2 : Nat} 
    (B : Below A₀ base outer h₀) (F : Fr h₀ L s.heap m) (X : (HD.K w.params).In h₀) (N : News h₀ L s.heap news) (T : Top p loose mean mg mb h₀) (hk : cs.kind = .function) (e1 : s.heap.get? D1 = some (RatO r1 t1 t1' c1)) (e2 : s.heap.get? D2 = some (RatO r2 t2 t2' c2))
    (hd : dp + 3 < recursionLimit) (hu : un + 24 < cLine) (f1 : FitsR r1) (f2 : FitsR r2) (hz : r2 ≠ 0) (hl9 : Fit9 ((r1.den : Int) * r2.num)) (fr : FitsR (r1 / r2))
    (hret : ∀ (D : Addr) (t t' : Tok) (c : Nat) (h' : Heap) (tk' : Nat), Fr h₀ L h' m → News h₀ L h' ((D, RatO (r1 / r2) t t' c) :: news) → (∀ p ∈ news, p.1 ≠ D) → Q (.ref D) { s with heap := h', toks := tk' }) :
    wpAny (model Challenge.rw_ui0509_16.row.prog w) (ktrTop dp un gd cn cs L a ccd cl outer) (call (.ref 108) [.ref D1, .ref D2]) Q E s := by
  have nz : (r1.den : Int) * r2.num ≠ 0 := nzmul (nzden r1) (nznum hz)
  have q1 : Fits (Rat.divInt (r1.num * (r2.den : Int)) ((r1.den : Int) * r2.num)).num := by rw [r_over]; exact fr.num
  have q2 : Fits ((Rat.divInt (r1.num * (r2.den : Int)) ((r1.den : Int) * r2.num)).den : Int) := by rw [r_over]; exact fr.den
  have m0 : IntMulOk (r1.num) ((r2.den : Int)) := mulOk_of_bits (bits_fits f1.num) (bits_fits f2.den) (by omega)
  have m1 : IntMulOk ((r1.den : Int)) (r2.num) := mulOk_of_bits (bits_fits f1.den) (bits_fits f2.num) (by omega)
  w_top off
  revert X; k_fill; intro X
  refine wpAny_call ?_
  k_dflt (refine' code_need [] ?k1 ?k2 ?k3 ?k4 ?k5 ?kA ?kF ?kK ?k6 ?k7 ?k8 ?k9 ?kB ?kN ?_ ?c2 ?c3 ?c4 ?c5; walk_at "en0"; (case kN => exact fun _ h => nomatch h); walk_at "en1")
  replace e1 := hG' _ _ e1 (by simp)
  replace e2 := hG' _ _ e2 (by simp)
  k_steps
  all_goals first | exact absurd (by assumption) (nznum hz) | (refine leaveN_ (by k_asm) (by k_asm) ?_; intro kF kN kR kD; (try dsimp only); (rename _ = Rat.divInt _ _ => eR); rw [r_over] at eR; subst eR; exact hret _ _ _ _ _ _ kF (news_cons kN (by k_mem) (news_all kR)) (ne_all kD cS9))
end
theorem idx_no {n : Nat} {k : Int} (h : k < -((n : Nat) : Int) ∨ (n : Int) ≤ k) (h0 : 0 ≤ k) (h1 : k < n) : False := by omega
theorem words7 : True := by
  k_with_none
  k_with "k_in" => (refine' in_of ?z4fF ?z4fX; (case z4fF | z4fX => k_asm))
  trivial
theorem need_number_c {w : World} {a : Addr} {A₀ : Around} {base h₀ : Heap} {L : Addr} {m : Str → Option Value} {news : List (Addr × Obj)} {s : Shared} {Q E : Value → Shared → Prop} {v lo hi : Int} {t1 t2 t3 t4 : Tok} {what : Str} 
    (B : Below A₀ base outer h₀) (F : Fr h₀ L s.heap m) (X : (HD.K w.params).In h₀) (N : News h₀ L s.heap news) (T : Top p loose mean mg mb h₀) (hk : cs.kind = .function) (h1 : lo ≤ v) (h2 : v ≤ hi)
    (hd : dp + 2 < recursionLimit)
    (hret : ∀ (h' : Heap) (tk' : Nat), Fr h₀ L h' m → News h₀ L h' news → Q (.int v t1) { s with heap := h', toks := tk' }) :
    wpAny (model Challenge.rw_ui0509_16.row.prog w) (ktrTop dp un gd cn cs L a ccd cl outer) (call (.ref 41) [.int v t1, .int lo t2, .int hi t3, .str what t4]) Q E s := by
  w_top off
  revert X; k_fill; intro X
  refine wpAny_call ?_
  k_dflt (refine' code_need [] ?k1 ?k2 ?k3 ?k4 ?k5 ?kA ?kF ?kK ?k6 ?k7 ?k8 ?k9 ?kB ?kN ?_ ?c2 ?c3 ?c4 ?c5; walk_at "en0"; (case kN => exact fun _ h => nomatch h); walk_at "en1")
  k_steps
  all_goals (refine leaveN_ (by k_asm) (by k_asm) ?_; intro kF kN kR kD; (try dsimp only); exact hret _ _ kF (news_all kR))
theorem need_name_m {w : World} {a : Addr} {A₀ : Around} {base h₀ : Heap} {L : Addr} {m : Str → Option Value} {news : List (Addr × Obj)} {s : Shared} {Q E : Value → Shared → Prop} {t1 : Tok} 
    (B : Below A₀ base outer h₀) (F : Fr h₀ L s.heap m) (X : (HD.K w.params).In h₀) (N : News h₀ L s.heap news) (T : Top p loose mean mg mb h₀) (hk : cs.kind = .function)
    (hd : dp + 2 < recursionLimit)
    (hret : ∀ (h' : Heap) (tk' : Nat), Fr h₀ L h' m → News h₀ L h' news → Q (.str (Str.ofString "m") t1) { s with heap := h', toks := tk' }) :
    wpAny (model Challenge.rw_ui0509_16.row.prog w) (ktrTop dp un gd cn cs L a ccd cl outer) (call (.ref 55) [.str (Str.ofString "m") t1]) Q E s := by
  w_top off
  revert X; k_fill; intro X
  refine wpAny_call ?_
  k_dflt (refine' code_need [] ?k1 ?k2 ?k3 ?k4 ?k5 ?kA ?kF ?kK ?k6 ?k7 ?k8 ?k9 ?kB ?kN ?_ ?c2 ?c3 ?c4 ?c5; walk_at "en0"; (case kN => exact fun _ h => nomatch h); walk_at "en1")
  k_steps
  all_goals (try dsimp only)
  all_goals first | exact (idx_no (by assumption) (by decide) (by decide +kernel)).elim | (refine leaveN_ (by k_asm) (by k_asm) ?_; intro kF kN kR kD; (try dsimp only); exact hret _ _ kF (news_all kR))
theorem need_name_n {w : World} {a : Addr} {A₀ : Around} {base h₀ : Heap} {L : Addr} {m : Str → Option Value} {news : List (Addr × Obj)} {s : Shared} {Q E : Value → Shared → Prop} {t1 : Tok} 
    (B : Below A₀ base outer h₀) (F : Fr h₀ L s.heap m) (X : (HD.K w.params).In h₀) (N : News h₀ L s.heap news) (T : Top p loose mean mg mb h₀) (hk : cs.kind = .function)
    (hd : dp + 2 < recursionLimit)
    (hret : ∀ (h' : Heap) (tk' : Nat), Fr h₀ L h' m → News h₀ L h' news → Q (.str (Str.ofString "n") t1) { s with heap := h', toks := tk' }) :
    wpAny (model Challenge.rw_ui0509_16.row.prog w) (ktrTop dp un gd cn cs L a ccd cl outer) (call (.ref 55) [.str (Str.ofString "n") t1]) Q E s := by
  w_top off
  revert X; k_fill; intro X
  refine wpAny_call ?_
  k_dflt (refine' code_need [] ?k1 ?k2 ?k3 ?k4 ?k5 ?kA ?kF ?kK ?k6 ?k7 ?k8 ?k9 ?kB ?kN ?_ ?c2 ?c3 ?c4 ?c5; walk_at "en0"; (case kN => exact fun _ h => nomatch h); walk_at "en1")
  k_steps
  all_goals (try dsimp only)
  all_goals first | exact (idx_no (by assumption) (by decide) (by decide +kernel)).elim | (refine leaveN_ (by k_asm) (by k_asm) ?_; intro kF kN kR kD; (try dsimp only); exact hret _ _ kF (news_all kR))
theorem need_name_a {w : World} {a : Addr} {A₀ : Around} {base h₀ : Heap} {L : Addr} {m : Str → Option Value} {news : List (Addr × Obj)} {s : Shared} {Q E : Value → Shared → Prop} {t1 : Tok} 
    (B : Below A₀ base outer h₀) (F : Fr h₀ L s.heap m) (X : (HD.K w.params).In h₀) (N : News h₀ L s.heap news) (T : Top p loose mean mg mb h₀) (hk : cs.kind = .function)
    (hd : dp + 2 < recursionLimit)
    (hret : ∀ (h' : Heap) (tk' : Nat), Fr h₀ L h' m → News h₀ L h' news → Q (.str (Str.ofString "a") t1) { s with heap := h', toks := tk' }) :
    wpAny (model Challenge.rw_ui0509_16.row.prog w) (ktrTop dp un gd cn cs L a ccd cl outer) (call (.ref 55) [.str (Str.ofString "a") t1]) Q E s := by
  w_top off
  revert X; k_fill; intro X
  refine wpAny_call ?_
  k_dflt (refine' code_need [] ?k1 ?k2 ?k3 ?k4 ?k5 ?kA ?kF ?kK ?k6 ?k7 ?k8 ?k9 ?kB ?kN ?_ ?c2 ?c3 ?c4 ?c5; walk_at "en0"; (case kN => exact fun _ h => nomatch h); walk_at "en1")
  k_steps
  all_goals (try dsimp only)
  all_goals first | exact (idx_no (by assumption) (by decide) (by decide +kernel)).elim | (refine leaveN_ (by k_asm) (by k_asm) ?_; intro kF kN kR kD; (try dsimp only); exact hret _ _ kF (news_all kR))
theorem need_name_b {w : World} {a : Addr} {A₀ : Around} {base h₀ : Heap} {L : Addr} {m : Str → Option Value} {news : List (Addr × Obj)} {s : Shared} {Q E : Value → Shared → Prop} {t1 : Tok} 
    (B : Below A₀ base outer h₀) (F : Fr h₀ L s.heap m) (X : (HD.K w.params).In h₀) (N : News h₀ L s.heap news) (T : Top p loose mean mg mb h₀) (hk : cs.kind = .function)
    (hd : dp + 2 < recursionLimit)
    (hret : ∀ (h' : Heap) (tk' : Nat), Fr h₀ L h' m → News h₀ L h' news → Q (.str (Str.ofString "b") t1) { s with heap := h', toks := tk' }) :
    wpAny (model Challenge.rw_ui0509_16.row.prog w) (ktrTop dp un gd cn cs L a ccd cl outer) (call (.ref 55) [.str (Str.ofString "b") t1]) Q E s := by
  w_top off
  revert X; k_fill; intro X
  refine wpAny_call ?_
  k_dflt (refine' code_need [] ?k1 ?k2 ?k3 ?k4 ?k5 ?kA ?kF ?kK ?k6 ?k7 ?k8 ?k9 ?kB ?kN ?_ ?c2 ?c3 ?c4 ?c5; walk_at "en0"; (case kN => exact fun _ h => nomatch h); walk_at "en1")
  k_steps
  all_goals (try dsimp only)
  all_goals first | exact (idx_no (by assumption) (by decide) (by decide +kernel)).elim | (refine leaveN_ (by k_asm) (by k_asm) ?_; intro kF kN kR kD; (try dsimp only); exact hret _ _ kF (news_all kR))
theorem need_name_p {w : World} {a : Addr} {A₀ : Around} {base h₀ : Heap} {L : Addr} {m : Str → Option Value} {news : List (Addr × Obj)} {s : Shared} {Q E : Value → Shared → Prop} {t1 : Tok} 
    (B : Below A₀ base outer h₀) (F : Fr h₀ L s.heap m) (X : (HD.K w.params).In h₀) (N : News h₀ L s.heap news) (T : Top p loose mean mg mb h₀) (hk : cs.kind = .function)
    (hd : dp + 2 < recursionLimit)
    (hret : ∀ (h' : Heap) (tk' : Nat), Fr h₀ L h' m → News h₀ L h' news → Q (.str (Str.ofString "p") t1) { s with heap := h', toks := tk' }) :
    wpAny (model Challenge.rw_ui0509_16.row.prog w) (ktrTop dp un gd cn cs L a ccd cl outer) (call (.ref 55) [.str (Str.ofString "p") t1]) Q E s := by
  w_top off
  revert X; k_fill; intro X
  refine wpAny_call ?_
  k_dflt (refine' code_need [] ?k1 ?k2 ?k3 ?k4 ?k5 ?kA ?kF ?kK ?k6 ?k7 ?k8 ?k9 ?kB ?kN ?_ ?c2 ?c3 ?c4 ?c5; walk_at "en0"; (case kN => exact fun _ h => nomatch h); walk_at "en1")
  k_steps
  all_goals (try dsimp only)
  all_goals first | exact (idx_no (by assumption) (by decide) (by decide +kernel)).elim | (refine leaveN_ (by k_asm) (by k_asm) ?_; intro kF kN kR kD; (try dsimp only); exact hret _ _ kF (news_all kR))
theorem need_name_u {w : World} {a : Addr} {A₀ : Around} {base h₀ : Heap} {L : Addr} {m : Str → Option Value} {news : List (Addr × Obj)} {s : Shared} {Q E : Value → Shared → Prop} {t1 : Tok} 
    (B : Below A₀ base outer h₀) (F : Fr h₀ L s.heap m) (X : (HD.K w.params).In h₀) (N : News h₀ L s.heap news) (T : Top p loose mean mg mb h₀) (hk : cs.kind = .function)
    (hd : dp + 2 < recursionLimit)
    (hret : ∀ (h' : Heap) (tk' : Nat), Fr h₀ L h' m → News h₀ L h' news → Q (.str (Str.ofString "u") t1) { s with heap := h', toks := tk' }) :
    wpAny (model Challenge.rw_ui0509_16.row.prog w) (ktrTop dp un gd cn cs L a ccd cl outer) (call (.ref 55) [.str (Str.ofString "u") t1]) Q E s := by
  w_top off
  revert X; k_fill; intro X
  refine wpAny_call ?_
  k_dflt (refine' code_need [] ?k1 ?k2 ?k3 ?k4 ?k5 ?kA ?kF ?kK ?k6 ?k7 ?k8 ?k9 ?kB ?kN ?_ ?c2 ?c3 ?c4 ?c5; walk_at "en0"; (case kN => exact fun _ h => nomatch h); walk_at "en1")
  k_steps
  all_goals (try dsimp only)
  all_goals first | exact (idx_no (by assumption) (by decide) (by decide +kernel)).elim | (refine leaveN_ (by k_asm) (by k_asm) ?_; intro kF kN kR kD; (try dsimp only); exact hret _ _ kF (news_all kR))
theorem need_name_v {w : World} {a : Addr} {A₀ : Around} {base h₀ : Heap} {L : Addr} {m : Str → Option Value} {news : List (Addr × Obj)} {s : Shared} {Q E : Value → Shared → Prop} {t1 : Tok} 
    (B : Below A₀ base outer h₀) (F : Fr h₀ L s.heap m) (X : (HD.K w.params).In h₀) (N : News h₀ L s.heap news) (T : Top p loose mean mg mb h₀) (hk : cs.kind = .function)
    (hd : dp + 2 < recursionLimit)
    (hret : ∀ (h' : Heap) (tk' : Nat), Fr h₀ L h' m → News h₀ L h' news → Q (.str (Str.ofString "v") t1) { s with heap := h', toks := tk' }) :
    wpAny (model Challenge.rw_ui0509_16.row.prog w) (ktrTop dp un gd cn cs L a ccd cl outer) (call (.ref 55) [.str (Str.ofString "v") t1]) Q E s := by
  w_top off
  revert X; k_fill; intro X
  refine wpAny_call ?_
  k_dflt (refine' code_need [] ?k1 ?k2 ?k3 ?k4 ?k5 ?kA ?kF ?kK ?k6 ?k7 ?k8 ?k9 ?kB ?kN ?_ ?c2 ?c3 ?c4 ?c5; walk_at "en0"; (case kN => exact fun _ h => nomatch h); walk_at "en1")
  k_steps
  all_goals (try dsimp only)
  all_goals first | exact (idx_no (by assumption) (by decide) (by decide +kernel)).elim | (refine leaveN_ (by k_asm) (by k_asm) ?_; intro kF kN kR kD; (try dsimp only); exact hret _ _ kF (news_all kR))
abbrev meterD (P : Params) (k1 k2 k3 k4 k5 : Tok) (nm tu fa ro re : Value) : Obj :=
  dictOf [⟨PyData.keyHash P (Str.ofString "name"), .str (Str.ofString "name") k1, nm⟩, ⟨PyData.keyHash P (Str.ofString "turns"), .str (Str.ofString "turns") k2, tu⟩, ⟨PyData.keyHash P (Str.ofString "factor"), .str (Str.ofString "factor") k3, fa⟩, ⟨PyData.keyHash P (Str.ofString "rows"), .str (Str.ofString "rows") k4, ro⟩, ⟨PyData.keyHash P (Str.ofString "rest"), .str (Str.ofString "rest") k5, re⟩] 5
abbrev Row (d v : Int) (t t' : Tok) (u : Value) (c : Nat) : Obj := { cls := .type "tuple", data := .seq #[.int d t, .int v t', u] c }
section
theorem words8 : True := by
  k_with "hat9" => (first | exact News.get (by k_asm) (by k_mem) | exact Fr.keep (by k_asm) _ _ (by with_reducible assumption) | exact Tk.get (by k_asm) (by k_asm) (by with_reducible assumption) (by walk_at "st") | exact Frag.In.keeps (by k_asm) (Fr.keep (by k_asm)) _ _ (by k_is))
  k_with "bits_by_make" => (with_reducible assumption)
  k_with "call ref" => (k_here; (with_reducible show wpAny _ _ (call (Value.ref 80) [Value.ref _]) _ _ _); k_dflt (refine' need_cu ?z20k1 ?z20k2 ?z20k3 ?z20k4 ?z20k5 ?z20k6 ?z20m1 ?z20k7 ?z20k8 ?z20b1 ?z20b2 ?z20z1 ?z20z2 ?_; (case z20k1 | z20k2 | z20k3 | z20k4 | z20k5 => k_asm); (case z20k6 => first | exact rfl | assumption); (case z20k7 => first | exact Nat.le_of_ble_eq_true rfl | ktr_room); (case z20k8 => first | exact Nat.le_of_ble_eq_true rfl | ktr_units); (case z20m1 => (walk_at "hat9")); (case z20b1 | z20b2 => bits_by_make); (case z20z1 | z20z2 => first | assumption | decide | omega); k_whole); walk_at "i3"; (try k_sweep))
  k_with "call ref" => (k_here; (with_reducible show wpAny _ _ (call (Value.ref 41) [Value.int _ _, Value.int _ _, Value.int _ _, Value.str _ _]) _ _ _); k_dflt (refine' need_number_c ?z21k1 ?z21k2 ?z21k3 ?z21k4 ?z21k5 ?z21k6 ?z21h1 ?z21h2 ?z21k7 ?_; (case z21k1 | z21k2 | z21k3 | z21k4 | z21k5 => k_asm); (case z21k6 => first | exact rfl | assumption); (case z21k7 => first | exact Nat.le_of_ble_eq_true rfl | ktr_room); (case z21h1 | z21h2 => first | decide | assumption | omega); k_whole); walk_at "i3"; (try k_sweep))
  k_with "call ref" => (k_here; (with_reducible show wpAny _ _ (call (Value.ref 55) [Value.str (PySem.Str.ofString "m") _]) _ _ _); k_dflt (refine' need_name_m ?z22k1 ?z22k2 ?z22k3 ?z22k4 ?z22k5 ?z22k6 ?z22k7 ?_; (case z22k1 | z22k2 | z22k3 | z22k4 | z22k5 => k_asm); (case z22k6 => first | exact rfl | assumption); (case z22k7 => first | exact Nat.le_of_ble_eq_true rfl | ktr_room); k_whole); walk_at "i3"; (try k_sweep))
  k_with "call ref" => (k_here; (with_reducible show wpAny _ _ (call (Value.ref 55) [Value.str (PySem.Str.ofString "n") _]) _ _ _); k_dflt (refine' need_name_n ?z23k1 ?z23k2 ?z23k3 ?z23k4 ?z23k5 ?z23k6 ?z23k7 ?_; (case z23k1 | z23k2 | z23k3 | z23k4 | z23k5 => k_asm); (case z23k6 => first | exact rfl | assumption); (case z23k7 => first | exact Nat.le_of_ble_eq_true rfl | ktr_room); k_whole); walk_at "i3"; (try k_sweep))
  k_with "subscriptTail" => (k_here; (with_reducible show wpAny _ _ (subscriptTail _ _ (Value.ref _) (Value.int _ _)) _ _ _); k_dflt (refine' tup_g ?z24k1 ?z24k2 ?z24k3 ?z24k4 ?z24k5 ?z24k6 ?z24k7 ?z24k8 ?_ ?z24k9 ?z24k10; (case z24k1 => k_asm); (case z24k2 => with_reducible assumption); (case z24k3 | z24k4 => exact rfl); (case z24k5 | z24k6 => decide); (case z24k7 | z24k8 => exact rfl); (case z24k9 => with_unfolding_all rfl); (case z24k10 => (intro _; with_unfolding_all rfl)); k_whole))
  trivial
theorem meter_new_m {w : World} {a : Addr} {A₀ : Around} {base h₀ : Heap} {L : Addr} {m : Str → Option Value} {news : List (Addr × Obj)} {s : Shared} {Q E : Value → Shared → Prop} {D1 : Addr} {r : Rat} {tu : Int} {t1 t1' t2 t3 : Tok} {c1 n1 n2 : Nat} 
    (B : Below A₀ base outer h₀) (F : Fr h₀ L s.heap m) (X : (HD.K w.params).In h₀) (N : News h₀ L s.heap news) (T : Top p loose mean mg mb h₀) (hk : cs.kind = .function) (e1 : (D1, RatO r t1 t1' c1) ∈ news)
    (hd : dp + 8 < recursionLimit) (hu : un + 200 < cLine) (h1 : 0 < r.num) (b1 : Builtin.Int.intBits r.num ≤ n1) (b2 : Builtin.Int.intBits (r.den : Int) ≤ n2) (z1 : n1 ≤ 6643) (z2 : n2 ≤ 6643) (hT : 10 ≤ tu) (hT2 : tu ≤ 1000000000000)
    (hret : ∀ (x d l : Addr) (k1 k2 k3 k4 k5 : Tok) (n : Nat) (h' : Heap) (tk' : Nat), Fr h₀ L h' m → News h₀ L h' ((x, instObj 393 d) :: (d, meterD w.params k1 k2 k3 k4 k5 (.str (Str.ofString "m") t2) (.int tu t3) (.ref D1) (.ref l) (.ref 56)) :: (l, listOf #[] n) :: news) → d ≠ x → l ≠ x → l ≠ d → (∀ p ∈ news, p.1 ≠ x) → (∀ p ∈ news, p.1 ≠ d) → (∀ p ∈ news, p.1 ≠ l) → Q (.ref x) { s with heap := h', toks := tk' }) :
    wpAny (model Challenge.rw_ui0509_16.row.prog w) (ktrTop dp un gd cn cs L a ccd cl outer) (call (.ref 393) [.str (Str.ofString "m") t2, .int tu t3, .ref D1]) Q E s := by
  w_top off
  revert X; k_fill; intro X
  k_dflt (refine' call_cls ?k1 ?k2 ?k3 ?k4 ?k5 ?k6 ?_; (case k1 | k2 | k3 => k_asm); (case k4 | k5 | k6 => k_is); k_whole; intro x0 d0 h0 F0 N0 l0 l00)
  have e2 := News.get N0 (cC9 (cC9 e1))
  have l2 : D1 < d0 := l0 _ e1
  k_dflt (refine' code_need [(x0, instObj 393 d0), (d0, dictOf [] 0)] ?k1 ?k2 ?k3 ?k4 ?k5 ?kA ?kF ?kK ?k6 ?k7 ?k8 ?k9 ?kB ?kN ?_ ?c2 ?c3 ?c4 ?c5; walk_at "en0"; (case kN => exact fcons cS9 (fcons m1K (List.forall_mem_nil _))); walk_at "en1")
  replace e2 := hG' _ _ e2 (by simp only [List.map_cons, List.map_nil, List.mem_cons, List.not_mem_nil, or_false, not_or]; exact ⟨neN (by have := ltN l2; have := ltN l00; omega), neN (by have := ltN l2; omega)⟩)
  replace l00 := ltN l00
  k_steps
  all_goals (refine leaveN_ (by k_asm) (by k_asm) ?_; intro kF kN kR kD; dsimp only [InitBack]; refine ⟨rfl, ?_⟩; exact hret _ _ _ _ _ _ _ _ _ _ _ kF (news_cons kN (by k_mem) (news_cons kN (by k_mem) (news_cons kN (by k_mem) fun p hp => kR p (rest_two l0 l00 hp)))) (neN (by walk_at "ne9")) (neN (by walk_at "ne9")) (neN (by walk_at "ne9")) (fun p hp => kD p (rest_two l0 l00 hp) _ (by k_mem : (_, instObj _ _) ∈ _)) (fun p hp => kD p (rest_two l0 l00 hp) _ (by k_mem : (_, meterD ..) ∈ _)) (fun p hp => kD p (rest_two l0 l00 hp) (_, listOf #[] _) (by k_mem)))
end
theorem last_at {vs : List Value} {v : Value} : (vs ++ [v])[(-1 + ((vs ++ [v]).length : Int)).toNat]? = some v := by
  have : (-1 + ((vs ++ [v]).length : Int)).toNat = vs.length := by simp; omega
  rw [this]; simp
end Mine
open Mine
local macro_rules | `(tactic| walk_at "i4") => `(tactic| (intro tk9))
namespace Mine
section
theorem words9 : True := by
  k_with_none
  k_with "k_in" => (refine' in_of ?z4fF ?z4fX; (case z4fF | z4fX => k_asm))
  k_with "hat9" => (first | exact News.get (by k_asm) (by k_mem) | exact Fr.keep (by k_asm) _ _ (by with_reducible assumption) | exact Tk.get (by k_asm) (by k_asm) (by with_reducible assumption) (by walk_at "st") | exact Frag.In.keeps (by k_asm) (Fr.keep (by k_asm)) _ _ (by k_is))
  k_with "bits_by_make" => (with_reducible assumption)
  k_with "call ref" => (k_here; (with_reducible show wpAny _ _ (call (Value.ref 41) [Value.int _ _, Value.int _ _, Value.int _ _, Value.str _ _]) _ _ _); k_dflt (refine' need_number_c ?z25k1 ?z25k2 ?z25k3 ?z25k4 ?z25k5 ?z25k6 ?z25h1 ?z25h2 ?z25k7 ?_; (case z25k1 | z25k2 | z25k3 | z25k4 | z25k5 => k_asm); (case z25k6 => first | exact rfl | assumption); (case z25k7 => first | exact Nat.le_of_ble_eq_true rfl | ktr_room); (case z25h1 | z25h2 => first | decide | assumption | omega); k_whole); walk_at "i3"; (try k_sweep))
  k_with "subscriptTail" => (k_here; (with_reducible show wpAny _ _ (subscriptTail _ _ (Value.ref _) (Value.int _ _)) _ _ _); k_dflt (refine' tup_g ?z26k1 ?z26k2 ?z26k3 ?z26k4 ?z26k5 ?z26k6 ?z26k7 ?z26k8 ?_ ?z26k9 ?z26k10; (case z26k1 => k_asm); (case z26k2 => with_reducible assumption); (case z26k3 | z26k4 => exact rfl); (case z26k5 | z26k6 => decide); (case z26k7 | z26k8 => exact rfl); (case z26k9 => with_unfolding_all rfl); (case z26k10 => (intro _; with_unfolding_all rfl)); k_whole))
  k_with "subscriptTail" => (k_here; (with_reducible show wpAny _ _ (subscriptTail _ _ (Value.ref _) (Value.int _ _)) _ _ _); k_dflt (refine' kim_back ?z27k1 ?z27k2 ?z27k3 ?z27k4 ?z27k5 ?z27k6 ?z27k7 ?z27k8 ?_ ?z27k9 ?z27k10; (case z27k1 => k_asm); (case z27k2 => k_mem); (case z27k3 | z27k4 => exact rfl); (case z27k5 => decide); (case z27k6 => (simp only [List.length_append, List.length_cons, List.length_nil]; omega)); (case z27k7 => decide); (case z27k8 => exact last_at); (case z27k9 => with_unfolding_all rfl); (case z27k10 => (intro _; with_unfolding_all rfl)); k_whole))
  k_with "call builtin:len" => (k_here; (with_reducible show wpAny _ _ (call (Value.builtin "len") [Value.ref _]) _ _ _); k_dflt (refine' lst_len ?z28k1 ?z28k2 ?z28k3 ?_; (case z28k1 => k_asm); (case z28k2 => k_mem); (case z28k3 => (simp only [List.length_append, List.length_cons, List.length_nil]; omega)); k_whole); walk_at "i4"; (try simp only [List.length_append, List.length_cons, List.length_nil]))
  k_with "size_fits" => ((try simp only [List.size_toArray, List.length_append, List.length_cons, List.length_nil]); rw [sizeLine_eq]; omega)
  trivial
theorem read_nil {w : World} {a : Addr} {A₀ : Around} {base h₀ : Heap} {L : Addr} {m : Str → Option Value} {news : List (Addr × Obj)} {s : Shared} {Q E : Value → Shared → Prop} {x d l : Addr} {k1 k2 k3 k4 k5 : Tok} {nm fa re : Value} {tu day val : Int} {t3 t4 t5 : Tok} {n : Nat} {news1 : List (Addr × Obj)} {g1 : Obj → List (Addr × Obj)} 
    (B : Below A₀ base outer h₀) (F : Fr h₀ L s.heap m) (X : (HD.K w.params).In h₀) (N : News h₀ L s.heap news) (T : Top p loose mean mg mb h₀) (hk : cs.kind = .function) (ex : (x, instObj 393 d) ∈ news) (U2 : Upd d (meterD w.params k1 k2 k3 k4 k5 nm (.int tu t3) fa (.ref l) re) (meterD w.params k1 k2 k3 k4 k5 nm (.int tu t3) fa (.ref l) (.ref 56)) news news1) (U1 : UpdF l (listOf ([] : List Value).toArray n) news1 g1) (ndx : d ≠ x) (nlx : l ≠ x) (nld : l ≠ d)
    (hd : dp + 8 < recursionLimit) (h1 : 1 ≤ day) (h2 : day ≤ 10000000) (h3 : 0 ≤ val) (h4 : val < tu)
    (hret : ∀ (D : Addr) (c n' : Nat) (h' : Heap) (tk' : Nat), Fr h₀ L h' m → News h₀ L h' ((D, Row day val t4 t5 .none c) :: g1 (listOf (([] : List Value) ++ [Value.ref D]).toArray n')) → (∀ p ∈ news, p.1 ≠ D) → Q .none { s with heap := h', toks := tk' }) :
    wpAny (model Challenge.rw_ui0509_16.row.prog w) (ktrTop dp un gd cn cs L a ccd cl outer) (call (.ref 362) [.ref x, .int day t4, .int val t5]) Q E s := by
  replace ndx := neN ndx; replace nlx := neN nlx; replace nld := neN nld
  w_top off
  revert X; k_fill; intro X
  refine wpAny_call ?_
  k_dflt (refine' code_need [(x, instObj 393 d), (d, meterD w.params k1 k2 k3 k4 k5 nm (.int tu t3) fa (.ref l) re), (l, listOf ([] : List Value).toArray n)] ?k1 ?k2 ?k3 ?k4 ?k5 ?kA ?kF ?kK ?k6 ?k7 ?k8 ?k9 ?kB ?kN ?_ ?c2 ?c3 ?c4 ?c5; walk_at "en0"; (case kN => exact three_in ex (Upd.mem U2) (Upd.other U2 (UpdF.mem U1) nld)); walk_at "en1")
  k_steps
  all_goals (refine leaveN_ (by k_asm) (by k_asm) ?_; intro kF kN kR kD; (try dsimp only); simp only [List.push_toArray] at kN; exact hret _ _ _ _ _ kF (news_cons kN cS9 (news_upd2 N ex U2 U1 kN (by k_mem) (by k_mem) (by k_mem) kR)) (ne_three kD cS9 (neN (by walk_at "ne9")) (neN (by walk_at "ne9")) (neN (by walk_at "ne9"))))
theorem read_snoc {w : World} {a : Addr} {A₀ : Around} {base h₀ : Heap} {L : Addr} {m : Str → Option Value} {news : List (Addr × Obj)} {s : Shared} {Q E : Value → Shared → Prop} {x d l : Addr} {k1 k2 k3 k4 k5 : Tok} {nm fa re : Value} {tu day val : Int} {t3 t4 t5 : Tok} {n : Nat} {news1 : List (Addr × Obj)} {g1 : Obj → List (Addr × Obj)} {vs : List Value} {D0 : Addr} {day0 val0 : Int} {t6 t7 : Tok} {u0 : Value} {c0 : Nat} 
    (B : Below A₀ base outer h₀) (F : Fr h₀ L s.heap m) (X : (HD.K w.params).In h₀) (N : News h₀ L s.heap news) (T : Top p loose mean mg mb h₀) (hk : cs.kind = .function) (ex : (x, instObj 393 d) ∈ news) (U2 : Upd d (meterD w.params k1 k2 k3 k4 k5 nm (.int tu t3) fa (.ref l) re) (meterD w.params k1 k2 k3 k4 k5 nm (.int tu t3) fa (.ref l) (.ref 56)) news news1) (U1 : UpdF l (listOf (vs ++ [Value.ref D0]).toArray n) news1 g1) (ndx : d ≠ x) (nlx : l ≠ x) (nld : l ≠ d) (e0 : s.heap.get? D0 = some (Row day0 val0 t6 t7 u0 c0)) (n0 : D0 ≠ x ∧ D0 ≠ d ∧ D0 ≠ l) (hlen : vs.length < 100000) (h5 : day0 < day)
    (hd : dp + 8 < recursionLimit) (h1 : 1 ≤ day) (h2 : day ≤ 10000000) (h3 : 0 ≤ val) (h4 : val < tu)
    (hret : ∀ (D : Addr) (c n' : Nat) (h' : Heap) (tk' : Nat), Fr h₀ L h' m → News h₀ L h' ((D, Row day val t4 t5 .none c) :: g1 (listOf ((vs ++ [Value.ref D0]) ++ [Value.ref D]).toArray n')) → (∀ p ∈ news, p.1 ≠ D) → Q .none { s with heap := h', toks := tk' }) :
    wpAny (model Challenge.rw_ui0509_16.row.prog w) (ktrTop dp un gd cn cs L a ccd cl outer) (call (.ref 362) [.ref x, .int day t4, .int val t5]) Q E s := by
  replace ndx := neN ndx; replace nlx := neN nlx; replace nld := neN nld
  w_top off
  revert X; k_fill; intro X
  refine wpAny_call ?_
  k_dflt (refine' code_need [(x, instObj 393 d), (d, meterD w.params k1 k2 k3 k4 k5 nm (.int tu t3) fa (.ref l) re), (l, listOf (vs ++ [Value.ref D0]).toArray n)] ?k1 ?k2 ?k3 ?k4 ?k5 ?kA ?kF ?kK ?k6 ?k7 ?k8 ?k9 ?kB ?kN ?_ ?c2 ?c3 ?c4 ?c5; walk_at "en0"; (case kN => exact three_in ex (Upd.mem U2) (Upd.other U2 (UpdF.mem U1) nld)); walk_at "en1")
  replace e0 := hG' _ _ e0 (by simp only [List.map_cons, List.map_nil, List.mem_cons, List.not_mem_nil, or_false, not_or]; exact n0)
  k_steps
  all_goals (refine leaveN_ (by k_asm) (by k_asm) ?_; intro kF kN kR kD; (try dsimp only); simp only [List.push_toArray] at kN; exact hret _ _ _ _ _ kF (news_cons kN cS9 (news_upd2 N ex U2 U1 kN (by k_mem) (by k_mem) (by k_mem) kR)) (ne_three kD cS9 (neN (by walk_at "ne9")) (neN (by walk_at "ne9")) (neN (by walk_at "ne9"))))
end
theorem neW {news W full : List (Addr × Obj)} {q : Addr × Obj} (kD : ∀ p ∈ restOf news W, ∀ q ∈ full, p.1 ≠ q.1) (hq : q ∈ full) (hw : ∀ p ∈ W, p.1 ≠ q.1) : ∀ p ∈ news, p.1 ≠ q.1 := by
  intro p hp
  by_cases h : p.1 ∈ W.map (·.1)
  · obtain ⟨r, hr, e⟩ := List.mem_map.mp h
    rw [← e]; exact hw r hr
  · exact kD p (mem_rest hp h) q hq
section
variable {prog : Program} {w : World} {A : Around} {E : Value → Shared → Prop} {s : Shared} {h₀ : Heap} {L : Addr} {m : Str → Option Value} {env : Env}
def CompSrcV (prog : Program) (w : World) (A : Around) (h₀ : Heap) (L : Addr) (m : Str → Option Value) (env : Env) (ct elt : Expr) (x : Str) (scope : Scope) (cl : List (Str × Addr)) (Fin : Shared → List Value → List (Addr × Obj) → Prop) (xv : Value) (s₁ : Shared) : Prop :=
  ∃ (D d : Addr) (o : Obj) (kvs : List (Str × Value)) (news : List (Addr × Obj)), xv = .ref D ∧ A.handled = none ∧ Fr h₀ L s₁.heap m ∧ News h₀ L s₁.heap news ∧ s₁.heap.IsValuesView D d ∧ (d, o) ∈ news ∧ o.IsDictOf (PySem.strKind prog w) kvs ∧ kvs.length ≤ sizeLine ∧
    ∀ s₂ : Shared, (∃ h, s₂ = { s₁ with heap := h }) → LCt.CompRestT prog w A h₀ L m env ct elt x scope cl s₂ (fun nw => (d, o) ∈ nw) (fun i v => ∃ k, kvs[i]? = some (k, v)) (Fin s₂) kvs.length 0 [] news
theorem ListComp_V {ct elt iter : Expr} {x : Str} {px : Pos} {scope : Scope} {cl : List (Str × Addr)} {pos : Pos} {Q : Value → Shared → Prop} (_F₀ : Fr h₀ L s.heap m)
    (hclos : closureFor scope env = pure cl) (hcell : ∀ y ∈ scope.names, y.2 ≠ .cell) (hkind : scope.kind = .function)
    (hnames : ∀ y ∈ scope.names, y.2 = .local → scope.names.lookup y.1 = some .local) (hx : scope.names.lookup x = some .local)
    (h : wpAny (model prog w) A (eval iter env) (CompSrcV prog w A h₀ L m env ct elt x scope cl (fun s₂ => LCg.FinE h₀ L m s₂ Q)) E s)
    (hs : ∀ x, foldedSetIterable iter env x = pure x := by intro _; rfl) :
    wpAny (model prog w) A (eval (.ListComp elt [⟨.Name x px, iter, [ct], 0⟩] scope pos) env) Q E s := by
  rw [eval_ListComp]
  refine wpAny_comprehension_free (use := none) rfl hs hclos hkind hnames (wpAny_mono h (fun xv s₁ h₁ => ?_) fun _ _ e => e)
  obtain ⟨D, d, o, kvs, news, rfl, hh, F, N, hv, hm, hd, hsz, R⟩ := h₁
  have hat0 := (N _ hm).1
  obtain ⟨es, ep, he, hdat, hk, hp, hn⟩ := hd
  have at9 : ∀ g : Heap, g.get? d = some o → g.DictAt (PySem.strKind prog w) d kvs ep := fun g e => ⟨o, es, e, he, hdat, hk, hp, hn⟩
  have hne : d ≠ s₁.heap.objs.size := Nat.ne_of_lt (Heap.lt_size hat0)
  refine wpAny_pyIter_values hv (at9 _ hat0) ?_
  have up : ∀ b ob, s₁.heap.get? b = some ob → (s₁.heap.push { cls := .type "dict_valueiterator", data := .fields #[.ref d, .int 0 0, .int kvs.length 0, .int ep 0] }).get? b = some ob := fun b ob e => Heap.get?_push_of_some _ e
  refine LCt.block_T (S := fun nw => (d, o) ∈ nw) (Walks.dictValues (knd := PySem.strKind prog w) hh s₁.heap.objs.size d hne kvs ep) hsz (fun i h st => by obtain ⟨ob, e, _⟩ := st.1; exact ⟨ob, e⟩) ?hSt hcell hkind hx ⟨⟨_, Heap.get?_push_size _ rfl, rfl, rfl⟩, at9 _ (up _ _ hat0)⟩ (fun b hb => ?_)
    (F.keeps up) (N.grown up) (Nat.ne_of_lt F.ns.lt) (next_is_new F) (fun p hp => Nat.ne_of_lt (Heap.lt_size (N p hp).1)) hm (R _ ⟨_, rfl⟩) ?_
  case hSt =>
    intro i g g' ob nw st e1 e2 _ Nw hw
    obtain ⟨oi, ei, r⟩ := st.1
    rw [e1] at ei
    cases ei
    exact ⟨⟨ob, e2, r⟩, at9 _ (Nw _ hw).1⟩
  · show b < (s₁.heap.push _).objs.size
    rw [Heap.size_push]
    rcases List.mem_cons.mp hb with rfl | hb
    · exact Nat.lt_succ_self _
    · rw [List.mem_singleton.mp hb]; exact Nat.lt_succ_of_lt (Heap.lt_size hat0)
  · intro D C h tk m' ys news' F' N' o1 hn hC₀ hD₀ hCL hDL hCD offC fin
    refine ⟨m', hn, fun h'' hs'' => fin D h'' tk (F'.change hs'' hCL hC₀) (fun p hp => ?_) o1⟩
    refine ⟨hs''.extBut _ _ ?_ (N' p hp).1, (N' p hp).2⟩
    rcases List.mem_cons.mp hp with rfl | hp
    · exact Ne.symm hCD
    · exact offC p hp
end
section
variable {prog : Program} {w : World} {A : Around} {E : Value → Shared → Prop} {s : Shared} {env : Env} {h₀ : Heap} {body : List Stmt} {Q : Flow → Shared → Prop}
theorem For_grow {iter : Expr} {x : Str} {px pos : Pos} {ax : Addr} (bound : Nat) (J : Nat → (Str → Option Value) → List (Addr × Obj) → Prop)
    (hh : A.handled = none)
    (h : wpAny (model prog w) A (eval iter env) (fun xv s₁ => xv = .ref ax ∧ ∃ m₀ news₀ h₁ tk₁, s₁ = { s with heap := h₁, toks := tk₁ } ∧ Fr h₀ env.locals h₁ m₀ ∧ News h₀ env.locals h₁ news₀ ∧ J 0 m₀ news₀) E s)
    (hl : ∀ i m news, J i m news → i ≤ bound ∧ ∃ vs n, (ax, listOf (List.toArray vs) n) ∈ news)
    (turn : ∀ I i v m news vs n h tk (o : Obj), J i m news → (ax, listOf (List.toArray vs) n) ∈ news → vs[i]? = some v → (∀ p ∈ news, p.1 ≠ I) → Fr h₀ env.locals h m → o.cls = .type "list_iterator" → News h₀ env.locals h ((I, o) :: news) →
      wpAny (model prog w) A (assign (.Name x px) env v) (fun _ s₂ => wpAny (model prog w) A (execs body env) (UnrPostW h₀ env.locals { s with heap := h, toks := tk } [(I, o)] (J (i + 1)) Q) E s₂) E { s with heap := h, toks := tk })
    (done : ∀ i m news vs n h tk, J i m news → (ax, listOf (List.toArray vs) n) ∈ news → vs[i]? = none → Fr h₀ env.locals h m → News h₀ env.locals h news → Q .next { s with heap := h, toks := tk })
    (hs : ∀ x, foldedSetIterable iter env x = pure x := by intro _; rfl)
    (hE : PassesOwn (model prog w) A env E := by passes_own) :
    wpAny (model prog w) A (exec (.For (.Name x px) iter body [] pos) env) Q E s := by
  refine wpAny_For (wpAny_mono h (fun xv s₁ h₁ => ?_) fun _ _ e => e) hs
  obtain ⟨rfl, m₀, news₀, h₁, tk₁, rfl, F₀, N₀, J₀⟩ := h₁
  obtain ⟨_, vs₀, n₀, hm₀⟩ := hl _ _ _ J₀
  have hax := (N₀ _ hm₀).1
  refine wpAny_pyIter_list (items := vs₀.toArray) ⟨_, hax, rfl, n₀, rfl⟩ ?_
  have hIn : ∀ p ∈ news₀, p.1 ≠ h₁.objs.size := fun p hp => Nat.ne_of_lt (Heap.lt_size (N₀ p hp).1)
  have hI0 : h₀.get? h₁.objs.size = none := next_is_new F₀
  have hIL : env.locals ≠ h₁.objs.size := Nat.ne_of_lt F₀.ns.lt
  generalize hI : h₁.objs.size = I at *
  refine codeAny_forLoop (fun k s' => ∃ i h' tk m' news', s' = { s with heap := h', toks := tk } ∧ h'.IsListIter I ax i ∧ Fr h₀ env.locals h' m' ∧ News h₀ env.locals h' news' ∧ (∀ p ∈ news', p.1 ≠ I) ∧ J i m' news' ∧ k = bound + 1 - i) ?_ (bound + 1) ?_
  · rintro k s' ⟨i, h', tk, m', news', rfl, hit, F', N', off, hJ, rfl⟩
    obtain ⟨hib, vs, n, hm⟩ := hl _ _ _ hJ
    have hax' : h'.IsList ax vs.toArray := ⟨_, (N' _ hm).1, rfl, n, rfl⟩
    cases hv : vs[i]? with
    | none =>
      refine wpAny_pyNext_list_end hh hit hax' (by simpa using hv) fun h₂ hk => wpAny_execs_nil ?_
      refine done i m' news' vs n h₂ tk hJ hm hv ⟨F'.ns.at' fun o e => hk _ o hIL e, fun b o e => hk b o (fun q => by rw [q, hI0] at e; cases e) (F'.keep b o e), F'.above⟩ fun p hp => ⟨hk _ _ (off p hp) (N' p hp).1, (N' p hp).2⟩
    | some v =>
      refine wpAny_pyNext_list_item hit hax' (by simpa using hv) fun h₂ hit₂ hk => ?_
      have hk' : ∀ b o, b ≠ I → h'.get? b = some o → h₂.get? b = some o := fun b o hb e => hk.extBut b o hb e
      have F₂ : Fr h₀ env.locals h₂ m' := ⟨F'.ns.at' fun o e => hk' _ o hIL e, fun b o e => hk' b o (fun q => by rw [q, hI0] at e; cases e) (F'.keep b o e), F'.above⟩
      obtain ⟨o, ho, hoc, hod⟩ := id hit₂
      have N₂ : News h₀ env.locals h₂ ((I, o) :: news') := fun p hp => by
        rcases List.mem_cons.mp hp with rfl | hp
        · exact ⟨ho, fun q => hIL q.symm, hI0⟩
        · exact ⟨hk' _ _ (off p hp) (N' p hp).1, (N' p hp).2⟩
      have fin : ∀ s₃, UnrEndW h₀ env.locals { s with heap := h₂, toks := tk } [(I, o)] (J (i + 1)) s₃ → ∃ m, m < bound + 1 - i ∧ ∃ i h' tk m' news', s₃ = { s with heap := h', toks := tk } ∧ h'.IsListIter I ax i ∧ Fr h₀ env.locals h' m' ∧ News h₀ env.locals h' news' ∧ (∀ p ∈ news', p.1 ≠ I) ∧ J i m' news' ∧ m = bound + 1 - i := by
        rintro s₃ ⟨h₃, tk₃, m₃, news₃, rfl, F₃, N₃, off₃, J₃⟩
        have hb := (hl _ _ _ J₃).1
        exact ⟨bound + 1 - (i + 1), by omega, i + 1, h₃, tk₃, m₃, news₃, rfl, ⟨o, (N₃ _ (aL0 (List.mem_singleton.mpr rfl))).1, hoc, hod⟩, F₃, fun p hp => N₃ p (aR0 hp), fun p hp => off₃ p hp _ (List.mem_singleton.mpr rfl), J₃, rfl⟩
      refine wpAny_mono (turn I i v m' news' vs n h₂ tk o hJ hm hv off F₂ hoc N₂) (fun _ s₂ h₂ => wpAny_passesOwn hE (wpAny_mono h₂ (fun f s₃ p => ?_) fun _ _ e => e)) hE
      cases f with
      | ret v => exact p
      | brk => exact p
      | next => exact fin _ p
      | cont => exact fin _ p
  · refine ⟨0, _, _, m₀, news₀, rfl, ⟨_, by rw [← hI]; exact Heap.get?_push_size _ rfl, rfl, rfl⟩, F₀.push _, fun p hp => ⟨Heap.get?_push_of_some _ (N₀ p hp).1, (N₀ p hp).2⟩, hIn, J₀, rfl⟩
end
set_option genInjectivity false in
set_option genSizeOf false in
structure NetP where
  (net dn jl pd pp ppd cd cu cud : Addr)
  (a1 a2 a3 a4 a5 a6 b1 b2 b3 b4 b5 b6 b7 b8 c1 c2 c3 c4 c5 e1 e2 s1 s2 s3 s4 s5 s6 s7 s8 : Tok)
  (gr bd nm ln rs lo li nc dr le : Value) (dl : Addr) (opd ocd : Obj)
  (cv cvd dv : Addr) (f1 f2 f3 f4 f5 s9 : Tok) (nc2 dr2 le2 : Value)
section
theorem words10 : True := by
  k_with_none
  k_with "k_in" => (refine' in_of ?z4fF ?z4fX; (case z4fF | z4fX => k_asm))
  k_with "hat9" => (first | exact News.get (by k_asm) (by k_mem) | exact Fr.keep (by k_asm) _ _ (by with_reducible assumption) | exact Tk.get (by k_asm) (by k_asm) (by with_reducible assumption) (by walk_at "st") | exact Frag.In.keeps (by k_asm) (Fr.keep (by k_asm)) _ _ (by k_is))
  k_with "eval Name" => (k_here; k_dflt (refine' ld ?z29k1 ?z29k2 ?_; (case z29k1 => k_asm); (case z29k2 => first | exact rfl | assumption); k_whole))
  k_with "eval ListComp" => (k_here; lct_look; k_dflt (refine ListComp_V (_F₀ := by k_asm) (by with_unfolding_all rfl) (by decide) (by rfl) (by decide) (by rfl) ?_))
  k_with "CompSrcV" => (refine Hold.out ?_)
  k_with "CompEnd" => (show LCg.CompEnd _ _ _ _ _ _ _ _ _ _ _ _ _ _; refine Hold.out ?_)
  trivial
theorem open_c {w : World} {a : Addr} {A₀ : Around} {base h₀ : Heap} {L : Addr} {m : Str → Option Value} {news : List (Addr × Obj)} {s : Shared} {Q E : Value → Shared → Prop} {z : NetP} 
    (B : Below A₀ base outer h₀) (F : Fr h₀ L s.heap m) (X : (HD.K w.params).In h₀) (N : News h₀ L s.heap news) (T : Top p loose mean mg mb h₀) (hk : cs.kind = .function) (hn : ∀ p ∈ [(z.net, instObj 312 z.dn), (z.dn, dN9 w.params z.a1 z.a2 z.a3 z.a4 z.a5 z.a6 z.gr (.ref z.jl) (.str (Str.ofString "a") z.s1) (.ref z.pd) (.ref z.cd) z.bd), (z.pd, z.opd), (z.pp, instObj 153 z.ppd), (z.ppd, dP9 w.params z.b1 z.b2 z.b3 z.b4 z.b5 z.b6 z.b7 z.b8 z.nm (.str (Str.ofString "a") z.s4) (.str (Str.ofString "b") z.s5) z.ln z.rs z.lo z.li (.bool true))], p ∈ news) (lpd : (z.pd == sysModules) = false) (hpd : z.opd.IsDictOf (PySem.strKind Challenge.rw_ui0509_16.row.prog w) [(Str.ofString "p", Value.ref z.pp)])
    (hd : dp + 4 < recursionLimit) (hu : un + 100 < cLine)
    (hret : ∀ (D : Addr) (n : Nat) (h' : Heap) (tk' : Nat), Fr h₀ L h' m → News h₀ L h' ((D, listOf [.ref z.pp].toArray n) :: news) → (∀ p ∈ news, p.1 ≠ D) → Q (.ref D) { s with heap := h', toks := tk' }) :
    wpAny (model Challenge.rw_ui0509_16.row.prog w) (ktrTop dp un gd cn cs L a ccd cl outer) (call (.ref 269) [.ref z.net]) Q E s := by
  w_top off
  revert X; k_fill; intro X
  refine wpAny_call ?_
  k_dflt (refine' code_need [(z.net, instObj 312 z.dn), (z.dn, dN9 w.params z.a1 z.a2 z.a3 z.a4 z.a5 z.a6 z.gr (.ref z.jl) (.str (Str.ofString "a") z.s1) (.ref z.pd) (.ref z.cd) z.bd), (z.pd, z.opd), (z.pp, instObj 153 z.ppd), (z.ppd, dP9 w.params z.b1 z.b2 z.b3 z.b4 z.b5 z.b6 z.b7 z.b8 z.nm (.str (Str.ofString "a") z.s4) (.str (Str.ofString "b") z.s5) z.ln z.rs z.lo z.li (.bool true))] ?k1 ?k2 ?k3 ?k4 ?k5 ?kA ?kF ?kK ?k6 ?k7 ?k8 ?k9 ?kB ?kN ?_ ?c2 ?c3 ?c4 ?c5; walk_at "en0"; (case kN => exact hn); walk_at "en1")
  k_steps
  unfold Hold
  (rename News _ _ _ _ => N9)
  (rename Fr _ _ _ _ => F9)
  refine ⟨_, _, _, _, _, rfl, rfl, F9, N9, ⟨_, N9.get cS9, rfl, rfl⟩, by k_mem, hpd, Nat.le_of_ble_eq_true rfl, ?_⟩
  rintro _ ⟨g9, rfl⟩
  refine LCt.CompRestT.succ ?_
  intro v I oI C oC D9 m2 h tk E' hP hC hx Fm Nn off ne
  obtain ⟨kk, hP⟩ := hP
  obtain rfl : v = Value.ref z.pp := by have := hP; simp at this; exact this.2.symm
  clear F9 N9
  have off' := off
  simp only [LCg.Off3, and_true, and_assoc] at off'
  k_steps
  unfold Hold
  refine LCg.CompEnd.intro (by k_asm) (by k_asm) _ (fun _ h => h) off (by k_mem) (LCt.CompRestT.zero ?_)
  intro D h8 tk8 F8 N8 off8
  simp only [LCg.Off1, and_true] at off8
  k_steps
  try dsimp only
  refine leaveN_ (by k_asm) (by k_asm) ?_; intro kF kN kR kD; (try dsimp only)
  exact hret _ _ _ _ kF (news_cons kN cS9 (news_back N hn kN (by walk_at "st") kR)) (neW kD cS9 (fcons off8.2.1 (fcons off8.2.2.1 (fcons off8.2.2.2.1 (fcons off8.2.2.2.2.1 (fcons off8.2.2.2.2.2 (List.forall_mem_nil _)))))))
end
section
theorem words11 : True := by
  k_with_none
  k_with "k_in" => (refine' in_of ?z4fF ?z4fX; (case z4fF | z4fX => k_asm))
  k_with "hat9" => (first | exact News.get (by k_asm) (by k_mem) | exact Fr.keep (by k_asm) _ _ (by with_reducible assumption) | exact Tk.get (by k_asm) (by k_asm) (by with_reducible assumption) (by walk_at "st") | exact Frag.In.keeps (by k_asm) (Fr.keep (by k_asm)) _ _ (by k_is))
  k_with "eval Name" => (k_here; k_dflt (refine' nameX_L ?z30k1 ?z30k2 ?_ ?z30k3 ?z30k4; (case z30k1 => k_asm); (case z30k2 => first | exact rfl | assumption); (case z30k3 | z30k4 => rfl); k_whole))
  k_with "eval ListComp" => (k_here; lct_look; k_dflt (refine LCt.ListComp_T (F₀ := by k_asm) (by with_unfolding_all rfl) (by decide) (by rfl) (by decide) (by rfl) ?_))
  k_with "CompSrcT" => (refine Hold.out ?_)
  k_with "CompEnd" => (show LCg.CompEnd _ _ _ _ _ _ _ _ _ _ _ _ _ _; refine Hold.out ?_)
  k_with "call ref" => (k_here; (with_reducible show wpAny _ _ (call (Value.ref 269) _ _) _ _ _); refine Hold.out ?_)
  trivial
theorem at_a {w : World} {a : Addr} {A₀ : Around} {base h₀ : Heap} {L : Addr} {m : Str → Option Value} {news : List (Addr × Obj)} {s : Shared} {Q E : Value → Shared → Prop} {z : NetP} {tj : Tok} 
    (B : Below A₀ base outer h₀) (F : Fr h₀ L s.heap m) (X : (HD.K w.params).In h₀) (N : News h₀ L s.heap news) (T : Top p loose mean mg mb h₀) (hk : cs.kind = .function) (hn : ∀ p ∈ [(z.net, instObj 312 z.dn), (z.dn, dN9 w.params z.a1 z.a2 z.a3 z.a4 z.a5 z.a6 z.gr (.ref z.jl) (.str (Str.ofString "a") z.s1) (.ref z.pd) (.ref z.cd) z.bd), (z.pd, z.opd), (z.pp, instObj 153 z.ppd), (z.ppd, dP9 w.params z.b1 z.b2 z.b3 z.b4 z.b5 z.b6 z.b7 z.b8 z.nm (.str (Str.ofString "a") z.s4) (.str (Str.ofString "b") z.s5) z.ln z.rs z.lo z.li (.bool true))], p ∈ news) (lpd : (z.pd == sysModules) = false) (hpd : z.opd.IsDictOf (PySem.strKind Challenge.rw_ui0509_16.row.prog w) [(Str.ofString "p", Value.ref z.pp)])
    (hd : dp + 8 < recursionLimit) (hu : un + 200 < cLine)
    (hret : ∀ (D : Addr) (n : Nat) (h' : Heap) (tk' : Nat), Fr h₀ L h' m → News h₀ L h' ((D, listOf [.ref z.pp].toArray n) :: news) → (∀ p ∈ news, p.1 ≠ D) → Q (.ref D) { s with heap := h', toks := tk' }) :
    wpAny (model Challenge.rw_ui0509_16.row.prog w) (ktrTop dp un gd cn cs L a ccd cl outer) (call (.ref 274) [.ref z.net, .str (Str.ofString "a") tj]) Q E s := by
  w_top off
  revert X; k_fill; intro X
  refine wpAny_call ?_
  k_dflt (refine' code_needC [(z.net, instObj 312 z.dn), (z.dn, dN9 w.params z.a1 z.a2 z.a3 z.a4 z.a5 z.a6 z.gr (.ref z.jl) (.str (Str.ofString "a") z.s1) (.ref z.pd) (.ref z.cd) z.bd), (z.pd, z.opd), (z.pp, instObj 153 z.ppd), (z.ppd, dP9 w.params z.b1 z.b2 z.b3 z.b4 z.b5 z.b6 z.b7 z.b8 z.nm (.str (Str.ofString "a") z.s4) (.str (Str.ofString "b") z.s5) z.ln z.rs z.lo z.li (.bool true))] ?k1 ?k2 ?k3 ?k4 ?k5 ?kA ?kF ?kK ?k6 ?k7 ?k8 ?k9 ?kB ?kD ?kN ?_ ?c2 ?c3 ?c4; (case kA | kF => exact rfl); (case kK => assumption); (case k1 | k2 | k3 | k4 | k5 => k_asm); (case k6 | k7 => k_is); (case k8 => ktr_room); (case k9 => first | exact BindsTo.of_eq rfl | exact binds_K (by k_in) rfl (by k_is) rfl rfl rfl); (case kB => exact rfl); (case kD => decide +kernel); (case kN => exact hn); (case c2 | c3 | c4 => exact rfl); k_whole; intro g' L' h' tk0 cells' FG' F' N' Y' B' X' T' l1 hG')
  obtain ⟨o1, rfl, q1⟩ := CellsAre.one Y'
  clear Y'
  (try dsimp only [List.cons_append, List.nil_append] at N')
  (try dsimp only); (try k_fold)
  replace q1 : o1.data = .cell (some (.str (Str.ofString "a") tj)) := q1
  k_steps
  unfold Hold
  k_dflt (refine' open_c (z := z) ?k1 ?k2 ?k3 ?k4 ?k5 ?k6 ?hn ?lpd ?hpd ?k7 ?k8 ?_)
  case k1 | k2 | k3 | k4 | k5 => k_asm
  case k6 => first | exact rfl | assumption
  case k7 => ktr_room
  case k8 => ktr_units
  case hn => exact (by walk_at "st")
  case lpd => exact lpd
  case hpd => exact hpd

  intro D5 n5 h5 tk5 F5 N5 l5
  replace l5 := allNe_of l5
  simp only [AllNe, and_true] at l5
  k_steps
  unfold Hold
  (rename News _ _ _ _ => N9)
  refine LCt.CompSrcT.ledger rfl (by k_asm) N9 cS9 (Nat.le_of_ble_eq_true rfl) (fun g9 => ?_)
  refine LCt.CompRestT.succ ?_
  intro v I oI C oC D9 m2 h tk E' hP hC hx Fm Nn off ne
  obtain rfl : v = Value.ref z.pp := by have := hP; simp at this; exact this.symm
  clear N9
  have off' := off
  simp only [LCg.Off3, and_true, and_assoc] at off'
  k_steps
  unfold Hold
  refine LCg.CompEnd.intro (by k_asm) (by k_asm) _ (fcons (by k_mem) (fcons (by k_mem) (fcons (by k_mem) (fcons (by k_mem) (fcons (by k_mem) (fcons (by k_mem) (fcons (by k_mem) (fcons (by k_mem) (fcons (by k_mem) (fcons (by k_mem) (List.forall_mem_nil _))))))))))) off (.inr ⟨_, cS9, rfl, _, rfl⟩) (LCt.CompRestT.zero ?_)
  intro D h8 tk8 F8 N8 off8
  simp only [LCg.Off1, and_true] at off8
  k_steps
  try dsimp only
  refine leaveN_ (by k_asm) (by k_asm) ?_; intro kF kN kR kD; (try dsimp only)
  exact hret _ _ _ _ kF (news_cons kN cS9 (news_back N hn kN (by walk_at "st") kR)) (neW kD cS9 (fcons off8.2.2.1 (fcons off8.2.2.2.1 (fcons off8.2.2.2.2.1 (fcons off8.2.2.2.2.2.1 (fcons off8.2.2.2.2.2.2 (List.forall_mem_nil _)))))))
theorem at_b {w : World} {a : Addr} {A₀ : Around} {base h₀ : Heap} {L : Addr} {m : Str → Option Value} {news : List (Addr × Obj)} {s : Shared} {Q E : Value → Shared → Prop} {z : NetP} {tj : Tok} 
    (B : Below A₀ base outer h₀) (F : Fr h₀ L s.heap m) (X : (HD.K w.params).In h₀) (N : News h₀ L s.heap news) (T : Top p loose mean mg mb h₀) (hk : cs.kind = .function) (hn : ∀ p ∈ [(z.net, instObj 312 z.dn), (z.dn, dN9 w.params z.a1 z.a2 z.a3 z.a4 z.a5 z.a6 z.gr (.ref z.jl) (.str (Str.ofString "a") z.s1) (.ref z.pd) (.ref z.cd) z.bd), (z.pd, z.opd), (z.pp, instObj 153 z.ppd), (z.ppd, dP9 w.params z.b1 z.b2 z.b3 z.b4 z.b5 z.b6 z.b7 z.b8 z.nm (.str (Str.ofString "a") z.s4) (.str (Str.ofString "b") z.s5) z.ln z.rs z.lo z.li (.bool true))], p ∈ news) (lpd : (z.pd == sysModules) = false) (hpd : z.opd.IsDictOf (PySem.strKind Challenge.rw_ui0509_16.row.prog w) [(Str.ofString "p", Value.ref z.pp)])
    (hd : dp + 8 < recursionLimit) (hu : un + 200 < cLine)
    (hret : ∀ (D : Addr) (n : Nat) (h' : Heap) (tk' : Nat), Fr h₀ L h' m → News h₀ L h' ((D, listOf [.ref z.pp].toArray n) :: news) → (∀ p ∈ news, p.1 ≠ D) → Q (.ref D) { s with heap := h', toks := tk' }) :
    wpAny (model Challenge.rw_ui0509_16.row.prog w) (ktrTop dp un gd cn cs L a ccd cl outer) (call (.ref 274) [.ref z.net, .str (Str.ofString "b") tj]) Q E s := by
  w_top off
  revert X; k_fill; intro X
  refine wpAny_call ?_
  k_dflt (refine' code_needC [(z.net, instObj 312 z.dn), (z.dn, dN9 w.params z.a1 z.a2 z.a3 z.a4 z.a5 z.a6 z.gr (.ref z.jl) (.str (Str.ofString "a") z.s1) (.ref z.pd) (.ref z.cd) z.bd), (z.pd, z.opd), (z.pp, instObj 153 z.ppd), (z.ppd, dP9 w.params z.b1 z.b2 z.b3 z.b4 z.b5 z.b6 z.b7 z.b8 z.nm (.str (Str.ofString "a") z.s4) (.str (Str.ofString "b") z.s5) z.ln z.rs z.lo z.li (.bool true))] ?k1 ?k2 ?k3 ?k4 ?k5 ?kA ?kF ?kK ?k6 ?k7 ?k8 ?k9 ?kB ?kD ?kN ?_ ?c2 ?c3 ?c4; (case kA | kF => exact rfl); (case kK => assumption); (case k1 | k2 | k3 | k4 | k5 => k_asm); (case k6 | k7 => k_is); (case k8 => ktr_room); (case k9 => first | exact BindsTo.of_eq rfl | exact binds_K (by k_in) rfl (by k_is) rfl rfl rfl); (case kB => exact rfl); (case kD => decide +kernel); (case kN => exact hn); (case c2 | c3 | c4 => exact rfl); k_whole; intro g' L' h' tk0 cells' FG' F' N' Y' B' X' T' l1 hG')
  obtain ⟨o1, rfl, q1⟩ := CellsAre.one Y'
  clear Y'
  (try dsimp only [List.cons_append, List.nil_append] at N')
  (try dsimp only); (try k_fold)
  replace q1 : o1.data = .cell (some (.str (Str.ofString "b") tj)) := q1
  k_steps
  unfold Hold
  k_dflt (refine' open_c (z := z) ?k1 ?k2 ?k3 ?k4 ?k5 ?k6 ?hn ?lpd ?hpd ?k7 ?k8 ?_)
  case k1 | k2 | k3 | k4 | k5 => k_asm
  case k6 => first | exact rfl | assumption
  case k7 => ktr_room
  case k8 => ktr_units
  case hn => exact (by walk_at "st")
  case lpd => exact lpd
  case hpd => exact hpd

  intro D5 n5 h5 tk5 F5 N5 l5
  replace l5 := allNe_of l5
  simp only [AllNe, and_true] at l5
  k_steps
  unfold Hold
  (rename News _ _ _ _ => N9)
  refine LCt.CompSrcT.ledger rfl (by k_asm) N9 cS9 (Nat.le_of_ble_eq_true rfl) (fun g9 => ?_)
  refine LCt.CompRestT.succ ?_
  intro v I oI C oC D9 m2 h tk E' hP hC hx Fm Nn off ne
  obtain rfl : v = Value.ref z.pp := by have := hP; simp at this; exact this.symm
  clear N9
  have off' := off
  simp only [LCg.Off3, and_true, and_assoc] at off'
  k_steps
  unfold Hold
  refine LCg.CompEnd.intro (by k_asm) (by k_asm) _ (fcons (by k_mem) (fcons (by k_mem) (fcons (by k_mem) (fcons (by k_mem) (fcons (by k_mem) (fcons (by k_mem) (fcons (by k_mem) (fcons (by k_mem) (fcons (by k_mem) (fcons (by k_mem) (List.forall_mem_nil _))))))))))) off (.inr ⟨_, cS9, rfl, _, rfl⟩) (LCt.CompRestT.zero ?_)
  intro D h8 tk8 F8 N8 off8
  simp only [LCg.Off1, and_true] at off8
  k_steps
  try dsimp only
  refine leaveN_ (by k_asm) (by k_asm) ?_; intro kF kN kR kD; (try dsimp only)
  exact hret _ _ _ _ kF (news_cons kN cS9 (news_back N hn kN (by walk_at "st") kR)) (neW kD cS9 (fcons off8.2.2.1 (fcons off8.2.2.2.1 (fcons off8.2.2.2.2.1 (fcons off8.2.2.2.2.2.1 (fcons off8.2.2.2.2.2.2 (List.forall_mem_nil _)))))))
end
section
theorem words12 : True := by
  k_with_none
  k_with "k_in" => (refine' in_of ?z4fF ?z4fX; (case z4fF | z4fX => k_asm))
  k_with "hat9" => (first | exact News.get (by k_asm) (by k_mem) | exact Fr.keep (by k_asm) _ _ (by with_reducible assumption) | exact Tk.get (by k_asm) (by k_asm) (by with_reducible assumption) (by walk_at "st") | exact Frag.In.keeps (by k_asm) (Fr.keep (by k_asm)) _ _ (by k_is))
  k_with "eval Name" => (k_here; k_dflt (refine' ld ?z31k1 ?z31k2 ?_; (case z31k1 => k_asm); (case z31k2 => first | exact rfl | assumption); k_whole))
  trivial
theorem far_a {w : World} {a : Addr} {A₀ : Around} {base h₀ : Heap} {L : Addr} {m : Str → Option Value} {news : List (Addr × Obj)} {s : Shared} {Q E : Value → Shared → Prop} {z : NetP} {tj : Tok} 
    (B : Below A₀ base outer h₀) (F : Fr h₀ L s.heap m) (X : (HD.K w.params).In h₀) (N : News h₀ L s.heap news) (T : Top p loose mean mg mb h₀) (hk : cs.kind = .function) (hn : ∀ p ∈ [(z.net, instObj 312 z.dn), (z.dn, dN9 w.params z.a1 z.a2 z.a3 z.a4 z.a5 z.a6 z.gr (.ref z.jl) (.str (Str.ofString "a") z.s1) (.ref z.pd) (.ref z.cd) z.bd), (z.pd, z.opd), (z.pp, instObj 153 z.ppd), (z.ppd, dP9 w.params z.b1 z.b2 z.b3 z.b4 z.b5 z.b6 z.b7 z.b8 z.nm (.str (Str.ofString "a") z.s4) (.str (Str.ofString "b") z.s5) z.ln z.rs z.lo z.li (.bool true))], p ∈ news)
    (hd : dp + 4 < recursionLimit) (hu : un + 100 < cLine)
    (hret : ∀ (h' : Heap) (tk' : Nat), Fr h₀ L h' m → News h₀ L h' news → Q (.str (Str.ofString "b") z.s5) { s with heap := h', toks := tk' }) :
    wpAny (model Challenge.rw_ui0509_16.row.prog w) (ktrTop dp un gd cn cs L a ccd cl outer) (call (.ref 281) [.ref z.net, .ref z.pp, .str (Str.ofString "a") tj]) Q E s := by
  w_top off
  revert X; k_fill; intro X
  refine wpAny_call ?_
  k_dflt (refine' code_need [(z.net, instObj 312 z.dn), (z.dn, dN9 w.params z.a1 z.a2 z.a3 z.a4 z.a5 z.a6 z.gr (.ref z.jl) (.str (Str.ofString "a") z.s1) (.ref z.pd) (.ref z.cd) z.bd), (z.pd, z.opd), (z.pp, instObj 153 z.ppd), (z.ppd, dP9 w.params z.b1 z.b2 z.b3 z.b4 z.b5 z.b6 z.b7 z.b8 z.nm (.str (Str.ofString "a") z.s4) (.str (Str.ofString "b") z.s5) z.ln z.rs z.lo z.li (.bool true))] ?k1 ?k2 ?k3 ?k4 ?k5 ?kA ?kF ?kK ?k6 ?k7 ?k8 ?k9 ?kB ?kN ?_ ?c2 ?c3 ?c4 ?c5; walk_at "en0"; (case kN => exact hn); walk_at "en1")
  k_steps
  all_goals (try dsimp only)
  all_goals (refine leaveN_ (by k_asm) (by k_asm) ?_; intro kF kN kR kD; (try dsimp only); exact hret _ _ kF (news_back N hn kN (by walk_at "st") kR))
theorem far_b {w : World} {a : Addr} {A₀ : Around} {base h₀ : Heap} {L : Addr} {m : Str → Option Value} {news : List (Addr × Obj)} {s : Shared} {Q E : Value → Shared → Prop} {z : NetP} {tj : Tok} 
    (B : Below A₀ base outer h₀) (F : Fr h₀ L s.heap m) (X : (HD.K w.params).In h₀) (N : News h₀ L s.heap news) (T : Top p loose mean mg mb h₀) (hk : cs.kind = .function) (hn : ∀ p ∈ [(z.net, instObj 312 z.dn), (z.dn, dN9 w.params z.a1 z.a2 z.a3 z.a4 z.a5 z.a6 z.gr (.ref z.jl) (.str (Str.ofString "a") z.s1) (.ref z.pd) (.ref z.cd) z.bd), (z.pd, z.opd), (z.pp, instObj 153 z.ppd), (z.ppd, dP9 w.params z.b1 z.b2 z.b3 z.b4 z.b5 z.b6 z.b7 z.b8 z.nm (.str (Str.ofString "a") z.s4) (.str (Str.ofString "b") z.s5) z.ln z.rs z.lo z.li (.bool true))], p ∈ news)
    (hd : dp + 4 < recursionLimit) (hu : un + 100 < cLine)
    (hret : ∀ (h' : Heap) (tk' : Nat), Fr h₀ L h' m → News h₀ L h' news → Q (.str (Str.ofString "a") z.s4) { s with heap := h', toks := tk' }) :
    wpAny (model Challenge.rw_ui0509_16.row.prog w) (ktrTop dp un gd cn cs L a ccd cl outer) (call (.ref 281) [.ref z.net, .ref z.pp, .str (Str.ofString "b") tj]) Q E s := by
  w_top off
  revert X; k_fill; intro X
  refine wpAny_call ?_
  k_dflt (refine' code_need [(z.net, instObj 312 z.dn), (z.dn, dN9 w.params z.a1 z.a2 z.a3 z.a4 z.a5 z.a6 z.gr (.ref z.jl) (.str (Str.ofString "a") z.s1) (.ref z.pd) (.ref z.cd) z.bd), (z.pd, z.opd), (z.pp, instObj 153 z.ppd), (z.ppd, dP9 w.params z.b1 z.b2 z.b3 z.b4 z.b5 z.b6 z.b7 z.b8 z.nm (.str (Str.ofString "a") z.s4) (.str (Str.ofString "b") z.s5) z.ln z.rs z.lo z.li (.bool true))] ?k1 ?k2 ?k3 ?k4 ?k5 ?kA ?kF ?kK ?k6 ?k7 ?k8 ?k9 ?kB ?kN ?_ ?c2 ?c3 ?c4 ?c5; walk_at "en0"; (case kN => exact hn); walk_at "en1")
  k_steps
  all_goals (try dsimp only)
  all_goals (refine leaveN_ (by k_asm) (by k_asm) ?_; intro kF kN kR kD; (try dsimp only); exact hret _ _ kF (news_back N hn kN (by walk_at "st") kR))
end
theorem list_uniq {h₀ h : Heap} {L a : Addr} {led : List (Addr × Obj)} {vs vs' : List Value} {n n' : Nat} (N : News h₀ L h led) (h1 : (a, listOf vs.toArray n) ∈ led) (h2 : (a, listOf vs'.toArray n') ∈ led) : vs = vs' := by
  have e1 := N.get h1
  rw [N.get h2] at e1
  have := congrArg Obj.data (Option.some.inj e1)
  simp at this
  exact this.1.symm
def FedJ (P : Params) (z : NetP) (l9 : Addr) (i : Nat) (m : Str → Option Value) (nx : List (Addr × Obj)) : Prop :=
  ∃ vs n, nx = (l9, listOf (List.toArray vs) n) :: [(z.net, instObj 312 z.dn), (z.dn, dN9 P z.a1 z.a2 z.a3 z.a4 z.a5 z.a6 z.gr (.ref z.jl) (.str (Str.ofString "a") z.s1) (.ref z.pd) (.ref z.cd) z.bd), (z.pd, z.opd), (z.pp, instObj 153 z.ppd), (z.ppd, dP9 P z.b1 z.b2 z.b3 z.b4 z.b5 z.b6 z.b7 z.b8 z.nm (.str (Str.ofString "a") z.s4) (.str (Str.ofString "b") z.s5) z.ln z.rs z.lo z.li (.bool true))] ∧ i ≤ 2 ∧ m (Str.ofString "out") = some (.ref l9) ∧ m (Str.ofString "self") = some (.ref z.net) ∧ ((i = 0 ∧ vs = [.str (Str.ofString "a") z.s1]) ∨ (0 < i ∧ ∃ tb, vs = [.str (Str.ofString "a") z.s1, .str (Str.ofString "b") tb]))
end Mine
open Mine
local macro_rules | `(tactic| walk_at "i5") => `(tactic| ((fail_if_success (rename Mark7 => mk9))))
namespace Mine
section KeepF
theorem words13 : True := by
  k_with_none
  k_with "k_in" => (refine' in_of ?z4fF ?z4fX; (case z4fF | z4fX => k_asm))
  k_with "hat9" => (first | exact News.get (by k_asm) (by k_mem) | exact Fr.keep (by k_asm) _ _ (by with_reducible assumption) | exact Tk.get (by k_asm) (by k_asm) (by with_reducible assumption) (by walk_at "st") | exact Frag.In.keeps (by k_asm) (Fr.keep (by k_asm)) _ _ (by k_is))
  k_with "eval Name" => (k_here; k_dflt (refine' ld ?z32k1 ?z32k2 ?_; (case z32k1 => k_asm); (case z32k2 => first | exact rfl | assumption); k_whole))
  k_with "exec For Name Name cons nil" => ((with_reducible show wpAny _ _ (exec (Stmt.For (Expr.Name _ _) (Expr.Name _ _) _ _ _) _) _ _ _); walk_at "i5"; refine Hold.out ?_)
  k_with "UnrPostW" => ((with_reducible show UnrPostW _ _ _ _ (FedJ _ _ _ _) _ _ _); dsimp only [UnrPostW])
  k_with "UnrEndW" => ((with_reducible show UnrEndW _ _ _ _ (FedJ _ _ _ _) _); refine Hold.out ?_)
  k_with "call ref" => (k_here; (with_reducible show wpAny _ _ (call (Value.ref 274) _ _) _ _ _); refine Hold.out ?_)
  k_with "call ref" => (k_here; (with_reducible show wpAny _ _ (call (Value.ref 281) [Value.ref _, Value.ref _, Value.str (PySem.Str.ofString "a") _]) _ _ _); k_dflt (refine' far_a ?z33k1 ?z33k2 ?z33k3 ?z33k4 ?z33k5 ?z33k6 ?z33hn ?z33k7 ?z33k8 ?_; (case z33k1 | z33k2 | z33k3 | z33k4 | z33k5 => k_asm); (case z33k6 => first | exact rfl | assumption); (case z33k7 => first | exact Nat.le_of_ble_eq_true rfl | ktr_room); (case z33k8 => first | exact Nat.le_of_ble_eq_true rfl | ktr_units); (case z33hn => exact (by walk_at "st")); k_whole); walk_at "i3"; (try k_sweep))
  k_with "call ref" => (k_here; (with_reducible show wpAny _ _ (call (Value.ref 281) [Value.ref _, Value.ref _, Value.str (PySem.Str.ofString "b") _]) _ _ _); k_dflt (refine' far_b ?z34k1 ?z34k2 ?z34k3 ?z34k4 ?z34k5 ?z34k6 ?z34hn ?z34k7 ?z34k8 ?_; (case z34k1 | z34k2 | z34k3 | z34k4 | z34k5 => k_asm); (case z34k6 => first | exact rfl | assumption); (case z34k7 => first | exact Nat.le_of_ble_eq_true rfl | ktr_room); (case z34k8 => first | exact Nat.le_of_ble_eq_true rfl | ktr_units); (case z34hn => exact (by walk_at "st")); k_whole); walk_at "i3"; (try k_sweep))
  trivial
theorem fed_c {w : World} {a : Addr} {A₀ : Around} {base h₀ : Heap} {L : Addr} {m : Str → Option Value} {news : List (Addr × Obj)} {s : Shared} {Q E : Value → Shared → Prop} {z : NetP} 
    (B : Below A₀ base outer h₀) (F : Fr h₀ L s.heap m) (X : (HD.K w.params).In h₀) (N : News h₀ L s.heap news) (T : Top p loose mean mg mb h₀) (hk : cs.kind = .function) (hn : ∀ p ∈ [(z.net, instObj 312 z.dn), (z.dn, dN9 w.params z.a1 z.a2 z.a3 z.a4 z.a5 z.a6 z.gr (.ref z.jl) (.str (Str.ofString "a") z.s1) (.ref z.pd) (.ref z.cd) z.bd), (z.pd, z.opd), (z.pp, instObj 153 z.ppd), (z.ppd, dP9 w.params z.b1 z.b2 z.b3 z.b4 z.b5 z.b6 z.b7 z.b8 z.nm (.str (Str.ofString "a") z.s4) (.str (Str.ofString "b") z.s5) z.ln z.rs z.lo z.li (.bool true))], p ∈ news) (lpd : (z.pd == sysModules) = false) (hpd : z.opd.IsDictOf (PySem.strKind Challenge.rw_ui0509_16.row.prog w) [(Str.ofString "p", Value.ref z.pp)])
    (hd : dp + 12 < recursionLimit) (hu : un + 400 < cLine)
    (hret : ∀ (D : Addr) (ta tb : Tok) (n : Nat) (h' : Heap) (tk' : Nat), Fr h₀ L h' m → News h₀ L h' ((D, listOf [.str (Str.ofString "a") ta, .str (Str.ofString "b") tb].toArray n) :: news) → (∀ p ∈ news, p.1 ≠ D) → Q (.ref D) { s with heap := h', toks := tk' }) :
    wpAny (model Challenge.rw_ui0509_16.row.prog w) (ktrTop dp un gd cn cs L a ccd cl outer) (call (.ref 288) [.ref z.net]) Q E s := by
  w_top off
  revert X; k_fill; intro X
  refine wpAny_call ?_
  k_dflt (refine' code_need [(z.net, instObj 312 z.dn), (z.dn, dN9 w.params z.a1 z.a2 z.a3 z.a4 z.a5 z.a6 z.gr (.ref z.jl) (.str (Str.ofString "a") z.s1) (.ref z.pd) (.ref z.cd) z.bd), (z.pd, z.opd), (z.pp, instObj 153 z.ppd), (z.ppd, dP9 w.params z.b1 z.b2 z.b3 z.b4 z.b5 z.b6 z.b7 z.b8 z.nm (.str (Str.ofString "a") z.s4) (.str (Str.ofString "b") z.s5) z.ln z.rs z.lo z.li (.bool true))] ?k1 ?k2 ?k3 ?k4 ?k5 ?kA ?kF ?kK ?k6 ?k7 ?k8 ?k9 ?kB ?kN ?_ ?c2 ?c3 ?c4 ?c5; walk_at "en0"; (case kN => exact hn); walk_at "en1")
  k_steps
  unfold Hold
  rename_i tk9 l9 h8 l1 h9 F9 N9
  refine For_grow (h₀ := g') (ax := l9) 2 (FedJ w.params z l9) rfl ?it ?hl ?turn ?done
  case it =>
    refine ld (by k_asm) (by rfl) ?_
    exact ⟨rfl, _, _, _, _, rfl, F9, N9, _, _, rfl, by decide, by rfl, by rfl, .inl ⟨rfl, rfl⟩⟩
  case hl =>
    intro i m nx hJ
    obtain ⟨vs, n, rfl, hi, _⟩ := hJ
    exact ⟨hi, vs, n, cS9⟩
  case turn =>
    intro I i v m nx vs n h tk o hJ hm hv hI Fm ho Nn
    obtain ⟨vs', n', rfl, hi, hm1, hm2, hc⟩ := hJ
    obtain rfl := list_uniq Nn (cC9 hm) m1K
    have hIl : l9 ≠ I := hI _ cS9
    have hIn : ∀ p ∈ [(z.net, instObj 312 z.dn), (z.dn, dN9 w.params z.a1 z.a2 z.a3 z.a4 z.a5 z.a6 z.gr (.ref z.jl) (.str (Str.ofString "a") z.s1) (.ref z.pd) (.ref z.cd) z.bd), (z.pd, z.opd), (z.pp, instObj 153 z.ppd), (z.ppd, dP9 w.params z.b1 z.b2 z.b3 z.b4 z.b5 z.b6 z.b7 z.b8 z.nm (.str (Str.ofString "a") z.s4) (.str (Str.ofString "b") z.s5) z.ln z.rs z.lo z.li (.bool true))], p.1 ≠ I := fun p hp => hI p (cC9 hp)
    replace hIl := neN hIl
    rcases hc with ⟨rfl, rfl⟩ | ⟨h0, tb, rfl⟩
    · obtain rfl : v = .str (Str.ofString "a") z.s1 := by simpa using hv.symm
      clear F9 N9
      k_steps
      unfold Hold
      k_dflt (refine' at_a (z := z) ?k1 ?k2 ?k3 ?k4 ?k5 ?k6 ?hn ?lpd ?hpd ?k7 ?k8 ?_)
      case k1 | k2 | k3 | k4 | k5 => k_asm
      case k6 => first | exact rfl | assumption
      case k7 => ktr_room
      case k8 => ktr_units
      case hn => exact (by walk_at "st")
      case lpd => exact lpd
      case hpd => exact hpd

      intro D5 n5 h5 tk5 F5 N5 l5
      replace l5 := allNe_of l5
      simp only [AllNe, and_true] at l5
      k_steps
      unfold Hold
      (rename News _ _ _ _ => NN)
      (rename Fr _ _ _ _ => FF)
      refine unr_end ((l9, _) :: [(z.net, instObj 312 z.dn), (z.dn, dN9 w.params z.a1 z.a2 z.a3 z.a4 z.a5 z.a6 z.gr (.ref z.jl) (.str (Str.ofString "a") z.s1) (.ref z.pd) (.ref z.cd) z.bd), (z.pd, z.opd), (z.pp, instObj 153 z.ppd), (z.ppd, dP9 w.params z.b1 z.b2 z.b3 z.b4 z.b5 z.b6 z.b7 z.b8 z.nm (.str (Str.ofString "a") z.s4) (.str (Str.ofString "b") z.s5) z.ln z.rs z.lo z.li (.bool true))]) FF NN (by k_mem) (fcons (by k_mem) (by walk_at "st")) (fcons hIl hIn) ⟨_, _, rfl, by omega, by first | rfl | assumption, by first | rfl | assumption, .inr ⟨by omega, _, rfl⟩⟩
    · obtain rfl : i = 1 := by
        have := (List.getElem?_eq_some_iff.mp hv).1
        simp at this
        omega
      obtain rfl : v = .str (Str.ofString "b") tb := by simpa using hv.symm
      clear F9 N9
      k_steps
      unfold Hold
      k_dflt (refine' at_b (z := z) ?k1 ?k2 ?k3 ?k4 ?k5 ?k6 ?hn ?lpd ?hpd ?k7 ?k8 ?_)
      case k1 | k2 | k3 | k4 | k5 => k_asm
      case k6 => first | exact rfl | assumption
      case k7 => ktr_room
      case k8 => ktr_units
      case hn => exact (by walk_at "st")
      case lpd => exact lpd
      case hpd => exact hpd

      intro D5 n5 h5 tk5 F5 N5 l5
      replace l5 := allNe_of l5
      simp only [AllNe, and_true] at l5
      k_steps
      unfold Hold
      (rename News _ _ _ _ => NN)
      (rename Fr _ _ _ _ => FF)
      refine unr_end ((l9, _) :: [(z.net, instObj 312 z.dn), (z.dn, dN9 w.params z.a1 z.a2 z.a3 z.a4 z.a5 z.a6 z.gr (.ref z.jl) (.str (Str.ofString "a") z.s1) (.ref z.pd) (.ref z.cd) z.bd), (z.pd, z.opd), (z.pp, instObj 153 z.ppd), (z.ppd, dP9 w.params z.b1 z.b2 z.b3 z.b4 z.b5 z.b6 z.b7 z.b8 z.nm (.str (Str.ofString "a") z.s4) (.str (Str.ofString "b") z.s5) z.ln z.rs z.lo z.li (.bool true))]) FF NN (by k_mem) (fcons (by k_mem) (by walk_at "st")) (fcons hIl hIn) ⟨_, _, rfl, by omega, by first | rfl | assumption, by first | rfl | assumption, .inr ⟨by omega, _, rfl⟩⟩
  case done =>
    intro i m nx vs n h tk hJ hm hv Fm Nn
    obtain ⟨vs', n', rfl, hi, hm1, hm2, hc⟩ := hJ
    obtain rfl := list_uniq Nn hm cS9
    rcases hc with ⟨rfl, rfl⟩ | ⟨h0, tb, rfl⟩
    · simp at hv
    · clear F9 N9
      k_steps
      all_goals (try dsimp only)
      all_goals (refine leaveN_ (by k_asm) (by k_asm) ?_; intro kF kN kR kD; (try dsimp only); exact hret _ _ _ _ _ _ kF (news_cons kN (by k_mem) (news_back N hn kN ((by walk_at "st") : ∀ p ∈ [(z.net, instObj 312 z.dn), (z.dn, dN9 w.params z.a1 z.a2 z.a3 z.a4 z.a5 z.a6 z.gr (.ref z.jl) (.str (Str.ofString "a") z.s1) (.ref z.pd) (.ref z.cd) z.bd), (z.pd, z.opd), (z.pp, instObj 153 z.ppd), (z.ppd, dP9 w.params z.b1 z.b2 z.b3 z.b4 z.b5 z.b6 z.b7 z.b8 z.nm (.str (Str.ofString "a") z.s4) (.str (Str.ofString "b") z.s5) z.ln z.rs z.lo z.li (.bool true))], p ∈ _) kR)) (neW kD (by k_mem : (l9, _) ∈ _) (fcons (neN (by walk_at "ne9")) (fcons (neN (by walk_at "ne9")) (fcons (neN (by walk_at "ne9")) (fcons (neN (by walk_at "ne9")) (fcons (neN (by walk_at "ne9")) (List.forall_mem_nil _))))))))
end KeepF
end Mine
open Mine
local macro_rules | `(tactic| walk_at "i6") => `(tactic| (intro D' t' u' c' h' tk' bD' F' N' l1; (try (replace l1 := allNe_of l1; simp only [AllNe, and_true] at l1))))
local macro_rules | `(tactic| walk_at "i7") => `(tactic| ((rename Fr _ _ _ _ => lF'); (with_unfolding_all refine' For_turns lF' ?_; k_whole)))
namespace Mine
section KeepT
theorem words14 : True := by
  k_with_none
  k_with "k_in" => (refine' in_of ?z4fF ?z4fX; (case z4fF | z4fX => k_asm))
  k_with "hat9" => (first | exact News.get (by k_asm) (by k_mem) | exact Fr.keep (by k_asm) _ _ (by with_reducible assumption) | exact Tk.get (by k_asm) (by k_asm) (by with_reducible assumption) (by walk_at "st") | exact Frag.In.keeps (by k_asm) (Fr.keep (by k_asm)) _ _ (by k_is))
  k_with "call ref" => (k_here; (with_reducible show wpAny _ _ (call (Value.ref 87) [Value.ref _, Value.ref _]) _ _ _); k_dflt (refine' plus_r ?z35k1 ?z35k2 ?z35k3 ?z35k4 ?z35k5 ?z35k6 ?z35m1 ?z35m2 ?z35k7 ?z35k8 ?z35b1 ?z35b2 ?z35hb ?_; (case z35k1 | z35k2 | z35k3 | z35k4 | z35k5 => k_asm); (case z35k6 => first | exact rfl | assumption); (case z35k7 => first | exact Nat.le_of_ble_eq_true rfl | ktr_room); (case z35k8 => first | exact Nat.le_of_ble_eq_true rfl | ktr_units); (case z35m1 | z35m2 => (walk_at "hat9")); (case z35b1 | z35b2 => with_reducible assumption); (case z35hb => first | assumption | omega | decide); k_whole); walk_at "i6"; (try k_sweep))
  k_with "call ref" => (k_here; (with_reducible show wpAny _ _ (call (Value.ref 87) [Value.ref 56, Value.ref _]) _ _ _); k_dflt (refine' plus_r (r1 := 0) (n := 1) ?z36k1 ?z36k2 ?z36k3 ?z36k4 ?z36k5 ?z36k6 ?z36m1 ?z36m2 ?z36k7 ?z36k8 ?z36b1 ?z36b2 ?z36hb ?_; (case z36k1 | z36k2 | z36k3 | z36k4 | z36k5 => k_asm); (case z36k6 => first | exact rfl | assumption); (case z36k7 => first | exact Nat.le_of_ble_eq_true rfl | ktr_room); (case z36k8 => first | exact Nat.le_of_ble_eq_true rfl | ktr_units); (case z36m1 => exact Frag.In.keeps (by k_asm) (Fr.keep (by k_asm)) _ _ (by k_is)); (case z36m2 => (walk_at "hat9")); (case z36b1 => exact Bd.zero (by decide)); (case z36b2 => with_reducible assumption); (case z36hb => first | assumption | omega | decide); k_whole); walk_at "i6"; (try k_sweep))
  k_with "subscriptTail" => (k_here; (with_reducible show wpAny _ _ (subscriptTail _ _ (Value.ref _) (Value.int _ _)) _ _ _); k_dflt (refine' tup_g ?z37k1 ?z37k2 ?z37k3 ?z37k4 ?z37k5 ?z37k6 ?z37k7 ?z37k8 ?_ ?z37k9 ?z37k10; (case z37k1 => k_asm); (case z37k2 => with_reducible assumption); (case z37k3 | z37k4 => exact rfl); (case z37k5 | z37k6 => decide); (case z37k7 | z37k8 => exact rfl); (case z37k9 => with_unfolding_all rfl); (case z37k10 => (intro _; with_unfolding_all rfl)); k_whole))
  k_with "eval Name" => (k_here; k_dflt (refine' ld ?z38k1 ?z38k2 ?_; (case z38k1 => k_asm); (case z38k2 => first | exact rfl | assumption); k_whole))
  k_with "exec For" => (k_here; walk_at "i7")
  k_with "exec For Name Name cons nil" => (k_here; walk_at "i7")
  k_with "exec For Name Call cons nil" => (k_here; walk_at "i7")
  k_with "exec For Tuple Name cons nil" => (k_here; walk_at "i7")
  k_with "exec For Tuple Call cons nil" => (k_here; walk_at "i7")
  k_with "exec For Name Attribute cons nil" => (k_here; walk_at "i7")
  k_with "exec For Tuple Attribute cons nil" => (k_here; walk_at "i7")
  k_with "exec For Tuple Subscript cons nil" => (k_here; walk_at "i7")
  k_with "pyIter ref" => ((with_reducible show wpAny _ _ (pyIter (Value.ref _)) (fun it s₂ => TurnsAt _ _ _ _ _ _ _ _ _ it s₂) _ _); refine Hold.out ?_)
  k_with "UnrPostW" => (dsimp only [UnrPostW])
  k_with "UnrEndW" => (refine Hold.out ?_)
  trivial
theorem total_c {w : World} {a : Addr} {A₀ : Around} {base h₀ : Heap} {L : Addr} {m : Str → Option Value} {news : List (Addr × Obj)} {s : Shared} {Q E : Value → Shared → Prop} {l : Addr} {vs : List Value} {rs : List Rat} {n0 b : Nat} 
    (B : Below A₀ base outer h₀) (F : Fr h₀ L s.heap m) (X : (HD.K w.params).In h₀) (N : News h₀ L s.heap news) (T : Top p loose mean mg mb h₀) (hk : cs.kind = .function) (el : s.heap.get? l = some (listOf vs.toArray n0)) (hv : All2 (RatH s.heap) vs rs) (hne : rs ≠ []) (hb : ∀ r ∈ rs, Bd b r) (hlen : rs.length * (b + 1) + 1 ≤ 6643)
    (hd : dp + 6 < recursionLimit) (hu : un + 100 < cLine)
    (hret : ∀ (D : Addr) (t t' : Tok) (c : Nat) (h' : Heap) (tk' : Nat), Bd (rs.length * (b + 1) + 1) (tot rs) → Fr h₀ L h' m → News h₀ L h' ((D, RatO (tot rs) t t' c) :: news) → (∀ p ∈ news, p.1 ≠ D) → Q (.ref D) { s with heap := h', toks := tk' }) :
    wpAny (model Challenge.rw_ui0509_16.row.prog w) (ktrTop dp un gd cn cs L a ccd cl outer) (call (.ref 122) [.ref l]) Q E s := by
  w_top off
  revert X; k_fill; intro X
  refine wpAny_call ?_
  k_dflt (refine' code_need [] ?k1 ?k2 ?k3 ?k4 ?k5 ?kA ?kF ?kK ?k6 ?k7 ?k8 ?k9 ?kB ?kN ?_ ?c2 ?c3 ?c4 ?c5; walk_at "en0"; (case kN => exact fun _ h => nomatch h); walk_at "en1")
  replace el := hG' _ _ el (by simp)
  replace hv := hv.mono fun v r x => x.keeps fun b o e => hG' b o e (by simp)
  k_steps
  unfold Hold
  refine iter_baseTurns rfl (by k_asm) (by k_asm) el rfl rfl (fun I lI => ?_)
  refine items_ind (fun i m nx => ∃ v, m (Str.ofString "out") = some v ∧ ((i = 0 ∧ v = .ref 56 ∧ nx = []) ∨ (0 < i ∧ ∃ D t t' c, v = .ref D ∧ nx = [(D, RatO (tot (rs.take i)) t t' c)] ∧ Bd (i * (b + 1) + 1) (tot (rs.take i))))) ?turn ?done _ 0 _ _ rfl (Nat.zero_le _) trivial (fun p hp => Nat.ne_of_lt (lI p hp)) ⟨_, rfl, .inl ⟨rfl, rfl, rfl⟩⟩
  case turn =>
    intro i a v m nx h tk o ha _ hI hJ hav Fm ho Nn
    obtain ⟨r, hr, D1, t1, t1', c1, rfl, e1⟩ := hv.get (val_get ha hav)
    have hil : i < rs.length := (List.getElem?_eq_some_iff.mp hr).1
    have bR := hb r (List.mem_of_getElem? hr)
    have hsz := mul_le_of_lt (b := b) hil
    have hsz2 : i * (b + 1) + 1 + b + 1 ≤ 6643 := Nat.le_trans hsz hlen
    obtain ⟨vo, hm, ⟨rfl, rfl, rfl⟩ | ⟨hpos, D, t, t', c, rfl, rfl, hB⟩⟩ := hJ
    · have htot : tot (rs.take (0 + 1)) = 0 + r := by rw [tot_take hr]; rfl
      k_steps
      unfold Hold
      exact unr_one (by k_asm) (by k_asm) (by k_mem) (neN (by walk_at "ne9")) ⟨trivial, _, rfl, .inr ⟨Nat.succ_pos _, _, _, _, _, rfl, by rw [htot], by rw [htot]; exact Bd.mono (by assumption) (by omega)⟩⟩
    · have htot := tot_take hr
      k_steps
      unfold Hold
      exact unr_one (by k_asm) (by k_asm) (by k_mem) (neN (by walk_at "ne9")) ⟨trivial, _, rfl, .inr ⟨Nat.succ_pos _, _, _, _, _, rfl, by rw [htot], by rw [htot]; exact Bd.mono (by assumption) (by rw [Nat.add_mul]; omega)⟩⟩
  case done =>
    intro m nx h tk hJ Fm Nn
    rw [List.length_map, hv.length] at hJ
    obtain ⟨vo, hm, ⟨h0, _, _⟩ | ⟨hpos, D, t, t', c, rfl, rfl, hB⟩⟩ := hJ
    · exact absurd (List.length_eq_zero_iff.mp h0) hne
    · rw [List.take_length] at hB Nn
      k_steps
      dsimp only
      refine leaveN_ (by k_asm) (by k_asm) ?_; intro kF kN kR kD; (try dsimp only); exact hret _ _ _ _ _ _ hB kF (news_cons kN (by k_mem) (news_all kR)) (ne_all kD cS9)
end KeepT
theorem inst_cls {C d : Addr} : (instObj C d).cls ≠ .type "tuple" := fun h => nomatch h
theorem dict_cls2 {es : List DictEntry} {n : Nat} : (dictOf es n).cls ≠ .type "tuple" := by
  intro h; injection h with h; exact absurd h (by decide)
theorem list_cls {vs : Array Value} {n : Nat} : (listOf vs n).cls ≠ .type "tuple" := by
  intro h; injection h with h; exact absurd h (by decide)
theorem not_need {h : Heap} {need : List (Addr × Obj)} {b : Addr} {o : Obj} (hN : ∀ p ∈ need, h.get? p.1 = some p.2) (hc : ∀ p ∈ need, p.2.cls ≠ .type "tuple") (e : h.get? b = some o) (ho : o.cls = .type "tuple") : b ∉ need.map (·.1) := fun k => by
  obtain ⟨p, hp, rfl⟩ := List.mem_map.mp k
  have h1 := hN p hp
  rw [e] at h1
  exact hc p hp (by rw [← Option.some.inj h1]; exact ho)
theorem dict_cls {prog : Program} {w : World} {o : Obj} {kvs : List (Str × Value)} (h : o.IsDictOf (PySem.strKind prog w) kvs) : o.cls ≠ .type "tuple" := by
  obtain ⟨_, _, he, _⟩ := h
  rw [he.1]
  intro h; injection h with h; exact absurd h (by decide)
section
theorem words15 : True := by
  k_with_none
  k_with "k_in" => (refine' in_of ?z4fF ?z4fX; (case z4fF | z4fX => k_asm))
  k_with "hat9" => (first | exact News.get (by k_asm) (by k_mem) | exact Fr.keep (by k_asm) _ _ (by with_reducible assumption) | exact Tk.get (by k_asm) (by k_asm) (by with_reducible assumption) (by walk_at "st") | exact Frag.In.keeps (by k_asm) (Fr.keep (by k_asm)) _ _ (by k_is))
  k_with "eval Name" => (k_here; k_dflt (refine' ld ?z39k1 ?z39k2 ?_; (case z39k1 => k_asm); (case z39k2 => first | exact rfl | assumption); k_whole))
  trivial
theorem consumer_c {w : World} {a : Addr} {A₀ : Around} {base h₀ : Heap} {L : Addr} {m : Str → Option Value} {news : List (Addr × Obj)} {s : Shared} {Q E : Value → Shared → Prop} {z : NetP} {tn : Tok} 
    (B : Below A₀ base outer h₀) (F : Fr h₀ L s.heap m) (X : (HD.K w.params).In h₀) (N : News h₀ L s.heap news) (T : Top p loose mean mg mb h₀) (hk : cs.kind = .function) (hn : ∀ p ∈ [(z.net, instObj 312 z.dn), (z.dn, dN9 w.params z.a1 z.a2 z.a3 z.a4 z.a5 z.a6 z.gr (.ref z.jl) (.str (Str.ofString "a") z.s1) (.ref z.pd) (.ref z.cd) z.bd), (z.cd, z.ocd)], p ∈ news) (lcd : (z.cd == sysModules) = false) (hcd : z.ocd.IsDictOf (PySem.strKind Challenge.rw_ui0509_16.row.prog w) [(Str.ofString "u", Value.ref z.cu), (Str.ofString "v", Value.ref z.cv)])
    (hd : dp + 4 < recursionLimit) (hu : un + 100 < cLine)
    (hret : ∀ (h' : Heap) (tk' : Nat), Fr h₀ L h' m → News h₀ L h' news → Q (.ref z.cu) { s with heap := h', toks := tk' }) :
    wpAny (model Challenge.rw_ui0509_16.row.prog w) (ktrTop dp un gd cn cs L a ccd cl outer) (call (.ref 250) [.ref z.net, .str (Str.ofString "u") tn]) Q E s := by
  w_top off
  revert X; k_fill; intro X
  refine wpAny_call ?_
  k_dflt (refine' code_need [(z.net, instObj 312 z.dn), (z.dn, dN9 w.params z.a1 z.a2 z.a3 z.a4 z.a5 z.a6 z.gr (.ref z.jl) (.str (Str.ofString "a") z.s1) (.ref z.pd) (.ref z.cd) z.bd), (z.cd, z.ocd)] ?k1 ?k2 ?k3 ?k4 ?k5 ?kA ?kF ?kK ?k6 ?k7 ?k8 ?k9 ?kB ?kN ?_ ?c2 ?c3 ?c4 ?c5; walk_at "en0"; (case kN => exact hn); walk_at "en1")
  k_steps
  all_goals (refine leaveN_ (by k_asm) (by k_asm) ?_; intro kF kN kR kD; (try dsimp only); exact hret _ _ kF (news_back N hn kN (by walk_at "st") kR))
end
section
theorem words16 : True := by
  k_with_none
  k_with "k_in" => (refine' in_of ?z4fF ?z4fX; (case z4fF | z4fX => k_asm))
  k_with "hat9" => (first | exact News.get (by k_asm) (by k_mem) | exact Fr.keep (by k_asm) _ _ (by with_reducible assumption) | exact Tk.get (by k_asm) (by k_asm) (by with_reducible assumption) (by walk_at "st") | exact Frag.In.keeps (by k_asm) (Fr.keep (by k_asm)) _ _ (by k_is))
  k_with "eval Name" => (k_here; k_dflt (refine' ld ?z40k1 ?z40k2 ?_; (case z40k1 => k_asm); (case z40k2 => first | exact rfl | assumption); k_whole))
  trivial
theorem consumer_v {w : World} {a : Addr} {A₀ : Around} {base h₀ : Heap} {L : Addr} {m : Str → Option Value} {news : List (Addr × Obj)} {s : Shared} {Q E : Value → Shared → Prop} {z : NetP} {tn : Tok} 
    (B : Below A₀ base outer h₀) (F : Fr h₀ L s.heap m) (X : (HD.K w.params).In h₀) (N : News h₀ L s.heap news) (T : Top p loose mean mg mb h₀) (hk : cs.kind = .function) (hn : ∀ p ∈ [(z.net, instObj 312 z.dn), (z.dn, dN9 w.params z.a1 z.a2 z.a3 z.a4 z.a5 z.a6 z.gr (.ref z.jl) (.str (Str.ofString "a") z.s1) (.ref z.pd) (.ref z.cd) z.bd), (z.cd, z.ocd)], p ∈ news) (lcd : (z.cd == sysModules) = false) (hcd : z.ocd.IsDictOf (PySem.strKind Challenge.rw_ui0509_16.row.prog w) [(Str.ofString "u", Value.ref z.cu), (Str.ofString "v", Value.ref z.cv)])
    (hd : dp + 4 < recursionLimit) (hu : un + 100 < cLine)
    (hret : ∀ (h' : Heap) (tk' : Nat), Fr h₀ L h' m → News h₀ L h' news → Q (.ref z.cv) { s with heap := h', toks := tk' }) :
    wpAny (model Challenge.rw_ui0509_16.row.prog w) (ktrTop dp un gd cn cs L a ccd cl outer) (call (.ref 250) [.ref z.net, .str (Str.ofString "v") tn]) Q E s := by
  w_top off
  revert X; k_fill; intro X
  refine wpAny_call ?_
  k_dflt (refine' code_need [(z.net, instObj 312 z.dn), (z.dn, dN9 w.params z.a1 z.a2 z.a3 z.a4 z.a5 z.a6 z.gr (.ref z.jl) (.str (Str.ofString "a") z.s1) (.ref z.pd) (.ref z.cd) z.bd), (z.cd, z.ocd)] ?k1 ?k2 ?k3 ?k4 ?k5 ?kA ?kF ?kK ?k6 ?k7 ?k8 ?k9 ?kB ?kN ?_ ?c2 ?c3 ?c4 ?c5; walk_at "en0"; (case kN => exact hn); walk_at "en1")
  k_steps
  all_goals (refine leaveN_ (by k_asm) (by k_asm) ?_; intro kF kN kR kD; (try dsimp only); exact hret _ _ kF (news_back N hn kN (by walk_at "st") kR))
end
section
theorem words17 : True := by
  k_with_none
  k_with "k_in" => (refine' in_of ?z4fF ?z4fX; (case z4fF | z4fX => k_asm))
  k_with "hat9" => (first | exact News.get (by k_asm) (by k_mem) | exact Fr.keep (by k_asm) _ _ (by with_reducible assumption) | exact Tk.get (by k_asm) (by k_asm) (by with_reducible assumption) (by walk_at "st") | exact Frag.In.keeps (by k_asm) (Fr.keep (by k_asm)) _ _ (by k_is))
  k_with "eval Name" => (k_here; k_dflt (refine' ld ?z41k1 ?z41k2 ?_; (case z41k1 => k_asm); (case z41k2 => first | exact rfl | assumption); k_whole))
  k_with "call ref" => (k_here; (with_reducible show wpAny _ _ (call (Value.ref 288) _ _) _ _ _); refine Hold.out ?_)
  k_with "call ref" => (k_here; (with_reducible show wpAny _ _ (call (Value.ref 122) _ _) _ _ _); refine Hold.out ?_)
  k_with "call ref" => (k_here; (with_reducible show wpAny _ _ (call (Value.ref 250) _ _) _ _ _); refine Hold.out ?_)
  trivial
theorem dh_c {w : World} {a : Addr} {A₀ : Around} {base h₀ : Heap} {L : Addr} {m : Str → Option Value} {news : List (Addr × Obj)} {s : Shared} {Q E : Value → Shared → Prop} {z : NetP} {dvs : List Value} {ds : List Rat} {ndl : Nat} {tn : Tok} 
    (B : Below A₀ base outer h₀) (F : Fr h₀ L s.heap m) (X : (HD.K w.params).In h₀) (N : News h₀ L s.heap news) (T : Top p loose mean mg mb h₀) (hk : cs.kind = .function) (hn : ∀ p ∈ [(z.net, instObj 312 z.dn), (z.dn, dN9 w.params z.a1 z.a2 z.a3 z.a4 z.a5 z.a6 z.gr (.ref z.jl) (.str (Str.ofString "a") z.s1) (.ref z.pd) (.ref z.cd) z.bd), (z.pd, z.opd), (z.pp, instObj 153 z.ppd), (z.ppd, dP9 w.params z.b1 z.b2 z.b3 z.b4 z.b5 z.b6 z.b7 z.b8 z.nm (.str (Str.ofString "a") z.s4) (.str (Str.ofString "b") z.s5) z.ln z.rs z.lo z.li (.bool true)), (z.cd, z.ocd), (z.cu, instObj 181 z.cud), (z.cud, dC9 w.params z.c1 z.c2 z.c3 z.c4 z.c5 z.nc (.str (Str.ofString "b") z.s6) (.ref z.dl) z.dr z.le), (z.dl, listOf dvs.toArray ndl)], p ∈ news) (lpd : (z.pd == sysModules) = false) (hpd : z.opd.IsDictOf (PySem.strKind Challenge.rw_ui0509_16.row.prog w) [(Str.ofString "p", Value.ref z.pp)]) (lcd : (z.cd == sysModules) = false) (hcd : z.ocd.IsDictOf (PySem.strKind Challenge.rw_ui0509_16.row.prog w) [(Str.ofString "u", Value.ref z.cu), (Str.ofString "v", Value.ref z.cv)]) (hdv : All2 (RatH s.heap) dvs ds) (hdb : ∀ r ∈ ds, Bd 64 r) (hdl : ds.length = 24)
    (hd : dp + 16 < recursionLimit) (hu : un + 600 < cLine)
    (hret : ∀ (D : Addr) (t t' : Tok) (c : Nat) (h' : Heap) (tk' : Nat), Bd 1600 (tot ds) → Fr h₀ L h' m → News h₀ L h' ((D, RatO (tot ds) t t' c) :: news) → (∀ p ∈ news, p.1 ≠ D) → Q (.ref D) { s with heap := h', toks := tk' }) :
    wpAny (model Challenge.rw_ui0509_16.row.prog w) (ktrTop dp un gd cn cs L a ccd cl outer) (call (.ref 335) [.ref z.net, .str (Str.ofString "u") tn]) Q E s := by
  have hNN : ∀ p ∈ [(z.net, instObj 312 z.dn), (z.dn, dN9 w.params z.a1 z.a2 z.a3 z.a4 z.a5 z.a6 z.gr (.ref z.jl) (.str (Str.ofString "a") z.s1) (.ref z.pd) (.ref z.cd) z.bd), (z.pd, z.opd), (z.pp, instObj 153 z.ppd), (z.ppd, dP9 w.params z.b1 z.b2 z.b3 z.b4 z.b5 z.b6 z.b7 z.b8 z.nm (.str (Str.ofString "a") z.s4) (.str (Str.ofString "b") z.s5) z.ln z.rs z.lo z.li (.bool true)), (z.cd, z.ocd), (z.cu, instObj 181 z.cud), (z.cud, dC9 w.params z.c1 z.c2 z.c3 z.c4 z.c5 z.nc (.str (Str.ofString "b") z.s6) (.ref z.dl) z.dr z.le), (z.dl, listOf dvs.toArray ndl)], s.heap.get? p.1 = some p.2 := fun p hp => (N p (hn p hp)).1
  w_top off
  revert X; k_fill; intro X
  refine wpAny_call ?_
  k_dflt (refine' code_need [(z.net, instObj 312 z.dn), (z.dn, dN9 w.params z.a1 z.a2 z.a3 z.a4 z.a5 z.a6 z.gr (.ref z.jl) (.str (Str.ofString "a") z.s1) (.ref z.pd) (.ref z.cd) z.bd), (z.pd, z.opd), (z.pp, instObj 153 z.ppd), (z.ppd, dP9 w.params z.b1 z.b2 z.b3 z.b4 z.b5 z.b6 z.b7 z.b8 z.nm (.str (Str.ofString "a") z.s4) (.str (Str.ofString "b") z.s5) z.ln z.rs z.lo z.li (.bool true)), (z.cd, z.ocd), (z.cu, instObj 181 z.cud), (z.cud, dC9 w.params z.c1 z.c2 z.c3 z.c4 z.c5 z.nc (.str (Str.ofString "b") z.s6) (.ref z.dl) z.dr z.le), (z.dl, listOf dvs.toArray ndl)] ?k1 ?k2 ?k3 ?k4 ?k5 ?kA ?kF ?kK ?k6 ?k7 ?k8 ?k9 ?kB ?kN ?_ ?c2 ?c3 ?c4 ?c5; walk_at "en0"; (case kN => exact hn); walk_at "en1")
  have hcl : ∀ p ∈ [(z.net, instObj 312 z.dn), (z.dn, dN9 w.params z.a1 z.a2 z.a3 z.a4 z.a5 z.a6 z.gr (.ref z.jl) (.str (Str.ofString "a") z.s1) (.ref z.pd) (.ref z.cd) z.bd), (z.pd, z.opd), (z.pp, instObj 153 z.ppd), (z.ppd, dP9 w.params z.b1 z.b2 z.b3 z.b4 z.b5 z.b6 z.b7 z.b8 z.nm (.str (Str.ofString "a") z.s4) (.str (Str.ofString "b") z.s5) z.ln z.rs z.lo z.li (.bool true)), (z.cd, z.ocd), (z.cu, instObj 181 z.cud), (z.cud, dC9 w.params z.c1 z.c2 z.c3 z.c4 z.c5 z.nc (.str (Str.ofString "b") z.s6) (.ref z.dl) z.dr z.le), (z.dl, listOf dvs.toArray ndl)], p.2.cls ≠ .type "tuple" := fcons inst_cls (fcons dict_cls2 (fcons (dict_cls hpd) (fcons inst_cls (fcons dict_cls2 (fcons (dict_cls hcd) (fcons inst_cls (fcons dict_cls2 (fcons list_cls (List.forall_mem_nil _)))))))))
  replace hdv : All2 (RatH g') dvs ds := hdv.mono fun v r x => by
    obtain ⟨D, t, t', c, e, hx⟩ := x
    exact ⟨D, t, t', c, e, hG' _ _ hx (not_need hNN hcl hx rfl)⟩
  k_steps
  unfold Hold
  k_dflt (refine' consumer_c (z := z) ?k1 ?k2 ?k3 ?k4 ?k5 ?k6 ?hn ?lcd ?hcd ?k7 ?k8 ?_)
  case k1 | k2 | k3 | k4 | k5 => k_asm
  case k6 => first | exact rfl | assumption
  case k7 => ktr_room
  case k8 => ktr_units
  case hn => exact fcons (by k_mem) (fcons (by k_mem) (fcons (by k_mem) (List.forall_mem_nil _)))
  case lcd => exact lcd
  case hcd => exact hcd

  intro h5 tk5 F5 N5
  k_steps
  unfold Hold
  k_dflt (refine' fed_c (z := z) ?k1 ?k2 ?k3 ?k4 ?k5 ?k6 ?hn ?lpd ?hpd ?k7 ?k8 ?_)
  case k1 | k2 | k3 | k4 | k5 => k_asm
  case k6 => first | exact rfl | assumption
  case k7 => ktr_room
  case k8 => ktr_units
  case hn => exact fcons (by k_mem) (fcons (by k_mem) (fcons (by k_mem) (fcons (by k_mem) (fcons (by k_mem) (List.forall_mem_nil _)))))
  case lpd => exact lpd
  case hpd => exact hpd

  intro D6 ta tb n6 h6 tk6 F6 N6 l6
  replace l6 := allNe_of l6
  k_steps
  unfold Hold
  k_dflt (refine' total_c (rs := ds) (b := 64) ?k1 ?k2 ?k3 ?k4 ?k5 ?k6 ?el ?hv ?hne ?hb ?hlen ?k7 ?k8 ?_)
  case k1 | k2 | k3 | k4 | k5 => k_asm
  case k6 => first | exact rfl | assumption
  case k7 => ktr_room
  case k8 => ktr_units
  case el => exact News.get (by k_asm) (by k_mem)
  case hv => exact hdv.mono fun v r x => x.keeps (Fr.keep (by k_asm))
  case hne => intro h; rw [h] at hdl; simp at hdl
  case hb => exact hdb
  case hlen => omega

  intro D7 t7 u7 c7 h7 tk7 b7 F7 N7 l7
  have l7' := l7
  k_steps
  try dsimp only
  refine leaveN_ (by k_asm) (by k_asm) ?_; intro kF kN kR kD; (try dsimp only); exact hret _ _ _ _ _ _ (b7.mono (by omega)) kF (news_cons kN (by k_mem) (news_back N hn kN ((by walk_at "st") : ∀ p ∈ [(z.net, instObj 312 z.dn), (z.dn, dN9 w.params z.a1 z.a2 z.a3 z.a4 z.a5 z.a6 z.gr (.ref z.jl) (.str (Str.ofString "a") z.s1) (.ref z.pd) (.ref z.cd) z.bd), (z.pd, z.opd), (z.pp, instObj 153 z.ppd), (z.ppd, dP9 w.params z.b1 z.b2 z.b3 z.b4 z.b5 z.b6 z.b7 z.b8 z.nm (.str (Str.ofString "a") z.s4) (.str (Str.ofString "b") z.s5) z.ln z.rs z.lo z.li (.bool true)), (z.cd, z.ocd), (z.cu, instObj 181 z.cud), (z.cud, dC9 w.params z.c1 z.c2 z.c3 z.c4 z.c5 z.nc (.str (Str.ofString "b") z.s6) (.ref z.dl) z.dr z.le), (z.dl, listOf dvs.toArray ndl)], p ∈ _) kR)) (neW kD (by k_mem : (D7, RatO _ _ _ _) ∈ _) fun p hp => l7' p (((by walk_at "st") : ∀ p ∈ [(z.net, instObj 312 z.dn), (z.dn, dN9 w.params z.a1 z.a2 z.a3 z.a4 z.a5 z.a6 z.gr (.ref z.jl) (.str (Str.ofString "a") z.s1) (.ref z.pd) (.ref z.cd) z.bd), (z.pd, z.opd), (z.pp, instObj 153 z.ppd), (z.ppd, dP9 w.params z.b1 z.b2 z.b3 z.b4 z.b5 z.b6 z.b7 z.b8 z.nm (.str (Str.ofString "a") z.s4) (.str (Str.ofString "b") z.s5) z.ln z.rs z.lo z.li (.bool true)), (z.cd, z.ocd), (z.cu, instObj 181 z.cud), (z.cud, dC9 w.params z.c1 z.c2 z.c3 z.c4 z.c5 z.nc (.str (Str.ofString "b") z.s6) (.ref z.dl) z.dr z.le), (z.dl, listOf dvs.toArray ndl)], p ∈ _) p hp))
theorem dh_v {w : World} {a : Addr} {A₀ : Around} {base h₀ : Heap} {L : Addr} {m : Str → Option Value} {news : List (Addr × Obj)} {s : Shared} {Q E : Value → Shared → Prop} {z : NetP} {dvs : List Value} {ds : List Rat} {ndl : Nat} {tn : Tok} 
    (B : Below A₀ base outer h₀) (F : Fr h₀ L s.heap m) (X : (HD.K w.params).In h₀) (N : News h₀ L s.heap news) (T : Top p loose mean mg mb h₀) (hk : cs.kind = .function) (hn : ∀ p ∈ [(z.net, instObj 312 z.dn), (z.dn, dN9 w.params z.a1 z.a2 z.a3 z.a4 z.a5 z.a6 z.gr (.ref z.jl) (.str (Str.ofString "a") z.s1) (.ref z.pd) (.ref z.cd) z.bd), (z.pd, z.opd), (z.pp, instObj 153 z.ppd), (z.ppd, dP9 w.params z.b1 z.b2 z.b3 z.b4 z.b5 z.b6 z.b7 z.b8 z.nm (.str (Str.ofString "a") z.s4) (.str (Str.ofString "b") z.s5) z.ln z.rs z.lo z.li (.bool true)), (z.cd, z.ocd), (z.cv, instObj 181 z.cvd), (z.cvd, dC9 w.params z.f1 z.f2 z.f3 z.f4 z.f5 z.nc2 (.str (Str.ofString "b") z.s9) (.ref z.dv) z.dr2 z.le2), (z.dv, listOf dvs.toArray ndl)], p ∈ news) (lpd : (z.pd == sysModules) = false) (hpd : z.opd.IsDictOf (PySem.strKind Challenge.rw_ui0509_16.row.prog w) [(Str.ofString "p", Value.ref z.pp)]) (lcd : (z.cd == sysModules) = false) (hcd : z.ocd.IsDictOf (PySem.strKind Challenge.rw_ui0509_16.row.prog w) [(Str.ofString "u", Value.ref z.cu), (Str.ofString "v", Value.ref z.cv)]) (hdv : All2 (RatH s.heap) dvs ds) (hdb : ∀ r ∈ ds, Bd 64 r) (hdl : ds.length = 24)
    (hd : dp + 16 < recursionLimit) (hu : un + 600 < cLine)
    (hret : ∀ (D : Addr) (t t' : Tok) (c : Nat) (h' : Heap) (tk' : Nat), Bd 1600 (tot ds) → Fr h₀ L h' m → News h₀ L h' ((D, RatO (tot ds) t t' c) :: news) → (∀ p ∈ news, p.1 ≠ D) → Q (.ref D) { s with heap := h', toks := tk' }) :
    wpAny (model Challenge.rw_ui0509_16.row.prog w) (ktrTop dp un gd cn cs L a ccd cl outer) (call (.ref 335) [.ref z.net, .str (Str.ofString "v") tn]) Q E s := by
  have hNN : ∀ p ∈ [(z.net, instObj 312 z.dn), (z.dn, dN9 w.params z.a1 z.a2 z.a3 z.a4 z.a5 z.a6 z.gr (.ref z.jl) (.str (Str.ofString "a") z.s1) (.ref z.pd) (.ref z.cd) z.bd), (z.pd, z.opd), (z.pp, instObj 153 z.ppd), (z.ppd, dP9 w.params z.b1 z.b2 z.b3 z.b4 z.b5 z.b6 z.b7 z.b8 z.nm (.str (Str.ofString "a") z.s4) (.str (Str.ofString "b") z.s5) z.ln z.rs z.lo z.li (.bool true)), (z.cd, z.ocd), (z.cv, instObj 181 z.cvd), (z.cvd, dC9 w.params z.f1 z.f2 z.f3 z.f4 z.f5 z.nc2 (.str (Str.ofString "b") z.s9) (.ref z.dv) z.dr2 z.le2), (z.dv, listOf dvs.toArray ndl)], s.heap.get? p.1 = some p.2 := fun p hp => (N p (hn p hp)).1
  w_top off
  revert X; k_fill; intro X
  refine wpAny_call ?_
  k_dflt (refine' code_need [(z.net, instObj 312 z.dn), (z.dn, dN9 w.params z.a1 z.a2 z.a3 z.a4 z.a5 z.a6 z.gr (.ref z.jl) (.str (Str.ofString "a") z.s1) (.ref z.pd) (.ref z.cd) z.bd), (z.pd, z.opd), (z.pp, instObj 153 z.ppd), (z.ppd, dP9 w.params z.b1 z.b2 z.b3 z.b4 z.b5 z.b6 z.b7 z.b8 z.nm (.str (Str.ofString "a") z.s4) (.str (Str.ofString "b") z.s5) z.ln z.rs z.lo z.li (.bool true)), (z.cd, z.ocd), (z.cv, instObj 181 z.cvd), (z.cvd, dC9 w.params z.f1 z.f2 z.f3 z.f4 z.f5 z.nc2 (.str (Str.ofString "b") z.s9) (.ref z.dv) z.dr2 z.le2), (z.dv, listOf dvs.toArray ndl)] ?k1 ?k2 ?k3 ?k4 ?k5 ?kA ?kF ?kK ?k6 ?k7 ?k8 ?k9 ?kB ?kN ?_ ?c2 ?c3 ?c4 ?c5; walk_at "en0"; (case kN => exact hn); walk_at "en1")
  have hcl : ∀ p ∈ [(z.net, instObj 312 z.dn), (z.dn, dN9 w.params z.a1 z.a2 z.a3 z.a4 z.a5 z.a6 z.gr (.ref z.jl) (.str (Str.ofString "a") z.s1) (.ref z.pd) (.ref z.cd) z.bd), (z.pd, z.opd), (z.pp, instObj 153 z.ppd), (z.ppd, dP9 w.params z.b1 z.b2 z.b3 z.b4 z.b5 z.b6 z.b7 z.b8 z.nm (.str (Str.ofString "a") z.s4) (.str (Str.ofString "b") z.s5) z.ln z.rs z.lo z.li (.bool true)), (z.cd, z.ocd), (z.cv, instObj 181 z.cvd), (z.cvd, dC9 w.params z.f1 z.f2 z.f3 z.f4 z.f5 z.nc2 (.str (Str.ofString "b") z.s9) (.ref z.dv) z.dr2 z.le2), (z.dv, listOf dvs.toArray ndl)], p.2.cls ≠ .type "tuple" := fcons inst_cls (fcons dict_cls2 (fcons (dict_cls hpd) (fcons inst_cls (fcons dict_cls2 (fcons (dict_cls hcd) (fcons inst_cls (fcons dict_cls2 (fcons list_cls (List.forall_mem_nil _)))))))))
  replace hdv : All2 (RatH g') dvs ds := hdv.mono fun v r x => by
    obtain ⟨D, t, t', c, e, hx⟩ := x
    exact ⟨D, t, t', c, e, hG' _ _ hx (not_need hNN hcl hx rfl)⟩
  k_steps
  unfold Hold
  k_dflt (refine' consumer_v (z := z) ?k1 ?k2 ?k3 ?k4 ?k5 ?k6 ?hn ?lcd ?hcd ?k7 ?k8 ?_)
  case k1 | k2 | k3 | k4 | k5 => k_asm
  case k6 => first | exact rfl | assumption
  case k7 => ktr_room
  case k8 => ktr_units
  case hn => exact fcons (by k_mem) (fcons (by k_mem) (fcons (by k_mem) (List.forall_mem_nil _)))
  case lcd => exact lcd
  case hcd => exact hcd

  intro h5 tk5 F5 N5
  k_steps
  unfold Hold
  k_dflt (refine' fed_c (z := z) ?k1 ?k2 ?k3 ?k4 ?k5 ?k6 ?hn ?lpd ?hpd ?k7 ?k8 ?_)
  case k1 | k2 | k3 | k4 | k5 => k_asm
  case k6 => first | exact rfl | assumption
  case k7 => ktr_room
  case k8 => ktr_units
  case hn => exact fcons (by k_mem) (fcons (by k_mem) (fcons (by k_mem) (fcons (by k_mem) (fcons (by k_mem) (List.forall_mem_nil _)))))
  case lpd => exact lpd
  case hpd => exact hpd

  intro D6 ta tb n6 h6 tk6 F6 N6 l6
  replace l6 := allNe_of l6
  k_steps
  unfold Hold
  k_dflt (refine' total_c (rs := ds) (b := 64) ?k1 ?k2 ?k3 ?k4 ?k5 ?k6 ?el ?hv ?hne ?hb ?hlen ?k7 ?k8 ?_)
  case k1 | k2 | k3 | k4 | k5 => k_asm
  case k6 => first | exact rfl | assumption
  case k7 => ktr_room
  case k8 => ktr_units
  case el => exact News.get (by k_asm) (by k_mem)
  case hv => exact hdv.mono fun v r x => x.keeps (Fr.keep (by k_asm))
  case hne => intro h; rw [h] at hdl; simp at hdl
  case hb => exact hdb
  case hlen => omega

  intro D7 t7 u7 c7 h7 tk7 b7 F7 N7 l7
  have l7' := l7
  k_steps
  try dsimp only
  refine leaveN_ (by k_asm) (by k_asm) ?_; intro kF kN kR kD; (try dsimp only); exact hret _ _ _ _ _ _ (b7.mono (by omega)) kF (news_cons kN (by k_mem) (news_back N hn kN ((by walk_at "st") : ∀ p ∈ [(z.net, instObj 312 z.dn), (z.dn, dN9 w.params z.a1 z.a2 z.a3 z.a4 z.a5 z.a6 z.gr (.ref z.jl) (.str (Str.ofString "a") z.s1) (.ref z.pd) (.ref z.cd) z.bd), (z.pd, z.opd), (z.pp, instObj 153 z.ppd), (z.ppd, dP9 w.params z.b1 z.b2 z.b3 z.b4 z.b5 z.b6 z.b7 z.b8 z.nm (.str (Str.ofString "a") z.s4) (.str (Str.ofString "b") z.s5) z.ln z.rs z.lo z.li (.bool true)), (z.cd, z.ocd), (z.cv, instObj 181 z.cvd), (z.cvd, dC9 w.params z.f1 z.f2 z.f3 z.f4 z.f5 z.nc2 (.str (Str.ofString "b") z.s9) (.ref z.dv) z.dr2 z.le2), (z.dv, listOf dvs.toArray ndl)], p ∈ _) kR)) (neW kD (by k_mem : (D7, RatO _ _ _ _) ∈ _) fun p hp => l7' p (((by walk_at "st") : ∀ p ∈ [(z.net, instObj 312 z.dn), (z.dn, dN9 w.params z.a1 z.a2 z.a3 z.a4 z.a5 z.a6 z.gr (.ref z.jl) (.str (Str.ofString "a") z.s1) (.ref z.pd) (.ref z.cd) z.bd), (z.pd, z.opd), (z.pp, instObj 153 z.ppd), (z.ppd, dP9 w.params z.b1 z.b2 z.b3 z.b4 z.b5 z.b6 z.b7 z.b8 z.nm (.str (Str.ofString "a") z.s4) (.str (Str.ofString "b") z.s5) z.ln z.rs z.lo z.li (.bool true)), (z.cd, z.ocd), (z.cv, instObj 181 z.cvd), (z.cvd, dC9 w.params z.f1 z.f2 z.f3 z.f4 z.f5 z.nc2 (.str (Str.ofString "b") z.s9) (.ref z.dv) z.dr2 z.le2), (z.dv, listOf dvs.toArray ndl)], p ∈ _) p hp))
end
def netDO (P : Params) (z : NetP) : Obj := dN9 P z.a1 z.a2 z.a3 z.a4 z.a5 z.a6 z.gr (.ref z.jl) (.str (Str.ofString "a") z.s1) (.ref z.pd) (.ref z.cd) z.bd
def pipDO (P : Params) (z : NetP) : Obj := dP9 P z.b1 z.b2 z.b3 z.b4 z.b5 z.b6 z.b7 z.b8 z.nm (.str (Str.ofString "a") z.s4) (.str (Str.ofString "b") z.s5) z.ln z.rs z.lo z.li (.bool true)
def conDO (P : Params) (z : NetP) : Obj := dC9 P z.c1 z.c2 z.c3 z.c4 z.c5 z.nc (.str (Str.ofString "b") z.s6) (.ref z.dl) z.dr z.le
def conDV (P : Params) (z : NetP) : Obj := dC9 P z.f1 z.f2 z.f3 z.f4 z.f5 z.nc2 (.str (Str.ofString "b") z.s9) (.ref z.dv) z.dr2 z.le2
theorem dh_d {w : World} {a : Addr} {A₀ : Around} {base h₀ : Heap} {L : Addr} {m : Str → Option Value} {news : List (Addr × Obj)} {s : Shared} {Q E : Value → Shared → Prop} {z : NetP} {dvs : List Value} {ds : List Rat} {ndl : Nat} {tn : Tok} 
    (B : Below A₀ base outer h₀) (F : Fr h₀ L s.heap m) (X : (HD.K w.params).In h₀) (N : News h₀ L s.heap news) (T : Top p loose mean mg mb h₀) (hk : cs.kind = .function) (hn : ∀ p ∈ [(z.net, instObj 312 z.dn), (z.dn, netDO w.params z), (z.pd, z.opd), (z.pp, instObj 153 z.ppd), (z.ppd, pipDO w.params z), (z.cd, z.ocd), (z.cu, instObj 181 z.cud), (z.cud, conDO w.params z), (z.dl, listOf dvs.toArray ndl)], p ∈ news) (lpd : (z.pd == sysModules) = false) (hpd : z.opd.IsDictOf (PySem.strKind Challenge.rw_ui0509_16.row.prog w) [(Str.ofString "p", Value.ref z.pp)]) (lcd : (z.cd == sysModules) = false) (hcd : z.ocd.IsDictOf (PySem.strKind Challenge.rw_ui0509_16.row.prog w) [(Str.ofString "u", Value.ref z.cu), (Str.ofString "v", Value.ref z.cv)]) (hdv : All2 (RatH s.heap) dvs ds) (hdb : ∀ r ∈ ds, Bd 64 r) (hdl : ds.length = 24)
    (hd : dp + 16 < recursionLimit) (hu : un + 600 < cLine)
    (hret : ∀ (D : Addr) (t t' : Tok) (c : Nat) (h' : Heap) (tk' : Nat), Bd 1600 (tot ds) → Fr h₀ L h' m → News h₀ L h' ((D, RatO (tot ds) t t' c) :: news) → (∀ p ∈ news, p.1 ≠ D) → Q (.ref D) { s with heap := h', toks := tk' }) :
    wpAny (model Challenge.rw_ui0509_16.row.prog w) (ktrTop dp un gd cn cs L a ccd cl outer) (call (.ref 335) [.ref z.net, .str (Str.ofString "u") tn]) Q E s :=
  dh_c (z := z) (dvs := dvs) (ds := ds) (ndl := ndl) B F X N T hk hn lpd hpd lcd hcd hdv hdb hdl hd hu hret
theorem dh_w {w : World} {a : Addr} {A₀ : Around} {base h₀ : Heap} {L : Addr} {m : Str → Option Value} {news : List (Addr × Obj)} {s : Shared} {Q E : Value → Shared → Prop} {z : NetP} {dvs : List Value} {ds : List Rat} {ndl : Nat} {tn : Tok} 
    (B : Below A₀ base outer h₀) (F : Fr h₀ L s.heap m) (X : (HD.K w.params).In h₀) (N : News h₀ L s.heap news) (T : Top p loose mean mg mb h₀) (hk : cs.kind = .function) (hn : ∀ p ∈ [(z.net, instObj 312 z.dn), (z.dn, netDO w.params z), (z.pd, z.opd), (z.pp, instObj 153 z.ppd), (z.ppd, pipDO w.params z), (z.cd, z.ocd), (z.cv, instObj 181 z.cvd), (z.cvd, conDV w.params z), (z.dv, listOf dvs.toArray ndl)], p ∈ news) (lpd : (z.pd == sysModules) = false) (hpd : z.opd.IsDictOf (PySem.strKind Challenge.rw_ui0509_16.row.prog w) [(Str.ofString "p", Value.ref z.pp)]) (lcd : (z.cd == sysModules) = false) (hcd : z.ocd.IsDictOf (PySem.strKind Challenge.rw_ui0509_16.row.prog w) [(Str.ofString "u", Value.ref z.cu), (Str.ofString "v", Value.ref z.cv)]) (hdv : All2 (RatH s.heap) dvs ds) (hdb : ∀ r ∈ ds, Bd 64 r) (hdl : ds.length = 24)
    (hd : dp + 16 < recursionLimit) (hu : un + 600 < cLine)
    (hret : ∀ (D : Addr) (t t' : Tok) (c : Nat) (h' : Heap) (tk' : Nat), Bd 1600 (tot ds) → Fr h₀ L h' m → News h₀ L h' ((D, RatO (tot ds) t t' c) :: news) → (∀ p ∈ news, p.1 ≠ D) → Q (.ref D) { s with heap := h', toks := tk' }) :
    wpAny (model Challenge.rw_ui0509_16.row.prog w) (ktrTop dp un gd cn cs L a ccd cl outer) (call (.ref 335) [.ref z.net, .str (Str.ofString "v") tn]) Q E s :=
  dh_v (z := z) (dvs := dvs) (ds := ds) (ndl := ndl) B F X N T hk hn lpd hpd lcd hcd hdv hdb hdl hd hu hret
abbrev MRow := Int × Int × Option Int
abbrev MStep := Int × Int × Int
def OptV (u : Value) (o : Option Int) : Prop := match o with
  | none => u = .none
  | some n => ∃ t, u = .int n t
def RowN (P : Addr → Obj → Prop) (v : Value) (r : MRow) : Prop := ∃ D t t' u c, v = .ref D ∧ P D (Row r.1 r.2.1 t t' u c) ∧ OptV u r.2.2
def StepN (P : Addr → Obj → Prop) (v : Value) (q : MStep) : Prop := ∃ D t t' t'' c, v = .ref D ∧ P D (Row q.1 q.2.1 t t' (.int q.2.2 t'') c)
def StepsN (P : Addr → Obj → Prop) (v : Value) (qs : List MStep) : Prop := LstN (StepN P) P v qs
theorem RowN.mono {P P' : Addr → Obj → Prop} {v : Value} {r : MRow} (hs : ∀ a o, P a o → P' a o) (x : RowN P v r) : RowN P' v r := let ⟨D, t, t', u, c, e, k, o⟩ := x; ⟨D, t, t', u, c, e, hs _ _ k, o⟩
theorem StepN.mono {P P' : Addr → Obj → Prop} {v : Value} {r : MStep} (hs : ∀ a o, P a o → P' a o) (x : StepN P v r) : StepN P' v r := let ⟨D, t, t', u, c, e, k⟩ := x; ⟨D, t, t', u, c, e, hs _ _ k⟩
theorem StepsN.mono {P P' : Addr → Obj → Prop} {v : Value} {qs : List MStep} (hs : ∀ a o, P a o → P' a o) (x : StepsN P v qs) : StepsN P' v qs := let ⟨l, vs, n, e, k, a⟩ := x; ⟨l, vs, n, e, hs _ _ k, a.mono fun _ _ y => y.mono hs⟩
theorem row_new {P : Addr → Obj → Prop} {D : Addr} {a b : Int} {t t' : Tok} {c : Nat} (h : P D (Row a b t t' .none c)) : RowN P (.ref D) (a, b, none) := ⟨D, t, t', .none, c, rfl, h, rfl⟩
section
variable {prog : Program} {w : World} {A : Around} {s : Shared} {h₀ : Heap} {L : Addr} {m : Str → Option Value} {env : Env}
theorem comp_ind {elt : Expr} {x : Str} {scope : Scope} {cl : List (Str × Addr)} {S : List (Addr × Obj) → Prop} {Pv : Nat → Value → Prop} {Fin : List Value → List (Addr × Obj) → Prop} {n : Nat} (J : Nat → List Value → List (Addr × Obj) → Prop)
    (turn : ∀ i v I oI C oC D m₂ h tk (E' : Value → Shared → Prop) ys news, i < n → J i ys news → Pv i v → LCg.NsObj oC m₂ → m₂ x = some v → Fr h₀ L h m → News h₀ L h ((I, oI) :: (C, oC) :: (D, LCg.lst ys) :: news) → LCg.Off3 I C D news → ((@Ne Nat I C) ∧ (@Ne Nat I D) ∧ (@Ne Nat C D)) →
      wpAny (model prog w) A (eval elt (compEnvC scope cl C env)) (LCg.CompEnd h₀ L m { s with heap := h, toks := tk } I oI C oC D (LCg.lst ys) S (fun y news' => J (i + 1) (ys ++ [y]) news')) E' { s with heap := h, toks := tk })
    (fin : ∀ ys news, J n ys news → Fin ys news) :
    ∀ k i ys news, i + k = n → J i ys news → LCg.CompRest prog w A h₀ L m env elt x scope cl s S Pv Fin k i ys news := by
  intro k
  induction k with
  | zero =>
    intro i ys news hk hJ
    have : i = n := by omega
    subst this
    exact LCg.CompRest.zero (fin ys news hJ)
  | succ k ih =>
    intro i ys news hk hJ
    refine LCg.CompRest.succ fun v I oI C oC D m₂ h tk E' hP hC hx F N off ne => ?_
    refine wpAny_mono (turn i v I oI C oC D m₂ h tk E' ys news (by omega) hJ hP hC hx F N off ne) (fun y s₂ h₂ => ?_) fun _ _ e => e
    obtain ⟨h', tk', news', e, F', N', off', hS, r⟩ := h₂
    exact ⟨h', tk', news', e, F', N', off', hS, ih (i + 1) (ys ++ [y]) news' (by omega) r⟩
theorem comp_end {I C D : Addr} {s₁ : Shared} {oI oC oD : Obj} {S : List (Addr × Obj) → Prop} {rest : Value → List (Addr × Obj) → Prop} {y : Value} {h' : Heap} {tk : Nat} {all : List (Addr × Obj)}
    (F : Fr h₀ L h' m) (N : News h₀ L h' all) (news' : List (Addr × Obj)) (sub : ∀ p ∈ (I, oI) :: (C, oC) :: (D, oD) :: news', p ∈ all) (off : LCg.Off3 I C D news') (hS : S news') (r : rest y news') :
    LCg.CompEnd h₀ L m s₁ I oI C oC D oD S rest y { s₁ with heap := h', toks := tk } := LCg.CompEnd.intro F N news' sub off hS r
theorem off3_cons {I C D : Addr} {p : Addr × Obj} {l : List (Addr × Obj)} (h1 : p.1 ≠ I) (h2 : p.1 ≠ C) (h3 : p.1 ≠ D) (h : LCg.Off3 I C D l) : LCg.Off3 I C D (p :: l) := ⟨⟨h1, h2, h3⟩, h⟩
theorem off1_mem {D : Addr} : ∀ {l : List (Addr × Obj)}, LCg.Off1 D l → ∀ p ∈ l, p.1 ≠ D
  | [], _, _, h => nomatch h
  | _ :: _, x, p, h => by
    rcases List.mem_cons.mp h with rfl | h
    · exact x.1
    · exact off1_mem x.2 p h
end
theorem sub_mid1 {a b c : Addr × Obj} {l : List (Addr × Obj)} {t : Addr × Obj} : ∀ p ∈ a :: b :: c :: t :: l, p ∈ t :: a :: b :: c :: l := by
  intro p hp; simp only [List.mem_cons] at hp ⊢; rcases hp with h | h | h | h | h <;> simp [h]
abbrev Led (led : List (Addr × Obj)) (a : Addr) (o : Obj) : Prop := (a, o) ∈ led
theorem bd64 {x : Int} (h : -(2 ^ 62) ≤ x) (h' : x < 2 ^ 62) : Bd 64 (x : Rat) := Bd.int (PySem.intBits_le_64 (by omega) (by omega)) (by decide)
theorem name_led {h₀ h : Heap} {L : Addr} {led : List (Addr × Obj)} (N : News h₀ L h led) : ∃ l, l = led ∧ News h₀ L h l := ⟨led, rfl, N⟩
theorem news_as {h₀ h : Heap} {L : Addr} {l all : List (Addr × Obj)} (N : News h₀ L h all) (hs : ∀ p ∈ l, p ∈ all) : ∃ l', l' = l ∧ News h₀ L h l' := ⟨l, rfl, fun p hp => N p (hs p hp)⟩
theorem sub_mid3 {a b c t1 t2 q : Addr × Obj} {LE tl : List (Addr × Obj)} : ∀ p ∈ a :: b :: c :: (LE ++ q :: tl), p ∈ q :: t1 :: t2 :: a :: b :: c :: (LE ++ tl) := by
  intro p hp
  simp only [List.mem_cons, List.mem_append] at hp ⊢
  rcases hp with h | h | h | h | h | h <;> simp [h]
theorem sub_le3 {a b c t1 t2 : Addr × Obj} {LE tl : List (Addr × Obj)} : ∀ p ∈ LE, p ∈ t1 :: t2 :: a :: b :: c :: (LE ++ tl) := by
  intro p hp
  simp only [List.mem_cons, List.mem_append]
  simp [hp]
theorem five {I c : Nat} {oa ob oc od oe : Obj} {r : List (Addr × Obj)} (h : c < I) (hr : ∀ p ∈ r, p.1 ≠ c) : ∀ p ∈ ((I + 4, oa) :: (I + 2, ob) :: (I + 3, oc) :: (I, od) :: (I + 1, oe) :: r : List (Addr × Obj)), p.1 ≠ c :=
  fcons ((ktu_ne 4 h).symm) (fcons ((ktu_ne 2 h).symm) (fcons ((ktu_ne 3 h).symm) (fcons ((Nat.ne_of_lt h).symm) (fcons ((ktu_ne 1 h).symm) hr))))
theorem All2.unsnoc9 {α β : Type} {R : α → β → Prop} {vs : List α} {bs : List β} {b : β} (h : All2 R vs (bs ++ [b])) : ∃ vs' v, vs = vs' ++ [v] ∧ All2 R vs' bs ∧ R v b := by
  have h' := h.reverse
  rw [List.reverse_append] at h'
  cases hv : vs.reverse with
  | nil => rw [hv] at h'; have := h'.length; simp at this
  | cons v r =>
    rw [hv] at h'
    cases h' with
    | cons h1 h2 =>
      refine ⟨r.reverse, v, ?_, ?_, h1⟩
      · have := congrArg List.reverse hv; simpa using this
      · have := h2.reverse; simpa using this
theorem range_last {α : Type} {f : Nat → α} {n : Nat} (h : 0 < n) : (List.range n).map f = (List.range (n - 1)).map f ++ [f (n - 1)] := by
  obtain ⟨k, rfl⟩ : ∃ k, n = k + 1 := ⟨n - 1, by omega⟩
  rw [Nat.add_sub_cancel, List.range_succ, List.map_append]; rfl
theorem last_le {vs : List Value} {v : Value} : -((vs ++ [v]).length : Int) ≤ -1 := by rw [List.length_append]; simp; omega
theorem len_b {vs : List Value} {a : Value} (h : vs.length ≤ 1000) : (vs ++ [a]).length < 1000000 := by simp; omega
theorem den_posI {r : Rat} : (0 : Int) < (r.den : Int) := by have := r.den_pos; omega
theorem unr_endL {h₀ h' : Heap} {L : Addr} {its : List (Addr × Obj)} {rest : (Str → Option Value) → List (Addr × Obj) → Prop} {s₁ : Shared} {tk : Nat} {m' : Str → Option Value} {all : List (Addr × Obj)} (news' : List (Addr × Obj)) (F : Fr h₀ L h' m') (N : News h₀ L h' all)
    (hI : ∀ p ∈ its, p ∈ all) (hs : ∀ p ∈ news', p ∈ all) (hne : ∀ p ∈ news', ∀ q ∈ its, p.1 ≠ q.1) (r : rest m' news') : UnrEndW h₀ L s₁ its rest { s₁ with heap := h', toks := tk } :=
  ⟨h', tk, m', news', rfl, F, fun p hp => by
    rcases List.mem_append.mp hp with hp | hp
    · exact N p (hI p hp)
    · exact N p (hs p hp), hne, r⟩
theorem its5 {I a : Nat} {oa ob oc od oe : Obj} (h : a < I) : ∀ q ∈ ([(I + 4, oa), (I + 2, ob), (I + 3, oc), (I, od), (I + 1, oe)] : List (Addr × Obj)), a ≠ q.1 :=
  fcons (ktu_ne 4 h) (fcons (ktu_ne 2 h) (fcons (ktu_ne 3 h) (fcons (Nat.ne_of_lt h) (fcons (ktu_ne 1 h) (List.forall_mem_nil _)))))
theorem allLt_lt {d : Nat} : ∀ {l : List (Addr × Obj)}, AllLt d l → ∀ p ∈ l, @LT.lt Nat _ p.1 d
  | [], _, _, h => nomatch h
  | _ :: _, x, p, h => by
    rcases List.mem_cons.mp h with rfl | h
    · exact x.1
    · exact allLt_lt x.2 p h
theorem sub_two {A B all : List (Addr × Obj)} (h1 : ∀ p ∈ A, p ∈ all) (h2 : ∀ p ∈ B, p ∈ all) : ∀ p ∈ A ++ B, p ∈ all := fun p hp => (List.mem_append.mp hp).elim (h1 p) (h2 p)
theorem sub_ins {R tl all : List (Addr × Obj)} {q : Addr × Obj} (h1 : ∀ p ∈ R ++ tl, p ∈ all) (h2 : q ∈ all) : ∀ p ∈ R ++ q :: tl, p ∈ all := by
  intro p hp
  rcases List.mem_append.mp hp with h | h
  · exact h1 p (aL0 h)
  · rcases List.mem_cons.mp h with rfl | h
    · exact h2
    · exact h1 p (aR0 h)
theorem app_one {R : List (Addr × Obj)} {q : Addr × Obj} {P : Addr × Obj → Prop} (h1 : ∀ p ∈ R, P p) (h2 : P q) : ∀ p ∈ R ++ [q], P p := by
  intro p hp
  rcases List.mem_append.mp hp with h | h
  · exact h1 p h
  · rw [List.mem_singleton.mp h]; exact h2
theorem app_ins {R tl : List (Addr × Obj)} {q : Addr × Obj} {P : Addr × Obj → Prop} (h1 : ∀ p ∈ R ++ tl, P p) (h2 : P q) : ∀ p ∈ R ++ q :: tl, P p := by
  intro p hp
  rcases List.mem_append.mp hp with h | h
  · exact h1 p (aL0 h)
  · rcases List.mem_cons.mp h with rfl | h
    · exact h2
    · exact h1 p (aR0 h)
theorem off3_mid {I C D : Addr} {LE tl : List (Addr × Obj)} {q : Addr × Obj} (off : LCg.Off3 I C D (LE ++ tl)) (h1 : q.1 ≠ I) (h2 : q.1 ≠ C) (h3 : q.1 ≠ D) : LCg.Off3 I C D (LE ++ q :: tl) := LCg.Off3.of fun p hp => by
  rcases List.mem_append.mp hp with h | h
  · exact off.mem p (aL0 h)
  · rcases List.mem_cons.mp h with rfl | h
    · exact ⟨h1, h2, h3⟩
    · exact off.mem p (aR0 h)
theorem apLt {d : Nat} {l : List (Addr × Obj)} {a : Addr} {o : Obj} (h : AllLt d l) (hm : (a, o) ∈ l) : @Ne Nat a d := allLt_mem h _ hm
theorem apL {d : Nat} {l : List (Addr × Obj)} {a : Addr} {o : Obj} (h : AllNe d l) (hm : (a, o) ∈ l) : @Ne Nat a d := allNe_mem h _ hm
theorem ltK {d : Nat} {l : List (Addr × Obj)} {a : Addr} {o : Obj} (h : AllLt d l) (hm : (a, o) ∈ l) : @LT.lt Nat _ a d := allLt_lt h _ hm
def forB : Stmt → List Stmt
  | .For _ _ b .. => b
  | _ => []
end Mine
open Mine
local macro_rules | `(tactic| walk_at "i8") => `(tactic| (intro D' t' u' c' h' tk' bD' F' N' l1; (try (replace l1 := allNe_of l1))))
local macro_rules | `(tactic| walk_at "i9") => `(tactic| (intro r' D' t' u' c' h' tk' rE' rN' rD' F' N' l1; (try k_lt l1)))
local macro_rules | `(tactic| walk_at "i10") => `(tactic| (intro D' t' u' c' h' tk' F' N' l1; (try k_lt l1)))
namespace Mine
section
local macro_rules | `(tactic| k_lt $h:ident) => `(tactic| replace $h:ident := allLt_of $h)
theorem words18 : True := by
  k_with_none
  k_with "k_in" => (refine' in_of ?z4fF ?z4fX; (case z4fF | z4fX => k_asm))
  k_with "k_mem" => (first | with_reducible assumption | (refine cC9 ?_; k_mem))
  k_with "subscriptTail Name Name ref str" => (k_here; (with_reducible show wpAny _ _ (subscriptTail _ _ (Value.ref _) (Value.str _ _)) _ _ _); k_dflt (refine' kda_item (knd := PySem.strKind _ _) ?z42N ?z42hp ?z42hd (strKind_is _ _ _ _) ?z42hl ?_; (case z42N => k_asm); (case z42hp => k_mem); (case z42hd => with_reducible assumption); (case z42hl => rfl); k_whole); (try dsimp only))
  k_with "compareOp Is ref ref" => (k_here; (with_reducible show wpAny _ _ (compareOp CmpOp.Is (Value.ref _) (Value.ref _)) _ _ _); k_dflt (refine' kto_is ?z43a ?z43b ?z43n ?z43c ?_; (case z43n => assumption); (case z43a | z43b => refine' kto_N ?z43N ?z43m; (case z43N => k_asm); (case z43m => k_mem)); (case z43c => kto_not); k_whole))
  k_with "hat9" => (first | exact News.get (by k_asm) (by k_mem) | exact Fr.keep (by k_asm) _ _ (by with_reducible assumption) | exact Tk.get (by k_asm) (by k_asm) (by with_reducible assumption) (by walk_at "st") | exact Frag.In.keeps (by k_asm) (Fr.keep (by k_asm)) _ _ (by k_is))
  k_with "call ref" => (k_here; (with_reducible show wpAny _ _ (call (Value.ref 108) [Value.ref _, Value.ref _]) _ _ _); k_dflt (refine' over_r ?z44k1 ?z44k2 ?z44k3 ?z44k4 ?z44k5 ?z44k6 ?z44m1 ?z44m2 ?z44k7 ?z44k8 ?z44b1 ?z44b2 ?z44hz ?z44hb ?_; (case z44k1 | z44k2 | z44k3 | z44k4 | z44k5 => k_asm); (case z44k6 => first | exact rfl | assumption); (case z44k7 => first | exact Nat.le_of_ble_eq_true rfl | ktr_room); (case z44k8 => first | exact Nat.le_of_ble_eq_true rfl | ktr_units); (case z44m1 | z44m2 => (walk_at "hat9")); (case z44b1 | z44b2 => with_reducible assumption); (case z44hb => first | assumption | omega | decide); (case z44hz => first | assumption | grind); k_whole); walk_at "i8"; (try k_sweep))
  k_with "call ref" => (k_here; (with_reducible show wpAny _ _ (call (Value.ref 87) [Value.ref _, Value.ref _]) _ _ _); k_dflt (refine' plus_r ?z45k1 ?z45k2 ?z45k3 ?z45k4 ?z45k5 ?z45k6 ?z45m1 ?z45m2 ?z45k7 ?z45k8 ?z45b1 ?z45b2 ?z45hb ?_; (case z45k1 | z45k2 | z45k3 | z45k4 | z45k5 => k_asm); (case z45k6 => first | exact rfl | assumption); (case z45k7 => first | exact Nat.le_of_ble_eq_true rfl | ktr_room); (case z45k8 => first | exact Nat.le_of_ble_eq_true rfl | ktr_units); (case z45m1 | z45m2 => (walk_at "hat9")); (case z45b1 | z45b2 => with_reducible assumption); (case z45hb => first | assumption | omega | decide); k_whole); walk_at "i8"; (try k_sweep))
  k_with "call ref" => (k_here; (with_reducible show wpAny _ _ (call (Value.ref 101) [Value.ref _, Value.ref _]) _ _ _); k_dflt (refine' times_r ?z46k1 ?z46k2 ?z46k3 ?z46k4 ?z46k5 ?z46k6 ?z46m1 ?z46m2 ?z46k7 ?z46k8 ?z46b1 ?z46b2 ?z46hb ?_; (case z46k1 | z46k2 | z46k3 | z46k4 | z46k5 => k_asm); (case z46k6 => first | exact rfl | assumption); (case z46k7 => first | exact Nat.le_of_ble_eq_true rfl | ktr_room); (case z46k8 => first | exact Nat.le_of_ble_eq_true rfl | ktr_units); (case z46m1 | z46m2 => (walk_at "hat9")); (case z46b1 | z46b2 => with_reducible assumption); (case z46hb => first | assumption | omega | decide); k_whole); walk_at "i8"; (try k_sweep))
  k_with "k_ne" => (refine neN ?_; (try dsimp only); first | with_reducible assumption | exact Ne.symm (by with_reducible assumption) | exact apL (by with_reducible assumption) (by k_mem) | exact (apL (by with_reducible assumption) (by k_mem)).symm | exact apLt (by with_reducible assumption) (by k_mem) | exact (apLt (by with_reducible assumption) (by k_mem)).symm)
  k_with "k_all" => (first | with_reducible assumption | exact List.forall_mem_nil _ | (refine fcons (?_) (?_) <;> first | k_ne | k_all) | exact allLt_mem (by with_reducible assumption))
  k_with "bits_by_make" => (with_reducible assumption)
  k_with "call ref" => (k_here; (with_reducible show wpAny _ _ (call (Value.ref 72) [Value.int _ _, Value.int _ _]) _ _ _); k_dflt (refine' frac_use ?z47k1 ?z47k2 ?z47k3 ?z47k4 ?z47k5 ?z47k6 ?z47k7 ?z47k8 ?z47k9 ?z47k10 ?z47k11 ?z47k12 ?z47k13 ?_; (case z47k1 | z47k2 | z47k3 | z47k4 | z47k5 => k_asm); (case z47k6 => first | exact rfl | assumption); (case z47k7 => first | exact Nat.le_of_ble_eq_true rfl | ktr_room); (case z47k8 => first | exact Nat.le_of_ble_eq_true rfl | ktr_units); (case z47k10 | z47k11 => bits_by_make); (case z47k12 | z47k13 => decide); (case z47k9 => first | exact nzden _ | omega | ((try k_fmods); omega) | (refine nzmul ?_ ?_ <;> first | exact nzden _ | omega)); k_whole); walk_at "i9"; (try k_sweep))
  k_with "call ref" => (k_here; (with_reducible show wpAny _ _ (call (Value.ref 72) [Value.int _ _, Value.int 1 _]) _ _ _); k_dflt (refine' frac_one ?z48k1 ?z48k2 ?z48k3 ?z48k4 ?z48k5 ?z48k6 ?z48k7 ?z48k8 ?z48k10 ?z48k12 ?_; (case z48k1 | z48k2 | z48k3 | z48k4 | z48k5 => k_asm); (case z48k6 => first | exact rfl | assumption); (case z48k7 => first | exact Nat.le_of_ble_eq_true rfl | ktr_room); (case z48k8 => first | exact Nat.le_of_ble_eq_true rfl | ktr_units); (case z48k10 => bits_by_make); (case z48k12 => decide); k_whole); walk_at "i10"; (try k_sweep))
  k_with "call ref" => (k_here; (with_reducible show wpAny _ _ (call (Value.ref 72) [Value.int _ _]) _ _ _); k_dflt (refine' frac_dflt ?z49k1 ?z49k2 ?z49k3 ?z49k4 ?z49k5 ?z49k6 ?z49k7 ?z49k8 ?z49k10 ?z49k12 ?_; (case z49k1 | z49k2 | z49k3 | z49k4 | z49k5 => k_asm); (case z49k6 => first | exact rfl | assumption); (case z49k7 => first | exact Nat.le_of_ble_eq_true rfl | ktr_room); (case z49k8 => first | exact Nat.le_of_ble_eq_true rfl | ktr_units); (case z49k10 => bits_by_make); (case z49k12 => decide); k_whole); walk_at "i10"; (try k_sweep))
  k_with "call ref" => (k_here; (with_reducible show wpAny _ _ (call (Value.ref 41) [Value.int _ _, Value.int _ _, Value.int _ _, Value.str _ _]) _ _ _); k_dflt (refine' need_number_c ?z50k1 ?z50k2 ?z50k3 ?z50k4 ?z50k5 ?z50k6 ?z50h1 ?z50h2 ?z50k7 ?_; (case z50k1 | z50k2 | z50k3 | z50k4 | z50k5 => k_asm); (case z50k6 => first | exact rfl | assumption); (case z50k7 => first | exact Nat.le_of_ble_eq_true rfl | ktr_room); (case z50h1 | z50h2 => first | decide | assumption | omega); k_whole); walk_at "i3"; (try k_sweep))
  k_with "exec For Name Name cons nil" => ((with_reducible show wpAny _ _ (exec (Stmt.For (Expr.Name _ _) (Expr.Name _ _) _ _ _) _) _ _ _); refine Hold.out ?_)
  k_with "call ref" => (k_here; (with_reducible show wpAny _ _ (call (Value.ref 335) _ _) _ _ _); refine Hold.out ?_)
  k_with "call ref" => (k_here; (with_reducible show wpAny _ _ (call (Value.ref 115) _ _) _ _ _); refine Hold.out ?_)
  k_with "call ref" => (k_here; (with_reducible show wpAny _ _ (call (Value.ref 108) _ _) _ _ _); refine Hold.out ?_)
  k_with "eval Name" => (k_here; k_dflt (refine' nameX_L ?z51k1 ?z51k2 ?_ ?z51k3 ?z51k4; (case z51k1 => k_asm); (case z51k3 | z51k4 => rfl); (case z51k2 => first | exact rfl | assumption); k_whole))
  trivial
theorem turnA_u {w : World} {a : Addr} {base h₀ : Heap} {L0 L fa : Addr} {cdv : Value} {m : Str → Option Value} {s : Shared} {Q : Flow → Shared → Prop} {E : Value → Shared → Prop} {z : NetP} {md x1 x2 d l Df lr : Addr} {j1 j2 j3 j4 j5 j6 tj tf tf' : Tok} {nm : Value} {nl nr ndl cf : Nat} {f : Rat} {dvs : List Value} {ds : List Rat} {omd oM oE : Obj} {cM cE : Option Value} {R : List (Addr × Obj)} 
    (B : Below (ktrTop dp un gd cn cs L0 a ccd cl outer) base (envX cn cs L0 a ccd cl :: outer) h₀) (X : (HD.K w.params).In h₀) (T : Top p loose mean mg mb h₀) (hd : dp + 20 < recursionLimit) (hu : un + 900 < cLine) (F : Fr h₀ L s.heap m) (N : News h₀ L s.heap ((lr, listOf ([] : List Value).toArray nr) :: (L + 1 + 1, oE) :: (L + 1, oM) :: R)) (qM : oM.data = .cell cM) (qE : oE.data = .cell cE)
    (ex : (x1, instObj 393 d) ∈ R) (ed : (d, meterD w.params j1 j2 j3 j4 j5 nm (.int 5000 j6) (.ref Df) (.ref l) (.ref 56)) ∈ R) (el : (l, listOf ([] : List Value).toArray nl) ∈ R) (em : (md, omd) ∈ R) (hn : ∀ p ∈ [(z.net, instObj 312 z.dn), (z.dn, netDO w.params z), (z.pd, z.opd), (z.pp, instObj 153 z.ppd), (z.ppd, pipDO w.params z), (z.cd, z.ocd), (z.cu, instObj 181 z.cud), (z.cud, conDO w.params z), (z.dl, listOf dvs.toArray ndl)], p ∈ R) (lpd : (z.pd == sysModules) = false) (hpd : z.opd.IsDictOf (PySem.strKind Challenge.rw_ui0509_16.row.prog w) [(Str.ofString "p", Value.ref z.pp)]) (lcd : (z.cd == sysModules) = false) (hcd : z.ocd.IsDictOf (PySem.strKind Challenge.rw_ui0509_16.row.prog w) [(Str.ofString "u", Value.ref z.cu), (Str.ofString "v", Value.ref z.cv)]) (lmd : (md == sysModules) = false) (hmd : omd.IsDictOf (PySem.strKind Challenge.rw_ui0509_16.row.prog w) [(Str.ofString "u", Value.ref x1), (Str.ofString "v", Value.ref x2)])
    (ef : h₀.get? Df = some (RatO f tf tf' cf)) (hdv : All2 (RatH h₀) dvs ds) (hdb : ∀ r ∈ ds, Bd 64 r) (hdl : ds.length = 24) (ff : FitsR f) (hf0 : f ≠ 0) (hl9 : Fit9 (((tot ds).den : Int) * f.num)) (fe : FitsR (tot ds / f)) (hle : ¬ ((5000 - 1 : Int) : Rat) < tot ds / f)
    (aR : ∀ p ∈ R, p.1 ≠ lr) (a1 : ∀ p ∈ R, p.1 ≠ L + 1) (a2 : ∀ p ∈ R, p.1 ≠ L + 1 + 1) (lt1 : AllLt lr [(L + 1 + 1, oE), (L + 1, oM)]) (lt2 : AllLt (L + 1 + 1) [(L + 1, oM)])
    (n_net : m (Str.ofString "net") = some (.ref z.net)) (n_meters : m (Str.ofString "meters") = some (.ref md)) (n_rows : m (Str.ofString "rows") = some (.ref lr)) (n_name : m (Str.ofString "name") = some (.str (Str.ofString "u") tj))
    (hret : ∀ (Dt D6 : Addr) (ts t6 u6 : Tok) (c6 : Nat) (oM' oE' : Obj) (h' : Heap) (tk' : Nat) (m' : Str → Option Value), Fr h₀ L h' m' → (m' (Str.ofString "net") = m (Str.ofString "net") ∧ m' (Str.ofString "meters") = m (Str.ofString "meters") ∧ m' (Str.ofString "day") = m (Str.ofString "day") ∧ m' (Str.ofString "days") = m (Str.ofString "days") ∧ m' (Str.ofString "rows") = m (Str.ofString "rows") ∧ m' (Str.ofString "name") = m (Str.ofString "name")) → News h₀ L h' ((Dt, { cls := .type "tuple", data := .seq #[.str (Str.ofString "u") tj, .ref x1, .int 0 ts, .ref D6] }) :: (D6, RatO (tot ds / f) t6 u6 c6) :: (lr, listOf ((#[] : Array Value).push (Value.ref Dt)) (nr + 1)) :: (L + 1 + 1, oE') :: (L + 1, oM') :: R) → oM'.data = .cell (some (.ref x1)) → oE'.data = .cell (some (.ref D6)) → (∀ p ∈ R, p.1 ≠ Dt) → (∀ p ∈ R, p.1 ≠ D6) → AllLt Dt [(D6, oE'), (lr, oE'), (L + 1 + 1, oE'), (L + 1, oE')] → AllNe D6 [(lr, oE'), (L + 1 + 1, oE'), (L + 1, oE')] → Q .next { s with heap := h', toks := tk' }) :
    wpAny (model Challenge.rw_ui0509_16.row.prog w) ((ktrTop dp un gd cn cs L0 a ccd cl outer).deeper (envOfC (Str.ofString "count_days") HD.fs34.1 L fa cdv)) (execs (forB (HD.nth HD.fb34.1 4)) (envOfC (Str.ofString "count_days") HD.fs34.1 L fa cdv)) Q E s := by
  w_top off
  revert X; k_fill; intro X
  dsimp only [forB, HD.nth, HD.fb34, HD.fs34]
  k_steps
  unfold Hold
  (rename News _ _ _ _ => N8a)
  (rename Fr _ _ _ _ => F8a)
  obtain ⟨_, e9, N1⟩ := news_as N8a (l := (lr, _) :: (L + 1 + 1, oE) :: (L + 1, _) :: R) (fun p hp => cC9 hp)
  subst e9
  clear N8a
  k_dflt (refine' dh_d (z := z) (dvs := dvs) (ds := ds) (ndl := ndl) ?k1_u5 ?k2_u5 ?k3_u5 ?k4_u5 ?k5_u5 ?k6_u5 ?hn_u5 ?lpd_u5 ?hpd_u5 ?lcd_u5 ?hcd_u5 ?hdv_u5 ?hdb_u5 ?hdl_u5 ?k7_u5 ?k8_u5 ?_)
  case k1_u5 | k2_u5 | k3_u5 | k4_u5 | k5_u5 => k_asm
  case k6_u5 => first | exact rfl | assumption
  case k7_u5 => ktr_room
  case k8_u5 => ktr_units
  case hn_u5 => exact fun p hp => ((by walk_at "sx") : ∀ p ∈ R, p ∈ _) p (hn p hp)
  case lpd_u5 => exact lpd
  case hpd_u5 => exact hpd
  case lcd_u5 => exact lcd
  case hcd_u5 => exact hcd
  case hdv_u5 => exact hdv.mono fun v r x => x.keeps (Fr.keep (by k_asm))
  case hdb_u5 => exact hdb
  case hdl_u5 => exact hdl

  intro D5 t5 u5 c5 h5 tk5 b5 F5 N5 l5
  replace l5 := allNe_of l5
  clear N1 F8a
  k_steps
  unfold Hold
  k_dflt (refine' over_k (r1 := tot ds) (r2 := f) ?k1_u6 ?k2_u6 ?k3_u6 ?k4_u6 ?k5_u6 ?k6_u6 ?e1_u6 ?e2_u6 ?k7_u6 ?k8_u6 ?f1_u6 ?f2_u6 ?hz_u6 ?h9_u6 ?fr_u6 ?_)
  case k1_u6 | k2_u6 | k3_u6 | k4_u6 | k5_u6 => k_asm
  case k6_u6 => first | exact rfl | assumption
  case k7_u6 => ktr_room
  case k8_u6 => ktr_units
  case e1_u6 => exact N5.get (by k_mem)
  case e2_u6 => exact Fr.keep (by k_asm) _ _ ef
  case f1_u6 => exact b5.fitsR (by decide)
  case f2_u6 => exact ff
  case hz_u6 => exact hf0
  case h9_u6 => exact hl9
  case fr_u6 => exact fe

  intro D6 t6 u6 c6 h6 tk6 F6 N6 l6
  replace l6 := allNe_of l6
  clear N5 F5
  k_steps
  unfold Hold
  rename_i D7 t7 u7 c7 h7 tk7 F7 N7 l7
  k_dflt (refine' less_r (D1 := D7) (D2 := D6) (r1 := ((5000 - 1 : Int) : Rat)) (r2 := tot ds / f) (n := 64) (k := 6645) ?k1_u4 ?k2_u4 ?k3_u4 ?k4_u4 ?k5_u4 ?k6_u4 ?m1_u4 ?m2_u4 ?k7_u4 ?k8_u4 ?b1_u4 ?b2_u4 ?hb_u4 ?_)
  case k1_u4 | k2_u4 | k3_u4 | k4_u4 | k5_u4 => k_asm
  case k6_u4 => first | exact rfl | assumption
  case k7_u4 => ktr_room
  case k8_u4 => ktr_units
  case m1_u4 => exact N7.get (by k_mem : (D7, T2 (5000 - 1) 1 t7 u7 c7) ∈ _)
  case m2_u4 => exact N7.get (by k_mem)
  case b1_u4 => exact Bd.int (by decide) (by decide)
  case b2_u4 => exact ⟨bits_fits fe.num, bits_fits fe.den⟩
  case hb_u4 => decide

  intro h8 tk8 F8 N8
  clear N7 F7
  k_steps
  rename_i Dt hA lD hB FZ NZ
  obtain ⟨_, e9, NZ2⟩ := news_as NZ (l := (Dt, _) :: (D6, RatO (tot ds / f) t6 u6 c6) :: (lr, _) :: (L + 1 + 1, _) :: (L + 1, _) :: R) (fcons (by k_mem) (fcons (by k_mem) (fcons (by k_mem) (fcons (by k_mem) (fcons (by k_mem) (by walk_at "sx"))))))
  subst e9
  exact hret Dt D6 _ _ _ _ _ _ _ _ _ FZ ⟨rfl, rfl, rfl, rfl, rfl, rfl⟩ NZ2 (by assumption) (by assumption) (fun p hp => allLt_mem lD p (((by walk_at "sx") : ∀ p ∈ R, p ∈ _) p hp)) (fun p hp => allNe_mem l6 p (((by walk_at "sx") : ∀ p ∈ R, p ∈ _) p hp)) ⟨ltK lD (by k_mem), ltK lD (by k_mem), ltK lD (by k_mem), ltK lD (by k_mem), trivial⟩ ⟨apL l6 (by k_mem), apL l6 (by k_mem), apL l6 (by k_mem), trivial⟩
theorem turnA_v {w : World} {a : Addr} {base h₀ : Heap} {L0 L fa : Addr} {cdv : Value} {m : Str → Option Value} {s : Shared} {Q : Flow → Shared → Prop} {E : Value → Shared → Prop} {z : NetP} {md x1 x2 d l Df lr Du Dw Dw1 : Addr} {j1 j2 j3 j4 j5 j6 tj tf tf' tv1 tv2 : Tok} {nm : Value} {nl nr ndl cf : Nat} {f : Rat} {dvs : List Value} {ds : List Rat} {omd oM oE : Obj} {cM cE : Option Value} {R : List (Addr × Obj)} 
    (B : Below (ktrTop dp un gd cn cs L0 a ccd cl outer) base (envX cn cs L0 a ccd cl :: outer) h₀) (X : (HD.K w.params).In h₀) (T : Top p loose mean mg mb h₀) (hd : dp + 20 < recursionLimit) (hu : un + 900 < cLine) (F : Fr h₀ L s.heap m) (N : News h₀ L s.heap ((lr, listOf ([Value.ref Du] : List Value).toArray nr) :: (L + 1 + 1, oE) :: (L + 1, oM) :: R)) (qM : oM.data = .cell cM) (qE : oE.data = .cell cE)
    (ex : (x2, instObj 393 d) ∈ R) (ed : (d, meterD w.params j1 j2 j3 j4 j5 nm (.int 5000 j6) (.ref Df) (.ref l) (.ref 56)) ∈ R) (el : (l, listOf ([] : List Value).toArray nl) ∈ R) (em : (md, omd) ∈ R) (hn : ∀ p ∈ [(z.net, instObj 312 z.dn), (z.dn, netDO w.params z), (z.pd, z.opd), (z.pp, instObj 153 z.ppd), (z.ppd, pipDO w.params z), (z.cd, z.ocd), (z.cv, instObj 181 z.cvd), (z.cvd, conDV w.params z), (z.dv, listOf dvs.toArray ndl)], p ∈ R) (lpd : (z.pd == sysModules) = false) (hpd : z.opd.IsDictOf (PySem.strKind Challenge.rw_ui0509_16.row.prog w) [(Str.ofString "p", Value.ref z.pp)]) (lcd : (z.cd == sysModules) = false) (hcd : z.ocd.IsDictOf (PySem.strKind Challenge.rw_ui0509_16.row.prog w) [(Str.ofString "u", Value.ref z.cu), (Str.ofString "v", Value.ref z.cv)]) (lmd : (md == sysModules) = false) (hmd : omd.IsDictOf (PySem.strKind Challenge.rw_ui0509_16.row.prog w) [(Str.ofString "u", Value.ref x1), (Str.ofString "v", Value.ref x2)]) (ex1 : (x1, instObj 393 Dw1) ∈ R) (eDu : (Du, { cls := .type "tuple", data := .seq #[.str (Str.ofString "u") tv1, .ref x1, .int 0 tv2, .ref Dw] }) ∈ R) (nx12 : x1 ≠ x2)
    (ef : h₀.get? Df = some (RatO f tf tf' cf)) (hdv : All2 (RatH h₀) dvs ds) (hdb : ∀ r ∈ ds, Bd 64 r) (hdl : ds.length = 24) (ff : FitsR f) (hf0 : f ≠ 0) (hl9 : Fit9 (((tot ds).den : Int) * f.num)) (fe : FitsR (tot ds / f)) (hle : ¬ ((5000 - 1 : Int) : Rat) < tot ds / f)
    (aR : ∀ p ∈ R, p.1 ≠ lr) (a1 : ∀ p ∈ R, p.1 ≠ L + 1) (a2 : ∀ p ∈ R, p.1 ≠ L + 1 + 1) (lt1 : AllLt lr [(L + 1 + 1, oE), (L + 1, oM)]) (lt2 : AllLt (L + 1 + 1) [(L + 1, oM)])
    (n_net : m (Str.ofString "net") = some (.ref z.net)) (n_meters : m (Str.ofString "meters") = some (.ref md)) (n_rows : m (Str.ofString "rows") = some (.ref lr)) (n_name : m (Str.ofString "name") = some (.str (Str.ofString "v") tj))
    (hret : ∀ (Dt D6 : Addr) (ts t6 u6 : Tok) (c6 : Nat) (oM' oE' : Obj) (h' : Heap) (tk' : Nat) (m' : Str → Option Value), Fr h₀ L h' m' → (m' (Str.ofString "net") = m (Str.ofString "net") ∧ m' (Str.ofString "meters") = m (Str.ofString "meters") ∧ m' (Str.ofString "day") = m (Str.ofString "day") ∧ m' (Str.ofString "days") = m (Str.ofString "days") ∧ m' (Str.ofString "rows") = m (Str.ofString "rows") ∧ m' (Str.ofString "name") = m (Str.ofString "name")) → News h₀ L h' ((Dt, { cls := .type "tuple", data := .seq #[.str (Str.ofString "v") tj, .ref x2, .int 0 ts, .ref D6] }) :: (D6, RatO (tot ds / f) t6 u6 c6) :: (lr, listOf ((#[Value.ref Du] : Array Value).push (Value.ref Dt)) (nr + 1)) :: (L + 1 + 1, oE') :: (L + 1, oM') :: R) → oM'.data = .cell (some (.ref x2)) → oE'.data = .cell (some (.ref D6)) → (∀ p ∈ R, p.1 ≠ Dt) → (∀ p ∈ R, p.1 ≠ D6) → AllLt Dt [(D6, oE'), (lr, oE'), (L + 1 + 1, oE'), (L + 1, oE')] → AllNe D6 [(lr, oE'), (L + 1 + 1, oE'), (L + 1, oE')] → Q .next { s with heap := h', toks := tk' }) :
    wpAny (model Challenge.rw_ui0509_16.row.prog w) ((ktrTop dp un gd cn cs L0 a ccd cl outer).deeper (envOfC (Str.ofString "count_days") HD.fs34.1 L fa cdv)) (execs (forB (HD.nth HD.fb34.1 4)) (envOfC (Str.ofString "count_days") HD.fs34.1 L fa cdv)) Q E s := by
  w_top off
  revert X; k_fill; intro X
  dsimp only [forB, HD.nth, HD.fb34, HD.fs34]
  k_steps
  rename_i F9 N9 off9 ne9 hv9 hx9
  refine LCg.CompEnd.intro F9 N9 _ (fun _ h => h) off9 (.inr ⟨_, cS9, rfl, _, rfl⟩) (LCt.CompRestT.zero ?_)
  intro DC h8 tk8 F8 N8 off8
  clear N9 F9 off9 ne9 hv9 hx9
  k_steps
  unfold Hold
  (rename News _ _ _ _ => N8a)
  (rename Fr _ _ _ _ => F8a)
  obtain ⟨_, e9, N1⟩ := news_as N8a (l := (lr, _) :: (L + 1 + 1, oE) :: (L + 1, _) :: R) (fun p hp => cC9 hp)
  subst e9
  clear N8a
  k_dflt (refine' dh_w (z := z) (dvs := dvs) (ds := ds) (ndl := ndl) ?k1_u8 ?k2_u8 ?k3_u8 ?k4_u8 ?k5_u8 ?k6_u8 ?hn_u8 ?lpd_u8 ?hpd_u8 ?lcd_u8 ?hcd_u8 ?hdv_u8 ?hdb_u8 ?hdl_u8 ?k7_u8 ?k8_u8 ?_)
  case k1_u8 | k2_u8 | k3_u8 | k4_u8 | k5_u8 => k_asm
  case k6_u8 => first | exact rfl | assumption
  case k7_u8 => ktr_room
  case k8_u8 => ktr_units
  case hn_u8 => exact fun p hp => ((by walk_at "sx") : ∀ p ∈ R, p ∈ _) p (hn p hp)
  case lpd_u8 => exact lpd
  case hpd_u8 => exact hpd
  case lcd_u8 => exact lcd
  case hcd_u8 => exact hcd
  case hdv_u8 => exact hdv.mono fun v r x => x.keeps (Fr.keep (by k_asm))
  case hdb_u8 => exact hdb
  case hdl_u8 => exact hdl

  intro D5 t5 u5 c5 h5 tk5 b5 F5 N5 l5
  replace l5 := allNe_of l5
  clear N1 F8a
  k_steps
  unfold Hold
  k_dflt (refine' over_k (r1 := tot ds) (r2 := f) ?k1_u9 ?k2_u9 ?k3_u9 ?k4_u9 ?k5_u9 ?k6_u9 ?e1_u9 ?e2_u9 ?k7_u9 ?k8_u9 ?f1_u9 ?f2_u9 ?hz_u9 ?h9_u9 ?fr_u9 ?_)
  case k1_u9 | k2_u9 | k3_u9 | k4_u9 | k5_u9 => k_asm
  case k6_u9 => first | exact rfl | assumption
  case k7_u9 => ktr_room
  case k8_u9 => ktr_units
  case e1_u9 => exact N5.get (by k_mem)
  case e2_u9 => exact Fr.keep (by k_asm) _ _ ef
  case f1_u9 => exact b5.fitsR (by decide)
  case f2_u9 => exact ff
  case hz_u9 => exact hf0
  case h9_u9 => exact hl9
  case fr_u9 => exact fe

  intro D6 t6 u6 c6 h6 tk6 F6 N6 l6
  replace l6 := allNe_of l6
  clear N5 F5
  k_steps
  unfold Hold
  rename_i D7 t7 u7 c7 h7 tk7 F7 N7 l7
  k_dflt (refine' less_r (D1 := D7) (D2 := D6) (r1 := ((5000 - 1 : Int) : Rat)) (r2 := tot ds / f) (n := 64) (k := 6645) ?k1_u7 ?k2_u7 ?k3_u7 ?k4_u7 ?k5_u7 ?k6_u7 ?m1_u7 ?m2_u7 ?k7_u7 ?k8_u7 ?b1_u7 ?b2_u7 ?hb_u7 ?_)
  case k1_u7 | k2_u7 | k3_u7 | k4_u7 | k5_u7 => k_asm
  case k6_u7 => first | exact rfl | assumption
  case k7_u7 => ktr_room
  case k8_u7 => ktr_units
  case m1_u7 => exact N7.get (by k_mem : (D7, T2 (5000 - 1) 1 t7 u7 c7) ∈ _)
  case m2_u7 => exact N7.get (by k_mem)
  case b1_u7 => exact Bd.int (by decide) (by decide)
  case b2_u7 => exact ⟨bits_fits fe.num, bits_fits fe.den⟩
  case hb_u7 => decide

  intro h8 tk8 F8 N8
  clear N7 F7
  k_steps
  rename_i Dt hA lD hB FZ NZ
  obtain ⟨_, e9, NZ2⟩ := news_as NZ (l := (Dt, _) :: (D6, RatO (tot ds / f) t6 u6 c6) :: (lr, _) :: (L + 1 + 1, _) :: (L + 1, _) :: R) (fcons (by k_mem) (fcons (by k_mem) (fcons (by k_mem) (fcons (by k_mem) (fcons (by k_mem) (by walk_at "sx"))))))
  subst e9
  exact hret Dt D6 _ _ _ _ _ _ _ _ _ FZ ⟨rfl, rfl, rfl, rfl, rfl, rfl⟩ NZ2 (by assumption) (by assumption) (fun p hp => allLt_mem lD p (((by walk_at "sx") : ∀ p ∈ R, p ∈ _) p hp)) (fun p hp => allNe_mem l6 p (((by walk_at "sx") : ∀ p ∈ R, p ∈ _) p hp)) ⟨ltK lD (by k_mem), ltK lD (by k_mem), ltK lD (by k_mem), ltK lD (by k_mem), trivial⟩ ⟨apL l6 (by k_mem), apL l6 (by k_mem), apL l6 (by k_mem), trivial⟩
end
theorem fit9_one {x : Int} (h : Fits x) : Fit9 (x * 1) := by
  rw [Int.mul_one]
  exact Fit9.of (bits_fits h) (by decide)
theorem fit9_one' {x : Int} (h : Fits x) : Fit9 (1 * x) := by
  rw [Int.one_mul]
  exact Fit9.of (bits_fits h) (by decide)
section
local macro_rules | `(tactic| k_lt $h:ident) => `(tactic| replace $h:ident := allLt_of $h)
theorem words19 : True := by
  k_with_none
  k_with "k_in" => (refine' in_of ?z4fF ?z4fX; (case z4fF | z4fX => k_asm))
  k_with "k_mem" => (first | with_reducible assumption | (refine cC9 ?_; k_mem))
  k_with "subscriptTail Name Name ref str" => (k_here; (with_reducible show wpAny _ _ (subscriptTail _ _ (Value.ref _) (Value.str _ _)) _ _ _); k_dflt (refine' kda_item (knd := PySem.strKind _ _) ?z52N ?z52hp ?z52hd (strKind_is _ _ _ _) ?z52hl ?_; (case z52N => k_asm); (case z52hp => k_mem); (case z52hd => with_reducible assumption); (case z52hl => rfl); k_whole); (try dsimp only))
  k_with "compareOp Is ref ref" => (k_here; (with_reducible show wpAny _ _ (compareOp CmpOp.Is (Value.ref _) (Value.ref _)) _ _ _); k_dflt (refine' kto_is ?z53a ?z53b ?z53n ?z53c ?_; (case z53n => assumption); (case z53a | z53b => refine' kto_N ?z53N ?z53m; (case z53N => k_asm); (case z53m => k_mem)); (case z53c => kto_not); k_whole))
  k_with "hat9" => (first | exact News.get (by k_asm) (by k_mem) | exact Fr.keep (by k_asm) _ _ (by with_reducible assumption) | exact Tk.get (by k_asm) (by k_asm) (by with_reducible assumption) (by walk_at "st") | exact Frag.In.keeps (by k_asm) (Fr.keep (by k_asm)) _ _ (by k_is))
  k_with "call ref" => (k_here; (with_reducible show wpAny _ _ (call (Value.ref 108) [Value.ref _, Value.ref _]) _ _ _); k_dflt (refine' over_r ?z54k1 ?z54k2 ?z54k3 ?z54k4 ?z54k5 ?z54k6 ?z54m1 ?z54m2 ?z54k7 ?z54k8 ?z54b1 ?z54b2 ?z54hz ?z54hb ?_; (case z54k1 | z54k2 | z54k3 | z54k4 | z54k5 => k_asm); (case z54k6 => first | exact rfl | assumption); (case z54k7 => first | exact Nat.le_of_ble_eq_true rfl | ktr_room); (case z54k8 => first | exact Nat.le_of_ble_eq_true rfl | ktr_units); (case z54m1 | z54m2 => (walk_at "hat9")); (case z54b1 | z54b2 => with_reducible assumption); (case z54hb => first | assumption | omega | decide); (case z54hz => first | assumption | grind); k_whole); walk_at "i8"; (try k_sweep))
  k_with "call ref" => (k_here; (with_reducible show wpAny _ _ (call (Value.ref 87) [Value.ref _, Value.ref _]) _ _ _); k_dflt (refine' plus_r ?z55k1 ?z55k2 ?z55k3 ?z55k4 ?z55k5 ?z55k6 ?z55m1 ?z55m2 ?z55k7 ?z55k8 ?z55b1 ?z55b2 ?z55hb ?_; (case z55k1 | z55k2 | z55k3 | z55k4 | z55k5 => k_asm); (case z55k6 => first | exact rfl | assumption); (case z55k7 => first | exact Nat.le_of_ble_eq_true rfl | ktr_room); (case z55k8 => first | exact Nat.le_of_ble_eq_true rfl | ktr_units); (case z55m1 | z55m2 => (walk_at "hat9")); (case z55b1 | z55b2 => with_reducible assumption); (case z55hb => first | assumption | omega | decide); k_whole); walk_at "i8"; (try k_sweep))
  k_with "call ref" => (k_here; (with_reducible show wpAny _ _ (call (Value.ref 101) [Value.ref _, Value.ref _]) _ _ _); k_dflt (refine' times_r ?z56k1 ?z56k2 ?z56k3 ?z56k4 ?z56k5 ?z56k6 ?z56m1 ?z56m2 ?z56k7 ?z56k8 ?z56b1 ?z56b2 ?z56hb ?_; (case z56k1 | z56k2 | z56k3 | z56k4 | z56k5 => k_asm); (case z56k6 => first | exact rfl | assumption); (case z56k7 => first | exact Nat.le_of_ble_eq_true rfl | ktr_room); (case z56k8 => first | exact Nat.le_of_ble_eq_true rfl | ktr_units); (case z56m1 | z56m2 => (walk_at "hat9")); (case z56b1 | z56b2 => with_reducible assumption); (case z56hb => first | assumption | omega | decide); k_whole); walk_at "i8"; (try k_sweep))
  k_with "k_ne" => (refine neN ?_; (try dsimp only); first | with_reducible assumption | exact Ne.symm (by with_reducible assumption) | exact apL (by with_reducible assumption) (by k_mem) | exact (apL (by with_reducible assumption) (by k_mem)).symm | exact apLt (by with_reducible assumption) (by k_mem) | exact (apLt (by with_reducible assumption) (by k_mem)).symm)
  k_with "k_all" => (first | with_reducible assumption | exact List.forall_mem_nil _ | (refine fcons (?_) (?_) <;> first | k_ne | k_all) | exact allLt_mem (by with_reducible assumption))
  k_with "bits_by_make" => (with_reducible assumption)
  k_with "call ref" => (k_here; (with_reducible show wpAny _ _ (call (Value.ref 72) [Value.int _ _, Value.int _ _]) _ _ _); k_dflt (refine' frac_use ?z57k1 ?z57k2 ?z57k3 ?z57k4 ?z57k5 ?z57k6 ?z57k7 ?z57k8 ?z57k9 ?z57k10 ?z57k11 ?z57k12 ?z57k13 ?_; (case z57k1 | z57k2 | z57k3 | z57k4 | z57k5 => k_asm); (case z57k6 => first | exact rfl | assumption); (case z57k7 => first | exact Nat.le_of_ble_eq_true rfl | ktr_room); (case z57k8 => first | exact Nat.le_of_ble_eq_true rfl | ktr_units); (case z57k10 | z57k11 => bits_by_make); (case z57k12 | z57k13 => decide); (case z57k9 => first | exact nzden _ | omega | ((try k_fmods); omega) | (refine nzmul ?_ ?_ <;> first | exact nzden _ | omega)); k_whole); walk_at "i9"; (try k_sweep))
  k_with "call ref" => (k_here; (with_reducible show wpAny _ _ (call (Value.ref 72) [Value.int _ _, Value.int 1 _]) _ _ _); k_dflt (refine' frac_one ?z58k1 ?z58k2 ?z58k3 ?z58k4 ?z58k5 ?z58k6 ?z58k7 ?z58k8 ?z58k10 ?z58k12 ?_; (case z58k1 | z58k2 | z58k3 | z58k4 | z58k5 => k_asm); (case z58k6 => first | exact rfl | assumption); (case z58k7 => first | exact Nat.le_of_ble_eq_true rfl | ktr_room); (case z58k8 => first | exact Nat.le_of_ble_eq_true rfl | ktr_units); (case z58k10 => bits_by_make); (case z58k12 => decide); k_whole); walk_at "i10"; (try k_sweep))
  k_with "call ref" => (k_here; (with_reducible show wpAny _ _ (call (Value.ref 72) [Value.int _ _]) _ _ _); k_dflt (refine' frac_dflt ?z59k1 ?z59k2 ?z59k3 ?z59k4 ?z59k5 ?z59k6 ?z59k7 ?z59k8 ?z59k10 ?z59k12 ?_; (case z59k1 | z59k2 | z59k3 | z59k4 | z59k5 => k_asm); (case z59k6 => first | exact rfl | assumption); (case z59k7 => first | exact Nat.le_of_ble_eq_true rfl | ktr_room); (case z59k8 => first | exact Nat.le_of_ble_eq_true rfl | ktr_units); (case z59k10 => bits_by_make); (case z59k12 => decide); k_whole); walk_at "i10"; (try k_sweep))
  k_with "call ref" => (k_here; (with_reducible show wpAny _ _ (call (Value.ref 41) [Value.int _ _, Value.int _ _, Value.int _ _, Value.str _ _]) _ _ _); k_dflt (refine' need_number_c ?z60k1 ?z60k2 ?z60k3 ?z60k4 ?z60k5 ?z60k6 ?z60h1 ?z60h2 ?z60k7 ?_; (case z60k1 | z60k2 | z60k3 | z60k4 | z60k5 => k_asm); (case z60k6 => first | exact rfl | assumption); (case z60k7 => first | exact Nat.le_of_ble_eq_true rfl | ktr_room); (case z60h1 | z60h2 => first | decide | assumption | omega); k_whole); walk_at "i3"; (try k_sweep))
  k_with "exec For Name Name cons nil" => ((with_reducible show wpAny _ _ (exec (Stmt.For (Expr.Name _ _) (Expr.Name _ _) _ _ _) _) _ _ _); refine Hold.out ?_)
  k_with "call ref" => (k_here; (with_reducible show wpAny _ _ (call (Value.ref 335) _ _) _ _ _); refine Hold.out ?_)
  k_with "call ref" => (k_here; (with_reducible show wpAny _ _ (call (Value.ref 115) _ _) _ _ _); refine Hold.out ?_)
  k_with "call ref" => (k_here; (with_reducible show wpAny _ _ (call (Value.ref 108) _ _) _ _ _); refine Hold.out ?_)
  k_with "eval Name" => (k_here; k_dflt (refine' nameX_L ?z61k1 ?z61k2 ?_ ?z61k3 ?z61k4; (case z61k1 => k_asm); (case z61k3 | z61k4 => rfl); (case z61k2 => first | exact rfl | assumption); k_whole))
  k_with "eval ListComp" => (k_here; lcg_look; k_dflt (refine LCg.ListComp_U (F₀ := by k_asm) (by rfl) (by decide) (by rfl) (by decide) (by rfl) ?_); k_dflt lcg_toSrc)
  k_with "eval ListComp" => (k_here; lcf_look; k_dflt (refine LCg.ListComp_U (F₀ := by k_asm) (by with_unfolding_all rfl) (by decide) (by rfl) (by decide) (by rfl) ?_); k_dflt lcg_toSrc)
  k_with "exec Assign cons ListComp" => (k_here; lcg_look; k_dflt (refine LCg.Assign_ListComp_U (F₀ := by k_asm) (by rfl) (by with_unfolding_all rfl) (by rfl) (by decide) (by rfl) (by decide) (by rfl) (by rfl) (by rfl) ?_); k_dflt lcg_toSrc)
  k_with "exec Assign cons ListComp" => (k_here; lcf_look; k_dflt (refine LCg.Assign_ListComp_U (F₀ := by k_asm) (by rfl) (by with_unfolding_all rfl) (by with_unfolding_all rfl) (by decide) (by rfl) (by decide) (by rfl) (by rfl) (by rfl) ?_); k_dflt lcg_toSrc)
  k_with "CompSrc" => (refine Hold.out ?_)
  k_with "CompEnd" => (show LCg.CompEnd _ _ _ _ _ _ _ _ _ _ _ _ _ _; refine Hold.out ?_)
  k_with "size_fits" => (rw [sizeLine_eq]; omega)
  k_with "k_all" => (refine List.forall_mem_append.mpr ⟨?_, ?_⟩ <;> k_all)
  k_with "call ref" => (k_here; (with_reducible show wpAny _ _ (call (Value.ref 101) _ _) _ _ _); refine Hold.out ?_)
  k_with "call ref" => (k_here; (with_reducible show wpAny _ _ (call (Value.ref 87) _ _) _ _ _); refine Hold.out ?_)
  trivial
theorem turnB {w : World} {a : Addr} {base h₀ : Heap} {L0 L fa : Addr} {cdv : Value} {m : Str → Option Value} {s : Shared} {Q : Flow → Shared → Prop} {E : Value → Shared → Prop} {x d l Df lc D6 : Addr} {j1 j2 j3 j4 j5 j6 tn t6 u6 : Tok} {nm : Value} {nc n c6 : Nat} {e : Rat} {ca : Array Value} {oM oE : Obj} {R : List (Addr × Obj)} 
    (B : Below (ktrTop dp un gd cn cs L0 a ccd cl outer) base (envX cn cs L0 a ccd cl :: outer) h₀) (X : (HD.K w.params).In h₀) (T : Top p loose mean mg mb h₀) (hd : dp + 20 < recursionLimit) (hu : un + 900 < cLine) (F : Fr h₀ L s.heap m) (N : News h₀ L s.heap ((lc, listOf ca nc) :: (L + 1 + 1, oE) :: (L + 1, oM) :: R)) (qM : oM.data = .cell (some (.ref x))) (qE : oE.data = .cell (some (.ref D6)))
    (ex : (x, instObj 393 d) ∈ R) (ed : (d, meterD w.params j1 j2 j3 j4 j5 nm (.int 5000 j6) (.ref Df) (.ref l) (.ref 56)) ∈ R) (e6 : (D6, RatO e t6 u6 c6) ∈ R) (fe : FitsR e) (hF : ∀ j : Nat, j < n → FitsR (e * ((1 + (j : Int) : Int) : Rat))) (hn1 : 1 ≤ n) (hn2 : n ≤ 100)
    (aR : ∀ p ∈ R, p.1 ≠ lc) (a1 : ∀ p ∈ R, p.1 ≠ L + 1) (a2 : ∀ p ∈ R, p.1 ≠ L + 1 + 1) (lt1 : AllLt lc [(L + 1 + 1, oE), (L + 1, oM)]) (lt2 : AllLt (L + 1 + 1) [(L + 1, oM)]) (hca : ca.size ≤ 8)
    (n_counted : m (Str.ofString "counted") = some (.ref lc)) (n_days : m (Str.ofString "days") = some (.int (n : Int) tn))
    (hret : ∀ (TL : Addr) (ys : List Value) (tl : List (Addr × Obj)) (h' : Heap) (tk' : Nat), Fr h₀ L h' m → News h₀ L h' ((TL, LCg.lst ys) :: (lc, listOf (ca.push (Value.ref TL)) (nc + 1)) :: (L + 1 + 1, oE) :: (L + 1, oM) :: (R ++ tl)) → All2 (RatN (Led tl)) ys ((List.range n).map fun j : Nat => (0 + e * ((1 + (j : Int) : Int) : Rat))) → (∀ p ∈ tl, p.1 ≠ lc) → (∀ p ∈ tl, p.1 ≠ L + 1) → (∀ p ∈ tl, p.1 ≠ L + 1 + 1) → (∀ q ∈ tl, ∀ p ∈ R, q.1 ≠ p.1) → AllNe TL [(lc, oE), (L + 1 + 1, oE), (L + 1, oE)] → (∀ p ∈ R ++ tl, p.1 ≠ TL) → Q .next { s with heap := h', toks := tk' }) :
    wpAny (model Challenge.rw_ui0509_16.row.prog w) ((ktrTop dp un gd cn cs L0 a ccd cl outer).deeper (envOfC (Str.ofString "count_days") HD.fs34.1 L fa cdv)) (execs (forB (HD.nth HD.fb34.1 6)) (envOfC (Str.ofString "count_days") HD.fs34.1 L fa cdv)) Q E s := by
  w_top off
  revert X; k_fill; intro X
  dsimp only [forB, HD.nth, HD.fb34, HD.fs34]
  k_steps
  unfold Hold
  (rename News _ _ _ _ => NN9)
  (rename IsRange _ _ _ _ _ _ _ _ => hRg)
  obtain ⟨LE, eLE, NL⟩ := name_led NN9
  clear NN9
  refine LCg.CompSrc.range (n := n) rfl (by k_asm) NL hRg (small_one (by omega) (by omega) (by omega) (by omega)) (rsize (by omega)) (by rw [sizeLine_eq]; omega) (fun g9 => ?_)
  refine comp_ind (fun i ys nx => ∃ tl, nx = LE ++ tl ∧ All2 (RatN (Led tl)) ys ((List.range i).map fun j : Nat => (0 + e * ((1 + (j : Int) : Int) : Rat))) ∧ ∀ q ∈ LE, ∀ p ∈ tl, p.1 ≠ q.1) ?turn1 ?fin1 _ 0 [] _ (Nat.zero_add _) ⟨[], (List.append_nil _).symm, .nil, fun _ _ _ h => nomatch h⟩
  case turn1 =>
    intro i v9 I oI C oC D9 m2 h tk E' ys nx hi hJ hPv hC hx Fm Nn off ne
    obtain ⟨tl, rfl, hys, hoff⟩ := hJ
    obtain ⟨t9, rfl⟩ := hPv
    have hstep : ((List.range (i + 1)).map fun j : Nat => (0 + e * ((1 + (j : Int) : Int) : Rat))) = ((List.range i).map fun j : Nat => (0 + e * ((1 + (j : Int) : Int) : Rat))) ++ [(0 + e * ((1 + (i : Int) : Int) : Rat))] := by rw [List.range_succ, List.map_append]; rfl
    have hbk : Builtin.Int.intBits (1 + (i : Int)) ≤ 64 := PySem.intBits_le_64 (by omega) (by omega)
    rw [eLE] at Nn
    (try dsimp only [List.cons_append, List.nil_append] at Nn)
    clear NL hRg
    k_steps
    unfold Hold
    rename_i Dk tk9 uk ck hk9 tkk Fk Nk lk
    have hFi := hF i hi
    k_dflt (refine' times_k (D1 := D6) (D2 := Dk) (r1 := e) (r2 := ((1 + (i : Int) : Int) : Rat)) ?k1_u4 ?k2_u4 ?k3_u4 ?k4_u4 ?k5_u4 ?k6_u4 ?e1_u4 ?e2_u4 ?k7_u4 ?k8_u4 ?f1_u4 ?f2_u4 ?h9_u4 ?fr_u4 ?_)
    case k1_u4 | k2_u4 | k3_u4 | k4_u4 | k5_u4 => k_asm
    case k6_u4 => first | exact rfl | assumption
    case k7_u4 => ktr_room
    case k8_u4 => ktr_units
    case e1_u4 => exact Nk.get (((by walk_at "sx") : ∀ p ∈ R, p ∈ _) _ e6)
    case e2_u4 => exact Nk.get (by k_mem : (Dk, T2 (1 + (i : Int)) 1 tk9 uk ck) ∈ _)
    case f1_u4 => exact fe
    case f2_u4 => exact (Bd.int hbk (by decide)).fitsR (by decide)
    case h9_u4 => exact fit9_one fe.den
    case fr_u4 => exact hFi

    intro Dt2 tt ut ct ht tkt Ft Nt lt
    clear Nk Fk
    k_steps
    unfold Hold
    k_dflt (refine' plus_k (D1 := 56) (D2 := Dt2) (r1 := 0) (r2 := e * ((1 + (i : Int) : Int) : Rat)) ?k1_u5 ?k2_u5 ?k3_u5 ?k4_u5 ?k5_u5 ?k6_u5 ?e1_u5 ?e2_u5 ?k7_u5 ?k8_u5 ?f1_u5 ?f2_u5 ?h9_u5 ?fr_u5 ?_)
    case k1_u5 | k2_u5 | k3_u5 | k4_u5 | k5_u5 => k_asm
    case k6_u5 => first | exact rfl | assumption
    case k7_u5 => ktr_room
    case k8_u5 => ktr_units
    case e1_u5 => exact Frag.In.keeps (by k_asm) (Fr.keep (by k_asm)) _ _ (by k_is)
    case e2_u5 => exact Nt.get (by k_mem)
    case f1_u5 => exact (Bd.zero (by decide) : Bd 1 0).fitsR (by decide)
    case f2_u5 => exact hFi
    case h9_u5 => exact fit9_one' hFi.den
    case fr_u5 => rw [Rat.zero_add]; exact hFi

    intro Dq tq uq cq hq tkq Fq Nq lq
    clear Nt Ft
    k_steps
    unfold Hold
    refine comp_end Fq Nq (LE ++ (Dq, RatO (0 + e * ((1 + (i : Int) : Int) : Rat)) tq uq cq) :: tl) (by rw [eLE]; exact sub_mid3) (off3_mid (LE := LE) off (lq (I, oI) (by k_mem)).symm (lq (C, oC) (by k_mem)).symm (lq (D9, _) (by k_mem)).symm) trivial ⟨(Dq, RatO (0 + e * ((1 + (i : Int) : Int) : Rat)) tq uq cq) :: tl, rfl, ?y1, ?o1⟩
    case y1 => rw [hstep]; exact (hys.mono fun _ _ y => y.mono fun _ _ e => cC9 e).snoc (rat_new cS9)
    case o1 => exact fun q hq => fcons (fun e => lq q (by rw [eLE] at hq; exact sub_le3 q hq) e.symm) (hoff q hq)
  case fin1 =>
    intro ys nx hJ TL h tk Fm Nn off
    obtain ⟨tl, rfl, hys, hoff⟩ := hJ
    have offA := allNe_of (off1_mem off)
    rw [eLE] at Nn hoff offA
    (try dsimp only [List.cons_append, List.nil_append] at Nn offA)
    have htl := hoff (lc, _) (by k_mem)
    have ht1 := hoff (L + 1, _) (by k_mem)
    have ht2 := hoff (L + 1 + 1, _) (by k_mem)
    dsimp only at htl ht1 ht2
    clear NL hRg off
    k_steps
    rename_i hA FZ NZ
    exact hret TL ys tl _ _ FZ NZ hys htl ht1 ht2 (fun q hq p hp => hoff p (cC9 (cC9 (cC9 hp))) q hq) ⟨apL offA (by k_mem), apL offA (by k_mem), apL offA (by k_mem), trivial⟩ (fun p hp => allNe_mem offA p (((by walk_at "sx") : ∀ p ∈ R ++ tl, p ∈ _) p hp))
end
def fl (r : Rat) : Int := r.num.fdiv (r.den : Int)
def cRow (tu day start : Int) (re each : Rat) (i : Int) : MRow := (day + i, (start + fl (re + each * (i : Rat))).fmod tu, none)
def cRows (tu day start : Int) (re each : Rat) (n : Nat) : List MRow := (List.range n).map fun i : Nat => cRow tu day start re each (1 + (i : Int))
theorem cRows_snoc {tu day start : Int} {re each : Rat} {n : Nat} : cRows tu day start re each (n + 1) = cRows tu day start re each n ++ [cRow tu day start re each (1 + (n : Int))] := by
  unfold cRows; rw [List.range_succ, List.map_append]; rfl
theorem cRows_len {tu day start : Int} {re each : Rat} {n : Nat} : (cRows tu day start re each n).length = n := by simp [cRows]
theorem fits_lt {x y : Int} (h : Fits y) (h0 : 0 ≤ x) (h1 : x < y) : Fits x := by
  unfold Fits at *
  generalize (10 : Nat) ^ 2000 = P at *
  omega
end Mine
open Mine
local macro_rules | `(tactic| walk_at "i11") => `(tactic| (intro v' v0' v1' vE'))
namespace Mine
section
local macro_rules | `(tactic| k_lt $h:ident) => `(tactic| replace $h:ident := allLt_of $h)
theorem words20 : True := by
  k_with_none
  k_with "k_in" => (refine' in_of ?z4fF ?z4fX; (case z4fF | z4fX => k_asm))
  k_with "subscriptTail Name Name ref str" => (k_here; (with_reducible show wpAny _ _ (subscriptTail _ _ (Value.ref _) (Value.str _ _)) _ _ _); k_dflt (refine' kda_item (knd := PySem.strKind _ _) ?z62N ?z62hp ?z62hd (strKind_is _ _ _ _) ?z62hl ?_; (case z62N => k_asm); (case z62hp => k_mem); (case z62hd => with_reducible assumption); (case z62hl => rfl); k_whole); (try dsimp only))
  k_with "compareOp Is ref ref" => (k_here; (with_reducible show wpAny _ _ (compareOp CmpOp.Is (Value.ref _) (Value.ref _)) _ _ _); k_dflt (refine' kto_is ?z63a ?z63b ?z63n ?z63c ?_; (case z63n => assumption); (case z63a | z63b => refine' kto_N ?z63N ?z63m; (case z63N => k_asm); (case z63m => k_mem)); (case z63c => kto_not); k_whole))
  k_with "hat9" => (first | exact News.get (by k_asm) (by k_mem) | exact Fr.keep (by k_asm) _ _ (by with_reducible assumption) | exact Tk.get (by k_asm) (by k_asm) (by with_reducible assumption) (by walk_at "st") | exact Frag.In.keeps (by k_asm) (Fr.keep (by k_asm)) _ _ (by k_is))
  k_with "call ref" => (k_here; (with_reducible show wpAny _ _ (call (Value.ref 108) [Value.ref _, Value.ref _]) _ _ _); k_dflt (refine' over_r ?z64k1 ?z64k2 ?z64k3 ?z64k4 ?z64k5 ?z64k6 ?z64m1 ?z64m2 ?z64k7 ?z64k8 ?z64b1 ?z64b2 ?z64hz ?z64hb ?_; (case z64k1 | z64k2 | z64k3 | z64k4 | z64k5 => k_asm); (case z64k6 => first | exact rfl | assumption); (case z64k7 => first | exact Nat.le_of_ble_eq_true rfl | ktr_room); (case z64k8 => first | exact Nat.le_of_ble_eq_true rfl | ktr_units); (case z64m1 | z64m2 => (walk_at "hat9")); (case z64b1 | z64b2 => with_reducible assumption); (case z64hb => first | assumption | omega | decide); (case z64hz => first | assumption | grind); k_whole); walk_at "i8"; (try k_sweep))
  k_with "call ref" => (k_here; (with_reducible show wpAny _ _ (call (Value.ref 87) [Value.ref _, Value.ref _]) _ _ _); k_dflt (refine' plus_r ?z65k1 ?z65k2 ?z65k3 ?z65k4 ?z65k5 ?z65k6 ?z65m1 ?z65m2 ?z65k7 ?z65k8 ?z65b1 ?z65b2 ?z65hb ?_; (case z65k1 | z65k2 | z65k3 | z65k4 | z65k5 => k_asm); (case z65k6 => first | exact rfl | assumption); (case z65k7 => first | exact Nat.le_of_ble_eq_true rfl | ktr_room); (case z65k8 => first | exact Nat.le_of_ble_eq_true rfl | ktr_units); (case z65m1 | z65m2 => (walk_at "hat9")); (case z65b1 | z65b2 => with_reducible assumption); (case z65hb => first | assumption | omega | decide); k_whole); walk_at "i8"; (try k_sweep))
  k_with "call ref" => (k_here; (with_reducible show wpAny _ _ (call (Value.ref 101) [Value.ref _, Value.ref _]) _ _ _); k_dflt (refine' times_r ?z66k1 ?z66k2 ?z66k3 ?z66k4 ?z66k5 ?z66k6 ?z66m1 ?z66m2 ?z66k7 ?z66k8 ?z66b1 ?z66b2 ?z66hb ?_; (case z66k1 | z66k2 | z66k3 | z66k4 | z66k5 => k_asm); (case z66k6 => first | exact rfl | assumption); (case z66k7 => first | exact Nat.le_of_ble_eq_true rfl | ktr_room); (case z66k8 => first | exact Nat.le_of_ble_eq_true rfl | ktr_units); (case z66m1 | z66m2 => (walk_at "hat9")); (case z66b1 | z66b2 => with_reducible assumption); (case z66hb => first | assumption | omega | decide); k_whole); walk_at "i8"; (try k_sweep))
  k_with "k_ne" => (refine neN ?_; (try dsimp only); first | with_reducible assumption | exact Ne.symm (by with_reducible assumption) | exact apL (by with_reducible assumption) (by k_mem) | exact (apL (by with_reducible assumption) (by k_mem)).symm | exact apLt (by with_reducible assumption) (by k_mem) | exact (apLt (by with_reducible assumption) (by k_mem)).symm)
  k_with "k_all" => (first | with_reducible assumption | exact List.forall_mem_nil _ | (refine fcons (?_) (?_) <;> first | k_ne | k_all) | exact allLt_mem (by with_reducible assumption))
  k_with "bits_by_make" => (with_reducible assumption)
  k_with "call ref" => (k_here; (with_reducible show wpAny _ _ (call (Value.ref 72) [Value.int _ _, Value.int _ _]) _ _ _); k_dflt (refine' frac_use ?z67k1 ?z67k2 ?z67k3 ?z67k4 ?z67k5 ?z67k6 ?z67k7 ?z67k8 ?z67k9 ?z67k10 ?z67k11 ?z67k12 ?z67k13 ?_; (case z67k1 | z67k2 | z67k3 | z67k4 | z67k5 => k_asm); (case z67k6 => first | exact rfl | assumption); (case z67k7 => first | exact Nat.le_of_ble_eq_true rfl | ktr_room); (case z67k8 => first | exact Nat.le_of_ble_eq_true rfl | ktr_units); (case z67k10 | z67k11 => bits_by_make); (case z67k12 | z67k13 => decide); (case z67k9 => first | exact nzden _ | omega | ((try k_fmods); omega) | (refine nzmul ?_ ?_ <;> first | exact nzden _ | omega)); k_whole); walk_at "i9"; (try k_sweep))
  k_with "call ref" => (k_here; (with_reducible show wpAny _ _ (call (Value.ref 72) [Value.int _ _, Value.int 1 _]) _ _ _); k_dflt (refine' frac_one ?z68k1 ?z68k2 ?z68k3 ?z68k4 ?z68k5 ?z68k6 ?z68k7 ?z68k8 ?z68k10 ?z68k12 ?_; (case z68k1 | z68k2 | z68k3 | z68k4 | z68k5 => k_asm); (case z68k6 => first | exact rfl | assumption); (case z68k7 => first | exact Nat.le_of_ble_eq_true rfl | ktr_room); (case z68k8 => first | exact Nat.le_of_ble_eq_true rfl | ktr_units); (case z68k10 => bits_by_make); (case z68k12 => decide); k_whole); walk_at "i10"; (try k_sweep))
  k_with "call ref" => (k_here; (with_reducible show wpAny _ _ (call (Value.ref 72) [Value.int _ _]) _ _ _); k_dflt (refine' frac_dflt ?z69k1 ?z69k2 ?z69k3 ?z69k4 ?z69k5 ?z69k6 ?z69k7 ?z69k8 ?z69k10 ?z69k12 ?_; (case z69k1 | z69k2 | z69k3 | z69k4 | z69k5 => k_asm); (case z69k6 => first | exact rfl | assumption); (case z69k7 => first | exact Nat.le_of_ble_eq_true rfl | ktr_room); (case z69k8 => first | exact Nat.le_of_ble_eq_true rfl | ktr_units); (case z69k10 => bits_by_make); (case z69k12 => decide); k_whole); walk_at "i10"; (try k_sweep))
  k_with "call ref" => (k_here; (with_reducible show wpAny _ _ (call (Value.ref 41) [Value.int _ _, Value.int _ _, Value.int _ _, Value.str _ _]) _ _ _); k_dflt (refine' need_number_c ?z70k1 ?z70k2 ?z70k3 ?z70k4 ?z70k5 ?z70k6 ?z70h1 ?z70h2 ?z70k7 ?_; (case z70k1 | z70k2 | z70k3 | z70k4 | z70k5 => k_asm); (case z70k6 => first | exact rfl | assumption); (case z70k7 => first | exact Nat.le_of_ble_eq_true rfl | ktr_room); (case z70h1 | z70h2 => first | decide | assumption | omega); k_whole); walk_at "i3"; (try k_sweep))
  k_with "exec For Name Name cons nil" => ((with_reducible show wpAny _ _ (exec (Stmt.For (Expr.Name _ _) (Expr.Name _ _) _ _ _) _) _ _ _); refine Hold.out ?_)
  k_with "call ref" => (k_here; (with_reducible show wpAny _ _ (call (Value.ref 335) _ _) _ _ _); refine Hold.out ?_)
  k_with "call ref" => (k_here; (with_reducible show wpAny _ _ (call (Value.ref 115) _ _) _ _ _); refine Hold.out ?_)
  k_with "call ref" => (k_here; (with_reducible show wpAny _ _ (call (Value.ref 108) _ _) _ _ _); refine Hold.out ?_)
  k_with "eval Name" => (k_here; k_dflt (refine' nameX_L ?z71k1 ?z71k2 ?_ ?z71k3 ?z71k4; (case z71k1 => k_asm); (case z71k3 | z71k4 => rfl); (case z71k2 => first | exact rfl | assumption); k_whole))
  k_with "k_mem" => (first | with_reducible assumption | (refine aL0 ?_; with_reducible assumption) | (refine cC9 ?_; k_mem))
  k_with "call ref" => (k_here; (with_reducible show wpAny _ _ (call (Value.ref 41) [Value.int _ _, Value.int _ _, Value.int _ _, Value.str _ _]) _ _ _); k_dflt (refine' need_number_c ?z72k1 ?z72k2 ?z72k3 ?z72k4 ?z72k5 ?z72k6 ?z72h1 ?z72h2 ?z72k7 ?_; (case z72k1 | z72k2 | z72k3 | z72k4 | z72k5 => k_asm); (case z72k6 => first | exact rfl | assumption); (case z72k7 => first | exact Nat.le_of_ble_eq_true rfl | ktr_room); (case z72h1 | z72h2 => first | decide | assumption | omega); k_whole); walk_at "i3"; (try k_sweep))
  k_with "subscriptTail" => (k_here; (with_reducible show wpAny _ _ (subscriptTail _ _ (Value.ref _) (Value.int _ _)) _ _ _); k_dflt (refine' kim_back ?z73k1 ?z73k2 ?z73k3 ?z73k4 ?z73k5 ?z73k6 ?z73k7 ?z73k8 ?_ ?z73k9 ?z73k10; (case z73k1 => k_asm); (case z73k2 => k_mem); (case z73k3 | z73k4 => exact rfl); (case z73k5 => decide); (case z73k6 => exact last_le); (case z73k7 => decide); (case z73k8 => exact last_at); (case z73k9 => with_unfolding_all rfl); (case z73k10 => (intro _; with_unfolding_all rfl)); k_whole))
  k_with "subscriptTail Name UnaryOp ref int" => (k_here; (with_reducible show wpAny _ _ (subscriptTail _ _ (Value.ref _) (Value.int _ _)) _ _ _); k_dflt (refine' kim_back ?z74k1 ?z74k2 ?z74k3 ?z74k4 ?z74k5 ?z74k6 ?z74k7 ?z74k8 ?_ ?z74k9 ?z74k10; (case z74k1 => k_asm); (case z74k2 => k_mem); (case z74k3 | z74k4 => exact rfl); (case z74k5 => decide); (case z74k6 => exact last_le); (case z74k7 => decide); (case z74k8 => exact last_at); (case z74k9 => with_unfolding_all rfl); (case z74k10 => (intro _; with_unfolding_all rfl)); k_whole))
  k_with "subscriptTail Attribute" => (k_here; (with_reducible show wpAny _ _ (subscriptTail _ _ (Value.ref _) (Value.int _ _)) _ _ _); k_dflt (refine kba_turn (value' := PySem.Expr.Name (PySem.Str.ofString "_") ⟨0, 0, 0, 0⟩) (fun _ => rfl) ?_))
  k_with "subscriptTail Subscript" => (k_here; (with_reducible show wpAny _ _ (subscriptTail _ _ (Value.ref _) (Value.int _ _)) _ _ _); k_dflt (refine kba_turn (value' := PySem.Expr.Name (PySem.Str.ofString "_") ⟨0, 0, 0, 0⟩) (fun _ => rfl) ?_))
  k_with "call builtin:len" => (k_here; (with_reducible show wpAny _ _ (call (Value.builtin "len") [Value.ref _]) _ _ _); k_dflt (refine' lst_len ?z75k1 ?z75k2 ?z75k3 ?_; (case z75k1 => k_asm); (case z75k2 => k_mem); (case z75k3 => first | exact len_b (by with_reducible assumption) | exact (by decide : ([] : List Value).length < 1000000) | omega); k_whole); walk_at "i4"; (try simp only [List.length_append, List.length_cons, List.length_nil]))
  k_with "call ref" => (k_here; (with_reducible show wpAny _ _ (call (Value.ref 362) _ _) _ _ _); refine Hold.out ?_)
  k_with "subscriptTail" => (k_here; (with_reducible show wpAny _ _ (subscriptTail _ _ (Value.ref _) (Value.int _ _)) _ _ _); k_dflt (refine' tup_g ?z76k1 ?z76k2 ?z76k3 ?z76k4 ?z76k5 ?z76k6 ?z76k7 ?z76k8 ?_ ?z76k9 ?z76k10; (case z76k1 => k_asm); (case z76k2 => with_reducible assumption); (case z76k3 | z76k4 => exact rfl); (case z76k5 | z76k6 => decide); (case z76k7 | z76k8 => exact rfl); (case z76k9 => with_unfolding_all rfl); (case z76k10 => (intro _; with_unfolding_all rfl)); k_whole))
  k_with "subscriptTail Name Constant ref int" => (k_here; (with_reducible show wpAny _ _ (subscriptTail _ _ (Value.ref _) (Value.int _ _)) _ _ _); k_dflt (refine' tup_g ?z77k1 ?z77k2 ?z77k3 ?z77k4 ?z77k5 ?z77k6 ?z77k7 ?z77k8 ?_ ?z77k9 ?z77k10; (case z77k1 => k_asm); (case z77k2 => with_reducible assumption); (case z77k3 | z77k4 => exact rfl); (case z77k5 | z77k6 => decide); (case z77k7 | z77k8 => exact rfl); (case z77k9 => with_unfolding_all rfl); (case z77k10 => (intro _; with_unfolding_all rfl)); k_whole))
  k_with "exec For Name Call cons nil" => (refine Hold.out ?_)
  k_with "binaryOp Mod int int" => (k_here; (with_reducible refine mod_gen ?z78mp ?_); (case z78mp => first | decide | assumption); walk_at "i11")
  k_with "subscriptTail" => (k_here; (with_reducible show wpAny _ _ (subscriptTail _ _ (Value.ref _) (Value.int _ _)) _ _ _); k_dflt (refine' kim_list ?z79k1 ?z79k2 ?z79k3 ?z79k4 ?z79k5 ?z79k6 ?z79k7 ?_ ?z79k8 ?z79k9; (case z79k1 => k_asm); (case z79k2 => k_mem); (case z79k3 | z79k4 => exact rfl); (case z79k5 | z79k6 | z79k7 => with_reducible assumption); (case z79k8 => with_unfolding_all rfl); (case z79k9 => (intro _; with_unfolding_all rfl)); k_whole))
  k_with "subscriptTail Name BinOp ref int" => (k_here; (with_reducible show wpAny _ _ (subscriptTail _ _ (Value.ref _) (Value.int _ _)) _ _ _); k_dflt (refine' kim_list ?z80k1 ?z80k2 ?z80k3 ?z80k4 ?z80k5 ?z80k6 ?z80k7 ?_ ?z80k8 ?z80k9; (case z80k1 => k_asm); (case z80k2 => k_mem); (case z80k3 | z80k4 => exact rfl); (case z80k5 | z80k6 | z80k7 => with_reducible assumption); (case z80k8 => with_unfolding_all rfl); (case z80k9 => (intro _; with_unfolding_all rfl)); k_whole))
  k_with "subscriptTail" => (k_here; (with_reducible show wpAny _ _ (subscriptTail _ _ (Value.ref _) (Value.int _ _)) _ _ _); k_dflt (refine' tup_t ?z81k1 ?z81k0 ?z81k2 ?z81kS ?z81k3 ?z81k4 ?z81k5 ?z81k6 ?z81k7 ?z81k8 ?_ ?z81k9 ?z81k10; (case z81k1 | z81k0 => k_asm); (case z81k2 => with_reducible assumption); (case z81kS => exact (by walk_at "sx")); (case z81k3 | z81k4 => exact rfl); (case z81k5 | z81k6 => decide); (case z81k7 | z81k8 => exact rfl); (case z81k9 => with_unfolding_all rfl); (case z81k10 => (intro _; with_unfolding_all rfl)); k_whole))
  k_with "binaryOp FloorDiv int int" => (with_reducible refine floordiv_int ?z82ne ?_ (Or.inl (PyProof.noPylong_of_log2 ?z82lg)); (case z82lg | z82ne => with_reducible assumption))
  k_with "pyIter ref" => ((with_reducible show wpAny _ _ (pyIter (Value.ref _)) (fun it s₂ => TurnsAt _ _ _ _ _ _ _ _ _ it s₂) _ _); refine Hold.out ?_)
  trivial
theorem turnC_u {w : World} {a : Addr} {base h₀ : Heap} {L0 L fa : Addr} {cdv : Value} {m : Str → Option Value} {s : Shared} {Q : Flow → Shared → Prop} {E : Value → Shared → Prop} {x d l Df Do TL : Addr} {j1 j2 j3 j4 j5 j6 tn td ts tj tvu : Tok} {nm : Value} {nl n ny : Nat} {day vu : Int} {e : Rat} {oM oDo : Obj} {R : List (Addr × Obj)} {ys : List Value} 
    (B : Below (ktrTop dp un gd cn cs L0 a ccd cl outer) base (envX cn cs L0 a ccd cl :: outer) h₀) (X : (HD.K w.params).In h₀) (T : Top p loose mean mg mb h₀) (hd : dp + 20 < recursionLimit) (hu : un + 900 < cLine) (F : Fr h₀ L s.heap m) (N : News h₀ L s.heap ((Do, oDo) :: (d, meterD w.params j1 j2 j3 j4 j5 nm (.int 5000 j6) (.ref Df) (.ref l) (.ref 56)) :: (l, listOf ([] : List Value).toArray nl) :: R)) (mM : (L + 1, oM) ∈ R) (qM : oM.data = .cell (some (.ref x)))
    (ex : (x, instObj 393 d) ∈ R) (mTL : (TL, listOf ys.toArray ny) ∈ R) (hys : All2 (RatN (Led R)) ys ((List.range n).map fun j : Nat => (0 + e * ((1 + (j : Int) : Int) : Rat)))) (hF : ∀ j : Nat, j < n → FitsR (e * ((1 + (j : Int) : Int) : Rat))) (hn1 : 1 ≤ n) (hn2 : n ≤ 100) (hday : 1 ≤ day) (hday2 : day ≤ 1000)
    (hE : PassesOwn (model Challenge.rw_ui0509_16.row.prog w) ((ktrTop dp un gd cn cs L0 a ccd cl outer).deeper (envOfC (Str.ofString "count_days") HD.fs34.1 L fa cdv)) (envOfC (Str.ofString "count_days") HD.fs34.1 L fa cdv) E)
    (hDo : oDo.IsDictOf (PySem.strKind Challenge.rw_ui0509_16.row.prog w) []) (lDo : (Do == sysModules) = false)
    (aRd : ∀ p ∈ R, p.1 ≠ d) (aRl : ∀ p ∈ R, p.1 ≠ l) (aRo : ∀ p ∈ R, p.1 ≠ Do) (nld : l ≠ d) (ndo : d ≠ Do) (nlo : l ≠ Do)
    (n_told : m (Str.ofString "told") = some (.ref TL)) (n_day : m (Str.ofString "day") = some (.int day td)) (n_days : m (Str.ofString "days") = some (.int (n : Int) tn)) (n_start : m (Str.ofString "start") = some (.int 0 ts)) (n_out : m (Str.ofString "out") = some (.ref Do)) (n_name : m (Str.ofString "name") = some (.str (Str.ofString "u") tj))
    (hret : ∀ (Dr' : Addr) (oD2 : Obj) (vo : Int) (to : Tok) (n2 : Nat) (ws : List Value) (tl : List (Addr × Obj)) (h' : Heap) (tk' : Nat) (m' : Str → Option Value), Fr h₀ L h' m' → m' (Str.ofString "day") = some (.int day td) → m' (Str.ofString "days") = some (.int (n : Int) tn) → m' (Str.ofString "out") = some (.ref Do) → News h₀ L h' ((Do, oD2) :: (d, meterD w.params j1 j2 j3 j4 j5 nm (.int 5000 j6) (.ref Df) (.ref l) (.ref Dr')) :: (l, listOf ws.toArray n2) :: (R ++ tl)) → oD2.IsDictOf (PySem.strKind Challenge.rw_ui0509_16.row.prog w) [(Str.ofString "u", Value.int vo to)] → All2 (RowN (Led tl)) ws ((day, 0, none) :: cRows 5000 day 0 0 e n) → (∀ q ∈ tl, (∀ p ∈ R, p.1 ≠ q.1) ∧ q.1 ≠ d ∧ q.1 ≠ l ∧ q.1 ≠ Do) → Q .next { s with heap := h', toks := tk' }) :
    wpAny (model Challenge.rw_ui0509_16.row.prog w) ((ktrTop dp un gd cn cs L0 a ccd cl outer).deeper (envOfC (Str.ofString "count_days") HD.fs34.1 L fa cdv)) (execs (forB (HD.nth HD.fb34.1 8)) (envOfC (Str.ofString "count_days") HD.fs34.1 L fa cdv)) Q E s := by
  w_top off
  revert X; k_fill; intro X
  dsimp only [forB, HD.nth, HD.fb34, HD.fs34]
  obtain ⟨ys, rfl, hys⟩ : ∃ ys0, ys0 = ys ∧ All2 (RatN (Led R)) ys0 ((List.range n).map fun j : Nat => (0 + e * ((1 + (j : Int) : Int) : Rat))) := ⟨ys, rfl, hys⟩
  have hys0 := hys
  rw [range_last (by omega : 0 < n)] at hys
  obtain ⟨ys1, v9, rfl, hys1, Dw, tw, uw, cw, rfl, eDw⟩ := All2.unsnoc9 hys
  have hylen := hys0.length
  rw [List.length_map, List.length_range] at hylen
  have nxd : d ≠ x := (aRd _ ex).symm
  have nxl : l ≠ x := (aRl _ ex).symm
  replace nld := neN nld; replace ndo := neN ndo; replace nlo := neN nlo
  k_steps
  unfold Hold
  (rename News _ _ _ _ => N8)
  (rename Fr _ _ _ _ => F8)
  k_dflt (refine' read_nil (day := day) (val := 0) (tu := 5000) ?k1_u6 ?k2_u6 ?k3_u6 ?k4_u6 ?k5_u6 ?k6_u6 ?ex_u6 ?U2_u6 ?U1_u6 ?n1_u6 ?n2_u6 ?n3_u6 ?k7_u6 ?h1_u6 ?h2_u6 ?h3_u6 ?h4_u6 ?_)
  case k1_u6 | k2_u6 | k3_u6 | k4_u6 | k5_u6 => k_asm
  case k6_u6 => first | exact rfl | assumption
  case k7_u6 => ktr_room
  case ex_u6 => k_mem
  case U2_u6 => k_upd
  case U1_u6 => k_updF
  case n1_u6 => exact nxd
  case n2_u6 => exact nxl
  case n3_u6 => exact nld
  case h1_u6 => exact hday
  case h2_u6 => omega
  case h3_u6 | h4_u6 => decide

  intro D1 c1 n1 h1' tk1 F1 N1 l1r
  clear N8 F8
  have l1R : ∀ p ∈ R, p.1 ≠ D1 := fun p hp => l1r p (((by walk_at "sx") : ∀ p ∈ R, p ∈ _) p hp)
  have l1d := (l1r (d, _) (by k_mem)).symm
  have l1l := (l1r (l, _) (by k_mem)).symm
  have l1o := (l1r (Do, _) (by k_mem)).symm
  dsimp only at l1d l1l l1o
  clear l1r
  k_steps
  unfold Hold
  (rename News _ _ _ _ => N9)
  (rename Fr _ _ _ _ => F9)
  obtain ⟨_, e9, N2⟩ := news_as N9 (l := (Do, oDo) :: (d, _) :: (l, _) :: (R ++ [(D1, Row day 0 td ts .none c1)])) (fcons (by k_mem) (fcons (by k_mem) (fcons (by k_mem) (app_one ((by walk_at "sx")) (by k_mem)))))
  subst e9
  clear N9
  obtain ⟨J, hJJ⟩ : ∃ J : Nat → (Str → Option Value) → List (Addr × Obj) → Prop, ∀ i m nx, J i m nx ↔ (∃ (Dl : Addr) (vl : Int) (ta tb : Tok) (cl : Nat) (ws vs1 : List Value) (n1 : Nat) (rr : Value) (tl2 : List (Addr × Obj)), nx = (Do, oDo) :: (d, meterD w.params j1 j2 j3 j4 j5 nm (.int 5000 j6) (.ref Df) (.ref l) rr) :: (l, listOf (vs1 ++ [Value.ref Dl]).toArray n1) :: (R ++ tl2) ∧
      ws = vs1 ++ [Value.ref Dl] ∧ (Dl, Row (day + (i : Int)) vl ta tb .none cl) ∈ tl2 ∧ All2 (RowN (Led tl2)) ws ((day, 0, none) :: cRows 5000 day 0 0 e i) ∧ (∀ q ∈ tl2, (∀ p ∈ R, p.1 ≠ q.1) ∧ q.1 ≠ d ∧ q.1 ≠ l ∧ q.1 ≠ Do) ∧
      m (Str.ofString "told") = some (.ref TL) ∧ m (Str.ofString "day") = some (.int day td) ∧ m (Str.ofString "days") = some (.int (n : Int) tn) ∧ m (Str.ofString "start") = some (.int 0 ts) ∧ m (Str.ofString "out") = some (.ref Do) ∧ m (Str.ofString "whole") = some (.ref Dw) ∧ m (Str.ofString "name") = some (.str (Str.ofString "u") tj)) := ⟨_, fun _ _ _ => Iff.rfl⟩
  have hJ0 := (hJJ 0 (fun y => if y = Str.ofString "whole" then some (Value.ref Dw) else m y) _).mpr ⟨D1, 0, td, ts, c1, [.ref D1], [], n1, .ref 56, [(D1, Row day 0 td ts .none c1)], rfl, rfl, (by rw [show day + ((0 : Nat) : Int) = day by omega]; exact cS9), .cons ⟨D1, td, ts, .none, c1, rfl, cS9, rfl⟩ .nil, fcons (⟨l1R, l1d, l1l, l1o⟩) (fun _ h => nomatch h), (by exact n_told), (by exact n_day), (by exact n_days), (by exact n_start), (by exact n_out), rfl, (by exact n_name)⟩
  clear l1R l1d l1l l1o
  (with_unfolding_all refine' For_turns F9 ?_)
  k_whole
  k_steps
  unfold Hold
  (rename Fr _ _ _ _ => F9)
  (rename News _ _ _ _ => N9)
  (rename IsRange _ _ _ _ _ _ _ _ => hRg)
  refine iter_rangeTurns (n := n) rfl hRg (small_one (by omega) (by omega) (by omega) (by omega)) (rsize (by omega)) F9 N9 (fun I4 lI4 => ?_)
  refine items_ind J ?turn9 ?done9 _ 0 _ _ rfl (Nat.zero_le _) trivial (fun p hp => Nat.ne_of_lt (lI4 p hp)) hJ0
  case turn9 =>
    intro i a v m9 nx h tk o ha _ hI hJ hav Fm ho Nn
    replace hJ := (hJJ _ _ _).mp hJ
    obtain ⟨Dl, vl, ta, tb, cl, ws, vs1, n2, rr, tl2, rfl, rfl, eDl, hws, htl2, m1, m2, m2b, m3, m4, m5, m6⟩ := hJ
    obtain ⟨hi, rfl⟩ := rangeItems_get ha
    obtain ⟨t9, rfl⟩ := hav
    obtain ⟨_, hvi, Di, ti, ui, ci, rfl, eDi⟩ := hys0.at (i := i) (b := (0 + e * ((1 + (i : Int) : Int) : Rat))) (by rw [List.getElem?_map, List.getElem?_range hi]; rfl)
    have fi : FitsR ((0 + e * ((1 + (i : Int) : Int) : Rat))) := by rw [Rat.zero_add]; exact hF i hi
    have hx1 : (ys1 ++ [Value.ref Dw])[(1 + (i : Int) - 1).toNat]? = some (.ref Di) := at_of hvi (by omega)
    have hj1 : (0 : Int) ≤ 1 + (i : Int) - 1 := by omega
    have hj2 : 1 + (i : Int) - 1 < 2 ^ 63 := by omega
    have hne9 := nzden ((0 + e * ((1 + (i : Int) : Int) : Rat)))
    have hlg9 := Fits.log fi.den ((0 + e * ((1 + (i : Int) : Int) : Rat))).den_pos (by omega)
    have hwl := hws.length
    rw [List.length_cons, cRows_len] at hwl
    simp only [List.length_append, List.length_cons, List.length_nil] at hwl
    have hv9 : vs1.length < 100000 := by omega
    have hda1 : (1 : Int) ≤ day + (1 + (i : Int)) := by omega
    have hda2 : day + (1 + (i : Int)) ≤ 10000000 := by omega
    have hda3 : day + (i : Int) < day + (1 + (i : Int)) := by omega
    have y0 : @Ne Nat Do I4 := hI (Do, _) cS9
    have y1 : @Ne Nat d I4 := hI (d, _) (by k_mem)
    have y2 : @Ne Nat l I4 := hI (l, _) (by k_mem)
    have z1 : ∀ p ∈ R ++ tl2, p.1 ≠ d := List.forall_mem_append.mpr ⟨aRd, fun q hq => (htl2 q hq).2.1⟩
    have z2 : ∀ p ∈ R ++ tl2, p.1 ≠ l := List.forall_mem_append.mpr ⟨aRl, fun q hq => (htl2 q hq).2.2.1⟩
    clear F9 N9 lI4 hRg
    k_steps
    unfold Hold
    (rename _ = Int.fmod _ _ => vE); subst vE
    (rename (0 : Int) ≤ Int.fmod _ _ => vp)
    (rename Int.fmod _ _ < _ => vq)
    k_dflt (refine' read_snoc (tu := 5000) (vs := vs1) (D0 := Dl) (day0 := day + (i : Int)) (val0 := vl) ?k1_u5 ?k2_u5 ?k3_u5 ?k4_u5 ?k5_u5 ?k6_u5 ?ex_u5 ?U2_u5 ?U1_u5 ?n1_u5 ?n2_u5 ?n3_u5 ?e0_u5 ?n0_u5 ?hl_u5 ?h5_u5 ?k7_u5 ?h1_u5 ?h2_u5 ?h3_u5 ?h4_u5 ?_)
    case k1_u5 | k2_u5 | k3_u5 | k4_u5 | k5_u5 => k_asm
    case k6_u5 => first | exact rfl | assumption
    case k7_u5 => ktr_room
    case ex_u5 => k_mem
    case U2_u5 => k_upd
    case U1_u5 => k_updF
    case n1_u5 => exact nxd
    case n2_u5 => exact nxl
    case n3_u5 => exact nld
    case e0_u5 => exact News.get (by k_asm) (((by walk_at "sx") : ∀ p ∈ tl2, p ∈ _) _ eDl)
    case n0_u5 => exact ⟨((htl2 _ eDl).1 _ ex).symm, (htl2 _ eDl).2.1, (htl2 _ eDl).2.2.1⟩
    case hl_u5 => exact hv9
    case h5_u5 => exact hda3
    case h1_u5 => exact hda1
    case h2_u5 => exact hda2
    case h3_u5 => exact vp
    case h4_u5 => exact vq

    intro D3 c3 n3 h3' tk3 F3 N3 l3
    have l3R : ∀ p ∈ R, p.1 ≠ D3 := fun p hp => l3 p (((by walk_at "sx") : ∀ p ∈ R, p ∈ _) p hp)
    have l3d := (l3 (d, _) (by k_mem)).symm
    have l3l := (l3 (l, _) (by k_mem)).symm
    have l3o := (l3 (Do, _) (by k_mem)).symm
    have l3I := (l3 (I4, _) (by k_mem)).symm
    dsimp only at l3d l3l l3o l3I
    clear l3
    k_steps
    (try unfold Hold)
    (rename News _ _ _ _ => NN)
    (rename Fr _ _ _ _ => FF)
    refine unr_end ((Do, oDo) :: (d, _) :: (l, listOf ((vs1 ++ [Value.ref Dl]) ++ [Value.ref D3]).toArray n3) :: (R ++ (D3, _) :: tl2)) FF NN (by k_mem) (fcons (by k_mem) (fcons (by k_mem) (fcons (by k_mem) (sub_ins ((by walk_at "sx")) (by k_mem))))) (fcons y0 (fcons y1 (fcons y2 (app_ins (fun p hp => hI p (((by walk_at "sx") : ∀ p ∈ R ++ tl2, p ∈ _) p hp)) l3I)))) ?_
    exact ⟨trivial, (hJJ _ _ _).mpr ⟨D3, _, _, _, _, (vs1 ++ [.ref Dl]) ++ [.ref D3], vs1 ++ [.ref Dl], n3, .ref 56, _ :: tl2, rfl, rfl, (by rw [show day + ((i + 1 : Nat) : Int) = day + (1 + (i : Int)) by omega]; exact cS9), by rw [cRows_snoc, ← List.cons_append]; exact (hws.mono fun _ _ y => y.mono fun _ _ e => cC9 e).snoc (row_new cS9),
      fcons (⟨l3R, l3d, l3l, l3o⟩) htl2, (by exact m1), (by exact m2), (by exact m2b), (by exact m3), (by exact m4), (by exact m5), (by exact m6)⟩⟩
  case done9 =>
    intro m9 nx h tk hJ Fm Nn
    rw [List.length_map, List.length_range] at hJ
    replace hJ := (hJJ _ _ _).mp hJ
    obtain ⟨Dl, vl, ta, tb, cl, ws, vs1, n2, rr, tl2, rfl, rfl, eDl, hws, htl2, m1, m2, m2b, m3, m4, m5, m6⟩ := hJ
    have en : (1 + ((n - 1 : Nat) : Int)) = (n : Int) := by omega
    have eDw' : (Dw, RatO (0 + e * ((n : Int) : Rat)) tw uw cw) ∈ R := by rw [en] at eDw; exact eDw
    have fi : FitsR (0 + e * ((n : Int) : Rat)) := by rw [Rat.zero_add, ← en]; exact hF (n - 1) (by omega)
    have hne9 := nzden (0 + e * ((n : Int) : Rat))
    have hlg9 := Fits.log fi.den (0 + e * ((n : Int) : Rat)).den_pos (by omega)
    have hdn := den_posI (r := 0 + e * ((n : Int) : Rat))
    have z1 : ∀ p ∈ R ++ tl2, p.1 ≠ d := List.forall_mem_append.mpr ⟨aRd, fun q hq => (htl2 q hq).2.1⟩
    have z3 : ∀ p ∈ R ++ tl2, p.1 ≠ Do := List.forall_mem_append.mpr ⟨aRo, fun q hq => (htl2 q hq).2.2.2⟩
    clear F9 N9 lI4 hRg eDw hys hys0 hys1
    k_steps
    rename_i hA oD2 FA NA hdD v9 v0 v1 vE
    have fv : Fits v9 := fits_lt fi.den v0 v1
    k_dflt (refine' frac_c _ _ _ _ _ _ _ _ _ _ _ _ _ _ _ _ _ _ _ _ _ _ ?k1_u4 ?k2_u4 ?k3_u4 ?k4_u4 ?k5_u4 ?k6_u4 ?k7_u4 ?k8_u4 ?k9_u4 ?k10_u4 ?k11_u4 ?_)
    case k1_u4 | k2_u4 | k3_u4 | k4_u4 | k5_u4 => k_asm
    case k6_u4 => first | exact rfl | assumption
    case k7_u4 => ktr_room
    case k8_u4 => ktr_units
    case k9_u4 => exact hne9
    case k10_u4 => exact fv
    case k11_u4 => exact fi.den

    intro r9 D9 t9 u9 c9 h9 tk9' eR F8 N8 l8
    replace l8 := allLt_of l8
    clear FA NA
    k_steps
    rename_i hZ FZ NZ
    obtain ⟨_, e9, NZ2⟩ := news_as NZ (l := (Do, oD2) :: (d, meterD w.params j1 j2 j3 j4 j5 nm (.int 5000 j6) (.ref Df) (.ref l) (.ref D9)) :: (l, _) :: (R ++ tl2)) (fcons (by k_mem) (fcons (by k_mem) (fcons (by k_mem) (by walk_at "sx"))))
    subst e9
    exact hret D9 oD2 _ _ _ (vs1 ++ [Value.ref Dl]) tl2 _ _ m9 FZ m2 m2b m4 NZ2 hdD hws htl2
end

section
local macro_rules | `(tactic| k_lt $h:ident) => `(tactic| replace $h:ident := allLt_of $h)
theorem words21 : True := by
  k_with_none
  k_with "k_in" => (refine' in_of ?z4fF ?z4fX; (case z4fF | z4fX => k_asm))
  k_with "subscriptTail Name Name ref str" => (k_here; (with_reducible show wpAny _ _ (subscriptTail _ _ (Value.ref _) (Value.str _ _)) _ _ _); k_dflt (refine' kda_item (knd := PySem.strKind _ _) ?z83N ?z83hp ?z83hd (strKind_is _ _ _ _) ?z83hl ?_; (case z83N => k_asm); (case z83hp => k_mem); (case z83hd => with_reducible assumption); (case z83hl => rfl); k_whole); (try dsimp only))
  k_with "compareOp Is ref ref" => (k_here; (with_reducible show wpAny _ _ (compareOp CmpOp.Is (Value.ref _) (Value.ref _)) _ _ _); k_dflt (refine' kto_is ?z84a ?z84b ?z84n ?z84c ?_; (case z84n => assumption); (case z84a | z84b => refine' kto_N ?z84N ?z84m; (case z84N => k_asm); (case z84m => k_mem)); (case z84c => kto_not); k_whole))
  k_with "hat9" => (first | exact News.get (by k_asm) (by k_mem) | exact Fr.keep (by k_asm) _ _ (by with_reducible assumption) | exact Tk.get (by k_asm) (by k_asm) (by with_reducible assumption) (by walk_at "st") | exact Frag.In.keeps (by k_asm) (Fr.keep (by k_asm)) _ _ (by k_is))
  k_with "call ref" => (k_here; (with_reducible show wpAny _ _ (call (Value.ref 108) [Value.ref _, Value.ref _]) _ _ _); k_dflt (refine' over_r ?z85k1 ?z85k2 ?z85k3 ?z85k4 ?z85k5 ?z85k6 ?z85m1 ?z85m2 ?z85k7 ?z85k8 ?z85b1 ?z85b2 ?z85hz ?z85hb ?_; (case z85k1 | z85k2 | z85k3 | z85k4 | z85k5 => k_asm); (case z85k6 => first | exact rfl | assumption); (case z85k7 => first | exact Nat.le_of_ble_eq_true rfl | ktr_room); (case z85k8 => first | exact Nat.le_of_ble_eq_true rfl | ktr_units); (case z85m1 | z85m2 => (walk_at "hat9")); (case z85b1 | z85b2 => with_reducible assumption); (case z85hb => first | assumption | omega | decide); (case z85hz => first | assumption | grind); k_whole); walk_at "i8"; (try k_sweep))
  k_with "call ref" => (k_here; (with_reducible show wpAny _ _ (call (Value.ref 87) [Value.ref _, Value.ref _]) _ _ _); k_dflt (refine' plus_r ?z86k1 ?z86k2 ?z86k3 ?z86k4 ?z86k5 ?z86k6 ?z86m1 ?z86m2 ?z86k7 ?z86k8 ?z86b1 ?z86b2 ?z86hb ?_; (case z86k1 | z86k2 | z86k3 | z86k4 | z86k5 => k_asm); (case z86k6 => first | exact rfl | assumption); (case z86k7 => first | exact Nat.le_of_ble_eq_true rfl | ktr_room); (case z86k8 => first | exact Nat.le_of_ble_eq_true rfl | ktr_units); (case z86m1 | z86m2 => (walk_at "hat9")); (case z86b1 | z86b2 => with_reducible assumption); (case z86hb => first | assumption | omega | decide); k_whole); walk_at "i8"; (try k_sweep))
  k_with "call ref" => (k_here; (with_reducible show wpAny _ _ (call (Value.ref 101) [Value.ref _, Value.ref _]) _ _ _); k_dflt (refine' times_r ?z87k1 ?z87k2 ?z87k3 ?z87k4 ?z87k5 ?z87k6 ?z87m1 ?z87m2 ?z87k7 ?z87k8 ?z87b1 ?z87b2 ?z87hb ?_; (case z87k1 | z87k2 | z87k3 | z87k4 | z87k5 => k_asm); (case z87k6 => first | exact rfl | assumption); (case z87k7 => first | exact Nat.le_of_ble_eq_true rfl | ktr_room); (case z87k8 => first | exact Nat.le_of_ble_eq_true rfl | ktr_units); (case z87m1 | z87m2 => (walk_at "hat9")); (case z87b1 | z87b2 => with_reducible assumption); (case z87hb => first | assumption | omega | decide); k_whole); walk_at "i8"; (try k_sweep))
  k_with "k_ne" => (refine neN ?_; (try dsimp only); first | with_reducible assumption | exact Ne.symm (by with_reducible assumption) | exact apL (by with_reducible assumption) (by k_mem) | exact (apL (by with_reducible assumption) (by k_mem)).symm | exact apLt (by with_reducible assumption) (by k_mem) | exact (apLt (by with_reducible assumption) (by k_mem)).symm)
  k_with "k_all" => (first | with_reducible assumption | exact List.forall_mem_nil _ | (refine fcons (?_) (?_) <;> first | k_ne | k_all) | exact allLt_mem (by with_reducible assumption))
  k_with "bits_by_make" => (with_reducible assumption)
  k_with "call ref" => (k_here; (with_reducible show wpAny _ _ (call (Value.ref 72) [Value.int _ _, Value.int _ _]) _ _ _); k_dflt (refine' frac_use ?z88k1 ?z88k2 ?z88k3 ?z88k4 ?z88k5 ?z88k6 ?z88k7 ?z88k8 ?z88k9 ?z88k10 ?z88k11 ?z88k12 ?z88k13 ?_; (case z88k1 | z88k2 | z88k3 | z88k4 | z88k5 => k_asm); (case z88k6 => first | exact rfl | assumption); (case z88k7 => first | exact Nat.le_of_ble_eq_true rfl | ktr_room); (case z88k8 => first | exact Nat.le_of_ble_eq_true rfl | ktr_units); (case z88k10 | z88k11 => bits_by_make); (case z88k12 | z88k13 => decide); (case z88k9 => first | exact nzden _ | omega | ((try k_fmods); omega) | (refine nzmul ?_ ?_ <;> first | exact nzden _ | omega)); k_whole); walk_at "i9"; (try k_sweep))
  k_with "call ref" => (k_here; (with_reducible show wpAny _ _ (call (Value.ref 72) [Value.int _ _, Value.int 1 _]) _ _ _); k_dflt (refine' frac_one ?z89k1 ?z89k2 ?z89k3 ?z89k4 ?z89k5 ?z89k6 ?z89k7 ?z89k8 ?z89k10 ?z89k12 ?_; (case z89k1 | z89k2 | z89k3 | z89k4 | z89k5 => k_asm); (case z89k6 => first | exact rfl | assumption); (case z89k7 => first | exact Nat.le_of_ble_eq_true rfl | ktr_room); (case z89k8 => first | exact Nat.le_of_ble_eq_true rfl | ktr_units); (case z89k10 => bits_by_make); (case z89k12 => decide); k_whole); walk_at "i10"; (try k_sweep))
  k_with "call ref" => (k_here; (with_reducible show wpAny _ _ (call (Value.ref 72) [Value.int _ _]) _ _ _); k_dflt (refine' frac_dflt ?z90k1 ?z90k2 ?z90k3 ?z90k4 ?z90k5 ?z90k6 ?z90k7 ?z90k8 ?z90k10 ?z90k12 ?_; (case z90k1 | z90k2 | z90k3 | z90k4 | z90k5 => k_asm); (case z90k6 => first | exact rfl | assumption); (case z90k7 => first | exact Nat.le_of_ble_eq_true rfl | ktr_room); (case z90k8 => first | exact Nat.le_of_ble_eq_true rfl | ktr_units); (case z90k10 => bits_by_make); (case z90k12 => decide); k_whole); walk_at "i10"; (try k_sweep))
  k_with "call ref" => (k_here; (with_reducible show wpAny _ _ (call (Value.ref 41) [Value.int _ _, Value.int _ _, Value.int _ _, Value.str _ _]) _ _ _); k_dflt (refine' need_number_c ?z91k1 ?z91k2 ?z91k3 ?z91k4 ?z91k5 ?z91k6 ?z91h1 ?z91h2 ?z91k7 ?_; (case z91k1 | z91k2 | z91k3 | z91k4 | z91k5 => k_asm); (case z91k6 => first | exact rfl | assumption); (case z91k7 => first | exact Nat.le_of_ble_eq_true rfl | ktr_room); (case z91h1 | z91h2 => first | decide | assumption | omega); k_whole); walk_at "i3"; (try k_sweep))
  k_with "exec For Name Name cons nil" => ((with_reducible show wpAny _ _ (exec (Stmt.For (Expr.Name _ _) (Expr.Name _ _) _ _ _) _) _ _ _); refine Hold.out ?_)
  k_with "call ref" => (k_here; (with_reducible show wpAny _ _ (call (Value.ref 335) _ _) _ _ _); refine Hold.out ?_)
  k_with "call ref" => (k_here; (with_reducible show wpAny _ _ (call (Value.ref 115) _ _) _ _ _); refine Hold.out ?_)
  k_with "call ref" => (k_here; (with_reducible show wpAny _ _ (call (Value.ref 108) _ _) _ _ _); refine Hold.out ?_)
  k_with "eval Name" => (k_here; k_dflt (refine' nameX_L ?z92k1 ?z92k2 ?_ ?z92k3 ?z92k4; (case z92k1 => k_asm); (case z92k3 | z92k4 => rfl); (case z92k2 => first | exact rfl | assumption); k_whole))
  k_with "k_mem" => (first | with_reducible assumption | (refine aL0 ?_; with_reducible assumption) | (refine cC9 ?_; k_mem))
  k_with "call ref" => (k_here; (with_reducible show wpAny _ _ (call (Value.ref 41) [Value.int _ _, Value.int _ _, Value.int _ _, Value.str _ _]) _ _ _); k_dflt (refine' need_number_c ?z93k1 ?z93k2 ?z93k3 ?z93k4 ?z93k5 ?z93k6 ?z93h1 ?z93h2 ?z93k7 ?_; (case z93k1 | z93k2 | z93k3 | z93k4 | z93k5 => k_asm); (case z93k6 => first | exact rfl | assumption); (case z93k7 => first | exact Nat.le_of_ble_eq_true rfl | ktr_room); (case z93h1 | z93h2 => first | decide | assumption | omega); k_whole); walk_at "i3"; (try k_sweep))
  k_with "subscriptTail" => (k_here; (with_reducible show wpAny _ _ (subscriptTail _ _ (Value.ref _) (Value.int _ _)) _ _ _); k_dflt (refine' kim_back ?z94k1 ?z94k2 ?z94k3 ?z94k4 ?z94k5 ?z94k6 ?z94k7 ?z94k8 ?_ ?z94k9 ?z94k10; (case z94k1 => k_asm); (case z94k2 => k_mem); (case z94k3 | z94k4 => exact rfl); (case z94k5 => decide); (case z94k6 => exact last_le); (case z94k7 => decide); (case z94k8 => exact last_at); (case z94k9 => with_unfolding_all rfl); (case z94k10 => (intro _; with_unfolding_all rfl)); k_whole))
  k_with "subscriptTail Name UnaryOp ref int" => (k_here; (with_reducible show wpAny _ _ (subscriptTail _ _ (Value.ref _) (Value.int _ _)) _ _ _); k_dflt (refine' kim_back ?z95k1 ?z95k2 ?z95k3 ?z95k4 ?z95k5 ?z95k6 ?z95k7 ?z95k8 ?_ ?z95k9 ?z95k10; (case z95k1 => k_asm); (case z95k2 => k_mem); (case z95k3 | z95k4 => exact rfl); (case z95k5 => decide); (case z95k6 => exact last_le); (case z95k7 => decide); (case z95k8 => exact last_at); (case z95k9 => with_unfolding_all rfl); (case z95k10 => (intro _; with_unfolding_all rfl)); k_whole))
  k_with "subscriptTail Attribute" => (k_here; (with_reducible show wpAny _ _ (subscriptTail _ _ (Value.ref _) (Value.int _ _)) _ _ _); k_dflt (refine kba_turn (value' := PySem.Expr.Name (PySem.Str.ofString "_") ⟨0, 0, 0, 0⟩) (fun _ => rfl) ?_))
  k_with "subscriptTail Subscript" => (k_here; (with_reducible show wpAny _ _ (subscriptTail _ _ (Value.ref _) (Value.int _ _)) _ _ _); k_dflt (refine kba_turn (value' := PySem.Expr.Name (PySem.Str.ofString "_") ⟨0, 0, 0, 0⟩) (fun _ => rfl) ?_))
  k_with "call builtin:len" => (k_here; (with_reducible show wpAny _ _ (call (Value.builtin "len") [Value.ref _]) _ _ _); k_dflt (refine' lst_len ?z96k1 ?z96k2 ?z96k3 ?_; (case z96k1 => k_asm); (case z96k2 => k_mem); (case z96k3 => first | exact len_b (by with_reducible assumption) | exact (by decide : ([] : List Value).length < 1000000) | omega); k_whole); walk_at "i4"; (try simp only [List.length_append, List.length_cons, List.length_nil]))
  k_with "call ref" => (k_here; (with_reducible show wpAny _ _ (call (Value.ref 362) _ _) _ _ _); refine Hold.out ?_)
  k_with "subscriptTail" => (k_here; (with_reducible show wpAny _ _ (subscriptTail _ _ (Value.ref _) (Value.int _ _)) _ _ _); k_dflt (refine' tup_g ?z97k1 ?z97k2 ?z97k3 ?z97k4 ?z97k5 ?z97k6 ?z97k7 ?z97k8 ?_ ?z97k9 ?z97k10; (case z97k1 => k_asm); (case z97k2 => with_reducible assumption); (case z97k3 | z97k4 => exact rfl); (case z97k5 | z97k6 => decide); (case z97k7 | z97k8 => exact rfl); (case z97k9 => with_unfolding_all rfl); (case z97k10 => (intro _; with_unfolding_all rfl)); k_whole))
  k_with "subscriptTail Name Constant ref int" => (k_here; (with_reducible show wpAny _ _ (subscriptTail _ _ (Value.ref _) (Value.int _ _)) _ _ _); k_dflt (refine' tup_g ?z98k1 ?z98k2 ?z98k3 ?z98k4 ?z98k5 ?z98k6 ?z98k7 ?z98k8 ?_ ?z98k9 ?z98k10; (case z98k1 => k_asm); (case z98k2 => with_reducible assumption); (case z98k3 | z98k4 => exact rfl); (case z98k5 | z98k6 => decide); (case z98k7 | z98k8 => exact rfl); (case z98k9 => with_unfolding_all rfl); (case z98k10 => (intro _; with_unfolding_all rfl)); k_whole))
  k_with "exec For Name Call cons nil" => (refine Hold.out ?_)
  k_with "binaryOp Mod int int" => (k_here; (with_reducible refine mod_gen ?z99mp ?_); (case z99mp => first | decide | assumption); walk_at "i11")
  k_with "subscriptTail" => (k_here; (with_reducible show wpAny _ _ (subscriptTail _ _ (Value.ref _) (Value.int _ _)) _ _ _); k_dflt (refine' kim_list ?z100k1 ?z100k2 ?z100k3 ?z100k4 ?z100k5 ?z100k6 ?z100k7 ?_ ?z100k8 ?z100k9; (case z100k1 => k_asm); (case z100k2 => k_mem); (case z100k3 | z100k4 => exact rfl); (case z100k5 | z100k6 | z100k7 => with_reducible assumption); (case z100k8 => with_unfolding_all rfl); (case z100k9 => (intro _; with_unfolding_all rfl)); k_whole))
  k_with "subscriptTail Name BinOp ref int" => (k_here; (with_reducible show wpAny _ _ (subscriptTail _ _ (Value.ref _) (Value.int _ _)) _ _ _); k_dflt (refine' kim_list ?z101k1 ?z101k2 ?z101k3 ?z101k4 ?z101k5 ?z101k6 ?z101k7 ?_ ?z101k8 ?z101k9; (case z101k1 => k_asm); (case z101k2 => k_mem); (case z101k3 | z101k4 => exact rfl); (case z101k5 | z101k6 | z101k7 => with_reducible assumption); (case z101k8 => with_unfolding_all rfl); (case z101k9 => (intro _; with_unfolding_all rfl)); k_whole))
  k_with "subscriptTail" => (k_here; (with_reducible show wpAny _ _ (subscriptTail _ _ (Value.ref _) (Value.int _ _)) _ _ _); k_dflt (refine' tup_t ?z102k1 ?z102k0 ?z102k2 ?z102kS ?z102k3 ?z102k4 ?z102k5 ?z102k6 ?z102k7 ?z102k8 ?_ ?z102k9 ?z102k10; (case z102k1 | z102k0 => k_asm); (case z102k2 => with_reducible assumption); (case z102kS => exact (by walk_at "sx")); (case z102k3 | z102k4 => exact rfl); (case z102k5 | z102k6 => decide); (case z102k7 | z102k8 => exact rfl); (case z102k9 => with_unfolding_all rfl); (case z102k10 => (intro _; with_unfolding_all rfl)); k_whole))
  k_with "binaryOp FloorDiv int int" => (with_reducible refine floordiv_int ?z103ne ?_ (Or.inl (PyProof.noPylong_of_log2 ?z103lg)); (case z103lg | z103ne => with_reducible assumption))
  k_with "pyIter ref" => ((with_reducible show wpAny _ _ (pyIter (Value.ref _)) (fun it s₂ => TurnsAt _ _ _ _ _ _ _ _ _ it s₂) _ _); refine Hold.out ?_)
  trivial
theorem turnC_v {w : World} {a : Addr} {base h₀ : Heap} {L0 L fa : Addr} {cdv : Value} {m : Str → Option Value} {s : Shared} {Q : Flow → Shared → Prop} {E : Value → Shared → Prop} {x d l Df Do TL : Addr} {j1 j2 j3 j4 j5 j6 tn td ts tj tvu : Tok} {nm : Value} {nl n ny : Nat} {day vu : Int} {e : Rat} {oM oDo : Obj} {R : List (Addr × Obj)} {ys : List Value} 
    (B : Below (ktrTop dp un gd cn cs L0 a ccd cl outer) base (envX cn cs L0 a ccd cl :: outer) h₀) (X : (HD.K w.params).In h₀) (T : Top p loose mean mg mb h₀) (hd : dp + 20 < recursionLimit) (hu : un + 900 < cLine) (F : Fr h₀ L s.heap m) (N : News h₀ L s.heap ((Do, oDo) :: (d, meterD w.params j1 j2 j3 j4 j5 nm (.int 5000 j6) (.ref Df) (.ref l) (.ref 56)) :: (l, listOf ([] : List Value).toArray nl) :: R)) (mM : (L + 1, oM) ∈ R) (qM : oM.data = .cell (some (.ref x)))
    (ex : (x, instObj 393 d) ∈ R) (mTL : (TL, listOf ys.toArray ny) ∈ R) (hys : All2 (RatN (Led R)) ys ((List.range n).map fun j : Nat => (0 + e * ((1 + (j : Int) : Int) : Rat)))) (hF : ∀ j : Nat, j < n → FitsR (e * ((1 + (j : Int) : Int) : Rat))) (hn1 : 1 ≤ n) (hn2 : n ≤ 100) (hday : 1 ≤ day) (hday2 : day ≤ 1000)
    (hE : PassesOwn (model Challenge.rw_ui0509_16.row.prog w) ((ktrTop dp un gd cn cs L0 a ccd cl outer).deeper (envOfC (Str.ofString "count_days") HD.fs34.1 L fa cdv)) (envOfC (Str.ofString "count_days") HD.fs34.1 L fa cdv) E)
    (hDo : oDo.IsDictOf (PySem.strKind Challenge.rw_ui0509_16.row.prog w) [(Str.ofString "u", Value.int vu tvu)]) (lDo : (Do == sysModules) = false)
    (aRd : ∀ p ∈ R, p.1 ≠ d) (aRl : ∀ p ∈ R, p.1 ≠ l) (aRo : ∀ p ∈ R, p.1 ≠ Do) (nld : l ≠ d) (ndo : d ≠ Do) (nlo : l ≠ Do)
    (n_told : m (Str.ofString "told") = some (.ref TL)) (n_day : m (Str.ofString "day") = some (.int day td)) (n_days : m (Str.ofString "days") = some (.int (n : Int) tn)) (n_start : m (Str.ofString "start") = some (.int 0 ts)) (n_out : m (Str.ofString "out") = some (.ref Do)) (n_name : m (Str.ofString "name") = some (.str (Str.ofString "v") tj))
    (hret : ∀ (Dr' : Addr) (oD2 : Obj) (vo : Int) (to : Tok) (n2 : Nat) (ws : List Value) (tl : List (Addr × Obj)) (h' : Heap) (tk' : Nat) (m' : Str → Option Value), Fr h₀ L h' m' → m' (Str.ofString "day") = some (.int day td) → m' (Str.ofString "days") = some (.int (n : Int) tn) → m' (Str.ofString "out") = some (.ref Do) → News h₀ L h' ((Do, oD2) :: (d, meterD w.params j1 j2 j3 j4 j5 nm (.int 5000 j6) (.ref Df) (.ref l) (.ref Dr')) :: (l, listOf ws.toArray n2) :: (R ++ tl)) → oD2.IsDictOf (PySem.strKind Challenge.rw_ui0509_16.row.prog w) [(Str.ofString "u", Value.int vu tvu), (Str.ofString "v", Value.int vo to)] → All2 (RowN (Led tl)) ws ((day, 0, none) :: cRows 5000 day 0 0 e n) → (∀ q ∈ tl, (∀ p ∈ R, p.1 ≠ q.1) ∧ q.1 ≠ d ∧ q.1 ≠ l ∧ q.1 ≠ Do) → Q .next { s with heap := h', toks := tk' }) :
    wpAny (model Challenge.rw_ui0509_16.row.prog w) ((ktrTop dp un gd cn cs L0 a ccd cl outer).deeper (envOfC (Str.ofString "count_days") HD.fs34.1 L fa cdv)) (execs (forB (HD.nth HD.fb34.1 8)) (envOfC (Str.ofString "count_days") HD.fs34.1 L fa cdv)) Q E s := by
  w_top off
  revert X; k_fill; intro X
  dsimp only [forB, HD.nth, HD.fb34, HD.fs34]
  obtain ⟨ys, rfl, hys⟩ : ∃ ys0, ys0 = ys ∧ All2 (RatN (Led R)) ys0 ((List.range n).map fun j : Nat => (0 + e * ((1 + (j : Int) : Int) : Rat))) := ⟨ys, rfl, hys⟩
  have hys0 := hys
  rw [range_last (by omega : 0 < n)] at hys
  obtain ⟨ys1, v9, rfl, hys1, Dw, tw, uw, cw, rfl, eDw⟩ := All2.unsnoc9 hys
  have hylen := hys0.length
  rw [List.length_map, List.length_range] at hylen
  have nxd : d ≠ x := (aRd _ ex).symm
  have nxl : l ≠ x := (aRl _ ex).symm
  replace nld := neN nld; replace ndo := neN ndo; replace nlo := neN nlo
  k_steps
  unfold Hold
  (rename News _ _ _ _ => N8)
  (rename Fr _ _ _ _ => F8)
  k_dflt (refine' read_nil (day := day) (val := 0) (tu := 5000) ?k1_u6 ?k2_u6 ?k3_u6 ?k4_u6 ?k5_u6 ?k6_u6 ?ex_u6 ?U2_u6 ?U1_u6 ?n1_u6 ?n2_u6 ?n3_u6 ?k7_u6 ?h1_u6 ?h2_u6 ?h3_u6 ?h4_u6 ?_)
  case k1_u6 | k2_u6 | k3_u6 | k4_u6 | k5_u6 => k_asm
  case k6_u6 => first | exact rfl | assumption
  case k7_u6 => ktr_room
  case ex_u6 => k_mem
  case U2_u6 => k_upd
  case U1_u6 => k_updF
  case n1_u6 => exact nxd
  case n2_u6 => exact nxl
  case n3_u6 => exact nld
  case h1_u6 => exact hday
  case h2_u6 => omega
  case h3_u6 | h4_u6 => decide

  intro D1 c1 n1 h1' tk1 F1 N1 l1r
  clear N8 F8
  have l1R : ∀ p ∈ R, p.1 ≠ D1 := fun p hp => l1r p (((by walk_at "sx") : ∀ p ∈ R, p ∈ _) p hp)
  have l1d := (l1r (d, _) (by k_mem)).symm
  have l1l := (l1r (l, _) (by k_mem)).symm
  have l1o := (l1r (Do, _) (by k_mem)).symm
  dsimp only at l1d l1l l1o
  clear l1r
  k_steps
  unfold Hold
  (rename News _ _ _ _ => N9)
  (rename Fr _ _ _ _ => F9)
  obtain ⟨_, e9, N2⟩ := news_as N9 (l := (Do, oDo) :: (d, _) :: (l, _) :: (R ++ [(D1, Row day 0 td ts .none c1)])) (fcons (by k_mem) (fcons (by k_mem) (fcons (by k_mem) (app_one ((by walk_at "sx")) (by k_mem)))))
  subst e9
  clear N9
  obtain ⟨J, hJJ⟩ : ∃ J : Nat → (Str → Option Value) → List (Addr × Obj) → Prop, ∀ i m nx, J i m nx ↔ (∃ (Dl : Addr) (vl : Int) (ta tb : Tok) (cl : Nat) (ws vs1 : List Value) (n1 : Nat) (rr : Value) (tl2 : List (Addr × Obj)), nx = (Do, oDo) :: (d, meterD w.params j1 j2 j3 j4 j5 nm (.int 5000 j6) (.ref Df) (.ref l) rr) :: (l, listOf (vs1 ++ [Value.ref Dl]).toArray n1) :: (R ++ tl2) ∧
      ws = vs1 ++ [Value.ref Dl] ∧ (Dl, Row (day + (i : Int)) vl ta tb .none cl) ∈ tl2 ∧ All2 (RowN (Led tl2)) ws ((day, 0, none) :: cRows 5000 day 0 0 e i) ∧ (∀ q ∈ tl2, (∀ p ∈ R, p.1 ≠ q.1) ∧ q.1 ≠ d ∧ q.1 ≠ l ∧ q.1 ≠ Do) ∧
      m (Str.ofString "told") = some (.ref TL) ∧ m (Str.ofString "day") = some (.int day td) ∧ m (Str.ofString "days") = some (.int (n : Int) tn) ∧ m (Str.ofString "start") = some (.int 0 ts) ∧ m (Str.ofString "out") = some (.ref Do) ∧ m (Str.ofString "whole") = some (.ref Dw) ∧ m (Str.ofString "name") = some (.str (Str.ofString "v") tj)) := ⟨_, fun _ _ _ => Iff.rfl⟩
  have hJ0 := (hJJ 0 (fun y => if y = Str.ofString "whole" then some (Value.ref Dw) else m y) _).mpr ⟨D1, 0, td, ts, c1, [.ref D1], [], n1, .ref 56, [(D1, Row day 0 td ts .none c1)], rfl, rfl, (by rw [show day + ((0 : Nat) : Int) = day by omega]; exact cS9), .cons ⟨D1, td, ts, .none, c1, rfl, cS9, rfl⟩ .nil, fcons (⟨l1R, l1d, l1l, l1o⟩) (fun _ h => nomatch h), (by exact n_told), (by exact n_day), (by exact n_days), (by exact n_start), (by exact n_out), rfl, (by exact n_name)⟩
  clear l1R l1d l1l l1o
  (with_unfolding_all refine' For_turns F9 ?_)
  k_whole
  k_steps
  unfold Hold
  (rename Fr _ _ _ _ => F9)
  (rename News _ _ _ _ => N9)
  (rename IsRange _ _ _ _ _ _ _ _ => hRg)
  refine iter_rangeTurns (n := n) rfl hRg (small_one (by omega) (by omega) (by omega) (by omega)) (rsize (by omega)) F9 N9 (fun I4 lI4 => ?_)
  refine items_ind J ?turn9 ?done9 _ 0 _ _ rfl (Nat.zero_le _) trivial (fun p hp => Nat.ne_of_lt (lI4 p hp)) hJ0
  case turn9 =>
    intro i a v m9 nx h tk o ha _ hI hJ hav Fm ho Nn
    replace hJ := (hJJ _ _ _).mp hJ
    obtain ⟨Dl, vl, ta, tb, cl, ws, vs1, n2, rr, tl2, rfl, rfl, eDl, hws, htl2, m1, m2, m2b, m3, m4, m5, m6⟩ := hJ
    obtain ⟨hi, rfl⟩ := rangeItems_get ha
    obtain ⟨t9, rfl⟩ := hav
    obtain ⟨_, hvi, Di, ti, ui, ci, rfl, eDi⟩ := hys0.at (i := i) (b := (0 + e * ((1 + (i : Int) : Int) : Rat))) (by rw [List.getElem?_map, List.getElem?_range hi]; rfl)
    have fi : FitsR ((0 + e * ((1 + (i : Int) : Int) : Rat))) := by rw [Rat.zero_add]; exact hF i hi
    have hx1 : (ys1 ++ [Value.ref Dw])[(1 + (i : Int) - 1).toNat]? = some (.ref Di) := at_of hvi (by omega)
    have hj1 : (0 : Int) ≤ 1 + (i : Int) - 1 := by omega
    have hj2 : 1 + (i : Int) - 1 < 2 ^ 63 := by omega
    have hne9 := nzden ((0 + e * ((1 + (i : Int) : Int) : Rat)))
    have hlg9 := Fits.log fi.den ((0 + e * ((1 + (i : Int) : Int) : Rat))).den_pos (by omega)
    have hwl := hws.length
    rw [List.length_cons, cRows_len] at hwl
    simp only [List.length_append, List.length_cons, List.length_nil] at hwl
    have hv9 : vs1.length < 100000 := by omega
    have hda1 : (1 : Int) ≤ day + (1 + (i : Int)) := by omega
    have hda2 : day + (1 + (i : Int)) ≤ 10000000 := by omega
    have hda3 : day + (i : Int) < day + (1 + (i : Int)) := by omega
    have y0 : @Ne Nat Do I4 := hI (Do, _) cS9
    have y1 : @Ne Nat d I4 := hI (d, _) (by k_mem)
    have y2 : @Ne Nat l I4 := hI (l, _) (by k_mem)
    have z1 : ∀ p ∈ R ++ tl2, p.1 ≠ d := List.forall_mem_append.mpr ⟨aRd, fun q hq => (htl2 q hq).2.1⟩
    have z2 : ∀ p ∈ R ++ tl2, p.1 ≠ l := List.forall_mem_append.mpr ⟨aRl, fun q hq => (htl2 q hq).2.2.1⟩
    clear F9 N9 lI4 hRg
    k_steps
    unfold Hold
    (rename _ = Int.fmod _ _ => vE); subst vE
    (rename (0 : Int) ≤ Int.fmod _ _ => vp)
    (rename Int.fmod _ _ < _ => vq)
    k_dflt (refine' read_snoc (tu := 5000) (vs := vs1) (D0 := Dl) (day0 := day + (i : Int)) (val0 := vl) ?k1_u5 ?k2_u5 ?k3_u5 ?k4_u5 ?k5_u5 ?k6_u5 ?ex_u5 ?U2_u5 ?U1_u5 ?n1_u5 ?n2_u5 ?n3_u5 ?e0_u5 ?n0_u5 ?hl_u5 ?h5_u5 ?k7_u5 ?h1_u5 ?h2_u5 ?h3_u5 ?h4_u5 ?_)
    case k1_u5 | k2_u5 | k3_u5 | k4_u5 | k5_u5 => k_asm
    case k6_u5 => first | exact rfl | assumption
    case k7_u5 => ktr_room
    case ex_u5 => k_mem
    case U2_u5 => k_upd
    case U1_u5 => k_updF
    case n1_u5 => exact nxd
    case n2_u5 => exact nxl
    case n3_u5 => exact nld
    case e0_u5 => exact News.get (by k_asm) (((by walk_at "sx") : ∀ p ∈ tl2, p ∈ _) _ eDl)
    case n0_u5 => exact ⟨((htl2 _ eDl).1 _ ex).symm, (htl2 _ eDl).2.1, (htl2 _ eDl).2.2.1⟩
    case hl_u5 => exact hv9
    case h5_u5 => exact hda3
    case h1_u5 => exact hda1
    case h2_u5 => exact hda2
    case h3_u5 => exact vp
    case h4_u5 => exact vq

    intro D3 c3 n3 h3' tk3 F3 N3 l3
    have l3R : ∀ p ∈ R, p.1 ≠ D3 := fun p hp => l3 p (((by walk_at "sx") : ∀ p ∈ R, p ∈ _) p hp)
    have l3d := (l3 (d, _) (by k_mem)).symm
    have l3l := (l3 (l, _) (by k_mem)).symm
    have l3o := (l3 (Do, _) (by k_mem)).symm
    have l3I := (l3 (I4, _) (by k_mem)).symm
    dsimp only at l3d l3l l3o l3I
    clear l3
    k_steps
    (try unfold Hold)
    (rename News _ _ _ _ => NN)
    (rename Fr _ _ _ _ => FF)
    refine unr_end ((Do, oDo) :: (d, _) :: (l, listOf ((vs1 ++ [Value.ref Dl]) ++ [Value.ref D3]).toArray n3) :: (R ++ (D3, _) :: tl2)) FF NN (by k_mem) (fcons (by k_mem) (fcons (by k_mem) (fcons (by k_mem) (sub_ins ((by walk_at "sx")) (by k_mem))))) (fcons y0 (fcons y1 (fcons y2 (app_ins (fun p hp => hI p (((by walk_at "sx") : ∀ p ∈ R ++ tl2, p ∈ _) p hp)) l3I)))) ?_
    exact ⟨trivial, (hJJ _ _ _).mpr ⟨D3, _, _, _, _, (vs1 ++ [.ref Dl]) ++ [.ref D3], vs1 ++ [.ref Dl], n3, .ref 56, _ :: tl2, rfl, rfl, (by rw [show day + ((i + 1 : Nat) : Int) = day + (1 + (i : Int)) by omega]; exact cS9), by rw [cRows_snoc, ← List.cons_append]; exact (hws.mono fun _ _ y => y.mono fun _ _ e => cC9 e).snoc (row_new cS9),
      fcons (⟨l3R, l3d, l3l, l3o⟩) htl2, (by exact m1), (by exact m2), (by exact m2b), (by exact m3), (by exact m4), (by exact m5), (by exact m6)⟩⟩
  case done9 =>
    intro m9 nx h tk hJ Fm Nn
    rw [List.length_map, List.length_range] at hJ
    replace hJ := (hJJ _ _ _).mp hJ
    obtain ⟨Dl, vl, ta, tb, cl, ws, vs1, n2, rr, tl2, rfl, rfl, eDl, hws, htl2, m1, m2, m2b, m3, m4, m5, m6⟩ := hJ
    have en : (1 + ((n - 1 : Nat) : Int)) = (n : Int) := by omega
    have eDw' : (Dw, RatO (0 + e * ((n : Int) : Rat)) tw uw cw) ∈ R := by rw [en] at eDw; exact eDw
    have fi : FitsR (0 + e * ((n : Int) : Rat)) := by rw [Rat.zero_add, ← en]; exact hF (n - 1) (by omega)
    have hne9 := nzden (0 + e * ((n : Int) : Rat))
    have hlg9 := Fits.log fi.den (0 + e * ((n : Int) : Rat)).den_pos (by omega)
    have hdn := den_posI (r := 0 + e * ((n : Int) : Rat))
    have z1 : ∀ p ∈ R ++ tl2, p.1 ≠ d := List.forall_mem_append.mpr ⟨aRd, fun q hq => (htl2 q hq).2.1⟩
    have z3 : ∀ p ∈ R ++ tl2, p.1 ≠ Do := List.forall_mem_append.mpr ⟨aRo, fun q hq => (htl2 q hq).2.2.2⟩
    clear F9 N9 lI4 hRg eDw hys hys0 hys1
    k_steps
    rename_i hA oD2 FA NA hdD v9 v0 v1 vE
    have fv : Fits v9 := fits_lt fi.den v0 v1
    k_dflt (refine' frac_c _ _ _ _ _ _ _ _ _ _ _ _ _ _ _ _ _ _ _ _ _ _ ?k1_u4 ?k2_u4 ?k3_u4 ?k4_u4 ?k5_u4 ?k6_u4 ?k7_u4 ?k8_u4 ?k9_u4 ?k10_u4 ?k11_u4 ?_)
    case k1_u4 | k2_u4 | k3_u4 | k4_u4 | k5_u4 => k_asm
    case k6_u4 => first | exact rfl | assumption
    case k7_u4 => ktr_room
    case k8_u4 => ktr_units
    case k9_u4 => exact hne9
    case k10_u4 => exact fv
    case k11_u4 => exact fi.den

    intro r9 D9 t9 u9 c9 h9 tk9' eR F8 N8 l8
    replace l8 := allLt_of l8
    clear FA NA
    k_steps
    rename_i hZ FZ NZ
    obtain ⟨_, e9, NZ2⟩ := news_as NZ (l := (Do, oD2) :: (d, meterD w.params j1 j2 j3 j4 j5 nm (.int 5000 j6) (.ref Df) (.ref l) (.ref D9)) :: (l, _) :: (R ++ tl2)) (fcons (by k_mem) (fcons (by k_mem) (fcons (by k_mem) (by walk_at "sx"))))
    subst e9
    exact hret D9 oD2 _ _ _ (vs1 ++ [Value.ref Dl]) tl2 _ _ m9 FZ m2 m2b m4 NZ2 hdD hws htl2
end
inductive MarkW9 : Prop where
  | mk : MarkW9
end Mine
open Mine
local macro_rules | `(tactic| walk_at "i12") => `(tactic| ((rename MarkW9 => mkS)))
namespace Mine
section
local macro_rules | `(tactic| k_lt $h:ident) => `(tactic| replace $h:ident := allLt_of $h)
theorem words22 : True := by
  k_with_none
  k_with "k_in" => (refine' in_of ?z4fF ?z4fX; (case z4fF | z4fX => k_asm))
  k_with "call type:zip" => (refine Hold.out ?_)
  k_with "subscriptTail Name Name ref str" => (k_here; (with_reducible show wpAny _ _ (subscriptTail _ _ (Value.ref _) (Value.str _ _)) _ _ _); k_dflt (refine' kda_item (knd := PySem.strKind _ _) ?z104N ?z104hp ?z104hd (strKind_is _ _ _ _) ?z104hl ?_; (case z104N => k_asm); (case z104hp => k_mem); (case z104hd => with_reducible assumption); (case z104hl => rfl); k_whole); (try dsimp only))
  k_with "compareOp Is ref ref" => (k_here; (with_reducible show wpAny _ _ (compareOp CmpOp.Is (Value.ref _) (Value.ref _)) _ _ _); k_dflt (refine' kto_is ?z105a ?z105b ?z105n ?z105c ?_; (case z105n => assumption); (case z105a | z105b => refine' kto_N ?z105N ?z105m; (case z105N => k_asm); (case z105m => k_mem)); (case z105c => kto_not); k_whole))
  k_with "hat9" => (first | exact News.get (by k_asm) (by k_mem) | exact Fr.keep (by k_asm) _ _ (by with_reducible assumption) | exact Tk.get (by k_asm) (by k_asm) (by with_reducible assumption) (by walk_at "st") | exact Frag.In.keeps (by k_asm) (Fr.keep (by k_asm)) _ _ (by k_is))
  k_with "call ref" => (k_here; (with_reducible show wpAny _ _ (call (Value.ref 108) [Value.ref _, Value.ref _]) _ _ _); k_dflt (refine' over_r ?z106k1 ?z106k2 ?z106k3 ?z106k4 ?z106k5 ?z106k6 ?z106m1 ?z106m2 ?z106k7 ?z106k8 ?z106b1 ?z106b2 ?z106hz ?z106hb ?_; (case z106k1 | z106k2 | z106k3 | z106k4 | z106k5 => k_asm); (case z106k6 => first | exact rfl | assumption); (case z106k7 => first | exact Nat.le_of_ble_eq_true rfl | ktr_room); (case z106k8 => first | exact Nat.le_of_ble_eq_true rfl | ktr_units); (case z106m1 | z106m2 => (walk_at "hat9")); (case z106b1 | z106b2 => with_reducible assumption); (case z106hb => first | assumption | omega | decide); (case z106hz => first | assumption | grind); k_whole); walk_at "i8"; (try k_sweep))
  k_with "call ref" => (k_here; (with_reducible show wpAny _ _ (call (Value.ref 87) [Value.ref _, Value.ref _]) _ _ _); k_dflt (refine' plus_r ?z107k1 ?z107k2 ?z107k3 ?z107k4 ?z107k5 ?z107k6 ?z107m1 ?z107m2 ?z107k7 ?z107k8 ?z107b1 ?z107b2 ?z107hb ?_; (case z107k1 | z107k2 | z107k3 | z107k4 | z107k5 => k_asm); (case z107k6 => first | exact rfl | assumption); (case z107k7 => first | exact Nat.le_of_ble_eq_true rfl | ktr_room); (case z107k8 => first | exact Nat.le_of_ble_eq_true rfl | ktr_units); (case z107m1 | z107m2 => (walk_at "hat9")); (case z107b1 | z107b2 => with_reducible assumption); (case z107hb => first | assumption | omega | decide); k_whole); walk_at "i8"; (try k_sweep))
  k_with "call ref" => (k_here; (with_reducible show wpAny _ _ (call (Value.ref 101) [Value.ref _, Value.ref _]) _ _ _); k_dflt (refine' times_r ?z108k1 ?z108k2 ?z108k3 ?z108k4 ?z108k5 ?z108k6 ?z108m1 ?z108m2 ?z108k7 ?z108k8 ?z108b1 ?z108b2 ?z108hb ?_; (case z108k1 | z108k2 | z108k3 | z108k4 | z108k5 => k_asm); (case z108k6 => first | exact rfl | assumption); (case z108k7 => first | exact Nat.le_of_ble_eq_true rfl | ktr_room); (case z108k8 => first | exact Nat.le_of_ble_eq_true rfl | ktr_units); (case z108m1 | z108m2 => (walk_at "hat9")); (case z108b1 | z108b2 => with_reducible assumption); (case z108hb => first | assumption | omega | decide); k_whole); walk_at "i8"; (try k_sweep))
  k_with "k_ne" => (refine neN ?_; (try dsimp only); first | with_reducible assumption | exact Ne.symm (by with_reducible assumption) | exact apL (by with_reducible assumption) (by k_mem) | exact (apL (by with_reducible assumption) (by k_mem)).symm | exact apLt (by with_reducible assumption) (by k_mem) | exact (apLt (by with_reducible assumption) (by k_mem)).symm)
  k_with "k_all" => (first | with_reducible assumption | exact List.forall_mem_nil _ | (refine fcons (?_) (?_) <;> first | k_ne | k_all) | exact allLt_mem (by with_reducible assumption))
  k_with "bits_by_make" => (with_reducible assumption)
  k_with "call ref" => (k_here; (with_reducible show wpAny _ _ (call (Value.ref 72) [Value.int _ _, Value.int _ _]) _ _ _); k_dflt (refine' frac_use ?z109k1 ?z109k2 ?z109k3 ?z109k4 ?z109k5 ?z109k6 ?z109k7 ?z109k8 ?z109k9 ?z109k10 ?z109k11 ?z109k12 ?z109k13 ?_; (case z109k1 | z109k2 | z109k3 | z109k4 | z109k5 => k_asm); (case z109k6 => first | exact rfl | assumption); (case z109k7 => first | exact Nat.le_of_ble_eq_true rfl | ktr_room); (case z109k8 => first | exact Nat.le_of_ble_eq_true rfl | ktr_units); (case z109k10 | z109k11 => bits_by_make); (case z109k12 | z109k13 => decide); (case z109k9 => first | exact nzden _ | omega | ((try k_fmods); omega) | (refine nzmul ?_ ?_ <;> first | exact nzden _ | omega)); k_whole); walk_at "i9"; (try k_sweep))
  k_with "call ref" => (k_here; (with_reducible show wpAny _ _ (call (Value.ref 72) [Value.int _ _, Value.int 1 _]) _ _ _); k_dflt (refine' frac_one ?z110k1 ?z110k2 ?z110k3 ?z110k4 ?z110k5 ?z110k6 ?z110k7 ?z110k8 ?z110k10 ?z110k12 ?_; (case z110k1 | z110k2 | z110k3 | z110k4 | z110k5 => k_asm); (case z110k6 => first | exact rfl | assumption); (case z110k7 => first | exact Nat.le_of_ble_eq_true rfl | ktr_room); (case z110k8 => first | exact Nat.le_of_ble_eq_true rfl | ktr_units); (case z110k10 => bits_by_make); (case z110k12 => decide); k_whole); walk_at "i10"; (try k_sweep))
  k_with "call ref" => (k_here; (with_reducible show wpAny _ _ (call (Value.ref 72) [Value.int _ _]) _ _ _); k_dflt (refine' frac_dflt ?z111k1 ?z111k2 ?z111k3 ?z111k4 ?z111k5 ?z111k6 ?z111k7 ?z111k8 ?z111k10 ?z111k12 ?_; (case z111k1 | z111k2 | z111k3 | z111k4 | z111k5 => k_asm); (case z111k6 => first | exact rfl | assumption); (case z111k7 => first | exact Nat.le_of_ble_eq_true rfl | ktr_room); (case z111k8 => first | exact Nat.le_of_ble_eq_true rfl | ktr_units); (case z111k10 => bits_by_make); (case z111k12 => decide); k_whole); walk_at "i10"; (try k_sweep))
  k_with "call ref" => (k_here; (with_reducible show wpAny _ _ (call (Value.ref 41) [Value.int _ _, Value.int _ _, Value.int _ _, Value.str _ _]) _ _ _); k_dflt (refine' need_number_c ?z112k1 ?z112k2 ?z112k3 ?z112k4 ?z112k5 ?z112k6 ?z112h1 ?z112h2 ?z112k7 ?_; (case z112k1 | z112k2 | z112k3 | z112k4 | z112k5 => k_asm); (case z112k6 => first | exact rfl | assumption); (case z112k7 => first | exact Nat.le_of_ble_eq_true rfl | ktr_room); (case z112h1 | z112h2 => first | decide | assumption | omega); k_whole); walk_at "i3"; (try k_sweep))
  k_with "exec For Name Name cons nil" => ((with_reducible show wpAny _ _ (exec (Stmt.For (Expr.Name _ _) (Expr.Name _ _) _ _ _) _) _ _ _); refine Hold.out ?_)
  k_with "call ref" => (k_here; (with_reducible show wpAny _ _ (call (Value.ref 335) _ _) _ _ _); refine Hold.out ?_)
  k_with "call ref" => (k_here; (with_reducible show wpAny _ _ (call (Value.ref 115) _ _) _ _ _); refine Hold.out ?_)
  k_with "call ref" => (k_here; (with_reducible show wpAny _ _ (call (Value.ref 108) _ _) _ _ _); refine Hold.out ?_)
  k_with "eval Name" => (k_here; k_dflt (refine' nameX_L ?z113k1 ?z113k2 ?_ ?z113k3 ?z113k4; (case z113k1 => k_asm); (case z113k3 | z113k4 => rfl); (case z113k2 => first | exact rfl | assumption); k_whole))
  k_with "k_mem" => (first | with_reducible assumption | (refine aL0 ?_; with_reducible assumption) | (refine cC9 ?_; k_mem))
  k_with "call ref" => (k_here; (with_reducible show wpAny _ _ (call (Value.ref 41) [Value.int _ _, Value.int _ _, Value.int _ _, Value.str _ _]) _ _ _); k_dflt (refine' need_number_c ?z114k1 ?z114k2 ?z114k3 ?z114k4 ?z114k5 ?z114k6 ?z114h1 ?z114h2 ?z114k7 ?_; (case z114k1 | z114k2 | z114k3 | z114k4 | z114k5 => k_asm); (case z114k6 => first | exact rfl | assumption); (case z114k7 => first | exact Nat.le_of_ble_eq_true rfl | ktr_room); (case z114h1 | z114h2 => first | decide | assumption | omega); k_whole); walk_at "i3"; (try k_sweep))
  k_with "execs cons" => (walk_at "i12"; refine Hold.out ?_)
  k_with "k_all" => (refine List.forall_mem_append.mpr ⟨?_, ?_⟩ <;> k_all)
  k_with "pyIter ref" => ((with_reducible show wpAny _ _ (pyIter (Value.ref _)) (fun it s₂ => TurnsAt _ _ _ _ _ _ _ _ _ it s₂) _ _); refine Hold.out ?_)
  trivial
theorem tail3 {w : World} {a : Addr} {base h₀ : Heap} {L0 L fa : Addr} {cdv : Value} {m : Str → Option Value} {s : Shared} {Q : Flow → Shared → Prop} {E : Value → Shared → Prop} {x1 d1 lu x2 d2 lv Df1 Df2 Do lr lc Du Dv D6u D6v TLu TLv : Addr} {j11 j21 j31 j41 j51 j61 j12 j22 j32 j42 j52 j62 td tn t1 t2 tsu tsv : Tok} {nm1 nm2 : Value} {n n1 n2 nr nc : Nat} {day : Int} {e1 e2 : Rat} {oM oE oDo : Obj} {cM cE : Option Value} {ysu ysv : List Value} {R3 : List (Addr × Obj)} 
    (B : Below (ktrTop dp un gd cn cs L0 a ccd cl outer) base (envX cn cs L0 a ccd cl :: outer) h₀) (X : (HD.K w.params).In h₀) (T : Top p loose mean mg mb h₀) (hd : dp + 20 < recursionLimit) (hu : un + 900 < cLine) (F : Fr h₀ L s.heap m) (N : News h₀ L s.heap ((Do, oDo) :: (L + 1 + 1, oE) :: (L + 1, oM) :: (d1, meterD w.params j11 j21 j31 j41 j51 nm1 (.int 5000 j61) (.ref Df1) (.ref lu) (.ref 56)) :: (lu, listOf ([] : List Value).toArray n1) :: (d2, meterD w.params j12 j22 j32 j42 j52 nm2 (.int 5000 j62) (.ref Df2) (.ref lv) (.ref 56)) :: (lv, listOf ([] : List Value).toArray n2) :: R3)) (mlr : (lr, listOf [Value.ref Du, Value.ref Dv].toArray nr) ∈ R3) (mlc : (lc, listOf [Value.ref TLu, Value.ref TLv].toArray nc) ∈ R3) (mDu : (Du, { cls := .type "tuple", data := .seq #[.str (Str.ofString "u") t1, .ref x1, .int 0 tsu, .ref D6u] }) ∈ R3) (mDv : (Dv, { cls := .type "tuple", data := .seq #[.str (Str.ofString "v") t2, .ref x2, .int 0 tsv, .ref D6v] }) ∈ R3) (mTu : (TLu, LCg.lst ysu) ∈ R3) (mTv : (TLv, LCg.lst ysv) ∈ R3) (mx1 : (x1, instObj 393 d1) ∈ R3) (mx2 : (x2, instObj 393 d2) ∈ R3)
    (hysu : All2 (RatN (Led R3)) ysu ((List.range n).map fun j : Nat => (0 + e1 * ((1 + (j : Int) : Int) : Rat)))) (hysv : All2 (RatN (Led R3)) ysv ((List.range n).map fun j : Nat => (0 + e2 * ((1 + (j : Int) : Int) : Rat)))) (hF1 : ∀ j : Nat, j < n → FitsR (e1 * ((1 + (j : Int) : Int) : Rat))) (hF2 : ∀ j : Nat, j < n → FitsR (e2 * ((1 + (j : Int) : Int) : Rat))) (hn1 : 1 ≤ n) (hn2 : n ≤ 100) (hday : 1 ≤ day) (hday2 : day ≤ 1000)
    (qM : oM.data = .cell cM) (qE : oE.data = .cell cE) (hDo : oDo.IsDictOf (PySem.strKind Challenge.rw_ui0509_16.row.prog w) []) (lDo : (Do == sysModules) = false) (hE : PassesOwn (model Challenge.rw_ui0509_16.row.prog w) ((ktrTop dp un gd cn cs L0 a ccd cl outer).deeper (envOfC (Str.ofString "count_days") HD.fs34.1 L fa cdv)) (envOfC (Str.ofString "count_days") HD.fs34.1 L fa cdv) E)
    (rDo : ∀ p ∈ R3, p.1 ≠ Do) (rd1 : ∀ p ∈ R3, p.1 ≠ d1) (ru1 : ∀ p ∈ R3, p.1 ≠ lu) (rd2 : ∀ p ∈ R3, p.1 ≠ d2) (ru2 : ∀ p ∈ R3, p.1 ≠ lv) (rc1 : ∀ p ∈ R3, p.1 ≠ L + 1) (rc2 : ∀ p ∈ R3, p.1 ≠ L + 1 + 1) (dDo : AllLt Do [(d1, oDo), (lu, oDo), (d2, oDo), (lv, oDo), (L + 1 + 1, oDo), (L + 1, oDo)]) (dc1 : AllLt (L + 1) [(d1, oDo), (lu, oDo), (d2, oDo), (lv, oDo)]) (dc2 : AllLt (L + 1 + 1) [(L + 1, oDo), (d1, oDo), (lu, oDo), (d2, oDo), (lv, oDo)]) (nlu : lu ≠ d1) (nlv : lv ≠ d2) (n21 : d2 ≠ d1) (n2u : d2 ≠ lu) (nv1 : lv ≠ d1) (nvu : lv ≠ lu)
    (n_rows : m (Str.ofString "rows") = some (.ref lr)) (n_counted : m (Str.ofString "counted") = some (.ref lc)) (n_day : m (Str.ofString "day") = some (.int day td)) (n_days : m (Str.ofString "days") = some (.int (n : Int) tn)) (n_out : m (Str.ofString "out") = some (.ref Do))
    (hret : ∀ (Dr1 Dr2 : Addr) (nw1 nw2 : Nat) (ws1 ws2 : List Value) (tl : List (Addr × Obj)) (h' : Heap) (tk' : Nat) (m' : Str → Option Value), Fr h₀ L h' m' → News h₀ L h' ((d1, meterD w.params j11 j21 j31 j41 j51 nm1 (.int 5000 j61) (.ref Df1) (.ref lu) (.ref Dr1)) :: (lu, listOf ws1.toArray nw1) :: (d2, meterD w.params j12 j22 j32 j42 j52 nm2 (.int 5000 j62) (.ref Df2) (.ref lv) (.ref Dr2)) :: (lv, listOf ws2.toArray nw2) :: (R3 ++ tl)) → All2 (RowN (Led tl)) ws1 ((day, 0, none) :: cRows 5000 day 0 0 e1 n) → All2 (RowN (Led tl)) ws2 ((day, 0, none) :: cRows 5000 day 0 0 e2 n) → Q (.ret (.ref Do)) { s with heap := h', toks := tk' }) :
    wpAny (model Challenge.rw_ui0509_16.row.prog w) ((ktrTop dp un gd cn cs L0 a ccd cl outer).deeper (envOfC (Str.ofString "count_days") HD.fs34.1 L fa cdv)) (execs (HD.fb34.1.drop 8) (envOfC (Str.ofString "count_days") HD.fs34.1 L fa cdv)) Q E s := by
  w_top off
  revert X; k_fill; intro X
  dsimp only [HD.nth, HD.fb34, HD.fs34, List.drop_succ_cons, List.drop_zero]
  (with_unfolding_all refine' wpAny_execs_cons ?_)
  (with_unfolding_all refine' For_turns F ?_)
  k_whole
  k_steps
  unfold Hold
  (rename Fr _ _ _ _ => F9)
  (rename News _ _ _ _ => N9)
  refine ktu_zip (xs := [.ref Du, .ref Dv]) (ys := [.ref TLu, .ref TLv]) rfl F9 N9 (((by walk_at "sx") : ∀ p ∈ R3, p ∈ _) _ mlr) rfl rfl (((by walk_at "sx") : ∀ p ∈ R3, p ∈ _) _ mlc) rfl rfl (fun I3 lI3 => ?_)
  with_unfolding_all refine ItemsRest.pair (fun T' t' h' tk' hT' F' => ?_)
  refine AllObj.cons fun oa ha => AllObj.cons fun ob hb => AllObj.cons fun oc hc => AllObj.cons fun od hd' => AllObj.cons fun oe' he => AllObj.nil fun N' => ?_
  (try dsimp only [List.cons_append, List.nil_append] at N')
  have g1 : @LT.lt Nat _ Do I3 := lI3 (Do, _) cS9
  have g2 : @LT.lt Nat _ d1 I3 := lI3 (d1, _) m3K
  have g3 : @LT.lt Nat _ lu I3 := lI3 (lu, _) m4K
  have g4 : @LT.lt Nat _ d2 I3 := lI3 (d2, _) m5K
  have g5 : @LT.lt Nat _ lv I3 := lI3 (lv, _) m6K
  have g6 : @LT.lt Nat _ (L + 1) I3 := lI3 (L + 1, _) m2K
  have g7 : @LT.lt Nat _ (L + 1 + 1) I3 := lI3 (L + 1 + 1, _) m1K
  have g3R : ∀ p ∈ R3, @LT.lt Nat _ p.1 I3 := fun p hp => lI3 p (((by walk_at "sx") : ∀ p ∈ R3, p ∈ _) p hp)
  clear lI3 F9 N9
  obtain ⟨RD, eRD⟩ : ∃ RD, RD = (I3 + 4, oa) :: (I3 + 2, ob) :: (I3 + 3, oc) :: (I3, od) :: (I3 + 1, oe') :: R3 := ⟨_, rfl⟩
  obtain ⟨_, e9, ND⟩ := news_as N' (l := (Do, oDo) :: (L + 1 + 1, oE) :: (L + 1, oM) :: (d1, _) :: (lu, _) :: (d2, _) :: (lv, _) :: RD) (fcons m5K (fcons m6K (fcons m7K (fcons m8K (fcons m9K (fcons m10K (fcons m11K (by rw [eRD]; exact fcons cS9 (fcons m1K (fcons m2K (fcons m3K (fcons m4K (by walk_at "sx")))))))))))))
  subst e9
  clear N'
  have sD : ∀ p ∈ R3, p ∈ RD := by rw [eRD]; exact fun p hp => cC9 (cC9 (cC9 (cC9 (cC9 hp))))
  have iD : ∀ p ∈ [(I3 + 4, oa), (I3 + 2, ob), (I3 + 3, oc), (I3, od), (I3 + 1, oe')], p ∈ RD := by rw [eRD]; exact fcons cS9 (fcons m1K (fcons m2K (fcons m3K (fcons m4K (List.forall_mem_nil _)))))
  have fDo : ∀ p ∈ RD, p.1 ≠ Do := by rw [eRD]; exact five g1 rDo
  have fd1 : ∀ p ∈ RD, p.1 ≠ d1 := by rw [eRD]; exact five g2 rd1
  have fu1 : ∀ p ∈ RD, p.1 ≠ lu := by rw [eRD]; exact five g3 ru1
  have fd2 : ∀ p ∈ RD, p.1 ≠ d2 := by rw [eRD]; exact five g4 rd2
  have fu2 : ∀ p ∈ RD, p.1 ≠ lv := by rw [eRD]; exact five g5 ru2
  have fc1 : ∀ p ∈ RD, p.1 ≠ L + 1 := by rw [eRD]; exact five g6 rc1
  have fc2 : ∀ p ∈ RD, p.1 ≠ L + 1 + 1 := by rw [eRD]; exact five g7 rc2
  have q1d1 : @Ne Nat d1 (L + 1) := apLt dc1 (by k_mem)
  have q2d1 : @Ne Nat d1 (L + 1 + 1) := apLt dc2 (by k_mem)
  have q1lu : @Ne Nat lu (L + 1) := apLt dc1 (by k_mem)
  have q2lu : @Ne Nat lu (L + 1 + 1) := apLt dc2 (by k_mem)
  have q1d2 : @Ne Nat d2 (L + 1) := apLt dc1 (by k_mem)
  have q2d2 : @Ne Nat d2 (L + 1 + 1) := apLt dc2 (by k_mem)
  have q1lv : @Ne Nat lv (L + 1) := apLt dc1 (by k_mem)
  have q2lv : @Ne Nat lv (L + 1 + 1) := apLt dc2 (by k_mem)
  have q1Do : @Ne Nat Do (L + 1) := (apLt dDo (by k_mem)).symm
  have q2Do : @Ne Nat Do (L + 1 + 1) := (apLt dDo (by k_mem)).symm
  have q21 : @Ne Nat (L + 1 + 1) (L + 1) := (apLt dc2 (by k_mem)).symm
  have mDuD := sD _ mDu
  have mkS : MarkW9 := .mk
  k_steps
  change wpAny _ _ _ _ _ _
  (rename MarkW9 => mkS)
  clear mkS
  rename_i hB FA NA hC hD1 oM1 qM1 hE1 hF3 oE1 qE1 hG1 FB NB
  clear FA NA
  obtain ⟨RE, eRE⟩ : ∃ RE, RE = (L + 1 + 1, oE1) :: (L + 1, oM1) :: (d2, meterD w.params j12 j22 j32 j42 j52 nm2 (.int 5000 j62) (.ref Df2) (.ref lv) (.ref 56)) :: (lv, listOf ([] : List Value).toArray n2) :: RD := ⟨_, rfl⟩
  obtain ⟨_, e9, NE⟩ := news_as NB (l := (Do, oDo) :: (d1, _) :: (lu, _) :: RE) (fcons cS9 (fcons m3K (fcons m4K (by rw [eRE]; exact fcons m1K (fcons m2K (fcons m5K (fcons m6K (by walk_at "sx"))))))))
  subst e9
  clear NB
  have sE : ∀ p ∈ RD, p ∈ RE := by rw [eRE]; exact fun p hp => cC9 (cC9 (cC9 (cC9 hp)))
  have kE : (L + 1 + 1, oE1) ∈ RE ∧ (L + 1, oM1) ∈ RE ∧ (d2, meterD w.params j12 j22 j32 j42 j52 nm2 (.int 5000 j62) (.ref Df2) (.ref lv) (.ref 56)) ∈ RE ∧ (lv, listOf ([] : List Value).toArray n2) ∈ RE := by rw [eRE]; exact ⟨cS9, m1K, m2K, m3K⟩
  have wd1 : ∀ p ∈ RE, p.1 ≠ d1 := by rw [eRE]; exact fcons q2d1.symm (fcons q1d1.symm (fcons n21 (fcons nv1 fd1)))
  have wu1 : ∀ p ∈ RE, p.1 ≠ lu := by rw [eRE]; exact fcons q2lu.symm (fcons q1lu.symm (fcons n2u (fcons nvu fu1)))
  have wDo : ∀ p ∈ RE, p.1 ≠ Do := by rw [eRE]; exact fcons q2Do.symm (fcons q1Do.symm (fcons (apLt dDo m2K) (fcons (apLt dDo m3K) fDo)))
  refine' turnC_u (n := n) (e := e1) (vu := 0) (tvu := t1) ?b1 ?b2 ?b3 ?b4 ?b5 FB NE kE.2.1 qM1 (sE _ (sD _ mx1)) (sE _ (sD _ mTu)) ?hys hF1 hn1 hn2 hday hday2 hE hDo lDo wd1 wu1 wDo nlu (apLt dDo cS9) (apLt dDo m1K) ?m1 ?m2 ?m3 ?m4 ?m5 ?m6 ?_
  case b1 | b2 | b3 => k_asm
  case b4 => ktr_room
  case b5 => ktr_units
  case hys => exact hysu.mono fun _ _ y => y.mono fun _ _ e => sE _ (sD _ e)
  case m1 => rfl
  case m2 => exact n_day
  case m3 => exact n_days
  case m4 => rfl
  case m5 => exact n_out
  case m6 => rfl
  intro Dr1 oD1 vo1 to1 nw1 ws1 tl1 h4 tk4 m4 F4 m4day m4days m4out N4 hD4 hws1 htl1
  k_steps
  have sF : ∀ p ∈ RE, p ∈ (Do, oD1) :: (d1, meterD w.params j11 j21 j31 j41 j51 nm1 (.int 5000 j61) (.ref Df1) (.ref lu) (.ref Dr1)) :: (lu, listOf ws1.toArray nw1) :: (RE ++ tl1) := (by walk_at "sx")
  refine unr_endL ((Do, oD1) :: (d1, meterD w.params j11 j21 j31 j41 j51 nm1 (.int 5000 j61) (.ref Df1) (.ref lu) (.ref Dr1)) :: (lu, listOf ws1.toArray nw1) :: (L + 1 + 1, oE1) :: (L + 1, oM1) :: (d2, meterD w.params j12 j22 j32 j42 j52 nm2 (.int 5000 j62) (.ref Df2) (.ref lv) (.ref 56)) :: (lv, listOf ([] : List Value).toArray n2) :: (R3 ++ tl1)) F4 N4 (fun p hp => sF _ (sE _ (iD p hp))) (fcons cS9 (fcons m1K (fcons m2K (fcons (sF _ kE.1) (fcons (sF _ kE.2.1) (fcons (sF _ kE.2.2.1) (fcons (sF _ kE.2.2.2) (sub_two (fun p hp => sF _ (sE _ (sD _ hp))) ((by walk_at "sx")))))))))) (fcons (its5 g1) (fcons (its5 g2) (fcons (its5 g3) (fcons (its5 g7) (fcons (its5 g6) (fcons (its5 g4) (fcons (its5 g5) (List.forall_mem_append.mpr ⟨fun p hp => its5 (g3R p hp), fun q hq p hp => ((htl1 q hq).1 p (sE _ (iD p hp))).symm⟩)))))))) ⟨⟨((by walk_at "sx") : ∀ p ∈ R3, p ∈ _) _ mlr, ((by walk_at "sx") : ∀ p ∈ R3, p ∈ _) _ mlc, trivial⟩, ?_⟩
  have jl1 : ∀ q ∈ tl1, (∀ p ∈ R3, p.1 ≠ q.1) ∧ q.1 ≠ d1 ∧ q.1 ≠ lu ∧ q.1 ≠ Do ∧ q.1 ≠ d2 ∧ q.1 ≠ lv ∧ q.1 ≠ L + 1 ∧ q.1 ≠ L + 1 + 1 := fun q hq => ⟨fun p hp => (htl1 q hq).1 p (sE _ (sD _ hp)), (htl1 q hq).2.1, (htl1 q hq).2.2.1, (htl1 q hq).2.2.2, ((htl1 q hq).1 _ kE.2.2.1).symm, ((htl1 q hq).1 _ kE.2.2.2).symm, ((htl1 q hq).1 _ kE.2.1).symm, ((htl1 q hq).1 _ kE.1).symm⟩
  have il1 : ∀ q ∈ tl1, ∀ p ∈ [(I3 + 4, oa), (I3 + 2, ob), (I3 + 3, oc), (I3, od), (I3 + 1, oe')], q.1 ≠ p.1 := fun q hq p hp => ((htl1 q hq).1 p (sE _ (iD p hp))).symm
  clear sF sE kE wd1 wu1 wDo htl1 eRE N4 F4 NE FB sD iD fDo fd1 fu1 fd2 fu2 fc1 fc2 mDuD eRD
  have tl11 : ∀ q ∈ tl1, q.1 ≠ L + 1 := fun q hq => (jl1 q hq).2.2.2.2.2.2.1
  have tl12 : ∀ q ∈ tl1, q.1 ≠ L + 1 + 1 := fun q hq => (jl1 q hq).2.2.2.2.2.2.2
  have mkS : MarkW9 := .mk
  k_steps
  change wpAny _ _ _ _ _ _
  (rename MarkW9 => mkS)
  clear mkS
  rename_i T2 tt2 hZ tkZ hT2 pa hpa pb hpb pc hpc pd hpd pe hpe h6 h5 FA NA h4' h3 oM2 qM2 h2 h1 oE2 qE2 h0' FB NB
  clear FA NA
  obtain ⟨RG, eRG⟩ : ∃ RG, RG = (L + 1 + 1, oE2) :: (L + 1, oM2) :: (d1, meterD w.params j11 j21 j31 j41 j51 nm1 (.int 5000 j61) (.ref Df1) (.ref lu) (.ref Dr1)) :: (lu, listOf ws1.toArray nw1) :: (I3 + 4, pa) :: (I3 + 2, pb) :: (I3 + 3, pc) :: (I3, pd) :: (I3 + 1, pe) :: (R3 ++ tl1) := ⟨_, rfl⟩
  obtain ⟨_, e9, NG⟩ := news_as NB (l := (Do, oD1) :: (d2, _) :: (lv, _) :: RG) (fcons m5K (fcons m10K (fcons m11K (by rw [eRG]; exact fcons m8K (fcons m9K (fcons m6K (fcons m7K (fcons cS9 (fcons m1K (fcons m2K (fcons m3K (fcons m4K (by walk_at "sx")))))))))))))
  subst e9
  clear NB
  have sG : ∀ p ∈ R3 ++ tl1, p ∈ RG := by rw [eRG]; exact (by walk_at "sx")
  have kG : (L + 1 + 1, oE2) ∈ RG ∧ (L + 1, oM2) ∈ RG ∧ (d1, meterD w.params j11 j21 j31 j41 j51 nm1 (.int 5000 j61) (.ref Df1) (.ref lu) (.ref Dr1)) ∈ RG ∧ (lu, listOf ws1.toArray nw1) ∈ RG := by rw [eRG]; exact ⟨cS9, m1K, m2K, m3K⟩
  have iG : ∀ p ∈ [(I3 + 4, pa), (I3 + 2, pb), (I3 + 3, pc), (I3, pd), (I3 + 1, pe)], p ∈ RG := by rw [eRG]; exact fcons m4K (fcons m5K (fcons m6K (fcons m7K (fcons m8K (List.forall_mem_nil _)))))
  have wd2 : ∀ p ∈ RG, p.1 ≠ d2 := by rw [eRG]; exact fcons q2d2.symm (fcons q1d2.symm (fcons n21.symm (fcons n2u.symm (five g4 (List.forall_mem_append.mpr ⟨rd2, fun q hq => (jl1 q hq).2.2.2.2.1⟩)))))
  have wu2 : ∀ p ∈ RG, p.1 ≠ lv := by rw [eRG]; exact fcons q2lv.symm (fcons q1lv.symm (fcons nv1.symm (fcons nvu.symm (five g5 (List.forall_mem_append.mpr ⟨ru2, fun q hq => (jl1 q hq).2.2.2.2.2.1⟩)))))
  have wDo : ∀ p ∈ RG, p.1 ≠ Do := by rw [eRG]; exact fcons q2Do.symm (fcons q1Do.symm (fcons (apLt dDo cS9) (fcons (apLt dDo m1K) (five g1 (List.forall_mem_append.mpr ⟨rDo, fun q hq => (jl1 q hq).2.2.2.1⟩)))))
  have sG3 : ∀ p ∈ R3, p ∈ RG := fun p hp => sG p (aL0 hp)
  refine' turnC_v (n := n) (e := e2) (vu := vo1) (tvu := to1) ?b1 ?b2 ?b3 ?b4 ?b5 FB NG kG.2.1 qM2 (sG3 _ mx2) (sG3 _ mTv) ?hys hF2 hn1 hn2 hday hday2 hE hD4 lDo wd2 wu2 wDo nlv (apLt dDo m2K) (apLt dDo m3K) ?m1 ?m2 ?m3 ?m4 ?m5 ?m6 ?_
  case b1 | b2 | b3 => k_asm
  case b4 => ktr_room
  case b5 => ktr_units
  case hys => exact hysv.mono fun _ _ y => y.mono fun _ _ e => sG3 _ e
  case m1 => rfl
  case m2 => exact m4day
  case m3 => exact m4days
  case m4 => rfl
  case m5 => exact m4out
  case m6 => rfl
  intro Dr2 oD2 vo2 to2 nw2 ws2 tl2 h6 tk6 m6 F6 m6day m6days m6out N6 hD6 hws2 htl2
  k_steps
  have sH : ∀ p ∈ RG, p ∈ (Do, oD2) :: (d2, meterD w.params j12 j22 j32 j42 j52 nm2 (.int 5000 j62) (.ref Df2) (.ref lv) (.ref Dr2)) :: (lv, listOf ws2.toArray nw2) :: (RG ++ tl2) := (by walk_at "sx")
  refine unr_endL ((Do, oD2) :: (d2, meterD w.params j12 j22 j32 j42 j52 nm2 (.int 5000 j62) (.ref Df2) (.ref lv) (.ref Dr2)) :: (lv, listOf ws2.toArray nw2) :: (L + 1 + 1, oE2) :: (L + 1, oM2) :: (d1, meterD w.params j11 j21 j31 j41 j51 nm1 (.int 5000 j61) (.ref Df1) (.ref lu) (.ref Dr1)) :: (lu, listOf ws1.toArray nw1) :: ((R3 ++ tl1) ++ tl2)) F6 N6 (fun p hp => sH _ (iG p hp)) (fcons cS9 (fcons m1K (fcons m2K (fcons (sH _ kG.1) (fcons (sH _ kG.2.1) (fcons (sH _ kG.2.2.1) (fcons (sH _ kG.2.2.2) (sub_two (fun p hp => sH _ (sG p hp)) ((by walk_at "sx")))))))))) (fcons (its5 g1) (fcons (its5 g4) (fcons (its5 g5) (fcons (its5 g7) (fcons (its5 g6) (fcons (its5 g2) (fcons (its5 g3) (List.forall_mem_append.mpr ⟨List.forall_mem_append.mpr ⟨fun p hp => its5 (g3R p hp), fun q hq => fcons (il1 q hq (I3 + 4, oa) cS9) (fcons (il1 q hq (I3 + 2, ob) m1K) (fcons (il1 q hq (I3 + 3, oc) m2K) (fcons (il1 q hq (I3, od) m3K) (fcons (il1 q hq (I3 + 1, oe') m4K) (List.forall_mem_nil _)))))⟩, fun q hq p hp => ((htl2 q hq).1 p (iG p hp)).symm⟩)))))))) ⟨⟨((by walk_at "sx") : ∀ p ∈ R3, p ∈ _) _ mlr, ((by walk_at "sx") : ∀ p ∈ R3, p ∈ _) _ mlc, trivial⟩, ?_⟩
  clear sH sG sG3 kG iG wd2 wu2 wDo eRG NG FB N6 F6
  k_steps
  (try dsimp only)
  (rename News _ _ _ _ => NZ)
  (rename Fr _ _ _ _ => FZ)
  obtain ⟨_, e9, NZ2⟩ := news_as NZ (l := (d1, meterD w.params j11 j21 j31 j41 j51 nm1 (.int 5000 j61) (.ref Df1) (.ref lu) (.ref Dr1)) :: (lu, listOf ws1.toArray nw1) :: (d2, meterD w.params j12 j22 j32 j42 j52 nm2 (.int 5000 j62) (.ref Df2) (.ref lv) (.ref Dr2)) :: (lv, listOf ws2.toArray nw2) :: (R3 ++ (tl1 ++ tl2))) (fcons m5K (fcons m6K (fcons m1K (fcons m2K (sub_two ((by walk_at "sx")) (sub_two ((by walk_at "sx")) ((by walk_at "sx"))))))))
  subst e9
  exact hret Dr1 Dr2 nw1 nw2 ws1 ws2 (tl1 ++ tl2) _ _ _ FZ NZ2 (hws1.mono fun _ _ y => y.mono fun _ _ e => aL0 e) (hws2.mono fun _ _ y => y.mono fun _ _ e => aR0 e)
end
end Mine
open Mine
local macro_rules | `(tactic| walk_at "i13") => `(tactic| (intro g' e' t' u' h' tk' F' U' R'))
namespace Mine
section
theorem words23 : True := by
  k_with_none
  k_with "k_in" => (refine' in_of ?z4fF ?z4fX; (case z4fF | z4fX => k_asm))
  k_with "call ref" => (k_here; (with_reducible show wpAny _ _ (call (Value.ref 72) [Value.int _ _, Value.int _ _]) _ _ _); k_dflt (refine' frac_x ?z115k1 ?z115k2 ?z115k3 ?z115k4 ?z115k5 ?z115k6 ?z115k7 ?z115k8 ?z115h1 ?z115h2 ?z115h3 ?z115h4 ?_; (case z115k1 | z115k2 | z115k3 | z115k4 | z115k5 => k_asm); (case z115k6 => first | exact rfl | assumption); (case z115k7 => first | exact Nat.le_of_ble_eq_true rfl | ktr_room); (case z115k8 => first | exact Nat.le_of_ble_eq_true rfl | ktr_units); (case z115h1 | z115h2 | z115h3 | z115h4 => assumption); k_whole); walk_at "i13")
  k_with "binaryOp Mult int int" => (with_reducible refine mul_int ?_ ?z116mo; (case z116mo => assumption))
  k_with "subscriptTail" => (k_here; (with_reducible show wpAny _ _ (subscriptTail _ _ (Value.ref _) (Value.int _ _)) _ _ _); k_dflt (refine' tup_g ?z117k1 ?z117k2 ?z117k3 ?z117k4 ?z117k5 ?z117k6 ?z117k7 ?z117k8 ?_ ?z117k9 ?z117k10; (case z117k1 => k_asm); (case z117k2 => first | with_reducible assumption | exact (by assumption)); (case z117k3 | z117k4 => exact rfl); (case z117k5 | z117k6 => decide); (case z117k7 | z117k8 => exact rfl); (case z117k9 => with_unfolding_all rfl); (case z117k10 => (intro _; with_unfolding_all rfl)); k_whole))
  k_with "subscriptTail" => (k_here; (with_reducible show wpAny _ _ (subscriptTail _ _ (Value.ref _) (Value.int _ _)) _ _ _); k_dflt (refine' tup_t ?z118k1 ?z118k0 ?z118k2 ?z118kS ?z118k3 ?z118k4 ?z118k5 ?z118k6 ?z118k7 ?z118k8 ?_ ?z118k9 ?z118k10; (case z118k1 | z118k0 => k_asm); (case z118k2 => with_reducible assumption); (case z118kS => exact (by walk_at "st")); (case z118k3 | z118k4 => exact rfl); (case z118k5 | z118k6 => decide); (case z118k7 | z118k8 => exact rfl); (case z118k9 => with_unfolding_all rfl); (case z118k10 => (intro _; with_unfolding_all rfl)); k_whole))
  trivial
theorem times_x {w : World} {a : Addr} {A₀ : Around} {base h₀ : Heap} {L : Addr} {m : Str → Option Value} {news : List (Addr × Obj)} {s : Shared} {Q E : Value → Shared → Prop} {D1 D2 : Addr} {r1 r2 : Rat} {t1 t1' t2 t2' : Tok} {c1 c2 : Nat} 
    (B : Below A₀ base outer h₀) (F : Fr h₀ L s.heap m) (X : (HD.K w.params).In h₀) (N : News h₀ L s.heap news) (T : Top p loose mean mg mb h₀) (hk : cs.kind = .function) (e1 : (D1, RatO r1 t1 t1' c1) ∈ news) (e2 : (D2, RatO r2 t2 t2' c2) ∈ news)
    (hd : dp + 10 < recursionLimit) (hu : un + 140 < cLine) (f1 : FitsR r1) (f2 : FitsR r2) (hl9 : Fit9 ((r1.den : Int) * (r2.den : Int))) (hb : (10 : Int) ^ 2000 ≤ (Rat.divInt (r1.num * r2.num) ((r1.den : Int) * (r2.den : Int))).num) (hf : Fits ((Rat.divInt (r1.num * r2.num) ((r1.den : Int) * (r2.den : Int))).den : Int))
    (hE : ∀ (g : Heap) (e t : Addr) (u : Tok) (h' : Heap) (tk' : Nat), Fr h₀ L g m → g.UpToSlots h' → RaisedK base (envX cn cs L a ccd cl :: outer) e (.ref 31) t [.str (Str.ofString "a fraction of too many figures") u] news h' → E (.ref e) { s with heap := h', toks := tk' }) :
    wpAny (model Challenge.rw_ui0509_16.row.prog w) (ktrTop dp un gd cn cs L a ccd cl outer) (call (.ref 101) [.ref D1, .ref D2]) Q E s := by
  have nz : (r1.den : Int) * (r2.den : Int) ≠ 0 := nzmul (nzden r1) (nzden r2)
  have m0 : IntMulOk (r1.num) (r2.num) := mulOk_of_bits (bits_fits f1.num) (bits_fits f2.num) (by omega)
  have m1 : IntMulOk ((r1.den : Int)) ((r2.den : Int)) := mulOk_of_bits (bits_fits f1.den) (bits_fits f2.den) (by omega)
  w_top off
  revert X; k_fill; intro X
  refine wpAny_call ?_
  k_dflt (refine' code_need news ?k1 ?k2 ?k3 ?k4 ?k5 ?kA ?kF ?kK ?k6 ?k7 ?k8 ?k9 ?kB ?kN ?_ ?c2 ?c3 ?c4 ?c5; walk_at "en0"; (case kN => exact fun _ h => h); walk_at "en1")
  k_steps
  all_goals exact hE _ _ _ _ _ _ (by assumption) (by assumption) (by assumption)
end
section
theorem words24 : True := by
  k_with_none
  k_with "k_in" => (refine' in_of ?z4fF ?z4fX; (case z4fF | z4fX => k_asm))
  trivial
theorem settled_x {w : World} {a : Addr} {A₀ : Around} {base h₀ : Heap} {L : Addr} {m : Str → Option Value} {news : List (Addr × Obj)} {s : Shared} {Q E : Value → Shared → Prop} {l : Addr} {nl : Nat} {tb : Tok} 
    (B : Below A₀ base outer h₀) (F : Fr h₀ L s.heap m) (X : (HD.K w.params).In h₀) (N : News h₀ L s.heap news) (T : Top p loose mean mg mb h₀) (hk : cs.kind = .function) (el : (l, listOf ([] : List Value).toArray nl) ∈ news)
    (hd : dp + 6 < recursionLimit) (hu : un + 100 < cLine)
    (hE : ∀ (g : Heap) (e t : Addr) (u : Tok) (h' : Heap) (tk' : Nat), Fr h₀ L g m → g.UpToSlots h' → RaisedK base (envX cn cs L a ccd cl :: outer) e (.ref 31) t [.str (Str.ofString "nothing is sent") u] news h' → E (.ref e) { s with heap := h', toks := tk' }) :
    wpAny (model Challenge.rw_ui0509_16.row.prog w) (ktrTop dp un gd cn cs L a ccd cl outer) (call (.ref 418) [.none, .ref l, .str (Str.ofString "b") tb]) Q E s := by
  w_top off
  revert X; k_fill; intro X
  refine wpAny_call ?_
  k_dflt (refine' code_need news ?k1 ?k2 ?k3 ?k4 ?k5 ?kA ?kF ?kK ?k6 ?k7 ?k8 ?k9 ?kB ?kN ?_ ?c2 ?c3 ?c4 ?c5; walk_at "en0"; (case kN => exact fun _ h => h); walk_at "en1")
  k_steps
  all_goals exact hE _ _ _ _ _ _ (by assumption) (by assumption) (by assumption)
end
section
theorem new_Pipe {w : World} {a : Addr} {A₀ : Around} {base h₀ : Heap} {L : Addr} {m : Str → Option Value} {news : List (Addr × Obj)} {s : Shared} {Q E : Value → Shared → Prop} {a0 : Str} {t0 : Tok} {a1 : Str} {t1 : Tok} {a2 : Str} {t2 : Tok} {a3 : Int} {t3 : Tok} {a4 : Addr} {a5 : Addr} {a6 : Addr} 
    (B : Below A₀ base outer h₀) (F : Fr h₀ L s.heap m) (X : (HD.K w.params).In h₀) (N : News h₀ L s.heap news) (T : Top p loose mean mg mb h₀) (hk : cs.kind = .function) (hd : dp + 4 < recursionLimit) (hu : un + 100 < cLine)
    (hret : ∀ (x d : Addr) (k0 k1 k2 k3 k4 k5 k6 k7 : Tok) (h' : Heap) (tk' : Nat), Fr h₀ L h' m → News h₀ L h' ((x, instObj 153 d) :: (d, dP9 w.params k0 k1 k2 k3 k4 k5 k6 k7 (.str a0 t0) (.str a1 t1) (.str a2 t2) (.int a3 t3) (.ref a4) (.ref a5) (.ref a6) (.bool true)) :: news) → d ≠ x → (∀ p ∈ news, p.1 ≠ x) → (∀ p ∈ news, p.1 ≠ d) → Q (.ref x) { s with heap := h', toks := tk' }) :
    wpAny (model Challenge.rw_ui0509_16.row.prog w) (ktrTop dp un gd cn cs L a ccd cl outer) (call (.ref 153) [Value.str a0 t0, Value.str a1 t1, Value.str a2 t2, Value.int a3 t3, Value.ref a4, Value.ref a5, Value.ref a6]) Q E s := by
  w_top off
  revert X; k_fill; intro X
  k_dflt (refine' call_cls ?k1 ?k2 ?k3 ?k4 ?k5 ?k6 ?_; (case k1 | k2 | k3 => k_asm); (case k4 | k5 | k6 => k_is); k_whole; intro x0 d0 h0 F0 N0 l0 l00)
  k_dflt (refine' code_need [(x0, instObj 153 d0), (d0, dictOf [] 0)] ?k1 ?k2 ?k3 ?k4 ?k5 ?kA ?kF ?kK ?k6 ?k7 ?k8 ?k9 ?kB ?kN ?_ ?c2 ?c3 ?c4 ?c5; walk_at "en0"; (case kN => exact fcons cS9 (fcons m1K (List.forall_mem_nil _))); walk_at "en1")
  replace l00 := ltN l00
  k_steps
  all_goals (refine leaveN_ (by k_asm) (by k_asm) ?_; intro kF kN kR kD; dsimp only [InitBack]; refine ⟨rfl, ?_⟩; exact hret x0 d0 _ _ _ _ _ _ _ _ _ _ kF (news_cons kN (by k_mem) (news_cons kN (by k_mem) fun p hp => kR p (rest_two l0 l00 hp))) (neN (by walk_at "ne9")) (fun p hp => kD p (rest_two l0 l00 hp) _ (by k_mem : (_, instObj _ _) ∈ _)) (fun p hp => kD p (rest_two l0 l00 hp) _ (by k_mem : (_, dictOf _ _) ∈ _)))
theorem new_Consumer {w : World} {a : Addr} {A₀ : Around} {base h₀ : Heap} {L : Addr} {m : Str → Option Value} {news : List (Addr × Obj)} {s : Shared} {Q E : Value → Shared → Prop} {a0 : Str} {t0 : Tok} {a1 : Str} {t1 : Tok} {a2 : Addr} {a3 : Addr} {a4 : Addr} 
    (B : Below A₀ base outer h₀) (F : Fr h₀ L s.heap m) (X : (HD.K w.params).In h₀) (N : News h₀ L s.heap news) (T : Top p loose mean mg mb h₀) (hk : cs.kind = .function) (hd : dp + 4 < recursionLimit) (hu : un + 100 < cLine)
    (hret : ∀ (x d : Addr) (k0 k1 k2 k3 k4 : Tok) (h' : Heap) (tk' : Nat), Fr h₀ L h' m → News h₀ L h' ((x, instObj 181 d) :: (d, dC9 w.params k0 k1 k2 k3 k4 (.str a0 t0) (.str a1 t1) (.ref a2) (.ref a3) (.ref a4)) :: news) → d ≠ x → (∀ p ∈ news, p.1 ≠ x) → (∀ p ∈ news, p.1 ≠ d) → Q (.ref x) { s with heap := h', toks := tk' }) :
    wpAny (model Challenge.rw_ui0509_16.row.prog w) (ktrTop dp un gd cn cs L a ccd cl outer) (call (.ref 181) [Value.str a0 t0, Value.str a1 t1, Value.ref a2, Value.ref a3, Value.ref a4]) Q E s := by
  w_top off
  revert X; k_fill; intro X
  k_dflt (refine' call_cls ?k1 ?k2 ?k3 ?k4 ?k5 ?k6 ?_; (case k1 | k2 | k3 => k_asm); (case k4 | k5 | k6 => k_is); k_whole; intro x0 d0 h0 F0 N0 l0 l00)
  k_dflt (refine' code_need [(x0, instObj 181 d0), (d0, dictOf [] 0)] ?k1 ?k2 ?k3 ?k4 ?k5 ?kA ?kF ?kK ?k6 ?k7 ?k8 ?k9 ?kB ?kN ?_ ?c2 ?c3 ?c4 ?c5; walk_at "en0"; (case kN => exact fcons cS9 (fcons m1K (List.forall_mem_nil _))); walk_at "en1")
  replace l00 := ltN l00
  k_steps
  all_goals (refine leaveN_ (by k_asm) (by k_asm) ?_; intro kF kN kR kD; dsimp only [InitBack]; refine ⟨rfl, ?_⟩; exact hret x0 d0 _ _ _ _ _ _ _ kF (news_cons kN (by k_mem) (news_cons kN (by k_mem) fun p hp => kR p (rest_two l0 l00 hp))) (neN (by walk_at "ne9")) (fun p hp => kD p (rest_two l0 l00 hp) _ (by k_mem : (_, instObj _ _) ∈ _)) (fun p hp => kD p (rest_two l0 l00 hp) _ (by k_mem : (_, dictOf _ _) ∈ _)))
end
section
theorem words25 : True := by
  k_with "hat9" => (first | exact News.get (by k_asm) (by k_mem) | exact Fr.keep (by k_asm) _ _ (by with_reducible assumption) | exact Tk.get (by k_asm) (by k_asm) (by with_reducible assumption) (by walk_at "st") | exact Frag.In.keeps (by k_asm) (Fr.keep (by k_asm)) _ _ (by k_is))
  k_with "bits_by_make" => (with_reducible assumption)
  k_with "call ref" => (k_here; (with_reducible show wpAny _ _ (call (Value.ref 80) [Value.ref _]) _ _ _); k_dflt (refine' need_cz (nx := 8) ?z119k1 ?z119k2 ?z119k3 ?z119k4 ?z119k5 ?z119k6 ?z119m1 ?z119k7 ?z119k8 ?z119b1 ?z119z1 ?_; (case z119k1 | z119k2 | z119k3 | z119k4 | z119k5 => k_asm); (case z119k6 => first | exact rfl | assumption); (case z119k7 => first | exact Nat.le_of_ble_eq_true rfl | ktr_room); (case z119k8 => first | exact Nat.le_of_ble_eq_true rfl | ktr_units); (case z119m1 => exact Frag.In.keeps (by k_asm) (Fr.keep (by k_asm)) _ _ (by k_is)); (case z119b1 | z119z1 => decide); k_whole); walk_at "i3"; (try k_sweep))
  trivial
theorem net_new {w : World} {a : Addr} {A₀ : Around} {base h₀ : Heap} {L : Addr} {m : Str → Option Value} {news : List (Addr × Obj)} {s : Shared} {Q E : Value → Shared → Prop} 
    (B : Below A₀ base outer h₀) (F : Fr h₀ L s.heap m) (X : (HD.K w.params).In h₀) (N : News h₀ L s.heap news) (T : Top p loose mean mg mb h₀) (hk : cs.kind = .function) (hd : dp + 8 < recursionLimit) (hu : un + 300 < cLine)
    (hret : ∀ (x d jl pd cd bd : Addr) (k0 k1 k2 k3 k4 k5 : Tok) (gr : Value) (nj : Nat) (opd ocd obd : Obj) (h' : Heap) (tk' : Nat), Fr h₀ L h' m → News h₀ L h' ((x, instObj 312 d) :: (d, dN9 w.params k0 k1 k2 k3 k4 k5 gr (.ref jl) (.none) (.ref pd) (.ref cd) (.ref bd)) :: (jl, listOf ([] : List Value).toArray nj) :: (pd, opd) :: (cd, ocd) :: (bd, obd) :: news) → (pd == sysModules) = false → opd.IsDictOf (PySem.strKind Challenge.rw_ui0509_16.row.prog w) [] → (cd == sysModules) = false → ocd.IsDictOf (PySem.strKind Challenge.rw_ui0509_16.row.prog w) [] → @LT.lt Nat _ d x → @LT.lt Nat _ x jl → @LT.lt Nat _ jl pd → @LT.lt Nat _ pd cd → @LT.lt Nat _ cd bd → (∀ p ∈ news, p.1 < d) → Q (.ref x) { s with heap := h', toks := tk' }) :
    wpAny (model Challenge.rw_ui0509_16.row.prog w) (ktrTop dp un gd cn cs L a ccd cl outer) (call (.ref 312) []) Q E s := by
  w_top off
  revert X; k_fill; intro X
  k_dflt (refine' call_cls ?k1 ?k2 ?k3 ?k4 ?k5 ?k6 ?_; (case k1 | k2 | k3 => k_asm); (case k4 | k5 | k6 => k_is); k_whole; intro x0 d0 h0 F0 N0 l0 l00)
  k_dflt (refine' code_need [(x0, instObj 312 d0), (d0, dictOf [] 0)] ?k1 ?k2 ?k3 ?k4 ?k5 ?kA ?kF ?kK ?k6 ?k7 ?k8 ?k9 ?kB ?kN ?_ ?c2 ?c3 ?c4 ?c5; walk_at "en0"; (case kN => exact fcons cS9 (fcons m1K (List.forall_mem_nil _))); walk_at "en1")
  replace l00 := ltN l00
  k_steps
  rename_i lj h8 ljl h7 h6 pd h5 oP loP hsP a1 a2 a3 lP h4 cd h3 oC loC hsC b1 b2 b3 lC h2 bd h1 oB loB hsB c1 c2 c3 lB h0 FF NN
  refine leaveN_ (by k_asm) (by k_asm) ?_
  intro kF kN kR kD
  dsimp only [InitBack]
  refine ⟨rfl, ?_⟩
  exact hret x0 d0 lj pd cd bd _ _ _ _ _ _ _ _ oP oC oB _ _ kF (news_cons kN (by k_mem) (news_cons kN (by k_mem) (news_cons kN (by k_mem) (news_cons kN (by k_mem) (news_cons kN (by k_mem) (news_cons kN (by k_mem) fun p hp => kR p (rest_two l0 l00 hp))))))) loP hsP loC hsC l00 ljl.1 lP.1 lC.1 lB.1 l0
end
section
end
section
theorem words26 : True := by
  k_with_none
  k_with "k_in" => (refine' in_of ?z4fF ?z4fX; (case z4fF | z4fX => k_asm))
  k_with "hat9" => (first | exact News.get (by k_asm) (by k_mem) | exact Fr.keep (by k_asm) _ _ (by with_reducible assumption) | exact Tk.get (by k_asm) (by k_asm) (by with_reducible assumption) (by walk_at "st") | exact Frag.In.keeps (by k_asm) (Fr.keep (by k_asm)) _ _ (by k_is))
  k_with "bits_by_make" => (with_reducible assumption)
  k_with "call ref" => (k_here; (with_reducible show wpAny _ _ (call (Value.ref 55) [Value.str (PySem.Str.ofString "a") _]) _ _ _); k_dflt (refine' need_name_a ?z122k1 ?z122k2 ?z122k3 ?z122k4 ?z122k5 ?z122k6 ?z122k7 ?_; (case z122k1 | z122k2 | z122k3 | z122k4 | z122k5 => k_asm); (case z122k6 => first | exact rfl | assumption); (case z122k7 => first | exact Nat.le_of_ble_eq_true rfl | ktr_room); k_whole); walk_at "i3"; (try k_sweep))
  k_with "call ref" => (k_here; (with_reducible show wpAny _ _ (call (Value.ref 55) [Value.str (PySem.Str.ofString "b") _]) _ _ _); k_dflt (refine' need_name_b ?z123k1 ?z123k2 ?z123k3 ?z123k4 ?z123k5 ?z123k6 ?z123k7 ?_; (case z123k1 | z123k2 | z123k3 | z123k4 | z123k5 => k_asm); (case z123k6 => first | exact rfl | assumption); (case z123k7 => first | exact Nat.le_of_ble_eq_true rfl | ktr_room); k_whole); walk_at "i3"; (try k_sweep))
  trivial
theorem jointU_a {w : World} {a : Addr} {A₀ : Around} {base h₀ : Heap} {L : Addr} {m : Str → Option Value} {news : List (Addr × Obj)} {s : Shared} {Q E : Value → Shared → Prop} {x d jl pd cd bd : Addr} {k0 k1 k2 k3 k4 k5 t t1 : Tok} {gr : Value} {nj : Nat} {news1 : List (Addr × Obj)} {g1 : Obj → List (Addr × Obj)} 
    (B : Below A₀ base outer h₀) (F : Fr h₀ L s.heap m) (X : (HD.K w.params).In h₀) (N : News h₀ L s.heap news) (T : Top p loose mean mg mb h₀) (hk : cs.kind = .function) (ex : (x, instObj 312 d) ∈ news) (U2 : Upd d (dN9 w.params k0 k1 k2 k3 k4 k5 gr (.ref jl) (.none) (.ref pd) (.ref cd) (.ref bd)) (dN9 w.params k0 k1 k2 k3 k4 k5 gr (.ref jl) (.str (Str.ofString "a") t) (.ref pd) (.ref cd) (.ref bd)) news news1) (U1 : UpdF jl (listOf ([] : List Value).toArray nj) news1 g1) (ndx : d ≠ x) (njx : jl ≠ x) (njd : jl ≠ d)
    (hd : dp + 8 < recursionLimit) (hu : un + 200 < cLine)
    (hret : ∀ (nj' : Nat) (h' : Heap) (tk' : Nat), Fr h₀ L h' m → News h₀ L h' (g1 (listOf ([.str (Str.ofString "a") t] : List Value).toArray nj')) → Q .none { s with heap := h', toks := tk' }) :
    wpAny (model Challenge.rw_ui0509_16.row.prog w) (ktrTop dp un gd cn cs L a ccd cl outer) (call (.ref 214) [.ref x, .str (Str.ofString "a") t]) Q E s := by
  replace ndx := neN ndx; replace njx := neN njx; replace njd := neN njd
  w_top off
  revert X; k_fill; intro X
  refine wpAny_call ?_
  k_dflt (refine' code_need [(x, instObj 312 d), (d, dN9 w.params k0 k1 k2 k3 k4 k5 gr (.ref jl) (.none) (.ref pd) (.ref cd) (.ref bd)), (jl, listOf ([] : List Value).toArray nj)] ?k1 ?k2 ?k3 ?k4 ?k5 ?kA ?kF ?kK ?k6 ?k7 ?k8 ?k9 ?kB ?kN ?_ ?c2 ?c3 ?c4 ?c5; walk_at "en0"; (case kN => exact three_in ex (Upd.mem U2) (Upd.other U2 (UpdF.mem U1) njd)); walk_at "en1")
  k_steps
  all_goals (refine leaveN_ (by k_asm) (by k_asm) ?_; intro kF kN kR kD; (try dsimp only); exact hret _ _ _ kF (news_upd2 N ex U2 U1 kN (by k_mem) (by k_mem) (by k_mem) kR))
theorem jointU_b {w : World} {a : Addr} {A₀ : Around} {base h₀ : Heap} {L : Addr} {m : Str → Option Value} {news : List (Addr × Obj)} {s : Shared} {Q E : Value → Shared → Prop} {x d jl pd cd bd : Addr} {k0 k1 k2 k3 k4 k5 t t1 : Tok} {gr : Value} {nj : Nat} {news1 : List (Addr × Obj)} {g1 : Obj → List (Addr × Obj)} 
    (B : Below A₀ base outer h₀) (F : Fr h₀ L s.heap m) (X : (HD.K w.params).In h₀) (N : News h₀ L s.heap news) (T : Top p loose mean mg mb h₀) (hk : cs.kind = .function) (ex : (x, instObj 312 d) ∈ news) (U2 : Upd d (dN9 w.params k0 k1 k2 k3 k4 k5 gr (.ref jl) (.str (Str.ofString "a") t1) (.ref pd) (.ref cd) (.ref bd)) (dN9 w.params k0 k1 k2 k3 k4 k5 gr (.ref jl) (.str (Str.ofString "a") t1) (.ref pd) (.ref cd) (.ref bd)) news news1) (U1 : UpdF jl (listOf ([.str (Str.ofString "a") t1] : List Value).toArray nj) news1 g1) (ndx : d ≠ x) (njx : jl ≠ x) (njd : jl ≠ d)
    (hd : dp + 8 < recursionLimit) (hu : un + 200 < cLine)
    (hret : ∀ (nj' : Nat) (h' : Heap) (tk' : Nat), Fr h₀ L h' m → News h₀ L h' (g1 (listOf ([.str (Str.ofString "a") t1, .str (Str.ofString "b") t] : List Value).toArray nj')) → Q .none { s with heap := h', toks := tk' }) :
    wpAny (model Challenge.rw_ui0509_16.row.prog w) (ktrTop dp un gd cn cs L a ccd cl outer) (call (.ref 214) [.ref x, .str (Str.ofString "b") t]) Q E s := by
  replace ndx := neN ndx; replace njx := neN njx; replace njd := neN njd
  w_top off
  revert X; k_fill; intro X
  refine wpAny_call ?_
  k_dflt (refine' code_need [(x, instObj 312 d), (d, dN9 w.params k0 k1 k2 k3 k4 k5 gr (.ref jl) (.str (Str.ofString "a") t1) (.ref pd) (.ref cd) (.ref bd)), (jl, listOf ([.str (Str.ofString "a") t1] : List Value).toArray nj)] ?k1 ?k2 ?k3 ?k4 ?k5 ?kA ?kF ?kK ?k6 ?k7 ?k8 ?k9 ?kB ?kN ?_ ?c2 ?c3 ?c4 ?c5; walk_at "en0"; (case kN => exact three_in ex (Upd.mem U2) (Upd.other U2 (UpdF.mem U1) njd)); walk_at "en1")
  k_steps
  all_goals (refine leaveN_ (by k_asm) (by k_asm) ?_; intro kF kN kR kD; (try dsimp only); exact hret _ _ _ kF (news_upd2 N ex U2 U1 kN (by k_mem) (by k_mem) (by k_mem) kR))
end
theorem not_need4 {h : Heap} {need : List (Addr × Obj)} {b : Addr} {o : Obj} (hN : ∀ p ∈ need, h.get? p.1 = some p.2) (hc : ∀ p ∈ need, p.2.cls ≠ .type "tuple") (e : h.get? b = some o) (ho : o.cls = .type "tuple") : b ∉ need.map (·.1) := fun k => by
  obtain ⟨p, hp, rfl⟩ := List.mem_map.mp k
  have h1 := hN p hp
  rw [e] at h1
  exact hc p hp (by rw [← Option.some.inj h1]; exact ho)
theorem dict_cls4 {prog : Program} {w : World} {o : Obj} {kvs : List (Str × Value)} (h : o.IsDictOf (PySem.strKind prog w) kvs) : o.cls ≠ .type "tuple" := by
  obtain ⟨_, _, he, _⟩ := h
  rw [he.1]
  intro h; injection h with h; exact absurd h (by decide)
theorem inst_cls4 {C d : Addr} : (instObj C d).cls ≠ .type "tuple" := fun h => nomatch h
theorem dict_cls5 {es : List DictEntry} {n : Nat} : (dictOf es n).cls ≠ .type "tuple" := by
  intro h; injection h with h; exact absurd h (by decide)
theorem list_cls4 {vs : Array Value} {n : Nat} : (listOf vs n).cls ≠ .type "tuple" := by
  intro h; injection h with h; exact absurd h (by decide)
section
theorem words27 : True := by
  k_with_none
  k_with "k_in" => (refine' in_of ?z4fF ?z4fX; (case z4fF | z4fX => k_asm))
  k_with "hat9" => (first | exact News.get (by k_asm) (by k_mem) | exact Fr.keep (by k_asm) _ _ (by with_reducible assumption) | exact Tk.get (by k_asm) (by k_asm) (by with_reducible assumption) (by walk_at "st") | exact Frag.In.keeps (by k_asm) (Fr.keep (by k_asm)) _ _ (by k_is))
  k_with "bits_by_make" => (with_reducible assumption)
  trivial
theorem njoint_a {w : World} {a : Addr} {A₀ : Around} {base h₀ : Heap} {L : Addr} {m : Str → Option Value} {news : List (Addr × Obj)} {s : Shared} {Q E : Value → Shared → Prop} {x d jl pd cd bd : Addr} {k0 k1 k2 k3 k4 k5 t t1 t2 : Tok} {gr : Value} {nj : Nat} 
    (B : Below A₀ base outer h₀) (F : Fr h₀ L s.heap m) (X : (HD.K w.params).In h₀) (N : News h₀ L s.heap news) (T : Top p loose mean mg mb h₀) (hk : cs.kind = .function) (hn : ∀ p ∈ [(x, instObj 312 d), (d, dN9 w.params k0 k1 k2 k3 k4 k5 gr (.ref jl) (.str (Str.ofString "a") t1) (.ref pd) (.ref cd) (.ref bd)), (jl, listOf [.str (Str.ofString "a") t1, .str (Str.ofString "b") t2].toArray nj)], p ∈ news) (hd : dp + 4 < recursionLimit) (hu : un + 60 < cLine)
    (hret : ∀ (h' : Heap) (tk' : Nat), Fr h₀ L h' m → News h₀ L h' news → Q (.str (Str.ofString "a") t) { s with heap := h', toks := tk' }) :
    wpAny (model Challenge.rw_ui0509_16.row.prog w) (ktrTop dp un gd cn cs L a ccd cl outer) (call (.ref 221) [.ref x, .str (Str.ofString "a") t]) Q E s := by
  w_top off
  revert X; k_fill; intro X
  refine wpAny_call ?_
  k_dflt (refine' code_need [(x, instObj 312 d), (d, dN9 w.params k0 k1 k2 k3 k4 k5 gr (.ref jl) (.str (Str.ofString "a") t1) (.ref pd) (.ref cd) (.ref bd)), (jl, listOf [.str (Str.ofString "a") t1, .str (Str.ofString "b") t2].toArray nj)] ?k1 ?k2 ?k3 ?k4 ?k5 ?kA ?kF ?kK ?k6 ?k7 ?k8 ?k9 ?kB ?kN ?_ ?c2 ?c3 ?c4 ?c5; walk_at "en0"; (case kN => exact hn); walk_at "en1")
  k_steps
  all_goals (refine leaveN_ (by k_asm) (by k_asm) ?_; intro kF kN kR kD; (try dsimp only); exact hret _ _ kF (news_back N hn kN (by walk_at "st") kR))
theorem njoint_b {w : World} {a : Addr} {A₀ : Around} {base h₀ : Heap} {L : Addr} {m : Str → Option Value} {news : List (Addr × Obj)} {s : Shared} {Q E : Value → Shared → Prop} {x d jl pd cd bd : Addr} {k0 k1 k2 k3 k4 k5 t t1 t2 : Tok} {gr : Value} {nj : Nat} 
    (B : Below A₀ base outer h₀) (F : Fr h₀ L s.heap m) (X : (HD.K w.params).In h₀) (N : News h₀ L s.heap news) (T : Top p loose mean mg mb h₀) (hk : cs.kind = .function) (hn : ∀ p ∈ [(x, instObj 312 d), (d, dN9 w.params k0 k1 k2 k3 k4 k5 gr (.ref jl) (.str (Str.ofString "a") t1) (.ref pd) (.ref cd) (.ref bd)), (jl, listOf [.str (Str.ofString "a") t1, .str (Str.ofString "b") t2].toArray nj)], p ∈ news) (hd : dp + 4 < recursionLimit) (hu : un + 60 < cLine)
    (hret : ∀ (h' : Heap) (tk' : Nat), Fr h₀ L h' m → News h₀ L h' news → Q (.str (Str.ofString "b") t) { s with heap := h', toks := tk' }) :
    wpAny (model Challenge.rw_ui0509_16.row.prog w) (ktrTop dp un gd cn cs L a ccd cl outer) (call (.ref 221) [.ref x, .str (Str.ofString "b") t]) Q E s := by
  w_top off
  revert X; k_fill; intro X
  refine wpAny_call ?_
  k_dflt (refine' code_need [(x, instObj 312 d), (d, dN9 w.params k0 k1 k2 k3 k4 k5 gr (.ref jl) (.str (Str.ofString "a") t1) (.ref pd) (.ref cd) (.ref bd)), (jl, listOf [.str (Str.ofString "a") t1, .str (Str.ofString "b") t2].toArray nj)] ?k1 ?k2 ?k3 ?k4 ?k5 ?kA ?kF ?kK ?k6 ?k7 ?k8 ?k9 ?kB ?kN ?_ ?c2 ?c3 ?c4 ?c5; walk_at "en0"; (case kN => exact hn); walk_at "en1")
  k_steps
  all_goals (refine leaveN_ (by k_asm) (by k_asm) ?_; intro kF kN kR kD; (try dsimp only); exact hret _ _ kF (news_back N hn kN (by walk_at "st") kR))
end
end Mine
open Mine
local macro_rules | `(tactic| walk_at "i14") => `(tactic| (intro x' d' k0' k1' k2' k3' k4' k5' k6' k7' h' tk' F' N' nd' ax' ad'; (replace ax' := allNe_of ax'; simp only [AllNe, and_true] at ax'); (replace ad' := allNe_of ad'; simp only [AllNe, and_true] at ad')))
namespace Mine
section
theorem words28 : True := by
  k_with_none
  k_with "k_in" => (refine' in_of ?z4fF ?z4fX; (case z4fF | z4fX => k_asm))
  k_with "call ref" => (k_here; (with_reducible show wpAny _ _ (call (Value.ref 221) [Value.ref _, Value.str (PySem.Str.ofString "a") _]) _ _ _); k_dflt (refine' njoint_a ?z124k1 ?z124k2 ?z124k3 ?z124k4 ?z124k5 ?z124k6 ?z124hn ?z124k7 ?z124k8 ?_; (case z124k1 | z124k2 | z124k3 | z124k4 | z124k5 => k_asm); (case z124k6 => first | exact rfl | assumption); (case z124k7 => first | exact Nat.le_of_ble_eq_true rfl | ktr_room); (case z124k8 => first | exact Nat.le_of_ble_eq_true rfl | ktr_units); (case z124hn => exact fcons (by k_mem) (fcons (by k_mem) (fcons (by k_mem) (List.forall_mem_nil _)))); k_whole); walk_at "i3"; (try k_sweep))
  k_with "call ref" => (k_here; (with_reducible show wpAny _ _ (call (Value.ref 221) [Value.ref _, Value.str (PySem.Str.ofString "b") _]) _ _ _); k_dflt (refine' njoint_b ?z125k1 ?z125k2 ?z125k3 ?z125k4 ?z125k5 ?z125k6 ?z125hn ?z125k7 ?z125k8 ?_; (case z125k1 | z125k2 | z125k3 | z125k4 | z125k5 => k_asm); (case z125k6 => first | exact rfl | assumption); (case z125k7 => first | exact Nat.le_of_ble_eq_true rfl | ktr_room); (case z125k8 => first | exact Nat.le_of_ble_eq_true rfl | ktr_units); (case z125hn => exact fcons (by k_mem) (fcons (by k_mem) (fcons (by k_mem) (List.forall_mem_nil _)))); k_whole); walk_at "i3"; (try k_sweep))
  k_with "hat9" => (first | exact News.get (by k_asm) (by k_mem) | exact Fr.keep (by k_asm) _ _ (by with_reducible assumption) | exact Tk.get (by k_asm) (by k_asm) (by with_reducible assumption) (by walk_at "st") | exact Frag.In.keeps (by k_asm) (Fr.keep (by k_asm)) _ _ (by k_is))
  k_with "bits_by_make" => (with_reducible assumption)
  k_with "call ref" => (k_here; (with_reducible show wpAny _ _ (call (Value.ref 80) [Value.ref _]) _ _ _); k_dflt (refine' need_cu ?z126k1 ?z126k2 ?z126k3 ?z126k4 ?z126k5 ?z126k6 ?z126m1 ?z126k7 ?z126k8 ?z126b1 ?z126b2 ?z126z1 ?z126z2 ?_; (case z126k1 | z126k2 | z126k3 | z126k4 | z126k5 => k_asm); (case z126k6 => first | exact rfl | assumption); (case z126k7 => first | exact Nat.le_of_ble_eq_true rfl | ktr_room); (case z126k8 => first | exact Nat.le_of_ble_eq_true rfl | ktr_units); (case z126m1 => (walk_at "hat9")); (case z126b1 | z126b2 => bits_by_make); (case z126z1 | z126z2 => first | assumption | decide | omega); k_whole); walk_at "i3"; (try k_sweep))
  k_with "call ref" => (k_here; (with_reducible show wpAny _ _ (call (Value.ref 80) [Value.ref _]) _ _ _); k_dflt (refine' need_cz ?z127k1 ?z127k2 ?z127k3 ?z127k4 ?z127k5 ?z127k6 ?z127m1 ?z127k7 ?z127k8 ?z127b1 ?z127z1 ?_; (case z127k1 | z127k2 | z127k3 | z127k4 | z127k5 => k_asm); (case z127k6 => first | exact rfl | assumption); (case z127k7 => first | exact Nat.le_of_ble_eq_true rfl | ktr_room); (case z127k8 => first | exact Nat.le_of_ble_eq_true rfl | ktr_units); (case z127m1 => (walk_at "hat9")); (case z127b1 => bits_by_make); (case z127z1 => first | assumption | decide | omega); k_whole); walk_at "i3"; (try k_sweep))
  k_with "call ref" => (k_here; (with_reducible show wpAny _ _ (call (Value.ref 80) [Value.ref _, Value.ref _]) _ _ _); k_dflt (refine' need_nz ?z128k1 ?z128k2 ?z128k3 ?z128k4 ?z128k5 ?z128k6 ?z128m1 ?z128m2 ?z128k7 ?z128k8 ?z128b1 ?z128b2 ?z128z1 ?z128z2 ?z128h0 ?_; (case z128k1 | z128k2 | z128k3 | z128k4 | z128k5 => k_asm); (case z128k6 => first | exact rfl | assumption); (case z128k7 => first | exact Nat.le_of_ble_eq_true rfl | ktr_room); (case z128k8 => first | exact Nat.le_of_ble_eq_true rfl | ktr_units); (case z128m1 | z128m2 => (walk_at "hat9")); (case z128b1 | z128b2 => bits_by_make); (case z128z1 | z128z2 => first | assumption | decide | omega); (case z128h0 => omega); k_whole); walk_at "i3"; (try k_sweep))
  k_with "subscriptTail" => (k_here; (with_reducible show wpAny _ _ (subscriptTail _ _ (Value.ref _) (Value.int _ _)) _ _ _); k_dflt (refine' tup_g ?z129k1 ?z129k2 ?z129k3 ?z129k4 ?z129k5 ?z129k6 ?z129k7 ?z129k8 ?_ ?z129k9 ?z129k10; (case z129k1 => k_asm); (case z129k2 => with_reducible assumption); (case z129k3 | z129k4 => exact rfl); (case z129k5 | z129k6 => decide); (case z129k7 | z129k8 => exact rfl); (case z129k9 => with_unfolding_all rfl); (case z129k10 => (intro _; with_unfolding_all rfl)); k_whole))
  k_with "call ref" => (k_here; (with_reducible show wpAny _ _ (call (Value.ref 41) [Value.int _ _, Value.int _ _, Value.int _ _, Value.str _ _]) _ _ _); k_dflt (refine' need_number_c ?z130k1 ?z130k2 ?z130k3 ?z130k4 ?z130k5 ?z130k6 ?z130h1 ?z130h2 ?z130k7 ?_; (case z130k1 | z130k2 | z130k3 | z130k4 | z130k5 => k_asm); (case z130k6 => first | exact rfl | assumption); (case z130k7 => first | exact Nat.le_of_ble_eq_true rfl | ktr_room); (case z130h1 | z130h2 => first | decide | assumption | omega); k_whole); walk_at "i3"; (try k_sweep))
  k_with "call ref" => (k_here; (with_reducible show wpAny _ _ (call (Value.ref 55) [Value.str (PySem.Str.ofString "p") _]) _ _ _); k_dflt (refine' need_name_p ?z131k1 ?z131k2 ?z131k3 ?z131k4 ?z131k5 ?z131k6 ?z131k7 ?_; (case z131k1 | z131k2 | z131k3 | z131k4 | z131k5 => k_asm); (case z131k6 => first | exact rfl | assumption); (case z131k7 => first | exact Nat.le_of_ble_eq_true rfl | ktr_room); k_whole); walk_at "i3"; (try k_sweep))
  k_with "call ref" => (k_here; (with_reducible show wpAny _ _ (call (Value.ref 153) [Value.str _ _, Value.str _ _, Value.str _ _, Value.int _ _, Value.ref _, Value.ref _, Value.ref _]) _ _ _); k_dflt (refine' new_Pipe ?z132k1 ?z132k2 ?z132k3 ?z132k4 ?z132k5 ?z132k6 ?z132k7 ?z132k8 ?_; (case z132k1 | z132k2 | z132k3 | z132k4 | z132k5 => k_asm); (case z132k6 => first | exact rfl | assumption); (case z132k7 => first | exact Nat.le_of_ble_eq_true rfl | ktr_room); (case z132k8 => first | exact Nat.le_of_ble_eq_true rfl | ktr_units); k_whole); walk_at "i14"; (try k_sweep))
  trivial
theorem add_pipe_c {w : World} {a : Addr} {A₀ : Around} {base h₀ : Heap} {L : Addr} {m : Str → Option Value} {s : Shared} {Q E : Value → Shared → Prop} {x d jl pd cd bd D1 D2 D3 : Addr} {k0 k1 k2 k3 k4 k5 t1 t2 u0 u1 u2 u3 v1 v1' v2 v2' v3 v3' : Tok} {gr : Value} {nj c1 c2 c3 : Nat} {opd : Obj} {ln n1 n2 n3 : Int} {rest : List (Addr × Obj)} 
    (B : Below A₀ base outer h₀) (F : Fr h₀ L s.heap m) (X : (HD.K w.params).In h₀) (N : News h₀ L s.heap ((x, instObj 312 d) :: (d, dN9 w.params k0 k1 k2 k3 k4 k5 gr (.ref jl) (.str (Str.ofString "a") t1) (.ref pd) (.ref cd) (.ref bd)) :: (jl, listOf [.str (Str.ofString "a") t1, .str (Str.ofString "b") t2].toArray nj) :: (pd, opd) :: rest)) (T : Top p loose mean mg mb h₀) (hk : cs.kind = .function) (ndx : d ≠ x) (njx : jl ≠ x) (njd : jl ≠ d) (npx : pd ≠ x) (npd : pd ≠ d) (npj : pd ≠ jl) (hrx : ∀ p ∈ rest, p.1 ≠ x) (hrd : ∀ p ∈ rest, p.1 ≠ d) (hrj : ∀ p ∈ rest, p.1 ≠ jl) (hrp : ∀ p ∈ rest, p.1 ≠ pd)
    (lpd : (pd == sysModules) = false) (hpd : opd.IsDictOf (PySem.strKind Challenge.rw_ui0509_16.row.prog w) []) (e1 : s.heap.get? D1 = some (T2 n1 1 v1 v1' c1)) (e2 : s.heap.get? D2 = some (T2 n2 1 v2 v2' c2)) (e3 : s.heap.get? D3 = some (T2 n3 1 v3 v3' c3))
    (h1 : 0 < n1) (h2 : 0 ≤ n2) (h3 : 0 < n3) (c1' : Builtin.Int.intBits n1 ≤ 64) (c2' : Builtin.Int.intBits n2 ≤ 64) (c3' : Builtin.Int.intBits n3 ≤ 64) (hl1 : 1 ≤ ln) (hl2 : ln ≤ 1000000)
    (hd : dp + 10 < recursionLimit) (hu : un + 400 < cLine)
    (hret : ∀ (opd' : Obj) (pp ppd : Addr) (b0 b1 b2 b3 b4 b5 b6 b7 : Tok) (h' : Heap) (tk' : Nat), Fr h₀ L h' m → News h₀ L h' ((x, instObj 312 d) :: (d, dN9 w.params k0 k1 k2 k3 k4 k5 gr (.ref jl) (.str (Str.ofString "a") t1) (.ref pd) (.ref cd) (.ref bd)) :: (jl, listOf [.str (Str.ofString "a") t1, .str (Str.ofString "b") t2].toArray nj) :: (pd, opd') :: (pp, instObj 153 ppd) :: (ppd, dP9 w.params b0 b1 b2 b3 b4 b5 b6 b7 (.str (Str.ofString "p") u0) (.str (Str.ofString "a") u1) (.str (Str.ofString "b") u2) (.int ln u3) (.ref D1) (.ref D2) (.ref D3) (.bool true)) :: rest) → opd'.IsDictOf (PySem.strKind Challenge.rw_ui0509_16.row.prog w) [(Str.ofString "p", .ref pp)] → ppd ≠ pp → (∀ p ∈ rest, p.1 ≠ pp) → (∀ p ∈ rest, p.1 ≠ ppd) → (x ≠ pp ∧ d ≠ pp ∧ jl ≠ pp ∧ pd ≠ pp) → (x ≠ ppd ∧ d ≠ ppd ∧ jl ≠ ppd ∧ pd ≠ ppd) → Q .none { s with heap := h', toks := tk' }) :
    wpAny (model Challenge.rw_ui0509_16.row.prog w) (ktrTop dp un gd cn cs L a ccd cl outer) (call (.ref 228) [.ref x, .str (Str.ofString "p") u0, .str (Str.ofString "a") u1, .str (Str.ofString "b") u2, .int ln u3, .ref D1, .ref D2, .ref D3]) Q E s := by
  replace ndx := neN ndx; replace njx := neN njx; replace njd := neN njd; replace npx := neN npx; replace npd := neN npd; replace npj := neN npj
  have hNM : ∀ p ∈ [(x, instObj 312 d), (d, dN9 w.params k0 k1 k2 k3 k4 k5 gr (.ref jl) (.str (Str.ofString "a") t1) (.ref pd) (.ref cd) (.ref bd)), (jl, listOf [.str (Str.ofString "a") t1, .str (Str.ofString "b") t2].toArray nj), (pd, opd)], p ∈ (x, instObj 312 d) :: (d, dN9 w.params k0 k1 k2 k3 k4 k5 gr (.ref jl) (.str (Str.ofString "a") t1) (.ref pd) (.ref cd) (.ref bd)) :: (jl, listOf [.str (Str.ofString "a") t1, .str (Str.ofString "b") t2].toArray nj) :: (pd, opd) :: rest := by exact fcons cS9 (fcons m1K (fcons m2K (fcons m3K (List.forall_mem_nil _))))
  have hNN : ∀ p ∈ [(x, instObj 312 d), (d, dN9 w.params k0 k1 k2 k3 k4 k5 gr (.ref jl) (.str (Str.ofString "a") t1) (.ref pd) (.ref cd) (.ref bd)), (jl, listOf [.str (Str.ofString "a") t1, .str (Str.ofString "b") t2].toArray nj), (pd, opd)], s.heap.get? p.1 = some p.2 := fun p hp => (N p (hNM p hp)).1
  w_top off
  revert X; k_fill; intro X
  refine wpAny_call ?_
  k_dflt (refine' code_need [(x, instObj 312 d), (d, dN9 w.params k0 k1 k2 k3 k4 k5 gr (.ref jl) (.str (Str.ofString "a") t1) (.ref pd) (.ref cd) (.ref bd)), (jl, listOf [.str (Str.ofString "a") t1, .str (Str.ofString "b") t2].toArray nj), (pd, opd)] ?k1 ?k2 ?k3 ?k4 ?k5 ?kA ?kF ?kK ?k6 ?k7 ?k8 ?k9 ?kB ?kN ?_ ?c2 ?c3 ?c4 ?c5; walk_at "en0"; (case kN => exact hNM); walk_at "en1")
  have hcl : ∀ p ∈ [(x, instObj 312 d), (d, dN9 w.params k0 k1 k2 k3 k4 k5 gr (.ref jl) (.str (Str.ofString "a") t1) (.ref pd) (.ref cd) (.ref bd)), (jl, listOf [.str (Str.ofString "a") t1, .str (Str.ofString "b") t2].toArray nj), (pd, opd)], p.2.cls ≠ .type "tuple" := fcons inst_cls4 (fcons dict_cls5 (fcons list_cls4 (fcons (dict_cls4 hpd) (List.forall_mem_nil _))))
  replace e1 := hG' _ _ e1 (not_need4 hNN hcl e1 rfl)
  replace e2 := hG' _ _ e2 (not_need4 hNN hcl e2 rfl)
  replace e3 := hG' _ _ e3 (not_need4 hNN hcl e3 rfl)
  have c0 : Builtin.Int.intBits 0 ≤ 1 := by decide
  clear hNN hcl hNM
  k_steps
  all_goals (try (exfalso; omega))
  rename_i pp ppd b0 b1 b2 b3 b4 b5 b6 b7 h2 tk2 F2 N2 nd2 ax2 ad2 h3 oP F3 N3 hd3
  refine leaveN_ (by k_asm) (by k_asm) ?_
  intro kF kN kR kD
  (try dsimp only)
  have hR : ∀ p ∈ rest, p ∈ restOf ((x, instObj 312 d) :: (d, dN9 w.params k0 k1 k2 k3 k4 k5 gr (.ref jl) (.str (Str.ofString "a") t1) (.ref pd) (.ref cd) (.ref bd)) :: (jl, listOf [.str (Str.ofString "a") t1, .str (Str.ofString "b") t2].toArray nj) :: (pd, opd) :: rest) [(x, instObj 312 d), (d, dN9 w.params k0 k1 k2 k3 k4 k5 gr (.ref jl) (.str (Str.ofString "a") t1) (.ref pd) (.ref cd) (.ref bd)), (jl, listOf [.str (Str.ofString "a") t1, .str (Str.ofString "b") t2].toArray nj), (pd, opd)] := fun p hp => mem_rest (cC9 (cC9 (cC9 (cC9 hp)))) (by simp only [List.map_cons, List.map_nil, List.mem_cons, List.not_mem_nil, or_false, not_or]; exact ⟨hrx p hp, hrd p hp, hrj p hp, hrp p hp⟩)
  exact hret oP pp ppd _ _ _ _ _ _ _ _ _ _ kF (news_cons kN (by k_mem) (news_cons kN (by k_mem) (news_cons kN (by k_mem) (news_cons kN (by k_mem) (news_cons kN (by k_mem) (news_cons kN (by k_mem) fun p hp => kR p (hR p hp))))))) hd3 nd2 (fun p hp => kD p (hR p hp) _ (by k_mem : (pp, instObj _ _) ∈ _)) (fun p hp => kD p (hR p hp) _ (by k_mem : (ppd, dictOf _ _) ∈ _)) ax2 ad2
end
theorem rep_get9 {n i : Nat} {a v : Value} (h : (List.replicate n a)[i]? = some v) : v = a := by
  rw [List.getElem?_replicate] at h
  split at h
  · exact (Option.some.inj h).symm
  · cases h
theorem len_rep9 {prog : Program} {w : World} {A : Around} {E : Value → Shared → Prop} {s : Shared} {h₀ : Heap} {L l : Addr} {news : List (Addr × Obj)} {v : Value} {n : Nat} {Q : Value → Shared → Prop} (N : News h₀ L s.heap news) (hm : (l, listOf (List.replicate 24 v).toArray n) ∈ news) (h : ∀ tk, Q (.int 24 tk) { s with toks := tk + 1 }) :
    wpAny (model prog w) A (call (.builtin "len") [.ref l]) Q E s := lst_len N hm (by rw [List.length_replicate]; decide) (by rw [List.length_replicate]; exact h)
end Mine
open Mine
local macro_rules | `(tactic| walk_at "i15") => `(tactic| (intro x' d' k0' k1' k2' k3' k4' h' tk' F' N' nd' ax' ad'; (replace ax' := allNe_of ax'; simp only [AllNe, and_true] at ax'); (replace ad' := allNe_of ad'; simp only [AllNe, and_true] at ad')))
namespace Mine
section
theorem words29 : True := by
  k_with_none
  k_with "k_in" => (refine' in_of ?z4fF ?z4fX; (case z4fF | z4fX => k_asm))
  k_with "k_ne" => (refine neN ?_; (try dsimp only); first | with_reducible assumption | exact Ne.symm (by with_reducible assumption) | omega)
  k_with "call ref" => (k_here; (with_reducible show wpAny _ _ (call (Value.ref 221) [Value.ref _, Value.str (PySem.Str.ofString "a") _]) _ _ _); k_dflt (refine' njoint_a ?z133k1 ?z133k2 ?z133k3 ?z133k4 ?z133k5 ?z133k6 ?z133hn ?z133k7 ?z133k8 ?_; (case z133k1 | z133k2 | z133k3 | z133k4 | z133k5 => k_asm); (case z133k6 => first | exact rfl | assumption); (case z133k7 => first | exact Nat.le_of_ble_eq_true rfl | ktr_room); (case z133k8 => first | exact Nat.le_of_ble_eq_true rfl | ktr_units); (case z133hn => exact fcons (by k_mem) (fcons (by k_mem) (fcons (by k_mem) (List.forall_mem_nil _)))); k_whole); walk_at "i3"; (try k_sweep))
  k_with "call ref" => (k_here; (with_reducible show wpAny _ _ (call (Value.ref 221) [Value.ref _, Value.str (PySem.Str.ofString "b") _]) _ _ _); k_dflt (refine' njoint_b ?z134k1 ?z134k2 ?z134k3 ?z134k4 ?z134k5 ?z134k6 ?z134hn ?z134k7 ?z134k8 ?_; (case z134k1 | z134k2 | z134k3 | z134k4 | z134k5 => k_asm); (case z134k6 => first | exact rfl | assumption); (case z134k7 => first | exact Nat.le_of_ble_eq_true rfl | ktr_room); (case z134k8 => first | exact Nat.le_of_ble_eq_true rfl | ktr_units); (case z134hn => exact fcons (by k_mem) (fcons (by k_mem) (fcons (by k_mem) (List.forall_mem_nil _)))); k_whole); walk_at "i3"; (try k_sweep))
  k_with "hat9" => (first | exact News.get (by k_asm) (by k_mem) | exact Fr.keep (by k_asm) _ _ (by with_reducible assumption) | exact Tk.get (by k_asm) (by k_asm) (by with_reducible assumption) (by walk_at "st") | exact Frag.In.keeps (by k_asm) (Fr.keep (by k_asm)) _ _ (by k_is))
  k_with "bits_by_make" => (with_reducible assumption)
  k_with "call ref" => (k_here; (with_reducible show wpAny _ _ (call (Value.ref 80) [Value.ref _]) _ _ _); k_dflt (refine' need_cu ?z135k1 ?z135k2 ?z135k3 ?z135k4 ?z135k5 ?z135k6 ?z135m1 ?z135k7 ?z135k8 ?z135b1 ?z135b2 ?z135z1 ?z135z2 ?_; (case z135k1 | z135k2 | z135k3 | z135k4 | z135k5 => k_asm); (case z135k6 => first | exact rfl | assumption); (case z135k7 => first | exact Nat.le_of_ble_eq_true rfl | ktr_room); (case z135k8 => first | exact Nat.le_of_ble_eq_true rfl | ktr_units); (case z135m1 => (walk_at "hat9")); (case z135b1 | z135b2 => bits_by_make); (case z135z1 | z135z2 => first | assumption | decide | omega); k_whole); walk_at "i3"; (try k_sweep))
  k_with "call ref" => (k_here; (with_reducible show wpAny _ _ (call (Value.ref 80) [Value.ref _]) _ _ _); k_dflt (refine' need_cz ?z136k1 ?z136k2 ?z136k3 ?z136k4 ?z136k5 ?z136k6 ?z136m1 ?z136k7 ?z136k8 ?z136b1 ?z136z1 ?_; (case z136k1 | z136k2 | z136k3 | z136k4 | z136k5 => k_asm); (case z136k6 => first | exact rfl | assumption); (case z136k7 => first | exact Nat.le_of_ble_eq_true rfl | ktr_room); (case z136k8 => first | exact Nat.le_of_ble_eq_true rfl | ktr_units); (case z136m1 => (walk_at "hat9")); (case z136b1 => bits_by_make); (case z136z1 => first | assumption | decide | omega); k_whole); walk_at "i3"; (try k_sweep))
  k_with "call ref" => (k_here; (with_reducible show wpAny _ _ (call (Value.ref 80) [Value.ref _, Value.ref _]) _ _ _); k_dflt (refine' need_nz ?z137k1 ?z137k2 ?z137k3 ?z137k4 ?z137k5 ?z137k6 ?z137m1 ?z137m2 ?z137k7 ?z137k8 ?z137b1 ?z137b2 ?z137z1 ?z137z2 ?z137h0 ?_; (case z137k1 | z137k2 | z137k3 | z137k4 | z137k5 => k_asm); (case z137k6 => first | exact rfl | assumption); (case z137k7 => first | exact Nat.le_of_ble_eq_true rfl | ktr_room); (case z137k8 => first | exact Nat.le_of_ble_eq_true rfl | ktr_units); (case z137m1 | z137m2 => (walk_at "hat9")); (case z137b1 | z137b2 => bits_by_make); (case z137z1 | z137z2 => first | assumption | decide | omega); (case z137h0 => omega); k_whole); walk_at "i3"; (try k_sweep))
  k_with "subscriptTail" => (k_here; (with_reducible show wpAny _ _ (subscriptTail _ _ (Value.ref _) (Value.int _ _)) _ _ _); k_dflt (refine' tup_g ?z138k1 ?z138k2 ?z138k3 ?z138k4 ?z138k5 ?z138k6 ?z138k7 ?z138k8 ?_ ?z138k9 ?z138k10; (case z138k1 => k_asm); (case z138k2 => with_reducible assumption); (case z138k3 | z138k4 => exact rfl); (case z138k5 | z138k6 => decide); (case z138k7 | z138k8 => exact rfl); (case z138k9 => with_unfolding_all rfl); (case z138k10 => (intro _; with_unfolding_all rfl)); k_whole))
  k_with "call ref" => (k_here; (with_reducible show wpAny _ _ (call (Value.ref 55) [Value.str (PySem.Str.ofString "u") _]) _ _ _); k_dflt (refine' need_name_u ?z139k1 ?z139k2 ?z139k3 ?z139k4 ?z139k5 ?z139k6 ?z139k7 ?_; (case z139k1 | z139k2 | z139k3 | z139k4 | z139k5 => k_asm); (case z139k6 => first | exact rfl | assumption); (case z139k7 => first | exact Nat.le_of_ble_eq_true rfl | ktr_room); k_whole); walk_at "i3"; (try k_sweep))
  k_with "call ref" => (k_here; (with_reducible show wpAny _ _ (call (Value.ref 55) [Value.str (PySem.Str.ofString "v") _]) _ _ _); k_dflt (refine' need_name_v ?z140k1 ?z140k2 ?z140k3 ?z140k4 ?z140k5 ?z140k6 ?z140k7 ?_; (case z140k1 | z140k2 | z140k3 | z140k4 | z140k5 => k_asm); (case z140k6 => first | exact rfl | assumption); (case z140k7 => first | exact Nat.le_of_ble_eq_true rfl | ktr_room); k_whole); walk_at "i3"; (try k_sweep))
  k_with "call ref" => (k_here; (with_reducible show wpAny _ _ (call (Value.ref 181) [Value.str _ _, Value.str _ _, Value.ref _, Value.ref _, Value.ref _]) _ _ _); k_dflt (refine' new_Consumer ?z141k1 ?z141k2 ?z141k3 ?z141k4 ?z141k5 ?z141k6 ?z141k7 ?z141k8 ?_; (case z141k1 | z141k2 | z141k3 | z141k4 | z141k5 => k_asm); (case z141k6 => first | exact rfl | assumption); (case z141k7 => first | exact Nat.le_of_ble_eq_true rfl | ktr_room); (case z141k8 => first | exact Nat.le_of_ble_eq_true rfl | ktr_units); k_whole); walk_at "i15"; (try k_sweep))
  k_with "call builtin:len" => (k_here; (with_reducible show wpAny _ _ (call (Value.builtin "len") [Value.ref _]) _ _ _); k_dflt (refine' len_rep9 ?z142k1 ?z142k2 ?_; (case z142k1 => k_asm); (case z142k2 => k_mem); k_whole); walk_at "i4")
  k_with "eval Name" => (k_here; k_dflt (refine' ld ?z143k1 ?z143k2 ?_; (case z143k1 => k_asm); (case z143k2 => first | exact rfl | assumption); k_whole))
  k_with "exec For" => (k_here; walk_at "i7")
  k_with "exec For Name Name cons nil" => (k_here; walk_at "i7")
  k_with "exec For Name Call cons nil" => (k_here; walk_at "i7")
  k_with "exec For Tuple Name cons nil" => (k_here; walk_at "i7")
  k_with "exec For Tuple Call cons nil" => (k_here; walk_at "i7")
  k_with "exec For Name Attribute cons nil" => (k_here; walk_at "i7")
  k_with "exec For Tuple Attribute cons nil" => (k_here; walk_at "i7")
  k_with "exec For Tuple Subscript cons nil" => (k_here; walk_at "i7")
  k_with "pyIter ref" => ((with_reducible show wpAny _ _ (pyIter (Value.ref _)) (fun it s₂ => TurnsAt _ _ _ _ _ _ _ _ _ it s₂) _ _); refine Hold.out ?_)
  k_with "UnrPostW" => (dsimp only [UnrPostW])
  k_with "UnrEndW" => (refine Hold.out ?_)
  trivial
theorem add_cons_u {w : World} {a : Addr} {A₀ : Around} {base h₀ : Heap} {L : Addr} {m : Str → Option Value} {s : Shared} {Q E : Value → Shared → Prop} {x d jl pd cd bd D9 Dh D2 KX9 : Addr} {k0 k1 k2 k3 k4 k5 t1 t2 u0 u1 v1 v1' v2 v2' : Tok} {gr : Value} {nj n9 c1 c2 : Nat} {ocd : Obj} {hv n2 : Int} {rest : List (Addr × Obj)} 
    (B : Below A₀ base outer h₀) (F : Fr h₀ L s.heap m) (X : (HD.K w.params).In h₀) (N : News h₀ L s.heap ((x, instObj 312 d) :: (d, dN9 w.params k0 k1 k2 k3 k4 k5 gr (.ref jl) (.str (Str.ofString "a") t1) (.ref pd) (.ref cd) (.ref bd)) :: (jl, listOf [.str (Str.ofString "a") t1, .str (Str.ofString "b") t2].toArray nj) :: (cd, ocd) :: (D9, listOf (List.replicate 24 (Value.ref Dh)).toArray n9) :: rest)) (T : Top p loose mean mg mb h₀) (hk : cs.kind = .function) (ndx : d ≠ x) (njx : jl ≠ x) (njd : jl ≠ d) (ncx : cd ≠ x) (ncd : cd ≠ d) (ncj : cd ≠ jl) (n9x : D9 ≠ x) (n9d : D9 ≠ d) (n9j : D9 ≠ jl) (n9c : D9 ≠ cd)
    (hrx : ∀ p ∈ rest, p.1 ≠ x) (hrd : ∀ p ∈ rest, p.1 ≠ d) (hrj : ∀ p ∈ rest, p.1 ≠ jl) (hrc : ∀ p ∈ rest, p.1 ≠ cd) (hr9 : ∀ p ∈ rest, p.1 ≠ D9)
    (lcd : (cd == sysModules) = false) (hcd : ocd.IsDictOf (PySem.strKind Challenge.rw_ui0509_16.row.prog w) []) (e1 : s.heap.get? Dh = some (T2 hv 1 v1 v1' c1)) (e2 : s.heap.get? D2 = some (T2 n2 1 v2 v2' c2)) (h1 : 0 ≤ hv) (h2 : 0 < n2) (c1' : Builtin.Int.intBits hv ≤ 64) (c2' : Builtin.Int.intBits n2 ≤ 64)
    (hd : dp + 10 < recursionLimit) (hu : un + 400 < cLine)
    (hret : ∀ (ocd' : Obj) (cu cud dl : Addr) (b0 b1 b2 b3 b4 : Tok) (nl : Nat) (h' : Heap) (tk' : Nat), Fr h₀ L h' m → News h₀ L h' ((x, instObj 312 d) :: (d, dN9 w.params k0 k1 k2 k3 k4 k5 gr (.ref jl) (.str (Str.ofString "a") t1) (.ref pd) (.ref cd) (.ref bd)) :: (jl, listOf [.str (Str.ofString "a") t1, .str (Str.ofString "b") t2].toArray nj) :: (cd, ocd') :: (D9, listOf (List.replicate 24 (Value.ref Dh)).toArray n9) :: (cu, instObj 181 cud) :: (cud, dC9 w.params b0 b1 b2 b3 b4 (.str (Str.ofString "u") u0) (.str (Str.ofString "b") u1) (.ref dl) (.ref D2) (.ref 56)) :: (dl, listOf (List.replicate 24 (Value.ref Dh)).toArray nl) :: rest) → ocd'.IsDictOf (PySem.strKind Challenge.rw_ui0509_16.row.prog w) [(Str.ofString "u", .ref cu)] → (∀ a ∈ [x, d, jl, cd, D9], a ≠ cu ∧ a ≠ cud ∧ a ≠ dl) → (∀ p ∈ rest, p.1 ≠ cu ∧ p.1 ≠ cud ∧ p.1 ≠ dl) → Q .none { s with heap := h', toks := tk' }) :
    wpAny (model Challenge.rw_ui0509_16.row.prog w) (ktrTop dp un gd cn cs L a ccd cl outer) (call (.ref 243) [.ref x, .str (Str.ofString "u") u0, .str (Str.ofString "b") u1, .ref D9, .ref D2]) Q E s := by
  replace ndx := neN ndx; replace njx := neN njx; replace njd := neN njd; replace ncx := neN ncx; replace ncd := neN ncd; replace ncj := neN ncj; replace n9x := neN n9x; replace n9d := neN n9d; replace n9j := neN n9j; replace n9c := neN n9c
  have hNM : ∀ p ∈ [(x, instObj 312 d), (d, dN9 w.params k0 k1 k2 k3 k4 k5 gr (.ref jl) (.str (Str.ofString "a") t1) (.ref pd) (.ref cd) (.ref bd)), (jl, listOf [.str (Str.ofString "a") t1, .str (Str.ofString "b") t2].toArray nj), (cd, ocd), (D9, listOf (List.replicate 24 (Value.ref Dh)).toArray n9)], p ∈ (x, instObj 312 d) :: (d, dN9 w.params k0 k1 k2 k3 k4 k5 gr (.ref jl) (.str (Str.ofString "a") t1) (.ref pd) (.ref cd) (.ref bd)) :: (jl, listOf [.str (Str.ofString "a") t1, .str (Str.ofString "b") t2].toArray nj) :: (cd, ocd) :: (D9, listOf (List.replicate 24 (Value.ref Dh)).toArray n9) :: rest := by exact fcons cS9 (fcons m1K (fcons m2K (fcons m3K (fcons m4K (List.forall_mem_nil _)))))
  have hNN : ∀ p ∈ [(x, instObj 312 d), (d, dN9 w.params k0 k1 k2 k3 k4 k5 gr (.ref jl) (.str (Str.ofString "a") t1) (.ref pd) (.ref cd) (.ref bd)), (jl, listOf [.str (Str.ofString "a") t1, .str (Str.ofString "b") t2].toArray nj), (cd, ocd), (D9, listOf (List.replicate 24 (Value.ref Dh)).toArray n9)], s.heap.get? p.1 = some p.2 := fun p hp => (N p (hNM p hp)).1
  w_top off
  revert X; k_fill; intro X
  refine wpAny_call ?_
  k_dflt (refine' code_need [(x, instObj 312 d), (d, dN9 w.params k0 k1 k2 k3 k4 k5 gr (.ref jl) (.str (Str.ofString "a") t1) (.ref pd) (.ref cd) (.ref bd)), (jl, listOf [.str (Str.ofString "a") t1, .str (Str.ofString "b") t2].toArray nj), (cd, ocd), (D9, listOf (List.replicate 24 (Value.ref Dh)).toArray n9)] ?k1 ?k2 ?k3 ?k4 ?k5 ?kA ?kF ?kK ?k6 ?k7 ?k8 ?k9 ?kB ?kN ?_ ?c2 ?c3 ?c4 ?c5; walk_at "en0"; (case kN => exact hNM); walk_at "en1")
  have hcl : ∀ p ∈ [(x, instObj 312 d), (d, dN9 w.params k0 k1 k2 k3 k4 k5 gr (.ref jl) (.str (Str.ofString "a") t1) (.ref pd) (.ref cd) (.ref bd)), (jl, listOf [.str (Str.ofString "a") t1, .str (Str.ofString "b") t2].toArray nj), (cd, ocd), (D9, listOf (List.replicate 24 (Value.ref Dh)).toArray n9)], p.2.cls ≠ .type "tuple" := fcons inst_cls4 (fcons dict_cls5 (fcons list_cls4 (fcons (dict_cls4 hcd) (fcons list_cls4 (List.forall_mem_nil _)))))
  replace e1 := hG' _ _ e1 (not_need4 hNN hcl e1 rfl)
  replace e2 := hG' _ _ e2 (not_need4 hNN hcl e2 rfl)
  have c0 : Builtin.Int.intBits 0 ≤ 1 := by decide
  clear hNN hcl hNM
  k_steps
  unfold Hold
  (rename Fr _ _ _ _ => lF2)
  (rename News _ _ _ _ => lN2)
  refine iter_listTurns (vs := List.replicate 24 (Value.ref Dh)) rfl lF2 lN2 (by k_mem) rfl rfl (fun I2 lI2 => ?_)
  refine items_ind (fun i m nx => nx = [(x, instObj 312 d), (d, dN9 w.params k0 k1 k2 k3 k4 k5 gr (.ref jl) (.str (Str.ofString "a") t1) (.ref pd) (.ref cd) (.ref bd)), (jl, listOf [.str (Str.ofString "a") t1, .str (Str.ofString "b") t2].toArray nj), (cd, ocd), (D9, listOf (List.replicate 24 (Value.ref Dh)).toArray n9)] ∧ m (Str.ofString "self") = some (.ref x) ∧ m (Str.ofString "name") = some (.str (Str.ofString "u") u0) ∧ m (Str.ofString "joint") = some (.str (Str.ofString "b") u1) ∧ m (Str.ofString "demands") = some (.ref D9) ∧ m (Str.ofString "drop") = some (.ref D2) ∧ m (Str.ofString "least") = some (.ref 56)) ?turn ?done _ 0 _ _ rfl (Nat.zero_le _) ⟨by k_mem, trivial⟩ (fun p hp => Nat.ne_of_lt (lI2 p hp)) ⟨rfl, rfl, rfl, rfl, rfl, rfl, rfl⟩
  case turn =>
    intro i a v m nx h tk o ha _ hI hJ hav Fm ho Nn
    obtain ⟨rfl, j1, j2, j3, j4, j5, j6⟩ := hJ
    obtain rfl := rep_get9 (n := 24) (a := Value.ref Dh) (val_get (vs := List.replicate 24 (Value.ref Dh)) ha hav)
    clear lN2 lF2 lI2
    k_steps
    (rename News _ _ _ _ => NN)
    (rename Fr _ _ _ _ => FF)
    exact unr_end [(x, instObj 312 d), (d, dN9 w.params k0 k1 k2 k3 k4 k5 gr (.ref jl) (.str (Str.ofString "a") t1) (.ref pd) (.ref cd) (.ref bd)), (jl, listOf [.str (Str.ofString "a") t1, .str (Str.ofString "b") t2].toArray nj), (cd, ocd), (D9, listOf (List.replicate 24 (Value.ref Dh)).toArray n9)] FF NN (by k_mem) ((by walk_at "sx")) (fun p hp => hI p hp) ⟨⟨by k_mem, trivial⟩, rfl, j1, j2, j3, j4, j5, j6⟩
  case done =>
    intro m nx h tk hJ Fm Nn
    obtain ⟨rfl, j1, j2, j3, j4, j5, j6⟩ := hJ
    clear lN2 lF2 lI2
    k_steps
    rename_i dl cl h9 lD h2 tk2 cu cud b0 b1 b2 b3 b4 h3 tk3 F3 N3 nd3 ax3 ad3 h4 oC F4 N4 hd4
    refine leaveN_ (by k_asm) (by k_asm) ?_
    intro kF kN kR kD
    (try dsimp only)
    have hR : ∀ p ∈ rest, p ∈ restOf ((x, instObj 312 d) :: (d, dN9 w.params k0 k1 k2 k3 k4 k5 gr (.ref jl) (.str (Str.ofString "a") t1) (.ref pd) (.ref cd) (.ref bd)) :: (jl, listOf [.str (Str.ofString "a") t1, .str (Str.ofString "b") t2].toArray nj) :: (cd, ocd) :: (D9, listOf (List.replicate 24 (Value.ref Dh)).toArray n9) :: rest) [(x, instObj 312 d), (d, dN9 w.params k0 k1 k2 k3 k4 k5 gr (.ref jl) (.str (Str.ofString "a") t1) (.ref pd) (.ref cd) (.ref bd)), (jl, listOf [.str (Str.ofString "a") t1, .str (Str.ofString "b") t2].toArray nj), (cd, ocd), (D9, listOf (List.replicate 24 (Value.ref Dh)).toArray n9)] := fun p hp => mem_rest (cC9 (cC9 (cC9 (cC9 (cC9 hp))))) (by simp only [List.map_cons, List.map_nil, List.mem_cons, List.not_mem_nil, or_false, not_or]; exact ⟨hrx p hp, hrd p hp, hrj p hp, hrc p hp, hr9 p hp⟩)
    exact hret oC cu cud dl _ _ _ _ _ _ _ _ kF (news_cons kN (by k_mem) (news_cons kN (by k_mem) (news_cons kN (by k_mem) (news_cons kN (by k_mem) (news_cons kN (by k_mem) (news_cons kN (by k_mem) (news_cons kN (by k_mem) (news_cons kN (by k_mem) fun p hp => kR p (hR p hp))))))))) hd4 (fcons (⟨ax3.2.1, ad3.2.1, Nat.ne_of_lt lD.1⟩) (fcons (⟨ax3.2.2.1, ad3.2.2.1, Nat.ne_of_lt lD.2.1⟩) (fcons (⟨ax3.2.2.2.1, ad3.2.2.2.1, Nat.ne_of_lt lD.2.2.1⟩) (fcons (⟨ax3.2.2.2.2.1, ad3.2.2.2.2.1, Nat.ne_of_lt lD.2.2.2.1⟩) (fcons (⟨ax3.2.2.2.2.2, ad3.2.2.2.2.2, Nat.ne_of_lt lD.2.2.2.2⟩) (List.forall_mem_nil _)))))) (fun p hp => ⟨kD p (hR p hp) _ (by k_mem : (cu, instObj _ _) ∈ _), kD p (hR p hp) _ (by k_mem : (cud, dictOf _ _) ∈ _), kD p (hR p hp) _ (cC9 (cC9 cS9) : (dl, _) ∈ _)⟩)
theorem add_cons_v {w : World} {a : Addr} {A₀ : Around} {base h₀ : Heap} {L : Addr} {m : Str → Option Value} {s : Shared} {Q E : Value → Shared → Prop} {x d jl pd cd bd D9 Dh D2 KX9 : Addr} {k0 k1 k2 k3 k4 k5 t1 t2 u0 u1 v1 v1' v2 v2' : Tok} {gr : Value} {nj n9 c1 c2 : Nat} {ocd : Obj} {hv n2 : Int} {rest : List (Addr × Obj)} 
    (B : Below A₀ base outer h₀) (F : Fr h₀ L s.heap m) (X : (HD.K w.params).In h₀) (N : News h₀ L s.heap ((x, instObj 312 d) :: (d, dN9 w.params k0 k1 k2 k3 k4 k5 gr (.ref jl) (.str (Str.ofString "a") t1) (.ref pd) (.ref cd) (.ref bd)) :: (jl, listOf [.str (Str.ofString "a") t1, .str (Str.ofString "b") t2].toArray nj) :: (cd, ocd) :: (D9, listOf (List.replicate 24 (Value.ref Dh)).toArray n9) :: rest)) (T : Top p loose mean mg mb h₀) (hk : cs.kind = .function) (ndx : d ≠ x) (njx : jl ≠ x) (njd : jl ≠ d) (ncx : cd ≠ x) (ncd : cd ≠ d) (ncj : cd ≠ jl) (n9x : D9 ≠ x) (n9d : D9 ≠ d) (n9j : D9 ≠ jl) (n9c : D9 ≠ cd)
    (hrx : ∀ p ∈ rest, p.1 ≠ x) (hrd : ∀ p ∈ rest, p.1 ≠ d) (hrj : ∀ p ∈ rest, p.1 ≠ jl) (hrc : ∀ p ∈ rest, p.1 ≠ cd) (hr9 : ∀ p ∈ rest, p.1 ≠ D9)
    (lcd : (cd == sysModules) = false) (hcd : ocd.IsDictOf (PySem.strKind Challenge.rw_ui0509_16.row.prog w) [(Str.ofString "u", .ref KX9)]) (e1 : s.heap.get? Dh = some (T2 hv 1 v1 v1' c1)) (e2 : s.heap.get? D2 = some (T2 n2 1 v2 v2' c2)) (h1 : 0 ≤ hv) (h2 : 0 < n2) (c1' : Builtin.Int.intBits hv ≤ 64) (c2' : Builtin.Int.intBits n2 ≤ 64)
    (hd : dp + 10 < recursionLimit) (hu : un + 400 < cLine)
    (hret : ∀ (ocd' : Obj) (cu cud dl : Addr) (b0 b1 b2 b3 b4 : Tok) (nl : Nat) (h' : Heap) (tk' : Nat), Fr h₀ L h' m → News h₀ L h' ((x, instObj 312 d) :: (d, dN9 w.params k0 k1 k2 k3 k4 k5 gr (.ref jl) (.str (Str.ofString "a") t1) (.ref pd) (.ref cd) (.ref bd)) :: (jl, listOf [.str (Str.ofString "a") t1, .str (Str.ofString "b") t2].toArray nj) :: (cd, ocd') :: (D9, listOf (List.replicate 24 (Value.ref Dh)).toArray n9) :: (cu, instObj 181 cud) :: (cud, dC9 w.params b0 b1 b2 b3 b4 (.str (Str.ofString "v") u0) (.str (Str.ofString "b") u1) (.ref dl) (.ref D2) (.ref 56)) :: (dl, listOf (List.replicate 24 (Value.ref Dh)).toArray nl) :: rest) → ocd'.IsDictOf (PySem.strKind Challenge.rw_ui0509_16.row.prog w) [(Str.ofString "u", .ref KX9), (Str.ofString "v", .ref cu)] → (∀ a ∈ [x, d, jl, cd, D9], a ≠ cu ∧ a ≠ cud ∧ a ≠ dl) → (∀ p ∈ rest, p.1 ≠ cu ∧ p.1 ≠ cud ∧ p.1 ≠ dl) → Q .none { s with heap := h', toks := tk' }) :
    wpAny (model Challenge.rw_ui0509_16.row.prog w) (ktrTop dp un gd cn cs L a ccd cl outer) (call (.ref 243) [.ref x, .str (Str.ofString "v") u0, .str (Str.ofString "b") u1, .ref D9, .ref D2]) Q E s := by
  replace ndx := neN ndx; replace njx := neN njx; replace njd := neN njd; replace ncx := neN ncx; replace ncd := neN ncd; replace ncj := neN ncj; replace n9x := neN n9x; replace n9d := neN n9d; replace n9j := neN n9j; replace n9c := neN n9c
  have hNM : ∀ p ∈ [(x, instObj 312 d), (d, dN9 w.params k0 k1 k2 k3 k4 k5 gr (.ref jl) (.str (Str.ofString "a") t1) (.ref pd) (.ref cd) (.ref bd)), (jl, listOf [.str (Str.ofString "a") t1, .str (Str.ofString "b") t2].toArray nj), (cd, ocd), (D9, listOf (List.replicate 24 (Value.ref Dh)).toArray n9)], p ∈ (x, instObj 312 d) :: (d, dN9 w.params k0 k1 k2 k3 k4 k5 gr (.ref jl) (.str (Str.ofString "a") t1) (.ref pd) (.ref cd) (.ref bd)) :: (jl, listOf [.str (Str.ofString "a") t1, .str (Str.ofString "b") t2].toArray nj) :: (cd, ocd) :: (D9, listOf (List.replicate 24 (Value.ref Dh)).toArray n9) :: rest := by exact fcons cS9 (fcons m1K (fcons m2K (fcons m3K (fcons m4K (List.forall_mem_nil _)))))
  have hNN : ∀ p ∈ [(x, instObj 312 d), (d, dN9 w.params k0 k1 k2 k3 k4 k5 gr (.ref jl) (.str (Str.ofString "a") t1) (.ref pd) (.ref cd) (.ref bd)), (jl, listOf [.str (Str.ofString "a") t1, .str (Str.ofString "b") t2].toArray nj), (cd, ocd), (D9, listOf (List.replicate 24 (Value.ref Dh)).toArray n9)], s.heap.get? p.1 = some p.2 := fun p hp => (N p (hNM p hp)).1
  w_top off
  revert X; k_fill; intro X
  refine wpAny_call ?_
  k_dflt (refine' code_need [(x, instObj 312 d), (d, dN9 w.params k0 k1 k2 k3 k4 k5 gr (.ref jl) (.str (Str.ofString "a") t1) (.ref pd) (.ref cd) (.ref bd)), (jl, listOf [.str (Str.ofString "a") t1, .str (Str.ofString "b") t2].toArray nj), (cd, ocd), (D9, listOf (List.replicate 24 (Value.ref Dh)).toArray n9)] ?k1 ?k2 ?k3 ?k4 ?k5 ?kA ?kF ?kK ?k6 ?k7 ?k8 ?k9 ?kB ?kN ?_ ?c2 ?c3 ?c4 ?c5; walk_at "en0"; (case kN => exact hNM); walk_at "en1")
  have hcl : ∀ p ∈ [(x, instObj 312 d), (d, dN9 w.params k0 k1 k2 k3 k4 k5 gr (.ref jl) (.str (Str.ofString "a") t1) (.ref pd) (.ref cd) (.ref bd)), (jl, listOf [.str (Str.ofString "a") t1, .str (Str.ofString "b") t2].toArray nj), (cd, ocd), (D9, listOf (List.replicate 24 (Value.ref Dh)).toArray n9)], p.2.cls ≠ .type "tuple" := fcons inst_cls4 (fcons dict_cls5 (fcons list_cls4 (fcons (dict_cls4 hcd) (fcons list_cls4 (List.forall_mem_nil _)))))
  replace e1 := hG' _ _ e1 (not_need4 hNN hcl e1 rfl)
  replace e2 := hG' _ _ e2 (not_need4 hNN hcl e2 rfl)
  have c0 : Builtin.Int.intBits 0 ≤ 1 := by decide
  clear hNN hcl hNM
  k_steps
  unfold Hold
  (rename Fr _ _ _ _ => lF2)
  (rename News _ _ _ _ => lN2)
  refine iter_listTurns (vs := List.replicate 24 (Value.ref Dh)) rfl lF2 lN2 (by k_mem) rfl rfl (fun I2 lI2 => ?_)
  refine items_ind (fun i m nx => nx = [(x, instObj 312 d), (d, dN9 w.params k0 k1 k2 k3 k4 k5 gr (.ref jl) (.str (Str.ofString "a") t1) (.ref pd) (.ref cd) (.ref bd)), (jl, listOf [.str (Str.ofString "a") t1, .str (Str.ofString "b") t2].toArray nj), (cd, ocd), (D9, listOf (List.replicate 24 (Value.ref Dh)).toArray n9)] ∧ m (Str.ofString "self") = some (.ref x) ∧ m (Str.ofString "name") = some (.str (Str.ofString "v") u0) ∧ m (Str.ofString "joint") = some (.str (Str.ofString "b") u1) ∧ m (Str.ofString "demands") = some (.ref D9) ∧ m (Str.ofString "drop") = some (.ref D2) ∧ m (Str.ofString "least") = some (.ref 56)) ?turn ?done _ 0 _ _ rfl (Nat.zero_le _) ⟨by k_mem, trivial⟩ (fun p hp => Nat.ne_of_lt (lI2 p hp)) ⟨rfl, rfl, rfl, rfl, rfl, rfl, rfl⟩
  case turn =>
    intro i a v m nx h tk o ha _ hI hJ hav Fm ho Nn
    obtain ⟨rfl, j1, j2, j3, j4, j5, j6⟩ := hJ
    obtain rfl := rep_get9 (n := 24) (a := Value.ref Dh) (val_get (vs := List.replicate 24 (Value.ref Dh)) ha hav)
    clear lN2 lF2 lI2
    k_steps
    (rename News _ _ _ _ => NN)
    (rename Fr _ _ _ _ => FF)
    exact unr_end [(x, instObj 312 d), (d, dN9 w.params k0 k1 k2 k3 k4 k5 gr (.ref jl) (.str (Str.ofString "a") t1) (.ref pd) (.ref cd) (.ref bd)), (jl, listOf [.str (Str.ofString "a") t1, .str (Str.ofString "b") t2].toArray nj), (cd, ocd), (D9, listOf (List.replicate 24 (Value.ref Dh)).toArray n9)] FF NN (by k_mem) ((by walk_at "sx")) (fun p hp => hI p hp) ⟨⟨by k_mem, trivial⟩, rfl, j1, j2, j3, j4, j5, j6⟩
  case done =>
    intro m nx h tk hJ Fm Nn
    obtain ⟨rfl, j1, j2, j3, j4, j5, j6⟩ := hJ
    clear lN2 lF2 lI2
    k_steps
    rename_i dl cl h9 lD h2 tk2 cu cud b0 b1 b2 b3 b4 h3 tk3 F3 N3 nd3 ax3 ad3 h4 oC F4 N4 hd4
    refine leaveN_ (by k_asm) (by k_asm) ?_
    intro kF kN kR kD
    (try dsimp only)
    have hR : ∀ p ∈ rest, p ∈ restOf ((x, instObj 312 d) :: (d, dN9 w.params k0 k1 k2 k3 k4 k5 gr (.ref jl) (.str (Str.ofString "a") t1) (.ref pd) (.ref cd) (.ref bd)) :: (jl, listOf [.str (Str.ofString "a") t1, .str (Str.ofString "b") t2].toArray nj) :: (cd, ocd) :: (D9, listOf (List.replicate 24 (Value.ref Dh)).toArray n9) :: rest) [(x, instObj 312 d), (d, dN9 w.params k0 k1 k2 k3 k4 k5 gr (.ref jl) (.str (Str.ofString "a") t1) (.ref pd) (.ref cd) (.ref bd)), (jl, listOf [.str (Str.ofString "a") t1, .str (Str.ofString "b") t2].toArray nj), (cd, ocd), (D9, listOf (List.replicate 24 (Value.ref Dh)).toArray n9)] := fun p hp => mem_rest (cC9 (cC9 (cC9 (cC9 (cC9 hp))))) (by simp only [List.map_cons, List.map_nil, List.mem_cons, List.not_mem_nil, or_false, not_or]; exact ⟨hrx p hp, hrd p hp, hrj p hp, hrc p hp, hr9 p hp⟩)
    exact hret oC cu cud dl _ _ _ _ _ _ _ _ kF (news_cons kN (by k_mem) (news_cons kN (by k_mem) (news_cons kN (by k_mem) (news_cons kN (by k_mem) (news_cons kN (by k_mem) (news_cons kN (by k_mem) (news_cons kN (by k_mem) (news_cons kN (by k_mem) fun p hp => kR p (hR p hp))))))))) hd4 (fcons (⟨ax3.2.1, ad3.2.1, Nat.ne_of_lt lD.1⟩) (fcons (⟨ax3.2.2.1, ad3.2.2.1, Nat.ne_of_lt lD.2.1⟩) (fcons (⟨ax3.2.2.2.1, ad3.2.2.2.1, Nat.ne_of_lt lD.2.2.1⟩) (fcons (⟨ax3.2.2.2.2.1, ad3.2.2.2.2.1, Nat.ne_of_lt lD.2.2.2.1⟩) (fcons (⟨ax3.2.2.2.2.2, ad3.2.2.2.2.2, Nat.ne_of_lt lD.2.2.2.2⟩) (List.forall_mem_nil _)))))) (fun p hp => ⟨kD p (hR p hp) _ (by k_mem : (cu, instObj _ _) ∈ _), kD p (hR p hp) _ (by k_mem : (cud, dictOf _ _) ∈ _), kD p (hR p hp) _ (cC9 (cC9 cS9) : (dl, _) ∈ _)⟩)
end
open PyProof.Rows.LCg in
def SrcX (prog : Program) (w : World) (A : Around) (E : Value → Shared → Prop) (h₀ : Heap) (L : Addr) (m : Str → Option Value) (env : Env) (elt : Expr) (x : Str) (scope : Scope) (cl : List (Str × Addr)) (Q : Value → Shared → Prop) (xv : Value) (s₁ : Shared) : Prop :=
  ∃ (r : Addr) (a b : Int) (t u v : Tok) (n : Nat) (news : List (Addr × Obj)), xv = .ref r ∧ A.handled = none ∧ Fr h₀ L s₁.heap m ∧ News h₀ L s₁.heap news ∧ IsRange s₁.heap r a b 1 t u v ∧ Builtin.Range.small a b 1 = true ∧ Builtin.Range.rangeSize a b 1 = ((n : Nat) : Int) ∧ n ≤ sizeLine ∧
    ∃ (J : Nat → List Value → List (Addr × Obj) → Prop) (EX : Addr → Value → Shared → Prop), J 0 [] news ∧ (∀ ys nx, ¬ J n ys nx) ∧
      (∀ i v I oI C oC D m₂ h tk ys nx, i < n → J i ys nx → (∃ t, v = .int (a + (i : Int)) t) → NsObj oC m₂ → m₂ x = some v → Fr h₀ L h m → News h₀ L h ((I, oI) :: (C, oC) :: (D, lst ys) :: nx) → Off3 I C D nx → ((@Ne Nat I C) ∧ (@Ne Nat I D) ∧ (@Ne Nat C D)) →
        wpAny (model prog w) A (eval elt (compEnvC scope cl C env)) (CompEnd h₀ L m { s₁ with heap := h, toks := tk } I oI C oC D (lst ys) (fun _ => True) (fun y nx' => J (i + 1) (ys ++ [y]) nx')) (EX C) { s₁ with heap := h, toks := tk }) ∧
      (∀ C D e s', h₀.get? C = none → EX C e s' → notedBy (model prog w) A (compEnvC scope cl C env) (fun e s'' => compPost (model prog w) A E none Q D C (.error e) s'') e s')

open PyProof.Rows.LCg in
theorem blockX {prog : Program} {w : World} {A : Around} {E : Value → Shared → Prop} {h₀ : Heap} {L : Addr} {m : Str → Option Value} {env : Env} {elt iter : Expr} {x : Str} {px : Pos} {scope : Scope} {cl : List (Str × Addr)} {pos : Pos} {s₂ : Shared} {I : Addr} {n : Nat} {a : Int} {news : List (Addr × Obj)}
    {RR : Value → Addr → Result → Shared → Prop} (J : Nat → List Value → List (Addr × Obj) → Prop) (EX : Addr → Value → Shared → Prop)
    (hh : A.handled = none) (hsz : n ≤ sizeLine) (hcell : ∀ y ∈ scope.names, y.2 ≠ .cell) (hkind : scope.kind = .function) (hx : scope.names.lookup x = some .local)
    (hst : IsRangeIter s₂.heap I (a + ((0 : Nat) : Nat) * 1) ((n : Int) - ((0 : Nat) : Nat)) 1) (hIlt : I < s₂.heap.objs.size)
    (F : Fr h₀ L s₂.heap m) (N : News h₀ L s₂.heap news) (hIL : L ≠ I) (hI₀ : h₀.get? I = none) (off : ∀ p ∈ news, p.1 ≠ I) (hJ : J 0 [] news) (hend : ∀ ys nx, ¬ J n ys nx)
    (turn : ∀ i v I oI C oC D m₂ h tk ys nx, i < n → J i ys nx → (∃ t, v = .int (a + (i : Int)) t) → NsObj oC m₂ → m₂ x = some v → Fr h₀ L h m → News h₀ L h ((I, oI) :: (C, oC) :: (D, lst ys) :: nx) → Off3 I C D nx → ((@Ne Nat I C) ∧ (@Ne Nat I D) ∧ (@Ne Nat C D)) →
      wpAny (model prog w) A (eval elt (compEnvC scope cl C env)) (CompEnd h₀ L m { s₂ with heap := h, toks := tk } I oI C oC D (lst ys) (fun _ => True) (fun y nx' => J (i + 1) (ys ++ [y]) nx')) (EX C) { s₂ with heap := h, toks := tk })
    (hEX : ∀ C D e s', h₀.get? C = none → EX C e s' → notedBy (model prog w) A (compEnvC scope cl C env) (fun e s'' => RR D C (.error e) s'') e s') :
    wpAny (model prog w) A (newList []) (fun acc s₃ => wpAny (model prog w) A (newFunctionEnv scope env.globals cl [] env.qual none .none (some env)) (fun cenv s₄ =>
      codeAny (model prog w) A (.compStart (.ListComp elt [⟨.Name x px, iter, [], 0⟩] scope pos) 0 (.ref I) acc { cenv with scope := relabel scope env }) (RR acc cenv.locals) s₄) E s₃) E s₂ := by
  have W := range_walks (prog := prog) (w := w) (I := I) hh a n
  refine wpAny_newObj_type (wpAny_newFunctionEnv hcell (by intro y hy; simp at hy) (fun h₁ hns₁ hsb₁ => ?_) hkind)
  dsimp only at hns₁ hsb₁ ⊢
  obtain ⟨D, hD⟩ : ∃ D, D = s₂.heap.objs.size := ⟨_, rfl⟩
  obtain ⟨H, hH⟩ : ∃ H, H = s₂.heap.push { cls := .type "list", dict := none, data := .seq ([] : List Value).toArray } := ⟨_, rfl⟩
  rw [← hH] at hns₁ hsb₁ ⊢
  rw [← hD]
  obtain ⟨C, hC⟩ : ∃ C, C = H.objs.size := ⟨_, rfl⟩
  rw [← hC] at hns₁ hsb₁ ⊢
  have hCD : C = D + 1 := by rw [hC, hH, Heap.size_push, hD]
  have up : ∀ b o, s₂.heap.get? b = some o → b ≠ C ∧ b ≠ D ∧ h₁.get? b = some o := fun b o e => by
    have h1 : b < D := hD ▸ Heap.lt_size e
    have h2 : b ≠ C := by rw [hCD]; exact Nat.ne_of_lt (Nat.lt_succ_of_lt h1)
    exact ⟨h2, Nat.ne_of_lt h1, hsb₁.extBut b o h2 (Heap.get?_push_of_some _ (hH ▸ Heap.get?_push_of_some _ e))⟩
  have hDC : D ≠ C := by rw [hCD]; exact Nat.ne_of_lt (Nat.lt_succ_self _)
  have hacc : h₁.get? D = some (lst []) := hsb₁.extBut _ _ hDC (Heap.get?_push_of_some _ (by rw [hH, hD]; exact Heap.get?_push_size _ rfl))
  have none₀ : ∀ b, D ≤ b → h₀.get? b = none := fun b hb => by
    cases e : h₀.get? b with
    | none => rfl
    | some o => have h1 := Heap.lt_size (F.keep b o e); rw [← hD] at h1; exact absurd h1 (Nat.not_lt.mpr hb)
  have hD₀ := none₀ D (Nat.le_refl _)
  have hC₀ := none₀ C (by rw [hCD]; exact Nat.le_succ _)
  have hLlt : L < D := hD ▸ F.ns.lt
  have hDL : D ≠ L := (Nat.ne_of_lt hLlt).symm
  have hCL : C ≠ L := by rw [hCD]; exact (Nat.ne_of_lt (Nat.lt_succ_of_lt hLlt)).symm
  have hID : I ≠ D := Nat.ne_of_lt (hD ▸ hIlt)
  have hIC : I ≠ C := by rw [hCD]; exact Nat.ne_of_lt (Nat.lt_succ_of_lt (hD ▸ hIlt))
  have hst₁ : IsRangeIter h₁ I (a + ((0 : Nat) : Nat) * 1) ((n : Int) - ((0 : Nat) : Nat)) 1 := W.frame 0 _ _ hst fun b _ o e => (up b o e).2.2
  have loop : ∀ s₃ : Shared, s₃ = { s₂ with heap := h₁, toks := s₂.toks + ([] : List (Str × Value)).length } →
      codeAny (model prog w) A (.compLoop (.ListComp elt [⟨.Name x px, iter, [], 0⟩] scope pos) 0 (.ref I) (.ref D) (compEnvC scope cl C env)) (RR (.ref D) C) s₃ := by
    rintro s₃ rfl
    refine codeAny_compLoop_tests
      (fun k s' => ∃ h' tk i ys m' nx, s' = { s₂ with heap := h', toks := tk } ∧ i ≤ n ∧ k = n + 1 - i ∧ ys.length = i ∧ IsRangeIter h' I (a + (i : Nat) * 1) ((n : Int) - (i : Nat)) 1 ∧ Fr h₀ L h' m ∧ h'.Ns C m' ∧ News h₀ L h' ((D, lst ys) :: nx) ∧ Off3 I C D nx ∧ J i ys nx) ?_ (n + 1)
      ⟨h₁, _, 0, [], _, news, rfl, Nat.zero_le _, rfl, rfl, hst₁, F.keeps fun b o e => (up b o e).2.2, hns₁, fun p hp => ?_, Off3.of fun p hp => ⟨off p hp, (up _ _ (N p hp).1).1, (up _ _ (N p hp).1).2.1⟩, hJ⟩
    · rintro k s' ⟨h', tk, i, ys, m', nx, rfl, hi, rfl, hyl, hst', F', hn', N', off', hJ'⟩
      have hlt : i < n := by
        rcases Nat.lt_or_eq_of_le hi with h | h
        · exact h
        · exact absurd (h ▸ hJ') (hend ys nx)
      have o3 := off'.mem
      refine W.item i _ _ _ hlt hst' fun v h₂ tk₂ hPv hst₂ hk₂ => ?_
      have kI : ∀ b o, b ≠ I → h'.get? b = some o → h₂.get? b = some o := fun b o hb e => hk₂ b o (by simpa using hb) e
      refine wpAny_assign_Name (wpAny_storeName_local (lookup_relabel_local hx) (hn'.at' fun o e => kI C o hIC.symm e) (fun h₃ hn₃ hs₃ => ?_) (by simp [compEnvC, relabel, hkind]))
      refine wpAny_tests_nil ?_
      simp only [if_true]
      have hst₃ : IsRangeIter h₃ I (a + ((i + 1 : Nat) : Nat) * 1) ((n : Int) - ((i + 1 : Nat) : Nat)) 1 := W.frame (i + 1) _ _ hst₂ fun b hb o e => hs₃.extBut b o (fun q => hIC ((List.mem_singleton.mp hb).symm.trans q)) e
      have heI : h₃.get? I = some _ := hst₃
      obtain ⟨oC, heC, hoC⟩ := ns_obj hn₃
      have F₃ : Fr h₀ L h₃ m := (fr_but F' hk₂ hIL hI₀).change hs₃ hCL hC₀
      have N₂ : News h₀ L h₂ ((D, lst ys) :: nx) := news_but N' hk₂ (fcons hID.symm (fun p hp => (o3 p hp).1))
      have N₃ : News h₀ L h₃ ((D, lst ys) :: nx) := fun p hp => ⟨hs₃.extBut _ _ ((fcons hDC (fun p hp => (o3 p hp).2.1) : ∀ p ∈ (D, lst ys) :: nx, p.1 ≠ C) p hp) (N₂ p hp).1, (N₂ p hp).2⟩
      refine wpAny_mono (turn i v I _ C oC D _ h₃ _ ys nx hlt hJ' hPv hoC (by simp) F₃ (fcons (⟨heI, hIL.symm, hI₀⟩) (fcons (⟨heC, hCL, hC₀⟩) N₃)) off' ⟨hIC, hID, hDC.symm⟩) (fun y s₄ h₄ => ?_) fun e s'' he => hEX C (.ref D) e s'' hC₀ he
      obtain ⟨h₄, tk₄, nx₄, rfl, F₄, N₄, off₄, _, J₄⟩ := h₄
      have zI := (N₄ _ cS9).1
      have zC := (N₄ _ m1K).1
      have zD := (N₄ _ m2K).1
      have N₄' : News h₀ L h₄ nx₄ := fun p hp => N₄ p (cC9 (cC9 (cC9 hp)))
      have hst₄ : IsRangeIter h₄ I (a + ((i + 1 : Nat) : Nat) * 1) ((n : Int) - ((i + 1 : Nat) : Nat)) 1 := zI
      refine append_at (hsz := by show ys.toArray.size ≤ sizeLine; rw [List.size_toArray, hyl]; exact Nat.le_trans hi hsz) zD fun h₅ hs₅ hD₅ => ?_
      have o4 := off₄.mem
      refine ⟨n + 1 - (i + 1), by omega, h₅, tk₄, i + 1, ys ++ [y], _, nx₄, rfl, hlt, rfl, by rw [List.length_append, List.length_singleton, hyl], W.frame (i + 1) _ _ hst₄ fun b hb o e => hs₅.extBut b o (fun q => hID ((List.mem_singleton.mp hb).symm.trans q)) e, F₄.change hs₅ hDL hD₀,
        (hoC.ns zC).sameBut hs₅ hDC.symm, fcons (⟨hD₅.trans (congrArg some (lst_snoc ys y)), hDL, hD₀⟩) (fun p hp => ⟨hs₅.extBut _ _ (o4 p hp).2.2 (N₄' p hp).1, (N₄' p hp).2⟩), off₄, J₄⟩
    · rcases List.mem_cons.mp hp with rfl | hp
      · exact ⟨hacc, hDL, hD₀⟩
      · exact ⟨(up _ _ (N p hp).1).2.2, (N p hp).2⟩
  exact codeAny_compStart_list (loop _ rfl) (W.self 0 _ _ _ hst₁ (loop _ rfl))

open PyProof.Rows.LCg in
theorem ListComp_X {prog : Program} {w : World} {A : Around} {E : Value → Shared → Prop} {s : Shared} {h₀ : Heap} {L : Addr} {m : Str → Option Value} {env : Env} {elt iter : Expr} {x : Str} {px : Pos} {scope : Scope} {cl : List (Str × Addr)} {pos : Pos} {Q : Value → Shared → Prop} (_F₀ : Fr h₀ L s.heap m)
    (hclos : closureFor scope env = pure cl) (hcell : ∀ y ∈ scope.names, y.2 ≠ .cell) (hkind : scope.kind = .function)
    (hnames : ∀ y ∈ scope.names, y.2 = .local → scope.names.lookup y.1 = some .local) (hx : scope.names.lookup x = some .local)
    (h : wpAny (model prog w) A (eval iter env) (SrcX prog w A E h₀ L m env elt x scope cl Q) E s)
    (hs : ∀ x, foldedSetIterable iter env x = pure x := by intro _; rfl) :
    wpAny (model prog w) A (eval (.ListComp elt [⟨.Name x px, iter, [], 0⟩] scope pos) env) Q E s := by
  rw [eval_ListComp]
  refine wpAny_comprehension_free (use := none) rfl hs hclos hkind hnames (wpAny_mono h (fun xv s₁ h₁ => ?_) fun _ _ e => e)
  obtain ⟨r, a, b, t, u, v, n, news, rfl, hh, F, N, hr, hsm, hn, hsz, R⟩ := h₁
  refine wpAny_pyIter_range hr hsm ?_
  obtain ⟨J, EX, hJ, hend, turn, hEX⟩ := R
  exact blockX (RR := fun acc C => compPost (model prog w) A E none Q acc C) J EX hh hsz hcell hkind hx (by show IsRangeIter _ _ _ _ _; rw [hn]; simpa using Heap.get?_push_size _ rfl) (by show s₁.heap.objs.size < (s₁.heap.push _).objs.size; rw [Heap.size_push]; exact Nat.lt_succ_self _)
    (F.keeps fun _ _ e => Heap.get?_push_of_some _ e) (N.grown fun _ _ e => Heap.get?_push_of_some _ e) (Nat.ne_of_lt F.ns.lt) (next_is_new F) (fun p hp => Nat.ne_of_lt (Heap.lt_size (N p hp).1)) hJ hend turn hEX

def RaisedQ (base : Heap) (l : List Env) (e : Addr) (cls : Value) (t : Addr) (vs : List Value) (news : List (Addr × Obj)) (h : Heap) : Prop :=
  (∃ (B : Heap) (fl : Value), base.StaysIn B ∧ (∀ q ∈ news, B.get? q.1 = some q.2 ∧ base.get? q.1 = none) ∧ (B.StaysIn h ∧ B.get? e = none ∧ h.FunFrames B l ∧ h.TracedAtW B e cls (.ref t) fl) ∧ B.get? t = none) ∧ h.TupAt t vs
theorem funFrames_but {B B' h h' : Heap} {C : Addr} {oC : Obj} (k : B'.StaysIn B) (hC : B.get? C = some oC) (hs : Heap.SameBut C h h') : ∀ {l : List Env}, h.FunFrames B l → h'.FunFrames B' l
  | [], _ => trivial
  | _ :: _, ⟨hk, ⟨L, o, hf, hn, ho, hd⟩, hr⟩ => ⟨hk, ⟨L, o, hf, fresh_of_stays k hn, hs.extBut L o (fun q => by rw [q, hC] at hn; cases hn) ho, hd⟩, funFrames_but k hC hs hr⟩
theorem note_pass {prog : Program} {w : World} {A : Around} {E : Value → Shared → Prop} {s' : Shared} {base h₀ : Heap} {L : Addr} {env : Env} {outer : List Env} {scope : Scope} {cl : List (Str × Addr)} {C e t : Addr} {oC : Obj} {m₂ : Str → Option Value} {cls : Value} {vs : List Value} {news : List (Addr × Obj)} {Q : Value → Shared → Prop} {acc : Value}
    (hfr : A.frames = some (env :: outer)) (hf : env.frame = some L) (R : RaisedK base (env :: outer) e cls t vs ((C, oC) :: news) s'.heap) (hoC : LCg.NsObj oC m₂) (hoff : ∀ q ∈ news, q.1 ≠ C) (hC₀ : h₀.get? C = none) (hsm : h₀.UpToSlots s'.heap)
    (k : ∀ h', RaisedQ base (env :: outer) e cls t vs news h' → h₀.UpToSlots h' → E (.ref e) { s' with heap := h' }) :
    notedBy (model prog w) A (compEnvC scope cl C env) (fun e s'' => compPost (model prog w) A E none Q acc C (.error e) s'') (.ref e) s' := by
  obtain ⟨⟨B, hB, hl, hfl, hnew⟩, htup⟩ := R
  have eN : noteFrame (.ref e) (compEnvC scope cl C env) = noteFrame (.ref e) env := by
    unfold noteFrame PySem.frameOf compEnvC; rfl
  unfold notedBy
  rw [eN]
  refine wpAny_looks_onW hfr hf hfl fun h₄ hheld hs₄ => ?_
  have t₄ := htup.of_slots hs₄
  have u₄ := hsm.trans hs₄
  obtain ⟨f1, f2, f3, f4⟩ := hheld
  have hBC := (hl (C, oC) cS9).1
  have hbC := (hl (C, oC) cS9).2
  refine ⟨m₂, hoC.ns (f1 C oC hBC), fun h' hs' cenv hc => ?_⟩
  have off : ∀ b, B.get? b = none → b ≠ C := fun b hb q => by rw [q, hBC] at hb; cases hb
  have nC : ∀ b o, h₄.get? b = some o → b ≠ C → h'.get? b = some o := fun b o e n => hs'.extBut b o n e
  obtain ⟨oe, ws, T, oT, ts, he, hcls, hd, h1, hnT, hTe, hT, hdT, h3⟩ := f4
  have he' := nC _ _ he (off _ f2)
  have hT' := nC _ _ hT (off _ hnT)
  have hsz3 : 3 < ts.size := (Array.getElem?_eq_some_iff.mp h3).1
  obtain ⟨B', hB'⟩ : ∃ B', B' = hideAll B [C] := ⟨_, rfl⟩
  have kB : B'.StaysIn B := fun b o q => of_hideAll _ (hB' ▸ q)
  have inB : ∀ b o, B.get? b = some o → b ≠ C → B'.get? b = some o := fun b o q n => by rw [hB']; exact hideAll_get _ q (by simpa using n)
  have noB : ∀ b, B.get? b = none → B'.get? b = none := fun b hb => fresh_of_stays kB hb
  have notC : B'.get? C = none := by rw [hB']; exact hideAll_none _ (List.mem_singleton.mpr rfl)
  unfold PySem.passOn
  refine wpAny_bind (wpAny_field he' hd h1 ?_)
  rw [if_neg (show ¬ ((Value.ref T == Value.none) = true) from by simp)]
  have fin : ∀ h'', (∀ b, b ≠ T → h''.get? b = h'.get? b) → h''.TracedAtW B' e cls (.ref t) (cenv.frame.elim Value.none fun f => rawInt f) → E (.ref e) { s' with heap := h'' } := fun h'' other tr => by
    have noRec : ∀ b o, h'.get? b = some o → (∀ vs, o.data ≠ .fields vs) → h''.get? b = some o := fun b o hb hn => by
      rw [other b fun q => by rw [q, hT'] at hb; injection hb with hb; subst hb; exact hn ts hdT]; exact hb
    refine k h'' ⟨⟨B', cenv.frame.elim Value.none fun f => rawInt f, fun b o q => inB b o (hB b o q) (fun z => by rw [z, hbC] at q; cases q), fun q hq => ⟨inB _ _ (hl q (cC9 hq)).1 (hoff q hq), (hl q (cC9 hq)).2⟩,
      ⟨fun b o q => ?_, noB _ f2, ?_, tr⟩, noB _ hnew⟩, ?_⟩ fun b o hb hn => ?_
    · have q' := kB b o q
      rw [other b fun z => by rw [z, hnT] at q'; cases q']
      exact nC b o (f1 b o q') fun z => by rw [z, notC] at q; cases q
    · exact (funFrames_but kB hBC hs' f3).of_keeps fun b o hb hn => ⟨o, noRec b o hb hn, rfl⟩
    · obtain ⟨o, n, ho, hc, hd⟩ := t₄
      exact ⟨o, n, noRec _ _ (nC _ _ ho (off _ hnew)) (fun vs q => by rw [hd] at q; cases q), hc, hd⟩
    · obtain ⟨sl, hs⟩ := u₄ b o hb hn
      exact ⟨sl, noRec _ _ (nC _ _ hs fun q => by rw [q, hC₀] at hb; cases hb) hn⟩
  have st : wpAny (model prog w) A (setFlight (.ref e) cenv.frame) (fun _ s'' => wpAny (model prog w) A (throw (.ref e) : Sem Value) (fun _ _ => False) E s'') E { s' with heap := h' } := by
    unfold setFlight
    refine wpAny_bind (wpAny_field he' hd h1 ?_)
    rw [if_pos (show (Value.ref T != Value.none) = true from by simp)]
    refine wpAny_setField hT' hdT hsz3 (wpAny_throw (fin _ (fun b hb => Heap.get?_update_other _ _ (Ne.symm hb)) ?_))
    exact ⟨oe, ws, T, _, _, (Heap.get?_update_other _ _ hTe).trans he', hcls, hd, h1, noB _ hnT, hTe, Heap.get?_update_self _ hT' (Obj.isFreed_of_fields (Obj.data_mapFields hdT _)), Obj.data_mapFields hdT _, by simp [hsz3]⟩
  first
    | exact wpAny_bind (wpAny_pure (wpAny_bind st))
    | exact wpAny_bind st

theorem leave_Q {M : Model} {A : Around} {E : Value → Shared → Prop} {s' : Shared} {base g : Heap} {outer : List Env} {L e t : Addr} {env : Env} {cls : Value} {vs : List Value} {news : List (Addr × Obj)} {Q : Unit → Shared → Prop}
    (hfr : A.frames = some (env :: outer)) (hf : env.frame = some L) (R : RaisedQ base (env :: outer) e cls t vs news s'.heap) (hsm : g.UpToSlots s'.heap)
    (hQ : ∀ h', RaisedK base outer e cls t vs news h' → g.UpToSlots h' → Q () { s' with heap := h' }) :
    wpAny M A (leaving env (.ref e)) Q E s' := by
  obtain ⟨⟨B, fl, hB, hl, ⟨f1, f2, f3, f4⟩, hnew⟩, htup⟩ := R
  unfold leaving
  have fin : ∀ h' fl', B.StaysIn h' → h'.FunFrames B (env :: outer) → h'.TracedAtW B e cls (.ref t) fl' → s'.heap.UpToSlots h' → wpAny M A (setFlight (.ref e) none) Q E { s' with heap := h' } := fun h' fl' k1 k2 k3 k4 => by
    refine wpAny_setFlight_noneW k1 k2 k3 fun h'' x1 x2 x3 x4 => ?_
    have u : h'.UpToSlots h'' := fun b o hb hn => ⟨o.slots, x4 b o hb hn⟩
    exact hQ h'' ⟨⟨B, hB, hl, ⟨x1, f2, x2.2.2, x3⟩, hnew⟩, (htup.of_slots k4).of_slots u⟩ ((hsm.trans k4).trans u)
  have F4 := f4
  obtain ⟨oe, ws, T, oT, ts, he, ⟨hcls, h0⟩, hd, h1, hnT, hTe, hT, hdT, h3⟩ := f4
  refine wpAny_bind ?_
  unfold noteFrame
  simp only [hf]
  refine wpAny_bind (wpAny_field he hd h1 ?_)
  rw [if_pos (show (Value.ref T != Value.none) = true from by simp)]
  refine wpAny_bind (wpAny_field hT hdT h3 ?_)
  by_cases hq : (fl == rawInt L) = true
  · rw [if_pos hq]
    exact wpAny_pure (fin s'.heap fl f1 f3 F4 (Heap.UpToSlots.of_keeps fun _ _ e => e))
  · rw [if_neg hq]
    refine wpAny_bind (wpAny_setField hT hdT (Array.getElem?_eq_some_iff.mp h3).1 ?_)
    have other : ∀ b, b ≠ T → (s'.heap.update T (Obj.mapFields (·.setIfInBounds 3 Value.none))).get? b = s'.heap.get? b := fun b hb => Heap.get?_update_other _ _ (Ne.symm hb)
    have noRec : ∀ b o, s'.heap.get? b = some o → (∀ vs, o.data ≠ .fields vs) → (s'.heap.update T (Obj.mapFields (·.setIfInBounds 3 Value.none))).get? b = some o := fun b o hb hnf =>
      (other b fun q => by rw [q, hT] at hb; injection hb with hb; subst hb; exact hnf ts hdT).trans hb
    subst hcls
    exact wpAny_entryW hfr (f3.of_keeps fun b o hb hnf => ⟨o, noRec b o hb hnf, rfl⟩) hf ((other e (Ne.symm hTe)).trans he)
      (fun b o hbo => (other b fun q => by rw [q, hnT] at hbo; cases hbo).trans (f1 b o hbo)) f2 hd (Array.getElem?_eq_some_iff.mp h1).1 h0
      fun h' ⟨x1, x2, x3, x4⟩ => fin h' _ x1 x2 x3 fun b o hb hnf => x4 b o (noRec b o hb hnf) hnf
theorem raisedK_mono {base : Heap} {l : List Env} {e : Addr} {cls : Value} {t : Addr} {vs : List Value} {news news' : List (Addr × Obj)} {h : Heap} (k : ∀ p ∈ news', p ∈ news) (R : RaisedK base l e cls t vs news h) : RaisedK base l e cls t vs news' h := by
  obtain ⟨⟨B, a, b, c, d⟩, f⟩ := R
  exact ⟨⟨B, a, fun q hq => b q (k q hq), c, d⟩, f⟩
theorem off3_c {I C D : Addr} {l l' : List (Addr × Obj)} (h : LCg.Off3 I C D (l ++ l')) : ∀ q ∈ l, q.1 ≠ C := fun q hq => (LCg.Off3.mem h q (aL0 hq)).2.1
section
local macro_rules | `(tactic| k_lt $h:ident) => `(tactic| replace $h:ident := allLt_of $h)
theorem words30 : True := by
  k_with_none
  k_with "k_in" => (refine' in_of ?z4fF ?z4fX; (case z4fF | z4fX => k_asm))
  k_with "k_mem" => (first | with_reducible assumption | (refine cC9 ?_; k_mem))
  k_with "subscriptTail Name Name ref str" => (k_here; (with_reducible show wpAny _ _ (subscriptTail _ _ (Value.ref _) (Value.str _ _)) _ _ _); k_dflt (refine' kda_item (knd := PySem.strKind _ _) ?z144N ?z144hp ?z144hd (strKind_is _ _ _ _) ?z144hl ?_; (case z144N => k_asm); (case z144hp => k_mem); (case z144hd => with_reducible assumption); (case z144hl => rfl); k_whole); (try dsimp only))
  k_with "compareOp Is ref ref" => (k_here; (with_reducible show wpAny _ _ (compareOp CmpOp.Is (Value.ref _) (Value.ref _)) _ _ _); k_dflt (refine' kto_is ?z145a ?z145b ?z145n ?z145c ?_; (case z145n => assumption); (case z145a | z145b => refine' kto_N ?z145N ?z145m; (case z145N => k_asm); (case z145m => k_mem)); (case z145c => kto_not); k_whole))
  k_with "hat9" => (first | exact News.get (by k_asm) (by k_mem) | exact Fr.keep (by k_asm) _ _ (by with_reducible assumption) | exact Tk.get (by k_asm) (by k_asm) (by with_reducible assumption) (by walk_at "st") | exact Frag.In.keeps (by k_asm) (Fr.keep (by k_asm)) _ _ (by k_is))
  k_with "call ref" => (k_here; (with_reducible show wpAny _ _ (call (Value.ref 108) [Value.ref _, Value.ref _]) _ _ _); k_dflt (refine' over_r ?z146k1 ?z146k2 ?z146k3 ?z146k4 ?z146k5 ?z146k6 ?z146m1 ?z146m2 ?z146k7 ?z146k8 ?z146b1 ?z146b2 ?z146hz ?z146hb ?_; (case z146k1 | z146k2 | z146k3 | z146k4 | z146k5 => k_asm); (case z146k6 => first | exact rfl | assumption); (case z146k7 => first | exact Nat.le_of_ble_eq_true rfl | ktr_room); (case z146k8 => first | exact Nat.le_of_ble_eq_true rfl | ktr_units); (case z146m1 | z146m2 => (walk_at "hat9")); (case z146b1 | z146b2 => with_reducible assumption); (case z146hb => first | assumption | omega | decide); (case z146hz => first | assumption | grind); k_whole); walk_at "i8"; (try k_sweep))
  k_with "call ref" => (k_here; (with_reducible show wpAny _ _ (call (Value.ref 87) [Value.ref _, Value.ref _]) _ _ _); k_dflt (refine' plus_r ?z147k1 ?z147k2 ?z147k3 ?z147k4 ?z147k5 ?z147k6 ?z147m1 ?z147m2 ?z147k7 ?z147k8 ?z147b1 ?z147b2 ?z147hb ?_; (case z147k1 | z147k2 | z147k3 | z147k4 | z147k5 => k_asm); (case z147k6 => first | exact rfl | assumption); (case z147k7 => first | exact Nat.le_of_ble_eq_true rfl | ktr_room); (case z147k8 => first | exact Nat.le_of_ble_eq_true rfl | ktr_units); (case z147m1 | z147m2 => (walk_at "hat9")); (case z147b1 | z147b2 => with_reducible assumption); (case z147hb => first | assumption | omega | decide); k_whole); walk_at "i8"; (try k_sweep))
  k_with "call ref" => (k_here; (with_reducible show wpAny _ _ (call (Value.ref 101) [Value.ref _, Value.ref _]) _ _ _); k_dflt (refine' times_r ?z148k1 ?z148k2 ?z148k3 ?z148k4 ?z148k5 ?z148k6 ?z148m1 ?z148m2 ?z148k7 ?z148k8 ?z148b1 ?z148b2 ?z148hb ?_; (case z148k1 | z148k2 | z148k3 | z148k4 | z148k5 => k_asm); (case z148k6 => first | exact rfl | assumption); (case z148k7 => first | exact Nat.le_of_ble_eq_true rfl | ktr_room); (case z148k8 => first | exact Nat.le_of_ble_eq_true rfl | ktr_units); (case z148m1 | z148m2 => (walk_at "hat9")); (case z148b1 | z148b2 => with_reducible assumption); (case z148hb => first | assumption | omega | decide); k_whole); walk_at "i8"; (try k_sweep))
  k_with "k_ne" => (refine neN ?_; (try dsimp only); first | with_reducible assumption | exact Ne.symm (by with_reducible assumption) | exact apL (by with_reducible assumption) (by k_mem) | exact (apL (by with_reducible assumption) (by k_mem)).symm | exact apLt (by with_reducible assumption) (by k_mem) | exact (apLt (by with_reducible assumption) (by k_mem)).symm)
  k_with "k_all" => (first | with_reducible assumption | exact List.forall_mem_nil _ | (refine fcons (?_) (?_) <;> first | k_ne | k_all) | exact allLt_mem (by with_reducible assumption))
  k_with "bits_by_make" => (with_reducible assumption)
  k_with "call ref" => (k_here; (with_reducible show wpAny _ _ (call (Value.ref 72) [Value.int _ _, Value.int _ _]) _ _ _); k_dflt (refine' frac_use ?z149k1 ?z149k2 ?z149k3 ?z149k4 ?z149k5 ?z149k6 ?z149k7 ?z149k8 ?z149k9 ?z149k10 ?z149k11 ?z149k12 ?z149k13 ?_; (case z149k1 | z149k2 | z149k3 | z149k4 | z149k5 => k_asm); (case z149k6 => first | exact rfl | assumption); (case z149k7 => first | exact Nat.le_of_ble_eq_true rfl | ktr_room); (case z149k8 => first | exact Nat.le_of_ble_eq_true rfl | ktr_units); (case z149k10 | z149k11 => bits_by_make); (case z149k12 | z149k13 => decide); (case z149k9 => first | exact nzden _ | omega | ((try k_fmods); omega) | (refine nzmul ?_ ?_ <;> first | exact nzden _ | omega)); k_whole); walk_at "i9"; (try k_sweep))
  k_with "call ref" => (k_here; (with_reducible show wpAny _ _ (call (Value.ref 72) [Value.int _ _, Value.int 1 _]) _ _ _); k_dflt (refine' frac_one ?z150k1 ?z150k2 ?z150k3 ?z150k4 ?z150k5 ?z150k6 ?z150k7 ?z150k8 ?z150k10 ?z150k12 ?_; (case z150k1 | z150k2 | z150k3 | z150k4 | z150k5 => k_asm); (case z150k6 => first | exact rfl | assumption); (case z150k7 => first | exact Nat.le_of_ble_eq_true rfl | ktr_room); (case z150k8 => first | exact Nat.le_of_ble_eq_true rfl | ktr_units); (case z150k10 => bits_by_make); (case z150k12 => decide); k_whole); walk_at "i10"; (try k_sweep))
  k_with "call ref" => (k_here; (with_reducible show wpAny _ _ (call (Value.ref 72) [Value.int _ _]) _ _ _); k_dflt (refine' frac_dflt ?z151k1 ?z151k2 ?z151k3 ?z151k4 ?z151k5 ?z151k6 ?z151k7 ?z151k8 ?z151k10 ?z151k12 ?_; (case z151k1 | z151k2 | z151k3 | z151k4 | z151k5 => k_asm); (case z151k6 => first | exact rfl | assumption); (case z151k7 => first | exact Nat.le_of_ble_eq_true rfl | ktr_room); (case z151k8 => first | exact Nat.le_of_ble_eq_true rfl | ktr_units); (case z151k10 => bits_by_make); (case z151k12 => decide); k_whole); walk_at "i10"; (try k_sweep))
  k_with "call ref" => (k_here; (with_reducible show wpAny _ _ (call (Value.ref 41) [Value.int _ _, Value.int _ _, Value.int _ _, Value.str _ _]) _ _ _); k_dflt (refine' need_number_c ?z152k1 ?z152k2 ?z152k3 ?z152k4 ?z152k5 ?z152k6 ?z152h1 ?z152h2 ?z152k7 ?_; (case z152k1 | z152k2 | z152k3 | z152k4 | z152k5 => k_asm); (case z152k6 => first | exact rfl | assumption); (case z152k7 => first | exact Nat.le_of_ble_eq_true rfl | ktr_room); (case z152h1 | z152h2 => first | decide | assumption | omega); k_whole); walk_at "i3"; (try k_sweep))
  k_with "exec For Name Name cons nil" => ((with_reducible show wpAny _ _ (exec (Stmt.For (Expr.Name _ _) (Expr.Name _ _) _ _ _) _) _ _ _); refine Hold.out ?_)
  k_with "call ref" => (k_here; (with_reducible show wpAny _ _ (call (Value.ref 335) _ _) _ _ _); refine Hold.out ?_)
  k_with "call ref" => (k_here; (with_reducible show wpAny _ _ (call (Value.ref 115) _ _) _ _ _); refine Hold.out ?_)
  k_with "call ref" => (k_here; (with_reducible show wpAny _ _ (call (Value.ref 108) _ _) _ _ _); refine Hold.out ?_)
  k_with "eval Name" => (k_here; k_dflt (refine' nameX_L ?z153k1 ?z153k2 ?_ ?z153k3 ?z153k4; (case z153k1 => k_asm); (case z153k3 | z153k4 => rfl); (case z153k2 => first | exact rfl | assumption); k_whole))
  k_with "size_fits" => (rw [sizeLine_eq]; omega)
  k_with "k_all" => (refine List.forall_mem_append.mpr ⟨?_, ?_⟩ <;> k_all)
  k_with "call ref" => (k_here; (with_reducible show wpAny _ _ (call (Value.ref 101) _ _) _ _ _); refine Hold.out ?_)
  k_with "call ref" => (k_here; (with_reducible show wpAny _ _ (call (Value.ref 87) _ _) _ _ _); refine Hold.out ?_)
  k_with "eval ListComp" => (k_here; k_dflt (refine ListComp_X (_F₀ := by k_asm) (by with_unfolding_all rfl) (by decide) (by rfl) (by decide) (by rfl) ?_))
  k_with "SrcX" => (refine Hold.out ?_)
  k_with "CompEnd" => (show LCg.CompEnd _ _ _ _ _ _ _ _ _ _ _ _ _ _; refine Hold.out ?_)
  trivial
theorem turnB_x {w : World} {a : Addr} {base h₀ : Heap} {L0 L fa : Addr} {cdv : Value} {m : Str → Option Value} {s : Shared} {Q : Flow → Shared → Prop} {E : Value → Shared → Prop} {x d l Df lc D6 : Addr} {j1 j2 j3 j4 j5 j6 tn t6 u6 : Tok} {nm : Value} {nc n c6 : Nat} {e : Rat} {ca : Array Value} {oM oE : Obj} {R : List (Addr × Obj)} 
    (B : Below (ktrTop dp un gd cn cs L0 a ccd cl outer) base (envX cn cs L0 a ccd cl :: outer) h₀) (X : (HD.K w.params).In h₀) (T : Top p loose mean mg mb h₀) (hd : dp + 20 < recursionLimit) (hu : un + 900 < cLine) (F : Fr h₀ L s.heap m) (N : News h₀ L s.heap ((lc, listOf ca nc) :: (L + 1 + 1, oE) :: (L + 1, oM) :: R)) (qM : oM.data = .cell (some (.ref x))) (qE : oE.data = .cell (some (.ref D6)))
    (ex : (x, instObj 393 d) ∈ R) (ed : (d, meterD w.params j1 j2 j3 j4 j5 nm (.int 5000 j6) (.ref Df) (.ref l) (.ref 56)) ∈ R) (e6 : (D6, RatO e t6 u6 c6) ∈ R) (fe : FitsR e) (hF : ∀ j : Nat, j < 2 → FitsR (e * ((1 + (j : Int) : Int) : Rat))) (hn1 : 3 ≤ n) (hn2 : n ≤ 100)
    (hbig : (10 : Int) ^ 2000 ≤ (Rat.divInt (e.num * (((1 + ((2 : Nat) : Int) : Int) : Rat)).num) ((e.den : Int) * ((((1 + ((2 : Nat) : Int) : Int) : Rat)).den : Int))).num) (hden : Fits ((Rat.divInt (e.num * (((1 + ((2 : Nat) : Int) : Int) : Rat)).num) ((e.den : Int) * ((((1 + ((2 : Nat) : Int) : Int) : Rat)).den : Int))).den : Int))
    (n_counted : m (Str.ofString "counted") = some (.ref lc)) (n_days : m (Str.ofString "days") = some (.int (n : Int) tn))
    (hexc : ∀ (e9 t9 : Addr) (u9 : Tok) (h' : Heap) (tk' : Nat), RaisedQ base ((envOfC (Str.ofString "count_days") HD.fs34.1 L fa cdv) :: envX cn cs L0 a ccd cl :: outer) e9 (.ref 31) t9 [.str (Str.ofString "a fraction of too many figures") u9] ((lc, listOf ca nc) :: (L + 1 + 1, oE) :: (L + 1, oM) :: R) h' → h₀.UpToSlots h' → E (.ref e9) { s with heap := h', toks := tk' }) :
    wpAny (model Challenge.rw_ui0509_16.row.prog w) ((ktrTop dp un gd cn cs L0 a ccd cl outer).deeper (envOfC (Str.ofString "count_days") HD.fs34.1 L fa cdv)) (execs (forB (HD.nth HD.fb34.1 6)) (envOfC (Str.ofString "count_days") HD.fs34.1 L fa cdv)) Q E s := by
  w_top off
  revert X; k_fill; intro X
  dsimp only [forB, HD.nth, HD.fb34, HD.fs34]
  k_steps
  unfold Hold
  (rename News _ _ _ _ => NN9)
  (rename IsRange _ _ _ _ _ _ _ _ => hRg)
  obtain ⟨LE, eLE, NL⟩ := name_led NN9
  clear NN9
  refine ⟨_, _, _, _, _, _, n, _, rfl, rfl, by k_asm, NL, hRg, small_one (by omega) (by omega) (by omega) (by omega), rsize (by omega), by rw [sizeLine_eq]; omega, ?_⟩
  refine ⟨fun i ys nx => i ≤ 2 ∧ ∃ tl, nx = LE ++ tl ∧ ∀ q ∈ LE, ∀ p ∈ tl, p.1 ≠ q.1, fun C e s' => ∃ (e' t : Addr) (u : Tok) (oC : Obj) (m2 : Str → Option Value) (h' : Heap) (tk' : Nat), e = .ref e' ∧ s' = { s with heap := h', toks := tk' } ∧ RaisedK base ((envOfC (Str.ofString "count_days") HD.fs34.1 L fa cdv) :: envX cn cs L0 a ccd cl :: outer) e' (.ref 31) t [.str (Str.ofString "a fraction of too many figures") u] ((C, oC) :: LE) h' ∧ LCg.NsObj oC m2 ∧ h₀.UpToSlots h' ∧ ∀ q ∈ LE, q.1 ≠ C, ⟨Nat.zero_le _, [], (List.append_nil _).symm, fun _ _ _ h => nomatch h⟩, fun ys nx hJ => absurd hJ.1 (by omega), ?turn1, ?fin1⟩
  case fin1 =>
    rintro C D e s' hC₀ ⟨e', t, u, oC, m2, h', tk', rfl, rfl, hR, hoC, hup, hoff⟩
    refine note_pass (h₀ := h₀) rfl rfl hR hoC hoff hC₀ hup fun h'' hQ hu => ?_
    rw [eLE] at hQ
    exact hexc _ _ _ _ _ hQ hu
  case turn1 =>
    intro i v9 I oI C oC D9 m2 h tk ys nx hi hJ hPv hC hx Fm Nn off ne
    obtain ⟨hi2, tl, rfl, hoff⟩ := hJ
    obtain ⟨t9, rfl⟩ := hPv
    have hbk : Builtin.Int.intBits (1 + (i : Int)) ≤ 64 := PySem.intBits_le_64 (by omega) (by omega)
    have hLC : ∀ q ∈ LE, q.1 ≠ C := off3_c off
    have sLE : ∀ p ∈ LE, p ∈ (I, oI) :: (C, oC) :: (D9, LCg.lst ys) :: (LE ++ tl) := (by walk_at "sx")
    rw [eLE] at Nn
    (try dsimp only [List.cons_append, List.nil_append] at Nn)
    clear NL hRg
    k_steps
    unfold Hold
    rename_i Dk tk9 uk ck hk9 tkk Fk Nk lk
    by_cases hi9 : i < 2
    · have hFi := hF i hi9
      k_dflt (refine' times_k (D1 := D6) (D2 := Dk) (r1 := e) (r2 := ((1 + (i : Int) : Int) : Rat)) ?k1_u4 ?k2_u4 ?k3_u4 ?k4_u4 ?k5_u4 ?k6_u4 ?e1_u4 ?e2_u4 ?k7_u4 ?k8_u4 ?f1_u4 ?f2_u4 ?h9_u4 ?fr_u4 ?_)
      case k1_u4 | k2_u4 | k3_u4 | k4_u4 | k5_u4 => k_asm
      case k6_u4 => first | exact rfl | assumption
      case k7_u4 => ktr_room
      case k8_u4 => ktr_units
      case e1_u4 => exact Nk.get (((by walk_at "sx") : ∀ p ∈ R, p ∈ _) _ e6)
      case e2_u4 => exact Nk.get (by k_mem : (Dk, T2 (1 + (i : Int)) 1 tk9 uk ck) ∈ _)
      case f1_u4 => exact fe
      case f2_u4 => exact (Bd.int hbk (by decide)).fitsR (by decide)
      case h9_u4 => exact fit9_one fe.den
      case fr_u4 => exact hFi

      intro Dt2 tt ut ct ht tkt Ft Nt lt
      clear Nk Fk
      k_steps
      unfold Hold
      k_dflt (refine' plus_k (D1 := 56) (D2 := Dt2) (r1 := 0) (r2 := e * ((1 + (i : Int) : Int) : Rat)) ?k1_u5 ?k2_u5 ?k3_u5 ?k4_u5 ?k5_u5 ?k6_u5 ?e1_u5 ?e2_u5 ?k7_u5 ?k8_u5 ?f1_u5 ?f2_u5 ?h9_u5 ?fr_u5 ?_)
      case k1_u5 | k2_u5 | k3_u5 | k4_u5 | k5_u5 => k_asm
      case k6_u5 => first | exact rfl | assumption
      case k7_u5 => ktr_room
      case k8_u5 => ktr_units
      case e1_u5 => exact Frag.In.keeps (by k_asm) (Fr.keep (by k_asm)) _ _ (by k_is)
      case e2_u5 => exact Nt.get (by k_mem)
      case f1_u5 => exact (Bd.zero (by decide) : Bd 1 0).fitsR (by decide)
      case f2_u5 => exact hFi
      case h9_u5 => exact fit9_one' hFi.den
      case fr_u5 => rw [Rat.zero_add]; exact hFi

      intro Dq tq uq cq hq tkq Fq Nq lq
      clear Nt Ft
      k_steps
      unfold Hold
      refine comp_end Fq Nq (LE ++ (Dq, RatO (0 + e * ((1 + (i : Int) : Int) : Rat)) tq uq cq) :: tl) (by rw [eLE]; exact sub_mid3) (off3_mid (LE := LE) off (lq (I, oI) (by k_mem)).symm (lq (C, oC) (by k_mem)).symm (lq (D9, _) (by k_mem)).symm) trivial ⟨by omega, (Dq, RatO (0 + e * ((1 + (i : Int) : Int) : Rat)) tq uq cq) :: tl, rfl, ?o1⟩
      exact fun q hq => fcons (fun e => lq q (by rw [eLE] at hq; exact sub_le3 q hq) e.symm) (hoff q hq)
    · obtain rfl : i = 2 := by omega
      k_dflt (refine' times_x (D1 := D6) (D2 := Dk) (r1 := e) (r2 := ((1 + ((2 : Nat) : Int) : Int) : Rat)) ?k1_u6 ?k2_u6 ?k3_u6 ?k4_u6 ?k5_u6 ?k6_u6 ?e1_u6 ?e2_u6 ?k7_u6 ?k8_u6 ?f1_u6 ?f2_u6 ?h9_u6 ?hb_u6 ?hf_u6 ?_)
      case k1_u6 | k2_u6 | k3_u6 | k4_u6 | k5_u6 => k_asm
      case k6_u6 => first | exact rfl | assumption
      case k7_u6 => ktr_room
      case k8_u6 => ktr_units
      case e1_u6 => exact ((by walk_at "sx") : ∀ p ∈ R, p ∈ _) _ e6
      case e2_u6 => exact cS9
      case f1_u6 => exact fe
      case f2_u6 => exact (Bd.int hbk (by decide)).fitsR (by decide)
      case h9_u6 => exact fit9_one fe.den
      case hb_u6 => exact hbig
      case hf_u6 => exact hden

      intro g5 e5 t5 u5 h5 tk5 F5 U5 R5
      refine ⟨e5, t5, u5, oC, _, h5, tk5, rfl, rfl, raisedK_mono (fcons (by k_mem) (?sub9)) R5, hC, (Heap.UpToSlots.of_keeps F5.keep).trans U5, hLC⟩
      intro p hp
      refine cC9 ?_
      have hp' := sLE p hp
      rw [eLE] at hp'
      exact hp'
end
open PyProof.Rows.LCg in
def SrcS (prog : Program) (w : World) (A : Around) (h₀ : Heap) (L : Addr) (m : Str → Option Value) (env : Env) (elt : Expr) (x : Str) (scope : Scope) (cl : List (Str × Addr)) (Fin : Shared → List Value → List (Addr × Obj) → Prop) (xv : Value) (s₁ : Shared) : Prop :=
  ∃ (tx : Str) (t : Tok) (news : List (Addr × Obj)), xv = .str tx t ∧ A.handled = none ∧ Fr h₀ L s₁.heap m ∧ News h₀ L s₁.heap news ∧ tx.cps.all (· < 128) = true ∧ tx.cps.size ≤ sizeLine ∧
    ∀ g : Heap, CompRest prog w A h₀ L m env elt x scope cl { s₁ with heap := g } (fun _ => True) (SignAt tx) (Fin { s₁ with heap := g }) tx.cps.size 0 [] news
open PyProof.Rows.LCg in
theorem AssignComp_S {prog : Program} {w : World} {A : Around} {E : Value → Shared → Prop} {s : Shared} {h₀ : Heap} {L : Addr} {m : Str → Option Value} {env : Env} {elt iter : Expr} {x y : Str} {px py : Pos} {scope : Scope} {cl : List (Str × Addr)} {pos spos : Pos} {Q : Flow → Shared → Prop}
    (_F₀ : Fr h₀ L s.heap m) (hLe : env.locals = L) (hsw : swapsWith (.ListComp elt [⟨.Name x px, iter, [], 0⟩] scope pos) (some (.Name y py)) spos.line env = pure true)
    (hclos : closureFor scope env = pure cl) (hcell : ∀ z ∈ scope.names, z.2 ≠ .cell) (hkind : scope.kind = .function)
    (hnames : ∀ z ∈ scope.names, z.2 = .local → scope.names.lookup z.1 = some .local) (hx : scope.names.lookup x = some .local)
    (hy : env.kindOf y = some .local) (hp : (env.scope.kind == .class || (env.scope.kind == .module && env.locals != env.globals)) = false)
    (h : wpAny (model prog w) A (eval iter env) (SrcS prog w A h₀ L m env elt x scope cl (fun s₂ => FinA h₀ L m s₂ y Q)) E s)
    (hs : ∀ x, foldedSetIterable iter env x = pure x := by intro _; rfl) :
    wpAny (model prog w) A (exec (.Assign [.Name y py] (.ListComp elt [⟨.Name x px, iter, [], 0⟩] scope pos) spos) env) Q E s := by
  subst hLe
  rw [exec_Assign_Name_used _ _ _ _ hsw]
  refine wpAny_bind (wpAny_standAt (wpAny_bind ?_))
  show wpAny _ A (do let _ ← comprehension (.ListComp elt [⟨.Name x px, iter, [], 0⟩] scope pos) scope env _ (newList []) false (eval iter env) (some (assign (.Name y py) env))) _ _ s
  refine wpAny_bind (wpAny_mono (wpAny_comprehension_free (use := some (assign (.Name y py) env)) (Q := fun _ s' => Q .next s') rfl hs hclos hkind hnames
    (wpAny_mono h (fun xv s₁ h₁ => ?_) fun _ _ e => e)) (fun _ s' hq => wpAny_pure (wpAny_pure hq)) fun _ _ e => e)
  obtain ⟨tx, t, news, rfl, hh, F, N, ha, hsz, R⟩ := h₁
  refine wpAny_pyIter_ascii ha ?_
  have up : ∀ (q : Obj) b o, s₁.heap.get? b = some o → (s₁.heap.push q).get? b = some o := fun q b o e => Heap.get?_push_of_some _ e
  refine block_U (S := fun _ => True) (Walks.strAscii hh s₁.heap.objs.size tx t) hsz (fun i h st => by obtain ⟨o, e, _⟩ := st; exact ⟨o, e⟩) (fun i h h' o nw st e e' _ _ _ => by obtain ⟨o', e9, r⟩ := st; rw [e] at e9; cases e9; exact ⟨o, e', r⟩) hcell hkind hx ⟨_, Heap.get?_push_size _ rfl, rfl, rfl⟩ (fun b hb => ?_)
    (F.keeps (up _)) (N.grown (up _)) (Nat.ne_of_lt F.ns.lt) (next_is_new F) (fun p hp => Nat.ne_of_lt (Heap.lt_size (N p hp).1)) trivial (R _) ?_
  · rw [List.mem_singleton.mp hb]
    show s₁.heap.objs.size < (s₁.heap.push _).objs.size
    rw [Heap.size_push]; exact Nat.lt_succ_self _
  · intro D C h' tk m' ys news' F' N' o1 hn hC₀ hD₀ hCL hDL hCD offC fin
    show wpAny _ A (assign (.Name y py) env (.ref D)) _ _ _
    refine wpAny_assign_Name (wpAny_storeName_local hy F'.ns (fun h₂ hn₂ hs₂ => ?_) hp)
    have hL₀ : h₀.get? env.locals = none := Heap.get?_none_of_le F'.above
    have F₂ : Fr h₀ env.locals h₂ (fun z => if z = y then some (.ref D) else m z) := ⟨hn₂, fun b o e => hs₂.extBut b o (fun q => by rw [q, hL₀] at e; cases e) (F'.keep b o e), F'.above⟩
    refine ⟨m', hn.sameBut hs₂ hCL, fun h'' hs'' => fin D h'' _ (F₂.change hs'' hCL hC₀) (fun p hp => ?_) o1⟩
    exact ⟨hs''.extBut _ _ ((fcons (Ne.symm hCD) offC : ∀ p ∈ (D, lst ys) :: news', p.1 ≠ C) p hp) (hs₂.extBut _ _ (N' p hp).2.1 (N' p hp).1), (N' p hp).2⟩
section
variable {prog : Program} {w : World} {A : Around} {E : Value → Shared → Prop} {s : Shared} {K : Frag} {e t C : Addr} {oe ot : Obj} {ws : Array Value} {nt : Nat} {m : Str} {u : Tok} {Q : Value → Shared → Prop}
theorem own_type {M : Model} (he : s.heap.get? e = some oe) (hc : oe.cls = .ref C) : Looks M s.heap (typeOf (.ref e)) (.ref C) := by
  refine (Looks.ld (part := none) he).andThen ?_
  rw [hc]
  exact .now
open PySem.Builtin PySem.Builtin.Str PySem.Builtin.BaseException PySem.Builtin.Exceptions in
theorem own_args {M : Model} {Q : Value × List Value → Shared → Prop} (he : s.heap.get? e = some oe) (hd : oe.data = .fields ws) (h0 : ws[0]? = some (.ref t)) (ht : s.heap.get? t = some ot) (htd : ot.data = .seq [Value.str m u].toArray nt) (hq : Q (.ref t, [.str m u]) s) :
    wpAny M A (bexcArgs (.ref e)) Q E s := by
  unfold bexcArgs
  refine wpAny_bind (wpAny_field he hd h0 (wpAny_bind (wpAny_seqItems ht htd ?_)))
  exact wpAny_pure hq
open PySem.Builtin PySem.Builtin.Str PySem.Builtin.BaseException PySem.Builtin.Exceptions in
theorem own_str_entry {Q : Fin → Shared → Prop} (he : s.heap.get? e = some oe) (hd : oe.data = .fields ws) (h0 : ws[0]? = some (.ref t)) (ht : s.heap.get? t = some ot) (htd : ot.data = .seq [Value.str m u].toArray nt) (hq : Q (.done (.ret (.str m u))) s) :
    wpAny (model prog w) A (Builtin.«BaseException.__str__» ⟨[.ref e], []⟩) Q E s := by
  unfold Builtin.«BaseException.__str__»
  repeat (first | with_reducible refine own_args he hd h0 ht htd ?_ | wp_step)
  exact hq
theorem own_special {M : Model} {name : Str} {id : String} {args : List Value} {Q : Option Value → Shared → Prop} (X : K.In s.heap) (he : s.heap.get? e = some oe) (hc : oe.cls = .ref C) (hs : findIn K (.ref C) name = some (some (.builtin id)))
    (hb : ∀ self, bindSpecial (.builtin id) self = pure (.builtin id, [self])) (h : wpAny M A (call (.builtin id) (.ref e :: args)) (fun v => Q (some v)) E s) : wpAny M A (callSpecial? (.ref e) name args) Q E s :=
  wpAny_bind (wpAny_bind ((own_type he hc).here ((looks_findIn X hs).here (wpAny_holding (wpAny_bind ((Looks.of_pure (hb _)).here (wpAny_bind (wpAny_mono h (fun _ _ z => wpAny_pure z) fun _ _ z => z))))))))
open PySem.Builtin PySem.Builtin.Str PySem.Builtin.BaseException PySem.Builtin.Exceptions in
theorem str_own (hu : A.in1.in1.units < cLine) (X : K.In s.heap) (he : s.heap.get? e = some oe) (hc : oe.cls = .ref C) (hd : oe.data = .fields ws) (h0 : ws[0]? = some (.ref t)) (ht : s.heap.get? t = some ot) (htd : ot.data = .seq [Value.str m u].toArray nt)
    (hs : findIn K (.ref C) "__str__" = some (some (.builtin "BaseException.__str__"))) (hm : mroIn K C (.type "BaseException") = some true) (h : Q (.str m u) s) : wpAny (model prog w) A (call (.type "str") [.ref e]) Q E s := by
  refine callType_codes (T := "str") (Bi := Builtin.«object.__init__») (Q₁ := fun r s₁ => ∃ y u, r = .str y u ∧ Q r s₁) PySem.F.called_str (PySem.F.typeCall_str_1 _) PySem.F.entry_object_init ?_ ?_
  · refine codeAny_of_tree ?_
    show wpAny _ A.in1.in1 (do checkBuiltinCall "str.__new__" ⟨[.type "str", .ref e], []⟩; again (.builtin "str.__new__" ⟨[.type "str", .ref e], []⟩)) _ _ s
    refine wpAny_bind (wpAny_of_eq (PySem.F.newCall_str_1 _) (wpAny_pure ⟨plainId_quiet (by decide +kernel) _, codeAny_builtin PySem.F.entry_str_new ?_⟩))
    rw [Around.under_plainId (by decide +kernel) _]
    rw [str_new_tree]
    refine wpAny_bind (wpAny_pure ?_)
    refine wpAny_bind (wpAny_of_eq isSubtype_str_str ?_)
    have key : wpAny (model prog w) A.in1.in1 (PySem.Builtin.Str.strOf (.ref e)) (fun r s₁ => ∃ y u, r = .str y u ∧ Q r s₁) E s := by
      unfold PySem.Builtin.Str.strOf
      rw [show isExactStr (.ref e) = false from rfl]
      refine wpAny_bind (m := cRoomFor _ _) (wpAny_cRoomFor hu ?_)
      refine wpAny_bind (m := callSpecial? (.ref e) (Str.ofString "__str__")) (own_special X he hc hs PySem.F.excStr_ValueError.str.bind ?_)
      refine wpAny_call (codeAny_call_builtin PySem.F.excStr_ValueError.str.plain PySem.F.entry_bexc_str (check_slot (i := "BaseException.__str__") (owner := "BaseException") (n := "__str__") (by decide +kernel) (by decide +kernel) ((own_type he hc).andThen (looks_mroIn X hm)) (PySem.F.args_bexc_str _) ?_))
      refine own_str_entry he hd h0 ht htd ?_
      exact wpAny_pure ⟨_, _, rfl, h⟩
    exact wpAny_bind (wpAny_mono key (fun r s₁ hr => wpAny_pure hr) fun _ _ y => y)
  · rintro obj s₁ ⟨y, u, rfl, hq⟩
    exact ⟨typeIs_str _ _ _, PySem.F.args_object_init_2 _ _, object_init_meets PySem.F.called_str.init.lookup PySem.F.called_str.made (by decide) prog w A.in1 _ s₁ ⟨typeIs_str _ _ _, rfl, hq⟩⟩
end
theorem str_gotC {prog : Program} {w : World} {A : Around} {E : Value → Shared → Prop} {K : Frag} {h₀ : Heap} {L e t C : Addr} {mm : Str → Option Value} {news : List (Addr × Obj)} {m : Str} {u : Tok} {s : Shared} {Q : Value → Shared → Prop} (hu : A.units + 2 < cLine) (F : Fr h₀ L s.heap mm) (X : K.In h₀) (N : News h₀ L s.heap news) (G : Got news e t (.ref C) [.str m u])
    (hs : findIn K (.ref C) "__str__" = some (some (.builtin "BaseException.__str__"))) (hm : mroIn K C (.type "BaseException") = some true) (h : Q (.str m u) s) : wpAny (model prog w) A (call (.type "str") [.ref e]) Q E s := by
  obtain ⟨oe, ot, ws, nt, h1, h2, hc, hd, h0, htc, htd⟩ := G
  exact str_own (show A.units + 1 + 1 < cLine from hu) (X.keeps F.keep) (N.get h1) hc hd h0 (N.get h2) htd hs hm h
theorem caught_C {prog : Program} {w : World} {A₀ : Around} {E : Value → Shared → Prop} {s' : Shared} {h₀ h : Heap} {outer : List Env} {L a e t : Addr} {m : Str → Option Value} {name : Str} {scope : Scope} {cd : Value}
    {vs : List Value} {n : Str} {b₀ : Stmt} {suite : List Stmt} {pos np : Pos} {rest : List ExceptHandler} {Q : Flow → Shared → Prop} {news : List (Addr × Obj)} {KF : Frag} {C : Addr} {bmB : List Value} {newId : String}
    {p : Program} {loose : List Str} {mean : ExcName → Option Value} {mg mb : Str → Option Value} {x : Str}
    (K : Below A₀ h₀ outer h₀) (F : Fr h₀ L h m) (hsm : h.UpToSlots s'.heap) (R : RaisedK h₀ (envOfC name scope L a cd :: outer) e (.ref C) t vs news s'.heap)
    (X : KF.In h₀) (T : Top p loose mean mg mb h₀) (ex : nsIn KF mainGlobals x = some (some (.ref C))) (q : excIn KF C bmB newId = true) (hbase : bmB.contains (.type "BaseException") = true)
    (k : ∀ h' oe ot tk (E' : Value → Shared → Prop), Fr h₀ L h' (fun y => if y = n then some (.ref e) else m y) → News h₀ L h' ((e, oe) :: (t, ot) :: news) → Got ((e, oe) :: (t, ot) :: news) e t (.ref C) vs →
      wpAny (model prog w) ((A₀.deeper (envOfC name scope L a cd)).mark (some (.ref e))) (execs (b₀ :: suite) (envOfC name scope L a cd))
        (fun f s₄ => wpAny (model prog w) (A₀.deeper (envOfC name scope L a cd)) (do bindName (envOfC name scope L a cd) n .none; unbindBehindTheSuite (envOfC name scope L a cd) n pos) (fun _ s₅ => Q f s₅) E s₄) E' { s' with heap := h', toks := tk })
    (hk : scope.kind = .function := by rfl) (hlo : (envOfC name scope L a cd).kindOf n = some .local := by rfl) (hx : (envOfC name scope L a cd).kindOf x = some .globalImplicit := by rfl) (hd : (x == ("__debug__" : Str)) = false := by decide) :
    wpAny (model prog w) (A₀.deeper (envOfC name scope L a cd)) (noteFrame (.ref e) (envOfC name scope L a cd))
      (fun _ s₂ => wpAny (model prog w) (A₀.deeper (envOfC name scope L a cd)) (setFlight (.ref e) none) (fun _ s₃ =>
        wpAny (model prog w) (A₀.deeper (envOfC name scope L a cd)) (handleBy (.ref e) (envOfC name scope L a cd) (.ExceptHandler (some (.Name x np)) (some n) (b₀ :: suite) pos :: rest)) Q E s₃) E s₂) E s' := by
  obtain ⟨⟨B, hB, hl, hfl, hnew⟩, htup⟩ := R
  have hL : B.get? L = none := by
    obtain ⟨_, ⟨L', _, hf, hn', _⟩, _⟩ := hfl.2.2.1
    obtain rfl : L = L' := Option.some.inj hf
    exact hn'
  refine wpAny_looks_onW (Around.frames_deeper K.stack) rfl hfl fun h₄ y₄ u₄ => ?_
  refine wpAny_landsW y₄ fun h₅ y₅ u₅ => ?_
  have hsm₅ := hsm.trans (u₄.trans u₅)
  have F₅ := F.of_stays (flyingW_base hB y₅).1 hsm₅
  obtain ⟨ob, hob, hobc⟩ := y₅.there
  refine wpAny_handleBy_cons (codeAny_handlers_test (nameX_K F₅ X (topRead_of T) ex ?_ hk hx hd)) (by intro q; cases q)
  obtain ⟨bm, N, nm, qn, bs, hdct, sn, sub, ab, col, dd, k0, k1, k2, k3, k5, mN, hC, hN, hni, TL⟩ := ((own_of_in X (topRead_of T) ex q).keeps F₅.keep).obj
  refine wpAny_excMatches_sub_self hC hob hobc (TL.hasType hbase) (codeAny_handlers_suite_as ?_)
  refine lands_againW y₅ fun h₆ y₆ u₆ => ?_
  have z₆ := flyingW_base hB y₆
  have F₆ := F.of_stays z₆.1 (hsm₅.trans u₆)
  obtain ⟨oe, ws, hoe, hoec, hoed, hoe0⟩ := z₆.first
  obtain ⟨ot, nt, hot, hotc, hotd⟩ := (htup.of_slots (u₄.trans u₅)).of_slots u₆
  have nL : ∀ b o, h₆.get? b = some o → h₀.get? b = none → (∀ es n, o.data ≠ .dict es n) → b ≠ L := fun b o e1 e2 e3 q => by
    obtain ⟨oL, es, ep, g1, g2, _⟩ := F₆.ns
    rw [q, g1] at e1; cases e1
    exact e3 _ _ g2
  have N₆ : News h₀ L h₆ ((e, oe) :: (t, ot) :: news) := fcons (⟨hoe, nL _ _ hoe z₆.2.1 (fun es n q => by rw [hoed] at q; cases q), z₆.2.1⟩) (fcons (⟨hot, nL _ _ hot (fresh_of_stays hB hnew) (fun es n q => by rw [hotd] at q; cases q), fresh_of_stays hB hnew⟩) (fun q hq => ⟨y₆.1 _ _ (hl q hq).1, (fun z => by have := (hl q hq).1; rw [z, hL] at this; cases this), (hl q hq).2⟩))
  refine wpAny_storeName_local hlo F₆.ns (fun h₇ hn₇ hs₇ => ?_) (by show (scope.kind == .class || (scope.kind == .module && L != mainGlobals)) = false; rw [hk]; rfl)
  exact k h₇ oe ot _ _ (F₆.set hn₇ hs₇) (fun q hq => ⟨hs₇.extBut _ _ (N₆ q hq).2.1 (N₆ q hq).1, (N₆ q hq).2⟩) ⟨oe, ot, ws, nt, .head _, .tail _ (.head _), hoec, hoed, hoe0, hotc, hotd⟩
theorem name_goes_C {M : Model} {A : Around} {E : Value → Shared → Prop} {s : Shared} {h₀ : Heap} {L a : Addr} {m : Str → Option Value} {name : Str} {scope : Scope} {cd : Value} {n : Str} {pos : Pos} {news : List (Addr × Obj)} {Q : Unit → Shared → Prop} (F : Fr h₀ L s.heap m) (N : News h₀ L s.heap news)
    (h : ∀ h' tk v, Fr h₀ L h' (fun x => if x = n then v else m x) → News h₀ L h' news → Q () { s with heap := h', toks := tk })
    (hk : scope.kind = .function := by rfl) (hl : (envOfC name scope L a cd).kindOf n = some .local := by rfl) :
    wpAny M A (do bindName (envOfC name scope L a cd) n .none; unbindBehindTheSuite (envOfC name scope L a cd) n pos) Q E s :=
  wpAny_nameGoes_keeps hl F.ns (by show (scope.kind == .class || (scope.kind == .module && L != mainGlobals)) = false; rw [hk]; rfl) fun h' v hn hs => h h' _ v (F.set hn hs) fun q hq => ⟨hs.extBut _ _ (N q hq).2.1 (N q hq).1, (N q hq).2⟩
section
theorem words31 : True := by
  k_with_none
  k_with "k_in" => (refine' in_of ?z4fF ?z4fX; (case z4fF | z4fX => k_asm))
  k_with "hat9" => (first | exact News.get (by k_asm) (by k_mem) | exact Fr.keep (by k_asm) _ _ (by with_reducible assumption) | exact Tk.get (by k_asm) (by k_asm) (by with_reducible assumption) (by walk_at "st") | exact Frag.In.keeps (by k_asm) (Fr.keep (by k_asm)) _ _ (by k_is))
  k_with "bits_by_make" => (with_reducible assumption)
  k_with "call ref" => (k_here; (with_reducible show wpAny _ _ (call (Value.ref 80) [Value.ref _]) _ _ _); k_dflt (refine' need_cu ?z154k1 ?z154k2 ?z154k3 ?z154k4 ?z154k5 ?z154k6 ?z154m1 ?z154k7 ?z154k8 ?z154b1 ?z154b2 ?z154z1 ?z154z2 ?_; (case z154k1 | z154k2 | z154k3 | z154k4 | z154k5 => k_asm); (case z154k6 => first | exact rfl | assumption); (case z154k7 => first | exact Nat.le_of_ble_eq_true rfl | ktr_room); (case z154k8 => first | exact Nat.le_of_ble_eq_true rfl | ktr_units); (case z154m1 => (walk_at "hat9")); (case z154b1 | z154b2 => bits_by_make); (case z154z1 | z154z2 => first | assumption | decide | omega); k_whole); walk_at "i3"; (try k_sweep))
  k_with "call ref" => (k_here; (with_reducible show wpAny _ _ (call (Value.ref 41) [Value.int _ _, Value.int _ _, Value.int _ _, Value.str _ _]) _ _ _); k_dflt (refine' need_number_c ?z155k1 ?z155k2 ?z155k3 ?z155k4 ?z155k5 ?z155k6 ?z155h1 ?z155h2 ?z155k7 ?_; (case z155k1 | z155k2 | z155k3 | z155k4 | z155k5 => k_asm); (case z155k6 => first | exact rfl | assumption); (case z155k7 => first | exact Nat.le_of_ble_eq_true rfl | ktr_room); (case z155h1 | z155h2 => first | decide | assumption | omega); k_whole); walk_at "i3"; (try k_sweep))
  k_with "call ref" => (k_here; (with_reducible show wpAny _ _ (call (Value.ref 55) [Value.str (PySem.Str.ofString "n") _]) _ _ _); k_dflt (refine' need_name_n ?z156k1 ?z156k2 ?z156k3 ?z156k4 ?z156k5 ?z156k6 ?z156k7 ?_; (case z156k1 | z156k2 | z156k3 | z156k4 | z156k5 => k_asm); (case z156k6 => first | exact rfl | assumption); (case z156k7 => first | exact Nat.le_of_ble_eq_true rfl | ktr_room); k_whole); walk_at "i3"; (try k_sweep))
  k_with "subscriptTail" => (k_here; (with_reducible show wpAny _ _ (subscriptTail _ _ (Value.ref _) (Value.int _ _)) _ _ _); k_dflt (refine' tup_g ?z157k1 ?z157k2 ?z157k3 ?z157k4 ?z157k5 ?z157k6 ?z157k7 ?z157k8 ?_ ?z157k9 ?z157k10; (case z157k1 => k_asm); (case z157k2 => with_reducible assumption); (case z157k3 | z157k4 => exact rfl); (case z157k5 | z157k6 => decide); (case z157k7 | z157k8 => exact rfl); (case z157k9 => with_unfolding_all rfl); (case z157k10 => (intro _; with_unfolding_all rfl)); k_whole))
  k_with "call ref" => (k_here; (with_reducible show wpAny _ _ (call (Value.ref 80) [Value.ref _]) _ _ _); k_dflt (refine' need_c ?z158k1 ?z158k2 ?z158k3 ?z158k4 ?z158k5 ?z158k6 ?z158m1 ?z158k7 ?z158k8 ?z158b1 ?z158b2 ?_; (case z158k1 | z158k2 | z158k3 | z158k4 | z158k5 => k_asm); (case z158k6 => first | exact rfl | assumption); (case z158k7 => first | exact Nat.le_of_ble_eq_true rfl | ktr_room); (case z158k8 => first | exact Nat.le_of_ble_eq_true rfl | ktr_units); (case z158m1 => (walk_at "hat9")); (case z158b1 | z158b2 => with_reducible assumption); k_whole); walk_at "i3"; (try k_sweep))
  trivial
theorem meter_newF_n {w : World} {a : Addr} {A₀ : Around} {base h₀ : Heap} {L : Addr} {m : Str → Option Value} {news : List (Addr × Obj)} {s : Shared} {Q E : Value → Shared → Prop} {D1 : Addr} {r : Rat} {tu : Int} {t1 t1' t2 t3 : Tok} {c1 : Nat} 
    (B : Below A₀ base outer h₀) (F : Fr h₀ L s.heap m) (X : (HD.K w.params).In h₀) (N : News h₀ L s.heap news) (T : Top p loose mean mg mb h₀) (hk : cs.kind = .function) (e1 : (D1, RatO r t1 t1' c1) ∈ news)
    (hd : dp + 8 < recursionLimit) (hu : un + 200 < cLine) (h1 : 0 < r.num) (b1 : Fits r.num) (b2 : Fits (r.den : Int)) (hT : 10 ≤ tu) (hT2 : tu ≤ 1000000000000)
    (hret : ∀ (x d l : Addr) (k1 k2 k3 k4 k5 : Tok) (n : Nat) (h' : Heap) (tk' : Nat), Fr h₀ L h' m → News h₀ L h' ((x, instObj 393 d) :: (d, meterD w.params k1 k2 k3 k4 k5 (.str (Str.ofString "n") t2) (.int tu t3) (.ref D1) (.ref l) (.ref 56)) :: (l, listOf #[] n) :: news) → d ≠ x → l ≠ x → l ≠ d → (∀ p ∈ news, p.1 ≠ x) → (∀ p ∈ news, p.1 ≠ d) → (∀ p ∈ news, p.1 ≠ l) → Q (.ref x) { s with heap := h', toks := tk' }) :
    wpAny (model Challenge.rw_ui0509_16.row.prog w) (ktrTop dp un gd cn cs L a ccd cl outer) (call (.ref 393) [.str (Str.ofString "n") t2, .int tu t3, .ref D1]) Q E s := by
  w_top off
  revert X; k_fill; intro X
  k_dflt (refine' call_cls ?k1 ?k2 ?k3 ?k4 ?k5 ?k6 ?_; (case k1 | k2 | k3 => k_asm); (case k4 | k5 | k6 => k_is); k_whole; intro x0 d0 h0 F0 N0 l0 l00)
  have e2 := News.get N0 (cC9 (cC9 e1))
  have l2 : D1 < d0 := l0 _ e1
  k_dflt (refine' code_need [(x0, instObj 393 d0), (d0, dictOf [] 0)] ?k1 ?k2 ?k3 ?k4 ?k5 ?kA ?kF ?kK ?k6 ?k7 ?k8 ?k9 ?kB ?kN ?_ ?c2 ?c3 ?c4 ?c5; walk_at "en0"; (case kN => exact fcons cS9 (fcons m1K (List.forall_mem_nil _))); walk_at "en1")
  replace e2 := hG' _ _ e2 (by simp only [List.map_cons, List.map_nil, List.mem_cons, List.not_mem_nil, or_false, not_or]; exact ⟨neN (by have := ltN l2; have := ltN l00; omega), neN (by have := ltN l2; omega)⟩)
  replace l00 := ltN l00
  k_steps
  all_goals (refine leaveN_ (by k_asm) (by k_asm) ?_; intro kF kN kR kD; dsimp only [InitBack]; refine ⟨rfl, ?_⟩; exact hret _ _ _ _ _ _ _ _ _ _ _ kF (news_cons kN (by k_mem) (news_cons kN (by k_mem) (news_cons kN (by k_mem) fun p hp => kR p (rest_two l0 l00 hp)))) (neN (by walk_at "ne9")) (neN (by walk_at "ne9")) (neN (by walk_at "ne9")) (fun p hp => kD p (rest_two l0 l00 hp) _ (by k_mem : (_, instObj _ _) ∈ _)) (fun p hp => kD p (rest_two l0 l00 hp) _ (by k_mem : (_, meterD ..) ∈ _)) (fun p hp => kD p (rest_two l0 l00 hp) (_, listOf #[] _) (by k_mem)))
end
theorem news_keep4 {h₀ h h' : Heap} {L a b c d : Addr} {oa ob oc od : Obj} {rest need full : List (Addr × Obj)} (N : News h₀ L h ((a, oa) :: (b, ob) :: (c, oc) :: (d, od) :: rest)) (hA : ∀ p ∈ [(a, oa), (b, ob), (c, oc), (d, od)], ∀ q ∈ rest, q.1 ≠ p.1) (kN : News h₀ L h' full)
    (hn : ∀ p ∈ need, p ∈ [(a, oa), (b, ob), (c, oc), (d, od)] ∨ (p ∈ rest ∧ p ∈ full)) (kR : News h₀ L h' (restOf ((a, oa) :: (b, ob) :: (c, oc) :: (d, od) :: rest) need)) : News h₀ L h' rest := by
  have sr : ∀ p ∈ rest, p ∈ (a, oa) :: (b, ob) :: (c, oc) :: (d, od) :: rest := fun p hp => cC9 (cC9 (cC9 (cC9 hp)))
  intro p hp
  by_cases q : p.1 ∈ need.map (·.1)
  · obtain ⟨p', hp', e⟩ := List.mem_map.mp q
    rcases hn p' hp' with h1 | ⟨h1, h2⟩
    · exact absurd e.symm (hA p' h1 p hp)
    · have e1 := (N p' (sr _ h1)).1
      have e2 := (N p (sr _ hp)).1
      rw [e, e2] at e1
      have : p = p' := Prod.ext e.symm (Option.some.inj e1)
      rw [this]
      exact kN _ h2
  · exact kR p (mem_rest (sr _ hp) q)
def NotTup (o : Obj) : Prop := o.cls ≠ .type "tuple" ∨ ∃ v, o.data = .cell v
theorem not_need9 {h : Heap} {need : List (Addr × Obj)} {b : Addr} {o : Obj} (hN : ∀ p ∈ need, h.get? p.1 = some p.2) (hc : ∀ p ∈ need, NotTup p.2) (e : h.get? b = some o) (ho : o.cls = .type "tuple") (hd : ∃ vs n, o.data = .seq vs n) : b ∉ need.map (·.1) := fun k => by
  obtain ⟨p, hp, rfl⟩ := List.mem_map.mp k
  have h1 := hN p hp
  rw [e] at h1
  have h2 := Option.some.inj h1
  rcases hc p hp with h3 | ⟨v, h3⟩
  · exact h3 (by rw [← h2]; exact ho)
  · obtain ⟨vs, n, h4⟩ := hd
    rw [← h2, h4] at h3
    cases h3
theorem apNe {a b : Nat} (h : @LT.lt Nat _ a b) : b ≠ a := (Nat.ne_of_lt h).symm
theorem fr_name9 {h₀ h : Heap} {L : Addr} {m : Str → Option Value} (F : Fr h₀ L h m) : ∃ m', m' = m ∧ Fr h₀ L h m' := ⟨m, rfl, F⟩
theorem fr_at9 {m m' : Str → Option Value} (e : m' = m) (x : Str) (v : Value) (h : m x = some v) : m' x = some v := by rw [e]; exact h
theorem allLt_succ {d : Nat} : ∀ {l : List (Addr × Obj)}, AllLt d l → AllLt (d + 1) l
  | [], _ => trivial
  | _ :: _, x => ⟨Nat.lt_succ_of_lt x.1, allLt_succ x.2⟩
section
local macro_rules | `(tactic| k_lt $h:ident) => `(tactic| replace $h:ident := allLt_of $h)
theorem words32 : True := by
  k_with_none
  k_with "k_in" => (refine' in_of ?z4fF ?z4fX; (case z4fF | z4fX => k_asm))
  k_with "call type:zip" => (refine Hold.out ?_)
  k_with "subscriptTail Name Name ref str" => (k_here; (with_reducible show wpAny _ _ (subscriptTail _ _ (Value.ref _) (Value.str _ _)) _ _ _); k_dflt (refine' kda_item (knd := PySem.strKind _ _) ?z159N ?z159hp ?z159hd (strKind_is _ _ _ _) ?z159hl ?_; (case z159N => k_asm); (case z159hp => k_mem); (case z159hd => with_reducible assumption); (case z159hl => rfl); k_whole); (try dsimp only))
  k_with "compareOp Is ref ref" => (k_here; (with_reducible show wpAny _ _ (compareOp CmpOp.Is (Value.ref _) (Value.ref _)) _ _ _); k_dflt (refine' kto_is ?z160a ?z160b ?z160n ?z160c ?_; (case z160n => assumption); (case z160a | z160b => refine' kto_N ?z160N ?z160m; (case z160N => k_asm); (case z160m => k_mem)); (case z160c => kto_not); k_whole))
  k_with "hat9" => (first | exact News.get (by k_asm) (by k_mem) | exact Fr.keep (by k_asm) _ _ (by with_reducible assumption) | exact Tk.get (by k_asm) (by k_asm) (by with_reducible assumption) (by walk_at "st") | exact Frag.In.keeps (by k_asm) (Fr.keep (by k_asm)) _ _ (by k_is))
  k_with "call ref" => (k_here; (with_reducible show wpAny _ _ (call (Value.ref 108) [Value.ref _, Value.ref _]) _ _ _); k_dflt (refine' over_r ?z161k1 ?z161k2 ?z161k3 ?z161k4 ?z161k5 ?z161k6 ?z161m1 ?z161m2 ?z161k7 ?z161k8 ?z161b1 ?z161b2 ?z161hz ?z161hb ?_; (case z161k1 | z161k2 | z161k3 | z161k4 | z161k5 => k_asm); (case z161k6 => first | exact rfl | assumption); (case z161k7 => first | exact Nat.le_of_ble_eq_true rfl | ktr_room); (case z161k8 => first | exact Nat.le_of_ble_eq_true rfl | ktr_units); (case z161m1 | z161m2 => (walk_at "hat9")); (case z161b1 | z161b2 => with_reducible assumption); (case z161hb => first | assumption | omega | decide); (case z161hz => first | assumption | grind); k_whole); walk_at "i8"; (try k_sweep))
  k_with "call ref" => (k_here; (with_reducible show wpAny _ _ (call (Value.ref 87) [Value.ref _, Value.ref _]) _ _ _); k_dflt (refine' plus_r ?z162k1 ?z162k2 ?z162k3 ?z162k4 ?z162k5 ?z162k6 ?z162m1 ?z162m2 ?z162k7 ?z162k8 ?z162b1 ?z162b2 ?z162hb ?_; (case z162k1 | z162k2 | z162k3 | z162k4 | z162k5 => k_asm); (case z162k6 => first | exact rfl | assumption); (case z162k7 => first | exact Nat.le_of_ble_eq_true rfl | ktr_room); (case z162k8 => first | exact Nat.le_of_ble_eq_true rfl | ktr_units); (case z162m1 | z162m2 => (walk_at "hat9")); (case z162b1 | z162b2 => with_reducible assumption); (case z162hb => first | assumption | omega | decide); k_whole); walk_at "i8"; (try k_sweep))
  k_with "call ref" => (k_here; (with_reducible show wpAny _ _ (call (Value.ref 101) [Value.ref _, Value.ref _]) _ _ _); k_dflt (refine' times_r ?z163k1 ?z163k2 ?z163k3 ?z163k4 ?z163k5 ?z163k6 ?z163m1 ?z163m2 ?z163k7 ?z163k8 ?z163b1 ?z163b2 ?z163hb ?_; (case z163k1 | z163k2 | z163k3 | z163k4 | z163k5 => k_asm); (case z163k6 => first | exact rfl | assumption); (case z163k7 => first | exact Nat.le_of_ble_eq_true rfl | ktr_room); (case z163k8 => first | exact Nat.le_of_ble_eq_true rfl | ktr_units); (case z163m1 | z163m2 => (walk_at "hat9")); (case z163b1 | z163b2 => with_reducible assumption); (case z163hb => first | assumption | omega | decide); k_whole); walk_at "i8"; (try k_sweep))
  k_with "k_ne" => (refine neN ?_; (try dsimp only); first | with_reducible assumption | exact Ne.symm (by with_reducible assumption) | exact apL (by with_reducible assumption) (by k_mem) | exact (apL (by with_reducible assumption) (by k_mem)).symm | exact apLt (by with_reducible assumption) (by k_mem) | exact (apLt (by with_reducible assumption) (by k_mem)).symm)
  k_with "k_all" => (first | with_reducible assumption | exact List.forall_mem_nil _ | (refine fcons (?_) (?_) <;> first | k_ne | k_all) | exact allLt_mem (by with_reducible assumption))
  k_with "bits_by_make" => (with_reducible assumption)
  k_with "call ref" => (k_here; (with_reducible show wpAny _ _ (call (Value.ref 72) [Value.int _ _, Value.int _ _]) _ _ _); k_dflt (refine' frac_use ?z164k1 ?z164k2 ?z164k3 ?z164k4 ?z164k5 ?z164k6 ?z164k7 ?z164k8 ?z164k9 ?z164k10 ?z164k11 ?z164k12 ?z164k13 ?_; (case z164k1 | z164k2 | z164k3 | z164k4 | z164k5 => k_asm); (case z164k6 => first | exact rfl | assumption); (case z164k7 => first | exact Nat.le_of_ble_eq_true rfl | ktr_room); (case z164k8 => first | exact Nat.le_of_ble_eq_true rfl | ktr_units); (case z164k10 | z164k11 => bits_by_make); (case z164k12 | z164k13 => decide); (case z164k9 => first | exact nzden _ | omega | ((try k_fmods); omega) | (refine nzmul ?_ ?_ <;> first | exact nzden _ | omega)); k_whole); walk_at "i9"; (try k_sweep))
  k_with "call ref" => (k_here; (with_reducible show wpAny _ _ (call (Value.ref 72) [Value.int _ _, Value.int 1 _]) _ _ _); k_dflt (refine' frac_one ?z165k1 ?z165k2 ?z165k3 ?z165k4 ?z165k5 ?z165k6 ?z165k7 ?z165k8 ?z165k10 ?z165k12 ?_; (case z165k1 | z165k2 | z165k3 | z165k4 | z165k5 => k_asm); (case z165k6 => first | exact rfl | assumption); (case z165k7 => first | exact Nat.le_of_ble_eq_true rfl | ktr_room); (case z165k8 => first | exact Nat.le_of_ble_eq_true rfl | ktr_units); (case z165k10 => bits_by_make); (case z165k12 => decide); k_whole); walk_at "i10"; (try k_sweep))
  k_with "call ref" => (k_here; (with_reducible show wpAny _ _ (call (Value.ref 72) [Value.int _ _]) _ _ _); k_dflt (refine' frac_dflt ?z166k1 ?z166k2 ?z166k3 ?z166k4 ?z166k5 ?z166k6 ?z166k7 ?z166k8 ?z166k10 ?z166k12 ?_; (case z166k1 | z166k2 | z166k3 | z166k4 | z166k5 => k_asm); (case z166k6 => first | exact rfl | assumption); (case z166k7 => first | exact Nat.le_of_ble_eq_true rfl | ktr_room); (case z166k8 => first | exact Nat.le_of_ble_eq_true rfl | ktr_units); (case z166k10 => bits_by_make); (case z166k12 => decide); k_whole); walk_at "i10"; (try k_sweep))
  k_with "call ref" => (k_here; (with_reducible show wpAny _ _ (call (Value.ref 41) [Value.int _ _, Value.int _ _, Value.int _ _, Value.str _ _]) _ _ _); k_dflt (refine' need_number_c ?z167k1 ?z167k2 ?z167k3 ?z167k4 ?z167k5 ?z167k6 ?z167h1 ?z167h2 ?z167k7 ?_; (case z167k1 | z167k2 | z167k3 | z167k4 | z167k5 => k_asm); (case z167k6 => first | exact rfl | assumption); (case z167k7 => first | exact Nat.le_of_ble_eq_true rfl | ktr_room); (case z167h1 | z167h2 => first | decide | assumption | omega); k_whole); walk_at "i3"; (try k_sweep))
  k_with "exec For Name Name cons nil" => ((with_reducible show wpAny _ _ (exec (Stmt.For (Expr.Name _ _) (Expr.Name _ _) _ _ _) _) _ _ _); refine Hold.out ?_)
  k_with "call ref" => (k_here; (with_reducible show wpAny _ _ (call (Value.ref 335) _ _) _ _ _); refine Hold.out ?_)
  k_with "call ref" => (k_here; (with_reducible show wpAny _ _ (call (Value.ref 115) _ _) _ _ _); refine Hold.out ?_)
  k_with "call ref" => (k_here; (with_reducible show wpAny _ _ (call (Value.ref 108) _ _) _ _ _); refine Hold.out ?_)
  k_with "eval Name" => (k_here; k_dflt (refine' nameX_L ?z168k1 ?z168k2 ?_ ?z168k3 ?z168k4; (case z168k1 => k_asm); (case z168k3 | z168k4 => rfl); (case z168k2 => first | exact rfl | assumption); k_whole))
  k_with "k_mem" => (first | with_reducible assumption | (refine aL0 ?_; with_reducible assumption) | (refine cC9 ?_; k_mem))
  k_with "call ref" => (k_here; (with_reducible show wpAny _ _ (call (Value.ref 41) [Value.int _ _, Value.int _ _, Value.int _ _, Value.str _ _]) _ _ _); k_dflt (refine' need_number_c ?z169k1 ?z169k2 ?z169k3 ?z169k4 ?z169k5 ?z169k6 ?z169h1 ?z169h2 ?z169k7 ?_; (case z169k1 | z169k2 | z169k3 | z169k4 | z169k5 => k_asm); (case z169k6 => first | exact rfl | assumption); (case z169k7 => first | exact Nat.le_of_ble_eq_true rfl | ktr_room); (case z169h1 | z169h2 => first | decide | assumption | omega); k_whole); walk_at "i3"; (try k_sweep))
  k_with "execs cons" => (walk_at "i12"; refine Hold.out ?_)
  k_with "k_all" => (refine List.forall_mem_append.mpr ⟨?_, ?_⟩ <;> k_all)
  k_with "pyIter ref" => ((with_reducible show wpAny _ _ (pyIter (Value.ref _)) (fun it s₂ => TurnsAt _ _ _ _ _ _ _ _ _ it s₂) _ _); refine Hold.out ?_)
  trivial
theorem count_all {w : World} {a : Addr} {A₀ : Around} {base h₀ : Heap} {L : Addr} {m : Str → Option Value} {s : Shared} {Q E : Value → Shared → Prop} {z : NetP} {md x1 d1 lu x2 d2 lv Df1 Df2 : Addr} {j11 j21 j31 j41 j51 j61 j12 j22 j32 j42 j52 j62 td tn tf1 tf1' tf2 tf2' : Tok} {nm1 nm2 : Value} {day : Int} {n n1 n2 ndl1 ndl2 cf1 cf2 : Nat} {omd : Obj} {f1 f2 : Rat} {dvs1 dvs2 : List Value} {ds : List Rat} {rest W : List (Addr × Obj)} 
    (B : Below A₀ base outer h₀) (F : Fr h₀ L s.heap m) (X : (HD.K w.params).In h₀) (N : News h₀ L s.heap ((d1, meterD w.params j11 j21 j31 j41 j51 nm1 (.int 5000 j61) (.ref Df1) (.ref lu) (.ref 56)) :: (lu, listOf ([] : List Value).toArray n1) :: (d2, meterD w.params j12 j22 j32 j42 j52 nm2 (.int 5000 j62) (.ref Df2) (.ref lv) (.ref 56)) :: (lv, listOf ([] : List Value).toArray n2) :: rest)) (T : Top p loose mean mg mb h₀) (hk : cs.kind = .function) (ex1 : (x1, instObj 393 d1) ∈ rest) (ex2 : (x2, instObj 393 d2) ∈ rest) (em : (md, omd) ∈ rest) (hWr : ∀ p ∈ W, p ∈ rest) (hWc : ∀ p ∈ W, NotTup p.2) (hnu : ∀ p ∈ [(z.net, instObj 312 z.dn), (z.dn, netDO w.params z), (z.pd, z.opd), (z.pp, instObj 153 z.ppd), (z.ppd, pipDO w.params z), (z.cd, z.ocd), (z.cu, instObj 181 z.cud), (z.cud, conDO w.params z), (z.dl, listOf dvs1.toArray ndl1)], p ∈ W) (hnv : ∀ p ∈ [(z.net, instObj 312 z.dn), (z.dn, netDO w.params z), (z.pd, z.opd), (z.pp, instObj 153 z.ppd), (z.ppd, pipDO w.params z), (z.cd, z.ocd), (z.cv, instObj 181 z.cvd), (z.cvd, conDV w.params z), (z.dv, listOf dvs2.toArray ndl2)], p ∈ W) (lpd : (z.pd == sysModules) = false) (hpd : z.opd.IsDictOf (PySem.strKind Challenge.rw_ui0509_16.row.prog w) [(Str.ofString "p", Value.ref z.pp)]) (lcd : (z.cd == sysModules) = false) (hcd : z.ocd.IsDictOf (PySem.strKind Challenge.rw_ui0509_16.row.prog w) [(Str.ofString "u", Value.ref z.cu), (Str.ofString "v", Value.ref z.cv)]) (lmd : (md == sysModules) = false) (hmd : omd.IsDictOf (PySem.strKind Challenge.rw_ui0509_16.row.prog w) [(Str.ofString "u", Value.ref x1), (Str.ofString "v", Value.ref x2)])
    (ef1 : s.heap.get? Df1 = some (RatO f1 tf1 tf1' cf1)) (ef2 : s.heap.get? Df2 = some (RatO f2 tf2 tf2' cf2)) (hdv1 : All2 (RatH s.heap) dvs1 ds) (hdv2 : All2 (RatH s.heap) dvs2 ds) (hdb : ∀ r ∈ ds, Bd 64 r) (hdl : ds.length = 24)
    (AA : ∀ p ∈ rest, p.1 ≠ d1 ∧ p.1 ≠ lu ∧ p.1 ≠ d2 ∧ p.1 ≠ lv) (nlu : lu ≠ d1) (nlv : lv ≠ d2) (n21 : d2 ≠ d1) (n2u : d2 ≠ lu) (nv1 : lv ≠ d1) (nvu : lv ≠ lu) (nx12 : x1 ≠ x2) (ff1 : FitsR f1) (hf01 : f1 ≠ 0) (hl91 : Fit9 (((tot ds).den : Int) * f1.num)) (fe1 : FitsR (tot ds / f1)) (hle1 : ¬ ((5000 - 1 : Int) : Rat) < tot ds / f1) (ff2 : FitsR f2) (hf02 : f2 ≠ 0) (hl92 : Fit9 (((tot ds).den : Int) * f2.num)) (fe2 : FitsR (tot ds / f2)) (hle2 : ¬ ((5000 - 1 : Int) : Rat) < tot ds / f2)
    (hday : 1 ≤ day) (hday2 : day ≤ 1000) (hn1 : 1 ≤ n) (hn2 : n ≤ 100) (hF1 : ∀ j : Nat, j < n → FitsR (tot ds / f1 * ((1 + (j : Int) : Int) : Rat))) (hv : (n ≤ 2 ∧ ∀ j : Nat, j < n → FitsR (tot ds / f2 * ((1 + (j : Int) : Int) : Rat))) ∨ (3 ≤ n ∧ (∀ j : Nat, j < 2 → FitsR (tot ds / f2 * ((1 + (j : Int) : Int) : Rat))) ∧ (10 : Int) ^ 2000 ≤ (Rat.divInt ((tot ds / f2).num * (((1 + ((2 : Nat) : Int) : Int) : Rat)).num) (((tot ds / f2).den : Int) * ((((1 + ((2 : Nat) : Int) : Int) : Rat)).den : Int))).num ∧ Fits ((Rat.divInt ((tot ds / f2).num * (((1 + ((2 : Nat) : Int) : Int) : Rat)).num) (((tot ds / f2).den : Int) * ((((1 + ((2 : Nat) : Int) : Int) : Rat)).den : Int))).den : Int)))
    (hd : dp + 24 < recursionLimit) (hu : un + 1000 < cLine)
    (hEx9 : ∀ (g : Heap) (e t : Addr) (u : Tok) (h' : Heap) (tk' : Nat), 3 ≤ n → Fr h₀ L g m → g.UpToSlots h' → RaisedK base (envX cn cs L a ccd cl :: outer) e (.ref 31) t [.str (Str.ofString "a fraction of too many figures") u] ((d1, meterD w.params j11 j21 j31 j41 j51 nm1 (.int 5000 j61) (.ref Df1) (.ref lu) (.ref 56)) :: (lu, listOf ([] : List Value).toArray n1) :: (d2, meterD w.params j12 j22 j32 j42 j52 nm2 (.int 5000 j62) (.ref Df2) (.ref lv) (.ref 56)) :: (lv, listOf ([] : List Value).toArray n2) :: (x1, instObj 393 d1) :: (x2, instObj 393 d2) :: (md, omd) :: W) h' → E (.ref e) { s with heap := h', toks := tk' })
    (hret : ∀ (Dr1 Dr2 : Addr) (nw1 nw2 : Nat) (ws1 ws2 : List Value) (tl : List (Addr × Obj)) (Do : Addr) (h' : Heap) (tk' : Nat), n ≤ 2 → Fr h₀ L h' m → News h₀ L h' ((d1, meterD w.params j11 j21 j31 j41 j51 nm1 (.int 5000 j61) (.ref Df1) (.ref lu) (.ref Dr1)) :: (lu, listOf ws1.toArray nw1) :: (d2, meterD w.params j12 j22 j32 j42 j52 nm2 (.int 5000 j62) (.ref Df2) (.ref lv) (.ref Dr2)) :: (lv, listOf ws2.toArray nw2) :: (rest ++ tl)) → All2 (RowN (Led tl)) ws1 ((day, 0, none) :: cRows 5000 day 0 0 (tot ds / f1) n) → All2 (RowN (Led tl)) ws2 ((day, 0, none) :: cRows 5000 day 0 0 (tot ds / f2) n) → Q (.ref Do) { s with heap := h', toks := tk' }) :
    wpAny (model Challenge.rw_ui0509_16.row.prog w) (ktrTop dp un gd cn cs L a ccd cl outer) (call (.ref 340) [.ref z.net, .ref md, .int day td, .int (n : Int) tn]) Q E s := by
  have hNM : ∀ p ∈ (d1, meterD w.params j11 j21 j31 j41 j51 nm1 (.int 5000 j61) (.ref Df1) (.ref lu) (.ref 56)) :: (lu, listOf ([] : List Value).toArray n1) :: (d2, meterD w.params j12 j22 j32 j42 j52 nm2 (.int 5000 j62) (.ref Df2) (.ref lv) (.ref 56)) :: (lv, listOf ([] : List Value).toArray n2) :: (x1, instObj 393 d1) :: (x2, instObj 393 d2) :: (md, omd) :: W, p ∈ (d1, meterD w.params j11 j21 j31 j41 j51 nm1 (.int 5000 j61) (.ref Df1) (.ref lu) (.ref 56)) :: (lu, listOf ([] : List Value).toArray n1) :: (d2, meterD w.params j12 j22 j32 j42 j52 nm2 (.int 5000 j62) (.ref Df2) (.ref lv) (.ref 56)) :: (lv, listOf ([] : List Value).toArray n2) :: rest := fcons (by k_mem) (fcons (by k_mem) (fcons (by k_mem) (fcons (by k_mem) (fcons (by k_mem) (fcons (by k_mem) (fcons (by k_mem) (fun p hp => ((by walk_at "sx") : ∀ p ∈ rest, p ∈ _) p (hWr p hp))))))))
  have hNN : ∀ p ∈ (d1, meterD w.params j11 j21 j31 j41 j51 nm1 (.int 5000 j61) (.ref Df1) (.ref lu) (.ref 56)) :: (lu, listOf ([] : List Value).toArray n1) :: (d2, meterD w.params j12 j22 j32 j42 j52 nm2 (.int 5000 j62) (.ref Df2) (.ref lv) (.ref 56)) :: (lv, listOf ([] : List Value).toArray n2) :: (x1, instObj 393 d1) :: (x2, instObj 393 d2) :: (md, omd) :: W, s.heap.get? p.1 = some p.2 := fun p hp => (N p (hNM p hp)).1
  w_top off
  revert X; k_fill; intro X
  refine wpAny_call ?_
  k_dflt (refine' code_needC ((d1, meterD w.params j11 j21 j31 j41 j51 nm1 (.int 5000 j61) (.ref Df1) (.ref lu) (.ref 56)) :: (lu, listOf ([] : List Value).toArray n1) :: (d2, meterD w.params j12 j22 j32 j42 j52 nm2 (.int 5000 j62) (.ref Df2) (.ref lv) (.ref 56)) :: (lv, listOf ([] : List Value).toArray n2) :: (x1, instObj 393 d1) :: (x2, instObj 393 d2) :: (md, omd) :: W) ?k1 ?k2 ?k3 ?k4 ?k5 ?kA ?kF ?kK ?k6 ?k7 ?k8 ?k9 ?kB ?kD ?kN ?_ ?c2 ?c3 ?c4; (case kA | kF => exact rfl); (case kK => assumption); (case k1 | k2 | k3 | k4 | k5 => k_asm); (case k6 | k7 => k_is); (case k8 => ktr_room); (case k9 => first | exact BindsTo.of_eq rfl | exact binds_K (by k_in) rfl (by k_is) rfl rfl rfl); (case kB => exact rfl); (case kD => decide +kernel); (case kN => exact hNM); (case c2 | c3 | c4 => exact rfl); k_whole; intro g' L' h' tk0 cells' FG' F' N' Y' B' X' T' l1 hG')
  obtain ⟨o1, o2, rfl, q1, q2⟩ := CellsAre.two Y'
  clear Y'
  (try dsimp only [List.cons_append, List.nil_append] at N')
  (try dsimp only); (try k_fold)
  have hcl : ∀ p ∈ (d1, meterD w.params j11 j21 j31 j41 j51 nm1 (.int 5000 j61) (.ref Df1) (.ref lu) (.ref 56)) :: (lu, listOf ([] : List Value).toArray n1) :: (d2, meterD w.params j12 j22 j32 j42 j52 nm2 (.int 5000 j62) (.ref Df2) (.ref lv) (.ref 56)) :: (lv, listOf ([] : List Value).toArray n2) :: (x1, instObj 393 d1) :: (x2, instObj 393 d2) :: (md, omd) :: W, NotTup p.2 := fcons (.inl dict_cls2) (fcons (.inl list_cls) (fcons (.inl dict_cls2) (fcons (.inl list_cls) (fcons (.inl inst_cls) (fcons (.inl inst_cls) (fcons (.inl (dict_cls hmd)) hWc))))))
  replace ef1 := hG' _ _ ef1 (not_need9 hNN hcl ef1 rfl ⟨_, _, rfl⟩)
  replace ef2 := hG' _ _ ef2 (not_need9 hNN hcl ef2 rfl ⟨_, _, rfl⟩)
  replace hdv1 : All2 (RatH g') dvs1 ds := hdv1.mono fun v r x => by
    obtain ⟨D, t, t', c, e, hx⟩ := x
    exact ⟨D, t, t', c, e, hG' _ _ hx (not_need9 hNN hcl hx rfl ⟨_, _, rfl⟩)⟩
  replace hdv2 : All2 (RatH g') dvs2 ds := hdv2.mono fun v r x => by
    obtain ⟨D, t, t', c, e, hx⟩ := x
    exact ⟨D, t, t', c, e, hG' _ _ hx (not_need9 hNN hcl hx rfl ⟨_, _, rfl⟩)⟩
  clear hNN hcl hNM
  have lK0 := allLt_of l1
  clear l1
  replace q1 : o1.data = .cell none := q1
  replace q2 : o2.data = .cell none := q2
  obtain ⟨LE, eLE⟩ : ∃ LE, LE = (d1, meterD w.params j11 j21 j31 j41 j51 nm1 (.int 5000 j61) (.ref Df1) (.ref lu) (.ref 56)) :: (lu, listOf ([] : List Value).toArray n1) :: (d2, meterD w.params j12 j22 j32 j42 j52 nm2 (.int 5000 j62) (.ref Df2) (.ref lv) (.ref 56)) :: (lv, listOf ([] : List Value).toArray n2) :: (x1, instObj 393 d1) :: (x2, instObj 393 d2) :: (md, omd) :: W := ⟨_, rfl⟩
  have emL : (md, omd) ∈ LE := by rw [eLE]; k_mem
  have ex1L : (x1, instObj 393 d1) ∈ LE := by rw [eLE]; k_mem
  have ex2L : (x2, instObj 393 d2) ∈ LE := by rw [eLE]; k_mem
  have ed1L : (d1, meterD w.params j11 j21 j31 j41 j51 nm1 (.int 5000 j61) (.ref Df1) (.ref lu) (.ref 56)) ∈ LE := by rw [eLE]; k_mem
  have ed2L : (d2, meterD w.params j12 j22 j32 j42 j52 nm2 (.int 5000 j62) (.ref Df2) (.ref lv) (.ref 56)) ∈ LE := by rw [eLE]; k_mem
  have el1L : (lu, listOf ([] : List Value).toArray n1) ∈ LE := by rw [eLE]; k_mem
  have el2L : (lv, listOf ([] : List Value).toArray n2) ∈ LE := by rw [eLE]; k_mem
  have sRL : ∀ p ∈ W, p ∈ LE := by rw [eLE]; exact (by walk_at "st")
  rw [← eLE] at lK0
  (rename News _ _ _ _ => N0)
  (try dsimp only [List.cons_append, List.nil_append] at N0)
  rw [← eLE] at N0
  (rename Fr _ _ _ _ => F0)
  obtain ⟨m0, em0, F0b⟩ := fr_name9 F0
  clear F0
  have n_net := fr_at9 em0 (Str.ofString "net") _ (by rfl)
  have n_meters := fr_at9 em0 (Str.ofString "meters") _ (by rfl)
  have n_day := fr_at9 em0 (Str.ofString "day") _ (by rfl)
  have n_days := fr_at9 em0 (Str.ofString "days") _ (by rfl)
  clear em0
  have lK1 : AllLt (L' + 1) LE := allLt_succ lK0
  have lK2 : AllLt (L' + 1 + 1) LE := allLt_succ lK1
  have lc2 : AllLt (L' + 1 + 1) [(L' + 1, o1)] := ⟨Nat.lt_succ_self _, trivial⟩
  have a1 : ∀ p ∈ LE, p.1 ≠ L' + 1 := allLt_mem lK1
  have a2 : ∀ p ∈ LE, p.1 ≠ L' + 1 + 1 := allLt_mem lK2
  have hdy : day ≤ 10000000 := by omega
  have hds : (n : Int) ≤ 10000 := by omega
  have hdn : 1 ≤ (n : Int) := by omega
  have hdd : 1 ≤ day + (n : Int) := by omega
  have hdd2 : day + (n : Int) ≤ 10000000 := by omega
  k_steps
  unfold Hold
  (rename Fr _ _ _ _ => lF1)
  (rename News _ _ _ _ => lN1)
  (with_unfolding_all refine' For_turns lF1 ?_)
  k_whole
  refine nameX_L lF1 (by exact n_meters) ?_
  refine kta_keys (knd := PySem.strKind _ _) (enc := PyData.str) (xs := [Itm.tok (fun t => Value.str (Str.ofString "u") t), Itm.tok (fun t => Value.str (Str.ofString "v") t)]) (by rfl) lF1 lN1 (by k_mem) hmd lmd (fun _ _ h => Value.isStrOf_shape h) (by rfl) ?_
  clear lF1 lN1
  intro I1 l1
  k_lt l1
  have mkS : MarkW9 := .mk
  k_steps
  change wpAny _ _ _ _ _ _
  (rename MarkW9 => mkS)
  clear mkS
  rename_i lr hA llr hB t1 hC tkC FA oI1 cI1 NA hD FB NB
  clear FA NA
  obtain ⟨RX, eRX⟩ : ∃ RX, RX = (I1, oI1) :: LE := ⟨_, rfl⟩
  obtain ⟨_, e9, NX⟩ := news_as NB (l := (lr, _) :: (L' + 1 + 1, o1) :: (L' + 1, o2) :: RX) (fcons (by k_mem) (fcons (by k_mem) (fcons (by k_mem) (by rw [eRX]; exact fcons (by k_mem) (by walk_at "sx")))))
  subst e9
  clear NB
  have sLX : ∀ p ∈ LE, p ∈ RX := by rw [eRX]; exact fun p hp => cC9 hp
  have aX : ∀ p ∈ RX, p.1 ≠ lr := by rw [eRX]; exact fcons ((apLt l1 (by k_mem)).symm) (fun p hp => allLt_mem llr p (((by walk_at "sx") : ∀ p ∈ LE, p ∈ _) p hp))
  have a1X : ∀ p ∈ RX, p.1 ≠ L' + 1 := by rw [eRX]; exact fcons ((apLt l1 (by k_mem)).symm) a1
  have a2X : ∀ p ∈ RX, p.1 ≠ L' + 1 + 1 := by rw [eRX]; exact fcons ((apLt l1 (by k_mem)).symm) a2
  refine' turnA_u ?b1 ?b2 ?b3 ?b4 ?b5 FB NX ?q1 ?q2 ?ex ?ed ?el ?em ?hn ?lpd ?hpd ?lcd ?hcd ?lmd ?hmd ?ef ?hdv ?hdb ?hdl ?ff ?hf ?h9 ?fe ?hle aX a1X a2X ?lt1 ?lt2 ?n1 ?n2 ?n3 ?n4 ?_
  case b1 | b2 | b3 => k_asm
  case b4 => ktr_room
  case b5 => ktr_units
  case q1 => exact q2
  case q2 => exact q1
  case ex => exact sLX _ ex1L
  case ed => exact sLX _ ed1L
  case el => exact sLX _ el1L
  case em => exact sLX _ emL
  case hn => exact fun p hp => sLX p (sRL p (hnu p hp))
  case lpd => exact lpd
  case hpd => exact hpd
  case lcd => exact lcd
  case hcd => exact hcd
  case lmd => exact lmd
  case hmd => exact hmd
  case ef => exact ef1
  case hdv => exact hdv1
  case hdb => exact hdb
  case hdl => exact hdl
  case ff => exact ff1
  case hf => exact hf01
  case h9 => exact hl91
  case fe => exact fe1
  case hle => exact hle1
  case lt1 => exact ⟨ltK llr (by k_mem), ltK llr (by k_mem), trivial⟩
  case lt2 => exact lc2
  case n1 => exact n_net
  case n2 => exact n_meters
  case n3 | n4 => rfl
  intro Du D6u tsu t6u u6u c6u oM1 oE1 h2 tk2 m2 F2 J2 N2 qM1 qE1 rDu rD6u lDu l6u
  k_steps
  have mI : (I1, oI1) ∈ RX := by rw [eRX]; exact cS9
  refine unr_end ((Du, _) :: (D6u, _) :: (lr, _) :: (L' + 1 + 1, oE1) :: (L' + 1, oM1) :: LE) F2 N2 (((by walk_at "sx") : ∀ p ∈ RX, p ∈ _) _ mI) (fcons (by k_mem) (fcons (by k_mem) (fcons (by k_mem) (fcons (by k_mem) (fcons (by k_mem) (fun p hp => ((by walk_at "sx") : ∀ p ∈ RX, p ∈ _) p (sLX p hp))))))) (fcons ((rDu _ mI).symm) (fcons ((rD6u _ mI).symm) (fcons (apLt l1 (by k_mem)) (fcons (apLt l1 (by k_mem)) (fcons (apLt l1 (by k_mem)) (fun p hp => allLt_mem l1 p (((by walk_at "sx") : ∀ p ∈ LE, p ∈ _) p hp))))))) ⟨⟨by k_mem, trivial⟩, ?_⟩
  have n_net2 : m2 (Str.ofString "net") = some (.ref z.net) := J2.1.trans n_net
  have n_meters2 : m2 (Str.ofString "meters") = some (.ref md) := J2.2.1.trans n_meters
  have n_day2 : m2 (Str.ofString "day") = some (.int day td) := J2.2.2.1.trans n_day
  have n_days2 : m2 (Str.ofString "days") = some (.int (n : Int) tn) := J2.2.2.2.1.trans n_days
  have n_rows2 : m2 (Str.ofString "rows") = some (.ref lr) := J2.2.2.2.2.1
  clear J2 FB NX N2 F2 n_net n_meters n_day n_days
  have rLDu : ∀ p ∈ LE, p.1 ≠ Du := fun p hp => rDu p (sLX p hp)
  have rLD6 : ∀ p ∈ LE, p.1 ≠ D6u := fun p hp => rD6u p (sLX p hp)
  have i1Du := rDu _ mI
  have i1D6 := rD6u _ mI
  dsimp only at i1Du i1D6
  clear rDu rD6u aX a1X a2X sLX mI eRX
  have mkS : MarkW9 := .mk
  k_steps
  change wpAny _ _ _ _ _ _
  (rename MarkW9 => mkS)
  clear mkS
  rename_i t2 hE tkE FA oI2 cI2 NA hF FB2 NB2
  clear FA NA
  obtain ⟨RY, eRY⟩ : ∃ RY, RY = (I1, oI2) :: (Du, { cls := .type "tuple", data := .seq #[.str (Str.ofString "u") t1, .ref x1, .int 0 tsu, .ref D6u] }) :: (D6u, RatO (tot ds / f1) t6u u6u c6u) :: LE := ⟨_, rfl⟩
  obtain ⟨_, e9, NY⟩ := news_as NB2 (l := (lr, _) :: (L' + 1 + 1, oE1) :: (L' + 1, oM1) :: RY) (fcons (by k_mem) (fcons (by k_mem) (fcons (by k_mem) (by rw [eRY]; exact fcons (by k_mem) (fcons (by k_mem) (fcons (by k_mem) (by walk_at "sx")))))))
  subst e9
  clear NB2
  have sLY : ∀ p ∈ LE, p ∈ RY := by rw [eRY]; exact fun p hp => cC9 (cC9 (cC9 hp))
  have mDu : (Du, { cls := .type "tuple", data := .seq #[.str (Str.ofString "u") t1, .ref x1, .int 0 tsu, .ref D6u] }) ∈ RY := by rw [eRY]; exact cC9 cS9
  have aY : ∀ p ∈ RY, p.1 ≠ lr := by rw [eRY]; exact fcons ((apLt l1 (by k_mem)).symm) (fcons ((apLt lDu (by k_mem)).symm) (fcons ((apL l6u (by k_mem)).symm) (fun p hp => allLt_mem llr p (((by walk_at "sx") : ∀ p ∈ LE, p ∈ _) p hp))))
  have a1Y : ∀ p ∈ RY, p.1 ≠ L' + 1 := by rw [eRY]; exact fcons ((apLt l1 (by k_mem)).symm) (fcons ((apLt lDu (by k_mem)).symm) (fcons ((apL l6u (by k_mem)).symm) a1))
  have a2Y : ∀ p ∈ RY, p.1 ≠ L' + 1 + 1 := by rw [eRY]; exact fcons ((apLt l1 (by k_mem)).symm) (fcons ((apLt lDu (by k_mem)).symm) (fcons ((apL l6u (by k_mem)).symm) a2))
  refine' turnA_v ?b1 ?b2 ?b3 ?b4 ?b5 FB2 NY ?q1 ?q2 ?ex ?ed ?el ?em ?hn ?lpd ?hpd ?lcd ?hcd ?lmd ?hmd ?ex1 ?eDu ?nx ?ef ?hdv ?hdb ?hdl ?ff ?hf ?h9 ?fe ?hle aY a1Y a2Y ?lt1 ?lt2 ?n1 ?n2 ?n3 ?n4 ?_
  case b1 | b2 | b3 => k_asm
  case b4 => ktr_room
  case b5 => ktr_units
  case q1 => exact qM1
  case q2 => exact qE1
  case ex => exact sLY _ ex2L
  case ed => exact sLY _ ed2L
  case el => exact sLY _ el2L
  case em => exact sLY _ emL
  case hn => exact fun p hp => sLY p (sRL p (hnv p hp))
  case lpd => exact lpd
  case hpd => exact hpd
  case lcd => exact lcd
  case hcd => exact hcd
  case lmd => exact lmd
  case hmd => exact hmd
  case ef => exact ef2
  case hdv => exact hdv2
  case hdb => exact hdb
  case hdl => exact hdl
  case ff => exact ff2
  case hf => exact hf02
  case h9 => exact hl92
  case fe => exact fe2
  case hle => exact hle2
  case lt1 => exact ⟨ltK llr (by k_mem), ltK llr (by k_mem), trivial⟩
  case lt2 => exact ⟨Nat.lt_succ_self _, trivial⟩
  case n1 => exact n_net2
  case n2 => exact n_meters2
  case n3 => exact n_rows2
  case n4 => rfl
  case ex1 => exact sLY _ ex1L
  case eDu => exact mDu
  case nx => exact nx12
  intro Dv D6v tsv t6v u6v c6v oM2 oE2 h3 tk3 m3 F3 J3 N3 qM2 qE2 rDv rD6v lDv l6v
  k_steps
  have mI : (I1, oI2) ∈ RY := by rw [eRY]; exact cS9
  have mD6 : (D6u, RatO (tot ds / f1) t6u u6u c6u) ∈ RY := by rw [eRY]; exact cC9 m1K
  refine unr_end ((Dv, _) :: (D6v, _) :: (lr, _) :: (L' + 1 + 1, oE2) :: (L' + 1, oM2) :: (Du, { cls := .type "tuple", data := .seq #[.str (Str.ofString "u") t1, .ref x1, .int 0 tsu, .ref D6u] }) :: (D6u, RatO (tot ds / f1) t6u u6u c6u) :: LE) F3 N3 (((by walk_at "sx") : ∀ p ∈ RY, p ∈ _) _ mI) (fcons (by k_mem) (fcons (by k_mem) (fcons (by k_mem) (fcons (by k_mem) (fcons (by k_mem) (fcons (((by walk_at "sx") : ∀ p ∈ RY, p ∈ _) _ mDu) (fcons (((by walk_at "sx") : ∀ p ∈ RY, p ∈ _) _ mD6) (fun p hp => ((by walk_at "sx") : ∀ p ∈ RY, p ∈ _) p (sLY p hp))))))))) (fcons ((rDv _ mI).symm) (fcons ((rD6v _ mI).symm) (fcons (apLt l1 (by k_mem)) (fcons (apLt l1 (by k_mem)) (fcons (apLt l1 (by k_mem)) (fcons i1Du.symm (fcons i1D6.symm (fun p hp => allLt_mem l1 p (((by walk_at "sx") : ∀ p ∈ LE, p ∈ _) p hp))))))))) ⟨⟨by k_mem, trivial⟩, ?_⟩
  have n_day3 : m3 (Str.ofString "day") = some (.int day td) := J3.2.2.1.trans n_day2
  have n_days3 : m3 (Str.ofString "days") = some (.int (n : Int) tn) := J3.2.2.2.1.trans n_days2
  have n_rows3 : m3 (Str.ofString "rows") = some (.ref lr) := J3.2.2.2.2.1.trans n_rows2
  have rLDv : ∀ p ∈ LE, p.1 ≠ Dv := fun p hp => rDv p (sLY p hp)
  have rLD6v : ∀ p ∈ LE, p.1 ≠ D6v := fun p hp => rD6v p (sLY p hp)
  have uvD := rDv _ mDu
  have uvD6 := rD6v _ mDu
  have u6vD := rDv _ mD6
  have u6vD6 := rD6v _ mD6
  dsimp only at uvD uvD6 u6vD u6vD6
  clear J3 N3 F3 FB2 NY n_net2 n_meters2 n_day2 n_days2 n_rows2 rDv rD6v mI mDu mD6 sLY aY a1Y a2Y eRY l1 i1Du i1D6
  k_steps
  (rename Fr _ _ _ _ => lF2)
  (with_unfolding_all refine' For_turns lF2 ?_)
  k_whole
  k_steps
  unfold Hold
  (rename Fr _ _ _ _ => lF2)
  (rename News _ _ _ _ => N9)
  (rename AllLt _ _ => llc)
  obtain ⟨lc, rfl, llc⟩ : ∃ lc, lc = _ ∧ AllLt lc _ := ⟨_, rfl, llc⟩
  rw [show (#[Value.ref Du] : Array Value).push (Value.ref Dv) = [Value.ref Du, Value.ref Dv].toArray from rfl] at N9
  obtain ⟨LE2, eL2⟩ : ∃ LE2, LE2 = (lr, listOf [Value.ref Du, Value.ref Dv].toArray (0 + 1 + 1)) :: (Dv, { cls := .type "tuple", data := .seq #[.str (Str.ofString "v") t2, .ref x2, .int 0 tsv, .ref D6v] }) :: (D6v, RatO (tot ds / f2) t6v u6v c6v) :: (Du, { cls := .type "tuple", data := .seq #[.str (Str.ofString "u") t1, .ref x1, .int 0 tsu, .ref D6u] }) :: (D6u, RatO (tot ds / f1) t6u u6u c6u) :: LE := ⟨_, rfl⟩
  obtain ⟨_, e9, N9b⟩ := news_as N9 (l := (lc, _) :: (L' + 1 + 1, oE2) :: (L' + 1, oM2) :: LE2) (fcons (by k_mem) (fcons (by k_mem) (fcons (by k_mem) (by rw [eL2]; exact fcons (by k_mem) (fcons (by k_mem) (fcons (by k_mem) (fcons (by k_mem) (fcons (by k_mem) (by walk_at "sx")))))))))
  subst e9
  clear N9
  have mlr : (lr, listOf [Value.ref Du, Value.ref Dv].toArray (0 + 1 + 1)) ∈ LE2 := by rw [eL2]; k_mem
  have mDu : (Du, { cls := .type "tuple", data := .seq #[.str (Str.ofString "u") t1, .ref x1, .int 0 tsu, .ref D6u] }) ∈ LE2 := by rw [eL2]; k_mem
  have mDv : (Dv, { cls := .type "tuple", data := .seq #[.str (Str.ofString "v") t2, .ref x2, .int 0 tsv, .ref D6v] }) ∈ LE2 := by rw [eL2]; k_mem
  have m6u : (D6u, RatO (tot ds / f1) t6u u6u c6u) ∈ LE2 := by rw [eL2]; k_mem
  have m6v : (D6v, RatO (tot ds / f2) t6v u6v c6v) ∈ LE2 := by rw [eL2]; k_mem
  have sL2 : ∀ p ∈ LE, p ∈ LE2 := by rw [eL2]; exact (by walk_at "st")
  have b1 : ∀ p ∈ LE2, p.1 ≠ L' + 1 := by rw [eL2]; exact fcons (apNe (ltK llr (by k_mem))) (fcons ((apLt lDv (by k_mem)).symm) (fcons ((apL l6v (by k_mem)).symm) (fcons ((apLt lDu (by k_mem)).symm) (fcons ((apL l6u (by k_mem)).symm) a1))))
  have b2 : ∀ p ∈ LE2, p.1 ≠ L' + 1 + 1 := by rw [eL2]; exact fcons (apNe (ltK llr (by k_mem))) (fcons ((apLt lDv (by k_mem)).symm) (fcons ((apL l6v (by k_mem)).symm) (fcons ((apLt lDu (by k_mem)).symm) (fcons ((apL l6u (by k_mem)).symm) a2))))
  have b3 : ∀ p ∈ LE2, p.1 ≠ lc := by rw [eL2]; exact fcons (apLt llc (by k_mem)) (fcons (apLt llc (by k_mem)) (fcons (apLt llc (by k_mem)) (fcons (apLt llc (by k_mem)) (fcons (apLt llc (by k_mem)) (fun p hp => allLt_mem llc p (((by walk_at "sx") : ∀ p ∈ LE, p ∈ _) p hp))))))
  have lc12 : AllLt lc [(L' + 1 + 1, oE2), (L' + 1, oM2)] := ⟨ltK llc (by k_mem), ltK llc (by k_mem), trivial⟩
  have rLlr : ∀ p ∈ LE, p.1 ≠ lr := fun p hp => allLt_mem llr p (((by walk_at "sx") : ∀ p ∈ LE, p ∈ _) p hp)
  clear llc lDv lDu l6v l6u uvD uvD6 u6vD u6vD6
  refine iter_listTurns (vs := [Value.ref Du, Value.ref Dv]) rfl lF2 N9b (by k_mem) rfl rfl (fun I2 lI2 => ?_)
  with_unfolding_all refine ItemsRest.val (fun h' tk' F' => ?_)
  refine AllObj.cons fun oJ hJ => AllObj.nil fun N' => ?_
  (try dsimp only [List.cons_append, List.nil_append] at N')
  k_lt lI2
  clear N9b lF2
  have mkS : MarkW9 := .mk
  k_steps
  change wpAny _ _ _ _ _ _
  (rename MarkW9 => mkS)
  clear mkS
  rename_i hG FA NA hH hI oM3 qM3 hJ2 hK oE3 FB3 NB3 qE3
  clear FA NA
  obtain ⟨RB, eRB⟩ : ∃ RB, RB = (I2, oJ) :: LE2 := ⟨_, rfl⟩
  obtain ⟨_, e9, NB⟩ := news_as NB3 (l := (lc, _) :: (L' + 1 + 1, oE3) :: (L' + 1, oM3) :: RB) (fcons (by k_mem) (fcons (by k_mem) (fcons (by k_mem) (by rw [eRB]; exact fcons (by k_mem) (by walk_at "sx")))))
  subst e9
  clear NB3
  have sB : ∀ p ∈ LE2, p ∈ RB := by rw [eRB]; exact fun p hp => cC9 hp
  have c3 : ∀ p ∈ RB, p.1 ≠ lc := by rw [eRB]; exact fcons ((apLt lI2 (by k_mem)).symm) b3
  have c1 : ∀ p ∈ RB, p.1 ≠ L' + 1 := by rw [eRB]; exact fcons ((apLt lI2 (by k_mem)).symm) b1
  have c2 : ∀ p ∈ RB, p.1 ≠ L' + 1 + 1 := by rw [eRB]; exact fcons ((apLt lI2 (by k_mem)).symm) b2
  refine' turnB (n := n) ?b1 ?b2 ?b3 ?b4 ?b5 FB3 NB ?q1 ?q2 ?ex ?ed ?e6 ?fe ?hF ?k1 ?k2 c3 c1 c2 ?lt1 ?lt2 ?hca ?n1 ?n2 ?_
  case b1 | b2 | b3 => k_asm
  case b4 => ktr_room
  case b5 => ktr_units
  case q1 => exact qM3
  case q2 => exact qE3
  case ex => exact (fun p hp => sB p (sL2 p hp)) _ ex1L
  case ed => exact (fun p hp => sB p (sL2 p hp)) _ ed1L
  case e6 => exact sB _ m6u
  case fe => exact fe1
  case hF => exact hF1
  case k1 => exact hn1
  case k2 => exact hn2
  case lt1 => exact ⟨lc12.1, lc12.2.1, trivial⟩
  case lt2 => exact ⟨Nat.lt_succ_self _, trivial⟩
  case hca => first | decide | exact Nat.le_of_ble_eq_true rfl | simp
  case n1 => rfl
  case n2 => exact n_days3
  intro TLu ysu tlu h4 tk4 F4 N4 hysu htc ht1 ht2 htR lTL aTL
  k_steps
  have mI : (I2, oJ) ∈ RB := by rw [eRB]; exact cS9
  refine unr_end ((TLu, _) :: (lc, _) :: (L' + 1 + 1, oE3) :: (L' + 1, oM3) :: (LE2 ++ tlu)) F4 N4 (((by walk_at "sx") : ∀ p ∈ RB, p ∈ _) _ mI) (fcons (by k_mem) (fcons (by k_mem) (fcons (by k_mem) (fcons (by k_mem) (sub_two (fun p hp => ((by walk_at "sx") : ∀ p ∈ RB, p ∈ _) p (sB p hp)) ((by walk_at "sx"))))))) (fcons ((aTL _ (aL0 mI)).symm) (fcons (apLt lI2 (by k_mem)) (fcons (apLt lI2 (by k_mem)) (fcons (apLt lI2 (by k_mem)) (List.forall_mem_append.mpr ⟨fun p hp => allLt_mem lI2 p (((by walk_at "sx") : ∀ p ∈ LE2, p ∈ _) p hp), fun q hq => htR q hq _ mI⟩))))) ⟨⟨by k_mem, trivial⟩, ?_⟩
  have iTL := aTL _ (aL0 mI)
  dsimp only at iTL
  have aTL2 : ∀ p ∈ LE2 ++ tlu, p.1 ≠ TLu := fun p hp => aTL p ((List.mem_append.mp hp).elim (fun h => aL0 (sB p h)) (List.mem_append_right _))
  have iTl : ∀ q ∈ tlu, q.1 ≠ I2 := fun q hq => htR q hq _ mI
  have htR2 : ∀ q ∈ tlu, ∀ p ∈ LE2, q.1 ≠ p.1 := fun q hq p hp => htR q hq p (sB p hp)
  clear aTL htR mI sB c1 c2 c3 eRB N4 F4 FB3 NB
  have mkS : MarkW9 := .mk
  k_steps
  change wpAny _ _ _ _ _ _
  (rename MarkW9 => mkS)
  clear mkS
  rename_i hL tkL oK hK9 hL2 FA NA hM hN oM4 qM4 hO hP oE4 FB4 NB4 qE4
  clear FA NA
  obtain ⟨RC, eRC⟩ : ∃ RC, RC = (I2, oK) :: (TLu, LCg.lst ysu) :: (LE2 ++ tlu) := ⟨_, rfl⟩
  obtain ⟨_, e9, NC⟩ := news_as NB4 (l := (lc, _) :: (L' + 1 + 1, oE4) :: (L' + 1, oM4) :: RC) (fcons (by k_mem) (fcons (by k_mem) (fcons (by k_mem) (by rw [eRC]; exact fcons (by k_mem) (fcons (by k_mem) (by walk_at "sx"))))))
  subst e9
  clear NB4
  have sC : ∀ p ∈ LE2 ++ tlu, p ∈ RC := by rw [eRC]; exact fun p hp => cC9 (cC9 hp)
  have mI : (I2, oK) ∈ RC := by rw [eRC]; exact cS9
  have mT : (TLu, LCg.lst ysu) ∈ RC := by rw [eRC]; exact cC9 cS9
  have c3 : ∀ p ∈ RC, p.1 ≠ lc := by rw [eRC]; exact fcons ((apLt lI2 (by k_mem)).symm) (fcons ((apL lTL (by k_mem)).symm) (List.forall_mem_append.mpr ⟨b3, htc⟩))
  have c1 : ∀ p ∈ RC, p.1 ≠ L' + 1 := by rw [eRC]; exact fcons ((apLt lI2 (by k_mem)).symm) (fcons ((apL lTL (by k_mem)).symm) (List.forall_mem_append.mpr ⟨b1, ht1⟩))
  have c2 : ∀ p ∈ RC, p.1 ≠ L' + 1 + 1 := by rw [eRC]; exact fcons ((apLt lI2 (by k_mem)).symm) (fcons ((apL lTL (by k_mem)).symm) (List.forall_mem_append.mpr ⟨b2, ht2⟩))
  refine hv.elim (fun hv8 => ?okv) (fun hv9 => ?xv9)
  case xv9 =>
    obtain ⟨hv1, hv2, hv3, hv4⟩ := hv9
    refine' turnB_x (n := n) ?b1x ?b2x ?b3x ?b4x ?b5x FB4 NC ?q1x ?q2x ?exx ?edx ?e6x ?fex ?hFx ?k1x ?k2x ?hb9x ?hd9x ?n1x ?n2x ?_
    case b1x | b2x | b3x => k_asm
    case b4x => ktr_room
    case b5x => ktr_units
    case q1x => exact qM4
    case q2x => exact qE4
    case exx => exact (fun p hp => sC p (aL0 (sL2 p hp))) _ ex2L
    case edx => exact (fun p hp => sC p (aL0 (sL2 p hp))) _ ed2L
    case e6x => exact sC _ (aL0 m6v)
    case fex => exact fe2
    case hFx => exact hv2
    case k1x => exact hv1
    case hb9x => exact hv3
    case hd9x => exact hv4
    case k2x => exact hn2
    case n1x => rfl
    case n2x => exact n_days3
    intro e9 t9 u9 hq9 tkq9 hQ9 hu9
    
    refine leave_Q (g := g') rfl rfl hQ9 hu9 fun hw9 hK9 hu8 => ?_
    exact hEx9 _ _ _ _ _ _ hv1 FG' hu8 (raisedK_mono (by rw [← eLE]; exact fun p hp => cC9 (cC9 (cC9 (sC p (aL0 (sL2 p hp)))))) hK9)
  have hF2 := hv8.2
  refine' turnB (n := n) ?b1 ?b2 ?b3 ?b4 ?b5 FB4 NC ?q1 ?q2 ?ex ?ed ?e6 ?fe ?hF ?k1 ?k2 c3 c1 c2 ?lt1 ?lt2 ?hca ?n1 ?n2 ?_
  case b1 | b2 | b3 => k_asm
  case b4 => ktr_room
  case b5 => ktr_units
  case q1 => exact qM4
  case q2 => exact qE4
  case ex => exact (fun p hp => sC p (aL0 (sL2 p hp))) _ ex2L
  case ed => exact (fun p hp => sC p (aL0 (sL2 p hp))) _ ed2L
  case e6 => exact sC _ (aL0 m6v)
  case fe => exact fe2
  case hF => exact hF2
  case k1 => exact hn1
  case k2 => exact hn2
  case lt1 => exact ⟨lc12.1, lc12.2.1, trivial⟩
  case lt2 => exact ⟨Nat.lt_succ_self _, trivial⟩
  case hca => first | decide | exact Nat.le_of_ble_eq_true rfl | simp
  case n1 => rfl
  case n2 => exact n_days3
  intro TLv ysv tlv h5 tk5 F5 N5 hysv htcv ht1v ht2v htRv lTLv aTLv
  k_steps
  refine unr_end ((TLv, _) :: (lc, _) :: (L' + 1 + 1, oE4) :: (L' + 1, oM4) :: (TLu, LCg.lst ysu) :: ((LE2 ++ tlu) ++ tlv)) F5 N5 (((by walk_at "sx") : ∀ p ∈ RC, p ∈ _) _ mI) (fcons (by k_mem) (fcons (by k_mem) (fcons (by k_mem) (fcons (by k_mem) (fcons (((by walk_at "sx") : ∀ p ∈ RC, p ∈ _) _ mT) (sub_two (fun p hp => ((by walk_at "sx") : ∀ p ∈ RC, p ∈ _) p (sC p hp)) ((by walk_at "sx")))))))) (fcons ((aTLv _ (aL0 mI)).symm) (fcons (apLt lI2 (by k_mem)) (fcons (apLt lI2 (by k_mem)) (fcons (apLt lI2 (by k_mem)) (fcons iTL.symm (List.forall_mem_append.mpr ⟨List.forall_mem_append.mpr ⟨fun p hp => allLt_mem lI2 p (((by walk_at "sx") : ∀ p ∈ LE2, p ∈ _) p hp), iTl⟩, fun q hq => htRv q hq _ mI⟩)))))) ⟨⟨by k_mem, trivial⟩, ?_⟩
  have aTLv2 : ∀ p ∈ (LE2 ++ tlu) ++ tlv, p.1 ≠ TLv := fun p hp => aTLv p ((List.mem_append.mp hp).elim (fun h => aL0 (sC p h)) (List.mem_append_right _))
  have uvT := aTLv _ (aL0 mT)
  dsimp only at uvT
  have htRv2 : ∀ q ∈ tlv, ∀ p ∈ LE2 ++ tlu, q.1 ≠ p.1 := fun q hq p hp => htRv q hq p (sC p hp)
  have htTv : ∀ q ∈ tlv, q.1 ≠ TLu := fun q hq => htRv q hq _ mT
  clear aTLv htRv mI mT sC c1 c2 c3 eRC N5 F5 FB4 NC
  have mkS : MarkW9 := .mk
  k_steps
  change wpAny _ _ _ _ _ _
  (rename MarkW9 => mkS)
  clear mkS
  iterate 4 walk1
  (rename Fr _ _ _ _ => F9)
  (rename News _ _ _ _ => N9)
  rename_i hQ tkQ Do hR oDo FA NA lDo sDo fDo iDo giDo lDn hS
  clear FA NA fDo iDo giDo
  rw [show ((#[] : Array Value).push (Value.ref TLu)).push (Value.ref TLv) = [Value.ref TLu, Value.ref TLv].toArray from rfl] at N9 lDn
  have s9 : ∀ p ∈ LE2, p ∈ (TLv, LCg.lst ysv) :: (lc, listOf [Value.ref TLu, Value.ref TLv].toArray (0 + 1 + 1)) :: (L' + 1 + 1, oE4) :: (L' + 1, oM4) :: (TLu, LCg.lst ysu) :: (LE2 ++ tlu ++ tlv) := (by walk_at "sx")
  have s8 : ∀ p ∈ LE, p ∈ (TLv, LCg.lst ysv) :: (lc, listOf [Value.ref TLu, Value.ref TLv].toArray (0 + 1 + 1)) :: (L' + 1 + 1, oE4) :: (L' + 1, oM4) :: (TLu, LCg.lst ysu) :: (LE2 ++ tlu ++ tlv) := fun p hp => s9 p (sL2 p hp)
  obtain ⟨R3, eR3⟩ : ∃ R3, R3 = (lr, listOf [Value.ref Du, Value.ref Dv].toArray (0 + 1 + 1)) :: (lc, listOf [Value.ref TLu, Value.ref TLv].toArray (0 + 1 + 1)) :: (Du, { cls := .type "tuple", data := .seq #[.str (Str.ofString "u") t1, .ref x1, .int 0 tsu, .ref D6u] }) :: (Dv, { cls := .type "tuple", data := .seq #[.str (Str.ofString "v") t2, .ref x2, .int 0 tsv, .ref D6v] }) :: (D6u, RatO (tot ds / f1) t6u u6u c6u) :: (D6v, RatO (tot ds / f2) t6v u6v c6v) :: (TLu, LCg.lst ysu) :: (TLv, LCg.lst ysv) :: (x1, instObj 393 d1) :: (x2, instObj 393 d2) :: (md, omd) :: (W ++ (tlu ++ tlv)) := ⟨_, rfl⟩
  have subR3 : ∀ p ∈ R3, p ∈ (TLv, LCg.lst ysv) :: (lc, listOf [Value.ref TLu, Value.ref TLv].toArray (0 + 1 + 1)) :: (L' + 1 + 1, oE4) :: (L' + 1, oM4) :: (TLu, LCg.lst ysu) :: (LE2 ++ tlu ++ tlv) := by
    rw [eR3]
    exact fcons (s9 _ mlr) (fcons (by k_mem) (fcons (s9 _ mDu) (fcons (s9 _ mDv) (fcons (s9 _ m6u) (fcons (s9 _ m6v) (fcons (by k_mem) (fcons (by k_mem) (fcons (s8 _ ex1L) (fcons (s8 _ ex2L) (fcons (s8 _ emL) (sub_two (fun p hp => s8 p (sRL p hp)) (sub_two ((by walk_at "sx")) ((by walk_at "sx"))))))))))))))
  have eDo : ∀ p ∈ R3, p.1 ≠ Do := fun p hp => allLt_mem lDn p (subR3 p hp)
  have e1 : ∀ p ∈ R3, p.1 ≠ L' + 1 := by
    rw [eR3]
    exact fcons (b1 _ mlr) (fcons (apNe lc12.2.1) (fcons (b1 _ mDu) (fcons (b1 _ mDv) (fcons (b1 _ m6u) (fcons (b1 _ m6v) (fcons ((apL lTL (by k_mem)).symm) (fcons ((apL lTLv (by k_mem)).symm) (fcons (a1 _ ex1L) (fcons (a1 _ ex2L) (fcons (a1 _ emL) (List.forall_mem_append.mpr ⟨fun p hp => a1 p (sRL p hp), List.forall_mem_append.mpr ⟨ht1, ht1v⟩⟩)))))))))))
  have e2 : ∀ p ∈ R3, p.1 ≠ L' + 1 + 1 := by
    rw [eR3]
    exact fcons (b2 _ mlr) (fcons (apNe lc12.1) (fcons (b2 _ mDu) (fcons (b2 _ mDv) (fcons (b2 _ m6u) (fcons (b2 _ m6v) (fcons ((apL lTL (by k_mem)).symm) (fcons ((apL lTLv (by k_mem)).symm) (fcons (a2 _ ex1L) (fcons (a2 _ ex2L) (fcons (a2 _ emL) (List.forall_mem_append.mpr ⟨fun p hp => a2 p (sRL p hp), List.forall_mem_append.mpr ⟨ht2, ht2v⟩⟩)))))))))))
  have ed1 : ∀ p ∈ R3, p.1 ≠ d1 := by
    rw [eR3]
    exact fcons ((rLlr _ ed1L).symm) (fcons ((b3 _ (sL2 _ ed1L)).symm) (fcons ((rLDu _ ed1L).symm) (fcons ((rLDv _ ed1L).symm) (fcons ((rLD6 _ ed1L).symm) (fcons ((rLD6v _ ed1L).symm) (fcons ((aTL2 _ (aL0 (sL2 _ ed1L))).symm) (fcons ((aTLv2 _ (aL0 (aL0 (sL2 _ ed1L)))).symm) (fcons ((AA _ ex1).1) (fcons ((AA _ ex2).1) (fcons ((AA _ em).1) (List.forall_mem_append.mpr ⟨fun p hp => (AA p (hWr p hp)).1, List.forall_mem_append.mpr ⟨fun q hq => htR2 q hq _ (sL2 _ ed1L), fun q hq => htRv2 q hq _ (aL0 (sL2 _ ed1L))⟩⟩)))))))))))
  have eu1 : ∀ p ∈ R3, p.1 ≠ lu := by
    rw [eR3]
    exact fcons ((rLlr _ el1L).symm) (fcons ((b3 _ (sL2 _ el1L)).symm) (fcons ((rLDu _ el1L).symm) (fcons ((rLDv _ el1L).symm) (fcons ((rLD6 _ el1L).symm) (fcons ((rLD6v _ el1L).symm) (fcons ((aTL2 _ (aL0 (sL2 _ el1L))).symm) (fcons ((aTLv2 _ (aL0 (aL0 (sL2 _ el1L)))).symm) (fcons ((AA _ ex1).2.1) (fcons ((AA _ ex2).2.1) (fcons ((AA _ em).2.1) (List.forall_mem_append.mpr ⟨fun p hp => (AA p (hWr p hp)).2.1, List.forall_mem_append.mpr ⟨fun q hq => htR2 q hq _ (sL2 _ el1L), fun q hq => htRv2 q hq _ (aL0 (sL2 _ el1L))⟩⟩)))))))))))
  have ed2 : ∀ p ∈ R3, p.1 ≠ d2 := by
    rw [eR3]
    exact fcons ((rLlr _ ed2L).symm) (fcons ((b3 _ (sL2 _ ed2L)).symm) (fcons ((rLDu _ ed2L).symm) (fcons ((rLDv _ ed2L).symm) (fcons ((rLD6 _ ed2L).symm) (fcons ((rLD6v _ ed2L).symm) (fcons ((aTL2 _ (aL0 (sL2 _ ed2L))).symm) (fcons ((aTLv2 _ (aL0 (aL0 (sL2 _ ed2L)))).symm) (fcons ((AA _ ex1).2.2.1) (fcons ((AA _ ex2).2.2.1) (fcons ((AA _ em).2.2.1) (List.forall_mem_append.mpr ⟨fun p hp => (AA p (hWr p hp)).2.2.1, List.forall_mem_append.mpr ⟨fun q hq => htR2 q hq _ (sL2 _ ed2L), fun q hq => htRv2 q hq _ (aL0 (sL2 _ ed2L))⟩⟩)))))))))))
  have eu2 : ∀ p ∈ R3, p.1 ≠ lv := by
    rw [eR3]
    exact fcons ((rLlr _ el2L).symm) (fcons ((b3 _ (sL2 _ el2L)).symm) (fcons ((rLDu _ el2L).symm) (fcons ((rLDv _ el2L).symm) (fcons ((rLD6 _ el2L).symm) (fcons ((rLD6v _ el2L).symm) (fcons ((aTL2 _ (aL0 (sL2 _ el2L))).symm) (fcons ((aTLv2 _ (aL0 (aL0 (sL2 _ el2L)))).symm) (fcons ((AA _ ex1).2.2.2) (fcons ((AA _ ex2).2.2.2) (fcons ((AA _ em).2.2.2) (List.forall_mem_append.mpr ⟨fun p hp => (AA p (hWr p hp)).2.2.2, List.forall_mem_append.mpr ⟨fun q hq => htR2 q hq _ (sL2 _ el2L), fun q hq => htRv2 q hq _ (aL0 (sL2 _ el2L))⟩⟩)))))))))))
  obtain ⟨_, e9, NR⟩ := news_as N9 (l := (Do, oDo) :: (L' + 1 + 1, oE4) :: (L' + 1, oM4) :: (d1, meterD w.params j11 j21 j31 j41 j51 nm1 (.int 5000 j61) (.ref Df1) (.ref lu) (.ref 56)) :: (lu, listOf ([] : List Value).toArray n1) :: (d2, meterD w.params j12 j22 j32 j42 j52 nm2 (.int 5000 j62) (.ref Df2) (.ref lv) (.ref 56)) :: (lv, listOf ([] : List Value).toArray n2) :: R3) (fcons cS9 (fun p hp => cC9 (((fcons (by k_mem) (fcons (by k_mem) (fcons (s8 _ ed1L) (fcons (s8 _ el1L) (fcons (s8 _ ed2L) (fcons (s8 _ el2L) subR3))))) : ∀ p ∈ _, p ∈ _) p hp))))
  subst e9
  have t3u : ∀ p ∈ tlu, p ∈ R3 := by rw [eR3]; exact (by walk_at "sx")
  have t3v : ∀ p ∈ tlv, p ∈ R3 := by rw [eR3]; exact (by walk_at "sx")
  have w3 : ∀ p ∈ (x1, instObj 393 d1) :: (x2, instObj 393 d2) :: (md, omd) :: W, p ∈ R3 := by rw [eR3]; exact (by walk_at "sx")
  have dDo : AllLt Do [(d1, oDo), (lu, oDo), (d2, oDo), (lv, oDo), (L' + 1 + 1, oDo), (L' + 1, oDo)] := ⟨ltK lDn (s8 _ ed1L), ltK lDn (s8 _ el1L), ltK lDn (s8 _ ed2L), ltK lDn (s8 _ el2L), ltK lDn (by k_mem), ltK lDn (by k_mem), trivial⟩
  have dc1 : AllLt (L' + 1) [(d1, oDo), (lu, oDo), (d2, oDo), (lv, oDo)] := ⟨ltK lK1 ed1L, ltK lK1 el1L, ltK lK1 ed2L, ltK lK1 el2L, trivial⟩
  have dc2 : AllLt (L' + 1 + 1) [(L' + 1, oDo), (d1, oDo), (lu, oDo), (d2, oDo), (lv, oDo)] := ⟨Nat.lt_succ_self _, ltK lK2 ed1L, ltK lK2 el1L, ltK lK2 ed2L, ltK lK2 el2L, trivial⟩
  refine' tail3 (n := n) (e1 := tot ds / f1) (e2 := tot ds / f2) (Du := Du) (Dv := Dv) (TLu := TLu) (TLv := TLv) (lr := lr) (lc := lc) (x1 := x1) (x2 := x2) (ysu := ysu) (ysv := ysv) ?b1 ?b2 ?b3 ?b4 ?b5 F9 NR ?mlr ?mlc ?mDu ?mDv ?mTu ?mTv ?mx1 ?mx2 ?hy1 ?hy2 hF1 hF2 hn1 hn2 hday hday2 qM4 qE4 sDo lDo ?hE eDo ed1 eu1 ed2 eu2 e1 e2 dDo dc1 dc2 nlu nlv n21 n2u nv1 nvu ?n1 ?n2 ?n3 ?n4 ?n5 ?_
  case b1 | b2 | b3 => k_asm
  case b4 => ktr_room
  case b5 => ktr_units
  case mlr => rw [eR3]; exact cS9
  case mlc => rw [eR3]; exact m1K
  case mDu => rw [eR3]; exact m2K
  case mDv => rw [eR3]; exact m3K
  case mTu => rw [eR3]; exact m6K
  case mTv => rw [eR3]; exact m7K
  case mx1 => rw [eR3]; exact m8K
  case mx2 => rw [eR3]; exact m9K
  case hy1 => exact hysu.mono fun _ _ y => y.mono fun _ _ e => t3u _ e
  case hy2 => exact hysv.mono fun _ _ y => y.mono fun _ _ e => t3v _ e
  case hE => passes_own
  case n1 => exact n_rows3
  case n2 => rfl
  case n3 => exact n_day3
  case n4 => exact n_days3
  case n5 => rfl
  intro Dr1 Dr2 nw1 nw2 ws1 ws2 tl h9 tk9 m9 FZ NZ hw1 hw2
  refine leaveN_ FZ NZ ?_
  intro kF kN kR kD
  (try dsimp only)
  have kRest := news_keep4 (need := (d1, meterD w.params j11 j21 j31 j41 j51 nm1 (.int 5000 j61) (.ref Df1) (.ref lu) (.ref 56)) :: (lu, listOf ([] : List Value).toArray n1) :: (d2, meterD w.params j12 j22 j32 j42 j52 nm2 (.int 5000 j62) (.ref Df2) (.ref lv) (.ref 56)) :: (lv, listOf ([] : List Value).toArray n2) :: (x1, instObj 393 d1) :: (x2, instObj 393 d2) :: (md, omd) :: W) N (fcons (fun q hq => (AA q hq).1) (fcons (fun q hq => (AA q hq).2.1) (fcons (fun q hq => (AA q hq).2.2.1) (fcons (fun q hq => (AA q hq).2.2.2) (List.forall_mem_nil _))))) kN (fcons (.inl cS9) (fcons (.inl m1K) (fcons (.inl m2K) (fcons (.inl m3K) (fcons (.inr ⟨ex1, ((by walk_at "sx") : ∀ p ∈ R3, p ∈ _) _ (w3 _ cS9)⟩) (fcons (.inr ⟨ex2, ((by walk_at "sx") : ∀ p ∈ R3, p ∈ _) _ (w3 _ m1K)⟩) (fcons (.inr ⟨em, ((by walk_at "sx") : ∀ p ∈ R3, p ∈ _) _ (w3 _ m2K)⟩) (fun p hp => .inr ⟨hWr p hp, ((by walk_at "sx") : ∀ p ∈ R3, p ∈ _) _ (w3 p (cC9 (cC9 (cC9 hp))))⟩)))))))) kR
  exact hret Dr1 Dr2 nw1 nw2 ws1 ws2 tl Do _ _ hv8.1 kF (fun p hp => (fcons (kN _ cS9) (fcons (kN _ m1K) (fcons (kN _ m2K) (fcons (kN _ m3K) (List.forall_mem_append.mpr ⟨kRest, fun q hq => kN _ (((by walk_at "sx") : ∀ p ∈ tl, p ∈ _) q hq)⟩)))) : ∀ p ∈ (d1, meterD w.params j11 j21 j31 j41 j51 nm1 (.int 5000 j61) (.ref Df1) (.ref lu) (.ref Dr1)) :: (lu, listOf ws1.toArray nw1) :: (d2, meterD w.params j12 j22 j32 j42 j52 nm2 (.int 5000 j62) (.ref Df2) (.ref lv) (.ref Dr2)) :: (lv, listOf ws2.toArray nw2) :: (rest ++ tl), _) p hp) hw1 hw2
end
def Pt : Int := 10 ^ 1997
theorem Pt_pos : (0 : Int) < Pt := by decide +kernel
theorem fit1 : (400 * Pt + 1).natAbs < 10 ^ 2000 := by decide +kernel
theorem fitP : (Pt).natAbs < 10 ^ 2000 := by decide +kernel
theorem fit40 : (24 * 40 * Pt).natAbs < 10 ^ 2000 := by decide +kernel
theorem each_v {h : Int} (hh : 0 < h) : ((h : Rat)) / (Rat.divInt (h * Pt) (400 * Pt + 1)) = Rat.divInt (400 * Pt + 1) Pt := by
  have h1 : (0 : Rat) < ((Pt : Int) : Rat) := Rat.intCast_lt_intCast.mpr (by have := Pt_pos; omega : (0 : Int) < Pt)
  have h2 : (0 : Rat) < ((h : Int) : Rat) := Rat.intCast_lt_intCast.mpr (by omega : (0 : Int) < h)
  have h3 : (0 : Rat) < (((400 * Pt + 1) : Int) : Rat) := Rat.intCast_lt_intCast.mpr (by have := Pt_pos; omega : (0 : Int) < 400 * Pt + 1)
  rw [Rat.divInt_eq_div, Rat.divInt_eq_div, Rat.intCast_mul]
  generalize ((Pt : Int) : Rat) = P at *
  generalize (((400 * Pt + 1) : Int) : Rat) = Q at *
  generalize ((h : Int) : Rat) = H at *
  grind
theorem cRows_days {tu day start : Int} {re e : Rat} {n : Nat} : (((day, (0 : Int), (none : Option Int)) : MRow) :: cRows tu day start re e n).map (fun r : MRow => r.1) = (List.range (n + 1)).map fun i : Nat => day + (i : Int) := by
  induction n with
  | zero => simp [cRows]
  | succ n ih =>
    rw [List.range_succ, List.map_append, ← ih, cRows_snoc, List.map_cons, List.map_cons, List.map_append]
    simp [cRow]
    omega
theorem divInt_times (a b : Int) (k : Int) : Rat.divInt a b * (k : Rat) = Rat.divInt (a * k) b := by
  rw [Rat.divInt_eq_div, Rat.divInt_eq_div, Rat.intCast_mul]
  grind
theorem fitsV {k : Int} (h : k = 1 ∨ k = 2) : FitsR (Rat.divInt (400 * Pt + 1) Pt * (k : Rat)) := by
  rw [divInt_times]
  rcases h with rfl | rfl
  · constructor
    · unfold Fits; rw [Rat.num_divInt]; decide +kernel
    · unfold Fits; rw [Rat.den_divInt]; decide +kernel
  · constructor
    · unfold Fits; rw [Rat.num_divInt]; decide +kernel
    · unfold Fits; rw [Rat.den_divInt]; decide +kernel
theorem fitsV1 : FitsR (Rat.divInt (400 * Pt + 1) Pt) := by
  have h := fitsV (k := 1) (.inl rfl)
  rwa [show ((1 : Int) : Rat) = 1 from rfl, Rat.mul_one] at h
theorem bigV : (10 : Int) ^ 2000 ≤ (Rat.divInt ((400 * Pt + 1) * 3) Pt).num := by
  rw [Rat.num_divInt]; decide +kernel
theorem fitDV : Fits ((Rat.divInt ((400 * Pt + 1) * 3) Pt).den : Int) := by
  unfold Fits; rw [Rat.den_divInt]; decide +kernel
theorem leV : ¬ ((5000 - 1 : Int) : Rat) < Rat.divInt (400 * Pt + 1) Pt := by
  have h1 : (0 : Rat) < ((Pt : Int) : Rat) := Rat.intCast_lt_intCast.mpr (by have := Pt_pos; omega : (0 : Int) < Pt)
  have h2 : (((400 * Pt + 1 : Int)) : Rat) ≤ (((5000 - 1) * Pt : Int) : Rat) := Rat.intCast_le_intCast.mpr (by have := Pt_pos; omega)
  rw [Rat.intCast_mul] at h2
  rw [Rat.divInt_eq_div]
  generalize ((Pt : Int) : Rat) = P at *
  generalize (((400 * Pt + 1 : Int)) : Rat) = Q at *
  generalize ((5000 - 1 : Int) : Rat) = M at *
  intro h
  have h3 : M * P < Q / P * P := Rat.mul_lt_mul_of_pos_right h h1
  have h4 : Q / P * P = Q := by grind
  grind
theorem fits_le {x y : Int} (h : Fits y) (hl : x.natAbs ≤ y.natAbs) : Fits x := by
  unfold Fits at *
  exact Nat.lt_of_le_of_lt hl h
theorem fits_divInt {a b : Int} (ha : Fits a) (hb : Fits b) (hb0 : b ≠ 0) : FitsR (Rat.divInt a b) := by
  constructor
  · refine fits_le ha ?_
    rw [Rat.num_divInt]
    refine Nat.le_trans (Int.natAbs_ediv_le_natAbs _ _) ?_
    rw [Int.natAbs_mul, Int.natAbs_sign_of_ne_zero hb0, Nat.one_mul]
    exact Nat.le_refl _
  · refine fits_le hb ?_
    rw [Rat.den_divInt, if_neg hb0]
    exact Nat.div_le_self _ _
theorem fits24 {h : Int} (h0 : 0 ≤ h) (h1 : h ≤ 960) : Fits (h * Pt) := by
  have hp := Pt_pos
  have hf := fit40
  have h2 : h * Pt ≤ 960 * Pt := Int.mul_le_mul_of_nonneg_right h1 (by omega)
  have h3 : 0 ≤ h * Pt := Int.mul_nonneg h0 (by omega)
  unfold Fits
  generalize (10 : Nat) ^ 2000 = P at *
  omega
theorem fitsFV {h : Int} (h0 : 0 ≤ h) (h1 : h ≤ 960) : FitsR (Rat.divInt (h * Pt) (400 * Pt + 1)) :=
  fits_divInt (fits24 h0 h1) fit1 (by have := Pt_pos; omega)
theorem fv_ne {h : Int} (h0 : 0 < h) : Rat.divInt (h * Pt) (400 * Pt + 1) ≠ 0 := by
  have h1 : (0 : Rat) < ((Pt : Int) : Rat) := Rat.intCast_lt_intCast.mpr (by have := Pt_pos; omega : (0 : Int) < Pt)
  have h2 : (0 : Rat) < ((h : Int) : Rat) := Rat.intCast_lt_intCast.mpr (by omega : (0 : Int) < h)
  have h3 : (0 : Rat) < (((400 * Pt + 1) : Int) : Rat) := Rat.intCast_lt_intCast.mpr (by have := Pt_pos; omega : (0 : Int) < 400 * Pt + 1)
  rw [Rat.divInt_eq_div, Rat.intCast_mul]
  generalize ((Pt : Int) : Rat) = P at *
  generalize (((400 * Pt + 1) : Int) : Rat) = Q at *
  generalize ((h : Int) : Rat) = H at *
  intro e
  have h4 : H * P = H * P / Q * Q := by grind
  have hp := Rat.mul_pos h2 h1
  rw [e, Rat.zero_mul] at h4
  rw [h4] at hp
  exact absurd hp (by decide)
theorem tot24 {h : Int} : tot (List.replicate 24 (h : Rat)) = ((24 * h : Int) : Rat) := by
  have f : ∀ (n : Nat) (a r : Rat), (List.replicate n r).foldl (· + ·) a = a + ((n : Int) : Rat) * r := by
    intro n
    induction n with
    | zero => intro a r; rw [List.replicate_zero, List.foldl_nil]; have h : (((0 : Nat) : Int) : Rat) = 0 := rfl; rw [h]; grind
    | succ n ih =>
      intro a r
      rw [List.replicate_succ, List.foldl_cons, ih (a + r) r, show (((n + 1 : Nat) : Int) : Rat) = ((n : Int) : Rat) + 1 by rw [show ((n + 1 : Nat) : Int) = (n : Int) + 1 by omega, Rat.intCast_add]; rfl]
      grind
  unfold tot
  rw [f, Rat.intCast_mul]
  have h : (((24 : Nat) : Int) : Rat) = ((24 : Int) : Rat) := rfl
  rw [h]; grind
theorem fits_small {x : Int} (h0 : -100000 ≤ x) (h1 : x ≤ 100000) : Fits x := by
  unfold Fits
  exact Nat.lt_of_le_of_lt (by omega : x.natAbs ≤ 100000) (by decide +kernel)
theorem fitsU {h k : Int} (h0 : 0 ≤ h) (h1 : h ≤ 960) (k0 : 0 ≤ k) (k1 : k ≤ 100) : FitsR ((h : Rat) / ((7 : Int) : Rat) * (k : Rat)) := by
  have e : (h : Rat) / ((7 : Int) : Rat) * (k : Rat) = Rat.divInt (h * k) 7 := by
    rw [Rat.divInt_eq_div, Rat.intCast_mul]; grind
  rw [e]
  have b1 : h * k ≤ 960 * 100 := Int.mul_le_mul h1 k1 k0 (by omega)
  have b0 : 0 ≤ h * k := Int.mul_nonneg h0 k0
  exact fits_divInt (fits_small (by omega) (by omega)) (fits_small (by omega) (by omega)) (by decide)
theorem leU {h : Int} (h1 : h ≤ 960) : ¬ ((5000 - 1 : Int) : Rat) < (h : Rat) / ((7 : Int) : Rat) := by
  have g1 : (h : Rat) ≤ ((960 : Int) : Rat) := Rat.intCast_le_intCast.mpr h1
  have e1 : ((960 : Int) : Rat) = 960 := rfl
  have e2 : ((5000 - 1 : Int) : Rat) = 4999 := rfl
  have e3 : ((7 : Int) : Rat) = 7 := rfl
  rw [e2, e3]
  rw [e1] at g1
  grind
theorem numV : (Rat.divInt (400 * Pt + 1) Pt).num = 400 * Pt + 1 := by
  rw [Rat.num_divInt]; decide +kernel
theorem denV : ((Rat.divInt (400 * Pt + 1) Pt).den : Int) = Pt := by
  rw [Rat.den_divInt]; decide +kernel
theorem fit9_den {h : Int} {r : Rat} (f : Fits r.num) : Fit9 (((((24 * h : Int) : Rat)).den : Int) * r.num) := by
  have e : (((((24 * h : Int) : Rat)).den : Int) * r.num) = r.num := by
    show ((1 : Nat) : Int) * r.num = r.num
    omega
  rw [e]
  unfold Fits at f
  unfold Fit9
  exact Nat.lt_trans f (by decide +kernel)
structure Num16 (ds : List Rat) (f1 f2 : Rat) (n : Nat) : Prop where
  ff1 : FitsR f1
  ne1 : f1 ≠ 0
  l91 : Fit9 (((tot ds).den : Int) * f1.num)
  fe1 : FitsR (tot ds / f1)
  le1 : ¬ ((5000 - 1 : Int) : Rat) < tot ds / f1
  ff2 : FitsR f2
  ne2 : f2 ≠ 0
  l92 : Fit9 (((tot ds).den : Int) * f2.num)
  fe2 : FitsR (tot ds / f2)
  le2 : ¬ ((5000 - 1 : Int) : Rat) < tot ds / f2
  hF1 : ∀ j : Nat, j < n → FitsR (tot ds / f1 * ((1 + (j : Int) : Int) : Rat))
  hF2 : ∀ j : Nat, j < 2 → FitsR (tot ds / f2 * ((1 + (j : Int) : Int) : Rat))
  big : (10 : Int) ^ 2000 ≤ (Rat.divInt ((tot ds / f2).num * (((1 + ((2 : Nat) : Int) : Int) : Rat)).num) (((tot ds / f2).den : Int) * ((((1 + ((2 : Nat) : Int) : Int) : Rat)).den : Int))).num
  den : Fits ((Rat.divInt ((tot ds / f2).num * (((1 + ((2 : Nat) : Int) : Int) : Rat)).num) (((tot ds / f2).den : Int) * ((((1 + ((2 : Nat) : Int) : Int) : Rat)).den : Int))).den : Int)
theorem num16 {h : Int} {n : Nat} {f2 : Rat} (h0 : 1 ≤ h) (h1 : h ≤ 40) (hn : n ≤ 4) (ef : f2 = Rat.divInt (24 * h * Pt) (400 * Pt + 1)) : Num16 (List.replicate 24 (h : Rat)) ((7 : Int) : Rat) f2 n := by
  have eV : tot (List.replicate 24 (h : Rat)) / f2 = Rat.divInt (400 * Pt + 1) Pt := by
    rw [tot24, ef]; exact each_v (h := 24 * h) (by omega)
  have e3 : (Rat.divInt (400 * Pt + 1) Pt).num * (((1 + ((2 : Nat) : Int) : Int) : Rat)).num = (400 * Pt + 1) * 3 := by
    rw [numV]; rfl
  have e4 : ((Rat.divInt (400 * Pt + 1) Pt).den : Int) * ((((1 + ((2 : Nat) : Int) : Int) : Rat)).den : Int) = Pt := by
    rw [denV]; show Pt * ((1 : Nat) : Int) = Pt; omega
  refine ⟨⟨fits_small (x := 7) (by omega) (by omega), fits_small (x := 1) (by omega) (by omega)⟩, (by decide), ?_, ?_, ?_, ?_, ?_, ?_, ?_, ?_, ?_, ?_, ?_, ?_⟩
  · rw [tot24]; exact fit9_den (fits_small (x := 7) (by omega) (by omega))
  · rw [tot24]
    have h9 := fitsU (h := 24 * h) (k := 1) (by omega) (by omega) (by omega) (by omega)
    rwa [show ((1 : Int) : Rat) = 1 from rfl, Rat.mul_one] at h9
  · rw [tot24]; exact leU (by omega)
  · rw [ef]; exact fitsFV (h := 24 * h) (by omega) (by omega)
  · rw [ef]; exact fv_ne (h := 24 * h) (by omega)
  · rw [tot24]; refine fit9_den ?_; rw [ef]; exact (fitsFV (h := 24 * h) (by omega) (by omega)).num
  · rw [eV]; exact fitsV1
  · rw [eV]; exact leV
  · intro j hj; rw [tot24]; exact fitsU (h := 24 * h) (k := 1 + (j : Int)) (by omega) (by omega) (by omega) (by omega)
  · intro j hj; rw [eV]; exact fitsV (k := 1 + (j : Int)) (by omega)
  · rw [eV, e3, e4]; exact bigV
  · rw [eV, e3, e4]; exact fitDV
theorem depth_ints : ∀ ns : List Int, PyData.depthAll (ns.map PyData.int) ≤ 1
  | [] => by simp [PyData.depthAll]
  | n :: r => by
    have := depth_ints r
    simp only [List.map_cons, PyData.depthAll, PyData.depth]; omega
theorem lay_ints : ∀ ns : List Int, PyData.canLayAll0 (ns.map PyData.int) = true
  | [] => rfl
  | n :: r => by simp only [List.map_cons, PyData.canLayAll0, PyData.canLay0, lay_ints r, Bool.and_self]
theorem shaped16 {T N : Str} (ds : List Int) (hT : PyData.canLay0 (.str T) = true) (hN : PyData.canLay0 (.str N) = true) : SeqAt.shaped (.list [.str T, .list [.list (ds.map .int), .list (ds.map .int)], .str N]) = true := by
  have h1 := lay_ints ds
  have h2 := depth_ints ds
  unfold SeqAt.shaped
  simp only [PyData.canLay0, PyData.canLayAll0, PyData.depth, PyData.depthAll, h1, Bool.and_true, Bool.true_and] at hT hN ⊢
  rw [hT, hN]
  simp only [Bool.and_true, Bool.true_and]
  exact decide_eq_true (by omega)
theorem fv_pos {h : Int} (h0 : 0 < h) : 0 < (Rat.divInt (h * Pt) (400 * Pt + 1)).num := by
  have hA : (0 : Rat) < ((h * Pt : Int) : Rat) := Rat.intCast_lt_intCast.mpr (Int.mul_pos h0 Pt_pos)
  have hB : (0 : Rat) < ((400 * Pt + 1 : Int) : Rat) := Rat.intCast_lt_intCast.mpr (by have := Pt_pos; omega : (0 : Int) < 400 * Pt + 1)
  have hq : 0 < Rat.divInt (h * Pt) (400 * Pt + 1) := by
    rw [Rat.divInt_eq_div, Rat.div_def]
    exact Rat.mul_pos hA (Rat.inv_pos.mpr hB)
  have h1 := Rat.num_nonneg.mpr (Rat.le_of_lt hq)
  have h2 : (Rat.divInt (h * Pt) (400 * Pt + 1)).num ≠ 0 := fun e => fv_ne h0 (Rat.num_eq_zero.mp e)
  omega
inductive MarkQ : Prop where
  | mk : MarkQ
def IntV (v : Value) (d : Int) : Prop := ∃ t, v = .int d t
theorem ints_rd {h : Heap} {vs : List Value} {ds : List Int} (x : All2 IntV vs ds) : All2 (Rd h) vs (ds.map PyData.int) := x.map_r fun _ _ y => by
  obtain ⟨t, rfl⟩ := y
  exact Rd.int
theorem all2_rep {α β : Type} {R : α → β → Prop} {a : α} {b : β} (h : R a b) : ∀ n : Nat, All2 R (List.replicate n a) (List.replicate n b)
  | 0 => .nil
  | n + 1 => .cons h (all2_rep h n)
theorem rep_bd {n : Nat} {r : Rat} (h : Bd 64 r) : ∀ q ∈ List.replicate n r, Bd 64 q := fun q hq => by rw [List.eq_of_mem_replicate hq]; exact h
theorem Rd.str {h : Heap} {x : Str} {t : Tok} : Rd h (.str x t) (.str x) := ⟨_, .str x t⟩
theorem ints_all2 : ∀ {vs : List Value} {ds : List Int}, IntsAre vs ds → All2 IntV vs ds
  | _, _, .nil => .nil
  | _, _, .cons z u r => .cons ⟨u, rfl⟩ (ints_all2 r)
end Mine
open Mine
local macro_rules | `(tactic| walk_at "i16") => `(tactic| ((rename RaisedK _ _ _ _ _ _ _ _ => rkX); (with_reducible show wpAny _ _ (noteFrame _ _) (fun _ s₂ => wpAny _ _ (setFlight _ none) (fun _ s₃ => wpAny _ _ (handleBy _ _ (ExceptHandler.ExceptHandler (some (Expr.Name _ _)) (some _) _ _ :: _)) _ _ s₃) _ s₂) _ _); k_dflt (refine' caught_C (bmB := [.type "ValueError", .type "Exception", .type "BaseException", .type "object"]) (newId := "ValueError.__new__") ?K ?F ?U ?R ?X ?T ?ex ?q ?hb ?_; (case K | F | U => assumption); (case R => exact rkX); (case X | T => k_asm); (case ex => k_is); (case q => k_exc); (case hb => rfl); k_whole); clear rkX; intro h' oe' ot' tk' E' F' N' G'))
local macro_rules | `(tactic| walk_at "i17") => `(tactic| (intro h' tk' v' F' N'))
namespace Mine
section
theorem words33 : True := by
  k_with_none
  k_with "k_in" => (refine' in_of ?z4fF ?z4fX; (case z4fF | z4fX => k_asm))
  k_with "eval Name" => (k_here; k_dflt (refine' nameX_L ?z170k1 ?z170k2 ?_ ?z170k3 ?z170k4; (case z170k1 => k_asm); (case z170k3 | z170k4 => rfl); (case z170k2 => first | exact rfl | assumption); k_whole))
  k_with "exec Try" => ((with_reducible show wpAny _ _ (exec (Stmt.Try _ (_ :: _) _ [] _) _) _ _ _); refine wpAny_Try_except ?_)
  k_with "noteFrame ref" => (k_here; walk_at "i16")
  k_with "bind" => ((with_reducible show wpAny _ _ (do bindName _ _ Value.none; unbindBehindTheSuite _ _ _) _ _ _); k_dflt (refine' name_goes_C ?z171F ?z171N ?_; (case z171F | z171N => k_asm); k_whole); walk_at "i17")
  k_with "call ref" => (k_here; (with_reducible show wpAny _ _ (call (Value.ref 418) [Value.none, Value.ref _, Value.str (PySem.Str.ofString "b") _]) _ _ _); k_dflt (refine' settled_x (nl := 0) ?z172k1 ?z172k2 ?z172k3 ?z172k4 ?z172k5 ?z172k6 ?z172el ?z172k7 ?z172k8 ?_; (case z172k1 | z172k2 | z172k3 | z172k4 | z172k5 => k_asm); (case z172k6 => first | exact rfl | assumption); (case z172k7 => first | exact Nat.le_of_ble_eq_true rfl | ktr_room); (case z172k8 => first | exact Nat.le_of_ble_eq_true rfl | ktr_units); (case z172el => k_mem); k_whole); walk_at "i13")
  k_with "call type:str" => (k_here; (with_reducible show wpAny _ _ (call (Value.type "str") [Value.ref _]) _ _ _); k_dflt (refine' str_gotC ?z173U ?z173F ?z173X ?z173N ?z173G ?z173hs ?z173hm ?_; (case z173G | z173N => assumption); (case z173F | z173X => k_asm); (case z173hs | z173hm => k_is); (case z173U => first | units_room | k_room | ktr_units); k_whole))
  k_with "k_mem" => (first | with_reducible assumption | (refine aL0 ?_; with_reducible assumption) | (refine cC9 ?_; k_mem))
  k_with "subscriptTail Name Name ref str" => (k_here; (with_reducible show wpAny _ _ (subscriptTail _ _ (Value.ref _) (Value.str _ _)) _ _ _); k_dflt (refine' kda_item (knd := PySem.strKind _ _) ?z174N ?z174hp ?z174hd (strKind_is _ _ _ _) ?z174hl ?_; (case z174N => k_asm); (case z174hp => k_mem); (case z174hd => with_reducible assumption); (case z174hl => first | rfl | exact hkl9 | assumption); k_whole); (try dsimp only))
  k_with "exec Assign cons ListComp" => (k_here; k_dflt (refine AssignComp_S (_F₀ := by k_asm) (by rfl) (by with_unfolding_all rfl) (by with_unfolding_all rfl) (by decide) (by rfl) (by decide) (by rfl) (by rfl) (by rfl) ?_))
  k_with "SrcS" => (refine Hold.out ?_)
  k_with "eval ListComp" => (k_here; k_dflt (refine LCg.ListComp_U (F₀ := by k_asm) (by with_unfolding_all rfl) (by decide) (by rfl) (by decide) (by rfl) ?_))
  k_with "CompSrc" => (refine Hold.out ?_)
  k_with "CompEnd" => (show LCg.CompEnd _ _ _ _ _ _ _ _ _ _ _ _ _ _; refine Hold.out ?_)
  k_with "compareOp Eq ref ref" => (k_here; (with_reducible show wpAny _ _ (compareOp CmpOp.Eq (Value.ref _) (Value.ref _)) _ _ _); refine Hold.out ?_)
  k_with "binaryOp Add ref ref" => (k_here; (with_reducible show wpAny _ _ (binaryOp Operator.Add (Value.ref _) (Value.ref _)) _ _ _); refine Hold.out ?_)
  k_with "subscriptTail Name Constant ref int" => (k_here; (with_reducible show wpAny _ _ (subscriptTail _ _ (Value.ref _) (Value.int _ _)) _ _ _); k_dflt (refine' tup_g ?z175k1 ?z175k2 ?z175k3 ?z175k4 ?z175k5 ?z175k6 ?z175k7 ?z175k8 ?_ ?z175k9 ?z175k10; (case z175k1 => k_asm); (case z175k2 => with_reducible assumption); (case z175k3 | z175k4 => exact rfl); (case z175k5 | z175k6 => decide); (case z175k7 | z175k8 => exact rfl); (case z175k9 => with_unfolding_all rfl); (case z175k10 => (intro _; with_unfolding_all rfl)); k_whole))
  trivial
theorem lawR {w0 : World} {fa L : Addr} {cc : Value} {h₀ : Heap} {Q : Flow → Shared → Prop} {EX : Value → Shared → Prop} {m : Str → Option Value} {s : Shared} {md x1 d1 lu x2 d2 lv Df1 Df2 : Addr} {j11 j21 j31 j41 j51 j61 j12 j22 j32 j42 j52 j62 : Tok} {nm1 nm2 : Value} {omd oM : Obj} {rr1 rr2 : Value} {n n1 n2 : Nat} {ws1 ws2 : List Value} {q1 q2 : List MRow} {ds : List Int} {day : Int} {T9 : Str} {td tn tt : Tok} {R : List (Addr × Obj)} 
    (K0 : Below callerA h₀ [] h₀) (KX : (HD.K w0.params).In h₀) (T : Top p loose mean mg mb h₀) (F : Fr h₀ L s.heap m) (N : News h₀ L s.heap R) (mC : (L + 1, oM) ∈ R) (qC : oM.data = .cell (some (.ref md))) (mMd : (md, omd) ∈ R) (mx1 : (x1, instObj 393 d1) ∈ R) (md1 : (d1, meterD w0.params j11 j21 j31 j41 j51 nm1 (.int 5000 j61) (.ref Df1) (.ref lu) rr1) ∈ R) (ml1 : (lu, listOf ws1.toArray n1) ∈ R) (mx2 : (x2, instObj 393 d2) ∈ R) (md2 : (d2, meterD w0.params j12 j22 j32 j42 j52 nm2 (.int 5000 j62) (.ref Df2) (.ref lv) rr2) ∈ R) (ml2 : (lv, listOf ws2.toArray n2) ∈ R)
    (lmd : (md == sysModules) = false) (hmd : omd.IsDictOf (PySem.strKind Challenge.rw_ui0509_16.row.prog w0) [(Str.ofString "u", Value.ref x1), (Str.ofString "v", Value.ref x2)]) (hw1 : All2 (RowN (Led R)) ws1 q1) (hq1 : q1.map (fun r : MRow => r.1) = ds) (hw2 : All2 (RowN (Led R)) ws2 q2) (hq2 : q2.map (fun r : MRow => r.1) = ds) (hdl : ds.length ≤ 10) (hTT : (n ≤ 2 ∧ T9 = Str.ofString "" ∧ ds = (List.range (n + 1)).map (fun i : Nat => day + (i : Int))) ∨ (3 ≤ n ∧ T9 = (Str.ofString "a fraction of too many figures") ∧ ds = [])) (hday : 1 ≤ day) (hday2 : day ≤ 20) (hn1 : 1 ≤ n) (hn4 : n ≤ 4)
    (n_day : m (Str.ofString "day") = some (.int day td)) (n_days : m (Str.ofString "days") = some (.int (n : Int) tn)) (n_told : m (Str.ofString "told") = some (.str T9 tt))
    (hE : PassesOwn (model Challenge.rw_ui0509_16.row.prog w0) (callerA.deeper (envOfC HD.dH.name HD.dH.scope L fa cc)) (envOfC HD.dH.name HD.dH.scope L fa cc) EX)
    (hend : ∀ (h' : Heap) (tk' : Nat) (m' : Str → Option Value), Fr h₀ L h' m' → Q (.ret (.bool true)) { s with heap := h', toks := tk' }) :
    wpAny (model Challenge.rw_ui0509_16.row.prog w0) (callerA.deeper (envOfC HD.dH.name HD.dH.scope L fa cc)) (execs (HD.fb45.1.drop 10) (envOfC HD.dH.name HD.dH.scope L fa cc)) Q EX s := by
  w_top off
  revert KX; k_fill; intro KX
  dsimp only [HD.dH, HD.fb45, HD.fs45, List.drop_succ_cons, List.drop_zero]
  k_steps
  unfold Hold
  (rename News _ _ _ _ => N9)
  (rename Fr _ _ _ _ => F9)
  obtain ⟨m9, em9, F9b⟩ := fr_name9 F9
  rw [← em9]
  have n_day9 := fr_at9 em9 (Str.ofString "day") _ (by exact n_day)
  have n_days9 := fr_at9 em9 (Str.ofString "days") _ (by exact n_days)
  have n_told9 := fr_at9 em9 (Str.ofString "told") _ (by exact n_told)
  have n_noth9 := fr_at9 em9 (Str.ofString "nothing") _ (by rfl)
  clear em9 F9 n_day n_days n_told
  have NR : News h₀ L _ R := fun p hp => N9 p (((by walk_at "sx") : ∀ p ∈ R, p ∈ _) p hp)
  clear N9
  refine ⟨_, _, _, rfl, rfl, F9b, NR, by decide +kernel, by decide +kernel, ?_⟩
  intro g9
  refine comp_ind (fun i ys nx => (i = 0 ∧ ys = [] ∧ nx = R) ∨ (i = 1 ∧ ∃ Du yu, ys = [.ref Du] ∧ nx = (Du, LCg.lst yu) :: R ∧ All2 IntV yu ds) ∨ (i = 2 ∧ ∃ Du yu Dv yv, ys = [.ref Du, .ref Dv] ∧ nx = (Dv, LCg.lst yv) :: (Du, LCg.lst yu) :: R ∧ All2 IntV yu ds ∧ All2 IntV yv ds)) ?turn1 ?fin1 _ 0 [] _ (Nat.zero_add _) (.inl ⟨rfl, rfl, rfl⟩)
  case turn1 =>
    intro i v9 I oI C oC D9 m2 h tk E' ys nx hi hJ hPv hC hx Fm Nn off ne
    have hi2 : i < 2 := hi
    obtain ⟨kk, u9, xx, dd, ll, k1, k2, k3, k4, k5, k6, nm9, Dff, rr, nn, ws, q, rfl, hkl9, mxx, mdd, mll, hww, hqq⟩ : ∃ (kk : Str) (u9 : Tok) (xx dd ll : Addr) (k1 k2 k3 k4 k5 k6 : Tok) (nm9 : Value) (Dff : Addr) (rr : Value) (nn : Nat) (ws : List Value) (q : List MRow), v9 = .str kk u9 ∧ valueAt [(Str.ofString "u", Value.ref x1), (Str.ofString "v", Value.ref x2)] kk = some (.ref xx) ∧ (xx, instObj 393 dd) ∈ R ∧ (dd, meterD w0.params k1 k2 k3 k4 k5 nm9 (.int 5000 k6) (.ref Dff) (.ref ll) rr) ∈ R ∧ (ll, listOf ws.toArray nn) ∈ R ∧ All2 (RowN (Led R)) ws q ∧ q.map (fun r : MRow => r.1) = ds := by
      obtain ⟨c, u, hc, rfl⟩ := hPv
      rw [show (Str.ofString "uv").cps = #[117, 118] by decide +kernel] at hc
      rcases (by omega : i = 0 ∨ i = 1) with rfl | rfl
      · obtain rfl : c = 117 := by simpa using hc.symm
        exact ⟨_, u, x1, d1, lu, _, _, _, _, _, _, _, _, _, _, ws1, q1, rfl, by rfl, mx1, md1, ml1, hw1, hq1⟩
      · obtain rfl : c = 118 := by simpa using hc.symm
        exact ⟨_, u, x2, d2, lv, _, _, _, _, _, _, _, _, _, _, ws2, q2, rfl, by rfl, mx2, md2, ml2, hw2, hq2⟩
    have sR : ∀ p ∈ R, p ∈ nx := by
      rcases hJ with ⟨_, _, rfl⟩ | ⟨_, _, _, _, rfl, _⟩ | ⟨_, _, _, _, _, _, rfl, _⟩
      · exact fun _ h => h
      · exact fun _ h => cC9 h
      · exact fun _ h => cC9 (cC9 h)
    replace mxx := sR _ mxx; replace mdd := sR _ mdd; replace mll := sR _ mll
    have mMd9 := sR _ mMd
    have mC9 := sR _ mC
    clear hPv
    k_steps
    unfold Hold
    obtain ⟨LN, eLN⟩ : ∃ LN, LN = (I, oI) :: (C, oC) :: (D9, LCg.lst ys) :: nx := ⟨_, rfl⟩
    have sLN : ∀ p ∈ nx, p ∈ LN := by rw [eLN]; exact fun p hp => cC9 (cC9 (cC9 hp))
    rw [← eLN] at Nn
    have mll9 := sLN _ mll
    have hwl : ws.length = ds.length := by rw [← hqq, List.length_map]; exact hww.length
    refine LCg.CompSrc.ledger rfl Fm Nn mll9 (by rw [List.size_toArray, sizeLine_eq]; omega) (fun g8 => ?_)
    refine comp_ind (fun j zs nx2 => nx2 = LN ∧ All2 IntV zs (ds.take j)) ?turn2 ?fin2 _ 0 [] _ (Nat.zero_add _) ⟨rfl, .nil⟩
    case turn2 =>
      intro j v8 I8 oI8 C8 oC8 D8 m8 h8 tk8 E8 zs nx8 hj hJ8 hPv8 hC8 hx8 F8 N8 off8 ne8
      obtain ⟨e8, hzs⟩ := hJ8
      rw [e8] at N8 off8
      have hw8 : ws[j]? = some v8 := by simpa using hPv8
      obtain ⟨⟨da, va, oa⟩, hq8, D0, ta, tb, ua, ca, rfl, mD0, _⟩ := hww.get hw8
      have mD8 := sLN _ (sR _ mD0)
      have hstep : ds.take (j + 1) = ds.take j ++ [da] := by rw [List.take_add_one, ← hqq, List.getElem?_map, hq8]; rfl
      clear Nn Fm hPv8 hw8
      dsimp only at mD8
      k_steps
      unfold Hold
      exact comp_end (by k_asm) (by k_asm) LN (fun _ h => h) off8 (.inr ⟨_, mll9, rfl, _, rfl⟩) ⟨rfl, by rw [hstep]; exact hzs.snoc ⟨_, rfl⟩⟩
    case fin2 =>
      intro zs nx8 hJ8 D8 h8 tk8 F8 N8 o8
      obtain ⟨e8, hzs⟩ := hJ8
      rw [e8] at N8 o8
      rw [List.size_toArray, hwl, List.take_length] at hzs
      have o9 := off1_mem o8
      rw [eLN] at N8 o9
      refine comp_end F8 N8 ((D8, LCg.lst zs) :: nx) sub_mid1 (off3_cons (o9 (I, oI) (by k_mem)).symm (o9 (C, oC) (by k_mem)).symm (o9 (D9, _) (by k_mem)).symm off) trivial ?_
      rcases hJ with ⟨rfl, rfl, rfl⟩ | ⟨rfl, Du, yu, rfl, rfl, hyu⟩ | ⟨rfl, _⟩
      · exact .inr (.inl ⟨rfl, D8, zs, rfl, rfl, hzs⟩)
      · exact .inr (.inr ⟨rfl, Du, yu, D8, zs, rfl, rfl, hyu, hzs⟩)
      · omega
  case fin1 =>
    intro ys nx hJ TL h tk Fm Nn off
    rw [show (Str.ofString "uv").cps.size = 2 by decide +kernel] at hJ
    rcases hJ with ⟨h2, _⟩ | ⟨h2, _⟩ | ⟨_, Du, yu, Dv, yv, rfl, rfl, hyu, hyv⟩
    · omega
    · omega
    have n_rows9 : (fun z => if z = Str.ofString "rows" then some (Value.ref TL) else m9 z) (Str.ofString "rows") = some (Value.ref TL) := by rfl
    obtain ⟨mA, eA, FA⟩ := fr_name9 Fm
    have n_day8 := fr_at9 eA (Str.ofString "day") _ (by exact n_day9)
    have n_days8 := fr_at9 eA (Str.ofString "days") _ (by exact n_days9)
    have n_told8 := fr_at9 eA (Str.ofString "told") _ (by exact n_told9)
    have n_noth8 := fr_at9 eA (Str.ofString "nothing") _ (by exact n_noth9)
    have n_rows8 := fr_at9 eA (Str.ofString "rows") _ n_rows9
    clear eA Fm F9b n_rows9 n_day9 n_days9 n_told9 n_noth9 NR
    have oR := off1_mem off
    clear off
    k_steps
    change wpAny _ _ _ _ _ _
    (rename IntsAre _ _ => hI)
    replace hI := ints_all2 hI
    refine KMa.mul (vs := [_]) (ws := List.replicate 2 _) (by k_asm) (by k_asm) (by is_list) (by decide) (by decide) (by show 1 * Int.toNat 2 ≤ 256; decide) rfl ?_
    intro D7 h7 F7 N7 l7
    k_lt l7
    k_steps
    · (rename (2 : Int) < _ => h2n)
      rcases hTT with ⟨h9, _⟩ | ⟨_, rfl, rfl⟩
      · exfalso; omega
      change wpAny _ _ _ _ _ _
      (rename Fr _ _ _ _ => F8)
      (rename News _ _ _ _ => N8)
      k_dflt (refine' add_k (vs := [_, _]) (ws := [_]) F8 N8 (N8.get m2K) (N8.get cS9) (by show 2 + 1 ≤ 16000; decide) ?_)
      intro D5 h5 F5 N5 l5
      clear F8 N8 l5
      k_steps
      change wpAny _ _ _ _ _ _
      refine eq_rd (d := .list [.str (Str.ofString "a fraction of too many figures"), .list [.list (([] : List Int).map .int), .list (([] : List Int).map .int)], .str (Str.ofString "nothing is sent")]) (Rd.list (vs := [_, _, _]) (N5.get m2K) (.cons Rd.str (.cons (Rd.list (vs := [_, _]) (N5.get m11K) (.cons (Rd.list (N5.get m13K) (ints_rd hyu)) (.cons (Rd.list (N5.get m12K) (ints_rd hyv)) .nil))) (.cons Rd.str .nil))))
        (Rd.list (vs := [_, _, _]) (N5.get cS9) (.cons Rd.str (.cons (Rd.list (vs := [_, _]) (N5.get m4K) (.cons (Rd.list (vs := []) (N5.get m6K) .nil) (.cons (Rd.list (vs := []) (N5.get m5K) .nil) .nil))) (.cons Rd.str .nil)))) (shaped16 _ (by decide +kernel) (by decide +kernel)) ?hu1 ?_
      case hu1 => ktr_units
      exact hend _ _ _ F5
    · (rename ¬ (2 : Int) < _ => h2n)
      rcases hTT with ⟨_, rfl, eds⟩ | ⟨h9, _⟩
      rotate_left
      · exfalso; omega
      change wpAny _ _ _ _ _ _
      (rename Fr _ _ _ _ => F8)
      (rename News _ _ _ _ => N8)
      k_dflt (refine' add_k (vs := [_, _]) (ws := [_]) F8 N8 (N8.get m2K) (N8.get cS9) (by show 2 + 1 ≤ 16000; decide) ?_)
      intro D5 h5 F5 N5 l5
      clear F8 N8 l5
      k_steps
      change wpAny _ _ _ _ _ _
      rw [show (day + (n : Int) + 1 - day).toNat = n + 1 by omega] at hI
      rw [show rangeKs day (n + 1) = ds by rw [eds]; rfl] at hI
      refine eq_rd (d := .list [.str (Str.ofString ""), .list [.list (ds.map .int), .list (ds.map .int)], .str (Str.ofString "nothing is sent")]) (Rd.list (vs := [_, _, _]) (N5.get m2K) (.cons Rd.str (.cons (Rd.list (vs := [_, _]) (N5.get m7K) (.cons (Rd.list (N5.get m9K) (ints_rd hyu)) (.cons (Rd.list (N5.get m8K) (ints_rd hyv)) .nil))) (.cons Rd.str .nil))))
        (Rd.list (vs := [_, _, _]) (N5.get cS9) (.cons Rd.str (.cons (Rd.list (vs := [_, _]) (N5.get m4K) (.cons (Rd.list (N5.get m6K) (ints_rd hI)) (.cons (Rd.list (N5.get m6K) (ints_rd hI)) .nil))) (.cons Rd.str .nil)))) (shaped16 _ (by decide +kernel) (by decide +kernel)) ?hu2 ?_
      case hu2 => ktr_units
      exact hend _ _ _ F5
end
section
theorem words34 : True := by
  k_with_none
  k_with "k_in" => (refine' in_of ?z4fF ?z4fX; (case z4fF | z4fX => k_asm))
  k_with "eval Name" => (k_here; k_dflt (refine' nameX_L ?z176k1 ?z176k2 ?_ ?z176k3 ?z176k4; (case z176k1 => k_asm); (case z176k3 | z176k4 => rfl); (case z176k2 => first | exact rfl | assumption); k_whole))
  k_with "exec Try" => ((with_reducible show wpAny _ _ (exec (Stmt.Try _ (_ :: _) _ [] _) _) _ _ _); refine wpAny_Try_except ?_)
  k_with "noteFrame ref" => (k_here; walk_at "i16")
  k_with "bind" => ((with_reducible show wpAny _ _ (do bindName _ _ Value.none; unbindBehindTheSuite _ _ _) _ _ _); k_dflt (refine' name_goes_C ?z177F ?z177N ?_; (case z177F | z177N => k_asm); k_whole); walk_at "i17")
  k_with "call ref" => (k_here; (with_reducible show wpAny _ _ (call (Value.ref 340) _ _) _ _ _); refine Hold.out ?_)
  k_with "call ref" => (k_here; (with_reducible show wpAny _ _ (call (Value.ref 418) [Value.none, Value.ref _, Value.str (PySem.Str.ofString "b") _]) _ _ _); k_dflt (refine' settled_x (nl := 0) ?z178k1 ?z178k2 ?z178k3 ?z178k4 ?z178k5 ?z178k6 ?z178el ?z178k7 ?z178k8 ?_; (case z178k1 | z178k2 | z178k3 | z178k4 | z178k5 => k_asm); (case z178k6 => first | exact rfl | assumption); (case z178k7 => first | exact Nat.le_of_ble_eq_true rfl | ktr_room); (case z178k8 => first | exact Nat.le_of_ble_eq_true rfl | ktr_units); (case z178el => k_mem); k_whole); walk_at "i13")
  k_with "call type:str" => (k_here; (with_reducible show wpAny _ _ (call (Value.type "str") [Value.ref _]) _ _ _); k_dflt (refine' str_gotC ?z179U ?z179F ?z179X ?z179N ?z179G ?z179hs ?z179hm ?_; (case z179G | z179N => assumption); (case z179F | z179X => k_asm); (case z179hs | z179hm => k_is); (case z179U => first | units_room | k_room | ktr_units); k_whole))
  k_with "k_mem" => (first | with_reducible assumption | (refine aL0 ?_; with_reducible assumption) | (refine cC9 ?_; k_mem))
  k_with "execs cons" => (walk_at "i12"; refine Hold.out ?_)
  trivial
theorem lawC {w0 : World} {fa L : Addr} {cc : Value} {h₀ : Heap} {Q : Flow → Shared → Prop} {EX : Value → Shared → Prop} {m : Str → Option Value} {s : Shared} {md x1 d1 lu x2 d2 lv Df1 Df2 : Addr} {j11 j21 j31 j41 j51 j61 j12 j22 j32 j42 j52 j62 : Tok} {nm1 nm2 : Value} {omd oM : Obj} {z : NetP} {n n1 n2 ndl1 ndl2 cf1 cf2 ch1 ch2 : Nat} {f1 f2 : Rat} {hh : Int} {Dh1 Dh2 : Addr} {th1 th1' th2 th2' : Tok} {rest W : List (Addr × Obj)} {day : Int} {td tn tt tf1 tf1' tf2 tf2' : Tok} 
    (K0 : Below callerA h₀ [] h₀) (KX : (HD.K w0.params).In h₀) (T : Top p loose mean mg mb h₀) (F : Fr h₀ L s.heap m) (N : News h₀ L s.heap ((d1, meterD w0.params j11 j21 j31 j41 j51 nm1 (.int 5000 j61) (.ref Df1) (.ref lu) (.ref 56)) :: (lu, listOf ([] : List Value).toArray n1) :: (d2, meterD w0.params j12 j22 j32 j42 j52 nm2 (.int 5000 j62) (.ref Df2) (.ref lv) (.ref 56)) :: (lv, listOf ([] : List Value).toArray n2) :: rest)) (mC : (L + 1, oM) ∈ W) (qC : oM.data = .cell (some (.ref md)))
    (ex1 : (x1, instObj 393 d1) ∈ rest) (ex2 : (x2, instObj 393 d2) ∈ rest) (em : (md, omd) ∈ rest) (hWr : ∀ p ∈ W, p ∈ rest) (hWc : ∀ p ∈ W, NotTup p.2) (hnu : ∀ p ∈ [(z.net, instObj 312 z.dn), (z.dn, netDO w0.params z), (z.pd, z.opd), (z.pp, instObj 153 z.ppd), (z.ppd, pipDO w0.params z), (z.cd, z.ocd), (z.cu, instObj 181 z.cud), (z.cud, conDO w0.params z), (z.dl, listOf (List.replicate 24 (Value.ref Dh1)).toArray ndl1)], p ∈ W) (hnv : ∀ p ∈ [(z.net, instObj 312 z.dn), (z.dn, netDO w0.params z), (z.pd, z.opd), (z.pp, instObj 153 z.ppd), (z.ppd, pipDO w0.params z), (z.cd, z.ocd), (z.cv, instObj 181 z.cvd), (z.cvd, conDV w0.params z), (z.dv, listOf (List.replicate 24 (Value.ref Dh2)).toArray ndl2)], p ∈ W) (lpd : (z.pd == sysModules) = false) (hpd : z.opd.IsDictOf (PySem.strKind Challenge.rw_ui0509_16.row.prog w0) [(Str.ofString "p", Value.ref z.pp)]) (lcd : (z.cd == sysModules) = false) (hcd : z.ocd.IsDictOf (PySem.strKind Challenge.rw_ui0509_16.row.prog w0) [(Str.ofString "u", Value.ref z.cu), (Str.ofString "v", Value.ref z.cv)]) (lmd : (md == sysModules) = false) (hmd : omd.IsDictOf (PySem.strKind Challenge.rw_ui0509_16.row.prog w0) [(Str.ofString "u", Value.ref x1), (Str.ofString "v", Value.ref x2)])
    (mf1 : (Df1, RatO f1 tf1 tf1' cf1) ∈ rest) (mf2 : (Df2, RatO f2 tf2 tf2' cf2) ∈ rest) (mh1 : (Dh1, T2 hh 1 th1 th1' ch1) ∈ rest) (mh2 : (Dh2, T2 hh 1 th2 th2' ch2) ∈ rest) (hh0 : 1 ≤ hh) (hh1 : hh ≤ 40)
    (AA : ∀ p ∈ rest, p.1 ≠ d1 ∧ p.1 ≠ lu ∧ p.1 ≠ d2 ∧ p.1 ≠ lv) (nlu : lu ≠ d1) (nlv : lv ≠ d2) (n21 : d2 ≠ d1) (n2u : d2 ≠ lu) (nv1 : lv ≠ d1) (nvu : lv ≠ lu) (nx12 : x1 ≠ x2) (hN : Num16 (List.replicate 24 (hh : Rat)) f1 f2 n) (hday : 1 ≤ day) (hday2 : day ≤ 20) (hn1 : 1 ≤ n) (hn4 : n ≤ 4)
    (n_net : m (Str.ofString "net") = some (.ref z.net)) (n_day : m (Str.ofString "day") = some (.int day td)) (n_days : m (Str.ofString "days") = some (.int (n : Int) tn)) (n_told : m (Str.ofString "told") = some (.str (Str.ofString "") tt))
    (hE : PassesOwn (model Challenge.rw_ui0509_16.row.prog w0) (callerA.deeper (envOfC HD.dH.name HD.dH.scope L fa cc)) (envOfC HD.dH.name HD.dH.scope L fa cc) EX)
    (hend : ∀ (h' : Heap) (tk' : Nat) (m' : Str → Option Value), Fr h₀ L h' m' → Q (.ret (.bool true)) { s with heap := h', toks := tk' }) :
    wpAny (model Challenge.rw_ui0509_16.row.prog w0) (callerA.deeper (envOfC HD.dH.name HD.dH.scope L fa cc)) (execs (HD.fb45.1.drop 9) (envOfC HD.dH.name HD.dH.scope L fa cc)) Q EX s := by
  w_top off
  revert KX; k_fill; intro KX
  dsimp only [HD.dH, HD.fb45, HD.fs45, List.drop_succ_cons, List.drop_zero]
  have mC9 := hWr _ mC
  have hd100 : day + (n : Int) ≤ 100 := by omega
  k_steps
  change wpAny _ _ _ _ _ _
  have s4 : ∀ p ∈ rest, p ∈ ((d1, meterD w0.params j11 j21 j31 j41 j51 nm1 (.int 5000 j61) (.ref Df1) (.ref lu) (.ref 56)) :: (lu, listOf ([] : List Value).toArray n1) :: (d2, meterD w0.params j12 j22 j32 j42 j52 nm2 (.int 5000 j62) (.ref Df2) (.ref lv) (.ref 56)) :: (lv, listOf ([] : List Value).toArray n2) :: rest) := fun p hp => cC9 (cC9 (cC9 (cC9 hp)))
  have ef1x := N.get (s4 _ mf1)
  have ef2x := N.get (s4 _ mf2)
  have hdv1x : All2 (RatH s.heap) (List.replicate 24 (Value.ref Dh1)) (List.replicate 24 ((hh : Int) : Rat)) := all2_rep ⟨Dh1, _, _, _, rfl, N.get (s4 _ mh1)⟩ 24
  have hdv2x : All2 (RatH s.heap) (List.replicate 24 (Value.ref Dh2)) (List.replicate 24 ((hh : Int) : Rat)) := all2_rep ⟨Dh2, _, _, _, rfl, N.get (s4 _ mh2)⟩ 24
  have hdb : ∀ r ∈ List.replicate 24 ((hh : Int) : Rat), Bd 64 r := rep_bd (bd64 (by omega) (by omega))
  have hdl : (List.replicate 24 ((hh : Int) : Rat)).length = 24 := List.length_replicate
  refine' count_all (z := z) (n := n) (f1 := f1) (f2 := f2) (dvs1 := List.replicate 24 (Value.ref Dh1)) (dvs2 := List.replicate 24 (Value.ref Dh2)) (ds := List.replicate 24 (hh : Rat)) (rest := rest) (W := W) ?b1 ?b2 ?b3 ?b4 ?b5 ?b6 ex1 ex2 em hWr hWc hnu hnv lpd hpd lcd hcd lmd hmd ef1x ef2x hdv1x hdv2x hdb hdl AA nlu nlv n21 n2u nv1 nvu nx12 hN.ff1 hN.ne1 hN.l91 hN.fe1 hN.le1 hN.ff2 hN.ne2 hN.l92 hN.fe2 hN.le2 hday (by omega) hn1 (by omega) hN.hF1 ?hv ?k7 ?k8 ?hE9 ?hret9
  case b1 => k_asm
  case b2 => exact F
  case b3 => k_asm
  case b4 => exact N
  case b5 => k_asm
  case b6 => first | exact rfl | assumption
  case hv =>
    by_cases h2 : n ≤ 2
    · exact .inl ⟨h2, fun j hj => hN.hF2 j (by omega)⟩
    · exact .inr ⟨by omega, hN.hF2, hN.big, hN.den⟩
  case k7 => ktr_room
  case k8 => ktr_units
  case hE9 =>
    intro g e9 t9 u9 h9 tk9 hn3 Fg Ug R9
    have mkS : MarkW9 := .mk
    k_steps
    change wpAny _ _ _ _ _ _
    (rename MarkW9 => mkS)
    clear mkS
    iterate 1 walk1
    have mkS : MarkW9 := .mk
    k_steps
    change wpAny _ _ _ _ _ _
    (rename MarkW9 => mkS)
    clear mkS
    (rename News _ _ _ _ => N9)
    (rename Fr _ _ _ _ => F9)
    have NR : News h₀ L _ ((d1, meterD w0.params j11 j21 j31 j41 j51 nm1 (.int 5000 j61) (.ref Df1) (.ref lu) (.ref 56)) :: (lu, listOf ([] : List Value).toArray n1) :: (d2, meterD w0.params j12 j22 j32 j42 j52 nm2 (.int 5000 j62) (.ref Df2) (.ref lv) (.ref 56)) :: (lv, listOf ([] : List Value).toArray n2) :: (x1, instObj 393 d1) :: (x2, instObj 393 d2) :: (md, omd) :: W) := fun p hp => N9 p (cC9 (cC9 hp))
    exact lawR (ws1 := []) (ws2 := []) (q1 := []) (q2 := []) (ds := []) K0 KX T F9 NR (n7K mC) qC m6K m4K cS9 m1K m5K m2K m3K lmd hmd .nil rfl .nil rfl (by decide) (.inr ⟨hn3, rfl, rfl⟩) hday hday2 hn1 hn4 (by exact n_day) (by exact n_days) (by rfl) hE hend
  case hret9 =>
    intro Dr1 Dr2 nw1 nw2 ws1 ws2 tl Do h9 tk9 hn2 F9 N9 hw1 hw2
    clear F N hdv1x hdv2x ef1x ef2x
    have mkS : MarkW9 := .mk
    k_steps
    change wpAny _ _ _ _ _ _
    (rename MarkW9 => mkS)
    clear mkS
    (rename News _ _ _ _ => N9)
    (rename Fr _ _ _ _ => F9)
    exact lawR (ws1 := ws1) (ws2 := ws2) (q1 := ((day, 0, none) :: cRows 5000 day 0 0 (tot (List.replicate 24 ((hh : Int) : Rat)) / f1) n)) (q2 := ((day, 0, none) :: cRows 5000 day 0 0 (tot (List.replicate 24 ((hh : Int) : Rat)) / f2) n)) K0 KX T F9 N9 (cC9 (cC9 (cC9 (cC9 (aL0 (hWr _ mC)))))) qC (cC9 (cC9 (cC9 (cC9 (aL0 (em)))))) (cC9 (cC9 (cC9 (cC9 (aL0 (ex1)))))) cS9 m1K (cC9 (cC9 (cC9 (cC9 (aL0 (ex2)))))) m2K m3K lmd hmd (hw1.mono fun _ _ y => y.mono fun _ _ e => (cC9 (cC9 (cC9 (cC9 (aR0 e)))))) cRows_days (hw2.mono fun _ _ y => y.mono fun _ _ e => (cC9 (cC9 (cC9 (cC9 (aR0 e)))))) cRows_days (by rw [List.length_map, List.length_range]; omega) (.inl ⟨hn2, rfl, rfl⟩) hday hday2 hn1 hn4 (by exact n_day) (by exact n_days) (by exact n_told) hE hend
end
section
local macro_rules | `(tactic| k_lt $h:ident) => `(tactic| replace $h:ident := allLt_of $h)
theorem words35 : True := by
  k_with_none
  k_with "k_in" => (refine' in_of ?z4fF ?z4fX; (case z4fF | z4fX => k_asm))
  k_with "eval Name" => (k_here; k_dflt (refine' nameX_L ?z180k1 ?z180k2 ?_ ?z180k3 ?z180k4; (case z180k1 => k_asm); (case z180k3 | z180k4 => rfl); (case z180k2 => first | exact rfl | assumption); k_whole))
  k_with "k_all" => (with_reducible assumption)
  k_with "hat9" => (first | exact News.get (by k_asm) (by k_mem) | exact Fr.keep (by k_asm) _ _ (by with_reducible assumption) | exact Tk.get (by k_asm) (by k_asm) (by with_reducible assumption) (by walk_at "sx") | exact Frag.In.keeps (by k_asm) (Fr.keep (by k_asm)) _ _ (by k_is))
  k_with "bits_by_make" => (with_reducible assumption)
  k_with "call ref" => (k_here; (with_reducible show wpAny _ _ (call (Value.ref 72) [Value.int _ _, Value.int _ _]) _ _ _); k_dflt (refine' frac_use ?z181k1 ?z181k2 ?z181k3 ?z181k4 ?z181k5 ?z181k6 ?z181k7 ?z181k8 ?z181k9 ?z181k10 ?z181k11 ?z181k12 ?z181k13 ?_; (case z181k1 | z181k2 | z181k3 | z181k4 | z181k5 => k_asm); (case z181k6 => first | exact rfl | assumption); (case z181k7 => first | exact Nat.le_of_ble_eq_true rfl | ktr_room); (case z181k8 => first | exact Nat.le_of_ble_eq_true rfl | ktr_units); (case z181k10 | z181k11 => bits_by_make); (case z181k12 | z181k13 => decide); (case z181k9 => first | exact nzden _ | omega | ((try k_fmods); omega) | (refine nzmul ?_ ?_ <;> first | exact nzden _ | omega)); k_whole); walk_at "i9"; (try k_sweep))
  k_with "call ref" => (k_here; (with_reducible show wpAny _ _ (call (Value.ref 72) [Value.int _ _, Value.int 1 _]) _ _ _); k_dflt (refine' frac_one ?z182k1 ?z182k2 ?z182k3 ?z182k4 ?z182k5 ?z182k6 ?z182k7 ?z182k8 ?z182k10 ?z182k12 ?_; (case z182k1 | z182k2 | z182k3 | z182k4 | z182k5 => k_asm); (case z182k6 => first | exact rfl | assumption); (case z182k7 => first | exact Nat.le_of_ble_eq_true rfl | ktr_room); (case z182k8 => first | exact Nat.le_of_ble_eq_true rfl | ktr_units); (case z182k10 => bits_by_make); (case z182k12 => decide); k_whole); walk_at "i10"; (try k_sweep))
  k_with "call ref" => (k_here; (with_reducible show wpAny _ _ (call (Value.ref 72) [Value.int _ _]) _ _ _); k_dflt (refine' frac_dflt ?z183k1 ?z183k2 ?z183k3 ?z183k4 ?z183k5 ?z183k6 ?z183k7 ?z183k8 ?z183k10 ?z183k12 ?_; (case z183k1 | z183k2 | z183k3 | z183k4 | z183k5 => k_asm); (case z183k6 => first | exact rfl | assumption); (case z183k7 => first | exact Nat.le_of_ble_eq_true rfl | ktr_room); (case z183k8 => first | exact Nat.le_of_ble_eq_true rfl | ktr_units); (case z183k10 => bits_by_make); (case z183k12 => decide); k_whole); walk_at "i10"; (try k_sweep))
  k_with "call ref" => (k_here; (with_reducible show wpAny _ _ (call (Value.ref 72) [Value.int _ _, Value.int _ _]) _ _ _); refine Hold.out ?_)
  k_with "call ref" => (k_here; (with_reducible show wpAny _ _ (call (Value.ref 393) [Value.str _ _, Value.int _ _, Value.ref _]) _ _ _); refine Hold.out ?_)
  k_with "k_mem" => (first | with_reducible assumption | (refine aL0 ?_; with_reducible assumption) | (refine cC9 ?_; k_mem))
  k_with "execs cons" => (walk_at "i12"; refine Hold.out ?_)
  k_with "binaryOp FloorDiv int int" => (refine Hold.out ?_)
  trivial
theorem lawM {w0 : World} {fa L : Addr} {cc : Value} {h₀ : Heap} {Q : Flow → Shared → Prop} {EX : Value → Shared → Prop} {m : Str → Option Value} {s : Shared} {z : NetP} {n ndl1 ndl2 ch1 ch2 : Nat} {hh day : Int} {Dh1 Dh2 : Addr} {th td tn th1 th1' th2 th2' : Tok} {o0 : Obj} {R0 W0 : List (Addr × Obj)} 
    (K0 : Below callerA h₀ [] h₀) (KX : (HD.K w0.params).In h₀) (T : Top p loose mean mg mb h₀) (F : Fr h₀ L s.heap m) (N : News h₀ L s.heap ((L + 1, o0) :: R0))
    (q0 : o0.data = .cell none) (hW0 : ∀ p ∈ W0, p ∈ R0) (hWc0 : ∀ p ∈ W0, p.2.cls ≠ .type "tuple") (hnu : ∀ p ∈ [(z.net, instObj 312 z.dn), (z.dn, netDO w0.params z), (z.pd, z.opd), (z.pp, instObj 153 z.ppd), (z.ppd, pipDO w0.params z), (z.cd, z.ocd), (z.cu, instObj 181 z.cud), (z.cud, conDO w0.params z), (z.dl, listOf (List.replicate 24 (Value.ref Dh1)).toArray ndl1)], p ∈ W0) (hnv : ∀ p ∈ [(z.net, instObj 312 z.dn), (z.dn, netDO w0.params z), (z.pd, z.opd), (z.pp, instObj 153 z.ppd), (z.ppd, pipDO w0.params z), (z.cd, z.ocd), (z.cv, instObj 181 z.cvd), (z.cvd, conDV w0.params z), (z.dv, listOf (List.replicate 24 (Value.ref Dh2)).toArray ndl2)], p ∈ W0) (lpd : (z.pd == sysModules) = false) (hpd : z.opd.IsDictOf (PySem.strKind Challenge.rw_ui0509_16.row.prog w0) [(Str.ofString "p", Value.ref z.pp)]) (lcd : (z.cd == sysModules) = false) (hcd : z.ocd.IsDictOf (PySem.strKind Challenge.rw_ui0509_16.row.prog w0) [(Str.ofString "u", Value.ref z.cu), (Str.ofString "v", Value.ref z.cv)]) (aR : ∀ p ∈ R0, p.1 ≠ L + 1) (mh1 : (Dh1, T2 hh 1 th1 th1' ch1) ∈ R0) (mh2 : (Dh2, T2 hh 1 th2 th2' ch2) ∈ R0) (hh0 : 1 ≤ hh) (hh1 : hh ≤ 40) (hday : 1 ≤ day) (hday2 : day ≤ 20) (hn1 : 1 ≤ n) (hn4 : n ≤ 4)
    (n_net : m (Str.ofString "net") = some (.ref z.net)) (n_heat : m (Str.ofString "heat") = some (.int hh th)) (n_day : m (Str.ofString "day") = some (.int day td)) (n_days : m (Str.ofString "days") = some (.int (n : Int) tn))
    (hE : PassesOwn (model Challenge.rw_ui0509_16.row.prog w0) (callerA.deeper (envOfC HD.dH.name HD.dH.scope L fa cc)) (envOfC HD.dH.name HD.dH.scope L fa cc) EX)
    (hend : ∀ (h' : Heap) (tk' : Nat) (m' : Str → Option Value), Fr h₀ L h' m' → Q (.ret (.bool true)) { s with heap := h', toks := tk' }) :
    wpAny (model Challenge.rw_ui0509_16.row.prog w0) (callerA.deeper (envOfC HD.dH.name HD.dH.scope L fa cc)) (execs (HD.fb45.1.drop 6) (envOfC HD.dH.name HD.dH.scope L fa cc)) Q EX s := by
  w_top off
  revert KX; k_fill; intro KX
  dsimp only [HD.dH, HD.fb45, HD.fs45, List.drop_succ_cons, List.drop_zero]
  have hPp := Pt_pos
  have m0 : IntMulOk 24 hh := mulOk_of_bits (PySem.intBits_le_64 (by omega) (by omega)) (PySem.intBits_le_64 (by omega) (by omega)) (by omega)
  have m1 : IntMulOk (24 * hh) Pt := mulOk_of_bits (PySem.intBits_le_64 (by omega) (by omega)) (bits_fits fitP) (by omega)
  have m2 : IntMulOk 400 Pt := mulOk_of_bits (PySem.intBits_le_64 (by omega) (by omega)) (bits_fits fitP) (by omega)
  k_steps
  change wpAny _ _ _ _ _ _
  refine floordiv_int (by decide) ?_ (Or.inl (PyProof.noPylong_of_log2 (by decide +kernel)))
  generalize hP9 : Int.fdiv _ 1000 = P9
  obtain rfl : P9 = Pt := hP9.symm.trans (by decide +kernel)
  clear hP9
  k_steps
  change wpAny _ _ _ _ _ _
  rename_i hA9 md hB9 oD lmd hdD lmD Df1 tf1 uf1 cf1 hq1 tkq1 FQ1 NQ1 lQ1
  k_dflt (refine' meter_new_m (n1 := 64) (n2 := 64) (r := ((7 : Int) : Rat)) ?k1_u1 ?k2_u1 ?k3_u1 ?k4_u1 ?k5_u1 ?k6_u1 ?e1_u1 ?k7_u1 ?k8_u1 ?h1_u1 ?b1_u1 ?b2_u1 ?z1_u1 ?z2_u1 ?hT_u1 ?hT2_u1 ?_)
  case k1_u1 | k2_u1 | k3_u1 | k4_u1 | k5_u1 => k_asm
  case k6_u1 => first | exact rfl | assumption
  case k7_u1 => ktr_room
  case k8_u1 => ktr_units
  case e1_u1 => exact cS9
  case h1_u1 | b1_u1 | b2_u1 | z1_u1 | z2_u1 | hT_u1 | hT2_u1 => decide
  intro x1 d1 lu p1 p2 p3 p4 p5 n1 h1 tk1 F1 N1 ndx1 nlx1 nld1 ax1 ad1 al1
  clear FQ1 NQ1
  k_steps
  change wpAny _ _ _ _ _ _
  k_dflt (refine' frac_c _ _ _ _ _ _ _ _ _ _ _ _ _ _ _ _ _ _ _ _ _ _ ?k1_u3 ?k2_u3 ?k3_u3 ?k4_u3 ?k5_u3 ?k6_u3 ?k7_u3 ?k8_u3 ?k9_u3 ?k10_u3 ?k11_u3 ?_)
  case k1_u3 | k2_u3 | k3_u3 | k4_u3 | k5_u3 => k_asm
  case k6_u3 => first | exact rfl | assumption
  case k7_u3 => ktr_room
  case k8_u3 => ktr_units
  case k9_u3 => omega
  case k10_u3 => exact fits24 (h := 24 * hh) (by omega) (by omega)
  case k11_u3 => exact fit1
  intro f2 Df2 tf2 uf2 cf2 h2 tk2 ef2 F2 N2 lF2
  replace lF2 := allLt_of lF2
  have hf2 : FitsR f2 := by rw [ef2]; exact fitsFV (h := 24 * hh) (by omega) (by omega)
  have hf2p : 0 < f2.num := by rw [ef2]; exact fv_pos (h := 24 * hh) (by omega)
  clear F1 N1
  k_steps
  change wpAny _ _ _ _ _ _
  k_dflt (refine' meter_newF_n (r := f2) ?k1_u2 ?k2_u2 ?k3_u2 ?k4_u2 ?k5_u2 ?k6_u2 ?e1_u2 ?k7_u2 ?k8_u2 ?h1_u2 ?b1_u2 ?b2_u2 ?hT_u2 ?hT2_u2 ?_)
  case k1_u2 | k2_u2 | k3_u2 | k4_u2 | k5_u2 => k_asm
  case k6_u2 => first | exact rfl | assumption
  case k7_u2 => ktr_room
  case k8_u2 => ktr_units
  case e1_u2 => exact cS9
  case h1_u2 => exact hf2p
  case b1_u2 => exact hf2.num
  case b2_u2 => exact hf2.den
  case hT_u2 | hT2_u2 => decide
  intro x2 d2 lv q1 q2 q3 q4 q5 n2 h3 tk3 F3 N3 ndx2 nlx2 nld2 ax2 ad2 al2
  clear F2 N2
  k_steps
  obtain ⟨RB, eRB⟩ : ∃ RB, RB = (d1, meterD w0.params p1 p2 p3 p4 p5 (.str (Str.ofString "m") (s.toks + 1 + 1 + 1 + 1)) (.int 5000 (s.toks + 1 + 1 + 1 + 1 + 1)) (.ref Df1) (.ref lu) (.ref 56)) :: (lu, listOf ([] : List Value).toArray n1) :: (d2, meterD w0.params q1 q2 q3 q4 q5 (.str (Str.ofString "n") (tk1 + 1)) (.int 5000 (tk1 + 1 + 1)) (.ref Df2) (.ref lv) (.ref 56)) :: (lv, listOf ([] : List Value).toArray n2) :: (x1, instObj 393 d1) :: (x2, instObj 393 d2) :: (Df1, RatO ((7 : Int) : Rat) tf1 uf1 cf1) :: (Df2, RatO f2 tf2 uf2 cf2) :: R0 := ⟨_, rfl⟩
  have NK : News h₀ L h3 ((md, oD) :: (L + 1, o0) :: RB) := by
    rw [eRB]
    exact fun p hp => N3 p ((fcons m8K (fcons m9K (fcons m5K (fcons m6K (fcons m1K (fcons m2K (fcons m4K (fcons cS9 (fcons m7K (fcons m3K (fun p hp => (n10K hp))))))))))) : ∀ p ∈ (md, oD) :: (L + 1, o0) :: (d1, meterD w0.params p1 p2 p3 p4 p5 (.str (Str.ofString "m") (s.toks + 1 + 1 + 1 + 1)) (.int 5000 (s.toks + 1 + 1 + 1 + 1 + 1)) (.ref Df1) (.ref lu) (.ref 56)) :: (lu, listOf ([] : List Value).toArray n1) :: (d2, meterD w0.params q1 q2 q3 q4 q5 (.str (Str.ofString "n") (tk1 + 1)) (.int 5000 (tk1 + 1 + 1)) (.ref Df2) (.ref lv) (.ref 56)) :: (lv, listOf ([] : List Value).toArray n2) :: (x1, instObj 393 d1) :: (x2, instObj 393 d2) :: (Df1, RatO ((7 : Int) : Rat) tf1 uf1 cf1) :: (Df2, RatO f2 tf2 uf2 cf2) :: R0, p ∈ _) p hp)
  have aMd : ∀ p ∈ (L + 1, o0) :: RB, p.1 ≠ md := by
    rw [eRB]
    exact fcons (apLt lmD cS9) (fcons ((ad1 _ m1K).symm) (fcons ((al1 _ m1K).symm) (fcons ((ad2 _ m5K).symm) (fcons ((al2 _ m5K).symm) (fcons ((ax1 _ m1K).symm) (fcons ((ax2 _ m5K).symm) (fcons ((apLt lQ1 cS9).symm) (fcons ((apLt lF2 m4K).symm) (fun p hp => allLt_mem lmD p (cC9 hp))))))))))
  have aL9 : ∀ p ∈ (md, oD) :: RB, p.1 ≠ L + 1 := by
    rw [eRB]
    exact fcons ((apLt lmD cS9).symm) (fcons ((ad1 _ m2K).symm) (fcons ((al1 _ m2K).symm) (fcons ((ad2 _ m6K).symm) (fcons ((al2 _ m6K).symm) (fcons ((ax1 _ m2K).symm) (fcons ((ax2 _ m6K).symm) (fcons ((apLt lQ1 m1K).symm) (fcons ((apLt lF2 m5K).symm) aR))))))))
  clear N3
  k_dflt (refine' kdn_made_str F3 NK (.head aMd) hdD ?kk ?kn ?_)
  case kk => rfl
  case kn => exact of_decide_eq_true (by first | rfl | kernel_rfl!)
  intro h4 omd F4 N4 hmd
  clear F3 NK
  (try dsimp only at N4)
  have aL : ∀ p ∈ (md, omd) :: RB, p.1 ≠ L + 1 := fcons (aL9 (md, oD) cS9) (fun p hp => aL9 p (cC9 hp))
  have N5 : News h₀ L h4 ((L + 1, o0) :: (md, omd) :: RB) := fun p hp => N4 p ((fcons m1K (fcons cS9 (fun p hp => (n2K hp))) : ∀ p ∈ (L + 1, o0) :: (md, omd) :: RB, p ∈ _) p hp)
  clear N4 aL9
  have mkS : MarkW9 := .mk
  k_steps
  change wpAny _ _ _ _ _ _
  (rename MarkW9 => mkS)
  clear mkS
  iterate 2 walk1
  have mkS : MarkW9 := .mk
  k_steps
  change wpAny _ _ _ _ _ _
  (rename MarkW9 => mkS)
  clear mkS
  (rename Fr _ _ _ _ => F6)
  (rename News _ _ _ _ => N6)
  (rename _ = Data.cell (some _) => qM9)
  rename_i hZ9 oM9 aZ9 hY9 lZ9 hX9 hW9 hV9
  rw [eRB] at N6
  exact lawC (hh := hh) (f1 := ((7 : Int) : Rat)) (f2 := f2) (W := (L + 1, oM9) :: W0) (rest := (L + 1, oM9) :: (md, omd) :: (x1, instObj 393 d1) :: (x2, instObj 393 d2) :: (Df1, RatO ((7 : Int) : Rat) tf1 uf1 cf1) :: (Df2, RatO f2 tf2 uf2 cf2) :: R0) K0 KX T F6 (fun p hp => N6 p ((fcons m3K (fcons m4K (fcons m5K (fcons m6K (fcons m1K (fcons m2K (fcons m7K (fcons m8K (fcons m9K (fcons m10K (fun p hp => (n11K hp))))))))))) : ∀ p ∈ _, p ∈ _) p hp)) cS9 qM9
    m2K m3K m1K (fcons cS9 (fun p hp => (cC9 (cC9 (cC9 (cC9 (cC9 (cC9 (hW0 p hp))))))))) (fcons (.inr ⟨_, qM9⟩) (fun p hp => .inl (hWc0 p hp))) (fun p hp => cC9 (hnu p hp)) (fun p hp => cC9 (hnv p hp)) lpd hpd lcd hcd lmd hmd
    m4K m5K (n6K mh1) (n6K mh2) hh0 hh1 (fcons (⟨(ad1 (L + 1, o0) m2K), (al1 (L + 1, o0) m2K), (ad2 (L + 1, o0) m6K), (al2 (L + 1, o0) m6K)⟩) (fcons (⟨(ad1 (md, oD) m1K), (al1 (md, oD) m1K), (ad2 (md, oD) m5K), (al2 (md, oD) m5K)⟩) (fcons (⟨ndx1.symm, nlx1.symm, (ad2 _ m1K), (al2 _ m1K)⟩) (fcons (⟨(ax2 _ m2K).symm, (ax2 _ m3K).symm, ndx2.symm, nlx2.symm⟩) (fcons (⟨(ad1 _ cS9), (al1 _ cS9), (ad2 _ m4K), (al2 _ m4K)⟩) (fcons (⟨(apLt lF2 m1K).symm, (apLt lF2 m2K).symm, (ad2 _ cS9), (al2 _ cS9)⟩) (fun p hp => ⟨ad1 p (n3K hp), al1 p (n3K hp), ad2 p (n7K hp), al2 p (n7K hp)⟩)))))))
    nld1 nld2 (ad2 _ m2K).symm (ad2 _ m3K).symm (al2 _ m2K).symm (al2 _ m3K).symm (ax2 _ m1K) (num16 hh0 hh1 hn4 ef2) hday hday2 hn1 hn4 (by exact n_net) (by exact n_day) (by exact n_days) (by rfl) hE hend
end
end Mine
open Mine
local macro_rules | `(tactic| walk_at "i18") => `(tactic| (intro nj' h' tk' F' N'))
local macro_rules | `(tactic| walk_at "i19") => `(tactic| ((rename MarkQ => mkS)))
namespace Mine
section
local macro_rules | `(tactic| k_lt $h:ident) => `(tactic| replace $h:ident := allLt_of $h)
theorem words36 : True := by
  k_with_none
  k_with "k_in" => (refine' in_of ?z4fF ?z4fX; (case z4fF | z4fX => k_asm))
  k_with "eval Name" => (k_here; k_dflt (refine' nameX_L ?z184k1 ?z184k2 ?_ ?z184k3 ?z184k4; (case z184k1 => k_asm); (case z184k3 | z184k4 => rfl); (case z184k2 => first | exact rfl | assumption); k_whole))
  k_with "hat9" => (first | exact News.get (by k_asm) (by k_mem) | exact Fr.keep (by k_asm) _ _ (by with_reducible assumption) | exact Tk.get (by k_asm) (by k_asm) (by with_reducible assumption) (by walk_at "sx") | exact Frag.In.keeps (by k_asm) (Fr.keep (by k_asm)) _ _ (by k_is))
  k_with "bits_by_make" => (with_reducible assumption)
  k_with "call ref" => (k_here; (with_reducible show wpAny _ _ (call (Value.ref 72) [Value.int _ _, Value.int _ _]) _ _ _); k_dflt (refine' frac_use ?z185k1 ?z185k2 ?z185k3 ?z185k4 ?z185k5 ?z185k6 ?z185k7 ?z185k8 ?z185k9 ?z185k10 ?z185k11 ?z185k12 ?z185k13 ?_; (case z185k1 | z185k2 | z185k3 | z185k4 | z185k5 => k_asm); (case z185k6 => first | exact rfl | assumption); (case z185k7 => first | exact Nat.le_of_ble_eq_true rfl | ktr_room); (case z185k8 => first | exact Nat.le_of_ble_eq_true rfl | ktr_units); (case z185k10 | z185k11 => bits_by_make); (case z185k12 | z185k13 => decide); (case z185k9 => first | exact nzden _ | omega | ((try k_fmods); omega) | (refine nzmul ?_ ?_ <;> first | exact nzden _ | omega)); k_whole); walk_at "i9"; (try k_sweep))
  k_with "call ref" => (k_here; (with_reducible show wpAny _ _ (call (Value.ref 72) [Value.int _ _, Value.int 1 _]) _ _ _); k_dflt (refine' frac_one ?z186k1 ?z186k2 ?z186k3 ?z186k4 ?z186k5 ?z186k6 ?z186k7 ?z186k8 ?z186k10 ?z186k12 ?_; (case z186k1 | z186k2 | z186k3 | z186k4 | z186k5 => k_asm); (case z186k6 => first | exact rfl | assumption); (case z186k7 => first | exact Nat.le_of_ble_eq_true rfl | ktr_room); (case z186k8 => first | exact Nat.le_of_ble_eq_true rfl | ktr_units); (case z186k10 => bits_by_make); (case z186k12 => decide); k_whole); walk_at "i10"; (try k_sweep))
  k_with "call ref" => (k_here; (with_reducible show wpAny _ _ (call (Value.ref 72) [Value.int _ _]) _ _ _); k_dflt (refine' frac_dflt ?z187k1 ?z187k2 ?z187k3 ?z187k4 ?z187k5 ?z187k6 ?z187k7 ?z187k8 ?z187k10 ?z187k12 ?_; (case z187k1 | z187k2 | z187k3 | z187k4 | z187k5 => k_asm); (case z187k6 => first | exact rfl | assumption); (case z187k7 => first | exact Nat.le_of_ble_eq_true rfl | ktr_room); (case z187k8 => first | exact Nat.le_of_ble_eq_true rfl | ktr_units); (case z187k10 => bits_by_make); (case z187k12 => decide); k_whole); walk_at "i10"; (try k_sweep))
  k_with "k_ne" => (refine neN ?_; (try dsimp only); first | with_reducible assumption | exact Ne.symm (by with_reducible assumption) | exact apL (by with_reducible assumption) (by k_mem) | exact (apL (by with_reducible assumption) (by k_mem)).symm | exact apLt (by with_reducible assumption) (by k_mem) | exact (apLt (by with_reducible assumption) (by k_mem)).symm)
  k_with "k_all" => (first | with_reducible assumption | exact List.forall_mem_nil _ | (refine fcons (?_) (?_) <;> first | k_ne | k_all) | exact allLt_mem (by with_reducible assumption))
  k_with "call ref" => (k_here; (with_reducible show wpAny _ _ (call (Value.ref 41) [Value.int _ _, Value.int _ _, Value.int _ _, Value.str _ _]) _ _ _); k_dflt (refine' need_number_c ?z188k1 ?z188k2 ?z188k3 ?z188k4 ?z188k5 ?z188k6 ?z188h1 ?z188h2 ?z188k7 ?_; (case z188k1 | z188k2 | z188k3 | z188k4 | z188k5 => k_asm); (case z188k6 => first | exact rfl | assumption); (case z188k7 => first | exact Nat.le_of_ble_eq_true rfl | ktr_room); (case z188h1 | z188h2 => first | decide | assumption | omega); k_whole); walk_at "i3"; (try k_sweep))
  k_with "call ref" => (k_here; (with_reducible show wpAny _ _ (call (Value.ref 55) [Value.str (PySem.Str.ofString "a") _]) _ _ _); k_dflt (refine' need_name_a ?z189k1 ?z189k2 ?z189k3 ?z189k4 ?z189k5 ?z189k6 ?z189k7 ?_; (case z189k1 | z189k2 | z189k3 | z189k4 | z189k5 => k_asm); (case z189k6 => first | exact rfl | assumption); (case z189k7 => first | exact Nat.le_of_ble_eq_true rfl | ktr_room); k_whole); walk_at "i3"; (try k_sweep))
  k_with "call ref" => (k_here; (with_reducible show wpAny _ _ (call (Value.ref 55) [Value.str (PySem.Str.ofString "b") _]) _ _ _); k_dflt (refine' need_name_b ?z190k1 ?z190k2 ?z190k3 ?z190k4 ?z190k5 ?z190k6 ?z190k7 ?_; (case z190k1 | z190k2 | z190k3 | z190k4 | z190k5 => k_asm); (case z190k6 => first | exact rfl | assumption); (case z190k7 => first | exact Nat.le_of_ble_eq_true rfl | ktr_room); k_whole); walk_at "i3"; (try k_sweep))
  k_with "call ref" => (k_here; (with_reducible show wpAny _ _ (call (Value.ref 55) [Value.str (PySem.Str.ofString "p") _]) _ _ _); k_dflt (refine' need_name_p ?z191k1 ?z191k2 ?z191k3 ?z191k4 ?z191k5 ?z191k6 ?z191k7 ?_; (case z191k1 | z191k2 | z191k3 | z191k4 | z191k5 => k_asm); (case z191k6 => first | exact rfl | assumption); (case z191k7 => first | exact Nat.le_of_ble_eq_true rfl | ktr_room); k_whole); walk_at "i3"; (try k_sweep))
  k_with "call ref" => (k_here; (with_reducible show wpAny _ _ (call (Value.ref 55) [Value.str (PySem.Str.ofString "u") _]) _ _ _); k_dflt (refine' need_name_u ?z192k1 ?z192k2 ?z192k3 ?z192k4 ?z192k5 ?z192k6 ?z192k7 ?_; (case z192k1 | z192k2 | z192k3 | z192k4 | z192k5 => k_asm); (case z192k6 => first | exact rfl | assumption); (case z192k7 => first | exact Nat.le_of_ble_eq_true rfl | ktr_room); k_whole); walk_at "i3"; (try k_sweep))
  k_with "call ref" => (k_here; (with_reducible show wpAny _ _ (call (Value.ref 55) [Value.str (PySem.Str.ofString "v") _]) _ _ _); k_dflt (refine' need_name_v ?z193k1 ?z193k2 ?z193k3 ?z193k4 ?z193k5 ?z193k6 ?z193k7 ?_; (case z193k1 | z193k2 | z193k3 | z193k4 | z193k5 => k_asm); (case z193k6 => first | exact rfl | assumption); (case z193k7 => first | exact Nat.le_of_ble_eq_true rfl | ktr_room); k_whole); walk_at "i3"; (try k_sweep))
  k_with "call ref" => (k_here; (with_reducible show wpAny _ _ (call (Value.ref 312) _ _) _ _ _); refine Hold.out ?_)
  k_with "call ref" => (k_here; (with_reducible show wpAny _ _ (call (Value.ref 228) _ _) _ _ _); refine Hold.out ?_)
  k_with "call ref" => (k_here; (with_reducible show wpAny _ _ (call (Value.ref 243) _ _) _ _ _); refine Hold.out ?_)
  k_with "call ref" => (k_here; (with_reducible show wpAny _ _ (call (Value.ref 214) [Value.ref _, Value.str (PySem.Str.ofString "a") _]) _ _ _); k_dflt (refine' jointU_a ?z194k1 ?z194k2 ?z194k3 ?z194k4 ?z194k5 ?z194k6 ?z194ex ?z194U2 ?z194U1 ?z194n1 ?z194n2 ?z194n3 ?z194k7 ?z194k8 ?_; (case z194k1 | z194k2 | z194k3 | z194k4 | z194k5 => k_asm); (case z194k6 => first | exact rfl | assumption); (case z194k7 => first | exact Nat.le_of_ble_eq_true rfl | ktr_room); (case z194k8 => first | exact Nat.le_of_ble_eq_true rfl | ktr_units); (case z194ex => k_mem); (case z194U2 => k_upd); (case z194U1 => k_updF); (case z194n1 | z194n2 | z194n3 => assumption); k_whole); walk_at "i18"; (try k_sweep))
  k_with "call ref" => (k_here; (with_reducible show wpAny _ _ (call (Value.ref 214) [Value.ref _, Value.str (PySem.Str.ofString "b") _]) _ _ _); k_dflt (refine' jointU_b ?z195k1 ?z195k2 ?z195k3 ?z195k4 ?z195k5 ?z195k6 ?z195ex ?z195U2 ?z195U1 ?z195n1 ?z195n2 ?z195n3 ?z195k7 ?z195k8 ?_; (case z195k1 | z195k2 | z195k3 | z195k4 | z195k5 => k_asm); (case z195k6 => first | exact rfl | assumption); (case z195k7 => first | exact Nat.le_of_ble_eq_true rfl | ktr_room); (case z195k8 => first | exact Nat.le_of_ble_eq_true rfl | ktr_units); (case z195ex => k_mem); (case z195U2 => k_upd); (case z195U1 => k_updF); (case z195n1 | z195n2 | z195n3 => assumption); k_whole); walk_at "i18"; (try k_sweep))
  k_with "execs cons" => (walk_at "i19"; refine Hold.out ?_)
  trivial
theorem lawA {w0 : World} {fa L : Addr} {cc : Value} {h₀ : Heap} {Q : Flow → Shared → Prop} {EX : Value → Shared → Prop} {m : Str → Option Value} {s : Shared} {o0 : Obj} 
    (K0 : Below callerA h₀ [] h₀) (KX : (HD.K w0.params).In h₀) (T : Top p loose mean mg mb h₀) (F : Fr h₀ L s.heap m) (N : News h₀ L s.heap [(L + 1, o0)])
    (hE : PassesOwn (model Challenge.rw_ui0509_16.row.prog w0) (callerA.deeper (envOfC HD.dH.name HD.dH.scope L fa cc)) (envOfC HD.dH.name HD.dH.scope L fa cc) EX)
    (hend : ∀ {x d jl pd cd bd pp ppd D1 D2 D3 : Addr} {k0 k1 k2 k3 k4 k5 t1 t2 u0 u1 u2 u3 b0 b1 b2 b3 b4 b5 b6 b7 : Tok} {gr : Value} {nj : Nat} {opd ocd : Obj} {ln : Int} {R : List (Addr × Obj)} (h' : Heap) (tk' : Nat) (m' : Str → Option Value), Fr h₀ L h' m' → m' (Str.ofString "net") = some (.ref x) → m' (Str.ofString "script") = m (Str.ofString "script") → News h₀ L h' ((x, instObj 312 d) :: (d, dN9 w0.params k0 k1 k2 k3 k4 k5 gr (.ref jl) (.str (Str.ofString "a") t1) (.ref pd) (.ref cd) (.ref bd)) :: (jl, listOf [.str (Str.ofString "a") t1, .str (Str.ofString "b") t2].toArray nj) :: (cd, ocd) :: R) → (d ≠ x) → (jl ≠ x) → (jl ≠ d) → (cd ≠ x) → (cd ≠ d) → (cd ≠ jl) → ((pd, opd) ∈ R) → ((pp, instObj 153 ppd) ∈ R) → ((ppd, dP9 w0.params b0 b1 b2 b3 b4 b5 b6 b7 (.str (Str.ofString "p") u0) (.str (Str.ofString "a") u1) (.str (Str.ofString "b") u2) (.int ln u3) (.ref D1) (.ref D2) (.ref D3) (.bool true)) ∈ R) → ((L + 1, o0) ∈ R) → (∀ p ∈ R, p.1 ≠ x) → (∀ p ∈ R, p.1 ≠ d) → (∀ p ∈ R, p.1 ≠ jl) → (∀ p ∈ R, p.1 ≠ cd) → ((pd == sysModules) = false) → (opd.IsDictOf (PySem.strKind Challenge.rw_ui0509_16.row.prog w0) [(Str.ofString "p", .ref pp)]) → ((cd == sysModules) = false) → (ocd.IsDictOf (PySem.strKind Challenge.rw_ui0509_16.row.prog w0) []) → wpAny (model Challenge.rw_ui0509_16.row.prog w0) (callerA.deeper (envOfC HD.dH.name HD.dH.scope L fa cc)) (execs (HD.fb45.1.drop 4) (envOfC HD.dH.name HD.dH.scope L fa cc)) Q EX { s with heap := h', toks := tk' }) :
    wpAny (model Challenge.rw_ui0509_16.row.prog w0) (callerA.deeper (envOfC HD.dH.name HD.dH.scope L fa cc)) (execs (HD.fb45.1.drop 1) (envOfC HD.dH.name HD.dH.scope L fa cc)) Q EX s := by
  w_top off
  revert KX; k_fill; intro KX
  dsimp only [HD.dH, HD.fb45, HD.fs45, List.drop_succ_cons, List.drop_zero]
  have mkS : MarkQ := .mk
  k_steps
  change wpAny _ _ _ _ _ _
  k_dflt (refine' net_new ?k1_u14 ?k2_u14 ?k3_u14 ?k4_u14 ?k5_u14 ?k6_u14 ?k7_u14 ?k8_u14 ?_)
  case k1_u14 | k2_u14 | k3_u14 | k4_u14 | k5_u14 => k_asm
  case k6_u14 => first | exact rfl | assumption
  case k7_u14 => ktr_room
  case k8_u14 => ktr_units
  intro x d jl pd cd bd k0 k1 k2 k3 k4 k5 gr nj0 opd0 ocd obd h1 tk1 F1 N1 lpd hpd0 lcd hcd ldx lxj ljp lpc lcb lnd
  have l0d : @LT.lt Nat _ (L + 1) d := lnd (L + 1, o0) cS9
  have ndx : d ≠ x := Nat.ne_of_lt ldx
  have njx : jl ≠ x := (Nat.ne_of_lt lxj).symm
  have njd : jl ≠ d := (Nat.ne_of_lt (Nat.lt_trans ldx lxj)).symm
  clear lnd mkS
  k_steps
  unfold Hold
  rename_i D1 v1 v1' c1 h6 tk6 l6 D2 v2 v2' c2 h7 tk7 l7 D3 v3 v3' c3 h8 tk8 F8 N8 l8
  clear l6 l7 l8
  obtain ⟨_, e9, N9⟩ := news_as N8 (l := (x, instObj 312 d) :: (d, _) :: (jl, _) :: (pd, opd0) :: [(cd, ocd), (L + 1, o0)]) (fcons (by k_mem) (fcons (by k_mem) (fcons (by k_mem) (fcons (by k_mem) (fcons (by k_mem) (fcons (by k_mem) (List.forall_mem_nil _)))))))
  subst e9
  k_dflt (refine' add_pipe_c (rest := [(cd, ocd), (L + 1, o0)]) ?k1_u13 ?k2_u13 ?k3_u13 ?k4_u13 ?k5_u13 ?k6_u13 ?n1_u13 ?n2_u13 ?n3_u13 ?n4_u13 ?n5_u13 ?n6_u13 ?r1_u13 ?r2_u13 ?r3_u13 ?r4_u13 ?lp_u13 ?hp_u13 ?e1_u13 ?e2_u13 ?e3_u13 ?h1_u13 ?h2_u13 ?h3_u13 ?c1_u13 ?c2_u13 ?c3_u13 ?l1_u13 ?l2_u13 ?k7_u13 ?k8_u13 ?_)
  case k1_u13 | k2_u13 | k3_u13 | k4_u13 | k5_u13 => k_asm
  case k6_u13 => first | exact rfl | assumption
  case k7_u13 => ktr_room
  case k8_u13 => ktr_units
  case n1_u13 => exact ndx
  case n2_u13 => exact njx
  case n3_u13 => exact njd
  case n4_u13 => exact (Nat.ne_of_lt (Nat.lt_trans lxj ljp)).symm
  case n5_u13 => exact (Nat.ne_of_lt (Nat.lt_trans (Nat.lt_trans ldx lxj) ljp)).symm
  case n6_u13 => exact (Nat.ne_of_lt ljp).symm
  case r1_u13 => exact fcons ((Nat.ne_of_lt (Nat.lt_trans (Nat.lt_trans lxj ljp) lpc)).symm) (fcons (Nat.ne_of_lt (Nat.lt_trans l0d ldx)) (List.forall_mem_nil _))
  case r2_u13 => exact fcons ((Nat.ne_of_lt (Nat.lt_trans (Nat.lt_trans (Nat.lt_trans ldx lxj) ljp) lpc)).symm) (fcons (Nat.ne_of_lt l0d) (List.forall_mem_nil _))
  case r3_u13 => exact fcons ((Nat.ne_of_lt (Nat.lt_trans ljp lpc)).symm) (fcons (Nat.ne_of_lt (Nat.lt_trans (Nat.lt_trans l0d ldx) lxj)) (List.forall_mem_nil _))
  case r4_u13 => exact fcons ((Nat.ne_of_lt lpc).symm) (fcons (Nat.ne_of_lt (Nat.lt_trans (Nat.lt_trans (Nat.lt_trans l0d ldx) lxj) ljp)) (List.forall_mem_nil _))
  case lp_u13 => exact lpd
  case hp_u13 => exact hpd0
  case e1_u13 | e2_u13 | e3_u13 => exact N8.get (by k_mem)
  case h1_u13 | h2_u13 | h3_u13 | c1_u13 | c2_u13 | c3_u13 | l1_u13 | l2_u13 => decide
  intro opd pp ppd b0 b1 b2 b3 b4 b5 b6 b7 h9 tk9 F9 N10 hpd npp rpp rppd app appd
  clear N8 N9 F8
  have mkS : MarkQ := .mk
  k_steps
  change wpAny _ _ _ _ _ _
  (rename MarkQ => mkS)
  clear mkS
  (rename News _ _ _ _ => NT)
  (rename Fr _ _ _ _ => FT)
  obtain ⟨_, e9, NZ⟩ := news_as NT (l := (x, instObj 312 d) :: (d, _) :: (jl, _) :: (cd, ocd) :: [(pd, opd), (pp, instObj 153 ppd), (ppd, _), (L + 1, o0)]) (fcons (by k_mem) (fcons (by k_mem) (fcons (by k_mem) (fcons (by k_mem) (fcons (by k_mem) (fcons (by k_mem) (fcons (by k_mem) (fcons (by k_mem) (List.forall_mem_nil _)))))))))
  subst e9
  refine' hend _ _ _ FT (by rfl) (by rfl) NZ ndx njx njd (Nat.ne_of_lt (Nat.lt_trans (Nat.lt_trans lxj ljp) lpc)).symm (Nat.ne_of_lt (Nat.lt_trans (Nat.lt_trans (Nat.lt_trans ldx lxj) ljp) lpc)).symm (Nat.ne_of_lt (Nat.lt_trans ljp lpc)).symm ?mp1 ?mp2 ?mp3 ?mp4 ?ax ?ad ?aj ?ac lpd hpd lcd hcd
  case mp1 | mp2 | mp3 | mp4 => k_mem
  case ax => exact fcons ((Nat.ne_of_lt (Nat.lt_trans lxj ljp)).symm) (fcons app.1.symm (fcons appd.1.symm (fcons (Nat.ne_of_lt (Nat.lt_trans l0d ldx)) (List.forall_mem_nil _))))
  case ad => exact fcons ((Nat.ne_of_lt (Nat.lt_trans (Nat.lt_trans ldx lxj) ljp)).symm) (fcons app.2.1.symm (fcons appd.2.1.symm (fcons (Nat.ne_of_lt l0d) (List.forall_mem_nil _))))
  case aj => exact fcons ((Nat.ne_of_lt ljp).symm) (fcons app.2.2.1.symm (fcons appd.2.2.1.symm (fcons (Nat.ne_of_lt (Nat.lt_trans (Nat.lt_trans l0d ldx) lxj)) (List.forall_mem_nil _))))
  case ac => exact fcons (Nat.ne_of_lt lpc) (fcons ((rpp _ cS9).symm) (fcons ((rppd _ cS9).symm) (fcons (Nat.ne_of_lt (Nat.lt_trans (Nat.lt_trans (Nat.lt_trans (Nat.lt_trans l0d ldx) lxj) ljp) lpc)) (List.forall_mem_nil _))))
end
section
theorem ne_cell {h₀ h : Heap} {L c : Addr} {o0 : Obj} {v0 : Option Value} {RA R0 : List (Addr × Obj)} (N : News h₀ L h RA) (mc : (c, o0) ∈ RA) (q0 : o0.data = .cell v0) (hs : ∀ p ∈ R0, p ∈ RA) (hd : ∀ p ∈ R0, ∀ v, p.2.data ≠ .cell v) : ∀ p ∈ R0, p.1 ≠ c := by
  intro p hp e
  have h1 := (N p (hs p hp)).1
  have h2 := (N _ mc).1
  rw [e, h2] at h1
  exact hd p hp v0 (by rw [← Option.some.inj h1]; exact q0)
theorem dict_nc {prog : Program} {w : World} {o : Obj} {kvs : List (Str × Value)} (hd : o.IsDictOf (PySem.strKind prog w) kvs) : ∀ v, o.data ≠ .cell v := by
  obtain ⟨es, ep, he, hdat, _⟩ := hd
  intro v h
  rw [hdat] at h
  cases h
theorem news_tl {h₀ h : Heap} {L : Addr} {p : Addr × Obj} {l : List (Addr × Obj)} (N : News h₀ L h (p :: l)) : News h₀ L h l := fun q hq => N q (cC9 hq)
local macro_rules | `(tactic| k_lt $h:ident) => `(tactic| replace $h:ident := allLt_of $h)
theorem words37 : True := by
  k_with_none
  k_with "k_in" => (refine' in_of ?z4fF ?z4fX; (case z4fF | z4fX => k_asm))
  k_with "UnrEnd" => (refine Hold.out ?_)
  k_with "eval Name" => (k_here; k_dflt (refine' nameX_L ?z196k1 ?z196k2 ?_ ?z196k3 ?z196k4; (case z196k1 => k_asm); (case z196k3 | z196k4 => rfl); (case z196k2 => first | exact rfl | assumption); k_whole))
  k_with "hat9" => (first | exact News.get (by k_asm) (by k_mem) | exact Fr.keep (by k_asm) _ _ (by with_reducible assumption) | exact Tk.get (by k_asm) (by k_asm) (by with_reducible assumption) (by walk_at "sx") | exact Frag.In.keeps (by k_asm) (Fr.keep (by k_asm)) _ _ (by k_is))
  k_with "bits_by_make" => (with_reducible assumption)
  k_with "binaryOp Mod int int" => (k_here; (with_reducible refine mod_gen ?z197mp ?_); (case z197mp => decide); walk_at "i11")
  k_with "call ref" => (k_here; (with_reducible show wpAny _ _ (call (Value.ref 72) [Value.int _ _, Value.int _ _]) _ _ _); k_dflt (refine' frac_use ?z198k1 ?z198k2 ?z198k3 ?z198k4 ?z198k5 ?z198k6 ?z198k7 ?z198k8 ?z198k9 ?z198k10 ?z198k11 ?z198k12 ?z198k13 ?_; (case z198k1 | z198k2 | z198k3 | z198k4 | z198k5 => k_asm); (case z198k6 => first | exact rfl | assumption); (case z198k7 => first | exact Nat.le_of_ble_eq_true rfl | ktr_room); (case z198k8 => first | exact Nat.le_of_ble_eq_true rfl | ktr_units); (case z198k10 | z198k11 => bits_by_make); (case z198k12 | z198k13 => decide); (case z198k9 => first | exact nzden _ | omega | ((try k_fmods); omega) | (refine nzmul ?_ ?_ <;> first | exact nzden _ | omega)); k_whole); walk_at "i9"; (try k_sweep))
  k_with "call ref" => (k_here; (with_reducible show wpAny _ _ (call (Value.ref 72) [Value.int _ _, Value.int 1 _]) _ _ _); k_dflt (refine' frac_one ?z199k1 ?z199k2 ?z199k3 ?z199k4 ?z199k5 ?z199k6 ?z199k7 ?z199k8 ?z199k10 ?z199k12 ?_; (case z199k1 | z199k2 | z199k3 | z199k4 | z199k5 => k_asm); (case z199k6 => first | exact rfl | assumption); (case z199k7 => first | exact Nat.le_of_ble_eq_true rfl | ktr_room); (case z199k8 => first | exact Nat.le_of_ble_eq_true rfl | ktr_units); (case z199k10 => bits_by_make); (case z199k12 => decide); k_whole); walk_at "i10"; (try k_sweep))
  k_with "call ref" => (k_here; (with_reducible show wpAny _ _ (call (Value.ref 72) [Value.int _ _]) _ _ _); k_dflt (refine' frac_dflt ?z200k1 ?z200k2 ?z200k3 ?z200k4 ?z200k5 ?z200k6 ?z200k7 ?z200k8 ?z200k10 ?z200k12 ?_; (case z200k1 | z200k2 | z200k3 | z200k4 | z200k5 => k_asm); (case z200k6 => first | exact rfl | assumption); (case z200k7 => first | exact Nat.le_of_ble_eq_true rfl | ktr_room); (case z200k8 => first | exact Nat.le_of_ble_eq_true rfl | ktr_units); (case z200k10 => bits_by_make); (case z200k12 => decide); k_whole); walk_at "i10"; (try k_sweep))
  k_with "k_ne" => (refine neN ?_; (try dsimp only); first | with_reducible assumption | exact Ne.symm (by with_reducible assumption) | exact apL (by with_reducible assumption) (by k_mem) | exact (apL (by with_reducible assumption) (by k_mem)).symm | exact apLt (by with_reducible assumption) (by k_mem) | exact (apLt (by with_reducible assumption) (by k_mem)).symm)
  k_with "k_all" => (first | with_reducible assumption | exact List.forall_mem_nil _ | (refine fcons (?_) (?_) <;> first | k_ne | k_all) | exact allLt_mem (by with_reducible assumption))
  k_with "call ref" => (k_here; (with_reducible show wpAny _ _ (call (Value.ref 243) _ _) _ _ _); refine Hold.out ?_)
  k_with "k_mem" => (first | with_reducible assumption | (refine aL0 ?_; with_reducible assumption) | (refine cC9 ?_; k_mem))
  k_with "execs cons" => (walk_at "i12"; refine Hold.out ?_)
  k_with "binaryOp Mult ref int" => (refine Hold.out ?_)
  trivial
theorem lawB {w0 : World} {fa L : Addr} {cc : Value} {h₀ : Heap} {Q : Flow → Shared → Prop} {EX : Value → Shared → Prop} {m : Str → Option Value} {s : Shared} {x d jl pd cd bd pp ppd D1 D2 D3 : Addr} {k0 k1 k2 k3 k4 k5 t1 t2 u0 u1 u2 u3 b0 b1 b2 b3 b4 b5 b6 b7 : Tok} {gr : Value} {nj : Nat} {opd ocd : Obj} {ln : Int} {R : List (Addr × Obj)} {o0 : Obj} {l0 : Addr} {vs0 : List Value} {ns0 : List Int} 
    (K0 : Below callerA h₀ [] h₀) (KX : (HD.K w0.params).In h₀) (T : Top p loose mean mg mb h₀) (F : Fr h₀ L s.heap m) (N : News h₀ L s.heap ((x, instObj 312 d) :: (d, dN9 w0.params k0 k1 k2 k3 k4 k5 gr (.ref jl) (.str (Str.ofString "a") t1) (.ref pd) (.ref cd) (.ref bd)) :: (jl, listOf [.str (Str.ofString "a") t1, .str (Str.ofString "b") t2].toArray nj) :: (cd, ocd) :: R)) (ndx : d ≠ x) (njx : jl ≠ x) (njd : jl ≠ d) (ncx : cd ≠ x) (ncd : cd ≠ d) (ncj : cd ≠ jl)
    (mpd : (pd, opd) ∈ R) (mpp : (pp, instObj 153 ppd) ∈ R) (mppd : (ppd, dP9 w0.params b0 b1 b2 b3 b4 b5 b6 b7 (.str (Str.ofString "p") u0) (.str (Str.ofString "a") u1) (.str (Str.ofString "b") u2) (.int ln u3) (.ref D1) (.ref D2) (.ref D3) (.bool true)) ∈ R) (mcell : (L + 1, o0) ∈ R) (aX : ∀ p ∈ R, p.1 ≠ x) (aD : ∀ p ∈ R, p.1 ≠ d) (aJ : ∀ p ∈ R, p.1 ≠ jl) (aC : ∀ p ∈ R, p.1 ≠ cd) (lpd : (pd == sysModules) = false) (hpd : opd.IsDictOf (PySem.strKind Challenge.rw_ui0509_16.row.prog w0) [(Str.ofString "p", .ref pp)]) (lcd : (cd == sysModules) = false) (hcd : ocd.IsDictOf (PySem.strKind Challenge.rw_ui0509_16.row.prog w0) []) (q0 : o0.data = .cell none) (hL0 : h₀.IsList l0 vs0.toArray) (hI0 : IntsAre vs0 ns0) (hns0 : ns0.length ≤ 63) (hns4 : 4 ≤ ns0.length)
    (n_net : m (Str.ofString "net") = some (.ref x)) (n_script : m (Str.ofString "script") = some (.ref l0))
    (hE : PassesOwn (model Challenge.rw_ui0509_16.row.prog w0) (callerA.deeper (envOfC HD.dH.name HD.dH.scope L fa cc)) (envOfC HD.dH.name HD.dH.scope L fa cc) EX)
    (hend : ∀ (h' : Heap) (tk' : Nat) (m' : Str → Option Value), Fr h₀ L h' m' → Q (.ret (.bool true)) { s with heap := h', toks := tk' }) :
    wpAny (model Challenge.rw_ui0509_16.row.prog w0) (callerA.deeper (envOfC HD.dH.name HD.dH.scope L fa cc)) (execs (HD.fb45.1.drop 4) (envOfC HD.dH.name HD.dH.scope L fa cc)) Q EX s := by
  w_top off
  revert KX; k_fill; intro KX
  dsimp only [HD.dH, HD.fb45, HD.fs45, List.drop_succ_cons, List.drop_zero]
  iterate 2 walk1
  have mkS : MarkW9 := .mk
  k_steps
  change wpAny _ _ _ _ _ _
  (rename MarkW9 => mkS)
  clear mkS
  rename_i ta vh hv0 hv1 hvE tb vd hd0 hd1 hdE tc vn hn0 hn1 hnE aT hT lT hA hB hC hD FT NT
  obtain ⟨mB, eB, FB⟩ := fr_name9 FT
  have n_heat := fr_at9 eB (Str.ofString "heat") _ (by rfl)
  have n_day := fr_at9 eB (Str.ofString "day") _ (by rfl)
  have n_days := fr_at9 eB (Str.ofString "days") _ (by rfl)
  have n_net2 := fr_at9 eB (Str.ofString "net") _ (by exact n_net)
  clear eB FT n_net n_script hvE hdE hnE
  obtain ⟨hh, ehh⟩ : ∃ hh : Int, hh = 1 + vh := ⟨_, rfl⟩
  obtain ⟨day, eday⟩ : ∃ day : Int, day = 1 + vd := ⟨_, rfl⟩
  obtain ⟨n, en⟩ : ∃ n : Nat, (n : Int) = 1 + vn := ⟨(1 + vn).toNat, by omega⟩
  rw [← ehh] at n_heat
  rw [← eday] at n_day
  rw [← en] at n_days
  have hh0 : 1 ≤ hh := by omega
  have hh1 : hh ≤ 40 := by omega
  have hda0 : 1 ≤ day := by omega
  have hda1 : day ≤ 20 := by omega
  have hnn0 : 1 ≤ n := by omega
  have hnn1 : n ≤ 4 := by omega
  clear ehh eday en hv0 hv1 hd0 hd1 hn0 hn1
  have NB := news_tl NT
  clear NT lT
  k_steps
  change wpAny _ _ _ _ _ _
  refine KMa.mul (vs := [_]) (ws := List.replicate 24 _) (by k_asm) (by k_asm) (by is_list) (by decide) (by decide) (by show 1 * Int.toNat 24 ≤ 256; decide) rfl ?_
  intro D9u h9u F9u N9u l9u
  replace l9u := allLt_of l9u
  k_steps
  change wpAny _ _ _ _ _ _
  rename_i Iu lIau uqu itu hEu tkEu FEu NEu Dhu thu tiu chu hGu tkGu lDhu lcu hHu lLcu D2u tdu teu cgu hJu tkJu FJu NJu lD2u
  have iN0 : Iu ≠ x := (apLt lIau cS9).symm
  have iN1 : Iu ≠ d := (apLt lIau m1K).symm
  have iN2 : Iu ≠ jl := (apLt lIau m2K).symm
  have iN3 : Iu ≠ cd := (apLt lIau m3K).symm
  have IR9 : ∀ p ∈ R, p.1 ≠ Iu := fun p hp => allLt_mem lIau p (n4K hp)
  have NKu : News h₀ L hJu ((x, instObj 312 d) :: (d, dN9 w0.params k0 k1 k2 k3 k4 k5 gr (.ref jl) (.str (Str.ofString "a") t1) (.ref pd) (.ref cd) (.ref bd)) :: (jl, listOf [.str (Str.ofString "a") t1, .str (Str.ofString "b") t2].toArray nj) :: (cd, ocd) :: (D9u, listOf (List.replicate 24 (Value.ref Dhu)).toArray 0) :: (D2u, T2 20 1 tdu teu cgu) :: (Dhu, T2 hh 1 thu tiu chu) :: (Iu, itu) :: R) := fun p hp => NJu p ((fcons m5K (fcons m6K (fcons m7K (fcons m8K (fcons m1K (fcons cS9 (fcons m3K (fcons m4K (fun p hp => (n9K hp))))))))) : ∀ p ∈ _, p ∈ _) p hp)
  k_dflt (refine' add_cons_u (rest := (D2u, T2 20 1 tdu teu cgu) :: (Dhu, T2 hh 1 thu tiu chu) :: (Iu, itu) :: R) (hv := hh) (n2 := 20) (Dh := Dhu) (D2 := D2u) (ocd := ocd) (KX9 := x) ?b1u FJu ?b3u NKu ?b5u ?b6u ndx njx njd ncx ncd ncj (apLt l9u m3K).symm (apLt l9u m4K).symm (apLt l9u m5K).symm (apLt l9u m6K).symm (fcons ((apLt lD2u m4K).symm) (fcons ((apLt lDhu m1K).symm) (fcons (iN0) aX))) (fcons ((apLt lD2u m5K).symm) (fcons ((apLt lDhu m2K).symm) (fcons (iN1) aD))) (fcons ((apLt lD2u m6K).symm) (fcons ((apLt lDhu m3K).symm) (fcons (iN2) aJ))) (fcons ((apLt lD2u m7K).symm) (fcons ((apLt lDhu m4K).symm) (fcons (iN3) aC))) (fcons ((apLt lD2u cS9).symm) (fcons (apLt l9u m1K) (fcons (apLt l9u m2K) (fun p hp => allLt_mem l9u p (n7K hp))))) lcd hcd (NKu.get m6K) (NKu.get m5K) (by omega) (by decide) (PySem.intBits_le_64 (by omega) (by omega)) (by decide) ?b7u ?b8u ?_)
  case b1u | b3u | b5u => k_asm
  case b6u => first | exact rfl | assumption
  case b7u => ktr_room
  case b8u => ktr_units
  intro ocdu cu cdu dlu bu0 bu1 bu2 bu3 bu4 nlu hUu tkUu FUu NUu hcdu gAu gRu
  clear NKu FJu NJu
  k_steps
  unfold Hold
  (rename Fr _ _ _ _ => FVu)
  (rename News _ _ _ _ => NVu)
  refine UnrEnd.intro FVu NVu ((x, instObj 312 d) :: (d, dN9 w0.params k0 k1 k2 k3 k4 k5 gr (.ref jl) (.str (Str.ofString "a") t1) (.ref pd) (.ref cd) (.ref bd)) :: (jl, listOf [.str (Str.ofString "a") t1, .str (Str.ofString "b") t2].toArray nj) :: (cd, ocdu) :: (cu, instObj 181 cdu) :: (cdu, dC9 w0.params bu0 bu1 bu2 bu3 bu4 (.str (Str.ofString "u") _) (.str (Str.ofString "b") _) (.ref dlu) (.ref D2u) (.ref 56)) :: (dlu, listOf (List.replicate 24 (Value.ref Dhu)).toArray nlu) :: (D2u, T2 20 1 tdu teu cgu) :: (Dhu, T2 hh 1 thu tiu chu) :: R) (fcons m10K (fcons cS9 (fcons m1K (fcons m2K (fcons m3K (fcons m5K (fcons m6K (fcons m7K (fcons m8K (fcons m9K (fun p hp => (n11K hp)))))))))))) (fcons iN0.symm (fcons iN1.symm (fcons iN2.symm (fcons iN3.symm (fcons ((gRu (Iu, itu) m2K).1.symm) (fcons ((gRu (Iu, itu) m2K).2.1.symm) (fcons ((gRu (Iu, itu) m2K).2.2.symm) (fcons ((apLt lD2u m3K).symm) (fcons ((apLt lDhu cS9).symm) IR9))))))))) ?_
  clear FVu NVu
  generalize eRU : (cu, instObj 181 cdu) :: _ = RU
  have mcu : (cu, instObj 181 cdu) ∈ RU := by rw [← eRU]; exact cS9
  obtain ⟨nmu, jnu, mcdu⟩ : ∃ ta tb : Tok, (cdu, dC9 w0.params bu0 bu1 bu2 bu3 bu4 (.str (Str.ofString "u") ta) (.str (Str.ofString "b") tb) (.ref dlu) (.ref D2u) (.ref 56)) ∈ RU := ⟨_, _, by rw [← eRU]; exact m1K⟩
  have mdlu : (dlu, listOf (List.replicate 24 (Value.ref Dhu)).toArray nlu) ∈ RU := by rw [← eRU]; exact m2K
  have mDhu : (Dhu, T2 hh 1 thu tiu chu) ∈ RU := by rw [← eRU]; exact m4K
  have sR : ∀ p ∈ R, p ∈ RU := by rw [← eRU]; exact fun p hp => (n5K hp)
  have aXU : ∀ p ∈ RU, p.1 ≠ x := by rw [← eRU]; exact fcons ((gAu x cS9).1.symm) (fcons ((gAu x cS9).2.1.symm) (fcons ((gAu x cS9).2.2.symm) (fcons ((apLt lD2u m4K).symm) (fcons ((apLt lDhu m1K).symm) aX))))
  have aDU : ∀ p ∈ RU, p.1 ≠ d := by rw [← eRU]; exact fcons ((gAu d m1K).1.symm) (fcons ((gAu d m1K).2.1.symm) (fcons ((gAu d m1K).2.2.symm) (fcons ((apLt lD2u m5K).symm) (fcons ((apLt lDhu m2K).symm) aD))))
  have aJU : ∀ p ∈ RU, p.1 ≠ jl := by rw [← eRU]; exact fcons ((gAu jl m2K).1.symm) (fcons ((gAu jl m2K).2.1.symm) (fcons ((gAu jl m2K).2.2.symm) (fcons ((apLt lD2u m6K).symm) (fcons ((apLt lDhu m3K).symm) aJ))))
  have aCU : ∀ p ∈ RU, p.1 ≠ cd := by rw [← eRU]; exact fcons ((gAu cd m3K).1.symm) (fcons ((gAu cd m3K).2.1.symm) (fcons ((gAu cd m3K).2.2.symm) (fcons ((apLt lD2u m7K).symm) (fcons ((apLt lDhu m4K).symm) aC))))
  have IRU : ∀ p ∈ RU, p.1 ≠ Iu := by rw [← eRU]; exact fcons ((gRu (Iu, itu) m2K).1.symm) (fcons ((gRu (Iu, itu) m2K).2.1.symm) (fcons ((gRu (Iu, itu) m2K).2.2.symm) (fcons ((apLt lD2u m3K).symm) (fcons ((apLt lDhu cS9).symm) IR9))))
  clear eRU gAu gRu lD2u lDhu l9u lLcu IR9 lIau
  k_steps
  change wpAny _ _ _ _ _ _
  refine KMa.mul (vs := [_]) (ws := List.replicate 24 _) (by k_asm) (by k_asm) (by is_list) (by decide) (by decide) (by show 1 * Int.toNat 24 ≤ 256; decide) rfl ?_
  intro D9v h9v F9v N9v l9v
  replace l9v := allLt_of l9v
  k_steps
  change wpAny _ _ _ _ _ _
  rename_i uqv itv hEv tkEv FEv NEv Dhv thv tiv chv hGv tkGv lDhv lcv hHv lLcv D2v tdv tev cgv hJv tkJv FJv NJv lD2v
  have NKv : News h₀ L hJv ((x, instObj 312 d) :: (d, dN9 w0.params k0 k1 k2 k3 k4 k5 gr (.ref jl) (.str (Str.ofString "a") t1) (.ref pd) (.ref cd) (.ref bd)) :: (jl, listOf [.str (Str.ofString "a") t1, .str (Str.ofString "b") t2].toArray nj) :: (cd, ocdu) :: (D9v, listOf (List.replicate 24 (Value.ref Dhv)).toArray 0) :: (D2v, T2 20 1 tdv tev cgv) :: (Dhv, T2 hh 1 thv tiv chv) :: (Iu, itv) :: RU) := fun p hp => NJv p ((fcons m5K (fcons m6K (fcons m7K (fcons m8K (fcons m1K (fcons cS9 (fcons m3K (fcons m4K (fun p hp => (n9K hp))))))))) : ∀ p ∈ _, p ∈ _) p hp)
  k_dflt (refine' add_cons_v (rest := (D2v, T2 20 1 tdv tev cgv) :: (Dhv, T2 hh 1 thv tiv chv) :: (Iu, itv) :: RU) (hv := hh) (n2 := 20) (Dh := Dhv) (D2 := D2v) (ocd := ocdu) (KX9 := cu) ?b1v FJv ?b3v NKv ?b5v ?b6v ndx njx njd ncx ncd ncj (apLt l9v m3K).symm (apLt l9v m4K).symm (apLt l9v m5K).symm (apLt l9v m6K).symm (fcons ((apLt lD2v m4K).symm) (fcons ((apLt lDhv m1K).symm) (fcons (iN0) aXU))) (fcons ((apLt lD2v m5K).symm) (fcons ((apLt lDhv m2K).symm) (fcons (iN1) aDU))) (fcons ((apLt lD2v m6K).symm) (fcons ((apLt lDhv m3K).symm) (fcons (iN2) aJU))) (fcons ((apLt lD2v m7K).symm) (fcons ((apLt lDhv m4K).symm) (fcons (iN3) aCU))) (fcons ((apLt lD2v cS9).symm) (fcons (apLt l9v m1K) (fcons (apLt l9v m2K) (fun p hp => allLt_mem l9v p (n7K hp))))) lcd hcdu (NKv.get m6K) (NKv.get m5K) (by omega) (by decide) (PySem.intBits_le_64 (by omega) (by omega)) (by decide) ?b7v ?b8v ?_)
  case b1v | b3v | b5v => k_asm
  case b6v => first | exact rfl | assumption
  case b7v => ktr_room
  case b8v => ktr_units
  intro ocdv cv cdv dlv bv0 bv1 bv2 bv3 bv4 nlv hUv tkUv FUv NUv hcdv gAv gRv
  clear NKv FJv NJv
  k_steps
  unfold Hold
  (rename Fr _ _ _ _ => FVv)
  (rename News _ _ _ _ => NVv)
  refine UnrEnd.intro FVv NVv ((x, instObj 312 d) :: (d, dN9 w0.params k0 k1 k2 k3 k4 k5 gr (.ref jl) (.str (Str.ofString "a") t1) (.ref pd) (.ref cd) (.ref bd)) :: (jl, listOf [.str (Str.ofString "a") t1, .str (Str.ofString "b") t2].toArray nj) :: (cd, ocdv) :: (cv, instObj 181 cdv) :: (cdv, dC9 w0.params bv0 bv1 bv2 bv3 bv4 (.str (Str.ofString "v") _) (.str (Str.ofString "b") _) (.ref dlv) (.ref D2v) (.ref 56)) :: (dlv, listOf (List.replicate 24 (Value.ref Dhv)).toArray nlv) :: (D2v, T2 20 1 tdv tev cgv) :: (Dhv, T2 hh 1 thv tiv chv) :: RU) (fcons m10K (fcons cS9 (fcons m1K (fcons m2K (fcons m3K (fcons m5K (fcons m6K (fcons m7K (fcons m8K (fcons m9K (fun p hp => (n11K hp)))))))))))) (fcons iN0.symm (fcons iN1.symm (fcons iN2.symm (fcons iN3.symm (fcons ((gRv (Iu, itv) m2K).1.symm) (fcons ((gRv (Iu, itv) m2K).2.1.symm) (fcons ((gRv (Iu, itv) m2K).2.2.symm) (fcons ((apLt lD2v m3K).symm) (fcons ((apLt lDhv cS9).symm) IRU))))))))) ?_
  clear FVv NVv
  have mkS : MarkW9 := .mk
  k_steps
  change wpAny _ _ _ _ _ _
  (rename MarkW9 => mkS)
  clear mkS
  (rename Fr _ _ _ _ => FL)
  (rename News _ _ _ _ => NL)
  obtain ⟨RA, eRA, NA⟩ := name_led NL
  clear NL
  have sU : ∀ p ∈ RU, p ∈ RA := by rw [eRA]; exact fun p hp => (n9K hp)
  obtain ⟨nmv, jnv, mcdv⟩ : ∃ ta tb : Tok, (cdv, dC9 w0.params bv0 bv1 bv2 bv3 bv4 (.str (Str.ofString "v") ta) (.str (Str.ofString "b") tb) (.ref dlv) (.ref D2v) (.ref 56)) ∈ RA := ⟨_, _, by rw [eRA]; exact m5K⟩
  have mx : (x, instObj 312 d) ∈ RA := by rw [eRA]; exact cS9
  have md : (d, dN9 w0.params k0 k1 k2 k3 k4 k5 gr (.ref jl) (.str (Str.ofString "a") t1) (.ref pd) (.ref cd) (.ref bd)) ∈ RA := by rw [eRA]; exact m1K
  have mcd : (cd, ocdv) ∈ RA := by rw [eRA]; exact m3K
  have mcv : (cv, instObj 181 cdv) ∈ RA := by rw [eRA]; exact m4K
  have mdlv : (dlv, listOf (List.replicate 24 (Value.ref Dhv)).toArray nlv) ∈ RA := by rw [eRA]; exact m6K
  have mDhv : (Dhv, T2 hh 1 thv tiv chv) ∈ RA := by rw [eRA]; exact m8K
  have mcell9 := sU _ (sR _ mcell)
  clear eRA
  have sW : ∀ p ∈ (Dhu, T2 hh 1 thu tiu chu) :: (Dhv, T2 hh 1 thv tiv chv) :: [(x, instObj 312 d), (d, dN9 w0.params k0 k1 k2 k3 k4 k5 gr (.ref jl) (.str (Str.ofString "a") t1) (.ref pd) (.ref cd) (.ref bd)), (pd, opd), (pp, instObj 153 ppd), (ppd, dP9 w0.params b0 b1 b2 b3 b4 b5 b6 b7 (.str (Str.ofString "p") u0) (.str (Str.ofString "a") u1) (.str (Str.ofString "b") u2) (.int ln u3) (.ref D1) (.ref D2) (.ref D3) (.bool true)), (cd, ocdv), (cu, instObj 181 cdu), (cdu, dC9 w0.params bu0 bu1 bu2 bu3 bu4 (.str (Str.ofString "u") nmu) (.str (Str.ofString "b") jnu) (.ref dlu) (.ref D2u) (.ref 56)), (dlu, listOf (List.replicate 24 (Value.ref Dhu)).toArray nlu), (cv, instObj 181 cdv), (cdv, dC9 w0.params bv0 bv1 bv2 bv3 bv4 (.str (Str.ofString "v") nmv) (.str (Str.ofString "b") jnv) (.ref dlv) (.ref D2v) (.ref 56)), (dlv, listOf (List.replicate 24 (Value.ref Dhv)).toArray nlv)], p ∈ RA := fcons (sU _ mDhu) (fcons mDhv (fcons mx (fcons md (fcons (sU _ (sR _ mpd)) (fcons (sU _ (sR _ mpp)) (fcons (sU _ (sR _ mppd)) (fcons mcd (fcons (sU _ mcu) (fcons (sU _ mcdu) (fcons (sU _ mdlu) (fcons mcv (fcons mcdv (fcons mdlv (List.forall_mem_nil _))))))))))))))
  exact lawM (z := { net := x, dn := d, jl := jl, pd := pd, pp := pp, ppd := ppd, cd := cd, cu := cu, cud := cdu, a1 := k0, a2 := k1, a3 := k2, a4 := k3, a5 := k4, a6 := k5, b1 := b0, b2 := b1, b3 := b2, b4 := b3, b5 := b4, b6 := b5, b7 := b6, b8 := b7, c1 := bu0, c2 := bu1, c3 := bu2, c4 := bu3, c5 := bu4, e1 := k0, e2 := k0, s1 := t1, s2 := t1, s3 := t1, s4 := u1, s5 := u2, s6 := jnu, s7 := t1, s8 := t1, gr := gr, bd := .ref bd, nm := .str (Str.ofString "p") u0, ln := .int ln u3, rs := .ref D1, lo := .ref D2, li := .ref D3, nc := .str (Str.ofString "u") nmu, dr := .ref D2u, le := .ref 56, dl := dlu, opd := opd, ocd := ocdv, cv := cv, cvd := cdv, dv := dlv, f1 := bv0, f2 := bv1, f3 := bv2, f4 := bv3, f5 := bv4, s9 := jnv, nc2 := .str (Str.ofString "v") nmv, dr2 := .ref D2v, le2 := .ref 56 }) (n := n) (hh := hh) (day := day) (W0 := [(x, instObj 312 d), (d, dN9 w0.params k0 k1 k2 k3 k4 k5 gr (.ref jl) (.str (Str.ofString "a") t1) (.ref pd) (.ref cd) (.ref bd)), (pd, opd), (pp, instObj 153 ppd), (ppd, dP9 w0.params b0 b1 b2 b3 b4 b5 b6 b7 (.str (Str.ofString "p") u0) (.str (Str.ofString "a") u1) (.str (Str.ofString "b") u2) (.int ln u3) (.ref D1) (.ref D2) (.ref D3) (.bool true)), (cd, ocdv), (cu, instObj 181 cdu), (cdu, dC9 w0.params bu0 bu1 bu2 bu3 bu4 (.str (Str.ofString "u") nmu) (.str (Str.ofString "b") jnu) (.ref dlu) (.ref D2u) (.ref 56)), (dlu, listOf (List.replicate 24 (Value.ref Dhu)).toArray nlu), (cv, instObj 181 cdv), (cdv, dC9 w0.params bv0 bv1 bv2 bv3 bv4 (.str (Str.ofString "v") nmv) (.str (Str.ofString "b") jnv) (.ref dlv) (.ref D2v) (.ref 56)), (dlv, listOf (List.replicate 24 (Value.ref Dhv)).toArray nlv)]) (R0 := (Dhu, T2 hh 1 thu tiu chu) :: (Dhv, T2 hh 1 thv tiv chv) :: [(x, instObj 312 d), (d, dN9 w0.params k0 k1 k2 k3 k4 k5 gr (.ref jl) (.str (Str.ofString "a") t1) (.ref pd) (.ref cd) (.ref bd)), (pd, opd), (pp, instObj 153 ppd), (ppd, dP9 w0.params b0 b1 b2 b3 b4 b5 b6 b7 (.str (Str.ofString "p") u0) (.str (Str.ofString "a") u1) (.str (Str.ofString "b") u2) (.int ln u3) (.ref D1) (.ref D2) (.ref D3) (.bool true)), (cd, ocdv), (cu, instObj 181 cdu), (cdu, dC9 w0.params bu0 bu1 bu2 bu3 bu4 (.str (Str.ofString "u") nmu) (.str (Str.ofString "b") jnu) (.ref dlu) (.ref D2u) (.ref 56)), (dlu, listOf (List.replicate 24 (Value.ref Dhu)).toArray nlu), (cv, instObj 181 cdv), (cdv, dC9 w0.params bv0 bv1 bv2 bv3 bv4 (.str (Str.ofString "v") nmv) (.str (Str.ofString "b") jnv) (.ref dlv) (.ref D2v) (.ref 56)), (dlv, listOf (List.replicate 24 (Value.ref Dhv)).toArray nlv)]) K0 KX T FL (fcons (NA _ mcell9) (fun p hp => NA p (sW p hp)))
    q0 (fun p hp => cC9 (cC9 hp)) (fcons inst_cls (fcons dict_cls2 (fcons (dict_cls hpd) (fcons inst_cls (fcons dict_cls2 (fcons (dict_cls hcdv) (fcons inst_cls (fcons dict_cls2 (fcons list_cls (fcons inst_cls (fcons dict_cls2 (fcons list_cls (List.forall_mem_nil _))))))))))))) (fcons cS9 (fcons m1K (fcons m2K (fcons m3K (fcons m4K (fcons m5K (fcons m6K (fcons m7K (fcons m8K (List.forall_mem_nil _)))))))))) (fcons cS9 (fcons m1K (fcons m2K (fcons m3K (fcons m4K (fcons m5K (fcons m9K (fcons m10K (fcons m11K (List.forall_mem_nil _)))))))))) lpd hpd lcd hcdv (ne_cell NA mcell9 q0 sW (fcons (fun v h => by cases h) (fcons (fun v h => by cases h) (fcons (fun v h => by cases h) (fcons (fun v h => by cases h) (fcons (dict_nc hpd) (fcons (fun v h => by cases h) (fcons (fun v h => by cases h) (fcons (dict_nc hcdv) (fcons (fun v h => by cases h) (fcons (fun v h => by cases h) (fcons (fun v h => by cases h) (fcons (fun v h => by cases h) (fcons (fun v h => by cases h) (fcons (fun v h => by cases h) (List.forall_mem_nil _)))))))))))))))) cS9 m1K hh0 hh1
    hda0 hda1 hnn0 hnn1 (by exact n_net2) (by exact n_heat) (by exact n_day) (by exact n_days) hE hend
end
section
theorem words38 : True := by
  k_with_none
  k_with "k_in" => (refine' in_of ?z4fF ?z4fX; (case z4fF | z4fX => k_asm))
  k_with "eval Name" => (k_here; k_dflt (refine' nameX_L ?z201k1 ?z201k2 ?_ ?z201k3 ?z201k4; (case z201k1 => k_asm); (case z201k3 | z201k4 => rfl); (case z201k2 => first | exact rfl | assumption); k_whole))
  k_with "execs cons" => (walk_at "i12"; refine Hold.out ?_)
  trivial
theorem law0 {w0 : World} {fa L : Addr} {cc : Value} {h₀ : Heap} {Q : Flow → Shared → Prop} {EX : Value → Shared → Prop} {m : Str → Option Value} {s : Shared} {o0 : Obj} {l0 : Addr} {vs0 : List Value} {ns0 : List Int} 
    (K0 : Below callerA h₀ [] h₀) (KX : (HD.K w0.params).In h₀) (T : Top p loose mean mg mb h₀) (F : Fr h₀ L s.heap m) (N : News h₀ L s.heap [(L + 1, o0)]) (q0 : o0.data = .cell none) (hL0 : h₀.IsList l0 vs0.toArray) (hI0 : IntsAre vs0 ns0) (hns0 : ns0.length ≤ 63)
    (n_script : m (Str.ofString "script") = some (.ref l0))
    (hE : PassesOwn (model Challenge.rw_ui0509_16.row.prog w0) (callerA.deeper (envOfC HD.dH.name HD.dH.scope L fa cc)) (envOfC HD.dH.name HD.dH.scope L fa cc) EX)
    (hend : ∀ (h' : Heap) (tk' : Nat) (m' : Str → Option Value), Fr h₀ L h' m' → Q (.ret (.bool true)) { s with heap := h', toks := tk' }) :
    wpAny (model Challenge.rw_ui0509_16.row.prog w0) (callerA.deeper (envOfC HD.dH.name HD.dH.scope L fa cc)) (execs (HD.fb45.1.drop 0) (envOfC HD.dH.name HD.dH.scope L fa cc)) Q EX s := by
  w_top off
  revert KX; k_fill; intro KX
  dsimp only [HD.dH, HD.fb45, HD.fs45, List.drop_succ_cons, List.drop_zero]
  iterate 2 walk1
  have mkS : MarkW9 := .mk
  k_steps
  · change wpAny _ _ _ _ _ _
    (rename MarkW9 => mkS)
    clear mkS
    k_steps
    all_goals exact hend _ _ _ (by assumption)
  · change wpAny _ _ _ _ _ _
    (rename MarkW9 => mkS)
    clear mkS
    (rename ¬ _ < (4 : Int) => h49)
    refine lawA K0 KX T F N hE (fun {x d jl pd cd bd pp ppd D1 D2 D3 k0 k1 k2 k3 k4 k5 t1 t2 u0 u1 u2 u3 b0 b1 b2 b3 b4 b5 b6 b7 gr nj opd ocd ln R} h' tk' m' F' e1 e2 N' ndx njx njd ncx ncd ncj mpd mpp mppd mcell aX aD aJ aC lpd hpd lcd hcd => ?_)
    exact lawB K0 KX T F' N' ndx njx njd ncx ncd ncj mpd mpp mppd mcell aX aD aJ aC lpd hpd lcd hcd q0 hL0 hI0 hns0 (by omega) e1 (e2.trans n_script) hE hend
end
inductive Final : Prop where
  | mk : Final
theorem good_true {cl : Str → Option Addr} {mean : ExcName → Option Value} {ns : List Int} {s₁ s' : Shared} {L : Addr} {m : Str → Option Value} (F : Fr s₁.heap L s'.heap m) (hg : s'.gens = #[]) (hos : s'.os = s₁.os) :
    GoodW Challenge.rw_ui0509_16.row.claim cl mean [ofPy (PyData.list (ns.map PyData.int))] s₁ (.ok (.ret (.bool true))) s' := by
  refine goodW_bool F hg (fun _ => rfl) (postW_of rfl ?_ rfl) hos
  first | (with_unfolding_all exact w_eq_bool (w_res rfl) w_lit) | rfl | simp [WTm.value] | wtm_val
end Mine
end V9
open Mine
local macro_rules | `(tactic| k_qdec) => `(tactic| decide +kernel)
theorem Mine.words39 : True := by
  k_with_none
  k_with "k_in" => (refine' in_of ?z202fF ?z202fX; (case z202fF | z202fX => k_asm))
  k_with "kc_close" => ((fail_if_success (rename Final => fin')); (with_reducible show GoodW _ _ _ _ _ _ _); refine Hold.out ?_)
  k_with "wrow_close" => ((fail_if_success (rename Final => fin')); (with_reducible show GoodW _ _ _ _ _ _ _); refine Hold.out ?_)
  k_with "eval Name" => (k_here; k_dflt (refine' nameX_L ?z203k1 ?z203k2 ?_ ?z203k3 ?z203k4; (case z203k1 => k_asm); (case z203k3 | z203k4 => rfl); (case z203k2 => first | exact rfl | assumption); k_whole))
  k_with "execs cons" => (walk_at "i12"; refine Hold.out ?_)
  trivial
set_option maxRecDepth 100000 in
set_option maxHeartbeats 40000000 in
theorem PySem.Challenge.cw_ui0509_16_holds : PySem.Challenge.rw_ui0509_16.Holds :=
  HD.hd (by
  k_go0; (all_goals try k_fold)
  (rename News _ _ _ _ => NT)
  (rename Fr _ _ _ _ => FT)
  refine' law0 (by k_asm) (by k_asm) (by k_asm) FT NT ?hcl ?hl0 ?hi0 ?hns (by rfl) ?hE (fun h' tk' m' F' => ?_)
  case hcl => first | assumption | ((rename _ = Data.cell _ => hcl9); exact hcl9)
  case hl0 | hi0 => k_asm
  case hns => omega
  case hE => passes_own
  k_unfold
  (try dsimp only)
  exact good_true F' (by assumption) rfl)
