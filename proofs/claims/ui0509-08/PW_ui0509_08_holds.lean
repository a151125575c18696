import PyProof.Rows.All
import Wide.All
import OpenK.AllK
import Wide.FinOn
import PySem.Challenge.RW_ui0509_08
open PySem PySem.W PyProof.Rows PySem.Spec PySem.Calls
set_option Elab.async false
set_option maxRecDepth 100000
set_option maxHeartbeats 16000000
set_option rowWalk.seconds 1500
set_option compiler.extract_closed false
set_option linter.all false
namespace HD
open PySem PySem.W PyProof.Rows PySem.Spec PySem.Calls
abbrev pw : Program := PySem.Challenge.pw_ui0509_08
def nth : List Stmt → Nat → Stmt
  | [], _ => .Pass ⟨0, 0, 0, 0⟩
  | x :: _, 0 => x
  | _ :: r, n + 1 => nth r n
def bodyS : Stmt → List Stmt
  | .FunctionDef _ _ b .. => b
  | .ClassDef _ _ _ b .. => b
  | .If _ b .. => b
  | _ => []
def argsS : Stmt → Arguments
  | .FunctionDef _ a .. => a
  | _ => ⟨[], [], none, [], [], none, []⟩
def scopeS : Stmt → Scope
  | .FunctionDef _ _ _ _ _ _ s .. => s
  | _ => ⟨.function, [], false, false, []⟩
abbrev lf (o : Obj) : BT := .node o .nil .nil
@[reducible] noncomputable def fa2 : {x : Arguments // x = argsS (nth pw.main.body 2)} := ⟨_, by conv => (rhs; whnf)⟩
@[reducible] noncomputable def fb2 : {x : List Stmt // x = bodyS (nth pw.main.body 2)} := ⟨_, by conv => (rhs; whnf)⟩
@[reducible] noncomputable def fs2 : {x : Scope // x = scopeS (nth pw.main.body 2)} := ⟨_, by conv => (rhs; whnf)⟩
@[reducible] noncomputable def fa3 : {x : Arguments // x = argsS (nth pw.main.body 3)} := ⟨_, by conv => (rhs; whnf)⟩
@[reducible] noncomputable def fb3 : {x : List Stmt // x = bodyS (nth pw.main.body 3)} := ⟨_, by conv => (rhs; whnf)⟩
@[reducible] noncomputable def fs3 : {x : Scope // x = scopeS (nth pw.main.body 3)} := ⟨_, by conv => (rhs; whnf)⟩
@[reducible] noncomputable def fa4 : {x : Arguments // x = argsS (nth pw.main.body 4)} := ⟨_, by conv => (rhs; whnf)⟩
@[reducible] noncomputable def fb4 : {x : List Stmt // x = bodyS (nth pw.main.body 4)} := ⟨_, by conv => (rhs; whnf)⟩
@[reducible] noncomputable def fs4 : {x : Scope // x = scopeS (nth pw.main.body 4)} := ⟨_, by conv => (rhs; whnf)⟩
@[reducible] noncomputable def fa5 : {x : Arguments // x = argsS (nth pw.main.body 5)} := ⟨_, by conv => (rhs; whnf)⟩
@[reducible] noncomputable def fb5 : {x : List Stmt // x = bodyS (nth pw.main.body 5)} := ⟨_, by conv => (rhs; whnf)⟩
@[reducible] noncomputable def fs5 : {x : Scope // x = scopeS (nth pw.main.body 5)} := ⟨_, by conv => (rhs; whnf)⟩
@[reducible] noncomputable def fa10 : {x : Arguments // x = argsS (nth pw.main.body 10)} := ⟨_, by conv => (rhs; whnf)⟩
@[reducible] noncomputable def fb10 : {x : List Stmt // x = bodyS (nth pw.main.body 10)} := ⟨_, by conv => (rhs; whnf)⟩
@[reducible] noncomputable def fs10 : {x : Scope // x = scopeS (nth pw.main.body 10)} := ⟨_, by conv => (rhs; whnf)⟩
@[reducible] noncomputable def fa11 : {x : Arguments // x = argsS (nth pw.main.body 11)} := ⟨_, by conv => (rhs; whnf)⟩
@[reducible] noncomputable def fb11 : {x : List Stmt // x = bodyS (nth pw.main.body 11)} := ⟨_, by conv => (rhs; whnf)⟩
@[reducible] noncomputable def fs11 : {x : Scope // x = scopeS (nth pw.main.body 11)} := ⟨_, by conv => (rhs; whnf)⟩
@[reducible] noncomputable def fa12 : {x : Arguments // x = argsS (nth pw.main.body 12)} := ⟨_, by conv => (rhs; whnf)⟩
@[reducible] noncomputable def fb12 : {x : List Stmt // x = bodyS (nth pw.main.body 12)} := ⟨_, by conv => (rhs; whnf)⟩
@[reducible] noncomputable def fs12 : {x : Scope // x = scopeS (nth pw.main.body 12)} := ⟨_, by conv => (rhs; whnf)⟩
@[reducible] noncomputable def fa13 : {x : Arguments // x = argsS (nth pw.main.body 13)} := ⟨_, by conv => (rhs; whnf)⟩
@[reducible] noncomputable def fb13 : {x : List Stmt // x = bodyS (nth pw.main.body 13)} := ⟨_, by conv => (rhs; whnf)⟩
@[reducible] noncomputable def fs13 : {x : Scope // x = scopeS (nth pw.main.body 13)} := ⟨_, by conv => (rhs; whnf)⟩
@[reducible] noncomputable def fa14 : {x : Arguments // x = argsS (nth pw.main.body 14)} := ⟨_, by conv => (rhs; whnf)⟩
@[reducible] noncomputable def fb14 : {x : List Stmt // x = bodyS (nth pw.main.body 14)} := ⟨_, by conv => (rhs; whnf)⟩
@[reducible] noncomputable def fs14 : {x : Scope // x = scopeS (nth pw.main.body 14)} := ⟨_, by conv => (rhs; whnf)⟩
@[reducible] noncomputable def fa15 : {x : Arguments // x = argsS (nth pw.main.body 15)} := ⟨_, by conv => (rhs; whnf)⟩
@[reducible] noncomputable def fb15 : {x : List Stmt // x = bodyS (nth pw.main.body 15)} := ⟨_, by conv => (rhs; whnf)⟩
@[reducible] noncomputable def fs15 : {x : Scope // x = scopeS (nth pw.main.body 15)} := ⟨_, by conv => (rhs; whnf)⟩
@[reducible] noncomputable def fa16 : {x : Arguments // x = argsS (nth pw.main.body 16)} := ⟨_, by conv => (rhs; whnf)⟩
@[reducible] noncomputable def fb16 : {x : List Stmt // x = bodyS (nth pw.main.body 16)} := ⟨_, by conv => (rhs; whnf)⟩
@[reducible] noncomputable def fs16 : {x : Scope // x = scopeS (nth pw.main.body 16)} := ⟨_, by conv => (rhs; whnf)⟩
@[reducible] noncomputable def fa17 : {x : Arguments // x = argsS (nth pw.main.body 17)} := ⟨_, by conv => (rhs; whnf)⟩
@[reducible] noncomputable def fb17 : {x : List Stmt // x = bodyS (nth pw.main.body 17)} := ⟨_, by conv => (rhs; whnf)⟩
@[reducible] noncomputable def fs17 : {x : Scope // x = scopeS (nth pw.main.body 17)} := ⟨_, by conv => (rhs; whnf)⟩
@[reducible] noncomputable def fa18 : {x : Arguments // x = argsS (nth pw.main.body 18)} := ⟨_, by conv => (rhs; whnf)⟩
@[reducible] noncomputable def fb18 : {x : List Stmt // x = bodyS (nth pw.main.body 18)} := ⟨_, by conv => (rhs; whnf)⟩
@[reducible] noncomputable def fs18 : {x : Scope // x = scopeS (nth pw.main.body 18)} := ⟨_, by conv => (rhs; whnf)⟩
@[reducible] noncomputable def fa19 : {x : Arguments // x = argsS (nth pw.main.body 19)} := ⟨_, by conv => (rhs; whnf)⟩
@[reducible] noncomputable def fb19 : {x : List Stmt // x = bodyS (nth pw.main.body 19)} := ⟨_, by conv => (rhs; whnf)⟩
@[reducible] noncomputable def fs19 : {x : Scope // x = scopeS (nth pw.main.body 19)} := ⟨_, by conv => (rhs; whnf)⟩
@[reducible] noncomputable def fa20 : {x : Arguments // x = argsS (nth pw.main.body 20)} := ⟨_, by conv => (rhs; whnf)⟩
@[reducible] noncomputable def fb20 : {x : List Stmt // x = bodyS (nth pw.main.body 20)} := ⟨_, by conv => (rhs; whnf)⟩
@[reducible] noncomputable def fs20 : {x : Scope // x = scopeS (nth pw.main.body 20)} := ⟨_, by conv => (rhs; whnf)⟩
@[reducible] noncomputable def fa21 : {x : Arguments // x = argsS (nth pw.main.body 21)} := ⟨_, by conv => (rhs; whnf)⟩
@[reducible] noncomputable def fb21 : {x : List Stmt // x = bodyS (nth pw.main.body 21)} := ⟨_, by conv => (rhs; whnf)⟩
@[reducible] noncomputable def fs21 : {x : Scope // x = scopeS (nth pw.main.body 21)} := ⟨_, by conv => (rhs; whnf)⟩
@[reducible] noncomputable def fa22 : {x : Arguments // x = argsS (nth pw.main.body 22)} := ⟨_, by conv => (rhs; whnf)⟩
@[reducible] noncomputable def fb22 : {x : List Stmt // x = bodyS (nth pw.main.body 22)} := ⟨_, by conv => (rhs; whnf)⟩
@[reducible] noncomputable def fs22 : {x : Scope // x = scopeS (nth pw.main.body 22)} := ⟨_, by conv => (rhs; whnf)⟩
@[reducible] noncomputable def fa23 : {x : Arguments // x = argsS (nth pw.main.body 23)} := ⟨_, by conv => (rhs; whnf)⟩
@[reducible] noncomputable def fb23 : {x : List Stmt // x = bodyS (nth pw.main.body 23)} := ⟨_, by conv => (rhs; whnf)⟩
@[reducible] noncomputable def fs23 : {x : Scope // x = scopeS (nth pw.main.body 23)} := ⟨_, by conv => (rhs; whnf)⟩
@[reducible] noncomputable def fa24 : {x : Arguments // x = argsS (nth pw.main.body 24)} := ⟨_, by conv => (rhs; whnf)⟩
@[reducible] noncomputable def fb24 : {x : List Stmt // x = bodyS (nth pw.main.body 24)} := ⟨_, by conv => (rhs; whnf)⟩
@[reducible] noncomputable def fs24 : {x : Scope // x = scopeS (nth pw.main.body 24)} := ⟨_, by conv => (rhs; whnf)⟩
@[reducible] noncomputable def fa25 : {x : Arguments // x = argsS (nth pw.main.body 25)} := ⟨_, by conv => (rhs; whnf)⟩
@[reducible] noncomputable def fb25 : {x : List Stmt // x = bodyS (nth pw.main.body 25)} := ⟨_, by conv => (rhs; whnf)⟩
@[reducible] noncomputable def fs25 : {x : Scope // x = scopeS (nth pw.main.body 25)} := ⟨_, by conv => (rhs; whnf)⟩
@[reducible] noncomputable def fa26 : {x : Arguments // x = argsS (nth pw.main.body 26)} := ⟨_, by conv => (rhs; whnf)⟩
@[reducible] noncomputable def fb26 : {x : List Stmt // x = bodyS (nth pw.main.body 26)} := ⟨_, by conv => (rhs; whnf)⟩
@[reducible] noncomputable def fs26 : {x : Scope // x = scopeS (nth pw.main.body 26)} := ⟨_, by conv => (rhs; whnf)⟩
@[reducible] noncomputable def fa28 : {x : Arguments // x = argsS (nth pw.main.body 28)} := ⟨_, by conv => (rhs; whnf)⟩
@[reducible] noncomputable def fb28 : {x : List Stmt // x = bodyS (nth pw.main.body 28)} := ⟨_, by conv => (rhs; whnf)⟩
@[reducible] noncomputable def fs28 : {x : Scope // x = scopeS (nth pw.main.body 28)} := ⟨_, by conv => (rhs; whnf)⟩
@[reducible] noncomputable def fa29 : {x : Arguments // x = argsS (nth pw.main.body 29)} := ⟨_, by conv => (rhs; whnf)⟩
@[reducible] noncomputable def fb29 : {x : List Stmt // x = bodyS (nth pw.main.body 29)} := ⟨_, by conv => (rhs; whnf)⟩
@[reducible] noncomputable def fs29 : {x : Scope // x = scopeS (nth pw.main.body 29)} := ⟨_, by conv => (rhs; whnf)⟩
noncomputable def envH : Env := { scope := pw.main.scope, locals := mainNs, globals := mainNs, cells := [], code := (.ref 13), frame := some 14 }
noncomputable def cE : Code := Code.body (behindTheImports pw) envH
abbrev qH : Pos := (.mk 0 0 0 0)
abbrev annH : Option Value := (.some (.ref 6))
noncomputable def s0H (P : Params) (os : OsState) : Shared := ⟨boot_heap P, ⟨[]⟩, boot_drawn, boot_toks, os⟩
noncomputable def o11 (P : Params) : Obj := (PySem.Obj.mk (.type "tuple") .none (.seq (List.toArray []) 0) (List.toArray []))
noncomputable def o12 (P : Params) : Obj := (PySem.Obj.mk .none .none (.fields (List.toArray [])) (List.toArray []))
noncomputable def o13 (P : Params) : Obj := (PySem.Obj.mk (.type "code") .none (.fields (List.toArray [(.str (Str.ofString "<module>") 182), (.str (Str.ofString "<module>") 183), (.str (Str.ofString "/claim/cut.py") 184), (.int 1 0), (.int 0 0), (.int 0 0), (.int 0 0), (.int 0 0), (.ref 11), (.bool .false), (.int 181 0), (.ref 12), .none, .none, .none, .none, (.int 185 0), (.int 1 0), (.str (Str.ofString "/claim/cut.py") 186)])) (List.toArray []))
noncomputable def o14 (P : Params) : Obj := (PySem.Obj.mk (.type "frame") .none .plain (List.toArray [(.some (.ref 13)), (.some (.ref 3)), (.some (.ref 3)), .none, (.some (.str (Str.ofString "__main__") 164)), .none, (.some (.ref 0))]))
noncomputable def tA (P : Params) : BT := (.node (boot_o_0 P) (.node (boot_o_1 P) (.node (boot_o_3 P) (lf (boot_o_7 P)) (lf (o11 P))) (.node (boot_o_5 P) (lf (boot_o_9 P)) (lf (o13 P)))) (.node (boot_o_2 P) (.node (boot_o_4 P) (lf (boot_o_8 P)) (lf (o12 P))) (.node (boot_o_6 P) (lf (boot_o_10 P)) (lf (o14 P)))))
noncomputable def tAS (P : Params) (os : OsState) : SharedT := ⟨tA P, 15, (.mk [] [] [] 0 [] [] .false (List.toArray []) [] 0 .false .false .false 0 [2000, 10, 10] .false 0 .true [] [] 0 .false), ⟨[]⟩, (.mk 0 0 0 0), 187, os⟩
theorem preH (w : World) : (fun os => topGo treeTable pw w 11 annH 12 (s0H w.params os) (topStub pw)) = fun os => some ((tAS w.params os).abs, ⟨denote treeTable cE, cE, ((.mk 0 0 0 0) : Pos), [topFrame qH]⟩) := by
  rw [PySem.W.Fast.te15667345088766844465, PySem.W.Fast.te14364793385576792824, PySem.W.Fast.te11892475500146522536]; kernel_rfl!
noncomputable def tB (P : Params) : BT := (.node (boot_o_0 P) (.node (boot_o_1 P) (.node (boot_o_3 P) (lf (boot_o_7 P)) (lf (o11 P))) (.node (boot_o_5 P) (lf (boot_o_9 P)) (lf (o13 P)))) (.node (boot_o_2 P) (.node (boot_o_4 P) (lf (boot_o_8 P)) (lf (o12 P))) (.node (boot_o_6 P) (lf (boot_o_10 P)) (lf (o14 P)))))
noncomputable def tBS (P : Params) (os : OsState) : SharedT := ⟨tB P, 15, (.mk [] [] [] 0 [] [] .false (List.toArray []) [] 0 .false .false .false 0 [2000, 10, 10] .false 0 .true [] [] 0 .false), ⟨[]⟩, (.mk 0 0 0 0), 187, os⟩
theorem blockH (w : World) : (fun os => segRunT treeTable pw w 11 annH 1 1 (tAS w.params os) (blockOf (behindTheImports pw) envH cE ((.mk 0 0 0 0) : Pos) [topFrame qH])) = fun os => some (.next, tBS w.params os, cE, ((.mk 0 0 0 0) : Pos)) := by
  unfold blockOf; rw [PySem.W.Fast.te10110043849684766642, PySem.W.Fast.te14364793385576792824, PySem.W.Fast.te1066825118222455980]; kernel_rfl!
noncomputable def o3 (P : Params) : Obj := (PySem.Obj.mk (.type "dict") .none (.dict (List.toArray [(.mk (PySem.PyData.keyHash P (Str.ofString "__name__")) (.str (Str.ofString "__name__") 165) (.str (Str.ofString "heatnet.exact") 240)), (.mk (PySem.PyData.keyHash P (Str.ofString "__doc__")) (.str (Str.ofString "__doc__") 166) .none), (.mk (PySem.PyData.keyHash P (Str.ofString "__package__")) (.str (Str.ofString "__package__") 167) .none), (.mk (PySem.PyData.keyHash P (Str.ofString "__loader__")) (.str (Str.ofString "__loader__") 168) (.builtin "__main__.__loader__#opaque")), (.mk (PySem.PyData.keyHash P (Str.ofString "__spec__")) (.str (Str.ofString "__spec__") 169) .none), (.mk (PySem.PyData.keyHash P (Str.ofString "__annotations__")) (.str (Str.ofString "__annotations__") 170) (.ref 6)), (.mk (PySem.PyData.keyHash P (Str.ofString "__builtins__")) (.str (Str.ofString "__builtins__") 171) (.ref 4)), (.mk (PySem.PyData.keyHash P (Str.ofString "__file__")) (.str (Str.ofString "__file__") 173) (.str (Str.ofString "/claim/cut.py") 172)), (.mk (PySem.PyData.keyHash P (Str.ofString "__cached__")) (.str (Str.ofString "__cached__") 174) .none), (.mk (PySem.PyData.keyHash P (Str.ofString "HeatError")) (.str (Str.ofString "HeatError") 206) (.ref 24)), (.mk (PySem.PyData.keyHash P (Str.ofString "need_number")) (.str (Str.ofString "need_number") 216) (.ref 34)), (.mk (PySem.PyData.keyHash P (Str.ofString "shown")) (.str (Str.ofString "shown") 223) (.ref 41)), (.mk (PySem.PyData.keyHash P (Str.ofString "whole")) (.str (Str.ofString "whole") 229) (.ref 46)), (.mk (PySem.PyData.keyHash P (Str.ofString "need_name")) (.str (Str.ofString "need_name") 239) (.ref 53)), (.mk (PySem.PyData.keyHash P (Str.ofString "FIGURES")) (.str (Str.ofString "FIGURES") 243) (.int 2000 242)), (.mk (PySem.PyData.keyHash P (Str.ofString "MOST")) (.str (Str.ofString "MOST") 246) (.int 100000000000000000000000000000000000000000000000000000000000000000000000000000000000000000000000000000000000000000000000000000000000000000000000000000000000000000000000000000000000000000000000000000000000000000000000000000000000000000000000000000000000000000000000000000000000000000000000000000000000000000000000000000000000000000000000000000000000000000000000000000000000000000000000000000000000000000000000000000000000000000000000000000000000000000000000000000000000000000000000000000000000000000000000000000000000000000000000000000000000000000000000000000000000000000000000000000000000000000000000000000000000000000000000000000000000000000000000000000000000000000000000000000000000000000000000000000000000000000000000000000000000000000000000000000000000000000000000000000000000000000000000000000000000000000000000000000000000000000000000000000000000000000000000000000000000000000000000000000000000000000000000000000000000000000000000000000000000000000000000000000000000000000000000000000000000000000000000000000000000000000000000000000000000000000000000000000000000000000000000000000000000000000000000000000000000000000000000000000000000000000000000000000000000000000000000000000000000000000000000000000000000000000000000000000000000000000000000000000000000000000000000000000000000000000000000000000000000000000000000000000000000000000000000000000000000000000000000000000000000000000000000000000000000000000000000000000000000000000000000000000000000000000000000000000000000000000000000000000000000000000000000000000000000000000000000000000000000000000000000000000000000000000000000000000000000000000000000000000000000000000000000000000000000000000000000000000000000000000000000000000000000000000000000000000000000000000000000000000000000000000000000000000000000000000000000000000000000000000000000000000000000000000000000000000000000000000000000000000000000000000000000000000000000000000000000000000000000000000000000000000000000000000000000000000000000000000000000000000000000000000000000000000000 245)), (.mk (PySem.PyData.keyHash P (Str.ofString "NOUGHT")) (.str (Str.ofString "NOUGHT") 249) (.ref 54)), (.mk (PySem.PyData.keyHash P (Str.ofString "divisor")) (.str (Str.ofString "divisor") 257) (.ref 61))]) 18) (List.toArray []))
noncomputable def o12v1 (P : Params) : Obj := (PySem.Obj.mk .none .none (.fields (List.toArray [(.int 2 0), (.int 0 0), (.ref 20), (.int 4 0), (.int 0 0), (.ref 33), (.int 8 0), (.int 0 0), (.ref 40), (.int 14 0), (.int 0 0), (.ref 45), (.int 19 0), (.int 0 0), (.ref 52), (.int 32 0), (.int 0 0), (.ref 60)])) (List.toArray []))
noncomputable def o15 (P : Params) : Obj := (PySem.Obj.mk (.type "tuple") .none (.seq (List.toArray [(.type "ValueError")]) 0) (List.toArray []))
noncomputable def o16 (P : Params) : Obj := (PySem.Obj.mk (.type "builtin_function_or_method") .none (.fields (List.toArray [(.builtin "type.__prepare__"), (.type "type")])) (List.toArray []))
noncomputable def o17 (P : Params) : Obj := (PySem.Obj.mk (.type "dict") .none (.dict (List.toArray [(.mk (PySem.PyData.keyHash P (Str.ofString "__module__")) (.str (Str.ofString "__module__") 196) (.str (Str.ofString "heatnet.errors") 187)), (.mk (PySem.PyData.keyHash P (Str.ofString "__qualname__")) (.str (Str.ofString "__qualname__") 198) (.str (Str.ofString "HeatError") 197)), (.mk (PySem.PyData.keyHash P (Str.ofString "__firstlineno__")) (.str (Str.ofString "__firstlineno__") 200) (.int 2 199)), (.mk (PySem.PyData.keyHash P (Str.ofString "__static_attributes__")) (.str (Str.ofString "__static_attributes__") 201) (.ref 22))]) 4) (List.toArray []))
noncomputable def o18 (P : Params) : Obj := (PySem.Obj.mk (.type "tuple") .none (.seq (List.toArray []) 0) (List.toArray []))
noncomputable def o19 (P : Params) : Obj := (PySem.Obj.mk .none .none (.fields (List.toArray [])) (List.toArray []))
noncomputable def o20 (P : Params) : Obj := (PySem.Obj.mk (.type "code") .none (.fields (List.toArray [(.str (Str.ofString "HeatError") 191), (.str (Str.ofString "HeatError") 192), (.str (Str.ofString "/claim/cut.py") 193), (.int 2 0), (.int 0 0), (.int 0 0), (.int 0 0), (.int 0 0), (.ref 18), (.bool .false), (.int 181 0), (.ref 19), .none, .none, .none, .none, (.int 194 0), (.int 2 0), (.str (Str.ofString "/claim/cut.py") 195)])) (List.toArray []))
noncomputable def o21 (P : Params) : Obj := (PySem.Obj.mk (.type "frame") .none .plain (List.toArray [(.some (.ref 20)), (.some (.ref 3)), (.some (.ref 17)), .none, (.some (.str (Str.ofString "heatnet.errors") 187)), .none, (.some (.ref 0))]))
noncomputable def o22 (P : Params) : Obj := (PySem.Obj.mk (.type "tuple") .none (.seq (List.toArray []) 0) (List.toArray []))
noncomputable def o23 (P : Params) : Obj := (PySem.Obj.mk (.type "dict") .none (.dict (List.toArray [(.mk (PySem.PyData.keyHash P (Str.ofString "__module__")) (.str (Str.ofString "__module__") 196) (.str (Str.ofString "heatnet.errors") 187)), (.mk (PySem.PyData.keyHash P (Str.ofString "__firstlineno__")) (.str (Str.ofString "__firstlineno__") 200) (.int 2 199)), (.mk (PySem.PyData.keyHash P (Str.ofString "__static_attributes__")) (.str (Str.ofString "__static_attributes__") 201) (.ref 22)), (.mk (PySem.PyData.keyHash P (Str.ofString "__weakref__")) (.str (Str.ofString "__weakref__") 203) (.ref 25)), (.mk (PySem.PyData.keyHash P (Str.ofString "__doc__")) (.str (Str.ofString "__doc__") 204) .none)]) 3) (List.toArray []))
noncomputable def o24 (P : Params) : Obj := (PySem.Obj.mk (.type "type") .none (.cls (.mk (Str.ofString "HeatError") [(.type "ValueError")] [(.ref 24), (.type "ValueError"), (.type "Exception"), (.type "BaseException"), (.type "object")] 23 (Str.ofString "HeatError") .true [] [] .false .none .false)) (List.toArray [(.some (.ref 15)), .none, (.some (.str (Str.ofString "HeatError") 189)), (.some (.str (Str.ofString "HeatError") 197)), (.some (.builtin "ValueError.__new__")), (.some (.bool .true))]))
noncomputable def o25 (P : Params) : Obj := (PySem.Obj.mk (.type "getset_descriptor") .none (.fields (List.toArray [(.str (Str.ofString "__weakref__") 202), (.ref 24), (.builtin "ExceptionGroup.__weakref__"), .none])) (List.toArray []))
noncomputable def o26 (P : Params) : Obj := (PySem.Obj.mk (.type "super") .none (.fields (List.toArray [(.ref 24), (.ref 24), (.ref 24)])) (List.toArray []))
noncomputable def o27 (P : Params) : Obj := (PySem.Obj.mk (.type "builtin_function_or_method") .none (.fields (List.toArray [(.builtin "object.__init_subclass__"), (.ref 24)])) (List.toArray []))
noncomputable def o28 (P : Params) : Obj := (PySem.Obj.mk (.type "tuple") .none (.seq (List.toArray []) 0) (List.toArray []))
noncomputable def o29 (P : Params) : Obj := (PySem.Obj.mk .none .none (.fields (List.toArray [])) (List.toArray []))
noncomputable def o30 (P : Params) : Obj := (PySem.Obj.mk (.type "tuple") .none (.seq (List.toArray [(.str (Str.ofString "value") 210), (.str (Str.ofString "least") 211), (.str (Str.ofString "most") 212), (.str (Str.ofString "what") 213)]) 0) (List.toArray []))
noncomputable def o31 (P : Params) : Obj := (PySem.Obj.mk (.type "tuple") .none (.seq (List.toArray []) 0) (List.toArray []))
noncomputable def o32 (P : Params) : Obj := (PySem.Obj.mk .none .none (.func (FuncData.mk (Str.ofString "need_number") (Str.ofString "need_number") fa2.1 (.stmts fb2.1) fs2.1 0 [] .none .none .none .none .none .none .none 0)) (List.toArray []))
noncomputable def o33 (P : Params) : Obj := (PySem.Obj.mk (.type "code") .none (.fields (List.toArray [(.str (Str.ofString "need_number") 207), (.str (Str.ofString "need_number") 208), (.str (Str.ofString "/claim/cut.py") 209), (.int 4 0), (.int 4 0), (.int 0 0), (.int 0 0), (.int 3 0), (.ref 28), (.bool .true), (.int 181 0), (.ref 29), .none, (.ref 30), (.ref 31), (.ref 32), (.int 214 0), (.int 4 0), (.str (Str.ofString "/claim/cut.py") 215)])) (List.toArray []))
noncomputable def o34 (P : Params) : Obj := (PySem.Obj.mk (.type "function") .none (.func (FuncData.mk (Str.ofString "need_number") (Str.ofString "need_number") fa2.1 (.stmts fb2.1) fs2.1 3 [] .none .none .none (.str (Str.ofString "heatnet.errors") 187) .none (.ref 33) .none 0)) (List.toArray []))
noncomputable def o35 (P : Params) : Obj := (PySem.Obj.mk (.type "tuple") .none (.seq (List.toArray []) 0) (List.toArray []))
noncomputable def o36 (P : Params) : Obj := (PySem.Obj.mk .none .none (.fields (List.toArray [])) (List.toArray []))
noncomputable def o37 (P : Params) : Obj := (PySem.Obj.mk (.type "tuple") .none (.seq (List.toArray [(.str (Str.ofString "value") 220)]) 0) (List.toArray []))
noncomputable def o38 (P : Params) : Obj := (PySem.Obj.mk (.type "tuple") .none (.seq (List.toArray []) 0) (List.toArray []))
noncomputable def o39 (P : Params) : Obj := (PySem.Obj.mk .none .none (.func (FuncData.mk (Str.ofString "shown") (Str.ofString "shown") fa3.1 (.stmts fb3.1) fs3.1 0 [] .none .none .none .none .none .none .none 0)) (List.toArray []))
noncomputable def o40 (P : Params) : Obj := (PySem.Obj.mk (.type "code") .none (.fields (List.toArray [(.str (Str.ofString "shown") 217), (.str (Str.ofString "shown") 218), (.str (Str.ofString "/claim/cut.py") 219), (.int 8 0), (.int 1 0), (.int 0 0), (.int 0 0), (.int 3 0), (.ref 35), (.bool .true), (.int 181 0), (.ref 36), .none, (.ref 37), (.ref 38), (.ref 39), (.int 221 0), (.int 8 0), (.str (Str.ofString "/claim/cut.py") 222)])) (List.toArray []))
noncomputable def o41 (P : Params) : Obj := (PySem.Obj.mk (.type "function") .none (.func (FuncData.mk (Str.ofString "shown") (Str.ofString "shown") fa3.1 (.stmts fb3.1) fs3.1 3 [] .none .none .none (.str (Str.ofString "heatnet.errors") 187) .none (.ref 40) .none 0)) (List.toArray []))
noncomputable def o42 (P : Params) : Obj := (PySem.Obj.mk (.type "tuple") .none (.seq (List.toArray []) 0) (List.toArray []))
noncomputable def o43 (P : Params) : Obj := (PySem.Obj.mk .none .none (.fields (List.toArray [])) (List.toArray []))
noncomputable def o44 (P : Params) : Obj := (PySem.Obj.mk .none .none (.func (FuncData.mk (Str.ofString "whole") (Str.ofString "whole") fa4.1 (.stmts fb4.1) fs4.1 0 [] .none .none .none .none .none .none .none 0)) (List.toArray []))
noncomputable def o45 (P : Params) : Obj := (PySem.Obj.mk (.type "code") .none (.fields (List.toArray [(.str (Str.ofString "whole") 224), (.str (Str.ofString "whole") 225), (.str (Str.ofString "/claim/cut.py") 226), (.int 14 0), (.int 1 0), (.int 0 0), (.int 0 0), (.int 3 0), (.ref 42), (.bool .true), (.int 181 0), (.ref 43), .none, .none, .none, (.ref 44), (.int 227 0), (.int 14 0), (.str (Str.ofString "/claim/cut.py") 228)])) (List.toArray []))
noncomputable def o46 (P : Params) : Obj := (PySem.Obj.mk (.type "function") .none (.func (FuncData.mk (Str.ofString "whole") (Str.ofString "whole") fa4.1 (.stmts fb4.1) fs4.1 3 [] .none .none .none (.str (Str.ofString "heatnet.errors") 187) .none (.ref 45) .none 0)) (List.toArray []))
noncomputable def o47 (P : Params) : Obj := (PySem.Obj.mk (.type "tuple") .none (.seq (List.toArray []) 0) (List.toArray []))
noncomputable def o48 (P : Params) : Obj := (PySem.Obj.mk .none .none (.fields (List.toArray [])) (List.toArray []))
noncomputable def o49 (P : Params) : Obj := (PySem.Obj.mk (.type "tuple") .none (.seq (List.toArray [(.str (Str.ofString "text") 233), (.str (Str.ofString "k") 234), (.str (Str.ofString "sign") 235), (.str (Str.ofString "letter") 236)]) 0) (List.toArray []))
noncomputable def o50 (P : Params) : Obj := (PySem.Obj.mk (.type "tuple") .none (.seq (List.toArray []) 0) (List.toArray []))
noncomputable def o51 (P : Params) : Obj := (PySem.Obj.mk .none .none (.func (FuncData.mk (Str.ofString "need_name") (Str.ofString "need_name") fa5.1 (.stmts fb5.1) fs5.1 0 [] .none .none .none .none .none .none .none 0)) (List.toArray []))
noncomputable def o52 (P : Params) : Obj := (PySem.Obj.mk (.type "code") .none (.fields (List.toArray [(.str (Str.ofString "need_name") 230), (.str (Str.ofString "need_name") 231), (.str (Str.ofString "/claim/cut.py") 232), (.int 19 0), (.int 1 0), (.int 0 0), (.int 0 0), (.int 3 0), (.ref 47), (.bool .true), (.int 181 0), (.ref 48), .none, (.ref 49), (.ref 50), (.ref 51), (.int 237 0), (.int 19 0), (.str (Str.ofString "/claim/cut.py") 238)])) (List.toArray []))
noncomputable def o53 (P : Params) : Obj := (PySem.Obj.mk (.type "function") .none (.func (FuncData.mk (Str.ofString "need_name") (Str.ofString "need_name") fa5.1 (.stmts fb5.1) fs5.1 3 [] .none .none .none (.str (Str.ofString "heatnet.errors") 187) .none (.ref 52) .none 0)) (List.toArray []))
noncomputable def o54 (P : Params) : Obj := (PySem.Obj.mk (.type "tuple") .none (.seq (List.toArray [(.int 0 247), (.int 1 248)]) 0) (List.toArray []))
noncomputable def o55 (P : Params) : Obj := (PySem.Obj.mk (.type "tuple") .none (.seq (List.toArray []) 0) (List.toArray []))
noncomputable def o56 (P : Params) : Obj := (PySem.Obj.mk .none .none (.fields (List.toArray [])) (List.toArray []))
noncomputable def o57 (P : Params) : Obj := (PySem.Obj.mk (.type "tuple") .none (.seq (List.toArray [(.str (Str.ofString "a") 253), (.str (Str.ofString "b") 254)]) 0) (List.toArray []))
noncomputable def o58 (P : Params) : Obj := (PySem.Obj.mk (.type "tuple") .none (.seq (List.toArray []) 0) (List.toArray []))
noncomputable def o59 (P : Params) : Obj := (PySem.Obj.mk .none .none (.func (FuncData.mk (Str.ofString "divisor") (Str.ofString "divisor") fa10.1 (.stmts fb10.1) fs10.1 0 [] .none .none .none .none .none .none .none 0)) (List.toArray []))
noncomputable def o60 (P : Params) : Obj := (PySem.Obj.mk (.type "code") .none (.fields (List.toArray [(.str (Str.ofString "divisor") 250), (.str (Str.ofString "divisor") 251), (.str (Str.ofString "/claim/cut.py") 252), (.int 32 0), (.int 2 0), (.int 0 0), (.int 0 0), (.int 3 0), (.ref 55), (.bool .true), (.int 181 0), (.ref 56), .none, (.ref 57), (.ref 58), (.ref 59), (.int 255 0), (.int 32 0), (.str (Str.ofString "/claim/cut.py") 256)])) (List.toArray []))
noncomputable def o61 (P : Params) : Obj := (PySem.Obj.mk (.type "function") .none (.func (FuncData.mk (Str.ofString "divisor") (Str.ofString "divisor") fa10.1 (.stmts fb10.1) fs10.1 3 [] .none .none .none (.str (Str.ofString "heatnet.exact") 240) .none (.ref 60) .none 0)) (List.toArray []))
noncomputable def t0 (P : Params) : BT := (.node (boot_o_0 P) (.node (boot_o_1 P) (.node (o3 P) (.node (boot_o_7 P) (.node (o15 P) (lf (o31 P)) (lf (o47 P))) (.node (o23 P) (lf (o39 P)) (lf (o55 P)))) (.node (o11 P) (.node (o19 P) (lf (o35 P)) (lf (o51 P))) (.node (o27 P) (lf (o43 P)) (lf (o59 P))))) (.node (boot_o_5 P) (.node (boot_o_9 P) (.node (o17 P) (lf (o33 P)) (lf (o49 P))) (.node (o25 P) (lf (o41 P)) (lf (o57 P)))) (.node (o13 P) (.node (o21 P) (lf (o37 P)) (lf (o53 P))) (.node (o29 P) (lf (o45 P)) (lf (o61 P)))))) (.node (boot_o_2 P) (.node (boot_o_4 P) (.node (boot_o_8 P) (.node (o16 P) (lf (o32 P)) (lf (o48 P))) (.node (o24 P) (lf (o40 P)) (lf (o56 P)))) (.node (o12v1 P) (.node (o20 P) (lf (o36 P)) (lf (o52 P))) (.node (o28 P) (lf (o44 P)) (lf (o60 P))))) (.node (boot_o_6 P) (.node (boot_o_10 P) (.node (o18 P) (lf (o34 P)) (lf (o50 P))) (.node (o26 P) (lf (o42 P)) (lf (o58 P)))) (.node (o14 P) (.node (o22 P) (lf (o38 P)) (lf (o54 P))) (.node (o30 P) (lf (o46 P)) .nil)))))
noncomputable def t0S (P : Params) (os : OsState) : SharedT := ⟨t0 P, 62, (.mk [] [] [] 0 [] [] .false (List.toArray []) [] 0 .false .false .false 0 [2000, 10, 10] .false 0 .true [] [] 0 .false), ⟨[]⟩, (.mk 0 0 0 0), 258, os⟩
set_option maxRecDepth 100000 in
theorem pc0 (w : World) : (fun os => segRunT treeTable pw w 11 annH 1 391 (tBS (w).params os) (piecesOf (((behindTheImports pw).drop 0).take 11) envH cE ((.mk 0 0 0 0) : Pos) [topFrame qH])) = fun os => some (.next, t0S (w).params os, cE, ((.mk 32 0 37 12) : Pos)) := by
  unfold piecesOf; rw [PySem.W.Fast.te10110043849684766642, PySem.W.Fast.te14364793385576792824, PySem.W.Fast.te12563942051412417395]; kernel_rfl!
noncomputable def o3v1 (P : Params) : Obj := (PySem.Obj.mk (.type "dict") .none (.dict (List.toArray [(.mk (PySem.PyData.keyHash P (Str.ofString "__name__")) (.str (Str.ofString "__name__") 165) (.str (Str.ofString "heatnet.exact") 240)), (.mk (PySem.PyData.keyHash P (Str.ofString "__doc__")) (.str (Str.ofString "__doc__") 166) .none), (.mk (PySem.PyData.keyHash P (Str.ofString "__package__")) (.str (Str.ofString "__package__") 167) .none), (.mk (PySem.PyData.keyHash P (Str.ofString "__loader__")) (.str (Str.ofString "__loader__") 168) (.builtin "__main__.__loader__#opaque")), (.mk (PySem.PyData.keyHash P (Str.ofString "__spec__")) (.str (Str.ofString "__spec__") 169) .none), (.mk (PySem.PyData.keyHash P (Str.ofString "__annotations__")) (.str (Str.ofString "__annotations__") 170) (.ref 6)), (.mk (PySem.PyData.keyHash P (Str.ofString "__builtins__")) (.str (Str.ofString "__builtins__") 171) (.ref 4)), (.mk (PySem.PyData.keyHash P (Str.ofString "__file__")) (.str (Str.ofString "__file__") 173) (.str (Str.ofString "/claim/cut.py") 172)), (.mk (PySem.PyData.keyHash P (Str.ofString "__cached__")) (.str (Str.ofString "__cached__") 174) .none), (.mk (PySem.PyData.keyHash P (Str.ofString "HeatError")) (.str (Str.ofString "HeatError") 206) (.ref 24)), (.mk (PySem.PyData.keyHash P (Str.ofString "need_number")) (.str (Str.ofString "need_number") 216) (.ref 34)), (.mk (PySem.PyData.keyHash P (Str.ofString "shown")) (.str (Str.ofString "shown") 223) (.ref 41)), (.mk (PySem.PyData.keyHash P (Str.ofString "whole")) (.str (Str.ofString "whole") 229) (.ref 46)), (.mk (PySem.PyData.keyHash P (Str.ofString "need_name")) (.str (Str.ofString "need_name") 239) (.ref 53)), (.mk (PySem.PyData.keyHash P (Str.ofString "FIGURES")) (.str (Str.ofString "FIGURES") 243) (.int 2000 242)), (.mk (PySem.PyData.keyHash P (Str.ofString "MOST")) (.str (Str.ofString "MOST") 246) (.int 100000000000000000000000000000000000000000000000000000000000000000000000000000000000000000000000000000000000000000000000000000000000000000000000000000000000000000000000000000000000000000000000000000000000000000000000000000000000000000000000000000000000000000000000000000000000000000000000000000000000000000000000000000000000000000000000000000000000000000000000000000000000000000000000000000000000000000000000000000000000000000000000000000000000000000000000000000000000000000000000000000000000000000000000000000000000000000000000000000000000000000000000000000000000000000000000000000000000000000000000000000000000000000000000000000000000000000000000000000000000000000000000000000000000000000000000000000000000000000000000000000000000000000000000000000000000000000000000000000000000000000000000000000000000000000000000000000000000000000000000000000000000000000000000000000000000000000000000000000000000000000000000000000000000000000000000000000000000000000000000000000000000000000000000000000000000000000000000000000000000000000000000000000000000000000000000000000000000000000000000000000000000000000000000000000000000000000000000000000000000000000000000000000000000000000000000000000000000000000000000000000000000000000000000000000000000000000000000000000000000000000000000000000000000000000000000000000000000000000000000000000000000000000000000000000000000000000000000000000000000000000000000000000000000000000000000000000000000000000000000000000000000000000000000000000000000000000000000000000000000000000000000000000000000000000000000000000000000000000000000000000000000000000000000000000000000000000000000000000000000000000000000000000000000000000000000000000000000000000000000000000000000000000000000000000000000000000000000000000000000000000000000000000000000000000000000000000000000000000000000000000000000000000000000000000000000000000000000000000000000000000000000000000000000000000000000000000000000000000000000000000000000000000000000000000000000000000000000000000000000000000000000000000000 245)), (.mk (PySem.PyData.keyHash P (Str.ofString "NOUGHT")) (.str (Str.ofString "NOUGHT") 249) (.ref 54)), (.mk (PySem.PyData.keyHash P (Str.ofString "divisor")) (.str (Str.ofString "divisor") 257) (.ref 61)), (.mk (PySem.PyData.keyHash P (Str.ofString "frac")) (.str (Str.ofString "frac") 267) (.ref 69)), (.mk (PySem.PyData.keyHash P (Str.ofString "need")) (.str (Str.ofString "need") 275) (.ref 77)), (.mk (PySem.PyData.keyHash P (Str.ofString "plus")) (.str (Str.ofString "plus") 283) (.ref 84)), (.mk (PySem.PyData.keyHash P (Str.ofString "minus")) (.str (Str.ofString "minus") 291) (.ref 91)), (.mk (PySem.PyData.keyHash P (Str.ofString "times")) (.str (Str.ofString "times") 299) (.ref 98)), (.mk (PySem.PyData.keyHash P (Str.ofString "over")) (.str (Str.ofString "over") 307) (.ref 105)), (.mk (PySem.PyData.keyHash P (Str.ofString "size")) (.str (Str.ofString "size") 314) (.ref 112)), (.mk (PySem.PyData.keyHash P (Str.ofString "less")) (.str (Str.ofString "less") 322) (.ref 119)), (.mk (PySem.PyData.keyHash P (Str.ofString "at_most")) (.str (Str.ofString "at_most") 330) (.ref 126)), (.mk (PySem.PyData.keyHash P (Str.ofString "least")) (.str (Str.ofString "least") 338) (.ref 133)), (.mk (PySem.PyData.keyHash P (Str.ofString "greatest")) (.str (Str.ofString "greatest") 346) (.ref 140)), (.mk (PySem.PyData.keyHash P (Str.ofString "total")) (.str (Str.ofString "total") 355) (.ref 147)), (.mk (PySem.PyData.keyHash P (Str.ofString "up")) (.str (Str.ofString "up") 362) (.ref 154))]) 31) (List.toArray []))
noncomputable def o12v2 (P : Params) : Obj := (PySem.Obj.mk .none .none (.fields (List.toArray ((.int 2 0) :: (.int 0 0) :: (.ref 20) :: (.int 4 0) :: (.int 0 0) :: (.ref 33) :: (.int 8 0) :: (.int 0 0) :: (.ref 40) :: (.int 14 0) :: (.int 0 0) :: (.ref 45) :: (.int 19 0) :: (.int 0 0) :: (.ref 52) :: (.int 32 0) :: (.int 0 0) :: (.ref 60) :: (.int 38 0) :: (.int 0 0) :: (.ref 68) :: (.int 48 0) :: (.int 0 0) :: (.ref 76) :: (.int 54 0) :: (.int 0 0) :: (.ref 83) :: (.int 56 0) :: (.int 0 0) :: (.ref 90) :: (.int 58 0) :: (.int 0 0) :: (.ref 97) :: (.int 60 0) :: (.int 0 0) :: (.ref 104) :: (.int 64 0) :: (.int 0 0) :: (.ref 111) :: (.int 66 0) :: (.int 0 0) :: (.ref 118) :: (.int 68 0) :: (.int 0 0) :: (.ref 125) :: (.int 70 0) :: (.int 0 0) :: (.ref 132) :: (.int 72 0) :: (.int 0 0) :: (.ref 139) :: (.int 74 0) :: (.int 0 0) :: (.ref 146) :: (.int 79 0) :: (.int 0 0) :: (.ref 153) :: []))) (List.toArray []))
noncomputable def o62 (P : Params) : Obj := (PySem.Obj.mk (.type "tuple") .none (.seq (List.toArray [(.int 1 258)]) 0) (List.toArray []))
noncomputable def o63 (P : Params) : Obj := (PySem.Obj.mk (.type "tuple") .none (.seq (List.toArray []) 0) (List.toArray []))
noncomputable def o64 (P : Params) : Obj := (PySem.Obj.mk .none .none (.fields (List.toArray [])) (List.toArray []))
noncomputable def o65 (P : Params) : Obj := (PySem.Obj.mk (.type "tuple") .none (.seq (List.toArray [(.str (Str.ofString "upper") 262), (.str (Str.ofString "lower") 263), (.str (Str.ofString "by") 264)]) 0) (List.toArray []))
noncomputable def o66 (P : Params) : Obj := (PySem.Obj.mk (.type "tuple") .none (.seq (List.toArray []) 0) (List.toArray []))
noncomputable def o67 (P : Params) : Obj := (PySem.Obj.mk .none .none (.func (FuncData.mk (Str.ofString "frac") (Str.ofString "frac") fa11.1 (.stmts fb11.1) fs11.1 0 [] .none .none .none .none .none .none .none 0)) (List.toArray []))
noncomputable def o68 (P : Params) : Obj := (PySem.Obj.mk (.type "code") .none (.fields (List.toArray [(.str (Str.ofString "frac") 259), (.str (Str.ofString "frac") 260), (.str (Str.ofString "/claim/cut.py") 261), (.int 38 0), (.int 2 0), (.int 0 0), (.int 0 0), (.int 3 0), (.ref 63), (.bool .true), (.int 181 0), (.ref 64), .none, (.ref 65), (.ref 66), (.ref 67), (.int 265 0), (.int 38 0), (.str (Str.ofString "/claim/cut.py") 266)])) (List.toArray []))
noncomputable def o69 (P : Params) : Obj := (PySem.Obj.mk (.type "function") .none (.func (FuncData.mk (Str.ofString "frac") (Str.ofString "frac") fa11.1 (.stmts fb11.1) fs11.1 3 [] (.ref 62) .none .none (.str (Str.ofString "heatnet.exact") 240) .none (.ref 68) .none 0)) (List.toArray []))
noncomputable def o70 (P : Params) : Obj := (PySem.Obj.mk (.type "tuple") .none (.seq (List.toArray [.none]) 0) (List.toArray []))
noncomputable def o71 (P : Params) : Obj := (PySem.Obj.mk (.type "tuple") .none (.seq (List.toArray []) 0) (List.toArray []))
noncomputable def o72 (P : Params) : Obj := (PySem.Obj.mk .none .none (.fields (List.toArray [])) (List.toArray []))
noncomputable def o73 (P : Params) : Obj := (PySem.Obj.mk (.type "tuple") .none (.seq (List.toArray [(.str (Str.ofString "a") 271), (.str (Str.ofString "least") 272)]) 0) (List.toArray []))
noncomputable def o74 (P : Params) : Obj := (PySem.Obj.mk (.type "tuple") .none (.seq (List.toArray []) 0) (List.toArray []))
noncomputable def o75 (P : Params) : Obj := (PySem.Obj.mk .none .none (.func (FuncData.mk (Str.ofString "need") (Str.ofString "need") fa12.1 (.stmts fb12.1) fs12.1 0 [] .none .none .none .none .none .none .none 0)) (List.toArray []))
noncomputable def o76 (P : Params) : Obj := (PySem.Obj.mk (.type "code") .none (.fields (List.toArray [(.str (Str.ofString "need") 268), (.str (Str.ofString "need") 269), (.str (Str.ofString "/claim/cut.py") 270), (.int 48 0), (.int 2 0), (.int 0 0), (.int 0 0), (.int 3 0), (.ref 71), (.bool .true), (.int 181 0), (.ref 72), .none, (.ref 73), (.ref 74), (.ref 75), (.int 273 0), (.int 48 0), (.str (Str.ofString "/claim/cut.py") 274)])) (List.toArray []))
noncomputable def o77 (P : Params) : Obj := (PySem.Obj.mk (.type "function") .none (.func (FuncData.mk (Str.ofString "need") (Str.ofString "need") fa12.1 (.stmts fb12.1) fs12.1 3 [] (.ref 70) .none .none (.str (Str.ofString "heatnet.exact") 240) .none (.ref 76) .none 0)) (List.toArray []))
noncomputable def o78 (P : Params) : Obj := (PySem.Obj.mk (.type "tuple") .none (.seq (List.toArray []) 0) (List.toArray []))
noncomputable def o79 (P : Params) : Obj := (PySem.Obj.mk .none .none (.fields (List.toArray [])) (List.toArray []))
noncomputable def o80 (P : Params) : Obj := (PySem.Obj.mk (.type "tuple") .none (.seq (List.toArray [(.str (Str.ofString "a") 279), (.str (Str.ofString "b") 280)]) 0) (List.toArray []))
noncomputable def o81 (P : Params) : Obj := (PySem.Obj.mk (.type "tuple") .none (.seq (List.toArray []) 0) (List.toArray []))
noncomputable def o82 (P : Params) : Obj := (PySem.Obj.mk .none .none (.func (FuncData.mk (Str.ofString "plus") (Str.ofString "plus") fa13.1 (.stmts fb13.1) fs13.1 0 [] .none .none .none .none .none .none .none 0)) (List.toArray []))
noncomputable def o83 (P : Params) : Obj := (PySem.Obj.mk (.type "code") .none (.fields (List.toArray [(.str (Str.ofString "plus") 276), (.str (Str.ofString "plus") 277), (.str (Str.ofString "/claim/cut.py") 278), (.int 54 0), (.int 2 0), (.int 0 0), (.int 0 0), (.int 3 0), (.ref 78), (.bool .true), (.int 181 0), (.ref 79), .none, (.ref 80), (.ref 81), (.ref 82), (.int 281 0), (.int 54 0), (.str (Str.ofString "/claim/cut.py") 282)])) (List.toArray []))
noncomputable def o84 (P : Params) : Obj := (PySem.Obj.mk (.type "function") .none (.func (FuncData.mk (Str.ofString "plus") (Str.ofString "plus") fa13.1 (.stmts fb13.1) fs13.1 3 [] .none .none .none (.str (Str.ofString "heatnet.exact") 240) .none (.ref 83) .none 0)) (List.toArray []))
noncomputable def o85 (P : Params) : Obj := (PySem.Obj.mk (.type "tuple") .none (.seq (List.toArray []) 0) (List.toArray []))
noncomputable def o86 (P : Params) : Obj := (PySem.Obj.mk .none .none (.fields (List.toArray [])) (List.toArray []))
noncomputable def o87 (P : Params) : Obj := (PySem.Obj.mk (.type "tuple") .none (.seq (List.toArray [(.str (Str.ofString "a") 287), (.str (Str.ofString "b") 288)]) 0) (List.toArray []))
noncomputable def o88 (P : Params) : Obj := (PySem.Obj.mk (.type "tuple") .none (.seq (List.toArray []) 0) (List.toArray []))
noncomputable def o89 (P : Params) : Obj := (PySem.Obj.mk .none .none (.func (FuncData.mk (Str.ofString "minus") (Str.ofString "minus") fa14.1 (.stmts fb14.1) fs14.1 0 [] .none .none .none .none .none .none .none 0)) (List.toArray []))
noncomputable def o90 (P : Params) : Obj := (PySem.Obj.mk (.type "code") .none (.fields (List.toArray [(.str (Str.ofString "minus") 284), (.str (Str.ofString "minus") 285), (.str (Str.ofString "/claim/cut.py") 286), (.int 56 0), (.int 2 0), (.int 0 0), (.int 0 0), (.int 3 0), (.ref 85), (.bool .true), (.int 181 0), (.ref 86), .none, (.ref 87), (.ref 88), (.ref 89), (.int 289 0), (.int 56 0), (.str (Str.ofString "/claim/cut.py") 290)])) (List.toArray []))
noncomputable def o91 (P : Params) : Obj := (PySem.Obj.mk (.type "function") .none (.func (FuncData.mk (Str.ofString "minus") (Str.ofString "minus") fa14.1 (.stmts fb14.1) fs14.1 3 [] .none .none .none (.str (Str.ofString "heatnet.exact") 240) .none (.ref 90) .none 0)) (List.toArray []))
noncomputable def o92 (P : Params) : Obj := (PySem.Obj.mk (.type "tuple") .none (.seq (List.toArray []) 0) (List.toArray []))
noncomputable def o93 (P : Params) : Obj := (PySem.Obj.mk .none .none (.fields (List.toArray [])) (List.toArray []))
noncomputable def o94 (P : Params) : Obj := (PySem.Obj.mk (.type "tuple") .none (.seq (List.toArray [(.str (Str.ofString "a") 295), (.str (Str.ofString "b") 296)]) 0) (List.toArray []))
noncomputable def o95 (P : Params) : Obj := (PySem.Obj.mk (.type "tuple") .none (.seq (List.toArray []) 0) (List.toArray []))
noncomputable def o96 (P : Params) : Obj := (PySem.Obj.mk .none .none (.func (FuncData.mk (Str.ofString "times") (Str.ofString "times") fa15.1 (.stmts fb15.1) fs15.1 0 [] .none .none .none .none .none .none .none 0)) (List.toArray []))
noncomputable def o97 (P : Params) : Obj := (PySem.Obj.mk (.type "code") .none (.fields (List.toArray [(.str (Str.ofString "times") 292), (.str (Str.ofString "times") 293), (.str (Str.ofString "/claim/cut.py") 294), (.int 58 0), (.int 2 0), (.int 0 0), (.int 0 0), (.int 3 0), (.ref 92), (.bool .true), (.int 181 0), (.ref 93), .none, (.ref 94), (.ref 95), (.ref 96), (.int 297 0), (.int 58 0), (.str (Str.ofString "/claim/cut.py") 298)])) (List.toArray []))
noncomputable def o98 (P : Params) : Obj := (PySem.Obj.mk (.type "function") .none (.func (FuncData.mk (Str.ofString "times") (Str.ofString "times") fa15.1 (.stmts fb15.1) fs15.1 3 [] .none .none .none (.str (Str.ofString "heatnet.exact") 240) .none (.ref 97) .none 0)) (List.toArray []))
noncomputable def o99 (P : Params) : Obj := (PySem.Obj.mk (.type "tuple") .none (.seq (List.toArray []) 0) (List.toArray []))
noncomputable def o100 (P : Params) : Obj := (PySem.Obj.mk .none .none (.fields (List.toArray [])) (List.toArray []))
noncomputable def o101 (P : Params) : Obj := (PySem.Obj.mk (.type "tuple") .none (.seq (List.toArray [(.str (Str.ofString "a") 303), (.str (Str.ofString "b") 304)]) 0) (List.toArray []))
noncomputable def o102 (P : Params) : Obj := (PySem.Obj.mk (.type "tuple") .none (.seq (List.toArray []) 0) (List.toArray []))
noncomputable def o103 (P : Params) : Obj := (PySem.Obj.mk .none .none (.func (FuncData.mk (Str.ofString "over") (Str.ofString "over") fa16.1 (.stmts fb16.1) fs16.1 0 [] .none .none .none .none .none .none .none 0)) (List.toArray []))
noncomputable def o104 (P : Params) : Obj := (PySem.Obj.mk (.type "code") .none (.fields (List.toArray [(.str (Str.ofString "over") 300), (.str (Str.ofString "over") 301), (.str (Str.ofString "/claim/cut.py") 302), (.int 60 0), (.int 2 0), (.int 0 0), (.int 0 0), (.int 3 0), (.ref 99), (.bool .true), (.int 181 0), (.ref 100), .none, (.ref 101), (.ref 102), (.ref 103), (.int 305 0), (.int 60 0), (.str (Str.ofString "/claim/cut.py") 306)])) (List.toArray []))
noncomputable def o105 (P : Params) : Obj := (PySem.Obj.mk (.type "function") .none (.func (FuncData.mk (Str.ofString "over") (Str.ofString "over") fa16.1 (.stmts fb16.1) fs16.1 3 [] .none .none .none (.str (Str.ofString "heatnet.exact") 240) .none (.ref 104) .none 0)) (List.toArray []))
noncomputable def o106 (P : Params) : Obj := (PySem.Obj.mk (.type "tuple") .none (.seq (List.toArray []) 0) (List.toArray []))
noncomputable def o107 (P : Params) : Obj := (PySem.Obj.mk .none .none (.fields (List.toArray [])) (List.toArray []))
noncomputable def o108 (P : Params) : Obj := (PySem.Obj.mk (.type "tuple") .none (.seq (List.toArray [(.str (Str.ofString "a") 311)]) 0) (List.toArray []))
noncomputable def o109 (P : Params) : Obj := (PySem.Obj.mk (.type "tuple") .none (.seq (List.toArray []) 0) (List.toArray []))
noncomputable def o110 (P : Params) : Obj := (PySem.Obj.mk .none .none (.func (FuncData.mk (Str.ofString "size") (Str.ofString "size") fa17.1 (.stmts fb17.1) fs17.1 0 [] .none .none .none .none .none .none .none 0)) (List.toArray []))
noncomputable def o111 (P : Params) : Obj := (PySem.Obj.mk (.type "code") .none (.fields (List.toArray [(.str (Str.ofString "size") 308), (.str (Str.ofString "size") 309), (.str (Str.ofString "/claim/cut.py") 310), (.int 64 0), (.int 1 0), (.int 0 0), (.int 0 0), (.int 3 0), (.ref 106), (.bool .true), (.int 181 0), (.ref 107), .none, (.ref 108), (.ref 109), (.ref 110), (.int 312 0), (.int 64 0), (.str (Str.ofString "/claim/cut.py") 313)])) (List.toArray []))
noncomputable def o112 (P : Params) : Obj := (PySem.Obj.mk (.type "function") .none (.func (FuncData.mk (Str.ofString "size") (Str.ofString "size") fa17.1 (.stmts fb17.1) fs17.1 3 [] .none .none .none (.str (Str.ofString "heatnet.exact") 240) .none (.ref 111) .none 0)) (List.toArray []))
noncomputable def o113 (P : Params) : Obj := (PySem.Obj.mk (.type "tuple") .none (.seq (List.toArray []) 0) (List.toArray []))
noncomputable def o114 (P : Params) : Obj := (PySem.Obj.mk .none .none (.fields (List.toArray [])) (List.toArray []))
noncomputable def o115 (P : Params) : Obj := (PySem.Obj.mk (.type "tuple") .none (.seq (List.toArray [(.str (Str.ofString "a") 318), (.str (Str.ofString "b") 319)]) 0) (List.toArray []))
noncomputable def o116 (P : Params) : Obj := (PySem.Obj.mk (.type "tuple") .none (.seq (List.toArray []) 0) (List.toArray []))
noncomputable def o117 (P : Params) : Obj := (PySem.Obj.mk .none .none (.func (FuncData.mk (Str.ofString "less") (Str.ofString "less") fa18.1 (.stmts fb18.1) fs18.1 0 [] .none .none .none .none .none .none .none 0)) (List.toArray []))
noncomputable def o118 (P : Params) : Obj := (PySem.Obj.mk (.type "code") .none (.fields (List.toArray [(.str (Str.ofString "less") 315), (.str (Str.ofString "less") 316), (.str (Str.ofString "/claim/cut.py") 317), (.int 66 0), (.int 2 0), (.int 0 0), (.int 0 0), (.int 3 0), (.ref 113), (.bool .true), (.int 181 0), (.ref 114), .none, (.ref 115), (.ref 116), (.ref 117), (.int 320 0), (.int 66 0), (.str (Str.ofString "/claim/cut.py") 321)])) (List.toArray []))
noncomputable def o119 (P : Params) : Obj := (PySem.Obj.mk (.type "function") .none (.func (FuncData.mk (Str.ofString "less") (Str.ofString "less") fa18.1 (.stmts fb18.1) fs18.1 3 [] .none .none .none (.str (Str.ofString "heatnet.exact") 240) .none (.ref 118) .none 0)) (List.toArray []))
noncomputable def o120 (P : Params) : Obj := (PySem.Obj.mk (.type "tuple") .none (.seq (List.toArray []) 0) (List.toArray []))
noncomputable def o121 (P : Params) : Obj := (PySem.Obj.mk .none .none (.fields (List.toArray [])) (List.toArray []))
noncomputable def o122 (P : Params) : Obj := (PySem.Obj.mk (.type "tuple") .none (.seq (List.toArray [(.str (Str.ofString "a") 326), (.str (Str.ofString "b") 327)]) 0) (List.toArray []))
noncomputable def o123 (P : Params) : Obj := (PySem.Obj.mk (.type "tuple") .none (.seq (List.toArray []) 0) (List.toArray []))
noncomputable def o124 (P : Params) : Obj := (PySem.Obj.mk .none .none (.func (FuncData.mk (Str.ofString "at_most") (Str.ofString "at_most") fa19.1 (.stmts fb19.1) fs19.1 0 [] .none .none .none .none .none .none .none 0)) (List.toArray []))
noncomputable def o125 (P : Params) : Obj := (PySem.Obj.mk (.type "code") .none (.fields (List.toArray [(.str (Str.ofString "at_most") 323), (.str (Str.ofString "at_most") 324), (.str (Str.ofString "/claim/cut.py") 325), (.int 68 0), (.int 2 0), (.int 0 0), (.int 0 0), (.int 3 0), (.ref 120), (.bool .true), (.int 181 0), (.ref 121), .none, (.ref 122), (.ref 123), (.ref 124), (.int 328 0), (.int 68 0), (.str (Str.ofString "/claim/cut.py") 329)])) (List.toArray []))
noncomputable def o126 (P : Params) : Obj := (PySem.Obj.mk (.type "function") .none (.func (FuncData.mk (Str.ofString "at_most") (Str.ofString "at_most") fa19.1 (.stmts fb19.1) fs19.1 3 [] .none .none .none (.str (Str.ofString "heatnet.exact") 240) .none (.ref 125) .none 0)) (List.toArray []))
noncomputable def o127 (P : Params) : Obj := (PySem.Obj.mk (.type "tuple") .none (.seq (List.toArray []) 0) (List.toArray []))
noncomputable def o128 (P : Params) : Obj := (PySem.Obj.mk .none .none (.fields (List.toArray [])) (List.toArray []))
noncomputable def o129 (P : Params) : Obj := (PySem.Obj.mk (.type "tuple") .none (.seq (List.toArray [(.str (Str.ofString "a") 334), (.str (Str.ofString "b") 335)]) 0) (List.toArray []))
noncomputable def o130 (P : Params) : Obj := (PySem.Obj.mk (.type "tuple") .none (.seq (List.toArray []) 0) (List.toArray []))
noncomputable def o131 (P : Params) : Obj := (PySem.Obj.mk .none .none (.func (FuncData.mk (Str.ofString "least") (Str.ofString "least") fa20.1 (.stmts fb20.1) fs20.1 0 [] .none .none .none .none .none .none .none 0)) (List.toArray []))
noncomputable def o132 (P : Params) : Obj := (PySem.Obj.mk (.type "code") .none (.fields (List.toArray [(.str (Str.ofString "least") 331), (.str (Str.ofString "least") 332), (.str (Str.ofString "/claim/cut.py") 333), (.int 70 0), (.int 2 0), (.int 0 0), (.int 0 0), (.int 3 0), (.ref 127), (.bool .true), (.int 181 0), (.ref 128), .none, (.ref 129), (.ref 130), (.ref 131), (.int 336 0), (.int 70 0), (.str (Str.ofString "/claim/cut.py") 337)])) (List.toArray []))
noncomputable def o133 (P : Params) : Obj := (PySem.Obj.mk (.type "function") .none (.func (FuncData.mk (Str.ofString "least") (Str.ofString "least") fa20.1 (.stmts fb20.1) fs20.1 3 [] .none .none .none (.str (Str.ofString "heatnet.exact") 240) .none (.ref 132) .none 0)) (List.toArray []))
noncomputable def o134 (P : Params) : Obj := (PySem.Obj.mk (.type "tuple") .none (.seq (List.toArray []) 0) (List.toArray []))
noncomputable def o135 (P : Params) : Obj := (PySem.Obj.mk .none .none (.fields (List.toArray [])) (List.toArray []))
noncomputable def o136 (P : Params) : Obj := (PySem.Obj.mk (.type "tuple") .none (.seq (List.toArray [(.str (Str.ofString "a") 342), (.str (Str.ofString "b") 343)]) 0) (List.toArray []))
noncomputable def o137 (P : Params) : Obj := (PySem.Obj.mk (.type "tuple") .none (.seq (List.toArray []) 0) (List.toArray []))
noncomputable def o138 (P : Params) : Obj := (PySem.Obj.mk .none .none (.func (FuncData.mk (Str.ofString "greatest") (Str.ofString "greatest") fa21.1 (.stmts fb21.1) fs21.1 0 [] .none .none .none .none .none .none .none 0)) (List.toArray []))
noncomputable def o139 (P : Params) : Obj := (PySem.Obj.mk (.type "code") .none (.fields (List.toArray [(.str (Str.ofString "greatest") 339), (.str (Str.ofString "greatest") 340), (.str (Str.ofString "/claim/cut.py") 341), (.int 72 0), (.int 2 0), (.int 0 0), (.int 0 0), (.int 3 0), (.ref 134), (.bool .true), (.int 181 0), (.ref 135), .none, (.ref 136), (.ref 137), (.ref 138), (.int 344 0), (.int 72 0), (.str (Str.ofString "/claim/cut.py") 345)])) (List.toArray []))
noncomputable def o140 (P : Params) : Obj := (PySem.Obj.mk (.type "function") .none (.func (FuncData.mk (Str.ofString "greatest") (Str.ofString "greatest") fa21.1 (.stmts fb21.1) fs21.1 3 [] .none .none .none (.str (Str.ofString "heatnet.exact") 240) .none (.ref 139) .none 0)) (List.toArray []))
noncomputable def o141 (P : Params) : Obj := (PySem.Obj.mk (.type "tuple") .none (.seq (List.toArray []) 0) (List.toArray []))
noncomputable def o142 (P : Params) : Obj := (PySem.Obj.mk .none .none (.fields (List.toArray [])) (List.toArray []))
noncomputable def o143 (P : Params) : Obj := (PySem.Obj.mk (.type "tuple") .none (.seq (List.toArray [(.str (Str.ofString "row") 350), (.str (Str.ofString "out") 351), (.str (Str.ofString "one") 352)]) 0) (List.toArray []))
noncomputable def o144 (P : Params) : Obj := (PySem.Obj.mk (.type "tuple") .none (.seq (List.toArray []) 0) (List.toArray []))
noncomputable def o145 (P : Params) : Obj := (PySem.Obj.mk .none .none (.func (FuncData.mk (Str.ofString "total") (Str.ofString "total") fa22.1 (.stmts fb22.1) fs22.1 0 [] .none .none .none .none .none .none .none 0)) (List.toArray []))
noncomputable def o146 (P : Params) : Obj := (PySem.Obj.mk (.type "code") .none (.fields (List.toArray [(.str (Str.ofString "total") 347), (.str (Str.ofString "total") 348), (.str (Str.ofString "/claim/cut.py") 349), (.int 74 0), (.int 1 0), (.int 0 0), (.int 0 0), (.int 3 0), (.ref 141), (.bool .true), (.int 181 0), (.ref 142), .none, (.ref 143), (.ref 144), (.ref 145), (.int 353 0), (.int 74 0), (.str (Str.ofString "/claim/cut.py") 354)])) (List.toArray []))
noncomputable def o147 (P : Params) : Obj := (PySem.Obj.mk (.type "function") .none (.func (FuncData.mk (Str.ofString "total") (Str.ofString "total") fa22.1 (.stmts fb22.1) fs22.1 3 [] .none .none .none (.str (Str.ofString "heatnet.exact") 240) .none (.ref 146) .none 0)) (List.toArray []))
noncomputable def o148 (P : Params) : Obj := (PySem.Obj.mk (.type "tuple") .none (.seq (List.toArray []) 0) (List.toArray []))
noncomputable def o149 (P : Params) : Obj := (PySem.Obj.mk .none .none (.fields (List.toArray [])) (List.toArray []))
noncomputable def o150 (P : Params) : Obj := (PySem.Obj.mk (.type "tuple") .none (.seq (List.toArray [(.str (Str.ofString "a") 359)]) 0) (List.toArray []))
noncomputable def o151 (P : Params) : Obj := (PySem.Obj.mk (.type "tuple") .none (.seq (List.toArray []) 0) (List.toArray []))
noncomputable def o152 (P : Params) : Obj := (PySem.Obj.mk .none .none (.func (FuncData.mk (Str.ofString "up") (Str.ofString "up") fa23.1 (.stmts fb23.1) fs23.1 0 [] .none .none .none .none .none .none .none 0)) (List.toArray []))
noncomputable def o153 (P : Params) : Obj := (PySem.Obj.mk (.type "code") .none (.fields (List.toArray [(.str (Str.ofString "up") 356), (.str (Str.ofString "up") 357), (.str (Str.ofString "/claim/cut.py") 358), (.int 79 0), (.int 1 0), (.int 0 0), (.int 0 0), (.int 3 0), (.ref 148), (.bool .true), (.int 181 0), (.ref 149), .none, (.ref 150), (.ref 151), (.ref 152), (.int 360 0), (.int 79 0), (.str (Str.ofString "/claim/cut.py") 361)])) (List.toArray []))
noncomputable def o154 (P : Params) : Obj := (PySem.Obj.mk (.type "function") .none (.func (FuncData.mk (Str.ofString "up") (Str.ofString "up") fa23.1 (.stmts fb23.1) fs23.1 3 [] .none .none .none (.str (Str.ofString "heatnet.exact") 240) .none (.ref 153) .none 0)) (List.toArray []))
noncomputable def t1 (P : Params) : BT := (.node (boot_o_0 P) (.node (boot_o_1 P) (.node (o3v1 P) (.node (boot_o_7 P) (.node (o15 P) (.node (o31 P) (.node (o63 P) (lf (o127 P)) .nil) (lf (o95 P))) (.node (o47 P) (.node (o79 P) (lf (o143 P)) .nil) (lf (o111 P)))) (.node (o23 P) (.node (o39 P) (.node (o71 P) (lf (o135 P)) .nil) (lf (o103 P))) (.node (o55 P) (.node (o87 P) (lf (o151 P)) .nil) (lf (o119 P))))) (.node (o11 P) (.node (o19 P) (.node (o35 P) (.node (o67 P) (lf (o131 P)) .nil) (lf (o99 P))) (.node (o51 P) (.node (o83 P) (lf (o147 P)) .nil) (lf (o115 P)))) (.node (o27 P) (.node (o43 P) (.node (o75 P) (lf (o139 P)) .nil) (lf (o107 P))) (.node (o59 P) (lf (o91 P)) (lf (o123 P)))))) (.node (boot_o_5 P) (.node (boot_o_9 P) (.node (o17 P) (.node (o33 P) (.node (o65 P) (lf (o129 P)) .nil) (lf (o97 P))) (.node (o49 P) (.node (o81 P) (lf (o145 P)) .nil) (lf (o113 P)))) (.node (o25 P) (.node (o41 P) (.node (o73 P) (lf (o137 P)) .nil) (lf (o105 P))) (.node (o57 P) (.node (o89 P) (lf (o153 P)) .nil) (lf (o121 P))))) (.node (o13 P) (.node (o21 P) (.node (o37 P) (.node (o69 P) (lf (o133 P)) .nil) (lf (o101 P))) (.node (o53 P) (.node (o85 P) (lf (o149 P)) .nil) (lf (o117 P)))) (.node (o29 P) (.node (o45 P) (.node (o77 P) (lf (o141 P)) .nil) (lf (o109 P))) (.node (o61 P) (lf (o93 P)) (lf (o125 P))))))) (.node (boot_o_2 P) (.node (boot_o_4 P) (.node (boot_o_8 P) (.node (o16 P) (.node (o32 P) (.node (o64 P) (lf (o128 P)) .nil) (lf (o96 P))) (.node (o48 P) (.node (o80 P) (lf (o144 P)) .nil) (lf (o112 P)))) (.node (o24 P) (.node (o40 P) (.node (o72 P) (lf (o136 P)) .nil) (lf (o104 P))) (.node (o56 P) (.node (o88 P) (lf (o152 P)) .nil) (lf (o120 P))))) (.node (o12v2 P) (.node (o20 P) (.node (o36 P) (.node (o68 P) (lf (o132 P)) .nil) (lf (o100 P))) (.node (o52 P) (.node (o84 P) (lf (o148 P)) .nil) (lf (o116 P)))) (.node (o28 P) (.node (o44 P) (.node (o76 P) (lf (o140 P)) .nil) (lf (o108 P))) (.node (o60 P) (lf (o92 P)) (lf (o124 P)))))) (.node (boot_o_6 P) (.node (boot_o_10 P) (.node (o18 P) (.node (o34 P) (.node (o66 P) (lf (o130 P)) .nil) (lf (o98 P))) (.node (o50 P) (.node (o82 P) (lf (o146 P)) .nil) (lf (o114 P)))) (.node (o26 P) (.node (o42 P) (.node (o74 P) (lf (o138 P)) .nil) (lf (o106 P))) (.node (o58 P) (.node (o90 P) (lf (o154 P)) .nil) (lf (o122 P))))) (.node (o14 P) (.node (o22 P) (.node (o38 P) (.node (o70 P) (lf (o134 P)) .nil) (lf (o102 P))) (.node (o54 P) (.node (o86 P) (lf (o150 P)) .nil) (lf (o118 P)))) (.node (o30 P) (.node (o46 P) (.node (o78 P) (lf (o142 P)) .nil) (lf (o110 P))) (.node (o62 P) (lf (o94 P)) (lf (o126 P))))))))
noncomputable def t1S (P : Params) (os : OsState) : SharedT := ⟨t1 P, 155, (.mk [] [] [] 0 [] [] .false (List.toArray []) [] 0 .false .false .false 0 [2000, 10, 10] .false 0 .true [] [] 0 .false), ⟨[]⟩, (.mk 0 0 0 0), 363, os⟩
set_option maxRecDepth 100000 in
theorem pc1 (w : World) : (fun os => segRunT treeTable pw w 11 annH 1 394 (t0S (w).params os) (piecesOf (((behindTheImports pw).drop 11).take 13) envH cE ((.mk 32 0 37 12) : Pos) [topFrame qH])) = fun os => some (.next, t1S (w).params os, cE, ((.mk 79 0 80 27) : Pos)) := by
  unfold piecesOf; rw [PySem.W.Fast.te10110043849684766642, PySem.W.Fast.te14364793385576792824, PySem.W.Fast.te12563942051412417395]; kernel_rfl!
noncomputable def o3v2 (P : Params) : Obj := (PySem.Obj.mk (.type "dict") .none (.dict (List.toArray [(.mk (PySem.PyData.keyHash P (Str.ofString "__name__")) (.str (Str.ofString "__name__") 165) (.str (Str.ofString "law_ui0509_08") 382)), (.mk (PySem.PyData.keyHash P (Str.ofString "__doc__")) (.str (Str.ofString "__doc__") 166) .none), (.mk (PySem.PyData.keyHash P (Str.ofString "__package__")) (.str (Str.ofString "__package__") 167) .none), (.mk (PySem.PyData.keyHash P (Str.ofString "__loader__")) (.str (Str.ofString "__loader__") 168) (.builtin "__main__.__loader__#opaque")), (.mk (PySem.PyData.keyHash P (Str.ofString "__spec__")) (.str (Str.ofString "__spec__") 169) .none), (.mk (PySem.PyData.keyHash P (Str.ofString "__annotations__")) (.str (Str.ofString "__annotations__") 170) (.ref 6)), (.mk (PySem.PyData.keyHash P (Str.ofString "__builtins__")) (.str (Str.ofString "__builtins__") 171) (.ref 4)), (.mk (PySem.PyData.keyHash P (Str.ofString "__file__")) (.str (Str.ofString "__file__") 173) (.str (Str.ofString "/claim/cut.py") 172)), (.mk (PySem.PyData.keyHash P (Str.ofString "__cached__")) (.str (Str.ofString "__cached__") 174) .none), (.mk (PySem.PyData.keyHash P (Str.ofString "HeatError")) (.str (Str.ofString "HeatError") 206) (.ref 24)), (.mk (PySem.PyData.keyHash P (Str.ofString "need_number")) (.str (Str.ofString "need_number") 216) (.ref 34)), (.mk (PySem.PyData.keyHash P (Str.ofString "shown")) (.str (Str.ofString "shown") 223) (.ref 41)), (.mk (PySem.PyData.keyHash P (Str.ofString "whole")) (.str (Str.ofString "whole") 229) (.ref 46)), (.mk (PySem.PyData.keyHash P (Str.ofString "need_name")) (.str (Str.ofString "need_name") 239) (.ref 53)), (.mk (PySem.PyData.keyHash P (Str.ofString "FIGURES")) (.str (Str.ofString "FIGURES") 243) (.int 2000 242)), (.mk (PySem.PyData.keyHash P (Str.ofString "MOST")) (.str (Str.ofString "MOST") 246) (.int 100000000000000000000000000000000000000000000000000000000000000000000000000000000000000000000000000000000000000000000000000000000000000000000000000000000000000000000000000000000000000000000000000000000000000000000000000000000000000000000000000000000000000000000000000000000000000000000000000000000000000000000000000000000000000000000000000000000000000000000000000000000000000000000000000000000000000000000000000000000000000000000000000000000000000000000000000000000000000000000000000000000000000000000000000000000000000000000000000000000000000000000000000000000000000000000000000000000000000000000000000000000000000000000000000000000000000000000000000000000000000000000000000000000000000000000000000000000000000000000000000000000000000000000000000000000000000000000000000000000000000000000000000000000000000000000000000000000000000000000000000000000000000000000000000000000000000000000000000000000000000000000000000000000000000000000000000000000000000000000000000000000000000000000000000000000000000000000000000000000000000000000000000000000000000000000000000000000000000000000000000000000000000000000000000000000000000000000000000000000000000000000000000000000000000000000000000000000000000000000000000000000000000000000000000000000000000000000000000000000000000000000000000000000000000000000000000000000000000000000000000000000000000000000000000000000000000000000000000000000000000000000000000000000000000000000000000000000000000000000000000000000000000000000000000000000000000000000000000000000000000000000000000000000000000000000000000000000000000000000000000000000000000000000000000000000000000000000000000000000000000000000000000000000000000000000000000000000000000000000000000000000000000000000000000000000000000000000000000000000000000000000000000000000000000000000000000000000000000000000000000000000000000000000000000000000000000000000000000000000000000000000000000000000000000000000000000000000000000000000000000000000000000000000000000000000000000000000000000000000000000000000000000000000 245)), (.mk (PySem.PyData.keyHash P (Str.ofString "NOUGHT")) (.str (Str.ofString "NOUGHT") 249) (.ref 54)), (.mk (PySem.PyData.keyHash P (Str.ofString "divisor")) (.str (Str.ofString "divisor") 257) (.ref 61)), (.mk (PySem.PyData.keyHash P (Str.ofString "frac")) (.str (Str.ofString "frac") 267) (.ref 69)), (.mk (PySem.PyData.keyHash P (Str.ofString "need")) (.str (Str.ofString "need") 275) (.ref 77)), (.mk (PySem.PyData.keyHash P (Str.ofString "plus")) (.str (Str.ofString "plus") 283) (.ref 84)), (.mk (PySem.PyData.keyHash P (Str.ofString "minus")) (.str (Str.ofString "minus") 291) (.ref 91)), (.mk (PySem.PyData.keyHash P (Str.ofString "times")) (.str (Str.ofString "times") 299) (.ref 98)), (.mk (PySem.PyData.keyHash P (Str.ofString "over")) (.str (Str.ofString "over") 307) (.ref 105)), (.mk (PySem.PyData.keyHash P (Str.ofString "size")) (.str (Str.ofString "size") 314) (.ref 112)), (.mk (PySem.PyData.keyHash P (Str.ofString "less")) (.str (Str.ofString "less") 322) (.ref 119)), (.mk (PySem.PyData.keyHash P (Str.ofString "at_most")) (.str (Str.ofString "at_most") 330) (.ref 126)), (.mk (PySem.PyData.keyHash P (Str.ofString "least")) (.str (Str.ofString "least") 338) (.ref 133)), (.mk (PySem.PyData.keyHash P (Str.ofString "greatest")) (.str (Str.ofString "greatest") 346) (.ref 140)), (.mk (PySem.PyData.keyHash P (Str.ofString "total")) (.str (Str.ofString "total") 355) (.ref 147)), (.mk (PySem.PyData.keyHash P (Str.ofString "up")) (.str (Str.ofString "up") 362) (.ref 154)), (.mk (PySem.PyData.keyHash P (Str.ofString "show")) (.str (Str.ofString "show") 369) (.ref 161)), (.mk (PySem.PyData.keyHash P (Str.ofString "read")) (.str (Str.ofString "read") 375) (.ref 166)), (.mk (PySem.PyData.keyHash P (Str.ofString "solved")) (.str (Str.ofString "solved") 381) (.ref 171)), (.mk (PySem.PyData.keyHash P (Str.ofString "_law_cell")) (.str (Str.ofString "_law_cell") 391) (.ref 178)), (.mk (PySem.PyData.keyHash P (Str.ofString "law")) (.str (Str.ofString "law") 397) (.ref 183))]) 36) (List.toArray []))
noncomputable def o12v3 (P : Params) : Obj := (PySem.Obj.mk .none .none (.fields (List.toArray ((.int 2 0) :: (.int 0 0) :: (.ref 20) :: (.int 4 0) :: (.int 0 0) :: (.ref 33) :: (.int 8 0) :: (.int 0 0) :: (.ref 40) :: (.int 14 0) :: (.int 0 0) :: (.ref 45) :: (.int 19 0) :: (.int 0 0) :: (.ref 52) :: (.int 32 0) :: (.int 0 0) :: (.ref 60) :: (.int 38 0) :: (.int 0 0) :: (.ref 68) :: (.int 48 0) :: (.int 0 0) :: (.ref 76) :: (.int 54 0) :: (.int 0 0) :: (.ref 83) :: (.int 56 0) :: (.int 0 0) :: (.ref 90) :: (.int 58 0) :: (.int 0 0) :: (.ref 97) :: (.int 60 0) :: (.int 0 0) :: (.ref 104) :: (.int 64 0) :: (.int 0 0) :: (.ref 111) :: (.int 66 0) :: (.int 0 0) :: (.ref 118) :: (.int 68 0) :: (.int 0 0) :: (.ref 125) :: (.int 70 0) :: (.int 0 0) :: (.ref 132) :: (.int 72 0) :: (.int 0 0) :: (.ref 139) :: (.int 74 0) :: (.int 0 0) :: (.ref 146) :: (.int 79 0) :: (.int 0 0) :: (.ref 153) :: (.int 81 0) :: (.int 0 0) :: (.ref 160) :: (.int 83 0) :: (.int 0 0) :: (.ref 165) :: (.int 92 0) :: (.int 0 0) :: (.ref 170) :: (.int 111 0) :: (.int 0 0) :: (.ref 177) :: (.int 115 0) :: (.int 0 0) :: (.ref 182) :: []))) (List.toArray []))
noncomputable def o155 (P : Params) : Obj := (PySem.Obj.mk (.type "tuple") .none (.seq (List.toArray []) 0) (List.toArray []))
noncomputable def o156 (P : Params) : Obj := (PySem.Obj.mk .none .none (.fields (List.toArray [])) (List.toArray []))
noncomputable def o157 (P : Params) : Obj := (PySem.Obj.mk (.type "tuple") .none (.seq (List.toArray [(.str (Str.ofString "a") 366)]) 0) (List.toArray []))
noncomputable def o158 (P : Params) : Obj := (PySem.Obj.mk (.type "tuple") .none (.seq (List.toArray []) 0) (List.toArray []))
noncomputable def o159 (P : Params) : Obj := (PySem.Obj.mk .none .none (.func (FuncData.mk (Str.ofString "show") (Str.ofString "show") fa24.1 (.stmts fb24.1) fs24.1 0 [] .none .none .none .none .none .none .none 0)) (List.toArray []))
noncomputable def o160 (P : Params) : Obj := (PySem.Obj.mk (.type "code") .none (.fields (List.toArray [(.str (Str.ofString "show") 363), (.str (Str.ofString "show") 364), (.str (Str.ofString "/claim/cut.py") 365), (.int 81 0), (.int 1 0), (.int 0 0), (.int 0 0), (.int 3 0), (.ref 155), (.bool .true), (.int 181 0), (.ref 156), .none, (.ref 157), (.ref 158), (.ref 159), (.int 367 0), (.int 81 0), (.str (Str.ofString "/claim/cut.py") 368)])) (List.toArray []))
noncomputable def o161 (P : Params) : Obj := (PySem.Obj.mk (.type "function") .none (.func (FuncData.mk (Str.ofString "show") (Str.ofString "show") fa24.1 (.stmts fb24.1) fs24.1 3 [] .none .none .none (.str (Str.ofString "heatnet.exact") 240) .none (.ref 160) .none 0)) (List.toArray []))
noncomputable def o162 (P : Params) : Obj := (PySem.Obj.mk (.type "tuple") .none (.seq (List.toArray []) 0) (List.toArray []))
noncomputable def o163 (P : Params) : Obj := (PySem.Obj.mk .none .none (.fields (List.toArray [])) (List.toArray []))
noncomputable def o164 (P : Params) : Obj := (PySem.Obj.mk .none .none (.func (FuncData.mk (Str.ofString "read") (Str.ofString "read") fa25.1 (.stmts fb25.1) fs25.1 0 [] .none .none .none .none .none .none .none 0)) (List.toArray []))
noncomputable def o165 (P : Params) : Obj := (PySem.Obj.mk (.type "code") .none (.fields (List.toArray [(.str (Str.ofString "read") 370), (.str (Str.ofString "read") 371), (.str (Str.ofString "/claim/cut.py") 372), (.int 83 0), (.int 1 0), (.int 0 0), (.int 0 0), (.int 3 0), (.ref 162), (.bool .true), (.int 181 0), (.ref 163), .none, .none, .none, (.ref 164), (.int 373 0), (.int 83 0), (.str (Str.ofString "/claim/cut.py") 374)])) (List.toArray []))
noncomputable def o166 (P : Params) : Obj := (PySem.Obj.mk (.type "function") .none (.func (FuncData.mk (Str.ofString "read") (Str.ofString "read") fa25.1 (.stmts fb25.1) fs25.1 3 [] .none .none .none (.str (Str.ofString "heatnet.exact") 240) .none (.ref 165) .none 0)) (List.toArray []))
noncomputable def o167 (P : Params) : Obj := (PySem.Obj.mk (.type "tuple") .none (.seq (List.toArray []) 0) (List.toArray []))
noncomputable def o168 (P : Params) : Obj := (PySem.Obj.mk .none .none (.fields (List.toArray [])) (List.toArray []))
noncomputable def o169 (P : Params) : Obj := (PySem.Obj.mk .none .none (.func (FuncData.mk (Str.ofString "solved") (Str.ofString "solved") fa26.1 (.stmts fb26.1) fs26.1 0 [] .none .none .none .none .none .none .none 0)) (List.toArray []))
noncomputable def o170 (P : Params) : Obj := (PySem.Obj.mk (.type "code") .none (.fields (List.toArray [(.str (Str.ofString "solved") 376), (.str (Str.ofString "solved") 377), (.str (Str.ofString "/claim/cut.py") 378), (.int 92 0), (.int 2 0), (.int 0 0), (.int 0 0), (.int 3 0), (.ref 167), (.bool .true), (.int 181 0), (.ref 168), .none, .none, .none, (.ref 169), (.int 379 0), (.int 92 0), (.str (Str.ofString "/claim/cut.py") 380)])) (List.toArray []))
noncomputable def o171 (P : Params) : Obj := (PySem.Obj.mk (.type "function") .none (.func (FuncData.mk (Str.ofString "solved") (Str.ofString "solved") fa26.1 (.stmts fb26.1) fs26.1 3 [] .none .none .none (.str (Str.ofString "heatnet.exact") 240) .none (.ref 170) .none 0)) (List.toArray []))
noncomputable def o172 (P : Params) : Obj := (PySem.Obj.mk (.type "tuple") .none (.seq (List.toArray []) 0) (List.toArray []))
noncomputable def o173 (P : Params) : Obj := (PySem.Obj.mk .none .none (.fields (List.toArray [])) (List.toArray []))
noncomputable def o174 (P : Params) : Obj := (PySem.Obj.mk (.type "tuple") .none (.seq (List.toArray [(.str (Str.ofString "script") 387), (.str (Str.ofString "k") 388)]) 0) (List.toArray []))
noncomputable def o175 (P : Params) : Obj := (PySem.Obj.mk (.type "tuple") .none (.seq (List.toArray []) 0) (List.toArray []))
noncomputable def o176 (P : Params) : Obj := (PySem.Obj.mk .none .none (.func (FuncData.mk (Str.ofString "_law_cell") (Str.ofString "_law_cell") fa28.1 (.stmts fb28.1) fs28.1 0 [] .none .none .none .none .none .none .none 0)) (List.toArray []))
noncomputable def o177 (P : Params) : Obj := (PySem.Obj.mk (.type "code") .none (.fields (List.toArray [(.str (Str.ofString "_law_cell") 384), (.str (Str.ofString "_law_cell") 385), (.str (Str.ofString "/claim/cut.py") 386), (.int 111 0), (.int 2 0), (.int 0 0), (.int 0 0), (.int 3 0), (.ref 172), (.bool .true), (.int 181 0), (.ref 173), .none, (.ref 174), (.ref 175), (.ref 176), (.int 389 0), (.int 111 0), (.str (Str.ofString "/claim/cut.py") 390)])) (List.toArray []))
noncomputable def o178 (P : Params) : Obj := (PySem.Obj.mk (.type "function") .none (.func (FuncData.mk (Str.ofString "_law_cell") (Str.ofString "_law_cell") fa28.1 (.stmts fb28.1) fs28.1 3 [] .none .none .none (.str (Str.ofString "law_ui0509_08") 382) .none (.ref 177) .none 0)) (List.toArray []))
noncomputable def o179 (P : Params) : Obj := (PySem.Obj.mk (.type "tuple") .none (.seq (List.toArray []) 0) (List.toArray []))
noncomputable def o180 (P : Params) : Obj := (PySem.Obj.mk .none .none (.fields (List.toArray [])) (List.toArray []))
noncomputable def o181 (P : Params) : Obj := (PySem.Obj.mk .none .none (.func (FuncData.mk (Str.ofString "law") (Str.ofString "law") fa29.1 (.stmts fb29.1) fs29.1 0 [] .none .none .none .none .none .none .none 0)) (List.toArray []))
noncomputable def o182 (P : Params) : Obj := (PySem.Obj.mk (.type "code") .none (.fields (List.toArray [(.str (Str.ofString "law") 392), (.str (Str.ofString "law") 393), (.str (Str.ofString "/claim/cut.py") 394), (.int 115 0), (.int 1 0), (.int 0 0), (.int 0 0), (.int 3 0), (.ref 179), (.bool .true), (.int 181 0), (.ref 180), .none, .none, .none, (.ref 181), (.int 395 0), (.int 115 0), (.str (Str.ofString "/claim/cut.py") 396)])) (List.toArray []))
noncomputable def o183 (P : Params) : Obj := (PySem.Obj.mk (.type "function") .none (.func (FuncData.mk (Str.ofString "law") (Str.ofString "law") fa29.1 (.stmts fb29.1) fs29.1 3 [] .none .none .none (.str (Str.ofString "law_ui0509_08") 382) .none (.ref 182) .none 0)) (List.toArray []))
noncomputable def t2 (P : Params) : BT := (.node (boot_o_0 P) (.node (boot_o_1 P) (.node (o3v2 P) (.node (boot_o_7 P) (.node (o15 P) (.node (o31 P) (.node (o63 P) (lf (o127 P)) .nil) (.node (o95 P) (lf (o159 P)) .nil)) (.node (o47 P) (.node (o79 P) (lf (o143 P)) .nil) (.node (o111 P) (lf (o175 P)) .nil))) (.node (o23 P) (.node (o39 P) (.node (o71 P) (lf (o135 P)) .nil) (.node (o103 P) (lf (o167 P)) .nil)) (.node (o55 P) (.node (o87 P) (lf (o151 P)) .nil) (.node (o119 P) (lf (o183 P)) .nil)))) (.node (o11 P) (.node (o19 P) (.node (o35 P) (.node (o67 P) (lf (o131 P)) .nil) (.node (o99 P) (lf (o163 P)) .nil)) (.node (o51 P) (.node (o83 P) (lf (o147 P)) .nil) (.node (o115 P) (lf (o179 P)) .nil))) (.node (o27 P) (.node (o43 P) (.node (o75 P) (lf (o139 P)) .nil) (.node (o107 P) (lf (o171 P)) .nil)) (.node (o59 P) (.node (o91 P) (lf (o155 P)) .nil) (lf (o123 P)))))) (.node (boot_o_5 P) (.node (boot_o_9 P) (.node (o17 P) (.node (o33 P) (.node (o65 P) (lf (o129 P)) .nil) (.node (o97 P) (lf (o161 P)) .nil)) (.node (o49 P) (.node (o81 P) (lf (o145 P)) .nil) (.node (o113 P) (lf (o177 P)) .nil))) (.node (o25 P) (.node (o41 P) (.node (o73 P) (lf (o137 P)) .nil) (.node (o105 P) (lf (o169 P)) .nil)) (.node (o57 P) (.node (o89 P) (lf (o153 P)) .nil) (lf (o121 P))))) (.node (o13 P) (.node (o21 P) (.node (o37 P) (.node (o69 P) (lf (o133 P)) .nil) (.node (o101 P) (lf (o165 P)) .nil)) (.node (o53 P) (.node (o85 P) (lf (o149 P)) .nil) (.node (o117 P) (lf (o181 P)) .nil))) (.node (o29 P) (.node (o45 P) (.node (o77 P) (lf (o141 P)) .nil) (.node (o109 P) (lf (o173 P)) .nil)) (.node (o61 P) (.node (o93 P) (lf (o157 P)) .nil) (lf (o125 P))))))) (.node (boot_o_2 P) (.node (boot_o_4 P) (.node (boot_o_8 P) (.node (o16 P) (.node (o32 P) (.node (o64 P) (lf (o128 P)) .nil) (.node (o96 P) (lf (o160 P)) .nil)) (.node (o48 P) (.node (o80 P) (lf (o144 P)) .nil) (.node (o112 P) (lf (o176 P)) .nil))) (.node (o24 P) (.node (o40 P) (.node (o72 P) (lf (o136 P)) .nil) (.node (o104 P) (lf (o168 P)) .nil)) (.node (o56 P) (.node (o88 P) (lf (o152 P)) .nil) (lf (o120 P))))) (.node (o12v3 P) (.node (o20 P) (.node (o36 P) (.node (o68 P) (lf (o132 P)) .nil) (.node (o100 P) (lf (o164 P)) .nil)) (.node (o52 P) (.node (o84 P) (lf (o148 P)) .nil) (.node (o116 P) (lf (o180 P)) .nil))) (.node (o28 P) (.node (o44 P) (.node (o76 P) (lf (o140 P)) .nil) (.node (o108 P) (lf (o172 P)) .nil)) (.node (o60 P) (.node (o92 P) (lf (o156 P)) .nil) (lf (o124 P)))))) (.node (boot_o_6 P) (.node (boot_o_10 P) (.node (o18 P) (.node (o34 P) (.node (o66 P) (lf (o130 P)) .nil) (.node (o98 P) (lf (o162 P)) .nil)) (.node (o50 P) (.node (o82 P) (lf (o146 P)) .nil) (.node (o114 P) (lf (o178 P)) .nil))) (.node (o26 P) (.node (o42 P) (.node (o74 P) (lf (o138 P)) .nil) (.node (o106 P) (lf (o170 P)) .nil)) (.node (o58 P) (.node (o90 P) (lf (o154 P)) .nil) (lf (o122 P))))) (.node (o14 P) (.node (o22 P) (.node (o38 P) (.node (o70 P) (lf (o134 P)) .nil) (.node (o102 P) (lf (o166 P)) .nil)) (.node (o54 P) (.node (o86 P) (lf (o150 P)) .nil) (.node (o118 P) (lf (o182 P)) .nil))) (.node (o30 P) (.node (o46 P) (.node (o78 P) (lf (o142 P)) .nil) (.node (o110 P) (lf (o174 P)) .nil)) (.node (o62 P) (.node (o94 P) (lf (o158 P)) .nil) (lf (o126 P))))))))
noncomputable def t2S (P : Params) (os : OsState) : SharedT := ⟨t2 P, 184, (.mk [] [] [] 0 [] [] .false (List.toArray []) [] 0 .false .false .false 0 [2000, 10, 10] .false 0 .true [] [] 0 .false), ⟨[]⟩, (.mk 0 0 0 0), 398, os⟩
set_option maxRecDepth 100000 in
theorem pc2 (w : World) : (fun os => segRunT treeTable pw w 11 annH 1 147 (t1S (w).params os) (piecesOf (((behindTheImports pw).drop 24).take 6) envH cE ((.mk 79 0 80 27) : Pos) [topFrame qH])) = fun os => some (.next, t2S (w).params os, cE, ((.mk 115 0 168 77) : Pos)) := by
  unfold piecesOf; rw [PySem.W.Fast.te10110043849684766642, PySem.W.Fast.te14364793385576792824, PySem.W.Fast.te12563942051412417395]; kernel_rfl!
noncomputable def tF (P : Params) : BT := (.node (boot_o_0 P) (.node (boot_o_1 P) (.node (o3v2 P) (.node (boot_o_7 P) (.node (o15 P) (.node (o31 P) (.node (o63 P) (lf (o127 P)) .nil) (.node (o95 P) (lf (o159 P)) .nil)) (.node (o47 P) (.node (o79 P) (lf (o143 P)) .nil) (.node (o111 P) (lf (o175 P)) .nil))) (.node (o23 P) (.node (o39 P) (.node (o71 P) (lf (o135 P)) .nil) (.node (o103 P) (lf (o167 P)) .nil)) (.node (o55 P) (.node (o87 P) (lf (o151 P)) .nil) (.node (o119 P) (lf (o183 P)) .nil)))) (.node (o11 P) (.node (o19 P) (.node (o35 P) (.node (o67 P) (lf (o131 P)) .nil) (.node (o99 P) (lf (o163 P)) .nil)) (.node (o51 P) (.node (o83 P) (lf (o147 P)) .nil) (.node (o115 P) (lf (o179 P)) .nil))) (.node (o27 P) (.node (o43 P) (.node (o75 P) (lf (o139 P)) .nil) (.node (o107 P) (lf (o171 P)) .nil)) (.node (o59 P) (.node (o91 P) (lf (o155 P)) .nil) (lf (o123 P)))))) (.node (boot_o_5 P) (.node (boot_o_9 P) (.node (o17 P) (.node (o33 P) (.node (o65 P) (lf (o129 P)) .nil) (.node (o97 P) (lf (o161 P)) .nil)) (.node (o49 P) (.node (o81 P) (lf (o145 P)) .nil) (.node (o113 P) (lf (o177 P)) .nil))) (.node (o25 P) (.node (o41 P) (.node (o73 P) (lf (o137 P)) .nil) (.node (o105 P) (lf (o169 P)) .nil)) (.node (o57 P) (.node (o89 P) (lf (o153 P)) .nil) (lf (o121 P))))) (.node (o13 P) (.node (o21 P) (.node (o37 P) (.node (o69 P) (lf (o133 P)) .nil) (.node (o101 P) (lf (o165 P)) .nil)) (.node (o53 P) (.node (o85 P) (lf (o149 P)) .nil) (.node (o117 P) (lf (o181 P)) .nil))) (.node (o29 P) (.node (o45 P) (.node (o77 P) (lf (o141 P)) .nil) (.node (o109 P) (lf (o173 P)) .nil)) (.node (o61 P) (.node (o93 P) (lf (o157 P)) .nil) (lf (o125 P))))))) (.node (boot_o_2 P) (.node (boot_o_4 P) (.node (boot_o_8 P) (.node (o16 P) (.node (o32 P) (.node (o64 P) (lf (o128 P)) .nil) (.node (o96 P) (lf (o160 P)) .nil)) (.node (o48 P) (.node (o80 P) (lf (o144 P)) .nil) (.node (o112 P) (lf (o176 P)) .nil))) (.node (o24 P) (.node (o40 P) (.node (o72 P) (lf (o136 P)) .nil) (.node (o104 P) (lf (o168 P)) .nil)) (.node (o56 P) (.node (o88 P) (lf (o152 P)) .nil) (lf (o120 P))))) (.node (o12v3 P) (.node (o20 P) (.node (o36 P) (.node (o68 P) (lf (o132 P)) .nil) (.node (o100 P) (lf (o164 P)) .nil)) (.node (o52 P) (.node (o84 P) (lf (o148 P)) .nil) (.node (o116 P) (lf (o180 P)) .nil))) (.node (o28 P) (.node (o44 P) (.node (o76 P) (lf (o140 P)) .nil) (.node (o108 P) (lf (o172 P)) .nil)) (.node (o60 P) (.node (o92 P) (lf (o156 P)) .nil) (lf (o124 P)))))) (.node (boot_o_6 P) (.node (boot_o_10 P) (.node (o18 P) (.node (o34 P) (.node (o66 P) (lf (o130 P)) .nil) (.node (o98 P) (lf (o162 P)) .nil)) (.node (o50 P) (.node (o82 P) (lf (o146 P)) .nil) (.node (o114 P) (lf (o178 P)) .nil))) (.node (o26 P) (.node (o42 P) (.node (o74 P) (lf (o138 P)) .nil) (.node (o106 P) (lf (o170 P)) .nil)) (.node (o58 P) (.node (o90 P) (lf (o154 P)) .nil) (lf (o122 P))))) (.node (o14 P) (.node (o22 P) (.node (o38 P) (.node (o70 P) (lf (o134 P)) .nil) (.node (o102 P) (lf (o166 P)) .nil)) (.node (o54 P) (.node (o86 P) (lf (o150 P)) .nil) (.node (o118 P) (lf (o182 P)) .nil))) (.node (o30 P) (.node (o46 P) (.node (o78 P) (lf (o142 P)) .nil) (.node (o110 P) (lf (o174 P)) .nil)) (.node (o62 P) (.node (o94 P) (lf (o158 P)) .nil) (lf (o126 P))))))))
noncomputable def tFS (P : Params) (os : OsState) : SharedT := ⟨tF P, 184, (.mk [] [] [] 0 [] [] .false (List.toArray []) [] 0 .false .false .false 0 [2000, 10, 10] .false 0 .true [] [] 0 .false), ⟨[]⟩, (.mk 0 0 0 0), 398, os⟩
theorem finH (w : World) : (fun os => topRun treeTable pw w 11 annH 2 (t2S w.params os).abs ⟨doneF .next, cE, ((.mk 115 0 168 77) : Pos), [topFrame qH]⟩) = fun os => some (tFS w.params os).abs := by
  rw [PySem.W.Fast.te14082659384304107361, PySem.W.Fast.te14364793385576792824]; kernel_rfl!
theorem step_pc {tb : String → Option Builtin} {p : Program} {w : World} {n₀ : Nat} {ann : Option Value} {env : Env} {q : Pos} {n N : Nat} {s s' : SharedT} {r : Shared} {c : Code} {pos p' : Pos} (b : List Stmt) (a k : Nat) (h : segRunT tb p w n₀ ann 1 n s (piecesOf ((b.drop a).take k) env c pos [topFrame q]) = some (.next, s', c, p'))
    (kk : topRun tb p w n₀ ann N s'.abs (PySem.W.restOf (b.drop (a + k)) env c p' [topFrame q]) = some r) : topRun tb p w n₀ ann (n + N) s.abs (PySem.W.restOf (b.drop a) env c pos [topFrame q]) = some r := by
  have e : (b.drop a).take k ++ b.drop (a + k) = b.drop a := by rw [← List.drop_drop, List.take_append_drop]
  have h2 := piece_app (segRun_of h) kk
  rw [e] at h2; exact h2
theorem runH (w : World) (os : OsState) : topRun treeTable pw w 11 annH 947 (s0H w.params os) (topStub pw) = some (tFS w.params os).abs :=
  go_top (N := 935) (congrFun (preH w) os) (piece_block (N := 934) (segRun_of (congrFun (blockH w) os)) (step_pc (behindTheImports pw) 0 11 (congrFun (pc0 w) os) (step_pc (behindTheImports pw) 11 13 (congrFun (pc1 w) os) (step_pc (behindTheImports pw) 24 6 (congrFun (pc2 w) os) (congrFun (finH w) os)))))
noncomputable def vq : Program := view pw [1, 2, 3, 4, 5, 7, 8, 9, 10, 13, 14, 15, 16, 17, 18, 19, 20, 21, 22, 23, 24, 25, 26, 28, 29]
noncomputable def K : Params → Frag := fun P => (nat_lit 2, boot_o_2 P) :: (nat_lit 3, o3v2 P) :: (nat_lit 15, o15 P) :: (nat_lit 22, o22 P) :: (nat_lit 23, o23 P) :: (nat_lit 24, o24 P) :: (nat_lit 25, o25 P) :: (nat_lit 28, o28 P) :: (nat_lit 30, o30 P) :: (nat_lit 31, o31 P) :: (nat_lit 33, o33 P) :: (nat_lit 34, o34 P) :: (nat_lit 35, o35 P) :: (nat_lit 37, o37 P) :: (nat_lit 38, o38 P) :: (nat_lit 40, o40 P) :: (nat_lit 41, o41 P) :: (nat_lit 42, o42 P) :: (nat_lit 45, o45 P) :: (nat_lit 46, o46 P) :: (nat_lit 47, o47 P) :: (nat_lit 49, o49 P) :: (nat_lit 50, o50 P) :: (nat_lit 52, o52 P) :: (nat_lit 53, o53 P) :: (nat_lit 54, o54 P) :: (nat_lit 55, o55 P) :: (nat_lit 57, o57 P) :: (nat_lit 58, o58 P) :: (nat_lit 60, o60 P) :: (nat_lit 61, o61 P) :: (nat_lit 62, o62 P) :: (nat_lit 63, o63 P) :: (nat_lit 65, o65 P) :: (nat_lit 66, o66 P) :: (nat_lit 68, o68 P) :: (nat_lit 69, o69 P) :: (nat_lit 70, o70 P) :: (nat_lit 71, o71 P) :: (nat_lit 73, o73 P) :: (nat_lit 74, o74 P) :: (nat_lit 76, o76 P) :: (nat_lit 77, o77 P) :: (nat_lit 78, o78 P) :: (nat_lit 80, o80 P) :: (nat_lit 81, o81 P) :: (nat_lit 83, o83 P) :: (nat_lit 84, o84 P) :: (nat_lit 85, o85 P) :: (nat_lit 87, o87 P) :: (nat_lit 88, o88 P) :: (nat_lit 90, o90 P) :: (nat_lit 91, o91 P) :: (nat_lit 92, o92 P) :: (nat_lit 94, o94 P) :: (nat_lit 95, o95 P) :: (nat_lit 97, o97 P) :: (nat_lit 98, o98 P) :: (nat_lit 99, o99 P) :: (nat_lit 101, o101 P) :: (nat_lit 102, o102 P) :: (nat_lit 104, o104 P) :: (nat_lit 105, o105 P) :: (nat_lit 106, o106 P) :: (nat_lit 108, o108 P) :: (nat_lit 109, o109 P) :: (nat_lit 111, o111 P) :: (nat_lit 112, o112 P) :: (nat_lit 113, o113 P) :: (nat_lit 115, o115 P) :: (nat_lit 116, o116 P) :: (nat_lit 118, o118 P) :: (nat_lit 119, o119 P) :: (nat_lit 120, o120 P) :: (nat_lit 122, o122 P) :: (nat_lit 123, o123 P) :: (nat_lit 125, o125 P) :: (nat_lit 126, o126 P) :: (nat_lit 127, o127 P) :: (nat_lit 129, o129 P) :: (nat_lit 130, o130 P) :: (nat_lit 132, o132 P) :: (nat_lit 133, o133 P) :: (nat_lit 134, o134 P) :: (nat_lit 136, o136 P) :: (nat_lit 137, o137 P) :: (nat_lit 139, o139 P) :: (nat_lit 140, o140 P) :: (nat_lit 141, o141 P) :: (nat_lit 143, o143 P) :: (nat_lit 144, o144 P) :: (nat_lit 146, o146 P) :: (nat_lit 147, o147 P) :: (nat_lit 148, o148 P) :: (nat_lit 150, o150 P) :: (nat_lit 151, o151 P) :: (nat_lit 153, o153 P) :: (nat_lit 154, o154 P) :: (nat_lit 155, o155 P) :: (nat_lit 157, o157 P) :: (nat_lit 158, o158 P) :: (nat_lit 160, o160 P) :: (nat_lit 161, o161 P) :: (nat_lit 162, o162 P) :: (nat_lit 165, o165 P) :: (nat_lit 166, o166 P) :: (nat_lit 167, o167 P) :: (nat_lit 170, o170 P) :: (nat_lit 171, o171 P) :: (nat_lit 172, o172 P) :: (nat_lit 174, o174 P) :: (nat_lit 175, o175 P) :: (nat_lit 177, o177 P) :: (nat_lit 178, o178 P) :: (nat_lit 179, o179 P) :: (nat_lit 182, o182 P) :: (nat_lit 183, o183 P) :: []
theorem hkH : ∀ P, (((nat_lit 2) :: (nat_lit 3) :: (nat_lit 15) :: (nat_lit 22) :: (nat_lit 23) :: (nat_lit 24) :: (nat_lit 25) :: (nat_lit 28) :: (nat_lit 30) :: (nat_lit 31) :: (nat_lit 33) :: (nat_lit 34) :: (nat_lit 35) :: (nat_lit 37) :: (nat_lit 38) :: (nat_lit 40) :: (nat_lit 41) :: (nat_lit 42) :: (nat_lit 45) :: (nat_lit 46) :: (nat_lit 47) :: (nat_lit 49) :: (nat_lit 50) :: (nat_lit 52) :: (nat_lit 53) :: (nat_lit 54) :: (nat_lit 55) :: (nat_lit 57) :: (nat_lit 58) :: (nat_lit 60) :: (nat_lit 61) :: (nat_lit 62) :: (nat_lit 63) :: (nat_lit 65) :: (nat_lit 66) :: (nat_lit 68) :: (nat_lit 69) :: (nat_lit 70) :: (nat_lit 71) :: (nat_lit 73) :: (nat_lit 74) :: (nat_lit 76) :: (nat_lit 77) :: (nat_lit 78) :: (nat_lit 80) :: (nat_lit 81) :: (nat_lit 83) :: (nat_lit 84) :: (nat_lit 85) :: (nat_lit 87) :: (nat_lit 88) :: (nat_lit 90) :: (nat_lit 91) :: (nat_lit 92) :: (nat_lit 94) :: (nat_lit 95) :: (nat_lit 97) :: (nat_lit 98) :: (nat_lit 99) :: (nat_lit 101) :: (nat_lit 102) :: (nat_lit 104) :: (nat_lit 105) :: (nat_lit 106) :: (nat_lit 108) :: (nat_lit 109) :: (nat_lit 111) :: (nat_lit 112) :: (nat_lit 113) :: (nat_lit 115) :: (nat_lit 116) :: (nat_lit 118) :: (nat_lit 119) :: (nat_lit 120) :: (nat_lit 122) :: (nat_lit 123) :: (nat_lit 125) :: (nat_lit 126) :: (nat_lit 127) :: (nat_lit 129) :: (nat_lit 130) :: (nat_lit 132) :: (nat_lit 133) :: (nat_lit 134) :: (nat_lit 136) :: (nat_lit 137) :: (nat_lit 139) :: (nat_lit 140) :: (nat_lit 141) :: (nat_lit 143) :: (nat_lit 144) :: (nat_lit 146) :: (nat_lit 147) :: (nat_lit 148) :: (nat_lit 150) :: (nat_lit 151) :: (nat_lit 153) :: (nat_lit 154) :: (nat_lit 155) :: (nat_lit 157) :: (nat_lit 158) :: (nat_lit 160) :: (nat_lit 161) :: (nat_lit 162) :: (nat_lit 165) :: (nat_lit 166) :: (nat_lit 167) :: (nat_lit 170) :: (nat_lit 171) :: (nat_lit 172) :: (nat_lit 174) :: (nat_lit 175) :: (nat_lit 177) :: (nat_lit 178) :: (nat_lit 179) :: (nat_lit 182) :: (nat_lit 183) :: []) : List Addr) = (K P).map (·.1) := fun _ => by kernel_rfl!
@[reducible] noncomputable def dH : DefRec := ⟨Str.ofString "law", fa29.1, fb29.1, fs29.1, (.mk 115 0 168 77)⟩
theorem openH : ∀ w : World, (fencedOpening treeTable pw w 1984).map (fun s => (s.heap, s.gens, s.drawn, s.toks)) = some (boot_heap w.params, Array.mk [], boot_drawn, boot_toks) :=
  boot_open (by kernel_rfl!) (by decide) (fun s => by kernel_rfl!)
theorem sizeH : ∀ w : World, ((boot_heap w.params).isNs mainGlobals && (Array.mk [] : Array GenState).size == 0, (boot_heap w.params).objs.size, (boot_heap w.params).nsMap mainGlobals "__annotations__") = (true, 11, annH) := fun w => by kernel_rfl!
theorem looksH (w : World) : (fun os => ((staticsOk (importedModules pw.main.body) (boot_heap w.params) (tFS w.params os).abs.heap && namesBound pw (tFS w.params os).abs.heap && gensDone (tFS w.params os).abs && laidKept (boot_heap w.params) (tFS w.params os).abs.heap),
    openSeen vq [Str.ofString "MOST", Str.ofString "frac", Str.ofString "need"] (importedModules pw.main.body) (fun s => xlAt vq ([(Str.ofString "MOST", (.int 100000000000000000000000000000000000000000000000000000000000000000000000000000000000000000000000000000000000000000000000000000000000000000000000000000000000000000000000000000000000000000000000000000000000000000000000000000000000000000000000000000000000000000000000000000000000000000000000000000000000000000000000000000000000000000000000000000000000000000000000000000000000000000000000000000000000000000000000000000000000000000000000000000000000000000000000000000000000000000000000000000000000000000000000000000000000000000000000000000000000000000000000000000000000000000000000000000000000000000000000000000000000000000000000000000000000000000000000000000000000000000000000000000000000000000000000000000000000000000000000000000000000000000000000000000000000000000000000000000000000000000000000000000000000000000000000000000000000000000000000000000000000000000000000000000000000000000000000000000000000000000000000000000000000000000000000000000000000000000000000000000000000000000000000000000000000000000000000000000000000000000000000000000000000000000000000000000000000000000000000000000000000000000000000000000000000000000000000000000000000000000000000000000000000000000000000000000000000000000000000000000000000000000000000000000000000000000000000000000000000000000000000000000000000000000000000000000000000000000000000000000000000000000000000000000000000000000000000000000000000000000000000000000000000000000000000000000000000000000000000000000000000000000000000000000000000000000000000000000000000000000000000000000000000000000000000000000000000000000000000000000000000000000000000000000000000000000000000000000000000000000000000000000000000000000000000000000000000000000000000000000000000000000000000000000000000000000000000000000000000000000000000000000000000000000000000000000000000000000000000000000000000000000000000000000000000000000000000000000000000000000000000000000000000000000000000000000000000000000000000000000000000000000000000000000000000000000000000000000000000000000000000000000000))] : List (Str × WData)) s && recOk (RowW.records (OpenRow.toRowW (OpenLaw.row PySem.Challenge.rw_ui0509_08))) s) true (tFS w.params os).abs, Hook.obs (kHook K ((nat_lit 2) :: (nat_lit 3) :: (nat_lit 15) :: (nat_lit 22) :: (nat_lit 23) :: (nat_lit 24) :: (nat_lit 25) :: (nat_lit 28) :: (nat_lit 30) :: (nat_lit 31) :: (nat_lit 33) :: (nat_lit 34) :: (nat_lit 35) :: (nat_lit 37) :: (nat_lit 38) :: (nat_lit 40) :: (nat_lit 41) :: (nat_lit 42) :: (nat_lit 45) :: (nat_lit 46) :: (nat_lit 47) :: (nat_lit 49) :: (nat_lit 50) :: (nat_lit 52) :: (nat_lit 53) :: (nat_lit 54) :: (nat_lit 55) :: (nat_lit 57) :: (nat_lit 58) :: (nat_lit 60) :: (nat_lit 61) :: (nat_lit 62) :: (nat_lit 63) :: (nat_lit 65) :: (nat_lit 66) :: (nat_lit 68) :: (nat_lit 69) :: (nat_lit 70) :: (nat_lit 71) :: (nat_lit 73) :: (nat_lit 74) :: (nat_lit 76) :: (nat_lit 77) :: (nat_lit 78) :: (nat_lit 80) :: (nat_lit 81) :: (nat_lit 83) :: (nat_lit 84) :: (nat_lit 85) :: (nat_lit 87) :: (nat_lit 88) :: (nat_lit 90) :: (nat_lit 91) :: (nat_lit 92) :: (nat_lit 94) :: (nat_lit 95) :: (nat_lit 97) :: (nat_lit 98) :: (nat_lit 99) :: (nat_lit 101) :: (nat_lit 102) :: (nat_lit 104) :: (nat_lit 105) :: (nat_lit 106) :: (nat_lit 108) :: (nat_lit 109) :: (nat_lit 111) :: (nat_lit 112) :: (nat_lit 113) :: (nat_lit 115) :: (nat_lit 116) :: (nat_lit 118) :: (nat_lit 119) :: (nat_lit 120) :: (nat_lit 122) :: (nat_lit 123) :: (nat_lit 125) :: (nat_lit 126) :: (nat_lit 127) :: (nat_lit 129) :: (nat_lit 130) :: (nat_lit 132) :: (nat_lit 133) :: (nat_lit 134) :: (nat_lit 136) :: (nat_lit 137) :: (nat_lit 139) :: (nat_lit 140) :: (nat_lit 141) :: (nat_lit 143) :: (nat_lit 144) :: (nat_lit 146) :: (nat_lit 147) :: (nat_lit 148) :: (nat_lit 150) :: (nat_lit 151) :: (nat_lit 153) :: (nat_lit 154) :: (nat_lit 155) :: (nat_lit 157) :: (nat_lit 158) :: (nat_lit 160) :: (nat_lit 161) :: (nat_lit 162) :: (nat_lit 165) :: (nat_lit 166) :: (nat_lit 167) :: (nat_lit 170) :: (nat_lit 171) :: (nat_lit 172) :: (nat_lit 174) :: (nat_lit 175) :: (nat_lit 177) :: (nat_lit 178) :: (nat_lit 179) :: (nat_lit 182) :: (nat_lit 183) :: []) hkH) (tFS w.params os).abs)) = fun _ => (true, openGood vq [Str.ofString "MOST", Str.ofString "frac", Str.ofString "need"], Hook.val (kHook K ((nat_lit 2) :: (nat_lit 3) :: (nat_lit 15) :: (nat_lit 22) :: (nat_lit 23) :: (nat_lit 24) :: (nat_lit 25) :: (nat_lit 28) :: (nat_lit 30) :: (nat_lit 31) :: (nat_lit 33) :: (nat_lit 34) :: (nat_lit 35) :: (nat_lit 37) :: (nat_lit 38) :: (nat_lit 40) :: (nat_lit 41) :: (nat_lit 42) :: (nat_lit 45) :: (nat_lit 46) :: (nat_lit 47) :: (nat_lit 49) :: (nat_lit 50) :: (nat_lit 52) :: (nat_lit 53) :: (nat_lit 54) :: (nat_lit 55) :: (nat_lit 57) :: (nat_lit 58) :: (nat_lit 60) :: (nat_lit 61) :: (nat_lit 62) :: (nat_lit 63) :: (nat_lit 65) :: (nat_lit 66) :: (nat_lit 68) :: (nat_lit 69) :: (nat_lit 70) :: (nat_lit 71) :: (nat_lit 73) :: (nat_lit 74) :: (nat_lit 76) :: (nat_lit 77) :: (nat_lit 78) :: (nat_lit 80) :: (nat_lit 81) :: (nat_lit 83) :: (nat_lit 84) :: (nat_lit 85) :: (nat_lit 87) :: (nat_lit 88) :: (nat_lit 90) :: (nat_lit 91) :: (nat_lit 92) :: (nat_lit 94) :: (nat_lit 95) :: (nat_lit 97) :: (nat_lit 98) :: (nat_lit 99) :: (nat_lit 101) :: (nat_lit 102) :: (nat_lit 104) :: (nat_lit 105) :: (nat_lit 106) :: (nat_lit 108) :: (nat_lit 109) :: (nat_lit 111) :: (nat_lit 112) :: (nat_lit 113) :: (nat_lit 115) :: (nat_lit 116) :: (nat_lit 118) :: (nat_lit 119) :: (nat_lit 120) :: (nat_lit 122) :: (nat_lit 123) :: (nat_lit 125) :: (nat_lit 126) :: (nat_lit 127) :: (nat_lit 129) :: (nat_lit 130) :: (nat_lit 132) :: (nat_lit 133) :: (nat_lit 134) :: (nat_lit 136) :: (nat_lit 137) :: (nat_lit 139) :: (nat_lit 140) :: (nat_lit 141) :: (nat_lit 143) :: (nat_lit 144) :: (nat_lit 146) :: (nat_lit 147) :: (nat_lit 148) :: (nat_lit 150) :: (nat_lit 151) :: (nat_lit 153) :: (nat_lit 154) :: (nat_lit 155) :: (nat_lit 157) :: (nat_lit 158) :: (nat_lit 160) :: (nat_lit 161) :: (nat_lit 162) :: (nat_lit 165) :: (nat_lit 166) :: (nat_lit 167) :: (nat_lit 170) :: (nat_lit 171) :: (nat_lit 172) :: (nat_lit 174) :: (nat_lit 175) :: (nat_lit 177) :: (nat_lit 178) :: (nat_lit 179) :: (nat_lit 182) :: (nat_lit 183) :: []) hkH) w) := by
  rw [PySem.W.Fast.te4187177175401517315, PySem.W.Fast.te5923862056798008813]; kernel_rfl!
theorem leftH : LeftO pw vq [Str.ofString "MOST", Str.ofString "frac", Str.ofString "need"] (fun s => xlAt vq ([(Str.ofString "MOST", (.int 100000000000000000000000000000000000000000000000000000000000000000000000000000000000000000000000000000000000000000000000000000000000000000000000000000000000000000000000000000000000000000000000000000000000000000000000000000000000000000000000000000000000000000000000000000000000000000000000000000000000000000000000000000000000000000000000000000000000000000000000000000000000000000000000000000000000000000000000000000000000000000000000000000000000000000000000000000000000000000000000000000000000000000000000000000000000000000000000000000000000000000000000000000000000000000000000000000000000000000000000000000000000000000000000000000000000000000000000000000000000000000000000000000000000000000000000000000000000000000000000000000000000000000000000000000000000000000000000000000000000000000000000000000000000000000000000000000000000000000000000000000000000000000000000000000000000000000000000000000000000000000000000000000000000000000000000000000000000000000000000000000000000000000000000000000000000000000000000000000000000000000000000000000000000000000000000000000000000000000000000000000000000000000000000000000000000000000000000000000000000000000000000000000000000000000000000000000000000000000000000000000000000000000000000000000000000000000000000000000000000000000000000000000000000000000000000000000000000000000000000000000000000000000000000000000000000000000000000000000000000000000000000000000000000000000000000000000000000000000000000000000000000000000000000000000000000000000000000000000000000000000000000000000000000000000000000000000000000000000000000000000000000000000000000000000000000000000000000000000000000000000000000000000000000000000000000000000000000000000000000000000000000000000000000000000000000000000000000000000000000000000000000000000000000000000000000000000000000000000000000000000000000000000000000000000000000000000000000000000000000000000000000000000000000000000000000000000000000000000000000000000000000000000000000000000000000000000000000000000000000000000000000000000000))] : List (Str × WData)) s && recOk (RowW.records (OpenRow.toRowW (OpenLaw.row PySem.Challenge.rw_ui0509_08))) s) (Hook.obs (kHook K ((nat_lit 2) :: (nat_lit 3) :: (nat_lit 15) :: (nat_lit 22) :: (nat_lit 23) :: (nat_lit 24) :: (nat_lit 25) :: (nat_lit 28) :: (nat_lit 30) :: (nat_lit 31) :: (nat_lit 33) :: (nat_lit 34) :: (nat_lit 35) :: (nat_lit 37) :: (nat_lit 38) :: (nat_lit 40) :: (nat_lit 41) :: (nat_lit 42) :: (nat_lit 45) :: (nat_lit 46) :: (nat_lit 47) :: (nat_lit 49) :: (nat_lit 50) :: (nat_lit 52) :: (nat_lit 53) :: (nat_lit 54) :: (nat_lit 55) :: (nat_lit 57) :: (nat_lit 58) :: (nat_lit 60) :: (nat_lit 61) :: (nat_lit 62) :: (nat_lit 63) :: (nat_lit 65) :: (nat_lit 66) :: (nat_lit 68) :: (nat_lit 69) :: (nat_lit 70) :: (nat_lit 71) :: (nat_lit 73) :: (nat_lit 74) :: (nat_lit 76) :: (nat_lit 77) :: (nat_lit 78) :: (nat_lit 80) :: (nat_lit 81) :: (nat_lit 83) :: (nat_lit 84) :: (nat_lit 85) :: (nat_lit 87) :: (nat_lit 88) :: (nat_lit 90) :: (nat_lit 91) :: (nat_lit 92) :: (nat_lit 94) :: (nat_lit 95) :: (nat_lit 97) :: (nat_lit 98) :: (nat_lit 99) :: (nat_lit 101) :: (nat_lit 102) :: (nat_lit 104) :: (nat_lit 105) :: (nat_lit 106) :: (nat_lit 108) :: (nat_lit 109) :: (nat_lit 111) :: (nat_lit 112) :: (nat_lit 113) :: (nat_lit 115) :: (nat_lit 116) :: (nat_lit 118) :: (nat_lit 119) :: (nat_lit 120) :: (nat_lit 122) :: (nat_lit 123) :: (nat_lit 125) :: (nat_lit 126) :: (nat_lit 127) :: (nat_lit 129) :: (nat_lit 130) :: (nat_lit 132) :: (nat_lit 133) :: (nat_lit 134) :: (nat_lit 136) :: (nat_lit 137) :: (nat_lit 139) :: (nat_lit 140) :: (nat_lit 141) :: (nat_lit 143) :: (nat_lit 144) :: (nat_lit 146) :: (nat_lit 147) :: (nat_lit 148) :: (nat_lit 150) :: (nat_lit 151) :: (nat_lit 153) :: (nat_lit 154) :: (nat_lit 155) :: (nat_lit 157) :: (nat_lit 158) :: (nat_lit 160) :: (nat_lit 161) :: (nat_lit 162) :: (nat_lit 165) :: (nat_lit 166) :: (nat_lit 167) :: (nat_lit 170) :: (nat_lit 171) :: (nat_lit 172) :: (nat_lit 174) :: (nat_lit 175) :: (nat_lit 177) :: (nat_lit 178) :: (nat_lit 179) :: (nat_lit 182) :: (nat_lit 183) :: []) hkH)) (Hook.val (kHook K ((nat_lit 2) :: (nat_lit 3) :: (nat_lit 15) :: (nat_lit 22) :: (nat_lit 23) :: (nat_lit 24) :: (nat_lit 25) :: (nat_lit 28) :: (nat_lit 30) :: (nat_lit 31) :: (nat_lit 33) :: (nat_lit 34) :: (nat_lit 35) :: (nat_lit 37) :: (nat_lit 38) :: (nat_lit 40) :: (nat_lit 41) :: (nat_lit 42) :: (nat_lit 45) :: (nat_lit 46) :: (nat_lit 47) :: (nat_lit 49) :: (nat_lit 50) :: (nat_lit 52) :: (nat_lit 53) :: (nat_lit 54) :: (nat_lit 55) :: (nat_lit 57) :: (nat_lit 58) :: (nat_lit 60) :: (nat_lit 61) :: (nat_lit 62) :: (nat_lit 63) :: (nat_lit 65) :: (nat_lit 66) :: (nat_lit 68) :: (nat_lit 69) :: (nat_lit 70) :: (nat_lit 71) :: (nat_lit 73) :: (nat_lit 74) :: (nat_lit 76) :: (nat_lit 77) :: (nat_lit 78) :: (nat_lit 80) :: (nat_lit 81) :: (nat_lit 83) :: (nat_lit 84) :: (nat_lit 85) :: (nat_lit 87) :: (nat_lit 88) :: (nat_lit 90) :: (nat_lit 91) :: (nat_lit 92) :: (nat_lit 94) :: (nat_lit 95) :: (nat_lit 97) :: (nat_lit 98) :: (nat_lit 99) :: (nat_lit 101) :: (nat_lit 102) :: (nat_lit 104) :: (nat_lit 105) :: (nat_lit 106) :: (nat_lit 108) :: (nat_lit 109) :: (nat_lit 111) :: (nat_lit 112) :: (nat_lit 113) :: (nat_lit 115) :: (nat_lit 116) :: (nat_lit 118) :: (nat_lit 119) :: (nat_lit 120) :: (nat_lit 122) :: (nat_lit 123) :: (nat_lit 125) :: (nat_lit 126) :: (nat_lit 127) :: (nat_lit 129) :: (nat_lit 130) :: (nat_lit 132) :: (nat_lit 133) :: (nat_lit 134) :: (nat_lit 136) :: (nat_lit 137) :: (nat_lit 139) :: (nat_lit 140) :: (nat_lit 141) :: (nat_lit 143) :: (nat_lit 144) :: (nat_lit 146) :: (nat_lit 147) :: (nat_lit 148) :: (nat_lit 150) :: (nat_lit 151) :: (nat_lit 153) :: (nat_lit 154) :: (nat_lit 155) :: (nat_lit 157) :: (nat_lit 158) :: (nat_lit 160) :: (nat_lit 161) :: (nat_lit 162) :: (nat_lit 165) :: (nat_lit 166) :: (nat_lit 167) :: (nat_lit 170) :: (nat_lit 171) :: (nat_lit 172) :: (nat_lit 174) :: (nat_lit 175) :: (nat_lit 177) :: (nat_lit 178) :: (nat_lit 179) :: (nat_lit 182) :: (nat_lit 183) :: []) hkH)) 1984 :=
  LeftO.of_pieces (M := 947) (H₁ := fun P => absHeap (tF P) 184 (.mk [] [] [] 0 [] [] .false (List.toArray []) [] 0 .false .false .false 0 [2000, 10, 10] .false 0 .true [] [] 0 .false)) (gs₁ := ⟨[]⟩) (d₁ := (.mk 0 0 0 0)) (k₁ := 398) openH sizeH runH (by decide) looksH
theorem saidH : OpenLaw.wellSaid PySem.Challenge.rw_ui0509_08 = true := by rw [PySem.W.Fast.te9446332074065402090]; kernel_rfl!
theorem okH : (chainsOk vq && opensWell pw && (frees (OpenRow.toRowW (OpenLaw.row PySem.Challenge.rw_ui0509_08)) && (RowW.within (OpenRow.toRowW (OpenLaw.row PySem.Challenge.rw_ui0509_08))).isEmpty)) = true := by kernel_rfl!
theorem hd (walk : WalkO vq [Str.ofString "MOST", Str.ofString "frac", Str.ofString "need"] (XL vq ([(Str.ofString "MOST", (.int 100000000000000000000000000000000000000000000000000000000000000000000000000000000000000000000000000000000000000000000000000000000000000000000000000000000000000000000000000000000000000000000000000000000000000000000000000000000000000000000000000000000000000000000000000000000000000000000000000000000000000000000000000000000000000000000000000000000000000000000000000000000000000000000000000000000000000000000000000000000000000000000000000000000000000000000000000000000000000000000000000000000000000000000000000000000000000000000000000000000000000000000000000000000000000000000000000000000000000000000000000000000000000000000000000000000000000000000000000000000000000000000000000000000000000000000000000000000000000000000000000000000000000000000000000000000000000000000000000000000000000000000000000000000000000000000000000000000000000000000000000000000000000000000000000000000000000000000000000000000000000000000000000000000000000000000000000000000000000000000000000000000000000000000000000000000000000000000000000000000000000000000000000000000000000000000000000000000000000000000000000000000000000000000000000000000000000000000000000000000000000000000000000000000000000000000000000000000000000000000000000000000000000000000000000000000000000000000000000000000000000000000000000000000000000000000000000000000000000000000000000000000000000000000000000000000000000000000000000000000000000000000000000000000000000000000000000000000000000000000000000000000000000000000000000000000000000000000000000000000000000000000000000000000000000000000000000000000000000000000000000000000000000000000000000000000000000000000000000000000000000000000000000000000000000000000000000000000000000000000000000000000000000000000000000000000000000000000000000000000000000000000000000000000000000000000000000000000000000000000000000000000000000000000000000000000000000000000000000000000000000000000000000000000000000000000000000000000000000000000000000000000000000000000000000000000000000000000000000000000000000000000000000000000))] : List (Str × WData))) (kHook K ((nat_lit 2) :: (nat_lit 3) :: (nat_lit 15) :: (nat_lit 22) :: (nat_lit 23) :: (nat_lit 24) :: (nat_lit 25) :: (nat_lit 28) :: (nat_lit 30) :: (nat_lit 31) :: (nat_lit 33) :: (nat_lit 34) :: (nat_lit 35) :: (nat_lit 37) :: (nat_lit 38) :: (nat_lit 40) :: (nat_lit 41) :: (nat_lit 42) :: (nat_lit 45) :: (nat_lit 46) :: (nat_lit 47) :: (nat_lit 49) :: (nat_lit 50) :: (nat_lit 52) :: (nat_lit 53) :: (nat_lit 54) :: (nat_lit 55) :: (nat_lit 57) :: (nat_lit 58) :: (nat_lit 60) :: (nat_lit 61) :: (nat_lit 62) :: (nat_lit 63) :: (nat_lit 65) :: (nat_lit 66) :: (nat_lit 68) :: (nat_lit 69) :: (nat_lit 70) :: (nat_lit 71) :: (nat_lit 73) :: (nat_lit 74) :: (nat_lit 76) :: (nat_lit 77) :: (nat_lit 78) :: (nat_lit 80) :: (nat_lit 81) :: (nat_lit 83) :: (nat_lit 84) :: (nat_lit 85) :: (nat_lit 87) :: (nat_lit 88) :: (nat_lit 90) :: (nat_lit 91) :: (nat_lit 92) :: (nat_lit 94) :: (nat_lit 95) :: (nat_lit 97) :: (nat_lit 98) :: (nat_lit 99) :: (nat_lit 101) :: (nat_lit 102) :: (nat_lit 104) :: (nat_lit 105) :: (nat_lit 106) :: (nat_lit 108) :: (nat_lit 109) :: (nat_lit 111) :: (nat_lit 112) :: (nat_lit 113) :: (nat_lit 115) :: (nat_lit 116) :: (nat_lit 118) :: (nat_lit 119) :: (nat_lit 120) :: (nat_lit 122) :: (nat_lit 123) :: (nat_lit 125) :: (nat_lit 126) :: (nat_lit 127) :: (nat_lit 129) :: (nat_lit 130) :: (nat_lit 132) :: (nat_lit 133) :: (nat_lit 134) :: (nat_lit 136) :: (nat_lit 137) :: (nat_lit 139) :: (nat_lit 140) :: (nat_lit 141) :: (nat_lit 143) :: (nat_lit 144) :: (nat_lit 146) :: (nat_lit 147) :: (nat_lit 148) :: (nat_lit 150) :: (nat_lit 151) :: (nat_lit 153) :: (nat_lit 154) :: (nat_lit 155) :: (nat_lit 157) :: (nat_lit 158) :: (nat_lit 160) :: (nat_lit 161) :: (nat_lit 162) :: (nat_lit 165) :: (nat_lit 166) :: (nat_lit 167) :: (nat_lit 170) :: (nat_lit 171) :: (nat_lit 172) :: (nat_lit 174) :: (nat_lit 175) :: (nat_lit 177) :: (nat_lit 178) :: (nat_lit 179) :: (nat_lit 182) :: (nat_lit 183) :: []) hkH).says (OpenRow.toRowW (OpenLaw.row PySem.Challenge.rw_ui0509_08)) dH [] fun f vs => PySem.call f vs) : PySem.Challenge.rw_ui0509_08.Holds := by
  refine holds_law saidH fun said => holds_open (r := OpenLaw.row PySem.Challenge.rw_ui0509_08) (q := vq) (loose := [Str.ofString "MOST", Str.ofString "frac", Str.ofString "need"]) (Xt := (fun s => xlAt vq ([(Str.ofString "MOST", (.int 100000000000000000000000000000000000000000000000000000000000000000000000000000000000000000000000000000000000000000000000000000000000000000000000000000000000000000000000000000000000000000000000000000000000000000000000000000000000000000000000000000000000000000000000000000000000000000000000000000000000000000000000000000000000000000000000000000000000000000000000000000000000000000000000000000000000000000000000000000000000000000000000000000000000000000000000000000000000000000000000000000000000000000000000000000000000000000000000000000000000000000000000000000000000000000000000000000000000000000000000000000000000000000000000000000000000000000000000000000000000000000000000000000000000000000000000000000000000000000000000000000000000000000000000000000000000000000000000000000000000000000000000000000000000000000000000000000000000000000000000000000000000000000000000000000000000000000000000000000000000000000000000000000000000000000000000000000000000000000000000000000000000000000000000000000000000000000000000000000000000000000000000000000000000000000000000000000000000000000000000000000000000000000000000000000000000000000000000000000000000000000000000000000000000000000000000000000000000000000000000000000000000000000000000000000000000000000000000000000000000000000000000000000000000000000000000000000000000000000000000000000000000000000000000000000000000000000000000000000000000000000000000000000000000000000000000000000000000000000000000000000000000000000000000000000000000000000000000000000000000000000000000000000000000000000000000000000000000000000000000000000000000000000000000000000000000000000000000000000000000000000000000000000000000000000000000000000000000000000000000000000000000000000000000000000000000000000000000000000000000000000000000000000000000000000000000000000000000000000000000000000000000000000000000000000000000000000000000000000000000000000000000000000000000000000000000000000000000000000000000000000000000000000000000000000000000000000000000000000000000000000000000000000000))] : List (Str × WData)) s && recOk (RowW.records (OpenRow.toRowW (OpenLaw.row PySem.Challenge.rw_ui0509_08))) s)) (XP := XL vq ([(Str.ofString "MOST", (.int 100000000000000000000000000000000000000000000000000000000000000000000000000000000000000000000000000000000000000000000000000000000000000000000000000000000000000000000000000000000000000000000000000000000000000000000000000000000000000000000000000000000000000000000000000000000000000000000000000000000000000000000000000000000000000000000000000000000000000000000000000000000000000000000000000000000000000000000000000000000000000000000000000000000000000000000000000000000000000000000000000000000000000000000000000000000000000000000000000000000000000000000000000000000000000000000000000000000000000000000000000000000000000000000000000000000000000000000000000000000000000000000000000000000000000000000000000000000000000000000000000000000000000000000000000000000000000000000000000000000000000000000000000000000000000000000000000000000000000000000000000000000000000000000000000000000000000000000000000000000000000000000000000000000000000000000000000000000000000000000000000000000000000000000000000000000000000000000000000000000000000000000000000000000000000000000000000000000000000000000000000000000000000000000000000000000000000000000000000000000000000000000000000000000000000000000000000000000000000000000000000000000000000000000000000000000000000000000000000000000000000000000000000000000000000000000000000000000000000000000000000000000000000000000000000000000000000000000000000000000000000000000000000000000000000000000000000000000000000000000000000000000000000000000000000000000000000000000000000000000000000000000000000000000000000000000000000000000000000000000000000000000000000000000000000000000000000000000000000000000000000000000000000000000000000000000000000000000000000000000000000000000000000000000000000000000000000000000000000000000000000000000000000000000000000000000000000000000000000000000000000000000000000000000000000000000000000000000000000000000000000000000000000000000000000000000000000000000000000000000000000000000000000000000000000000000000000000000000000000000000000000000000000000000))] : List (Str × WData))) (Yf := Hook.obs (kHook K ((nat_lit 2) :: (nat_lit 3) :: (nat_lit 15) :: (nat_lit 22) :: (nat_lit 23) :: (nat_lit 24) :: (nat_lit 25) :: (nat_lit 28) :: (nat_lit 30) :: (nat_lit 31) :: (nat_lit 33) :: (nat_lit 34) :: (nat_lit 35) :: (nat_lit 37) :: (nat_lit 38) :: (nat_lit 40) :: (nat_lit 41) :: (nat_lit 42) :: (nat_lit 45) :: (nat_lit 46) :: (nat_lit 47) :: (nat_lit 49) :: (nat_lit 50) :: (nat_lit 52) :: (nat_lit 53) :: (nat_lit 54) :: (nat_lit 55) :: (nat_lit 57) :: (nat_lit 58) :: (nat_lit 60) :: (nat_lit 61) :: (nat_lit 62) :: (nat_lit 63) :: (nat_lit 65) :: (nat_lit 66) :: (nat_lit 68) :: (nat_lit 69) :: (nat_lit 70) :: (nat_lit 71) :: (nat_lit 73) :: (nat_lit 74) :: (nat_lit 76) :: (nat_lit 77) :: (nat_lit 78) :: (nat_lit 80) :: (nat_lit 81) :: (nat_lit 83) :: (nat_lit 84) :: (nat_lit 85) :: (nat_lit 87) :: (nat_lit 88) :: (nat_lit 90) :: (nat_lit 91) :: (nat_lit 92) :: (nat_lit 94) :: (nat_lit 95) :: (nat_lit 97) :: (nat_lit 98) :: (nat_lit 99) :: (nat_lit 101) :: (nat_lit 102) :: (nat_lit 104) :: (nat_lit 105) :: (nat_lit 106) :: (nat_lit 108) :: (nat_lit 109) :: (nat_lit 111) :: (nat_lit 112) :: (nat_lit 113) :: (nat_lit 115) :: (nat_lit 116) :: (nat_lit 118) :: (nat_lit 119) :: (nat_lit 120) :: (nat_lit 122) :: (nat_lit 123) :: (nat_lit 125) :: (nat_lit 126) :: (nat_lit 127) :: (nat_lit 129) :: (nat_lit 130) :: (nat_lit 132) :: (nat_lit 133) :: (nat_lit 134) :: (nat_lit 136) :: (nat_lit 137) :: (nat_lit 139) :: (nat_lit 140) :: (nat_lit 141) :: (nat_lit 143) :: (nat_lit 144) :: (nat_lit 146) :: (nat_lit 147) :: (nat_lit 148) :: (nat_lit 150) :: (nat_lit 151) :: (nat_lit 153) :: (nat_lit 154) :: (nat_lit 155) :: (nat_lit 157) :: (nat_lit 158) :: (nat_lit 160) :: (nat_lit 161) :: (nat_lit 162) :: (nat_lit 165) :: (nat_lit 166) :: (nat_lit 167) :: (nat_lit 170) :: (nat_lit 171) :: (nat_lit 172) :: (nat_lit 174) :: (nat_lit 175) :: (nat_lit 177) :: (nat_lit 178) :: (nat_lit 179) :: (nat_lit 182) :: (nat_lit 183) :: []) hkH)) (Ya := Hook.val (kHook K ((nat_lit 2) :: (nat_lit 3) :: (nat_lit 15) :: (nat_lit 22) :: (nat_lit 23) :: (nat_lit 24) :: (nat_lit 25) :: (nat_lit 28) :: (nat_lit 30) :: (nat_lit 31) :: (nat_lit 33) :: (nat_lit 34) :: (nat_lit 35) :: (nat_lit 37) :: (nat_lit 38) :: (nat_lit 40) :: (nat_lit 41) :: (nat_lit 42) :: (nat_lit 45) :: (nat_lit 46) :: (nat_lit 47) :: (nat_lit 49) :: (nat_lit 50) :: (nat_lit 52) :: (nat_lit 53) :: (nat_lit 54) :: (nat_lit 55) :: (nat_lit 57) :: (nat_lit 58) :: (nat_lit 60) :: (nat_lit 61) :: (nat_lit 62) :: (nat_lit 63) :: (nat_lit 65) :: (nat_lit 66) :: (nat_lit 68) :: (nat_lit 69) :: (nat_lit 70) :: (nat_lit 71) :: (nat_lit 73) :: (nat_lit 74) :: (nat_lit 76) :: (nat_lit 77) :: (nat_lit 78) :: (nat_lit 80) :: (nat_lit 81) :: (nat_lit 83) :: (nat_lit 84) :: (nat_lit 85) :: (nat_lit 87) :: (nat_lit 88) :: (nat_lit 90) :: (nat_lit 91) :: (nat_lit 92) :: (nat_lit 94) :: (nat_lit 95) :: (nat_lit 97) :: (nat_lit 98) :: (nat_lit 99) :: (nat_lit 101) :: (nat_lit 102) :: (nat_lit 104) :: (nat_lit 105) :: (nat_lit 106) :: (nat_lit 108) :: (nat_lit 109) :: (nat_lit 111) :: (nat_lit 112) :: (nat_lit 113) :: (nat_lit 115) :: (nat_lit 116) :: (nat_lit 118) :: (nat_lit 119) :: (nat_lit 120) :: (nat_lit 122) :: (nat_lit 123) :: (nat_lit 125) :: (nat_lit 126) :: (nat_lit 127) :: (nat_lit 129) :: (nat_lit 130) :: (nat_lit 132) :: (nat_lit 133) :: (nat_lit 134) :: (nat_lit 136) :: (nat_lit 137) :: (nat_lit 139) :: (nat_lit 140) :: (nat_lit 141) :: (nat_lit 143) :: (nat_lit 144) :: (nat_lit 146) :: (nat_lit 147) :: (nat_lit 148) :: (nat_lit 150) :: (nat_lit 151) :: (nat_lit 153) :: (nat_lit 154) :: (nat_lit 155) :: (nat_lit 157) :: (nat_lit 158) :: (nat_lit 160) :: (nat_lit 161) :: (nat_lit 162) :: (nat_lit 165) :: (nat_lit 166) :: (nat_lit 167) :: (nat_lit 170) :: (nat_lit 171) :: (nat_lit 172) :: (nat_lit 174) :: (nat_lit 175) :: (nat_lit 177) :: (nat_lit 178) :: (nat_lit 179) :: (nat_lit 182) :: (nat_lit 183) :: []) hkH)) (YP := Hook.says (kHook K ((nat_lit 2) :: (nat_lit 3) :: (nat_lit 15) :: (nat_lit 22) :: (nat_lit 23) :: (nat_lit 24) :: (nat_lit 25) :: (nat_lit 28) :: (nat_lit 30) :: (nat_lit 31) :: (nat_lit 33) :: (nat_lit 34) :: (nat_lit 35) :: (nat_lit 37) :: (nat_lit 38) :: (nat_lit 40) :: (nat_lit 41) :: (nat_lit 42) :: (nat_lit 45) :: (nat_lit 46) :: (nat_lit 47) :: (nat_lit 49) :: (nat_lit 50) :: (nat_lit 52) :: (nat_lit 53) :: (nat_lit 54) :: (nat_lit 55) :: (nat_lit 57) :: (nat_lit 58) :: (nat_lit 60) :: (nat_lit 61) :: (nat_lit 62) :: (nat_lit 63) :: (nat_lit 65) :: (nat_lit 66) :: (nat_lit 68) :: (nat_lit 69) :: (nat_lit 70) :: (nat_lit 71) :: (nat_lit 73) :: (nat_lit 74) :: (nat_lit 76) :: (nat_lit 77) :: (nat_lit 78) :: (nat_lit 80) :: (nat_lit 81) :: (nat_lit 83) :: (nat_lit 84) :: (nat_lit 85) :: (nat_lit 87) :: (nat_lit 88) :: (nat_lit 90) :: (nat_lit 91) :: (nat_lit 92) :: (nat_lit 94) :: (nat_lit 95) :: (nat_lit 97) :: (nat_lit 98) :: (nat_lit 99) :: (nat_lit 101) :: (nat_lit 102) :: (nat_lit 104) :: (nat_lit 105) :: (nat_lit 106) :: (nat_lit 108) :: (nat_lit 109) :: (nat_lit 111) :: (nat_lit 112) :: (nat_lit 113) :: (nat_lit 115) :: (nat_lit 116) :: (nat_lit 118) :: (nat_lit 119) :: (nat_lit 120) :: (nat_lit 122) :: (nat_lit 123) :: (nat_lit 125) :: (nat_lit 126) :: (nat_lit 127) :: (nat_lit 129) :: (nat_lit 130) :: (nat_lit 132) :: (nat_lit 133) :: (nat_lit 134) :: (nat_lit 136) :: (nat_lit 137) :: (nat_lit 139) :: (nat_lit 140) :: (nat_lit 141) :: (nat_lit 143) :: (nat_lit 144) :: (nat_lit 146) :: (nat_lit 147) :: (nat_lit 148) :: (nat_lit 150) :: (nat_lit 151) :: (nat_lit 153) :: (nat_lit 154) :: (nat_lit 155) :: (nat_lit 157) :: (nat_lit 158) :: (nat_lit 160) :: (nat_lit 161) :: (nat_lit 162) :: (nat_lit 165) :: (nat_lit 166) :: (nat_lit 167) :: (nat_lit 170) :: (nat_lit 171) :: (nat_lit 172) :: (nat_lit 174) :: (nat_lit 175) :: (nat_lit 177) :: (nat_lit 178) :: (nat_lit 179) :: (nat_lit 182) :: (nat_lit 183) :: []) hkH)) (N := 1984) (d := dH) (kwd := []) leftH (Hook.of (kHook K ((nat_lit 2) :: (nat_lit 3) :: (nat_lit 15) :: (nat_lit 22) :: (nat_lit 23) :: (nat_lit 24) :: (nat_lit 25) :: (nat_lit 28) :: (nat_lit 30) :: (nat_lit 31) :: (nat_lit 33) :: (nat_lit 34) :: (nat_lit 35) :: (nat_lit 37) :: (nat_lit 38) :: (nat_lit 40) :: (nat_lit 41) :: (nat_lit 42) :: (nat_lit 45) :: (nat_lit 46) :: (nat_lit 47) :: (nat_lit 49) :: (nat_lit 50) :: (nat_lit 52) :: (nat_lit 53) :: (nat_lit 54) :: (nat_lit 55) :: (nat_lit 57) :: (nat_lit 58) :: (nat_lit 60) :: (nat_lit 61) :: (nat_lit 62) :: (nat_lit 63) :: (nat_lit 65) :: (nat_lit 66) :: (nat_lit 68) :: (nat_lit 69) :: (nat_lit 70) :: (nat_lit 71) :: (nat_lit 73) :: (nat_lit 74) :: (nat_lit 76) :: (nat_lit 77) :: (nat_lit 78) :: (nat_lit 80) :: (nat_lit 81) :: (nat_lit 83) :: (nat_lit 84) :: (nat_lit 85) :: (nat_lit 87) :: (nat_lit 88) :: (nat_lit 90) :: (nat_lit 91) :: (nat_lit 92) :: (nat_lit 94) :: (nat_lit 95) :: (nat_lit 97) :: (nat_lit 98) :: (nat_lit 99) :: (nat_lit 101) :: (nat_lit 102) :: (nat_lit 104) :: (nat_lit 105) :: (nat_lit 106) :: (nat_lit 108) :: (nat_lit 109) :: (nat_lit 111) :: (nat_lit 112) :: (nat_lit 113) :: (nat_lit 115) :: (nat_lit 116) :: (nat_lit 118) :: (nat_lit 119) :: (nat_lit 120) :: (nat_lit 122) :: (nat_lit 123) :: (nat_lit 125) :: (nat_lit 126) :: (nat_lit 127) :: (nat_lit 129) :: (nat_lit 130) :: (nat_lit 132) :: (nat_lit 133) :: (nat_lit 134) :: (nat_lit 136) :: (nat_lit 137) :: (nat_lit 139) :: (nat_lit 140) :: (nat_lit 141) :: (nat_lit 143) :: (nat_lit 144) :: (nat_lit 146) :: (nat_lit 147) :: (nat_lit 148) :: (nat_lit 150) :: (nat_lit 151) :: (nat_lit 153) :: (nat_lit 154) :: (nat_lit 155) :: (nat_lit 157) :: (nat_lit 158) :: (nat_lit 160) :: (nat_lit 161) :: (nat_lit 162) :: (nat_lit 165) :: (nat_lit 166) :: (nat_lit 167) :: (nat_lit 170) :: (nat_lit 171) :: (nat_lit 172) :: (nat_lit 174) :: (nat_lit 175) :: (nat_lit 177) :: (nat_lit 178) :: (nat_lit 179) :: (nat_lit 182) :: (nat_lit 183) :: []) hkH)) (Hook.keeps (kHook K ((nat_lit 2) :: (nat_lit 3) :: (nat_lit 15) :: (nat_lit 22) :: (nat_lit 23) :: (nat_lit 24) :: (nat_lit 25) :: (nat_lit 28) :: (nat_lit 30) :: (nat_lit 31) :: (nat_lit 33) :: (nat_lit 34) :: (nat_lit 35) :: (nat_lit 37) :: (nat_lit 38) :: (nat_lit 40) :: (nat_lit 41) :: (nat_lit 42) :: (nat_lit 45) :: (nat_lit 46) :: (nat_lit 47) :: (nat_lit 49) :: (nat_lit 50) :: (nat_lit 52) :: (nat_lit 53) :: (nat_lit 54) :: (nat_lit 55) :: (nat_lit 57) :: (nat_lit 58) :: (nat_lit 60) :: (nat_lit 61) :: (nat_lit 62) :: (nat_lit 63) :: (nat_lit 65) :: (nat_lit 66) :: (nat_lit 68) :: (nat_lit 69) :: (nat_lit 70) :: (nat_lit 71) :: (nat_lit 73) :: (nat_lit 74) :: (nat_lit 76) :: (nat_lit 77) :: (nat_lit 78) :: (nat_lit 80) :: (nat_lit 81) :: (nat_lit 83) :: (nat_lit 84) :: (nat_lit 85) :: (nat_lit 87) :: (nat_lit 88) :: (nat_lit 90) :: (nat_lit 91) :: (nat_lit 92) :: (nat_lit 94) :: (nat_lit 95) :: (nat_lit 97) :: (nat_lit 98) :: (nat_lit 99) :: (nat_lit 101) :: (nat_lit 102) :: (nat_lit 104) :: (nat_lit 105) :: (nat_lit 106) :: (nat_lit 108) :: (nat_lit 109) :: (nat_lit 111) :: (nat_lit 112) :: (nat_lit 113) :: (nat_lit 115) :: (nat_lit 116) :: (nat_lit 118) :: (nat_lit 119) :: (nat_lit 120) :: (nat_lit 122) :: (nat_lit 123) :: (nat_lit 125) :: (nat_lit 126) :: (nat_lit 127) :: (nat_lit 129) :: (nat_lit 130) :: (nat_lit 132) :: (nat_lit 133) :: (nat_lit 134) :: (nat_lit 136) :: (nat_lit 137) :: (nat_lit 139) :: (nat_lit 140) :: (nat_lit 141) :: (nat_lit 143) :: (nat_lit 144) :: (nat_lit 146) :: (nat_lit 147) :: (nat_lit 148) :: (nat_lit 150) :: (nat_lit 151) :: (nat_lit 153) :: (nat_lit 154) :: (nat_lit 155) :: (nat_lit 157) :: (nat_lit 158) :: (nat_lit 160) :: (nat_lit 161) :: (nat_lit 162) :: (nat_lit 165) :: (nat_lit 166) :: (nat_lit 167) :: (nat_lit 170) :: (nat_lit 171) :: (nat_lit 172) :: (nat_lit 174) :: (nat_lit 175) :: (nat_lit 177) :: (nat_lit 178) :: (nat_lit 179) :: (nat_lit 182) :: (nat_lit 183) :: []) hkH)) (fun s e => xl_of s (Bool.and_eq_true_iff.mp e).1) XL.keeps ?hdef ?hp ?hk (fun s e => recFacts_of (Bool.and_eq_true_iff.mp e).2) ?wr said okH ⟨rfl, rfl, rfl, rfl, rfl, by decide +kernel⟩ ?hw walk
  case hdef => kernel_rfl!
  case hp => kernel_rfl!
  case hk => kernel_rfl!
  case wr => rfl
  case hw => w_witness2
end HD

local macro_rules | `(tactic| walk_at $s:str) => `(tactic| k_extra $s)
local macro_rules | `(tactic| k_ne) => `(tactic| k_extra "k_ne")
local macro_rules | `(tactic| k_in) => `(tactic| k_extra "k_in")
local macro_rules | `(tactic| ktr_units) => `(tactic| k_extra "ktr_units")
local macro_rules | `(tactic| bits_by_make) => `(tactic| k_extra "bits_by_make")
local macro_rules | `(tactic| k_mem) => `(tactic| k_extra "k_mem")
local macro_rules | `(tactic| k_all) => `(tactic| k_extra "k_all")
local macro_rules | `(tactic| size_fits) => `(tactic| k_extra "size_fits")
local macro_rules | `(tactic| kc_close) => `(tactic| k_extra "kc_close")
local macro_rules | `(tactic| wrow_close) => `(tactic| k_extra "wrow_close")
namespace Mine
theorem fcons {α : Type} {P : α → Prop} {a : α} {l : List α} (h : P a) (k : ∀ x ∈ l, P x) : ∀ x ∈ a :: l, P x := fun x hx => by
  cases hx with
  | head => exact h
  | tail _ h2 => exact k x h2

theorem pj0 {g b : Prop} (h : g ∧ b) : g := h.1
theorem pj1 {a1 g b : Prop} (h : a1 ∧ g ∧ b) : g := h.2.1
theorem pj2 {a1 a2 g b : Prop} (h : a1 ∧ a2 ∧ g ∧ b) : g := h.2.2.1
theorem pj3 {a1 a2 a3 g b : Prop} (h : a1 ∧ a2 ∧ a3 ∧ g ∧ b) : g := h.2.2.2.1
theorem pj4 {a1 a2 a3 a4 g b : Prop} (h : a1 ∧ a2 ∧ a3 ∧ a4 ∧ g ∧ b) : g := h.2.2.2.2.1
theorem pj5 {a1 a2 a3 a4 a5 g b : Prop} (h : a1 ∧ a2 ∧ a3 ∧ a4 ∧ a5 ∧ g ∧ b) : g := h.2.2.2.2.2.1
theorem pj6 {a1 a2 a3 a4 a5 a6 g b : Prop} (h : a1 ∧ a2 ∧ a3 ∧ a4 ∧ a5 ∧ a6 ∧ g ∧ b) : g := h.2.2.2.2.2.2.1
theorem pj7 {a1 a2 a3 a4 a5 a6 a7 g b : Prop} (h : a1 ∧ a2 ∧ a3 ∧ a4 ∧ a5 ∧ a6 ∧ a7 ∧ g ∧ b) : g := h.2.2.2.2.2.2.2.1
theorem pj8 {a1 a2 a3 a4 a5 a6 a7 a8 g b : Prop} (h : a1 ∧ a2 ∧ a3 ∧ a4 ∧ a5 ∧ a6 ∧ a7 ∧ a8 ∧ g ∧ b) : g := h.2.2.2.2.2.2.2.2.1
theorem pj9 {a1 a2 a3 a4 a5 a6 a7 a8 a9 g b : Prop} (h : a1 ∧ a2 ∧ a3 ∧ a4 ∧ a5 ∧ a6 ∧ a7 ∧ a8 ∧ a9 ∧ g ∧ b) : g := h.2.2.2.2.2.2.2.2.2.1
theorem pj10 {a1 a2 a3 a4 a5 a6 a7 a8 a9 a10 g b : Prop} (h : a1 ∧ a2 ∧ a3 ∧ a4 ∧ a5 ∧ a6 ∧ a7 ∧ a8 ∧ a9 ∧ a10 ∧ g ∧ b) : g := h.2.2.2.2.2.2.2.2.2.2.1
theorem pj11 {a1 a2 a3 a4 a5 a6 a7 a8 a9 a10 a11 g b : Prop} (h : a1 ∧ a2 ∧ a3 ∧ a4 ∧ a5 ∧ a6 ∧ a7 ∧ a8 ∧ a9 ∧ a10 ∧ a11 ∧ g ∧ b) : g := h.2.2.2.2.2.2.2.2.2.2.2.1
theorem hide_goal {p : Prop} (h : ∀ G : Prop, (p → G) → G) : p := h p id

theorem ad1 {a : Nat} : a + 1 ≠ a := by omega
theorem ad2 {a : Nat} : a + 1 + 1 ≠ a := by omega
theorem ad3 {a : Nat} : a + 1 + 1 + 1 ≠ a := by omega
theorem ad4 {a : Nat} : a + 1 + 1 + 1 + 1 ≠ a := by omega
theorem ad5 {a : Nat} : a + 1 + 1 + 1 + 1 + 1 ≠ a := by omega
theorem ad6 {a : Nat} : a + 1 + 1 + 1 + 1 + 1 + 1 ≠ a := by omega
theorem ad7 {a : Nat} : a + 1 + 1 + 1 + 1 + 1 + 1 + 1 ≠ a := by omega
theorem ad8 {a : Nat} : a + 1 + 1 + 1 + 1 + 1 + 1 + 1 + 1 ≠ a := by omega
section
theorem un1 {a b d e : Nat} (h : a + e < d) (hb : b ≤ e) : a + b < d := by omega
theorem un2 {a b c d e : Nat} (h : a + e < d) (hb : b + c ≤ e) : a + b + c < d := by omega
theorem un3 {a b c f d e : Nat} (h : a + e < d) (hb : b + c + f ≤ e) : a + b + c + f < d := by omega
-- a call over a part of the ledger: the callee walks over NEED alone; the rest of the ledger is kept by its ground
theorem in_of {K : Frag} {h₀ h : Heap} {L : Addr} {m : Str → Option Value} (F : Fr h₀ L h m) (X : K.In h₀) : K.In h := X.keeps F.keep
def restOf (news need : List (Addr × Obj)) : List (Addr × Obj) := news.filter fun p => !(need.map (·.1)).contains p.1
theorem mem_rest {news need : List (Addr × Obj)} {p : Addr × Obj} (h : p ∈ news) (hn : p.1 ∉ need.map (·.1)) : p ∈ restOf news need :=
  List.mem_filter.mpr ⟨h, by simpa [List.contains_iff_mem] using hn⟩
theorem rest_mem {news need : List (Addr × Obj)} {p : Addr × Obj} (h : p ∈ restOf news need) : p ∈ news ∧ p.1 ∉ need.map (·.1) := by
  obtain ⟨h1, h2⟩ := List.mem_filter.mp h
  exact ⟨h1, by simpa [List.contains_iff_mem] using h2⟩
theorem mem_rest0 {news : List (Addr × Obj)} {p : Addr × Obj} (h : p ∈ news) : p ∈ restOf news [] := mem_rest h (by simp)
def LeaveN (h₀ : Heap) (L : Addr) (m : Str → Option Value) (g : Heap) (news need : List (Addr × Obj)) (R : Result → Shared → Prop) (v : Value) (s' : Shared) : Prop :=
  ∃ L' m' news', Fr g L' s'.heap m' ∧ News g L' s'.heap news' ∧ (Fr h₀ L s'.heap m → News h₀ L s'.heap news' → News h₀ L s'.heap (restOf news need) → (∀ p ∈ restOf news need, ∀ q ∈ news', p.1 ≠ q.1) → R (.ok (.ret v)) s')
theorem leaveN_ {h₀ g : Heap} {L L' : Addr} {m m' : Str → Option Value} {news need news' : List (Addr × Obj)} {R : Result → Shared → Prop} {v : Value} {s' : Shared} (F' : Fr g L' s'.heap m') (N' : News g L' s'.heap news')
    (k : Fr h₀ L s'.heap m → News h₀ L s'.heap news' → News h₀ L s'.heap (restOf news need) → (∀ p ∈ restOf news need, ∀ q ∈ news', p.1 ≠ q.1) → R (.ok (.ret v)) s') : LeaveN h₀ L m g news need R v s' := ⟨L', m', news', F', N', k⟩
theorem leaveN_K {h₀ h g : Heap} {L : Addr} {m : Str → Option Value} {news need : List (Addr × Obj)} {R : Result → Shared → Prop} {v : Value} {s' : Shared} (N : News h₀ L h news) (hg : g = hideAll h (need.map (·.1)))
    (hl : LeaveN h₀ L m g news need R v s') : LeaveK h₀ L m g R v s' := by
  obtain ⟨L', m', news', F', N', k⟩ := hl
  have keep : ∀ p ∈ restOf news need, g.get? p.1 = some p.2 := fun p hp => by
    obtain ⟨h1, h2⟩ := rest_mem hp
    rw [hg]
    exact hideAll_get _ (N p h1).1 h2
  refine ⟨L', m', news', F', N', fun a b => k a b (fun p hp => ⟨F'.keep _ _ (keep p hp), (N p (rest_mem hp).1).2⟩) fun p hp q hq e => ?_⟩
  have h1 := keep p hp
  rw [e, (N' q hq).2.2] at h1
  cases h1
theorem news_back {h₀ h h' : Heap} {L : Addr} {news need full : List (Addr × Obj)} (N : News h₀ L h news) (hn : ∀ p ∈ need, p ∈ news) (N1 : News h₀ L h' full) (hf : ∀ p ∈ need, p ∈ full)
    (N2 : News h₀ L h' (restOf news need)) : News h₀ L h' news := by
  intro p hp
  by_cases q : p.1 ∈ need.map (·.1)
  · obtain ⟨p', hp', e⟩ := List.mem_map.mp q
    have h1 := (N p' (hn p' hp')).1
    have h2 := (N p hp).1
    rw [e, h2] at h1
    have : p = p' := Prod.ext e.symm (Option.some.inj h1)
    rw [this]
    exact N1 _ (hf _ hp')
  · exact N2 p (mem_rest hp q)
theorem news_all {h₀ h' : Heap} {L : Addr} {news : List (Addr × Obj)} (N2 : News h₀ L h' (restOf news [])) : News h₀ L h' news := fun p hp => N2 p (mem_rest0 hp)
theorem news_cons {h₀ h' : Heap} {L : Addr} {news : List (Addr × Obj)} {p : Addr × Obj} {full : List (Addr × Obj)} (N1 : News h₀ L h' full) (hp : p ∈ full) (N : News h₀ L h' news) : News h₀ L h' (p :: news) := by
  intro q hq
  rcases List.mem_cons.mp hq with rfl | hq
  · exact N1 _ hp
  · exact N q hq
theorem ne_all {news full : List (Addr × Obj)} {q : Addr × Obj} (hd : ∀ p ∈ restOf news [], ∀ q ∈ full, p.1 ≠ q.1) (hq : q ∈ full) : ∀ p ∈ news, p.1 ≠ q.1 := fun p hp => hd p (mem_rest0 hp) q hq
def AllNe (d : Nat) : List (Addr × Obj) → Prop
  | [] => True
  | p :: r => (@Ne Nat p.1 d) ∧ AllNe d r
theorem allNe_of {d : Addr} : ∀ {l : List (Addr × Obj)}, (∀ p ∈ l, p.1 ≠ d) → AllNe d l
  | [], _ => trivial
  | p :: _, h => ⟨h p (.head _), allNe_of fun q hq => h q (.tail _ hq)⟩
section
variable {prog : Program} {w : World} {A A₀ : Around} {s : Shared} {K : Frag} {L : Addr} {h₀ base : Heap} {m mg mb : Str → Option Value} {news : List (Addr × Obj)} {p : Program} {loose : List Str} {mean : ExcName → Option Value}
theorem code_need (need : List (Addr × Obj)) {env : Env} {outer : List Env} {R : Result → Shared → Prop} {name qual : Str} {params : Arguments} {body : List Stmt} {scope : Scope} {dV kV doc pm cdv ct oc : Value} {an od : Option Addr} {osl : Array (Option Value)} {f : Addr} {args : Args} {binds : List (Str × Value)}
    (B : Below A₀ base outer h₀) (F : Fr h₀ L s.heap m) (X₀ : K.In h₀) (N : News h₀ L s.heap news) (T : Top p loose mean mg mb h₀) (hA : A.frames = some (env :: outer)) (hf : env.frame = some L) (hke : env.scope.kind = .function)
    (ho : K.lookup f = some ⟨oc, od, .func (fnOf name qual params body scope dV kV doc pm an cdv ct), osl⟩) (hcd : codeIn K cdv qual = true) (hroom : A.depth < recursionLimit)
    (hbind : BindsTo s (fnOf name qual params body scope dV kV doc pm an cdv ct) args binds) (hloc : ∀ y ∈ binds, scope.names.lookup y.1 = some .local) (hn : ∀ p ∈ need, p ∈ news)
    (h : ∀ g L' h₁ tk, Fr h₀ L g m → Fr g L' h₁ (fun y => binds.reverse.lookup y) → News g L' h₁ need → Below A base (env :: outer) g → K.In g → Top p loose mean mg mb g → (∀ b o, s.heap.get? b = some o → b ∉ need.map (·.1) → g.get? b = some o) →
      wpAny (model prog w) (A.deeper (envOf qual scope L' f cdv)) (execs body (envOf qual scope L' f cdv))
        (fun fl s' => LeaveN h₀ L m g news need R (match fl with | .ret v => v | _ => .none) s')
        (fun e s' => wpAny (model prog w) (A.deeper (envOf qual scope L' f cdv)) (leaving (envOf qual scope L' f cdv) e) (fun _ s'' => R (.error e) s'') (fun e' s'' => R (.error e') s'') s')
        { s with heap := h₁, toks := tk })
    (hco : scope.isCoroutine = false) (hgen : scope.isGenerator = false) (hk : scope.kind = .function)
    (hcell : ∀ x ∈ scope.names, x.2 ≠ .cell) : codeAny (model prog w) A (.call (.ref f) args) R s := by
  have N0 : News h₀ L s.heap need := fun p hp => N p (hn p hp)
  obtain ⟨FG, BG, st, lv⟩ := groundX (R := R) B F N0 hA hf hke
  refine codeAny_call_def (fd := fnOf name qual params body scope dV kV doc pm an cdv ct) (body := body) (binds := binds) hroom ((X₀.keeps F.keep) _ _ ho) rfl (T.nolimit.keeps F.keep) (codeRec_of (X₀.keeps F.keep) hcd) rfl hbind hcell hloc (fun h₁ hns hk₁ => ?_) hco hgen hk
  exact wpAny_mono (h _ s.heap.objs.size h₁ _ FG ⟨hns, fun b o e => hk₁ b o (of_hideAll _ e), Nat.le_of_eq (hideAll_size _ _)⟩
    (fun p hp => ⟨hk₁ _ _ (N0 p hp).1, Nat.ne_of_lt (Heap.lt_size (N0 p hp).1), hideAll_none _ (List.mem_map_of_mem hp)⟩) BG (X₀.keeps st) (T.keeps st) (fun b o e n => hideAll_get _ e n)) (fun fl s' hl => lv _ _ (leaveN_K N rfl hl)) fun _ _ y => y
theorem code_needC (need : List (Addr × Obj)) {env : Env} {outer : List Env} {R : Result → Shared → Prop} {name qual : Str} {params : Arguments} {body : List Stmt} {scope : Scope} {dV kV doc pm cdv ct oc : Value} {an od : Option Addr} {osl : Array (Option Value)} {f : Addr} {args : Args} {binds : List (Str × Value)}
    (B : Below A₀ base outer h₀) (F : Fr h₀ L s.heap m) (X₀ : K.In h₀) (N : News h₀ L s.heap news) (T : Top p loose mean mg mb h₀) (hA : A.frames = some (env :: outer)) (hf : env.frame = some L) (hke : env.scope.kind = .function)
    (ho : K.lookup f = some ⟨oc, od, .func (fnOf name qual params body scope dV kV doc pm an cdv ct), osl⟩) (hcd : codeIn K cdv qual = true) (hroom : A.depth < recursionLimit)
    (hbind : BindsTo s (fnOf name qual params body scope dV kV doc pm an cdv ct) args binds) (hkind : (binds.all fun y => scope.names.lookup y.1 == some .local || scope.names.lookup y.1 == some .cell) = true)
    (hnd : ((cellsFrom 0 scope.names []).map (·.1)).Nodup) (hn : ∀ p ∈ need, p ∈ news)
    (h : ∀ g L' h₁ tk cells, Fr h₀ L g m → Fr g L' h₁ (bindL (envOfC qual scope L' f cdv).kindOf binds fun _ => none) → News g L' h₁ (cells ++ need) →
      CellsAre (bindC (envOfC qual scope L' f cdv).kindOf binds fun _ => none) (cellsFrom (L' + 1) scope.names []) cells → Below A base (env :: outer) g → K.In g → Top p loose mean mg mb g → (∀ p ∈ need, p.1 < L') → (∀ b o, s.heap.get? b = some o → b ∉ need.map (·.1) → g.get? b = some o) →
      wpAny (model prog w) (A.deeper (envOfC qual scope L' f cdv)) (execs body (envOfC qual scope L' f cdv))
        (fun fl s' => LeaveN h₀ L m g news need R (match fl with | .ret v => v | _ => .none) s')
        (fun e s' => wpAny (model prog w) (A.deeper (envOfC qual scope L' f cdv)) (leaving (envOfC qual scope L' f cdv) e) (fun _ s'' => R (.error e) s'') (fun e' s'' => R (.error e') s'') s')
        { s with heap := h₁, toks := tk })
    (hco : scope.isCoroutine = false) (hgen : scope.isGenerator = false) (hk : scope.kind = .function) : codeAny (model prog w) A (.call (.ref f) args) R s := by
  have N0 : News h₀ L s.heap need := fun p hp => N p (hn p hp)
  obtain ⟨FG, BG, st, lv⟩ := groundX (R := R) B F N0 hA hf hke
  refine codeAny_call_function hroom ((X₀.keeps F.keep) _ _ ho) rfl hco hgen rfl (codeRec_of (X₀.keeps F.keep) hcd) (hbind _ _ _ _ ?_)
  refine wpAny_newFunctionEnv_cells hk (kindsX hkind _) fun env' he s' x => ?_
  subst he
  refine ⟨(T.nolimit.keeps F.keep).keeps x.toInCall.keep, codeAny_func ?_⟩
  obtain ⟨h₁, tk, rfl, _⟩ := x.done
  have hk₁ := x.toInCall.keep
  obtain ⟨cells, NC, Y⟩ := Cl.news (h₀ := s.heap) (Nat.le_refl _) fun n c hm => ⟨x.cell n c (lookup_of_mem_nodup (cellsFrom_names scope.names 0 (s.heap.objs.size + 1) [] [] rfl ▸ hnd) hm), x.above n c hm⟩
  refine wpAny_mono (h _ s.heap.objs.size h₁ tk cells FG ⟨x.toInCall.ns, fun b o e => hk₁ b o (of_hideAll _ e), Nat.le_of_eq (hideAll_size _ _)⟩ (fun p hp => ?_) Y BG (X₀.keeps st) (T.keeps st) (fun p hp => Heap.lt_size (N0 p hp).1) (fun b o e n => hideAll_get _ e n)) (fun fl s' hl => lv _ _ (leaveN_K N rfl hl)) fun _ _ y => y
  rcases List.mem_append.mp hp with hp | hp
  · refine ⟨(NC p hp).1, (NC p hp).2.1, ?_⟩
    cases q : (hideAll s.heap (need.map (·.1))).get? p.1 with
    | none => rfl
    | some o => have := of_hideAll _ q; rw [(NC p hp).2.2] at this; cases this
  · exact ⟨hk₁ _ _ (N0 p hp).1, Nat.ne_of_lt (Heap.lt_size (N0 p hp).1), hideAll_none _ (List.mem_map_of_mem hp)⟩
end
theorem Upd.mem {d : Addr} {o o' : Obj} {l l' : List (Addr × Obj)} (U : Upd d o o' l l') : (d, o) ∈ l := by
  obtain ⟨p, q, e, _, _, _⟩ := U.split; rw [e]; exact List.mem_append.mpr (.inr (.head _))
theorem Upd.other {d : Addr} {o o' : Obj} {l l' : List (Addr × Obj)} (U : Upd d o o' l l') {p : Addr × Obj} (h : p ∈ l') (hd : p.1 ≠ d) : p ∈ l := by
  obtain ⟨p1, q1, e1, e1', _, _⟩ := U.split
  rw [e1'] at h; rw [e1]
  rcases List.mem_append.mp h with h | h
  · exact List.mem_append.mpr (.inl h)
  · rcases List.mem_cons.mp h with h | h
    · rw [h] at hd; exact absurd rfl hd
    · exact List.mem_append.mpr (.inr (List.mem_cons_of_mem _ h))
theorem UpdF.mem {d : Addr} {o : Obj} {l : List (Addr × Obj)} {g : Obj → List (Addr × Obj)} (U : UpdF d o l g) : (d, o) ∈ l := by
  obtain ⟨p, q, e, _, _, _⟩ := U.split; rw [e]; exact List.mem_append.mpr (.inr (.head _))
theorem UpdF.other {d : Addr} {o o' : Obj} {l : List (Addr × Obj)} {g : Obj → List (Addr × Obj)} (U : UpdF d o l g) {p : Addr × Obj} (h : p ∈ g o') : p = (d, o') ∨ (p ∈ l ∧ p.1 ≠ d) := by
  obtain ⟨p1, q1, e1, e1', a, b⟩ := U.split
  rw [e1'] at h; rw [e1]
  rcases List.mem_append.mp h with h | h
  · exact .inr ⟨List.mem_append.mpr (.inl h), a p h⟩
  · rcases List.mem_cons.mp h with h | h
    · exact .inl h
    · exact .inr ⟨List.mem_append.mpr (.inr (List.mem_cons_of_mem _ h)), b p h⟩
end
end Mine
open Mine
local macro_rules | `(tactic| walk_at "i0") => `(tactic| (intro g' t' h' tk' g0' gE' gL' F' N'))
namespace Mine
section
-- the gcd loop, as plain numbers
theorem gcd_turn {a b : Int} (hb : 0 < b) : Int.gcd b (a.fmod b) = Int.gcd a b := by
  rw [Int.fmod_eq_emod_of_nonneg _ (by omega), Int.gcd_comm a b]
  conv => rhs; rw [← Int.mul_ediv_add_emod a b]
  rw [Int.gcd_mul_left_add_right]
theorem dv_turn {a b : Int} {g : Nat} (hb : b > 0) (h : Int.gcd a b = g) : 0 ≤ b ∧ 0 ≤ a.fmod b ∧ Int.gcd b (a.fmod b) = g :=
  ⟨by omega, by rw [Int.fmod_eq_emod_of_nonneg _ (by omega)]; exact Int.emod_nonneg _ (by omega), by rw [gcd_turn hb]; exact h⟩
theorem dv_less {a b : Int} (hb : b > 0) : (a.fmod b).toNat < b.toNat := by
  have h1 : a.fmod b = a % b := Int.fmod_eq_emod_of_nonneg _ (by omega)
  have h2 := Int.emod_nonneg a (show b ≠ 0 by omega)
  have h3 := Int.emod_lt_of_pos a (show 0 < b by omega)
  omega
theorem dv_end {x y a b : Int} (ha : 0 ≤ a) (hb : 0 ≤ b) (hn : ¬ b > 0) (h : Int.gcd a b = Int.gcd (if x < 0 then -x else x) (if y < 0 then -y else y)) : a = ((Int.gcd x y : Nat) : Int) := by
  have e : b = 0 := by omega
  subst e
  rw [Int.gcd_zero] at h
  have h1 : Int.gcd (if x < 0 then -x else x) (if y < 0 then -y else y) = Int.gcd x y := by
    split <;> split <;> simp
  omega
-- fractions as rationals
theorem num_p {x y g : Int} (h : ¬ y < 0) (h0 : y ≠ 0) (e : g = ((Int.gcd x y : Nat) : Int)) : x.fdiv g = (Rat.divInt x y).num := by
  rw [e, Rat.num_divInt, Int.sign_eq_one_of_pos (by omega), Int.one_mul, Int.gcd_comm, Int.fdiv_eq_ediv_of_nonneg _ (by omega)]
theorem den_p {x y g : Int} (h : ¬ y < 0) (h0 : y ≠ 0) (e : g = ((Int.gcd x y : Nat) : Int)) : y.fdiv g = ((Rat.divInt x y).den : Int) := by
  rw [e, Rat.den_divInt, if_neg (by omega), Int.gcd_comm, Int.fdiv_eq_ediv_of_nonneg _ (by omega), Int.natCast_ediv]
  congr 1
  omega
theorem num_n {x y g : Int} (h : y < 0) (e : g = ((Int.gcd (-x) (-y) : Nat) : Int)) : (-x).fdiv g = (Rat.divInt x y).num := by
  rw [← Rat.neg_divInt_neg]; exact num_p (by omega) (by omega) e
theorem den_n {x y g : Int} (h : y < 0) (e : g = ((Int.gcd (-x) (-y) : Nat) : Int)) : (-y).fdiv g = ((Rat.divInt x y).den : Int) := by
  rw [← Rat.neg_divInt_neg]; exact den_p (by omega) (by omega) e
theorem num_le (u l : Int) : (Rat.divInt u l).num.natAbs ≤ u.natAbs := by
  rw [Rat.num_divInt]
  refine Nat.le_trans (Int.natAbs_ediv_le_natAbs _ _) ?_
  rcases Int.lt_trichotomy l 0 with h | h | h
  · rw [Int.sign_eq_neg_one_of_neg h]; omega
  · subst h; simp
  · rw [Int.sign_eq_one_of_pos h]; omega
theorem den_le {u l : Int} (h : l ≠ 0) : (Rat.divInt u l).den ≤ l.natAbs := by
  rw [Rat.den_divInt, if_neg h]
  exact Nat.div_le_self _ _
theorem r_plus (r q : Rat) : Rat.divInt (r.num * q.den + q.num * r.den) (r.den * q.den) = r + q := by
  rw [Rat.add_def', ← Rat.divInt_ofNat]; rfl
theorem r_minus (r q : Rat) : Rat.divInt (r.num * q.den - q.num * r.den) (r.den * q.den) = r - q := by
  rw [Rat.sub_def', ← Rat.divInt_ofNat]; rfl
theorem r_times (r q : Rat) : Rat.divInt (r.num * q.num) (r.den * q.den) = r * q := by
  rw [Rat.mul_def', ← Rat.divInt_ofNat]; rfl
theorem r_over (r q : Rat) : Rat.divInt (r.num * q.den) (r.den * q.num) = r / q := by
  rw [Rat.div_def, Rat.inv_def]
  conv => rhs; rw [← Rat.num_divInt_den r]
  rw [Rat.divInt_mul_divInt]
theorem r_int (n : Int) : Rat.divInt n 1 = (n : Rat) := by
  rw [Rat.divInt_eq_div]; grind
theorem nzmul {a b : Int} (ha : a ≠ 0) (hb : b ≠ 0) : a * b ≠ 0 := Int.mul_ne_zero ha hb
theorem nzden (r : Rat) : (r.den : Int) ≠ 0 := by have := r.den_nz; omega
-- sizes
def Fits (x : Int) : Prop := x.natAbs < 10 ^ 2000
theorem Fits.no {x g M : Int} (h : Fits x) (hg : 0 < g) (hb : x.fdiv g ≥ M) (hM : M = 10 ^ 2000) : False := by
  have h1 : (x.fdiv g).natAbs ≤ x.natAbs := by
    rw [Int.fdiv_eq_ediv_of_nonneg _ (by omega)]
    exact Int.natAbs_ediv_le_natAbs _ _
  have h2 : ((10 ^ 2000 : Nat) : Int) = M := by rw [hM]; simp
  unfold Fits at h
  generalize (10 : Nat) ^ 2000 = P at h h2
  omega
theorem Fits.noA {x g M : Int} (h : Fits x) (hg : 0 < g) (hb : (if x.fdiv g < 0 then -(x.fdiv g) else x.fdiv g) ≥ M) (hM : M = 10 ^ 2000) : False := by
  have h1 : (x.fdiv g).natAbs ≤ x.natAbs := by
    rw [Int.fdiv_eq_ediv_of_nonneg _ (by omega)]
    exact Int.natAbs_ediv_le_natAbs _ _
  have h2 : ((10 ^ 2000 : Nat) : Int) = M := by rw [hM]; simp
  unfold Fits at h
  generalize (10 : Nat) ^ 2000 = P at h h2
  omega
theorem Fits.neg {x : Int} (h : Fits x) : Fits (-x) := by unfold Fits at *; omega
theorem ten_two : (10 : Nat) ^ 2000 < 2 ^ 9000 := by decide +kernel
theorem two_ten : (2 : Nat) ^ 6643 < 10 ^ 2000 := by decide +kernel
theorem Fits.log {x : Int} {n : Nat} (h : Fits x) (h0 : 0 < n) (hn : n ≤ x.natAbs) : (n : Int).natAbs.log2 < 9000 := by
  have e : (n : Int).natAbs = n := by omega
  rw [e]
  refine (Nat.log2_lt (by omega)).mpr ?_
  unfold Fits at h
  have := ten_two
  generalize (10 : Nat) ^ 2000 = P at *
  generalize (2 : Nat) ^ 9000 = R at *
  omega
theorem Fits.of {x : Int} {n : Nat} (h : Builtin.Int.intBits x ≤ n) (hn : n ≤ 6643) : Fits x := by
  have h1 := natAbs_lt_pow_bits x
  have h2 : (2 : Nat) ^ Builtin.Int.intBits x ≤ 2 ^ 6643 := Nat.pow_le_pow_right (by decide) (by omega)
  have h3 := two_ten
  unfold Fits
  generalize (10 : Nat) ^ 2000 = P at *
  generalize (2 : Nat) ^ 6643 = R at *
  omega
theorem bits_num {u l : Int} {n : Nat} (h : Builtin.Int.intBits u ≤ n) : Builtin.Int.intBits (Rat.divInt u l).num ≤ n := bits_of_natAbs_le (num_le u l) h
theorem bits_den {u l : Int} {n : Nat} (h0 : l ≠ 0) (h : Builtin.Int.intBits l ≤ n) : Builtin.Int.intBits ((Rat.divInt u l).den : Int) ≤ n := bits_of_natAbs_le (by have := den_le (u := u) h0; omega) h

-- the calls
abbrev RatO (r : Rat) (t t' : Tok) (c : Nat) : Obj := { cls := .type "tuple", data := .seq #[.int r.num t, .int (r.den : Int) t'] c }
theorem words1 : True := by
  k_with "ne9" => (refine neN ?_; (try dsimp only); first | with_reducible assumption | exact Ne.symm (by with_reducible assumption) | exact pj0 (by with_reducible assumption) | exact pj1 (by with_reducible assumption) | exact pj2 (by with_reducible assumption) | exact pj3 (by with_reducible assumption) | exact pj4 (by with_reducible assumption) | exact pj5 (by with_reducible assumption) | exact pj6 (by with_reducible assumption) | exact pj7 (by with_reducible assumption) | exact pj8 (by with_reducible assumption) | exact pj9 (by with_reducible assumption) | exact pj10 (by with_reducible assumption) | exact pj11 (by with_reducible assumption) | exact Ne.symm (pj0 (by with_reducible assumption)) | exact Ne.symm (pj1 (by with_reducible assumption)) | exact Ne.symm (pj2 (by with_reducible assumption)) | exact Ne.symm (pj3 (by with_reducible assumption)) | exact Ne.symm (pj4 (by with_reducible assumption)) | exact Ne.symm (pj5 (by with_reducible assumption)) | exact Ne.symm (pj6 (by with_reducible assumption)) | exact Ne.symm (pj7 (by with_reducible assumption)) | exact Ne.symm (pj8 (by with_reducible assumption)) | exact Ne.symm (pj9 (by with_reducible assumption)) | exact Ne.symm (pj10 (by with_reducible assumption)) | exact Ne.symm (pj11 (by with_reducible assumption)) | exact ad1 | exact ad2 | exact ad3 | exact ad4 | exact ad5 | exact ad6 | exact ad7 | exact ad8 | exact Ne.symm ad1 | exact Ne.symm ad2 | exact Ne.symm ad3 | exact Ne.symm ad4 | exact Ne.symm ad5 | exact Ne.symm ad6 | exact Ne.symm ad7 | exact Ne.symm ad8 | exact Nat.ne_of_lt (by with_reducible assumption) | exact Nat.ne_of_gt (by with_reducible assumption) | exact Nat.ne_of_lt (pj0 (by with_reducible assumption)) | exact Nat.ne_of_lt (pj1 (by with_reducible assumption)) | exact Nat.ne_of_lt (pj2 (by with_reducible assumption)) | exact Nat.ne_of_lt (pj3 (by with_reducible assumption)) | exact Nat.ne_of_lt (pj4 (by with_reducible assumption)) | exact Nat.ne_of_lt (pj5 (by with_reducible assumption)) | exact Nat.ne_of_lt (pj6 (by with_reducible assumption)) | exact Nat.ne_of_lt (pj7 (by with_reducible assumption)) | exact Nat.ne_of_lt (pj8 (by with_reducible assumption)) | exact Nat.ne_of_lt (pj9 (by with_reducible assumption)) | exact Nat.ne_of_lt (pj10 (by with_reducible assumption)) | exact Nat.ne_of_lt (pj11 (by with_reducible assumption)) | exact Nat.ne_of_gt (pj0 (by with_reducible assumption)) | exact Nat.ne_of_gt (pj1 (by with_reducible assumption)) | exact Nat.ne_of_gt (pj2 (by with_reducible assumption)) | exact Nat.ne_of_gt (pj3 (by with_reducible assumption)) | exact Nat.ne_of_gt (pj4 (by with_reducible assumption)) | exact Nat.ne_of_gt (pj5 (by with_reducible assumption)) | exact Nat.ne_of_gt (pj6 (by with_reducible assumption)) | exact Nat.ne_of_gt (pj7 (by with_reducible assumption)) | exact Nat.ne_of_gt (pj8 (by with_reducible assumption)) | exact Nat.ne_of_gt (pj9 (by with_reducible assumption)) | exact Nat.ne_of_gt (pj10 (by with_reducible assumption)) | exact Nat.ne_of_gt (pj11 (by with_reducible assumption)) | omega)
  k_with "k_ne" => (walk_at "ne9")
  k_with "k_in" => (refine' in_of ?z1fF ?z1fX; (case z1fF => k_asm); (case z1fX => k_asm))
  trivial
theorem div_c {w : World} {p : Program} {loose : List Str} {mean : ExcName → Option Value} {mg mb : Str → Option Value} (dp un : Nat) (gd : Option (List Code)) (cn : Str) (cs : Scope) (a : Addr) (ccd : Value) (cl : List (Str × Addr)) (outer : List Env) (A₀ : Around) (base h₀ : Heap) (L : Addr) (m : Str → Option Value) (news : List (Addr × Obj)) (s : Shared) (Q E : Value → Shared → Prop) (x y : Int) (t1 t2 : Tok)
    (B : Below A₀ base outer h₀) (F : Fr h₀ L s.heap m) (X : (HD.K w.params).In h₀) (N : News h₀ L s.heap news) (T : Top p loose mean mg mb h₀) (hk : cs.kind = .function)
    (hd : dp + 1 < recursionLimit) (hu : un + 8 < cLine)
    (hret : ∀ (t : Tok) (h' : Heap) (tk' : Nat), Fr h₀ L h' m → News h₀ L h' news → Q (.int ((Int.gcd x y : Nat) : Int) t) { s with heap := h', toks := tk' }) :
      wpAny (model PySem.Challenge.rw_ui0509_08.row.prog w) (ktrTop dp un gd cn cs L a ccd cl outer) (call (.ref 61) [.int x t1, .int y t2]) Q E s := by
  revert X; k_fill; intro X
  refine wpAny_call ?_
  k_dflt ktr_enter
  (k_with "exec While Compare cons nil" => k_while_given ["a!", "b!"] (fun a₀ b₀ _ a b => 0 ≤ a ∧ 0 ≤ b ∧ Int.gcd a b = Int.gcd a₀ b₀) (fun _ _ _ _ b => b.toNat) "a" "b")
  (k_with "state" => exact dv_turn (by assumption) (by assumption))
  (k_with "measure" => exact dv_less (by assumption))
  k_steps
  all_goals exact cb_retI hret (dv_end (by assumption) (by assumption) (by assumption) (by assumption)) (by k_asm) (by k_asm)
theorem div_use {w : World} {p : Program} {loose : List Str} {mean : ExcName → Option Value} {mg mb : Str → Option Value} (dp un : Nat) (gd : Option (List Code)) (cn : Str) (cs : Scope) (a : Addr) (ccd : Value) (cl : List (Str × Addr)) (outer : List Env) (A₀ : Around) (base h₀ : Heap) (L : Addr) (m : Str → Option Value) (news : List (Addr × Obj)) (s : Shared) (Q E : Value → Shared → Prop) (x y : Int) (t1 t2 : Tok)
    (B : Below A₀ base outer h₀) (F : Fr h₀ L s.heap m) (X : (HD.K w.params).In h₀) (N : News h₀ L s.heap news) (T : Top p loose mean mg mb h₀) (hk : cs.kind = .function)
    (hd : dp + 1 < recursionLimit) (hu : un + 8 < cLine) (hy : y ≠ 0) (hf : Fits y)
    (hret : ∀ (g : Int) (t : Tok) (h' : Heap) (tk' : Nat), 0 < g → g = ((Int.gcd x y : Nat) : Int) → g.natAbs.log2 < 9000 → Fr h₀ L h' m → News h₀ L h' news → Q (.int g t) { s with heap := h', toks := tk' }) :
      wpAny (model PySem.Challenge.rw_ui0509_08.row.prog w) (ktrTop dp un gd cn cs L a ccd cl outer) (call (.ref 61) [.int x t1, .int y t2]) Q E s :=
  div_c dp un gd cn cs a ccd cl outer A₀ base h₀ L m news s Q E x y t1 t2 B F X N T hk hd hu (fun t h' tk' F' N' => hret _ t h' tk' (by have := Int.gcd_pos_of_ne_zero_right x hy; omega) rfl (Fits.log hf (Int.gcd_pos_of_ne_zero_right x hy) (Int.gcd_le_natAbs_right x hy)) F' N')
theorem fr_end {h₀ h' : Heap} {L D : Addr} {m : Str → Option Value} {news : List (Addr × Obj)} {s : Shared} {Q : Value → Shared → Prop} {x y a b : Int} {t t' : Tok} {c tk' : Nat}
    (hret : ∀ (r : Rat) (D : Addr) (t t' : Tok) (c : Nat) (h' : Heap) (tk' : Nat), r = Rat.divInt x y → Fr h₀ L h' m → News h₀ L h' ((D, RatO r t t' c) :: news) → (∀ p ∈ news, p.1 < D) → Q (.ref D) { s with heap := h', toks := tk' })
    (e1 : a = (Rat.divInt x y).num) (e2 : b = ((Rat.divInt x y).den : Int)) (F : Fr h₀ L h' m) (N : News h₀ L h' ((D, ({ cls := .type "tuple", data := .seq #[.int a t, .int b t'] c } : Obj)) :: news)) (hl : ∀ p ∈ news, p.1 < D) : Q (.ref D) { s with heap := h', toks := tk' } := by
  subst e1; subst e2
  exact hret _ D t t' c h' tk' rfl F N hl
theorem words2 : True := by
  k_with "call ref" => (k_here; (with_reducible show wpAny _ _ (call (Value.ref 61) [Value.int _ _, Value.int _ _]) _ _ _); k_dflt (refine' div_use _ _ _ _ _ _ _ _ _ _ _ _ _ _ _ _ _ _ _ _ _ _ ?z2k1 ?z2k2 ?z2k3 ?z2k4 ?z2k5 ?z2k6 ?z2k7 ?z2k8 ?z2k9 ?z2k10 ?_; (case z2k1 => k_asm); (case z2k2 => k_asm); (case z2k3 => k_asm); (case z2k4 => k_asm); (case z2k5 => k_asm); (case z2k6 => first | exact rfl | assumption); (case z2k7 => ktr_room); (case z2k8 => ktr_units); (case z2k9 => omega); (case z2k10 => first | assumption | exact Fits.neg (by assumption) | exact Fits.of (n := 64) (PySem.intBits_le_64 (by omega) (by omega)) (by decide)); k_whole); walk_at "i0"; (try k_sweep))
  k_with "binaryOp FloorDiv int int" => (with_reducible refine floordiv_int ?z3ne ?_ (Or.inl (PyProof.noPylong_of_log2 ?z3lg)); (case z3lg => with_reducible assumption); (case z3ne => omega))
  trivial
theorem frac_c {w : World} {p : Program} {loose : List Str} {mean : ExcName → Option Value} {mg mb : Str → Option Value} (dp un : Nat) (gd : Option (List Code)) (cn : Str) (cs : Scope) (a : Addr) (ccd : Value) (cl : List (Str × Addr)) (outer : List Env) (A₀ : Around) (base h₀ : Heap) (L : Addr) (m : Str → Option Value) (news : List (Addr × Obj)) (s : Shared) (Q E : Value → Shared → Prop) (x y : Int) (t1 t2 : Tok)
    (B : Below A₀ base outer h₀) (F : Fr h₀ L s.heap m) (X : (HD.K w.params).In h₀) (N : News h₀ L s.heap news) (T : Top p loose mean mg mb h₀) (hk : cs.kind = .function)
    (hd : dp + 2 < recursionLimit) (hu : un + 16 < cLine) (hy : y ≠ 0) (hx1 : Fits x) (hy1 : Fits y)
    (hret : ∀ (r : Rat) (D : Addr) (t t' : Tok) (c : Nat) (h' : Heap) (tk' : Nat), r = Rat.divInt x y → Fr h₀ L h' m → News h₀ L h' ((D, RatO r t t' c) :: news) → (∀ p ∈ news, p.1 < D) → Q (.ref D) { s with heap := h', toks := tk' }) :
      wpAny (model PySem.Challenge.rw_ui0509_08.row.prog w) (ktrTop dp un gd cn cs L a ccd cl outer) (call (.ref 69) [.int x t1, .int y t2]) Q E s := by
  revert X; k_fill; intro X
  refine wpAny_call ?_
  k_dflt (refine' code_def ?k1 ?k2 ?k3 ?k4 ?k5 ?kA ?kF ?kK ?k6 ?k7 ?k8 ?k9 ?kB ?_ ?c2 ?c3 ?c4 ?c5; (case kA => exact rfl); (case kF => exact rfl); (case kK => assumption); (case k1 => k_asm); (case k2 => k_asm); (case k3 => k_asm); (case k4 => k_asm); (case k5 => k_asm); (case k6 => k_is); (case k7 => k_is); (case k8 => ktr_room); (case k9 => first | exact BindsTo.of_eq rfl | exact binds_K (by k_in) rfl (by k_is) rfl rfl rfl); (case c5 => decide); (case kB => exact locs rfl); (case c2 => exact rfl); (case c3 => exact rfl); (case c4 => exact rfl); k_whole; intro g' L' h' FG' F' N' B' X' T'; (try dsimp only); (try k_fold))
  k_steps
  all_goals first
    | exact absurd (by assumption) hy
    | exact fr_end hret (num_p (by assumption) hy (by assumption)) (den_p (by assumption) hy (by assumption)) (by k_asm) (by k_asm) (by assumption)
    | exact fr_end hret (num_n (by assumption) (by assumption)) (den_n (by assumption) (by assumption)) (by k_asm) (by k_asm) (by assumption)
    | exact (Fits.no hy1 (by assumption) (by assumption) (by decide +kernel)).elim
    | exact (Fits.no (Fits.neg hy1) (by assumption) (by assumption) (by decide +kernel)).elim
    | exact (Fits.noA hx1 (by assumption) (by assumption) (by decide +kernel)).elim
    | exact (Fits.noA (Fits.neg hx1) (by assumption) (by assumption) (by decide +kernel)).elim
theorem fits_one : Fits 1 := Fits.of (n := 64) (PySem.intBits_le_64 (by omega) (by omega)) (by decide)
theorem fd_end {h₀ h' : Heap} {L D : Addr} {m : Str → Option Value} {news : List (Addr × Obj)} {s : Shared} {Q : Value → Shared → Prop} {x g : Int} {t t' : Tok} {c tk' : Nat}
    (hret : ∀ (D : Addr) (t t' : Tok) (c : Nat) (h' : Heap) (tk' : Nat), Fr h₀ L h' m → News h₀ L h' ((D, ({ cls := .type "tuple", data := .seq #[.int x t, .int 1 t'] c } : Obj)) :: news) → (∀ p ∈ news, p.1 < D) → Q (.ref D) { s with heap := h', toks := tk' })
    (e : g = ((Int.gcd x 1 : Nat) : Int)) (F : Fr h₀ L h' m) (N : News h₀ L h' ((D, ({ cls := .type "tuple", data := .seq #[.int (x.fdiv g) t, .int (Int.fdiv 1 g) t'] c } : Obj)) :: news)) (hl : ∀ p ∈ news, p.1 < D) : Q (.ref D) { s with heap := h', toks := tk' } := by
  have e1 : g = 1 := by rw [e, Int.gcd_one]; rfl
  subst e1
  rw [Int.fdiv_one, Int.fdiv_one] at N
  exact hret D t t' c h' tk' F N hl
theorem frac_d {w : World} {p : Program} {loose : List Str} {mean : ExcName → Option Value} {mg mb : Str → Option Value} (dp un : Nat) (gd : Option (List Code)) (cn : Str) (cs : Scope) (a : Addr) (ccd : Value) (cl : List (Str × Addr)) (outer : List Env) (A₀ : Around) (base h₀ : Heap) (L : Addr) (m : Str → Option Value) (news : List (Addr × Obj)) (s : Shared) (Q E : Value → Shared → Prop) (x : Int) (t1 : Tok)
    (B : Below A₀ base outer h₀) (F : Fr h₀ L s.heap m) (X : (HD.K w.params).In h₀) (N : News h₀ L s.heap news) (T : Top p loose mean mg mb h₀) (hk : cs.kind = .function)
    (hd : dp + 2 < recursionLimit) (hu : un + 16 < cLine) (hx1 : Fits x)
    (hret : ∀ (D : Addr) (t t' : Tok) (c : Nat) (h' : Heap) (tk' : Nat), Fr h₀ L h' m → News h₀ L h' ((D, ({ cls := .type "tuple", data := .seq #[.int x t, .int 1 t'] c } : Obj)) :: news) → (∀ p ∈ news, p.1 < D) → Q (.ref D) { s with heap := h', toks := tk' }) :
      wpAny (model PySem.Challenge.rw_ui0509_08.row.prog w) (ktrTop dp un gd cn cs L a ccd cl outer) (call (.ref 69) [.int x t1]) Q E s := by
  revert X; k_fill; intro X
  refine wpAny_call ?_
  k_dflt (refine' code_def ?k1 ?k2 ?k3 ?k4 ?k5 ?kA ?kF ?kK ?k6 ?k7 ?k8 ?k9 ?kB ?_ ?c2 ?c3 ?c4 ?c5; (case kA => exact rfl); (case kF => exact rfl); (case kK => assumption); (case k1 => k_asm); (case k2 => k_asm); (case k3 => k_asm); (case k4 => k_asm); (case k5 => k_asm); (case k6 => k_is); (case k7 => k_is); (case k8 => ktr_room); (case k9 => first | exact BindsTo.of_eq rfl | exact binds_K (by k_in) rfl (by k_is) rfl rfl rfl); (case c5 => decide); (case kB => exact locs rfl); (case c2 => exact rfl); (case c3 => exact rfl); (case c4 => exact rfl); k_whole; intro g' L' h' FG' F' N' B' X' T'; (try dsimp only); (try k_fold))
  k_steps
  all_goals first
    | exact fd_end hret (by assumption) (by k_asm) (by k_asm) (by assumption)
    | exact (Fits.no fits_one (by assumption) (by assumption) (by decide +kernel)).elim
    | exact (Fits.noA hx1 (by assumption) (by assumption) (by decide +kernel)).elim
theorem frac_use {w : World} {p : Program} {loose : List Str} {mean : ExcName → Option Value} {mg mb : Str → Option Value} {dp un : Nat} {gd : Option (List Code)} {cn : Str} {cs : Scope} {a : Addr} {ccd : Value} {cl : List (Str × Addr)} {outer : List Env} {A₀ : Around} {base h₀ : Heap} {L : Addr} {m : Str → Option Value} {news : List (Addr × Obj)} {s : Shared} {Q E : Value → Shared → Prop} {x y : Int} {t1 t2 : Tok} {nx ny : Nat}
    (B : Below A₀ base outer h₀) (F : Fr h₀ L s.heap m) (X : (HD.K w.params).In h₀) (N : News h₀ L s.heap news) (T : Top p loose mean mg mb h₀) (hk : cs.kind = .function)
    (hd : dp + 2 < recursionLimit) (hu : un + 16 < cLine) (hy : y ≠ 0) (hx1 : Builtin.Int.intBits x ≤ nx) (hy1 : Builtin.Int.intBits y ≤ ny) (hnx : nx ≤ 6643) (hny : ny ≤ 6643)
    (hret : ∀ (r : Rat) (D : Addr) (t t' : Tok) (c : Nat) (h' : Heap) (tk' : Nat), r = Rat.divInt x y → Builtin.Int.intBits r.num ≤ nx → Builtin.Int.intBits (r.den : Int) ≤ ny → Fr h₀ L h' m → News h₀ L h' ((D, RatO r t t' c) :: news) → (∀ p ∈ news, p.1 < D) → Q (.ref D) { s with heap := h', toks := tk' }) :
      wpAny (model PySem.Challenge.rw_ui0509_08.row.prog w) (ktrTop dp un gd cn cs L a ccd cl outer) (call (.ref 69) [.int x t1, .int y t2]) Q E s :=
  frac_c dp un gd cn cs a ccd cl outer A₀ base h₀ L m news s Q E x y t1 t2 B F X N T hk hd hu hy (Fits.of hx1 hnx) (Fits.of hy1 hny) fun r D t t' c h' tk' e F' N' l => hret r D t t' c h' tk' e (e ▸ bits_num hx1) (e ▸ bits_den hy hy1) F' N' l
theorem r_one_num (x : Int) : (Rat.divInt x 1).num = x := by rw [r_int]; rfl
theorem r_one_den (x : Int) : (Rat.divInt x 1).den = 1 := by rw [r_int]; rfl
theorem frac_one {w : World} {p : Program} {loose : List Str} {mean : ExcName → Option Value} {mg mb : Str → Option Value} {dp un : Nat} {gd : Option (List Code)} {cn : Str} {cs : Scope} {a : Addr} {ccd : Value} {cl : List (Str × Addr)} {outer : List Env} {A₀ : Around} {base h₀ : Heap} {L : Addr} {m : Str → Option Value} {news : List (Addr × Obj)} {s : Shared} {Q E : Value → Shared → Prop} {x : Int} {t1 t2 : Tok} {nx : Nat}
    (B : Below A₀ base outer h₀) (F : Fr h₀ L s.heap m) (X : (HD.K w.params).In h₀) (N : News h₀ L s.heap news) (T : Top p loose mean mg mb h₀) (hk : cs.kind = .function)
    (hd : dp + 2 < recursionLimit) (hu : un + 16 < cLine) (hx1 : Builtin.Int.intBits x ≤ nx) (hnx : nx ≤ 6643)
    (hret : ∀ (D : Addr) (t t' : Tok) (c : Nat) (h' : Heap) (tk' : Nat), Fr h₀ L h' m → News h₀ L h' ((D, ({ cls := .type "tuple", data := .seq #[.int x t, .int 1 t'] c } : Obj)) :: news) → (∀ p ∈ news, p.1 < D) → Q (.ref D) { s with heap := h', toks := tk' }) :
      wpAny (model PySem.Challenge.rw_ui0509_08.row.prog w) (ktrTop dp un gd cn cs L a ccd cl outer) (call (.ref 69) [.int x t1, .int 1 t2]) Q E s :=
  frac_c dp un gd cn cs a ccd cl outer A₀ base h₀ L m news s Q E x 1 t1 t2 B F X N T hk hd hu (by decide) (Fits.of hx1 hnx) (Fits.of (n := 64) (PySem.intBits_le_64 (by omega) (by omega)) (by decide)) fun r D t t' c h' tk' e F' N' l => hret D t t' c h' tk' F' (by
    subst e
    unfold RatO at N'
    rw [r_one_num, r_one_den] at N'
    exact N') l
theorem frac_dflt {w : World} {p : Program} {loose : List Str} {mean : ExcName → Option Value} {mg mb : Str → Option Value} {dp un : Nat} {gd : Option (List Code)} {cn : Str} {cs : Scope} {a : Addr} {ccd : Value} {cl : List (Str × Addr)} {outer : List Env} {A₀ : Around} {base h₀ : Heap} {L : Addr} {m : Str → Option Value} {news : List (Addr × Obj)} {s : Shared} {Q E : Value → Shared → Prop} {x : Int} {t1 : Tok} {nx : Nat}
    (B : Below A₀ base outer h₀) (F : Fr h₀ L s.heap m) (X : (HD.K w.params).In h₀) (N : News h₀ L s.heap news) (T : Top p loose mean mg mb h₀) (hk : cs.kind = .function)
    (hd : dp + 2 < recursionLimit) (hu : un + 16 < cLine) (hx1 : Builtin.Int.intBits x ≤ nx) (hnx : nx ≤ 6643)
    (hret : ∀ (D : Addr) (t t' : Tok) (c : Nat) (h' : Heap) (tk' : Nat), Fr h₀ L h' m → News h₀ L h' ((D, ({ cls := .type "tuple", data := .seq #[.int x t, .int 1 t'] c } : Obj)) :: news) → (∀ p ∈ news, p.1 < D) → Q (.ref D) { s with heap := h', toks := tk' }) :
      wpAny (model PySem.Challenge.rw_ui0509_08.row.prog w) (ktrTop dp un gd cn cs L a ccd cl outer) (call (.ref 69) [.int x t1]) Q E s :=
  frac_d dp un gd cn cs a ccd cl outer A₀ base h₀ L m news s Q E x t1 B F X N T hk hd hu (Fits.of hx1 hnx) hret
end
end Mine
open Mine
local macro_rules | `(tactic| walk_at "i1") => `(tactic| (intro r' D' t' u' c' h' tk' rE' F' N' l1))
namespace Mine
section
abbrev T2 (x y : Int) (t t' : Tok) (c : Nat) : Obj := { cls := .type "tuple", data := .seq #[.int x t, .int y t'] c }
theorem tup_g {prog : Program} {w : World} {A : Around} {E : Value → Shared → Prop} {s : Shared} {h₀ : Heap} {L D : Addr} {m : Str → Option Value} {lo : Obj} {value slice : Expr} {l : List Value} {n : Nat} {k : Int} {u : Tok} {j : Nat} {x : Value} {Q : Value → Shared → Prop}
    (F : Fr h₀ L s.heap m) (e : h₀.get? D = some lo) (hc : lo.cls = .type "tuple") (hd : lo.data = .seq l.toArray n) (hlo : -(2 ^ 63) ≤ k) (hhi : k < 2 ^ 63) (hj : seqIndex? k l.length = some j) (hx : l[j]? = some x) (h : Q x s)
    (hs : subscripted slice false (.ref D) (.int k u) = operate [.ref D, .int k u] (getItem (.ref D) (.int k u))) (hg : ∀ r, letTemporaryGo value (.ref D) r = pure ()) :
    wpAny (model prog w) A (subscriptTail value slice (.ref D) (.int k u)) Q E s := item_tupleL ⟨lo, F.keep _ _ e, hc, n, hd⟩ hlo hhi hj hx h hs hg
theorem bits_one : Builtin.Int.intBits 1 ≤ 1 := by decide
section
theorem words3 : True := by
  k_with_none
  k_with "ne9" => (refine neN ?_; (try dsimp only); first | with_reducible assumption | exact Ne.symm (by with_reducible assumption) | exact pj0 (by with_reducible assumption) | exact pj1 (by with_reducible assumption) | exact pj2 (by with_reducible assumption) | exact pj3 (by with_reducible assumption) | exact pj4 (by with_reducible assumption) | exact pj5 (by with_reducible assumption) | exact pj6 (by with_reducible assumption) | exact pj7 (by with_reducible assumption) | exact pj8 (by with_reducible assumption) | exact pj9 (by with_reducible assumption) | exact pj10 (by with_reducible assumption) | exact pj11 (by with_reducible assumption) | exact Ne.symm (pj0 (by with_reducible assumption)) | exact Ne.symm (pj1 (by with_reducible assumption)) | exact Ne.symm (pj2 (by with_reducible assumption)) | exact Ne.symm (pj3 (by with_reducible assumption)) | exact Ne.symm (pj4 (by with_reducible assumption)) | exact Ne.symm (pj5 (by with_reducible assumption)) | exact Ne.symm (pj6 (by with_reducible assumption)) | exact Ne.symm (pj7 (by with_reducible assumption)) | exact Ne.symm (pj8 (by with_reducible assumption)) | exact Ne.symm (pj9 (by with_reducible assumption)) | exact Ne.symm (pj10 (by with_reducible assumption)) | exact Ne.symm (pj11 (by with_reducible assumption)) | exact ad1 | exact ad2 | exact ad3 | exact ad4 | exact ad5 | exact ad6 | exact ad7 | exact ad8 | exact Ne.symm ad1 | exact Ne.symm ad2 | exact Ne.symm ad3 | exact Ne.symm ad4 | exact Ne.symm ad5 | exact Ne.symm ad6 | exact Ne.symm ad7 | exact Ne.symm ad8 | exact Nat.ne_of_lt (by with_reducible assumption) | exact Nat.ne_of_gt (by with_reducible assumption) | exact Nat.ne_of_lt (pj0 (by with_reducible assumption)) | exact Nat.ne_of_lt (pj1 (by with_reducible assumption)) | exact Nat.ne_of_lt (pj2 (by with_reducible assumption)) | exact Nat.ne_of_lt (pj3 (by with_reducible assumption)) | exact Nat.ne_of_lt (pj4 (by with_reducible assumption)) | exact Nat.ne_of_lt (pj5 (by with_reducible assumption)) | exact Nat.ne_of_lt (pj6 (by with_reducible assumption)) | exact Nat.ne_of_lt (pj7 (by with_reducible assumption)) | exact Nat.ne_of_lt (pj8 (by with_reducible assumption)) | exact Nat.ne_of_lt (pj9 (by with_reducible assumption)) | exact Nat.ne_of_lt (pj10 (by with_reducible assumption)) | exact Nat.ne_of_lt (pj11 (by with_reducible assumption)) | exact Nat.ne_of_gt (pj0 (by with_reducible assumption)) | exact Nat.ne_of_gt (pj1 (by with_reducible assumption)) | exact Nat.ne_of_gt (pj2 (by with_reducible assumption)) | exact Nat.ne_of_gt (pj3 (by with_reducible assumption)) | exact Nat.ne_of_gt (pj4 (by with_reducible assumption)) | exact Nat.ne_of_gt (pj5 (by with_reducible assumption)) | exact Nat.ne_of_gt (pj6 (by with_reducible assumption)) | exact Nat.ne_of_gt (pj7 (by with_reducible assumption)) | exact Nat.ne_of_gt (pj8 (by with_reducible assumption)) | exact Nat.ne_of_gt (pj9 (by with_reducible assumption)) | exact Nat.ne_of_gt (pj10 (by with_reducible assumption)) | exact Nat.ne_of_gt (pj11 (by with_reducible assumption)) | omega)
  k_with "k_ne" => (walk_at "ne9")
  k_with "k_in" => (refine' in_of ?z4fF ?z4fX; (case z4fF => k_asm); (case z4fX => k_asm))
  k_with "call ref" => (k_here; (with_reducible show wpAny _ _ (call (Value.ref 69) [Value.int _ _, Value.int _ _]) _ _ _); k_dflt (refine' frac_c _ _ _ _ _ _ _ _ _ _ _ _ _ _ _ _ _ _ _ _ _ _ ?z5k1 ?z5k2 ?z5k3 ?z5k4 ?z5k5 ?z5k6 ?z5k7 ?z5k8 ?z5k9 ?z5k10 ?z5k11 ?_; (case z5k1 => k_asm); (case z5k2 => k_asm); (case z5k3 => k_asm); (case z5k4 => k_asm); (case z5k5 => k_asm); (case z5k6 => first | exact rfl | assumption); (case z5k7 => ktr_room); (case z5k8 => ktr_units); (case z5k9 => assumption); (case z5k10 => assumption); (case z5k11 => assumption); k_whole); walk_at "i1"; (try k_sweep))
  k_with "binaryOp Mult int int" => (with_reducible refine mul_int ?_ ?z6mo; (case z6mo => assumption))
  k_with "subscriptTail" => (k_here; (with_reducible show wpAny _ _ (subscriptTail _ _ (Value.ref _) (Value.int _ _)) _ _ _); k_dflt (refine' tup_g ?z7k1 ?z7k2 ?z7k3 ?z7k4 ?z7k5 ?z7k6 ?z7k7 ?z7k8 ?_ ?z7k9 ?z7k10; (case z7k1 => k_asm); (case z7k2 => with_reducible assumption); (case z7k3 => exact rfl); (case z7k4 => exact rfl); (case z7k5 => decide); (case z7k6 => decide); (case z7k7 => exact rfl); (case z7k8 => exact rfl); (case z7k9 => with_unfolding_all rfl); (case z7k10 => (intro _; with_unfolding_all rfl)); k_whole))
  trivial
theorem plus_c {w : World} {p : Program} {loose : List Str} {mean : ExcName → Option Value} {mg mb : Str → Option Value} {dp un : Nat} {gd : Option (List Code)} {cn : Str} {cs : Scope} {a : Addr} {ccd : Value} {cl : List (Str × Addr)} {outer : List Env} {A₀ : Around} {base h₀ : Heap} {L : Addr} {m : Str → Option Value} {news : List (Addr × Obj)} {s : Shared} {Q E : Value → Shared → Prop} {D1 D2 : Addr} {x1 y1 x2 y2 : Int} {t1 t1' t2 t2' : Tok} {c1 c2 : Nat}
    (B : Below A₀ base outer h₀) (F : Fr h₀ L s.heap m) (X : (HD.K w.params).In h₀) (N : News h₀ L s.heap news) (T : Top p loose mean mg mb h₀) (hk : cs.kind = .function) (e1 : s.heap.get? D1 = some (T2 x1 y1 t1 t1' c1)) (e2 : s.heap.get? D2 = some (T2 x2 y2 t2 t2' c2))
    (hd : dp + 3 < recursionLimit) (hu : un + 24 < cLine) (nz : y1 * y2 ≠ 0) (m0 : IntMulOk x1 y2) (m1 : IntMulOk x2 y1) (m2 : IntMulOk y1 y2) (f1 : Fits (x1 * y2 + x2 * y1)) (f2 : Fits (y1 * y2))
    (hret : ∀ (r : Rat) (D : Addr) (t t' : Tok) (c : Nat) (h' : Heap) (tk' : Nat), r = Rat.divInt (x1 * y2 + x2 * y1) (y1 * y2) → Fr h₀ L h' m → News h₀ L h' ((D, RatO r t t' c) :: news) → (∀ p ∈ news, p.1 ≠ D) → Q (.ref D) { s with heap := h', toks := tk' }) :
    wpAny (model PySem.Challenge.rw_ui0509_08.row.prog w) (ktrTop dp un gd cn cs L a ccd cl outer) (call (.ref 84) [.ref D1, .ref D2]) Q E s := by
  w_top off
  revert X; k_fill; intro X
  refine wpAny_call ?_
  k_dflt (refine' code_need [] ?k1 ?k2 ?k3 ?k4 ?k5 ?kA ?kF ?kK ?k6 ?k7 ?k8 ?k9 ?kB ?kN ?_ ?c2 ?c3 ?c4 ?c5; (case kA => exact rfl); (case kF => exact rfl); (case kK => assumption); (case k1 => k_asm); (case k2 => k_asm); (case k3 => k_asm); (case k4 => k_asm); (case k5 => k_asm); (case k6 => k_is); (case k7 => k_is); (case k8 => ktr_room); (case k9 => first | exact BindsTo.of_eq rfl | exact binds_K (by k_in) rfl (by k_is) rfl rfl rfl); (case c5 => decide); (case kB => exact locs rfl); (case kN => exact fun _ h => nomatch h); (case c2 => exact rfl); (case c3 => exact rfl); (case c4 => exact rfl); k_whole; intro g' L' h' tk0 FG' F' N' B' X' T' hG'; (try dsimp only); (try k_fold))
  replace e1 := hG' _ _ e1 (by simp)
  replace e2 := hG' _ _ e2 (by simp)
  k_steps
  all_goals first | (refine leaveN_ (by k_asm) (by k_asm) ?_; intro kF kN kR kD; (try dsimp only); exact hret _ _ _ _ _ _ _ (by assumption) kF (news_cons kN (by k_mem) (news_all kR)) (ne_all kD (List.mem_cons_self ..)))
theorem minus_c {w : World} {p : Program} {loose : List Str} {mean : ExcName → Option Value} {mg mb : Str → Option Value} {dp un : Nat} {gd : Option (List Code)} {cn : Str} {cs : Scope} {a : Addr} {ccd : Value} {cl : List (Str × Addr)} {outer : List Env} {A₀ : Around} {base h₀ : Heap} {L : Addr} {m : Str → Option Value} {news : List (Addr × Obj)} {s : Shared} {Q E : Value → Shared → Prop} {D1 D2 : Addr} {x1 y1 x2 y2 : Int} {t1 t1' t2 t2' : Tok} {c1 c2 : Nat}
    (B : Below A₀ base outer h₀) (F : Fr h₀ L s.heap m) (X : (HD.K w.params).In h₀) (N : News h₀ L s.heap news) (T : Top p loose mean mg mb h₀) (hk : cs.kind = .function) (e1 : s.heap.get? D1 = some (T2 x1 y1 t1 t1' c1)) (e2 : s.heap.get? D2 = some (T2 x2 y2 t2 t2' c2))
    (hd : dp + 3 < recursionLimit) (hu : un + 24 < cLine) (nz : y1 * y2 ≠ 0) (m0 : IntMulOk x1 y2) (m1 : IntMulOk x2 y1) (m2 : IntMulOk y1 y2) (f1 : Fits (x1 * y2 - x2 * y1)) (f2 : Fits (y1 * y2))
    (hret : ∀ (r : Rat) (D : Addr) (t t' : Tok) (c : Nat) (h' : Heap) (tk' : Nat), r = Rat.divInt (x1 * y2 - x2 * y1) (y1 * y2) → Fr h₀ L h' m → News h₀ L h' ((D, RatO r t t' c) :: news) → (∀ p ∈ news, p.1 ≠ D) → Q (.ref D) { s with heap := h', toks := tk' }) :
    wpAny (model PySem.Challenge.rw_ui0509_08.row.prog w) (ktrTop dp un gd cn cs L a ccd cl outer) (call (.ref 91) [.ref D1, .ref D2]) Q E s := by
  w_top off
  revert X; k_fill; intro X
  refine wpAny_call ?_
  k_dflt (refine' code_need [] ?k1 ?k2 ?k3 ?k4 ?k5 ?kA ?kF ?kK ?k6 ?k7 ?k8 ?k9 ?kB ?kN ?_ ?c2 ?c3 ?c4 ?c5; (case kA => exact rfl); (case kF => exact rfl); (case kK => assumption); (case k1 => k_asm); (case k2 => k_asm); (case k3 => k_asm); (case k4 => k_asm); (case k5 => k_asm); (case k6 => k_is); (case k7 => k_is); (case k8 => ktr_room); (case k9 => first | exact BindsTo.of_eq rfl | exact binds_K (by k_in) rfl (by k_is) rfl rfl rfl); (case c5 => decide); (case kB => exact locs rfl); (case kN => exact fun _ h => nomatch h); (case c2 => exact rfl); (case c3 => exact rfl); (case c4 => exact rfl); k_whole; intro g' L' h' tk0 FG' F' N' B' X' T' hG'; (try dsimp only); (try k_fold))
  replace e1 := hG' _ _ e1 (by simp)
  replace e2 := hG' _ _ e2 (by simp)
  k_steps
  all_goals first | (refine leaveN_ (by k_asm) (by k_asm) ?_; intro kF kN kR kD; (try dsimp only); exact hret _ _ _ _ _ _ _ (by assumption) kF (news_cons kN (by k_mem) (news_all kR)) (ne_all kD (List.mem_cons_self ..)))
theorem times_c {w : World} {p : Program} {loose : List Str} {mean : ExcName → Option Value} {mg mb : Str → Option Value} {dp un : Nat} {gd : Option (List Code)} {cn : Str} {cs : Scope} {a : Addr} {ccd : Value} {cl : List (Str × Addr)} {outer : List Env} {A₀ : Around} {base h₀ : Heap} {L : Addr} {m : Str → Option Value} {news : List (Addr × Obj)} {s : Shared} {Q E : Value → Shared → Prop} {D1 D2 : Addr} {x1 y1 x2 y2 : Int} {t1 t1' t2 t2' : Tok} {c1 c2 : Nat}
    (B : Below A₀ base outer h₀) (F : Fr h₀ L s.heap m) (X : (HD.K w.params).In h₀) (N : News h₀ L s.heap news) (T : Top p loose mean mg mb h₀) (hk : cs.kind = .function) (e1 : s.heap.get? D1 = some (T2 x1 y1 t1 t1' c1)) (e2 : s.heap.get? D2 = some (T2 x2 y2 t2 t2' c2))
    (hd : dp + 3 < recursionLimit) (hu : un + 24 < cLine) (nz : y1 * y2 ≠ 0) (m0 : IntMulOk x1 x2) (m1 : IntMulOk y1 y2) (f1 : Fits (x1 * x2)) (f2 : Fits (y1 * y2))
    (hret : ∀ (r : Rat) (D : Addr) (t t' : Tok) (c : Nat) (h' : Heap) (tk' : Nat), r = Rat.divInt (x1 * x2) (y1 * y2) → Fr h₀ L h' m → News h₀ L h' ((D, RatO r t t' c) :: news) → (∀ p ∈ news, p.1 ≠ D) → Q (.ref D) { s with heap := h', toks := tk' }) :
    wpAny (model PySem.Challenge.rw_ui0509_08.row.prog w) (ktrTop dp un gd cn cs L a ccd cl outer) (call (.ref 98) [.ref D1, .ref D2]) Q E s := by
  w_top off
  revert X; k_fill; intro X
  refine wpAny_call ?_
  k_dflt (refine' code_need [] ?k1 ?k2 ?k3 ?k4 ?k5 ?kA ?kF ?kK ?k6 ?k7 ?k8 ?k9 ?kB ?kN ?_ ?c2 ?c3 ?c4 ?c5; (case kA => exact rfl); (case kF => exact rfl); (case kK => assumption); (case k1 => k_asm); (case k2 => k_asm); (case k3 => k_asm); (case k4 => k_asm); (case k5 => k_asm); (case k6 => k_is); (case k7 => k_is); (case k8 => ktr_room); (case k9 => first | exact BindsTo.of_eq rfl | exact binds_K (by k_in) rfl (by k_is) rfl rfl rfl); (case c5 => decide); (case kB => exact locs rfl); (case kN => exact fun _ h => nomatch h); (case c2 => exact rfl); (case c3 => exact rfl); (case c4 => exact rfl); k_whole; intro g' L' h' tk0 FG' F' N' B' X' T' hG'; (try dsimp only); (try k_fold))
  replace e1 := hG' _ _ e1 (by simp)
  replace e2 := hG' _ _ e2 (by simp)
  k_steps
  all_goals first | (refine leaveN_ (by k_asm) (by k_asm) ?_; intro kF kN kR kD; (try dsimp only); exact hret _ _ _ _ _ _ _ (by assumption) kF (news_cons kN (by k_mem) (news_all kR)) (ne_all kD (List.mem_cons_self ..)))
theorem over_c {w : World} {p : Program} {loose : List Str} {mean : ExcName → Option Value} {mg mb : Str → Option Value} {dp un : Nat} {gd : Option (List Code)} {cn : Str} {cs : Scope} {a : Addr} {ccd : Value} {cl : List (Str × Addr)} {outer : List Env} {A₀ : Around} {base h₀ : Heap} {L : Addr} {m : Str → Option Value} {news : List (Addr × Obj)} {s : Shared} {Q E : Value → Shared → Prop} {D1 D2 : Addr} {x1 y1 x2 y2 : Int} {t1 t1' t2 t2' : Tok} {c1 c2 : Nat}
    (B : Below A₀ base outer h₀) (F : Fr h₀ L s.heap m) (X : (HD.K w.params).In h₀) (N : News h₀ L s.heap news) (T : Top p loose mean mg mb h₀) (hk : cs.kind = .function) (e1 : s.heap.get? D1 = some (T2 x1 y1 t1 t1' c1)) (e2 : s.heap.get? D2 = some (T2 x2 y2 t2 t2' c2))
    (hd : dp + 3 < recursionLimit) (hu : un + 24 < cLine) (nz : y1 * x2 ≠ 0) (hz : x2 ≠ 0) (m0 : IntMulOk x1 y2) (m1 : IntMulOk y1 x2) (f1 : Fits (x1 * y2)) (f2 : Fits (y1 * x2))
    (hret : ∀ (r : Rat) (D : Addr) (t t' : Tok) (c : Nat) (h' : Heap) (tk' : Nat), r = Rat.divInt (x1 * y2) (y1 * x2) → Fr h₀ L h' m → News h₀ L h' ((D, RatO r t t' c) :: news) → (∀ p ∈ news, p.1 ≠ D) → Q (.ref D) { s with heap := h', toks := tk' }) :
    wpAny (model PySem.Challenge.rw_ui0509_08.row.prog w) (ktrTop dp un gd cn cs L a ccd cl outer) (call (.ref 105) [.ref D1, .ref D2]) Q E s := by
  w_top off
  revert X; k_fill; intro X
  refine wpAny_call ?_
  k_dflt (refine' code_need [] ?k1 ?k2 ?k3 ?k4 ?k5 ?kA ?kF ?kK ?k6 ?k7 ?k8 ?k9 ?kB ?kN ?_ ?c2 ?c3 ?c4 ?c5; (case kA => exact rfl); (case kF => exact rfl); (case kK => assumption); (case k1 => k_asm); (case k2 => k_asm); (case k3 => k_asm); (case k4 => k_asm); (case k5 => k_asm); (case k6 => k_is); (case k7 => k_is); (case k8 => ktr_room); (case k9 => first | exact BindsTo.of_eq rfl | exact binds_K (by k_in) rfl (by k_is) rfl rfl rfl); (case c5 => decide); (case kB => exact locs rfl); (case kN => exact fun _ h => nomatch h); (case c2 => exact rfl); (case c3 => exact rfl); (case c4 => exact rfl); k_whole; intro g' L' h' tk0 FG' F' N' B' X' T' hG'; (try dsimp only); (try k_fold))
  replace e1 := hG' _ _ e1 (by simp)
  replace e2 := hG' _ _ e2 (by simp)
  k_steps
  all_goals first | exact absurd (by assumption) hz | (refine leaveN_ (by k_asm) (by k_asm) ?_; intro kF kN kR kD; (try dsimp only); exact hret _ _ _ _ _ _ _ (by assumption) kF (news_cons kN (by k_mem) (news_all kR)) (ne_all kD (List.mem_cons_self ..)))
theorem less_c {w : World} {p : Program} {loose : List Str} {mean : ExcName → Option Value} {mg mb : Str → Option Value} {dp un : Nat} {gd : Option (List Code)} {cn : Str} {cs : Scope} {a : Addr} {ccd : Value} {cl : List (Str × Addr)} {outer : List Env} {A₀ : Around} {base h₀ : Heap} {L : Addr} {m : Str → Option Value} {news : List (Addr × Obj)} {s : Shared} {Q E : Value → Shared → Prop} {D1 D2 : Addr} {x1 y1 x2 y2 : Int} {t1 t1' t2 t2' : Tok} {c1 c2 : Nat}
    (B : Below A₀ base outer h₀) (F : Fr h₀ L s.heap m) (X : (HD.K w.params).In h₀) (N : News h₀ L s.heap news) (T : Top p loose mean mg mb h₀) (hk : cs.kind = .function) (e1 : s.heap.get? D1 = some (T2 x1 y1 t1 t1' c1)) (e2 : s.heap.get? D2 = some (T2 x2 y2 t2 t2' c2))
    (hd : dp + 3 < recursionLimit) (hu : un + 24 < cLine) (m0 : IntMulOk x1 y2) (m1 : IntMulOk x2 y1)
    (hret : ∀ (h' : Heap) (tk' : Nat), Fr h₀ L h' m → News h₀ L h' news → Q (.bool (decide (x1 * y2 < x2 * y1))) { s with heap := h', toks := tk' }) :
    wpAny (model PySem.Challenge.rw_ui0509_08.row.prog w) (ktrTop dp un gd cn cs L a ccd cl outer) (call (.ref 119) [.ref D1, .ref D2]) Q E s := by
  w_top off
  revert X; k_fill; intro X
  refine wpAny_call ?_
  k_dflt (refine' code_need [] ?k1 ?k2 ?k3 ?k4 ?k5 ?kA ?kF ?kK ?k6 ?k7 ?k8 ?k9 ?kB ?kN ?_ ?c2 ?c3 ?c4 ?c5; (case kA => exact rfl); (case kF => exact rfl); (case kK => assumption); (case k1 => k_asm); (case k2 => k_asm); (case k3 => k_asm); (case k4 => k_asm); (case k5 => k_asm); (case k6 => k_is); (case k7 => k_is); (case k8 => ktr_room); (case k9 => first | exact BindsTo.of_eq rfl | exact binds_K (by k_in) rfl (by k_is) rfl rfl rfl); (case c5 => decide); (case kB => exact locs rfl); (case kN => exact fun _ h => nomatch h); (case c2 => exact rfl); (case c3 => exact rfl); (case c4 => exact rfl); k_whole; intro g' L' h' tk0 FG' F' N' B' X' T' hG'; (try dsimp only); (try k_fold))
  replace e1 := hG' _ _ e1 (by simp)
  replace e2 := hG' _ _ e2 (by simp)
  k_steps
  all_goals (refine leaveN_ (by k_asm) (by k_asm) ?_; intro kF kN kR kD; (try dsimp only); exact hret _ _ kF (news_all kR))
theorem at_most_c {w : World} {p : Program} {loose : List Str} {mean : ExcName → Option Value} {mg mb : Str → Option Value} {dp un : Nat} {gd : Option (List Code)} {cn : Str} {cs : Scope} {a : Addr} {ccd : Value} {cl : List (Str × Addr)} {outer : List Env} {A₀ : Around} {base h₀ : Heap} {L : Addr} {m : Str → Option Value} {news : List (Addr × Obj)} {s : Shared} {Q E : Value → Shared → Prop} {D1 D2 : Addr} {x1 y1 x2 y2 : Int} {t1 t1' t2 t2' : Tok} {c1 c2 : Nat}
    (B : Below A₀ base outer h₀) (F : Fr h₀ L s.heap m) (X : (HD.K w.params).In h₀) (N : News h₀ L s.heap news) (T : Top p loose mean mg mb h₀) (hk : cs.kind = .function) (e1 : s.heap.get? D1 = some (T2 x1 y1 t1 t1' c1)) (e2 : s.heap.get? D2 = some (T2 x2 y2 t2 t2' c2))
    (hd : dp + 3 < recursionLimit) (hu : un + 24 < cLine) (m0 : IntMulOk x1 y2) (m1 : IntMulOk x2 y1)
    (hret : ∀ (h' : Heap) (tk' : Nat), Fr h₀ L h' m → News h₀ L h' news → Q (.bool (decide (x1 * y2 ≤ x2 * y1))) { s with heap := h', toks := tk' }) :
    wpAny (model PySem.Challenge.rw_ui0509_08.row.prog w) (ktrTop dp un gd cn cs L a ccd cl outer) (call (.ref 126) [.ref D1, .ref D2]) Q E s := by
  w_top off
  revert X; k_fill; intro X
  refine wpAny_call ?_
  k_dflt (refine' code_need [] ?k1 ?k2 ?k3 ?k4 ?k5 ?kA ?kF ?kK ?k6 ?k7 ?k8 ?k9 ?kB ?kN ?_ ?c2 ?c3 ?c4 ?c5; (case kA => exact rfl); (case kF => exact rfl); (case kK => assumption); (case k1 => k_asm); (case k2 => k_asm); (case k3 => k_asm); (case k4 => k_asm); (case k5 => k_asm); (case k6 => k_is); (case k7 => k_is); (case k8 => ktr_room); (case k9 => first | exact BindsTo.of_eq rfl | exact binds_K (by k_in) rfl (by k_is) rfl rfl rfl); (case c5 => decide); (case kB => exact locs rfl); (case kN => exact fun _ h => nomatch h); (case c2 => exact rfl); (case c3 => exact rfl); (case c4 => exact rfl); k_whole; intro g' L' h' tk0 FG' F' N' B' X' T' hG'; (try dsimp only); (try k_fold))
  replace e1 := hG' _ _ e1 (by simp)
  replace e2 := hG' _ _ e2 (by simp)
  k_steps
  all_goals (refine leaveN_ (by k_asm) (by k_asm) ?_; intro kF kN kR kD; (try dsimp only); exact hret _ _ kF (news_all kR))
end
theorem plus_u {w : World} {p : Program} {loose : List Str} {mean : ExcName → Option Value} {mg mb : Str → Option Value} {dp un : Nat} {gd : Option (List Code)} {cn : Str} {cs : Scope} {a : Addr} {ccd : Value} {cl : List (Str × Addr)} {outer : List Env} {A₀ : Around} {base h₀ : Heap} {L : Addr} {m : Str → Option Value} {news : List (Addr × Obj)} {s : Shared} {Q E : Value → Shared → Prop} {D1 D2 : Addr} {x1 y1 x2 y2 : Int} {t1 t1' t2 t2' : Tok} {c1 c2 : Nat} {n1 k1 n2 k2 : Nat}
    (B : Below A₀ base outer h₀) (F : Fr h₀ L s.heap m) (X : (HD.K w.params).In h₀) (N : News h₀ L s.heap news) (T : Top p loose mean mg mb h₀) (hk : cs.kind = .function) (e1 : s.heap.get? D1 = some (T2 x1 y1 t1 t1' c1)) (e2 : s.heap.get? D2 = some (T2 x2 y2 t2 t2' c2))
    (hd : dp + 3 < recursionLimit) (hu : un + 24 < cLine) (hy : y1 ≠ 0) (hz : y2 ≠ 0) (b1 : Builtin.Int.intBits x1 ≤ n1) (b2 : Builtin.Int.intBits y1 ≤ k1) (b3 : Builtin.Int.intBits x2 ≤ n2) (b4 : Builtin.Int.intBits y2 ≤ k2) (hbu : max (n1 + k2) (n2 + k1) + 1 ≤ 6643) (hbl : k1 + k2 ≤ 6643)
    (hret : ∀ (r : Rat) (D : Addr) (t t' : Tok) (c : Nat) (h' : Heap) (tk' : Nat), r = Rat.divInt (x1 * y2 + x2 * y1) (y1 * y2) → Builtin.Int.intBits r.num ≤ max (n1 + k2) (n2 + k1) + 1 → Builtin.Int.intBits (r.den : Int) ≤ k1 + k2 → Fr h₀ L h' m → News h₀ L h' ((D, RatO r t t' c) :: news) → (∀ p ∈ news, p.1 ≠ D) → Q (.ref D) { s with heap := h', toks := tk' }) :
    wpAny (model PySem.Challenge.rw_ui0509_08.row.prog w) (ktrTop dp un gd cn cs L a ccd cl outer) (call (.ref 84) [.ref D1, .ref D2]) Q E s :=
  plus_c B F X N T hk e1 e2 hd hu (nzmul hy hz) (mulOk_of_bits b1 b4 (by omega)) (mulOk_of_bits b3 b2 (by omega)) (mulOk_of_bits b2 b4 (by omega)) (Fits.of (bits_add (bits_mul b1 b4) (bits_mul b3 b2)) hbu) (Fits.of (bits_mul b2 b4) hbl) fun r D t t' c h' tk' e F' N' l => hret r D t t' c h' tk' e (e ▸ bits_num (bits_add (bits_mul b1 b4) (bits_mul b3 b2))) (e ▸ bits_den (nzmul hy hz) (bits_mul b2 b4)) F' N' l
theorem minus_u {w : World} {p : Program} {loose : List Str} {mean : ExcName → Option Value} {mg mb : Str → Option Value} {dp un : Nat} {gd : Option (List Code)} {cn : Str} {cs : Scope} {a : Addr} {ccd : Value} {cl : List (Str × Addr)} {outer : List Env} {A₀ : Around} {base h₀ : Heap} {L : Addr} {m : Str → Option Value} {news : List (Addr × Obj)} {s : Shared} {Q E : Value → Shared → Prop} {D1 D2 : Addr} {x1 y1 x2 y2 : Int} {t1 t1' t2 t2' : Tok} {c1 c2 : Nat} {n1 k1 n2 k2 : Nat}
    (B : Below A₀ base outer h₀) (F : Fr h₀ L s.heap m) (X : (HD.K w.params).In h₀) (N : News h₀ L s.heap news) (T : Top p loose mean mg mb h₀) (hk : cs.kind = .function) (e1 : s.heap.get? D1 = some (T2 x1 y1 t1 t1' c1)) (e2 : s.heap.get? D2 = some (T2 x2 y2 t2 t2' c2))
    (hd : dp + 3 < recursionLimit) (hu : un + 24 < cLine) (hy : y1 ≠ 0) (hz : y2 ≠ 0) (b1 : Builtin.Int.intBits x1 ≤ n1) (b2 : Builtin.Int.intBits y1 ≤ k1) (b3 : Builtin.Int.intBits x2 ≤ n2) (b4 : Builtin.Int.intBits y2 ≤ k2) (hbu : max (n1 + k2) (n2 + k1) + 1 ≤ 6643) (hbl : k1 + k2 ≤ 6643)
    (hret : ∀ (r : Rat) (D : Addr) (t t' : Tok) (c : Nat) (h' : Heap) (tk' : Nat), r = Rat.divInt (x1 * y2 - x2 * y1) (y1 * y2) → Builtin.Int.intBits r.num ≤ max (n1 + k2) (n2 + k1) + 1 → Builtin.Int.intBits (r.den : Int) ≤ k1 + k2 → Fr h₀ L h' m → News h₀ L h' ((D, RatO r t t' c) :: news) → (∀ p ∈ news, p.1 ≠ D) → Q (.ref D) { s with heap := h', toks := tk' }) :
    wpAny (model PySem.Challenge.rw_ui0509_08.row.prog w) (ktrTop dp un gd cn cs L a ccd cl outer) (call (.ref 91) [.ref D1, .ref D2]) Q E s :=
  minus_c B F X N T hk e1 e2 hd hu (nzmul hy hz) (mulOk_of_bits b1 b4 (by omega)) (mulOk_of_bits b3 b2 (by omega)) (mulOk_of_bits b2 b4 (by omega)) (Fits.of (bits_sub (bits_mul b1 b4) (bits_mul b3 b2)) hbu) (Fits.of (bits_mul b2 b4) hbl) fun r D t t' c h' tk' e F' N' l => hret r D t t' c h' tk' e (e ▸ bits_num (bits_sub (bits_mul b1 b4) (bits_mul b3 b2))) (e ▸ bits_den (nzmul hy hz) (bits_mul b2 b4)) F' N' l
theorem times_u {w : World} {p : Program} {loose : List Str} {mean : ExcName → Option Value} {mg mb : Str → Option Value} {dp un : Nat} {gd : Option (List Code)} {cn : Str} {cs : Scope} {a : Addr} {ccd : Value} {cl : List (Str × Addr)} {outer : List Env} {A₀ : Around} {base h₀ : Heap} {L : Addr} {m : Str → Option Value} {news : List (Addr × Obj)} {s : Shared} {Q E : Value → Shared → Prop} {D1 D2 : Addr} {x1 y1 x2 y2 : Int} {t1 t1' t2 t2' : Tok} {c1 c2 : Nat} {n1 k1 n2 k2 : Nat}
    (B : Below A₀ base outer h₀) (F : Fr h₀ L s.heap m) (X : (HD.K w.params).In h₀) (N : News h₀ L s.heap news) (T : Top p loose mean mg mb h₀) (hk : cs.kind = .function) (e1 : s.heap.get? D1 = some (T2 x1 y1 t1 t1' c1)) (e2 : s.heap.get? D2 = some (T2 x2 y2 t2 t2' c2))
    (hd : dp + 3 < recursionLimit) (hu : un + 24 < cLine) (hy : y1 ≠ 0) (hz : y2 ≠ 0) (b1 : Builtin.Int.intBits x1 ≤ n1) (b2 : Builtin.Int.intBits y1 ≤ k1) (b3 : Builtin.Int.intBits x2 ≤ n2) (b4 : Builtin.Int.intBits y2 ≤ k2) (hbu : n1 + n2 ≤ 6643) (hbl : k1 + k2 ≤ 6643)
    (hret : ∀ (r : Rat) (D : Addr) (t t' : Tok) (c : Nat) (h' : Heap) (tk' : Nat), r = Rat.divInt (x1 * x2) (y1 * y2) → Builtin.Int.intBits r.num ≤ n1 + n2 → Builtin.Int.intBits (r.den : Int) ≤ k1 + k2 → Fr h₀ L h' m → News h₀ L h' ((D, RatO r t t' c) :: news) → (∀ p ∈ news, p.1 ≠ D) → Q (.ref D) { s with heap := h', toks := tk' }) :
    wpAny (model PySem.Challenge.rw_ui0509_08.row.prog w) (ktrTop dp un gd cn cs L a ccd cl outer) (call (.ref 98) [.ref D1, .ref D2]) Q E s :=
  times_c B F X N T hk e1 e2 hd hu (nzmul hy hz) (mulOk_of_bits b1 b3 (by omega)) (mulOk_of_bits b2 b4 (by omega)) (Fits.of (bits_mul b1 b3) hbu) (Fits.of (bits_mul b2 b4) hbl) fun r D t t' c h' tk' e F' N' l => hret r D t t' c h' tk' e (e ▸ bits_num (bits_mul b1 b3)) (e ▸ bits_den (nzmul hy hz) (bits_mul b2 b4)) F' N' l
theorem over_u {w : World} {p : Program} {loose : List Str} {mean : ExcName → Option Value} {mg mb : Str → Option Value} {dp un : Nat} {gd : Option (List Code)} {cn : Str} {cs : Scope} {a : Addr} {ccd : Value} {cl : List (Str × Addr)} {outer : List Env} {A₀ : Around} {base h₀ : Heap} {L : Addr} {m : Str → Option Value} {news : List (Addr × Obj)} {s : Shared} {Q E : Value → Shared → Prop} {D1 D2 : Addr} {x1 y1 x2 y2 : Int} {t1 t1' t2 t2' : Tok} {c1 c2 : Nat} {n1 k1 n2 k2 : Nat}
    (B : Below A₀ base outer h₀) (F : Fr h₀ L s.heap m) (X : (HD.K w.params).In h₀) (N : News h₀ L s.heap news) (T : Top p loose mean mg mb h₀) (hk : cs.kind = .function) (e1 : s.heap.get? D1 = some (T2 x1 y1 t1 t1' c1)) (e2 : s.heap.get? D2 = some (T2 x2 y2 t2 t2' c2))
    (hd : dp + 3 < recursionLimit) (hu : un + 24 < cLine) (hy : y1 ≠ 0) (hz : x2 ≠ 0) (b1 : Builtin.Int.intBits x1 ≤ n1) (b2 : Builtin.Int.intBits y1 ≤ k1) (b3 : Builtin.Int.intBits x2 ≤ n2) (b4 : Builtin.Int.intBits y2 ≤ k2) (hbu : n1 + k2 ≤ 6643) (hbl : k1 + n2 ≤ 6643)
    (hret : ∀ (r : Rat) (D : Addr) (t t' : Tok) (c : Nat) (h' : Heap) (tk' : Nat), r = Rat.divInt (x1 * y2) (y1 * x2) → Builtin.Int.intBits r.num ≤ n1 + k2 → Builtin.Int.intBits (r.den : Int) ≤ k1 + n2 → Fr h₀ L h' m → News h₀ L h' ((D, RatO r t t' c) :: news) → (∀ p ∈ news, p.1 ≠ D) → Q (.ref D) { s with heap := h', toks := tk' }) :
    wpAny (model PySem.Challenge.rw_ui0509_08.row.prog w) (ktrTop dp un gd cn cs L a ccd cl outer) (call (.ref 105) [.ref D1, .ref D2]) Q E s :=
  over_c B F X N T hk e1 e2 hd hu (nzmul hy hz) hz (mulOk_of_bits b1 b4 (by omega)) (mulOk_of_bits b2 b3 (by omega)) (Fits.of (bits_mul b1 b4) hbu) (Fits.of (bits_mul b2 b3) hbl) fun r D t t' c h' tk' e F' N' l => hret r D t t' c h' tk' e (e ▸ bits_num (bits_mul b1 b4)) (e ▸ bits_den (nzmul hy hz) (bits_mul b2 b3)) F' N' l
theorem less_u {w : World} {p : Program} {loose : List Str} {mean : ExcName → Option Value} {mg mb : Str → Option Value} {dp un : Nat} {gd : Option (List Code)} {cn : Str} {cs : Scope} {a : Addr} {ccd : Value} {cl : List (Str × Addr)} {outer : List Env} {A₀ : Around} {base h₀ : Heap} {L : Addr} {m : Str → Option Value} {news : List (Addr × Obj)} {s : Shared} {Q E : Value → Shared → Prop} {D1 D2 : Addr} {x1 y1 x2 y2 : Int} {t1 t1' t2 t2' : Tok} {c1 c2 : Nat} {n1 k1 n2 k2 : Nat}
    (B : Below A₀ base outer h₀) (F : Fr h₀ L s.heap m) (X : (HD.K w.params).In h₀) (N : News h₀ L s.heap news) (T : Top p loose mean mg mb h₀) (hk : cs.kind = .function) (e1 : s.heap.get? D1 = some (T2 x1 y1 t1 t1' c1)) (e2 : s.heap.get? D2 = some (T2 x2 y2 t2 t2' c2))
    (hd : dp + 3 < recursionLimit) (hu : un + 24 < cLine) (b1 : Builtin.Int.intBits x1 ≤ n1) (b2 : Builtin.Int.intBits y1 ≤ k1) (b3 : Builtin.Int.intBits x2 ≤ n2) (b4 : Builtin.Int.intBits y2 ≤ k2) (hbu : n1 + k2 ≤ 100000) (hbl : n2 + k1 ≤ 100000)
    (hret : ∀ (h' : Heap) (tk' : Nat), Fr h₀ L h' m → News h₀ L h' news → Q (.bool (decide (x1 * y2 < x2 * y1))) { s with heap := h', toks := tk' }) :
    wpAny (model PySem.Challenge.rw_ui0509_08.row.prog w) (ktrTop dp un gd cn cs L a ccd cl outer) (call (.ref 119) [.ref D1, .ref D2]) Q E s :=
  less_c B F X N T hk e1 e2 hd hu (mulOk_of_bits b1 b4 (by omega)) (mulOk_of_bits b3 b2 (by omega)) hret
theorem at_most_u {w : World} {p : Program} {loose : List Str} {mean : ExcName → Option Value} {mg mb : Str → Option Value} {dp un : Nat} {gd : Option (List Code)} {cn : Str} {cs : Scope} {a : Addr} {ccd : Value} {cl : List (Str × Addr)} {outer : List Env} {A₀ : Around} {base h₀ : Heap} {L : Addr} {m : Str → Option Value} {news : List (Addr × Obj)} {s : Shared} {Q E : Value → Shared → Prop} {D1 D2 : Addr} {x1 y1 x2 y2 : Int} {t1 t1' t2 t2' : Tok} {c1 c2 : Nat} {n1 k1 n2 k2 : Nat}
    (B : Below A₀ base outer h₀) (F : Fr h₀ L s.heap m) (X : (HD.K w.params).In h₀) (N : News h₀ L s.heap news) (T : Top p loose mean mg mb h₀) (hk : cs.kind = .function) (e1 : s.heap.get? D1 = some (T2 x1 y1 t1 t1' c1)) (e2 : s.heap.get? D2 = some (T2 x2 y2 t2 t2' c2))
    (hd : dp + 3 < recursionLimit) (hu : un + 24 < cLine) (b1 : Builtin.Int.intBits x1 ≤ n1) (b2 : Builtin.Int.intBits y1 ≤ k1) (b3 : Builtin.Int.intBits x2 ≤ n2) (b4 : Builtin.Int.intBits y2 ≤ k2) (hbu : n1 + k2 ≤ 100000) (hbl : n2 + k1 ≤ 100000)
    (hret : ∀ (h' : Heap) (tk' : Nat), Fr h₀ L h' m → News h₀ L h' news → Q (.bool (decide (x1 * y2 ≤ x2 * y1))) { s with heap := h', toks := tk' }) :
    wpAny (model PySem.Challenge.rw_ui0509_08.row.prog w) (ktrTop dp un gd cn cs L a ccd cl outer) (call (.ref 126) [.ref D1, .ref D2]) Q E s :=
  at_most_c B F X N T hk e1 e2 hd hu (mulOk_of_bits b1 b4 (by omega)) (mulOk_of_bits b3 b2 (by omega)) hret
end
end Mine
open Mine
local macro_rules | `(tactic| walk_at "i2") => `(tactic| (intro D' t' u' c' h' tk' F' N' l1))
local macro_rules | `(tactic| walk_at "i3") => `(tactic| (intro h' tk' F' N'))
namespace Mine
section
theorem frac_sf {w : World} {p : Program} {loose : List Str} {mean : ExcName → Option Value} {mg mb : Str → Option Value} {dp un : Nat} {gd : Option (List Code)} {cn : Str} {cs : Scope} {a : Addr} {ccd : Value} {cl : List (Str × Addr)} {outer : List Env} {A₀ : Around} {base h₀ : Heap} {L : Addr} {m : Str → Option Value} {news : List (Addr × Obj)} {s : Shared} {Q E : Value → Shared → Prop} {r : Rat} {t1 t2 : Tok}
    (B : Below A₀ base outer h₀) (F : Fr h₀ L s.heap m) (X : (HD.K w.params).In h₀) (N : News h₀ L s.heap news) (T : Top p loose mean mg mb h₀) (hk : cs.kind = .function)
    (hd : dp + 2 < recursionLimit) (hu : un + 16 < cLine) (hx1 : Fits r.num) (hy1 : Fits (r.den : Int))
    (hret : ∀ (D : Addr) (t t' : Tok) (c : Nat) (h' : Heap) (tk' : Nat), Fr h₀ L h' m → News h₀ L h' ((D, RatO r t t' c) :: news) → (∀ p ∈ news, p.1 < D) → Q (.ref D) { s with heap := h', toks := tk' }) :
    wpAny (model PySem.Challenge.rw_ui0509_08.row.prog w) (ktrTop dp un gd cn cs L a ccd cl outer) (call (.ref 69) [.int r.num t1, .int (r.den : Int) t2]) Q E s :=
  frac_c dp un gd cn cs a ccd cl outer A₀ base h₀ L m news s Q E r.num r.den t1 t2 B F X N T hk hd hu (nzden r) hx1 hy1 fun r' D t t' c h' tk' e F' N' l => hret D t t' c h' tk' F' (by
    rw [Rat.num_divInt_den] at e
    subst e
    exact N') l
theorem ne_T2h {prog : Program} {w : World} {A : Around} {E : Value → Shared → Prop} {s : Shared} {D1 D2 : Addr} {x1 y1 x2 y2 : Int} {t1 t1' t2 t2' : Tok} {c1 c2 : Nat} {Q : Value → Shared → Prop}
    (e1 : s.heap.get? D1 = some (T2 x1 y1 t1 t1' c1)) (e2 : s.heap.get? D2 = some (T2 x2 y2 t2 t2' c2)) (hu : A.units + 64 < cLine) (h : Q (.bool (!(x1 == x2 && y1 == y2))) s) : wpAny (model prog w) A (compareOp .NotEq (.ref D1) (.ref D2)) Q E s := by
  refine ne_dataH (reads_tuple_at e1 rfl rfl (ReadsAll.cons (Reads.int _ _) (ReadsAll.cons (Reads.int _ _) ReadsAll.nil))) (reads_tuple_at e2 rfl rfl (ReadsAll.cons (Reads.int _ _) (ReadsAll.cons (Reads.int _ _) ReadsAll.nil))) (by ke_shaped) (by ke_shaped) hu ?_
  ke_norm
  exact h
section
end
end
section
structure Bd (n : Nat) (r : Rat) : Prop where
  num : Builtin.Int.intBits r.num ≤ n
  den : Builtin.Int.intBits (r.den : Int) ≤ n
theorem Bd.mono {n k : Nat} {r : Rat} (h : Bd n r) (hk : n ≤ k) : Bd k r := ⟨Nat.le_trans h.num hk, Nat.le_trans h.den hk⟩
theorem Bd.int {n : Nat} {x : Int} (h : Builtin.Int.intBits x ≤ n) (h1 : 1 ≤ n) : Bd n (x : Rat) := ⟨h, Nat.le_trans bits_one h1⟩
theorem bits_zero : Builtin.Int.intBits 0 ≤ 1 := by decide
theorem Bd.zero {n : Nat} (h : 1 ≤ n) : Bd n (0 : Rat) := Bd.int (x := 0) (Nat.le_trans bits_zero h) h
theorem nznum {r : Rat} (h : r ≠ 0) : r.num ≠ 0 := fun e => h (Rat.num_eq_zero.mp e)
theorem plus_r {w : World} {p : Program} {loose : List Str} {mean : ExcName → Option Value} {mg mb : Str → Option Value} {dp un : Nat} {gd : Option (List Code)} {cn : Str} {cs : Scope} {a : Addr} {ccd : Value} {cl : List (Str × Addr)} {outer : List Env} {A₀ : Around} {base h₀ : Heap} {L : Addr} {m : Str → Option Value} {news : List (Addr × Obj)} {s : Shared} {Q E : Value → Shared → Prop} {D1 D2 : Addr} {r1 r2 : Rat} {t1 t1' t2 t2' : Tok} {c1 c2 n k : Nat}
    (B : Below A₀ base outer h₀) (F : Fr h₀ L s.heap m) (X : (HD.K w.params).In h₀) (N : News h₀ L s.heap news) (T : Top p loose mean mg mb h₀) (hk : cs.kind = .function) (e1 : s.heap.get? D1 = some (RatO r1 t1 t1' c1)) (e2 : s.heap.get? D2 = some (RatO r2 t2 t2' c2))
    (hd : dp + 3 < recursionLimit) (hu : un + 24 < cLine) (b1 : Bd n r1) (b2 : Bd k r2) (hb : n + k + 1 ≤ 6643)
    (hret : ∀ (D : Addr) (t t' : Tok) (c : Nat) (h' : Heap) (tk' : Nat), Bd (n + k + 1) (r1 + r2) → Fr h₀ L h' m → News h₀ L h' ((D, RatO (r1 + r2) t t' c) :: news) → (∀ p ∈ news, p.1 ≠ D) → Q (.ref D) { s with heap := h', toks := tk' }) :
    wpAny (model PySem.Challenge.rw_ui0509_08.row.prog w) (ktrTop dp un gd cn cs L a ccd cl outer) (call (.ref 84) [.ref D1, .ref D2]) Q E s :=
  plus_u B F X N T hk e1 e2 hd hu (nzden r1) (nzden r2) b1.num b1.den b2.num b2.den (by omega) (by omega) fun r D t t' c h' tk' e bn bd F' N' l => by
    have e' : r = r1 + r2 := e.trans (r_plus r1 r2)
    subst e'
    exact hret D t t' c h' tk' ⟨Nat.le_trans bn (by omega), Nat.le_trans bd (by omega)⟩ F' N' l
theorem minus_r {w : World} {p : Program} {loose : List Str} {mean : ExcName → Option Value} {mg mb : Str → Option Value} {dp un : Nat} {gd : Option (List Code)} {cn : Str} {cs : Scope} {a : Addr} {ccd : Value} {cl : List (Str × Addr)} {outer : List Env} {A₀ : Around} {base h₀ : Heap} {L : Addr} {m : Str → Option Value} {news : List (Addr × Obj)} {s : Shared} {Q E : Value → Shared → Prop} {D1 D2 : Addr} {r1 r2 : Rat} {t1 t1' t2 t2' : Tok} {c1 c2 n k : Nat}
    (B : Below A₀ base outer h₀) (F : Fr h₀ L s.heap m) (X : (HD.K w.params).In h₀) (N : News h₀ L s.heap news) (T : Top p loose mean mg mb h₀) (hk : cs.kind = .function) (e1 : s.heap.get? D1 = some (RatO r1 t1 t1' c1)) (e2 : s.heap.get? D2 = some (RatO r2 t2 t2' c2))
    (hd : dp + 3 < recursionLimit) (hu : un + 24 < cLine) (b1 : Bd n r1) (b2 : Bd k r2) (hb : n + k + 1 ≤ 6643)
    (hret : ∀ (D : Addr) (t t' : Tok) (c : Nat) (h' : Heap) (tk' : Nat), Bd (n + k + 1) (r1 - r2) → Fr h₀ L h' m → News h₀ L h' ((D, RatO (r1 - r2) t t' c) :: news) → (∀ p ∈ news, p.1 ≠ D) → Q (.ref D) { s with heap := h', toks := tk' }) :
    wpAny (model PySem.Challenge.rw_ui0509_08.row.prog w) (ktrTop dp un gd cn cs L a ccd cl outer) (call (.ref 91) [.ref D1, .ref D2]) Q E s :=
  minus_u B F X N T hk e1 e2 hd hu (nzden r1) (nzden r2) b1.num b1.den b2.num b2.den (by omega) (by omega) fun r D t t' c h' tk' e bn bd F' N' l => by
    have e' : r = r1 - r2 := e.trans (r_minus r1 r2)
    subst e'
    exact hret D t t' c h' tk' ⟨Nat.le_trans bn (by omega), Nat.le_trans bd (by omega)⟩ F' N' l
theorem times_r {w : World} {p : Program} {loose : List Str} {mean : ExcName → Option Value} {mg mb : Str → Option Value} {dp un : Nat} {gd : Option (List Code)} {cn : Str} {cs : Scope} {a : Addr} {ccd : Value} {cl : List (Str × Addr)} {outer : List Env} {A₀ : Around} {base h₀ : Heap} {L : Addr} {m : Str → Option Value} {news : List (Addr × Obj)} {s : Shared} {Q E : Value → Shared → Prop} {D1 D2 : Addr} {r1 r2 : Rat} {t1 t1' t2 t2' : Tok} {c1 c2 n k : Nat}
    (B : Below A₀ base outer h₀) (F : Fr h₀ L s.heap m) (X : (HD.K w.params).In h₀) (N : News h₀ L s.heap news) (T : Top p loose mean mg mb h₀) (hk : cs.kind = .function) (e1 : s.heap.get? D1 = some (RatO r1 t1 t1' c1)) (e2 : s.heap.get? D2 = some (RatO r2 t2 t2' c2))
    (hd : dp + 3 < recursionLimit) (hu : un + 24 < cLine) (b1 : Bd n r1) (b2 : Bd k r2) (hb : n + k ≤ 6643)
    (hret : ∀ (D : Addr) (t t' : Tok) (c : Nat) (h' : Heap) (tk' : Nat), Bd (n + k) (r1 * r2) → Fr h₀ L h' m → News h₀ L h' ((D, RatO (r1 * r2) t t' c) :: news) → (∀ p ∈ news, p.1 ≠ D) → Q (.ref D) { s with heap := h', toks := tk' }) :
    wpAny (model PySem.Challenge.rw_ui0509_08.row.prog w) (ktrTop dp un gd cn cs L a ccd cl outer) (call (.ref 98) [.ref D1, .ref D2]) Q E s :=
  times_u B F X N T hk e1 e2 hd hu (nzden r1) (nzden r2) b1.num b1.den b2.num b2.den (by omega) (by omega) fun r D t t' c h' tk' e bn bd F' N' l => by
    have e' : r = r1 * r2 := e.trans (r_times r1 r2)
    subst e'
    exact hret D t t' c h' tk' ⟨Nat.le_trans bn (by omega), Nat.le_trans bd (by omega)⟩ F' N' l
theorem over_r {w : World} {p : Program} {loose : List Str} {mean : ExcName → Option Value} {mg mb : Str → Option Value} {dp un : Nat} {gd : Option (List Code)} {cn : Str} {cs : Scope} {a : Addr} {ccd : Value} {cl : List (Str × Addr)} {outer : List Env} {A₀ : Around} {base h₀ : Heap} {L : Addr} {m : Str → Option Value} {news : List (Addr × Obj)} {s : Shared} {Q E : Value → Shared → Prop} {D1 D2 : Addr} {r1 r2 : Rat} {t1 t1' t2 t2' : Tok} {c1 c2 n k : Nat}
    (B : Below A₀ base outer h₀) (F : Fr h₀ L s.heap m) (X : (HD.K w.params).In h₀) (N : News h₀ L s.heap news) (T : Top p loose mean mg mb h₀) (hk : cs.kind = .function) (e1 : s.heap.get? D1 = some (RatO r1 t1 t1' c1)) (e2 : s.heap.get? D2 = some (RatO r2 t2 t2' c2))
    (hd : dp + 3 < recursionLimit) (hu : un + 24 < cLine) (b1 : Bd n r1) (b2 : Bd k r2) (hz : r2 ≠ 0) (hb : n + k ≤ 6643)
    (hret : ∀ (D : Addr) (t t' : Tok) (c : Nat) (h' : Heap) (tk' : Nat), Bd (n + k) (r1 / r2) → Fr h₀ L h' m → News h₀ L h' ((D, RatO (r1 / r2) t t' c) :: news) → (∀ p ∈ news, p.1 ≠ D) → Q (.ref D) { s with heap := h', toks := tk' }) :
    wpAny (model PySem.Challenge.rw_ui0509_08.row.prog w) (ktrTop dp un gd cn cs L a ccd cl outer) (call (.ref 105) [.ref D1, .ref D2]) Q E s :=
  over_u B F X N T hk e1 e2 hd hu (nzden r1) (nznum hz) b1.num b1.den b2.num b2.den (by omega) (by omega) fun r D t t' c h' tk' e bn bd F' N' l => by
    have e' : r = r1 / r2 := e.trans (r_over r1 r2)
    subst e'
    exact hret D t t' c h' tk' ⟨Nat.le_trans bn (by omega), Nat.le_trans bd (by omega)⟩ F' N' l
theorem less_r {w : World} {p : Program} {loose : List Str} {mean : ExcName → Option Value} {mg mb : Str → Option Value} {dp un : Nat} {gd : Option (List Code)} {cn : Str} {cs : Scope} {a : Addr} {ccd : Value} {cl : List (Str × Addr)} {outer : List Env} {A₀ : Around} {base h₀ : Heap} {L : Addr} {m : Str → Option Value} {news : List (Addr × Obj)} {s : Shared} {Q E : Value → Shared → Prop} {D1 D2 : Addr} {r1 r2 : Rat} {t1 t1' t2 t2' : Tok} {c1 c2 n k : Nat}
    (B : Below A₀ base outer h₀) (F : Fr h₀ L s.heap m) (X : (HD.K w.params).In h₀) (N : News h₀ L s.heap news) (T : Top p loose mean mg mb h₀) (hk : cs.kind = .function) (e1 : s.heap.get? D1 = some (RatO r1 t1 t1' c1)) (e2 : s.heap.get? D2 = some (RatO r2 t2 t2' c2))
    (hd : dp + 3 < recursionLimit) (hu : un + 24 < cLine) (b1 : Bd n r1) (b2 : Bd k r2) (hb : n + k ≤ 100000)
    (hret : ∀ (h' : Heap) (tk' : Nat), Fr h₀ L h' m → News h₀ L h' news → Q (.bool (decide (r1 < r2))) { s with heap := h', toks := tk' }) :
    wpAny (model PySem.Challenge.rw_ui0509_08.row.prog w) (ktrTop dp un gd cn cs L a ccd cl outer) (call (.ref 119) [.ref D1, .ref D2]) Q E s :=
  less_u B F X N T hk e1 e2 hd hu b1.num b1.den b2.num b2.den (by omega) (by omega) fun h' tk' F' N' => by
    have e : decide (r1.num * (r2.den : Int) < r2.num * (r1.den : Int)) = decide (r1 < r2) := decide_eq_decide.mpr (Rat.lt_iff r1 r2).symm
    rw [e]
    exact hret h' tk' F' N'
end
section
-- pairs of lists
inductive All2 {α β : Type} (R : α → β → Prop) : List α → List β → Prop
  | nil : All2 R [] []
  | cons {a : α} {b : β} {as : List α} {bs : List β} : R a b → All2 R as bs → All2 R (a :: as) (b :: bs)
section
variable {α β : Type} {R S : α → β → Prop} {as cs : List α} {bs ds : List β} {a : α} {b : β}
theorem All2.length (h : All2 R as bs) : as.length = bs.length := by
  induction h with
  | nil => rfl
  | cons _ _ ih => rw [List.length_cons, List.length_cons, ih]
theorem All2.mono (hs : ∀ a b, R a b → S a b) (h : All2 R as bs) : All2 S as bs := by
  induction h with
  | nil => exact .nil
  | cons h _ ih => exact .cons (hs _ _ h) ih
theorem All2.append (h : All2 R as bs) (k : All2 R cs ds) : All2 R (as ++ cs) (bs ++ ds) := by
  induction h with
  | nil => exact k
  | cons h _ ih => exact .cons h ih
theorem All2.snoc (h : All2 R as bs) (k : R a b) : All2 R (as ++ [a]) (bs ++ [b]) := h.append (.cons k .nil)
theorem All2.get (h : All2 R as bs) {i : Nat} (ha : as[i]? = some a) : ∃ b, bs[i]? = some b ∧ R a b := by
  induction h generalizing i with
  | nil => simp at ha
  | cons h _ ih =>
    cases i with
    | zero => exact ⟨_, rfl, by simp at ha; rw [← ha]; exact h⟩
    | succ i => exact ih (by simpa using ha)
theorem All2.at (h : All2 R as bs) {i : Nat} (hb : bs[i]? = some b) : ∃ a, as[i]? = some a ∧ R a b := by
  induction h generalizing i with
  | nil => simp at hb
  | cons h _ ih =>
    cases i with
    | zero => exact ⟨_, rfl, by simp at hb; rw [← hb]; exact h⟩
    | succ i => exact ih (by simpa using hb)
theorem All2.set (h : All2 R as bs) (k : R a b) (i : Nat) : All2 R (as.set i a) (bs.set i b) := by
  induction h generalizing i with
  | nil => exact .nil
  | cons h r ih =>
    cases i with
    | zero => exact .cons k r
    | succ i => exact .cons h (ih i)
end
-- a loop's turns by an invariant (over the ItemsRest of KE.KTurns)
section
variable {prog : Program} {w : World} {A : Around} {E : Value → Shared → Prop} {s : Shared} {env : Env} {h₀ : Heap} {target : Expr} {body : List Stmt} {Q : Flow → Shared → Prop}
theorem items_ind {I : Addr} {cl : String} {keep : List (Addr × Obj)} {xs : List Itm} (J : Nat → (Str → Option Value) → List (Addr × Obj) → Prop)
    (turn : ∀ i a v m news h tk (o : Obj), xs[i]? = some a → SubL keep news → (∀ p ∈ news, p.1 ≠ I) → J i m news → a.Is v h → Fr h₀ env.locals h m → o.cls = .type cl → News h₀ env.locals h ((I, o) :: news) →
      wpAny (model prog w) A (assign target env v) (fun _ s₂ => wpAny (model prog w) A (execs body env) (UnrPostW h₀ env.locals { s with heap := h, toks := tk } [(I, o)] (fun m' n' => SubL keep n' ∧ J (i + 1) m' n') Q) E s₂) E { s with heap := h, toks := tk })
    (done : ∀ m news h tk, J xs.length m news → Fr h₀ env.locals h m → News h₀ env.locals h news → Q .next { s with heap := h, toks := tk }) :
    ∀ (ys : List Itm) (i : Nat) (m : Str → Option Value) (news : List (Addr × Obj)), xs.drop i = ys → i ≤ xs.length → SubL keep news → (∀ p ∈ news, p.1 ≠ I) → J i m news → ItemsRest prog w A E h₀ env target body Q s [(I, cl)] keep ys m news := by
  intro ys
  induction ys with
  | nil =>
    intro i m news hd hi _ _ hJ h tk F N
    have : i = xs.length := by
      have := congrArg List.length hd
      rw [List.length_drop, List.length_nil] at this
      omega
    subst this
    exact done m news h tk hJ F N
  | cons a ys ih =>
    intro i m news hd hi hk hI hJ v h tk hv F
    refine AllObj.cons fun o ho => AllObj.nil fun N => ?_
    have hlt : i < xs.length := by
      have := congrArg List.length hd
      rw [List.length_drop, List.length_cons] at this
      omega
    have ha : xs[i]? = some a := by
      have := congrArg (fun l => l[0]?) hd
      simpa [List.getElem?_drop] using this
    have hd' : xs.drop (i + 1) = ys := by
      have := congrArg List.tail hd
      simpa [List.tail_drop] using this
    have fin : ∀ s₃, UnrEndW h₀ env.locals { s with heap := h, toks := tk } [(I, o)] (fun m' n' => SubL keep n' ∧ J (i + 1) m' n') s₃ →
        UnrEndW h₀ env.locals { s with heap := h, toks := tk } [(I, o)] (fun m' n' => SubL keep n' ∧ ItemsRest prog w A E h₀ env target body Q s [(I, cl)] keep ys m' n') s₃ := by
      rintro s₃ ⟨h', tk', m', news', e, F', N', ho', hk', hJ'⟩
      exact ⟨h', tk', m', news', e, F', N', ho', hk', ih (i + 1) m' news' hd' hlt hk' (fun p hp => ho' p hp (I, o) (List.mem_cons_self ..)) hJ'⟩
    refine wpAny_mono (turn i a v m news h tk o ha hk hI hJ hv F ho N) (fun _ s₂ h₂ => wpAny_mono h₂ (fun f s₃ p => ?_) fun _ _ e => e) fun _ _ e => e
    cases f with
    | ret v => exact p
    | brk => exact p
    | next => exact fin _ p
    | cont => exact fin _ p
theorem unr_end {L I : Addr} {o : Obj} {rest : (Str → Option Value) → List (Addr × Obj) → Prop} {s₁ : Shared} {h' : Heap} {tk : Nat} {m' : Str → Option Value} {all : List (Addr × Obj)} (news' : List (Addr × Obj)) (F : Fr h₀ L h' m') (N : News h₀ L h' all)
    (hI : (I, o) ∈ all) (hs : ∀ p ∈ news', p ∈ all) (hne : ∀ p ∈ news', p.1 ≠ I) (r : rest m' news') : UnrEndW h₀ L s₁ [(I, o)] rest { s₁ with heap := h', toks := tk } :=
  ⟨h', tk, m', news', rfl, F, fun p hp => by
    rcases List.mem_append.mp hp with hp | hp
    · rw [List.mem_singleton.mp hp]; exact N _ hI
    · exact N p (hs p hp), fun p hp q hq => by rw [List.mem_singleton.mp hq]; exact hne p hp, r⟩
theorem iter_baseTurns {ax : Addr} {lo : Obj} {vs : List Value} {n : Nat} {m₀ : Str → Option Value} {news : List (Addr × Obj)}
    (hh : A.handled = none) (F : Fr h₀ env.locals s.heap m₀) (N : News h₀ env.locals s.heap news) (hg : h₀.get? ax = some lo) (hc : lo.cls = .type "list") (hd : lo.data = .seq vs.toArray n)
    (rest₀ : ∀ I : Addr, (∀ p ∈ news, p.1 < I) → ItemsRest prog w A E h₀ env target body Q s [(I, "list_iterator")] [] (vs.map .val) m₀ news) :
    wpAny (model prog w) A (pyIter (.ref ax)) (fun it s₂ => TurnsAt prog w A h₀ env target body Q E it s₂) E s := by
  have hax : s.heap.get? ax = some lo := F.keep _ _ hg
  have hl : s.heap.IsList ax vs.toArray := ⟨lo, hax, hc, n, hd⟩
  have hne : ax ≠ s.heap.objs.size := Nat.ne_of_lt (Heap.lt_size hax)
  refine wpAny_pyIter_list hl ?_
  refine ktg_core (tk0 := s.toks) (keep := []) (KTurns.ofWalks (Walks.list hh s.heap.objs.size ax hne vs.toArray) fun i v s Q E st q => letGo_listiter st.1 q) (by simp) (fun i v h hp => ⟨.val v, ?_, rfl⟩) (fun i h st => ?_) (fun b hb => ?_) (fun b hb => by simpa using hb) (fun b hb => ?_) ?_ (fun p hp hI => ?_) ?_ (F.push _) (fun p hp => ⟨Heap.get?_push_of_some _ (N p hp).1, (N p hp).2⟩) trivial (rest₀ _ fun p hp => Heap.lt_size (N p hp).1)
  · have hp' : vs.toArray[i]? = some v := hp
    simpa using hp'
  · obtain ⟨it, hit, hic, _⟩ := st.1
    exact ⟨[(s.heap.objs.size, it)], ⟨⟨rfl, hic⟩, trivial⟩, fun p hp => by rw [List.mem_singleton.mp hp]; exact hit⟩
  · have hb' : b = s.heap.objs.size := by simpa using hb
    rw [hb']
    exact ⟨List.mem_cons_self .., next_is_new F⟩
  · have hb' : b = s.heap.objs.size ∨ b = ax := by simpa using hb
    rcases hb' with e | e
    · exact .inl (by simp [e])
    · exact .inr (.inr ⟨lo, by rw [e]; exact hg⟩)
  · intro hI
    rcases List.mem_cons.mp hI with e | hI
    · exact absurd F.ns.lt (e ▸ Nat.lt_irrefl _)
    · have e : env.locals = ax := List.mem_singleton.mp hI
      exact absurd (Heap.lt_size hg) (Nat.not_lt.mpr (e ▸ F.above))
  · exact absurd (Heap.lt_size (N p hp).1) ((List.mem_singleton.mp hI) ▸ Nat.lt_irrefl _)
  · exact ⟨⟨_, Heap.get?_push_size _ rfl, rfl, rfl⟩, hl.at fun o e => Heap.get?_push_of_some _ e⟩
def rangeItems (a : Int) (n : Nat) : List Itm := (List.range n).map fun (i : Nat) => Itm.tok fun t => Value.int (a + (i : Int)) t
theorem rangeItems_length (a : Int) (n : Nat) : (rangeItems a n).length = n := by simp [rangeItems]
theorem rangeItems_get {a : Int} {n i : Nat} {x : Itm} (h : (rangeItems a n)[i]? = some x) : i < n ∧ x = .tok fun t => .int (a + (i : Int)) t := by
  unfold rangeItems at h
  rw [List.getElem?_map] at h
  obtain ⟨j, hj, e⟩ := Option.map_eq_some_iff.mp h
  obtain ⟨h1, h2⟩ := List.getElem?_eq_some_iff.mp hj
  rw [List.getElem_range] at h2
  subst h2
  exact ⟨by simpa using h1, e.symm⟩
theorem iter_rangeTurns {x : Str} {px : Pos} {r : Addr} {a₀ b₀ : Int} {t₀ u₀ v₀ : Tok} {n : Nat} {m₀ : Str → Option Value} {news : List (Addr × Obj)}
    (hh : A.handled = none) (hr : IsRange s.heap r a₀ b₀ 1 t₀ u₀ v₀) (hsmall : Builtin.Range.small a₀ b₀ 1 = true) (hn : Builtin.Range.rangeSize a₀ b₀ 1 = (n : Int)) (F : Fr h₀ env.locals s.heap m₀) (N : News h₀ env.locals s.heap news)
    (rest₀ : ∀ I : Addr, (∀ p ∈ news, p.1 < I) → ItemsRest prog w A E h₀ env (.Name x px) body Q s [(I, "range_iterator")] [] (rangeItems a₀ n) m₀ news) :
    wpAny (model prog w) A (pyIter (.ref r)) (fun it s₂ => TurnsAt prog w A h₀ env (.Name x px) body Q E it s₂) E s := by
  refine wpAny_pyIter_range hr hsmall ?_
  have W : Walks prog w A s.heap.objs.size [s.heap.objs.size] [s.heap.objs.size] n (fun i v => i < n ∧ ∃ t, v = .int (a₀ + i * 1) t)
      (fun i h => IsRangeIter h s.heap.objs.size (a₀ + (i : Nat) * 1) ((n : Int) - (i : Nat)) 1) := (Walks.range hh _ a₀ 1 n).bound
  refine ktg_core (tk0 := s.toks) (keep := []) (KTurns.ofWalks W fun i v s Q E st q => wpAny_pure q) (rangeItems_length a₀ n).symm (fun i v h hp => ?_) (fun i h st => ?_) (fun b hb => ?_) (fun b hb => by simpa using hb) (fun b hb => .inl (by simpa using hb)) ?_ (fun p hp hI => ?_) ?_ (F.push _) (fun p hp => ⟨Heap.get?_push_of_some _ (N p hp).1, (N p hp).2⟩) trivial (rest₀ _ fun p hp => Heap.lt_size (N p hp).1)
  · obtain ⟨hi, t, rfl⟩ := hp
    refine ⟨.tok fun t => .int (a₀ + (i : Int)) t, ?_, t, by rw [Int.mul_one]⟩
    unfold rangeItems
    rw [List.getElem?_map, List.getElem?_range hi]
    rfl
  · exact ⟨[(s.heap.objs.size, _)], ⟨⟨rfl, rfl⟩, trivial⟩, fun p hp => by rw [List.mem_singleton.mp hp]; exact st⟩
  · have hb' : b = s.heap.objs.size := by simpa using hb
    rw [hb']
    exact ⟨List.mem_cons_self .., next_is_new F⟩
  · intro hI
    exact absurd F.ns.lt ((List.mem_singleton.mp hI) ▸ Nat.lt_irrefl _)
  · exact absurd (Heap.lt_size (N p hp).1) ((List.mem_singleton.mp hI) ▸ Nat.lt_irrefl _)
  · show IsRangeIter _ _ _ _ _
    rw [hn]
    simpa using Heap.get?_push_size _ rfl
end
theorem unr_one {h₀ h' : Heap} {L I D : Addr} {o od : Obj} {rest : (Str → Option Value) → List (Addr × Obj) → Prop} {s₁ : Shared} {tk : Nat} {m' : Str → Option Value} {all : List (Addr × Obj)} (F : Fr h₀ L h' m') (N : News h₀ L h' ((D, od) :: all))
    (hI : (I, o) ∈ (D, od) :: all) (hne : D ≠ I) (r : rest m' [(D, od)]) : UnrEndW h₀ L s₁ [(I, o)] rest { s₁ with heap := h', toks := tk } :=
  unr_end [(D, od)] F N hI (fun p hp => by rw [List.mem_singleton.mp hp]; exact List.mem_cons_self ..) (fun p hp => by rw [List.mem_singleton.mp hp]; exact hne) r
def Hold (P : Prop) : Prop := P
theorem Hold.out {P : Prop} (h : Hold P) : P := h
-- a rational in the heap
def RatH (h : Heap) (v : Value) (r : Rat) : Prop := ∃ D t t' c, v = .ref D ∧ h.get? D = some (RatO r t t' c)
theorem RatH.keeps {h g : Heap} {v : Value} {r : Rat} (hk : ∀ b o, h.get? b = some o → g.get? b = some o) (x : RatH h v r) : RatH g v r := let ⟨D, t, t', c, e, hd⟩ := x; ⟨D, t, t', c, e, hk _ _ hd⟩
def tot (rs : List Rat) : Rat := rs.foldl (· + ·) 0
theorem tot_take {rs : List Rat} {i : Nat} {r : Rat} (h : rs[i]? = some r) : tot (rs.take (i + 1)) = tot (rs.take i) + r := by
  unfold tot
  rw [List.take_add_one, h, List.foldl_append]; rfl
theorem val_get {vs : List Value} {i : Nat} {a : Itm} {v : Value} {h : Heap} (ha : (vs.map Itm.val)[i]? = some a) (hv : a.Is v h) : vs[i]? = some v := by
  rw [List.getElem?_map] at ha
  obtain ⟨x, hx, e⟩ := Option.map_eq_some_iff.mp ha
  subst e
  have : v = x := hv
  rw [this]; exact hx
theorem mul_le_of_lt {i n b : Nat} (h : i < n) : i * (b + 1) + 1 + b + 1 ≤ n * (b + 1) + 1 := by
  have : (i + 1) * (b + 1) ≤ n * (b + 1) := Nat.mul_le_mul_right _ h
  rw [Nat.add_mul] at this
  omega
-- what a frame keeps track of: an object of the ledger, or of the ground
def Tk (h₀ : Heap) (nx : List (Addr × Obj)) (a : Addr) (o : Obj) : Prop := (a, o) ∈ nx ∨ h₀.get? a = some o
theorem Tk.mono {h₀ : Heap} {nx ny : List (Addr × Obj)} {a : Addr} {o : Obj} (e : Tk h₀ nx a o) (hs : ∀ p ∈ nx, p ∈ ny) : Tk h₀ ny a o := e.imp (hs _) id
theorem Tk.get {h₀ h : Heap} {L : Addr} {m : Str → Option Value} {nx led : List (Addr × Obj)} {a : Addr} {o : Obj} (F : Fr h₀ L h m) (N : News h₀ L h led) (e : Tk h₀ nx a o) (hs : ∀ p ∈ nx, p ∈ led) : h.get? a = some o :=
  e.elim (fun h1 => (N _ (hs _ h1)).1) fun h1 => F.keep _ _ h1
abbrev pairO (v1 v2 : Value) (c : Nat) : Obj := { cls := .type "tuple", data := .seq #[v1, v2] c }
abbrev PT (P : Addr → Obj → Prop) (tl : List (Addr × Obj)) (a : Addr) (o : Obj) : Prop := P a o ∨ (a, o) ∈ tl
theorem PT.mono {P : Addr → Obj → Prop} {tl tm : List (Addr × Obj)} (hs : ∀ p ∈ tl, p ∈ tm) : ∀ a o, PT P tl a o → PT P tm a o := fun _ _ e => e.imp id (hs _)
theorem PT.left {P : Addr → Obj → Prop} {tl tm : List (Addr × Obj)} (_hs : ∀ p ∈ tl, p ∈ tm) : ∀ a o, P a o → PT P tm a o := fun _ _ e => .inl e
def RatN (P : Addr → Obj → Prop) (v : Value) (r : Rat) : Prop := ∃ D t t' c, v = .ref D ∧ P D (RatO r t t' c)
def LayN (P : Addr → Obj → Prop) (v : Value) (l : Rat × Rat) : Prop := ∃ D v1 v2 c, v = .ref D ∧ P D (pairO v1 v2 c) ∧ RatN P v1 l.1 ∧ RatN P v2 l.2
def LstN {β : Type} (R : Value → β → Prop) (P : Addr → Obj → Prop) (v : Value) (bs : List β) : Prop := ∃ l vs n, v = .ref l ∧ P l (listOf vs.toArray n) ∧ All2 R vs bs
abbrev LaysN (P : Addr → Obj → Prop) (v : Value) (ls : List (Rat × Rat)) : Prop := LstN (LayN P) P v ls
abbrev RatsN (P : Addr → Obj → Prop) (v : Value) (rs : List Rat) : Prop := LstN (RatN P) P v rs
section
variable {P P' : Addr → Obj → Prop} {v : Value}
theorem RatN.mono {r : Rat} (hs : ∀ a o, P a o → P' a o) (x : RatN P v r) : RatN P' v r := let ⟨D, t, t', c, e, k⟩ := x; ⟨D, t, t', c, e, hs _ _ k⟩
theorem LayN.mono {l : Rat × Rat} (hs : ∀ a o, P a o → P' a o) (x : LayN P v l) : LayN P' v l := let ⟨D, v1, v2, c, e, k, a, b⟩ := x; ⟨D, v1, v2, c, e, hs _ _ k, a.mono hs, b.mono hs⟩
theorem LaysN.mono {ls : List (Rat × Rat)} (hs : ∀ a o, P a o → P' a o) (x : LaysN P v ls) : LaysN P' v ls := let ⟨l, vs, n, e, k, a⟩ := x; ⟨l, vs, n, e, hs _ _ k, a.mono fun _ _ y => y.mono hs⟩
theorem RatsN.mono {rs : List Rat} (hs : ∀ a o, P a o → P' a o) (x : RatsN P v rs) : RatsN P' v rs := let ⟨l, vs, n, e, k, a⟩ := x; ⟨l, vs, n, e, hs _ _ k, a.mono fun _ _ y => y.mono hs⟩
end
theorem tracked {h₀ h : Heap} {L : Addr} {m : Str → Option Value} {led : List (Addr × Obj)} (F : Fr h₀ L h m) (N : News h₀ L h led) : ∀ a o, Tk h₀ led a o → h.get? a = some o := fun _ _ e => e.get F N fun _ hp => hp
-- steps on such objects
section
variable {prog : Program} {w : World} {A : Around} {E : Value → Shared → Prop} {s : Shared} {h₀ : Heap} {L D : Addr} {m : Str → Option Value} {nx led : List (Addr × Obj)} {lo : Obj} {env : Env}
theorem tup_t {value slice : Expr} {l : List Value} {n : Nat} {k : Int} {u : Tok} {j : Nat} {x : Value} {Q : Value → Shared → Prop}
    (F : Fr h₀ L s.heap m) (N : News h₀ L s.heap led) (e : Tk h₀ nx D lo) (hsub : ∀ p ∈ nx, p ∈ led) (hc : lo.cls = .type "tuple") (hd : lo.data = .seq l.toArray n) (hlo : -(2 ^ 63) ≤ k) (hhi : k < 2 ^ 63) (hj : seqIndex? k l.length = some j) (hx : l[j]? = some x) (h : Q x s)
    (hs : subscripted slice false (.ref D) (.int k u) = operate [.ref D, .int k u] (getItem (.ref D) (.int k u))) (hg : ∀ r, letTemporaryGo value (.ref D) r = pure ()) :
    wpAny (model prog w) A (subscriptTail value slice (.ref D) (.int k u)) Q E s := item_tupleL ⟨lo, e.get F N hsub, hc, n, hd⟩ hlo hhi hj hx h hs hg
theorem unpack_t {elts : List Expr} {k : Nat} {pos : Pos} {items : Array Value} {n : Nat} {Q : Unit → Shared → Prop} (F : Fr h₀ L s.heap m) (N : News h₀ L s.heap led) (e : Tk h₀ nx D lo) (hsub : ∀ p ∈ nx, p ∈ led) (hc : lo.cls = .type "tuple") (hd : lo.data = .seq items n)
    (hh : A.handled = none) (hn : (assignEach elts env).length = items.size) (hstar : (assignEach elts env).findIdx? (·.1) = none)
    (h : ∀ h', Fr h₀ L h' m → News h₀ L h' led → wpAny (model prog w) A (assignInOrder ((assignEach elts env).map (·.2)) items.toList) Q E { s with heap := h' }) :
    wpAny (model prog w) A (assign (.Tuple elts k pos) env (.ref D)) Q E s := unpackN_ F N ⟨lo, e.get F N hsub, hc, n, hd⟩ hh hn hstar h
end
theorem allNe_mem {d : Nat} : ∀ {l : List (Addr × Obj)}, AllNe d l → ∀ p ∈ l, p.1 ≠ d
  | [], _, _, h => nomatch h
  | _ :: _, x, p, h => by
    rcases List.mem_cons.mp h with rfl | h
    · exact x.1
    · exact allNe_mem x.2 p h
theorem rat_new {P : Addr → Obj → Prop} {D : Addr} {t t' : Tok} {c : Nat} {r : Rat} (h : P D (RatO r t t' c)) : RatN P (.ref D) r := ⟨D, t, t', c, rfl, h⟩
theorem news_app2 {h₀ h' : Heap} {L : Addr} {news tl : List (Addr × Obj)} (N1 : News h₀ L h' tl) (N : News h₀ L h' news) : News h₀ L h' (news ++ tl) := by
  intro q hq
  rcases List.mem_append.mp hq with hq | hq
  · exact N q hq
  · exact N1 q hq
-- the ledger at a turn's end: what is told of by name, and all the rest but the iterator
-- cutting layers
theorem lst_lenT {prog : Program} {w : World} {A : Around} {E : Value → Shared → Prop} {s : Shared} {h₀ : Heap} {L l : Addr} {m : Str → Option Value} {nx led : List (Addr × Obj)} {vs : List Value} {n : Nat} {Q : Value → Shared → Prop} (F : Fr h₀ L s.heap m) (N : News h₀ L s.heap led) (e : Tk h₀ nx l (listOf vs.toArray n)) (hs : ∀ p ∈ nx, p ∈ led) (hf : vs.length < 1000000) (h : ∀ tk, Q (.int (vs.length : Int) tk) { s with toks := tk + 1 }) :
    wpAny (model prog w) A (call (.builtin "len") [.ref l]) Q E s := by
  refine len_list ⟨_, e.get F N hs, rfl, n, rfl⟩ (by rw [List.size_toArray]; omega) ?_
  rw [List.size_toArray]
  exact h _
theorem add_k {prog : Program} {w : World} {A : Around} {E : Value → Shared → Prop} {s : Shared} {h₀ : Heap} {L a b : Addr} {m : Str → Option Value} {news : List (Addr × Obj)} {vs ws : List Value} {n1 n2 : Nat} {Q : Value → Shared → Prop} (F : Fr h₀ L s.heap m) (N : News h₀ L s.heap news)
    (h1 : s.heap.get? a = some (listOf vs.toArray n1)) (h2 : s.heap.get? b = some (listOf ws.toArray n2)) (hz : vs.length + ws.length ≤ 16000)
    (h : ∀ D h', Fr h₀ L h' m → News h₀ L h' ((D, listOf (vs ++ ws).toArray 0) :: news) → (∀ p ∈ news, p.1 < D) → Q (.ref D) { s with heap := h' }) : wpAny (model prog w) A (binaryOp .Add (.ref a) (.ref b)) Q E s :=
  add_lists F N ⟨_, h1, rfl, n1, rfl⟩ ⟨_, h2, rfl, n2, rfl⟩ (fun h' F' N' => h _ h' F' N' fun p hp => Heap.lt_size (N p hp).1) (by rw [sizeLine_eq]; omega)
-- a list comprehension by an invariant (over LCg.CompRest of KE.LcTurns)
section
variable {prog : Program} {w : World} {A : Around} {s : Shared} {h₀ : Heap} {L : Addr} {m : Str → Option Value} {env : Env}
theorem comp_ind {elt : Expr} {x : Str} {scope : Scope} {cl : List (Str × Addr)} {S : List (Addr × Obj) → Prop} {Pv : Nat → Value → Prop} {Fin : List Value → List (Addr × Obj) → Prop} {n : Nat} (J : Nat → List Value → List (Addr × Obj) → Prop)
    (turn : ∀ i v I oI C oC D m₂ h tk (E' : Value → Shared → Prop) ys news, i < n → J i ys news → Pv i v → LCg.NsObj oC m₂ → m₂ x = some v → Fr h₀ L h m → News h₀ L h ((I, oI) :: (C, oC) :: (D, LCg.lst ys) :: news) → LCg.Off3 I C D news → ((@Ne Nat I C) ∧ (@Ne Nat I D) ∧ (@Ne Nat C D)) →
      wpAny (model prog w) A (eval elt (compEnvC scope cl C env)) (LCg.CompEnd h₀ L m { s with heap := h, toks := tk } I oI C oC D (LCg.lst ys) S (fun y news' => J (i + 1) (ys ++ [y]) news')) E' { s with heap := h, toks := tk })
    (fin : ∀ ys news, J n ys news → Fin ys news) :
    ∀ k i ys news, i + k = n → J i ys news → LCg.CompRest prog w A h₀ L m env elt x scope cl s S Pv Fin k i ys news := by
  intro k
  induction k with
  | zero =>
    intro i ys news hk hJ
    have : i = n := by omega
    subst this
    exact LCg.CompRest.zero (fin ys news hJ)
  | succ k ih =>
    intro i ys news hk hJ
    refine LCg.CompRest.succ fun v I oI C oC D m₂ h tk E' hP hC hx F N off ne => ?_
    refine wpAny_mono (turn i v I oI C oC D m₂ h tk E' ys news (by omega) hJ hP hC hx F N off ne) (fun y s₂ h₂ => ?_) fun _ _ e => e
    obtain ⟨h', tk', news', e, F', N', off', hS, r⟩ := h₂
    exact ⟨h', tk', news', e, F', N', off', hS, ih (i + 1) (ys ++ [y]) news' (by omega) r⟩
theorem comp_end {I C D : Addr} {s₁ : Shared} {oI oC oD : Obj} {S : List (Addr × Obj) → Prop} {rest : Value → List (Addr × Obj) → Prop} {y : Value} {h' : Heap} {tk : Nat} {all : List (Addr × Obj)}
    (F : Fr h₀ L h' m) (N : News h₀ L h' all) (news' : List (Addr × Obj)) (sub : ∀ p ∈ (I, oI) :: (C, oC) :: (D, oD) :: news', p ∈ all) (off : LCg.Off3 I C D news') (hS : S news') (r : rest y news') :
    LCg.CompEnd h₀ L m s₁ I oI C oC D oD S rest y { s₁ with heap := h', toks := tk } := LCg.CompEnd.intro F N news' sub off hS r
theorem off3_cons {I C D : Addr} {p : Addr × Obj} {l : List (Addr × Obj)} (h1 : p.1 ≠ I) (h2 : p.1 ≠ C) (h3 : p.1 ≠ D) (h : LCg.Off3 I C D l) : LCg.Off3 I C D (p :: l) := ⟨⟨h1, h2, h3⟩, h⟩
theorem off1_mem {D : Addr} : ∀ {l : List (Addr × Obj)}, LCg.Off1 D l → ∀ p ∈ l, p.1 ≠ D
  | [], _, _, h => nomatch h
  | _ :: _, x, p, h => by
    rcases List.mem_cons.mp h with rfl | h
    · exact x.1
    · exact off1_mem x.2 p h
end
-- items of tracked lists; data read from the heap and compared
section
variable {prog : Program} {w : World} {A : Around} {E : Value → Shared → Prop} {s : Shared} {h₀ : Heap} {L D : Addr} {m : Str → Option Value} {nx led : List (Addr × Obj)} {lo : Obj} {value slice : Expr} {l : List Value} {n : Nat} {k : Int} {u : Tok} {x : Value} {Q : Value → Shared → Prop}
theorem list_t (F : Fr h₀ L s.heap m) (N : News h₀ L s.heap led) (e : Tk h₀ nx D lo) (hsub : ∀ p ∈ nx, p ∈ led) (hc : lo.cls = .type "list") (hd : lo.data = .seq l.toArray n) (h0 : 0 ≤ k) (hfit : k < 2 ^ 63) (hx : l[k.toNat]? = some x) (h : Q x s)
    (hs : subscripted slice false (.ref D) (.int k u) = operate [.ref D, .int k u] (getItem (.ref D) (.int k u))) (hg : ∀ r, letTemporaryGo value (.ref D) r = pure ()) :
    wpAny (model prog w) A (subscriptTail value slice (.ref D) (.int k u)) Q E s := item_listL ⟨lo, e.get F N hsub, hc, n, hd⟩ h0 hfit hx h hs hg
theorem back_t (F : Fr h₀ L s.heap m) (N : News h₀ L s.heap led) (e : Tk h₀ nx D lo) (hsub : ∀ p ∈ nx, p ∈ led) (hc : lo.cls = .type "list") (hd : lo.data = .seq l.toArray n) (h0 : k < 0) (h1 : -(l.length : Int) ≤ k) (hfit : -(2 ^ 63) ≤ k) (hx : l[(k + (l.length : Int)).toNat]? = some x) (h : Q x s)
    (hs : subscripted slice false (.ref D) (.int k u) = operate [.ref D, .int k u] (getItem (.ref D) (.int k u))) (hg : ∀ r, letTemporaryGo value (.ref D) r = pure ()) :
    wpAny (model prog w) A (subscriptTail value slice (.ref D) (.int k u)) Q E s := by
  have hl : s.heap.IsList D l.toArray := ⟨lo, e.get F N hsub, hc, n, hd⟩
  exact subscriptTail_builtin hl.typeIs slot_list_getitem.lookup (wpAny_getItem_list_neg hl h0 (by rw [List.size_toArray]; exact h1) hfit (by rw [List.size_toArray]; simpa using hx) h) hs hg
end
theorem at_of {α : Type} {l : List α} {k : Int} {i : Nat} {x : α} (h : l[i]? = some x) (e : k = (i : Int)) : l[k.toNat]? = some x := by
  have : k.toNat = i := by omega
  rw [this]; exact h
def Rd (h : Heap) (v : Value) (d : PyData) : Prop := ∃ as, Reads h v d as
theorem rdAll {h : Heap} {vs : List Value} {ds : List PyData} (hv : All2 (Rd h) vs ds) : ∃ as, ReadsAll h vs ds as := by
  induction hv with
  | nil => exact ⟨_, .nil⟩
  | cons a _ ih => obtain ⟨as, ra⟩ := a; obtain ⟨bs, rb⟩ := ih; exact ⟨_, .cons ra rb⟩
theorem Rd.int {h : Heap} {i : Int} {t : Tok} : Rd h (.int i t) (.int i) := ⟨_, .int i t⟩
theorem Rd.none {h : Heap} : Rd h .none .none := ⟨_, .none⟩
theorem Rd.bool {h : Heap} {b : Bool} : Rd h (.bool b) (.bool b) := ⟨_, .bool b⟩
theorem Rd.tuple {h : Heap} {D : Addr} {vs : List Value} {c : Nat} {ds : List PyData} (e : h.get? D = some { cls := .type "tuple", data := .seq vs.toArray c }) (hv : All2 (Rd h) vs ds) : Rd h (.ref D) (.tuple ds) :=
  let ⟨as, ra⟩ := rdAll hv; ⟨as, .tuple e rfl rfl (by simpa using ra)⟩
theorem Rd.list {h : Heap} {D : Addr} {vs : List Value} {c : Nat} {ds : List PyData} (e : h.get? D = some (listOf vs.toArray c)) (hv : All2 (Rd h) vs ds) : Rd h (.ref D) (.list ds) :=
  let ⟨as, ra⟩ := rdAll hv; ⟨D :: as, .list e rfl rfl (by simpa using ra)⟩
theorem Rd.keeps {h g : Heap} {v : Value} {d : PyData} (hk : ∀ b o, h.get? b = some o → g.get? b = some o) (x : Rd h v d) : Rd g v d := let ⟨as, r⟩ := x; ⟨as, PyProof.Rows.Reads.keeps hk r⟩
def ratP (r : Rat) : PyData := .tuple [.int r.num, .int (r.den : Int)]
theorem RatO_rd {h : Heap} {D : Addr} {r : Rat} {t t' : Tok} {c : Nat} (e : h.get? D = some (RatO r t t' c)) : Rd h (.ref D) (ratP r) := Rd.tuple (vs := [_, _]) e (.cons .int (.cons .int .nil))
section
variable {P : Addr → Obj → Prop} {h : Heap} {v : Value}
theorem All2.map_r {α β γ : Type} {R : α → β → Prop} {S : α → γ → Prop} {f : β → γ} {as : List α} {bs : List β} (hs : ∀ a b, R a b → S a (f b)) (x : All2 R as bs) : All2 S as (bs.map f) := by
  induction x with
  | nil => exact .nil
  | cons a _ ih => exact .cons (hs _ _ a) ih
end
section
variable {prog : Program} {w : World} {A : Around} {E : Value → Shared → Prop} {s : Shared} {a b : Value} {d : PyData} {Q : Value → Shared → Prop}
theorem ne_rd (ra : Rd s.heap a d) (rb : Rd s.heap b d) (hs : SeqAt.shaped d = true) (hu : A.units + 64 < cLine) (h : Q (.bool false) s) : wpAny (model prog w) A (compareOp .NotEq a b) Q E s := by
  obtain ⟨as, ra⟩ := ra; obtain ⟨bs, rb⟩ := rb
  exact ne_dataH ra rb hs hs hu (by rw [SeqAt.eqv_refl d (SeqAt.canLay_of_shaped hs)]; exact h)
end
theorem rsize {a b : Int} {n : Nat} (h : b = a + (n : Int)) : Builtin.Range.rangeSize a b 1 = (n : Int) := by
  unfold Builtin.Range.rangeSize
  rw [if_pos (by decide)]
  split <;> omega
theorem set_at {prog : Program} {w : World} {A : Around} {E : Value → Shared → Prop} {s : Shared} {h₀ : Heap} {L D : Addr} {m : Str → Option Value} {news news' : List (Addr × Obj)} {vs : List Value} {n : Nat} {k : Int} {t : Tok} {v : Value} {Q : Unit → Shared → Prop}
    (F : Fr h₀ L s.heap m) (N : News h₀ L s.heap news) (U : Upd D (listOf vs.toArray n) (listOf (vs.set k.toNat v).toArray n) news news') (h0 : 0 ≤ k) (h1 : k < vs.length) (hfit : k < 2 ^ 63)
    (h : ∀ h', Fr h₀ L h' m → News h₀ L h' news' → Q () { s with heap := h' }) :
    wpAny (model prog w) A (setItem (.ref D) (.int k t) v) Q E s := by
  obtain ⟨pre, post, rfl, rfl, a, b⟩ := U.split
  have z := N (D, listOf vs.toArray n) (List.mem_append.mpr (.inr (.head _)))
  have hs : vs.toArray.size = vs.length := List.size_toArray ..
  refine ki_setAt z.1 h0 hfit (by omega) (h _ (F.change (Heap.SameBut.update ..) z.2.1 z.2.2) (ki_turn _ N a b ?_ ?_))
  · show vs.toArray.setIfInBounds k.toNat v = (vs.set k.toNat v).toArray
    apply Array.toList_inj.mp
    simp
  · simp
theorem mod_gen {prog : Program} {w : World} {A : Around} {E : Value → Shared → Prop} {s : Shared} {a n : Int} {t u : Tok} {Q : Value → Shared → Prop} (hn : 0 < n)
    (h : ∀ v : Int, 0 ≤ v → v < n → v = a.fmod n → Q (.int v s.toks) { s with toks := s.toks + 1 }) : wpAny (model prog w) A (binaryOp .Mod (.int a t) (.int n u)) Q E s := by
  have e : a.fmod n = a % n := Int.fmod_eq_emod_of_nonneg a (by omega)
  exact mod_int' (by omega) (h _ (by rw [e]; exact Int.emod_nonneg a (by omega)) (by rw [e]; exact Int.emod_lt_of_pos a hn) rfl)
end
end Mine
open Mine
local macro_rules | `(tactic| walk_at "i4") => `(tactic| ((with_reducible rename Fr _ _ _ _ => lsF); (with_reducible rename News _ _ _ _ => lsN); (refine slice_strN_ns (hsz := ?hsz) (s := ⟨_, _, _, _, _⟩) lsF lsN ?_); (case hsz => (rw [sizeLine_eq]; omega)); intro _ _ _ _ _))
namespace Mine
section
theorem raisedK_mono {base : Heap} {l : List Env} {e : Addr} {cls : Value} {t : Addr} {vs : List Value} {news news' : List (Addr × Obj)} {h : Heap} (k : ∀ p ∈ news', p ∈ news) (R : RaisedK base l e cls t vs news h) : RaisedK base l e cls t vs news' h := by
  obtain ⟨⟨B, a, b, c, d⟩, f⟩ := R
  exact ⟨⟨B, a, fun q hq => b q (k q hq), c, d⟩, f⟩
theorem raisedK_from {base : Heap} {l : List Env} {e : Addr} {cls : Value} {t : Addr} {vs : List Value} {news news' : List (Addr × Obj)} {h : Heap} (R : RaisedK base l e cls t vs news h) (k : ∀ p ∈ news', p ∈ news) : RaisedK base l e cls t vs news' h := raisedK_mono k R
def shF (x : Str) : Str := if x.length < 40 then x else Txt.slice x none (some 37) ++ Str.ofString "..."
theorem shF_le (x : Str) : (shF x).length ≤ 3 + x.length := by
  unfold shF
  split
  · omega
  · rw [Str.length_append]
    have h1 := Txt.slice_le x none (some 37)
    have h2 : (Str.ofString "...").length = 3 := by decide
    omega
section
theorem words4 : True := by
  k_with_none
  k_with "ne9" => (refine neN ?_; (try dsimp only); first | with_reducible assumption | exact Ne.symm (by with_reducible assumption) | exact pj0 (by with_reducible assumption) | exact pj1 (by with_reducible assumption) | exact pj2 (by with_reducible assumption) | exact pj3 (by with_reducible assumption) | exact pj4 (by with_reducible assumption) | exact pj5 (by with_reducible assumption) | exact pj6 (by with_reducible assumption) | exact pj7 (by with_reducible assumption) | exact pj8 (by with_reducible assumption) | exact pj9 (by with_reducible assumption) | exact pj10 (by with_reducible assumption) | exact pj11 (by with_reducible assumption) | exact Ne.symm (pj0 (by with_reducible assumption)) | exact Ne.symm (pj1 (by with_reducible assumption)) | exact Ne.symm (pj2 (by with_reducible assumption)) | exact Ne.symm (pj3 (by with_reducible assumption)) | exact Ne.symm (pj4 (by with_reducible assumption)) | exact Ne.symm (pj5 (by with_reducible assumption)) | exact Ne.symm (pj6 (by with_reducible assumption)) | exact Ne.symm (pj7 (by with_reducible assumption)) | exact Ne.symm (pj8 (by with_reducible assumption)) | exact Ne.symm (pj9 (by with_reducible assumption)) | exact Ne.symm (pj10 (by with_reducible assumption)) | exact Ne.symm (pj11 (by with_reducible assumption)) | exact ad1 | exact ad2 | exact ad3 | exact ad4 | exact ad5 | exact ad6 | exact ad7 | exact ad8 | exact Ne.symm ad1 | exact Ne.symm ad2 | exact Ne.symm ad3 | exact Ne.symm ad4 | exact Ne.symm ad5 | exact Ne.symm ad6 | exact Ne.symm ad7 | exact Ne.symm ad8 | exact Nat.ne_of_lt (by with_reducible assumption) | exact Nat.ne_of_gt (by with_reducible assumption) | exact Nat.ne_of_lt (pj0 (by with_reducible assumption)) | exact Nat.ne_of_lt (pj1 (by with_reducible assumption)) | exact Nat.ne_of_lt (pj2 (by with_reducible assumption)) | exact Nat.ne_of_lt (pj3 (by with_reducible assumption)) | exact Nat.ne_of_lt (pj4 (by with_reducible assumption)) | exact Nat.ne_of_lt (pj5 (by with_reducible assumption)) | exact Nat.ne_of_lt (pj6 (by with_reducible assumption)) | exact Nat.ne_of_lt (pj7 (by with_reducible assumption)) | exact Nat.ne_of_lt (pj8 (by with_reducible assumption)) | exact Nat.ne_of_lt (pj9 (by with_reducible assumption)) | exact Nat.ne_of_lt (pj10 (by with_reducible assumption)) | exact Nat.ne_of_lt (pj11 (by with_reducible assumption)) | exact Nat.ne_of_gt (pj0 (by with_reducible assumption)) | exact Nat.ne_of_gt (pj1 (by with_reducible assumption)) | exact Nat.ne_of_gt (pj2 (by with_reducible assumption)) | exact Nat.ne_of_gt (pj3 (by with_reducible assumption)) | exact Nat.ne_of_gt (pj4 (by with_reducible assumption)) | exact Nat.ne_of_gt (pj5 (by with_reducible assumption)) | exact Nat.ne_of_gt (pj6 (by with_reducible assumption)) | exact Nat.ne_of_gt (pj7 (by with_reducible assumption)) | exact Nat.ne_of_gt (pj8 (by with_reducible assumption)) | exact Nat.ne_of_gt (pj9 (by with_reducible assumption)) | exact Nat.ne_of_gt (pj10 (by with_reducible assumption)) | exact Nat.ne_of_gt (pj11 (by with_reducible assumption)) | omega)
  k_with "k_ne" => (walk_at "ne9")
  k_with "k_in" => (refine' in_of ?z18fF ?z18fX; (case z18fF => k_asm); (case z18fX => k_asm))
  k_with "call builtin:len" => (k_here; (with_reducible show wpAny _ _ (call (Value.builtin "len") [Value.str _ _]) _ _ _); (refine P.len_str ?z19hLn ?_); (case z19hLn => omega))
  k_with "subscriptTail" => (k_here; (with_reducible show wpAny _ _ (subscriptTail _ (Expr.Slice none (some _) none _) (Value.str _ _) (Value.ref _)) _ _ _); walk_at "i4")
  trivial
theorem shown_s {w : World} {p : Program} {loose : List Str} {mean : ExcName → Option Value} {mg mb : Str → Option Value} {dp un : Nat} {gd : Option (List Code)} {cn : Str} {cs : Scope} {a : Addr} {ccd : Value} {cl : List (Str × Addr)} {outer : List Env} {A₀ : Around} {base h₀ : Heap} {L : Addr} {m : Str → Option Value} {news : List (Addr × Obj)} {s : Shared} {Q E : Value → Shared → Prop} {tx : Str} {t4 : Tok}
    (B : Below A₀ base outer h₀) (F : Fr h₀ L s.heap m) (X : (HD.K w.params).In h₀) (N : News h₀ L s.heap news) (T : Top p loose mean mg mb h₀) (hk : cs.kind = .function) (hT : tx.length ≤ 3000) (hd : dp + 4 < recursionLimit) (hu : un + 100 < cLine)
    (hret : ∀ (u : Tok) (h' : Heap) (tk' : Nat), (shF tx).length ≤ 3003 → Fr h₀ L h' m → News h₀ L h' news → Q (.str (shF tx) u) { s with heap := h', toks := tk' }) :
    wpAny (model PySem.Challenge.rw_ui0509_08.row.prog w) (ktrTop dp un gd cn cs L a ccd cl outer) (call (.ref 41) [.str tx t4]) Q E s := by
  w_top off
  revert X; k_fill; intro X
  refine wpAny_call ?_
  k_dflt (refine' code_need [] ?k1 ?k2 ?k3 ?k4 ?k5 ?kA ?kF ?kK ?k6 ?k7 ?k8 ?k9 ?kB ?kN ?_ ?c2 ?c3 ?c4 ?c5; (case kA => exact rfl); (case kF => exact rfl); (case kK => assumption); (case k1 => k_asm); (case k2 => k_asm); (case k3 => k_asm); (case k4 => k_asm); (case k5 => k_asm); (case k6 => k_is); (case k7 => k_is); (case k8 => ktr_room); (case k9 => first | exact BindsTo.of_eq rfl | exact binds_K (by k_in) rfl (by k_is) rfl rfl rfl); (case c5 => decide); (case kB => exact locs rfl); (case kN => exact fun _ h => nomatch h); (case c2 => exact rfl); (case c3 => exact rfl); (case c4 => exact rfl); k_whole; intro g' L' h' tk0 FG' F' N' B' X' T' hG'; (try dsimp only); (try k_fold))
  have hle9 : (shF tx).length ≤ 3003 := Nat.le_trans (shF_le tx) (by omega)
  k_steps
  all_goals (refine leaveN_ (by k_asm) (by k_asm) ?_; intro kF kN kR kD; (try dsimp only); first | (have e9 : shF tx = tx := if_pos (by omega); rw [← e9]; exact hret _ _ _ hle9 kF (news_all kR)) | (have e9 : shF tx = Txt.slice tx none (some 37) ++ Str.ofString "..." := if_neg (by omega); rw [← e9]; exact hret _ _ _ hle9 kF (news_all kR)))
end
-- texts of numbers: show and read (plain)
section
open NumText Builtin Builtin.Str StrLaws
def sN (n : Int) : Str := Str.ofString (toString n)
def cD (m : Nat) : List Nat := (Nat.toDigits 10 m).map Char.toNat
theorem sN_pos (m : Nat) : (sN (m : Int)).cps.toList = cD m := KIN.signs_num m
theorem sN_neg (m : Nat) : (sN (-((m + 1 : Nat) : Int))).cps.toList = 45 :: cD (m + 1) := by
  unfold sN cD
  rw [signs_ofString]
  show ((toString (Int.negSucc m)).toList.map Char.toNat) = _
  have e : toString (Int.negSucc m) = "-" ++ Nat.repr (m + 1) := rfl
  rw [e, String.toList_append, List.map_append, Nat.toList_repr]
  rfl
theorem cD_digits (m : Nat) : AllDigits (cD m) := by
  intro c hc
  obtain ⟨ch, hch, e⟩ := List.mem_map.mp hc
  have r := digit_range (Nat.isDigit_of_mem_toDigits (by decide) (by decide) hch)
  rw [← e]
  exact r
theorem cD_ne (m : Nat) : cD m ≠ [] := by
  intro e
  have h := toDigits_len_ge 10 m
  rw [List.map_eq_nil_iff.mp e] at h
  exact absurd h (by decide)
theorem cD_len {m : Nat} (h : m < 10 ^ 10) : (cD m).length ≤ 10 := by
  have e := KT.len_num (n := (m : Int)) (Int.natCast_nonneg m) (by omega)
  have : (sN (m : Int)).cps.toList.length ≤ 10 := by rw [Array.length_toList]; exact e
  rw [sN_pos] at this
  exact this
theorem cD_val (m : Nat) : digitsVal (cD m) = m := KIN.val_back m
theorem list_len (x : Str) : x.length = x.cps.toList.length := (Array.length_toList).symm
theorem str_of_list {x : Str} {l : List Nat} (h : x.cps.toList = l) : x = ⟨l.toArray⟩ := by
  have : x.cps = l.toArray := by rw [← h, Array.toArray_toList]
  cases x; exact congrArg Str.mk this
-- the first place of a sign
theorem occ_skip (s sub : Str) (hi : Nat) (r : List Nat) : ∀ (l : List Nat) (free : Nat), (∀ i ∈ l, ¬ (i + sub.length ≤ hi ∧ subAt s sub i = true)) →
    forIn (l ++ r) ((#[] : Array Nat), free) (occBody s sub hi 1) = forIn r ((#[] : Array Nat), free) (occBody s sub hi 1)
  | [], _, _ => rfl
  | a :: l, free, h => by
    rw [List.cons_append, List.forIn_cons]
    unfold occBody
    rw [if_neg fun c => h a (List.mem_cons_self ..) ⟨c.1.2, c.2⟩]
    exact occ_skip s sub hi r l free fun i hi' => h i (List.mem_cons_of_mem _ hi')
theorem occ_full (s sub : Str) (hi : Nat) : ∀ (l : List Nat) (st : Array Nat × Nat), 1 ≤ st.fst.size → (forIn l st (occBody s sub hi 1)).run.fst = st.fst
  | [], _, _ => rfl
  | a :: l, st, h => by
    rw [List.forIn_cons]
    unfold occBody
    rw [if_neg fun c => Nat.lt_irrefl _ (Nat.lt_of_lt_of_le c.1.1.1 h)]
    exact occ_full s sub hi l st h
theorem occ_first {x : Str} {c : Nat} {pre post : List Nat} (h : x.cps.toList = pre ++ c :: post) (hn : c ∉ pre) : occurrences x ⟨#[c]⟩ 0 x.length 1 = [pre.length] := by
  have hl : x.length = pre.length + (post.length + 1) := by rw [list_len, h, List.length_append, List.length_cons]
  have er : List.range' 0 (x.length + 1 - 0) = List.range' 0 pre.length ++ (pre.length :: List.range' (pre.length + 1) (post.length + 1)) := by
    have q := List.range'_append_1 (s := 0) (m := pre.length) (n := post.length + 2)
    rw [Nat.zero_add] at q
    rw [show x.length + 1 - 0 = pre.length + (post.length + 2) by omega, ← q, List.range'_succ]
  rw [occ_eq, er, occ_skip]
  · rw [List.forIn_cons]
    have hc : pre.length + (⟨#[c]⟩ : Str).length ≤ x.length ∧ subAt x ⟨#[c]⟩ pre.length = true := (subAt_one x c _).mpr (by rw [h, List.getElem?_append_right (Nat.le_refl _), Nat.sub_self]; rfl)
    unfold occBody
    rw [if_pos ⟨⟨⟨by simp, Nat.zero_le _⟩, hc.1⟩, hc.2⟩]
    have := occ_full x ⟨#[c]⟩ x.length (List.range' (pre.length + 1) (post.length + 1)) ((#[] : Array Nat).push pre.length, pre.length + (⟨#[c]⟩ : Str).length) (by simp)
    show (forIn (List.range' (pre.length + 1) (post.length + 1)) ((#[] : Array Nat).push pre.length, pre.length + (⟨#[c]⟩ : Str).length) (occBody x ⟨#[c]⟩ x.length 1)).run.fst.toList = _
    rw [this]; rfl
  · intro i hi hc
    have h1 := (subAt_one x c i).mp hc
    have hil : i < pre.length := by have := List.mem_range'.mp hi; omega
    rw [h, List.getElem?_append_left hil] at h1
    exact hn (List.mem_of_getElem? h1)
theorem occ_no {x : Str} {c : Nat} (hn : c ∉ x.cps.toList) : occurrences x ⟨#[c]⟩ 0 x.length 1 = [] := by
  have h := found_one x c
  rw [decide_eq_false hn] at h
  simpa using h
theorem slash_is : Str.ofString "/" = ⟨#[47]⟩ := by decide +kernel
theorem part_no {x : Str} (hn : 47 ∉ x.cps.toList) : (Txt.partition x (Str.ofString "/")).1 = x ∧ (Txt.partition x (Str.ofString "/")).2.1 = Str.ofString "" ∧ (Txt.partition x (Str.ofString "/")).2.2 = Str.ofString "" := by
  unfold Txt.partition
  rw [slash_is, occ_no hn]
  exact ⟨rfl, (by decide +kernel : Str.empty = Str.ofString ""), (by decide +kernel : Str.empty = Str.ofString "")⟩
theorem part_at {x : Str} {pre post : List Nat} (h : x.cps.toList = pre ++ 47 :: post) (hn : 47 ∉ pre) : (Txt.partition x (Str.ofString "/")).1 = ⟨pre.toArray⟩ ∧ (Txt.partition x (Str.ofString "/")).2.1 = Str.ofString "/" ∧ (Txt.partition x (Str.ofString "/")).2.2 = ⟨post.toArray⟩ := by
  have hl : x.length = pre.length + (post.length + 1) := by rw [list_len, h, List.length_append, List.length_cons]
  have e0 : strSub x 0 pre.length = ⟨pre.toArray⟩ := by
    refine str_of_list ?_
    show (x.cps.extract 0 pre.length).toList = _
    rw [Array.toList_extract, h]
    simp
  have e1 : strSub x (pre.length + 1) x.length = ⟨post.toArray⟩ := by
    refine str_of_list ?_
    show (x.cps.extract (pre.length + 1) x.length).toList = _
    rw [Array.toList_extract, h, hl]
    simp
    rw [show pre.length + (post.length + 1) - (pre.length + 1) = post.length by omega, List.take_length]
  unfold Txt.partition
  rw [slash_is, occ_first h hn]
  exact ⟨e0, rfl, e1⟩
-- the first sign, the rest
theorem slice1 {x : Str} {c : Nat} {l : List Nat} (h : x.cps.toList = c :: l) : Txt.slice x none (some 1) = ⟨#[c]⟩ := by
  have e := slice_closes_toL (x := x) (j := 1) (by decide) (by rw [list_len, h, List.length_cons]; omega)
  rw [eq_of_beq e, h]; rfl
theorem sliceT {x : Str} {c : Nat} {l : List Nat} (h : x.cps.toList = c :: l) : Txt.slice x (some 1) none = ⟨l.toArray⟩ := by
  rw [slice_from_eq (x := x) (i := 1) (b := x.length) (by decide) (by rw [list_len, h, List.length_cons]; omega) rfl, list_len, h]
  have : (((c :: l).length : Int) - 1).toNat = l.length := by rw [List.length_cons]; omega
  rw [this]; simp
theorem dash_is : Str.ofString "-" = ⟨#[45]⟩ := by decide +kernel
theorem one_eq (c : Nat) : ((⟨#[c]⟩ : Str) == Str.ofString "-") = decide (c = 45) := by
  rw [dash_is]
  by_cases h : c = 45
  · subst h; decide +kernel
  · rw [decide_eq_false h, beq_eq_false_iff_ne]
    intro e; apply h
    have := congrArg (fun s : Str => s.cps.toList) e
    simpa using this
theorem asc_of {x : Str} {l : List Nat} (h : x.cps.toList = l) (ha : ∀ c ∈ l, c < 128) : x.cps.all (· < 128) = true := by
  rw [← Array.all_toList, h, List.all_eq_true]
  exact fun c hc => decide_eq_true (ha c hc)
theorem dig_asc {l : List Nat} (h : AllDigits l) : ∀ c ∈ l, c < 128 := fun c hc => by have := h c hc; omega
end
-- the texts that show makes are read again; the bad texts (plain)
section
open NumText
theorem y_shown {n : Int} (h : 40 ≤ n) : shF (Txt.mul (Str.ofString "y") n) = Txt.mul (Str.ofString "y") 37 ++ Str.ofString "..." := by
  have ey : Str.ofString "y" = ⟨#[121]⟩ := by decide +kernel
  rw [ey]
  have hl := mul_one_list 121 n
  have h37 := mul_one_list 121 37
  have hlen : (Txt.mul ⟨#[121]⟩ n).length = n.toNat := by rw [list_len, hl, List.length_replicate]
  unfold shF
  rw [if_neg (by rw [hlen]; omega)]
  congr 1
  have e := slice_closes_toL (x := Txt.mul ⟨#[121]⟩ n) (j := 37) (by decide) (by rw [hlen]; omega)
  rw [eq_of_beq e, hl]
  refine (str_of_list ?_).symm
  rw [h37]
  show _ = (List.drop 0 _).take 37
  rw [List.drop_zero, List.take_replicate]
  congr 1; omega
def okP (p : Str) : Prop := p ≠ Str.ofString "" ∧ p.length ≤ 2000 ∧ NumText.AllDigits p.cps.toList
theorem empty_list : (Str.ofString "").cps.toList = [] := by decide +kernel
theorem ne_empty {p : Str} {l : List Nat} (h : p.cps.toList = l) (hl : l ≠ []) : p ≠ Str.ofString "" := fun e => hl (by rw [← h, e]; exact empty_list)
theorem ok_cD {m : Nat} (h : m < 10 ^ 10) : okP ⟨(cD m).toArray⟩ := by
  refine ⟨ne_empty (l := cD m) rfl (cD_ne m), ?_, cD_digits m⟩
  rw [list_len]
  exact Nat.le_trans (cD_len h) (by decide)
theorem it_pos {m : Nat} {x : Str} (hx : x.cps.toList = cD m) (h : m < 10 ^ 10) : PySem.intText? x = some (m : Int) := by
  have hl : x.length ≤ 4300 := by rw [list_len, hx]; exact Nat.le_trans (cD_len h) (by decide)
  have e := intText_digits (x := x) (by rw [hx]; exact cD_digits m) (by rw [hx]; exact cD_ne m) hl
  rw [e, hx, cD_val]
theorem it_neg {m : Nat} {x : Str} (hx : x.cps.toList = 45 :: cD m) (h : m < 10 ^ 10) : PySem.intText? x = some (-(m : Int)) := by
  have hl : x.length ≤ 4300 := by rw [list_len, hx, List.length_cons]; exact Nat.le_trans (Nat.succ_le_succ (cD_len h)) (by decide)
  have e := intText_neg (x := x) hx (cD_digits m) (cD_ne m) hl
  rw [e, cD_val]
theorem no_slash {m : Nat} : 47 ∉ cD m := fun h => by have := cD_digits m _ h; omega
theorem no_slash2 {m : Nat} : 47 ∉ 45 :: cD m := fun h => by
  rcases List.mem_cons.mp h with h | h
  · cases h
  · exact no_slash h
theorem cD_asc {m : Nat} {x : Str} (hx : x.cps.toList = cD m) : x.cps.all (· < 128) = true := asc_of hx (dig_asc (cD_digits m))
theorem cD_cons (m : Nat) : ∃ c l, cD m = c :: l ∧ c ≠ 45 := by
  cases e : cD m with
  | nil => exact absurd e (cD_ne m)
  | cons c l => exact ⟨c, l, rfl, fun h => by have := cD_digits m c (by rw [e]; exact List.mem_cons_self ..); omega⟩
theorem dash_no {m : Nat} {x : Str} (hx : x.cps.toList = cD m) : (Txt.slice x none (some 1) == Str.ofString "-") = false := by
  obtain ⟨c, l, e, hc⟩ := cD_cons m
  rw [slice1 (hx.trans e), one_eq, decide_eq_false hc]
theorem dash_yes {l : List Nat} {x : Str} (hx : x.cps.toList = 45 :: l) : (Txt.slice x none (some 1) == Str.ofString "-") = true := by
  rw [slice1 hx, one_eq, decide_eq_true rfl]
theorem nat_of {x : Int} (h : 0 ≤ x) : ∃ m : Nat, x = (m : Int) := ⟨x.toNat, by omega⟩
theorem neg_of {x : Int} (h : ¬ 0 ≤ x) : ∃ m : Nat, x = -((m + 1 : Nat) : Int) := ⟨(-x - 1).toNat, by omega⟩
theorem sN_le {m : Nat} {x : Str} (hx : x.cps.toList = cD m) (h : m < 10 ^ 10) : x.length ≤ 10 := by rw [list_len, hx]; exact cD_len h
theorem sN_le2 {m : Nat} {x : Str} (hx : x.cps.toList = 45 :: cD m) (h : m < 10 ^ 10) : x.length ≤ 11 := by rw [list_len, hx, List.length_cons]; exact Nat.succ_le_succ (cD_len h)
end
-- plain: two tuples sorted, the lesser and the greater
def lexB (x1 y1 x2 y2 : Int) : Bool := decide (x1 < x2) || (x1 == x2 && decide (y1 < y2))
theorem lex_cases (x1 y1 x2 y2 : Int) : (lexB x1 y1 x2 y2 = true ∧ lexB x2 y2 x1 y1 = false) ∨ (lexB x1 y1 x2 y2 = false ∧ lexB x2 y2 x1 y1 = true) ∨ (lexB x1 y1 x2 y2 = false ∧ lexB x2 y2 x1 y1 = false ∧ x1 = x2 ∧ y1 = y2) := by
  unfold lexB
  rcases Int.lt_trichotomy x1 x2 with h | h | h
  · left; simp; omega
  · subst h
    rcases Int.lt_trichotomy y1 y2 with h | h | h
    · left; simp; omega
    · right; right; subst h; simp
    · right; left; simp; omega
  · right; left; simp; omega
def srtL {α : Type} (x1 y1 x2 y2 : Int) (p q : α) : List α := if lexB x2 y2 x1 y1 = true then [q, p] else [p, q]
theorem srt_comm {α : Type} {x1 y1 x2 y2 : Int} {p q : α} (h : x1 = x2 → y1 = y2 → p = q) : srtL x1 y1 x2 y2 p q = srtL x2 y2 x1 y1 q p := by
  unfold srtL
  rcases lex_cases x1 y1 x2 y2 with ⟨a, b⟩ | ⟨a, b⟩ | ⟨a, b, c, d⟩
  · rw [a, b]; rfl
  · rw [a, b]; rfl
  · rw [a, b, h c d]
end
section
-- a list comprehension with a test, by an invariant (over LCt.CompRestT of KE.KLcTest)
theorem comp_indT {prog : Program} {w : World} {A : Around} {s : Shared} {h₀ : Heap} {L : Addr} {m : Str → Option Value} {env : Env} {ct elt : Expr} {x : Str} {scope : Scope} {cl : List (Str × Addr)} {S : List (Addr × Obj) → Prop} {Pv : Nat → Value → Prop} {Fin : List Value → List (Addr × Obj) → Prop} {n : Nat} (J : Nat → List Value → List (Addr × Obj) → Prop)
    (turn : ∀ i v I oI C oC D m₂ h tk (E' : Value → Shared → Prop) ys news, i < n → J i ys news → Pv i v → LCg.NsObj oC m₂ → m₂ x = some v → Fr h₀ L h m → News h₀ L h ((I, oI) :: (C, oC) :: (D, LCg.lst ys) :: news) → LCg.Off3 I C D news → ((@Ne Nat I C) ∧ (@Ne Nat I D) ∧ (@Ne Nat C D)) →
      wpAny (model prog w) A (isTrue ct (compEnvC scope cl C env) (eval ct (compEnvC scope cl C env))) (fun ok s' => if ok = true then
        wpAny (model prog w) A (eval elt (compEnvC scope cl C env)) (LCg.CompEnd h₀ L m { s with heap := h, toks := tk } I oI C oC D (LCg.lst ys) S (fun y news' => J (i + 1) (ys ++ [y]) news')) E' s'
        else LCg.CompEnd h₀ L m { s with heap := h, toks := tk } I oI C oC D (LCg.lst ys) S (fun _ news' => J (i + 1) ys news') Value.none s') E' { s with heap := h, toks := tk })
    (fin : ∀ ys news, J n ys news → Fin ys news) :
    ∀ k i ys news, i + k = n → J i ys news → LCt.CompRestT prog w A h₀ L m env ct elt x scope cl s S Pv Fin k i ys news := by
  intro k
  induction k with
  | zero =>
    intro i ys news hk hJ
    have : i = n := by omega
    subst this
    exact LCt.CompRestT.zero (fin ys news hJ)
  | succ k ih =>
    intro i ys news hk hJ
    refine LCt.CompRestT.succ fun v I oI C oC D m₂ h tk E' hP hC hx F N off ne => ?_
    refine wpAny_mono (turn i v I oI C oC D m₂ h tk E' ys news (by omega) hJ hP hC hx F N off ne) (fun ok s' h₁ => ?_) fun _ _ e => e
    cases ok with
    | true =>
      refine wpAny_mono (h₁ : wpAny _ _ _ _ _ _) (fun y s₂ h₂ => ?_) fun _ _ e => e
      refine hide_goal fun G9 k9 => ?_
      obtain ⟨h', tk', news', e, F', N', off', hS, r⟩ := h₂
      refine k9 ?_
      clear k9
      exact ⟨h', tk', news', e, F', N', off', hS, ih (i + 1) (ys ++ [y]) news' (by omega) r⟩
    | false =>
      refine hide_goal fun G9 k9 => ?_
      rw [if_neg (by decide)] at h₁
      obtain ⟨h', tk', news', e, F', N', off', hS, r⟩ := h₁
      refine k9 ?_
      clear k9
      exact ⟨h', tk', news', e, F', N', off', hS, ih (i + 1) ys news' (by omega) r⟩
-- [elt for x in text if ct]: a list comprehension over a text, with a test
open PyProof.Rows.LCg PyProof.Rows.LCt in
def SrcTS (prog : Program) (w : World) (A : Around) (h₀ : Heap) (L : Addr) (m : Str → Option Value) (env : Env) (ct elt : Expr) (x : Str) (scope : Scope) (cl : List (Str × Addr)) (Fin : Shared → List Value → List (Addr × Obj) → Prop) (xv : Value) (s₁ : Shared) : Prop :=
  ∃ (tx : Str) (t : Tok) (news : List (Addr × Obj)), xv = .str tx t ∧ A.handled = none ∧ Fr h₀ L s₁.heap m ∧ News h₀ L s₁.heap news ∧ tx.cps.all (· < 128) = true ∧ tx.cps.size ≤ sizeLine ∧
    ∀ g : Heap, CompRestT prog w A h₀ L m env ct elt x scope cl { s₁ with heap := g } (fun _ => True) (SignAt tx) (Fin { s₁ with heap := g }) tx.cps.size 0 [] news
open PyProof.Rows.LCg PyProof.Rows.LCt in
theorem ListComp_TS {prog : Program} {w : World} {A : Around} {E : Value → Shared → Prop} {s : Shared} {h₀ : Heap} {L : Addr} {m : Str → Option Value} {env : Env} {ct elt iter : Expr} {x : Str} {px : Pos} {scope : Scope} {cl : List (Str × Addr)} {pos : Pos} {Q : Value → Shared → Prop} (_F₀ : Fr h₀ L s.heap m)
    (hclos : closureFor scope env = pure cl) (hcell : ∀ y ∈ scope.names, y.2 ≠ .cell) (hkind : scope.kind = .function)
    (hnames : ∀ y ∈ scope.names, y.2 = .local → scope.names.lookup y.1 = some .local) (hx : scope.names.lookup x = some .local)
    (h : wpAny (model prog w) A (eval iter env) (SrcTS prog w A h₀ L m env ct elt x scope cl (fun s₂ => FinE h₀ L m s₂ Q)) E s)
    (hs : ∀ x, foldedSetIterable iter env x = pure x := by intro _; rfl) :
    wpAny (model prog w) A (eval (.ListComp elt [⟨.Name x px, iter, [ct], 0⟩] scope pos) env) Q E s := by
  rw [eval_ListComp]
  refine wpAny_comprehension_free (use := none) rfl hs hclos hkind hnames (wpAny_mono h (fun xv s₁ h₁ => ?_) fun _ _ e => e)
  refine hide_goal fun G9 k9 => ?_
  obtain ⟨tx, t, news, rfl, hh, F, N, ha, hsz, R⟩ := h₁
  refine k9 ?_
  clear k9
  refine wpAny_pyIter_ascii ha ?_
  have up : ∀ (q : Obj) b o, s₁.heap.get? b = some o → (s₁.heap.push q).get? b = some o := fun q b o e => Heap.get?_push_of_some _ e
  refine block_T (S := fun _ => True) (Walks.strAscii hh s₁.heap.objs.size tx t) hsz (fun i h st => by obtain ⟨o, e, _⟩ := st; exact ⟨o, e⟩) (fun i h h' o nw st e e' _ _ _ => by obtain ⟨o', e9, r⟩ := st; rw [e] at e9; cases e9; exact ⟨o, e', r⟩) hcell hkind hx ⟨_, Heap.get?_push_size _ rfl, rfl, rfl⟩ (fun b hb => ?_)
    (F.keeps (up _)) (N.grown (up _)) (Nat.ne_of_lt F.ns.lt) (next_is_new F) (fun p hp => Nat.ne_of_lt (Heap.lt_size (N p hp).1)) trivial (R _) ?_
  · rw [List.mem_singleton.mp hb]
    show s₁.heap.objs.size < (s₁.heap.push _).objs.size
    rw [Heap.size_push]; exact Nat.lt_succ_self _
  · intro D C h tk m' ys news' F' N' o1 hn hC₀ hD₀ hCL hDL hCD offC fin
    refine ⟨m', hn, fun h'' hs'' => fin D h'' tk (F'.change hs'' hCL hC₀) (fun p hp => ?_) o1⟩
    refine ⟨hs''.extBut _ _ ?_ (N' p hp).1, (N' p hp).2⟩
    rcases List.mem_cons.mp hp with rfl | hp
    · exact Ne.symm hCD
    · exact offC p hp
-- [elt for x in range(..)] whose x is a cell of the comprehension's own (an inner comprehension closes over it)
def Off4 (I C X D : Addr) (l : List (Addr × Obj)) : Prop := ∀ p ∈ l, (@Ne Nat p.1 I) ∧ (@Ne Nat p.1 C) ∧ (@Ne Nat p.1 X) ∧ (@Ne Nat p.1 D)
def CompEndC (h₀ : Heap) (L : Addr) (m : Str → Option Value) (s₁ : Shared) (I : Addr) (oI : Obj) (C : Addr) (oC : Obj) (X : Addr) (oX : Obj) (D : Addr) (oD : Obj) (rest : Value → List (Addr × Obj) → Prop) (y : Value) (s₂ : Shared) : Prop :=
  ∃ h' tk news', s₂ = { s₁ with heap := h', toks := tk } ∧ Fr h₀ L h' m ∧ News h₀ L h' ((I, oI) :: (C, oC) :: (X, oX) :: (D, oD) :: news') ∧ Off4 I C X D news' ∧ rest y news'
theorem comp_endC {h₀ : Heap} {L I C X D : Addr} {m : Str → Option Value} {s₁ : Shared} {oI oC oX oD : Obj} {rest : Value → List (Addr × Obj) → Prop} {y : Value} {h' : Heap} {tk : Nat} {all : List (Addr × Obj)}
    (F : Fr h₀ L h' m) (N : News h₀ L h' all) (news' : List (Addr × Obj)) (sub : ∀ p ∈ (I, oI) :: (C, oC) :: (X, oX) :: (D, oD) :: news', p ∈ all) (off : Off4 I C X D news') (r : rest y news') :
    CompEndC h₀ L m s₁ I oI C oC X oX D oD rest y { s₁ with heap := h', toks := tk } := ⟨h', tk, news', rfl, F, fun p hp => N p (sub p hp), off, r⟩
def cellNone : Obj := { cls := .type "cell", data := .cell none }
open PyProof.Rows.LCg in
def SrcC (prog : Program) (w : World) (A : Around) (h₀ : Heap) (L : Addr) (m : Str → Option Value) (env : Env) (elt : Expr) (x : Str) (scope : Scope) (cl : List (Str × Addr)) (Q : Value → Shared → Prop) (xv : Value) (s₁ : Shared) : Prop :=
  ∃ (r : Addr) (a b : Int) (t u v : Tok) (n : Nat) (news : List (Addr × Obj)), xv = .ref r ∧ A.handled = none ∧ Fr h₀ L s₁.heap m ∧ News h₀ L s₁.heap news ∧ IsRange s₁.heap r a b 1 t u v ∧ Builtin.Range.small a b 1 = true ∧ Builtin.Range.rangeSize a b 1 = ((n : Nat) : Int) ∧ n ≤ sizeLine ∧
    ∃ (J : Nat → List Value → List (Addr × Obj) → Prop), J 0 [] news ∧
      (∀ i v I oI C oC X oX D h tk (E' : Value → Shared → Prop) ys nx, i < n → J i ys nx → (∃ t, v = .int (a + (i : Int)) t) → oX.data = .cell (some v) → Fr h₀ L h m → News h₀ L h ((I, oI) :: (C, oC) :: (X, oX) :: (D, lst ys) :: nx) → Off4 I C X D nx → ((@Ne Nat I C) ∧ (@Ne Nat I X) ∧ (@Ne Nat I D) ∧ (@Ne Nat C X) ∧ (@Ne Nat C D) ∧ (@Ne Nat X D)) →
        wpAny (model prog w) A (eval elt (compEnvC scope ((x, X) :: cl) C env)) (CompEndC h₀ L m { s₁ with heap := h, toks := tk } I oI C oC X oX D (lst ys) (fun y nx' => J (i + 1) (ys ++ [y]) nx')) E' { s₁ with heap := h, toks := tk }) ∧
      (∀ ys nx, J n ys nx → ∀ D h tk, Fr h₀ L h m → News h₀ L h ((D, lst ys) :: nx) → Off1 D nx → Q (.ref D) { s₁ with heap := h, toks := tk })

open PyProof.Rows.LCg in
theorem blockC {prog : Program} {w : World} {A : Around} {E : Value → Shared → Prop} {h₀ : Heap} {L : Addr} {m : Str → Option Value} {env : Env} {elt iter : Expr} {x : Str} {px : Pos} {scope : Scope} {cl : List (Str × Addr)} {pos : Pos} {s₂ : Shared} {I : Addr} {n : Nat} {a : Int} {news : List (Addr × Obj)}
    {RR : Value → Addr → Result → Shared → Prop} (J : Nat → List Value → List (Addr × Obj) → Prop)
    (hh : A.handled = none) (hsz : n ≤ sizeLine) (hone : ∀ (k : Nat) (acc : List (Str × Addr)), cellsFrom k scope.names acc = (x, k) :: acc) (hpush : ∀ h : Heap, pushCells h scope.names = h.push cellNone) (hkind : scope.kind = .function) (hx : (relabel scope env).names.lookup x = some .cell)
    (hst : IsRangeIter s₂.heap I (a + ((0 : Nat) : Nat) * 1) ((n : Int) - ((0 : Nat) : Nat)) 1) (hIlt : I < s₂.heap.objs.size)
    (F : Fr h₀ L s₂.heap m) (N : News h₀ L s₂.heap news) (hIL : L ≠ I) (hI₀ : h₀.get? I = none) (off : ∀ p ∈ news, p.1 ≠ I) (hJ : J 0 [] news)
    (turn : ∀ i v I oI C oC X oX D h tk (E' : Value → Shared → Prop) ys nx, i < n → J i ys nx → (∃ t, v = .int (a + (i : Int)) t) → oX.data = .cell (some v) → Fr h₀ L h m → News h₀ L h ((I, oI) :: (C, oC) :: (X, oX) :: (D, lst ys) :: nx) → Off4 I C X D nx → ((@Ne Nat I C) ∧ (@Ne Nat I X) ∧ (@Ne Nat I D) ∧ (@Ne Nat C X) ∧ (@Ne Nat C D) ∧ (@Ne Nat X D)) →
      wpAny (model prog w) A (eval elt (compEnvC scope ((x, X) :: cl) C env)) (CompEndC h₀ L m { s₂ with heap := h, toks := tk } I oI C oC X oX D (lst ys) (fun y nx' => J (i + 1) (ys ++ [y]) nx')) E' { s₂ with heap := h, toks := tk })
    (hRR : ∀ D C h tk m' ys nx, Fr h₀ L h m → News h₀ L h ((D, lst ys) :: nx) → Off1 D nx → h.Ns C m' → h₀.get? C = none → h₀.get? D = none → C ≠ L → D ≠ L → C ≠ D → (∀ p ∈ nx, p.1 ≠ C) → J n ys nx → RR (.ref D) C (.ok .next) { s₂ with heap := h, toks := tk }) :
    wpAny (model prog w) A (newList []) (fun acc s₃ => wpAny (model prog w) A (newFunctionEnv scope env.globals cl [] env.qual none .none (some env)) (fun cenv s₄ =>
      codeAny (model prog w) A (.compStart (.ListComp elt [⟨.Name x px, iter, [], 0⟩] scope pos) 0 (.ref I) acc { cenv with scope := relabel scope env }) (RR acc cenv.locals) s₄) E s₃) E s₂ := by
  have W := range_walks (prog := prog) (w := w) (I := I) hh a n
  refine wpAny_newObj_type ?_
  refine hide_goal fun G9 k9 => ?_
  obtain ⟨D, hD⟩ : ∃ D, D = s₂.heap.objs.size := ⟨_, rfl⟩
  obtain ⟨H, hH⟩ : ∃ H, H = s₂.heap.push { cls := .type "list", dict := none, data := .seq ([] : List Value).toArray } := ⟨_, rfl⟩
  refine k9 ?_
  clear k9
  rw [← hH, ← hD]
  simp only [newFunctionEnv, Option.isSome_some, if_true]
  refine wpAny_bind (wpAny_alloc ?_)
  refine wpAny_bind (wpAny_layCells _ (fun name kind cells => by cases hkc : kind == NameKind.cell <;> simp [hkc]) _ _ _ _ ?_)
  refine hide_goal fun G9 k9 => ?_
  obtain ⟨C, hC⟩ : ∃ C, C = H.objs.size := ⟨_, rfl⟩
  obtain ⟨X, hX⟩ : ∃ X, X = C + 1 := ⟨_, rfl⟩
  obtain ⟨H2, hH2⟩ : ∃ H2, H2 = H.push { cls := .type "dict", data := .dict #[] } := ⟨_, rfl⟩
  have hXs : H2.objs.size = X := by rw [hH2, Heap.size_push, hX, hC]
  refine k9 ?_
  clear k9
  dsimp only
  rw [← hH2, hXs, hone X cl, hpush H2, ← hC]
  rw [List.forIn_nil]
  refine wpAny_bind (wpAny_pure (wpAny_pure ?_))
  refine hide_goal fun G9 k9 => ?_
  have hCD : C = D + 1 := by rw [hC, hH, Heap.size_push, hD]
  obtain ⟨h₁, hh₁⟩ : ∃ h₁, h₁ = H2.push cellNone := ⟨_, rfl⟩
  refine k9 ?_
  clear k9
  rw [← hh₁]
  have up : ∀ b o, s₂.heap.get? b = some o → b ≠ C ∧ b ≠ X ∧ b ≠ D ∧ h₁.get? b = some o := fun b o e => by
    have h1 : b < D := hD ▸ Heap.lt_size e
    have h2 : b ≠ C := by rw [hCD]; exact Nat.ne_of_lt (Nat.lt_succ_of_lt h1)
    have h3 : b ≠ X := by rw [hX, hCD]; exact Nat.ne_of_lt (Nat.lt_succ_of_lt (Nat.lt_succ_of_lt h1))
    refine ⟨h2, h3, Nat.ne_of_lt h1, ?_⟩
    rw [hh₁, hH2, hH]
    exact Heap.get?_push_of_some _ (Heap.get?_push_of_some _ (Heap.get?_push_of_some _ e))
  have hDC : D ≠ C := by rw [hCD]; exact Nat.ne_of_lt (Nat.lt_succ_self _)
  have hDX : D ≠ X := by rw [hX, hCD]; exact Nat.ne_of_lt (Nat.lt_succ_of_lt (Nat.lt_succ_self _))
  have hCX : C ≠ X := by rw [hX]; exact Nat.ne_of_lt (Nat.lt_succ_self _)
  have hacc : h₁.get? D = some (lst []) := by
    rw [hh₁, hH2, hH, hD]
    exact Heap.get?_push_of_some _ (Heap.get?_push_of_some _ (Heap.get?_push_size _ rfl))
  have hcell : h₁.get? X = some cellNone := by rw [hh₁, ← hXs]; exact Heap.get?_push_size _ rfl
  have hns₁ : h₁.Ns C (fun _ => none) := by
    rw [hh₁, hH2, hC]
    exact (Heap.Ns.new H (.type "dict")).keeps fun b o e => Heap.get?_push_of_some _ e
  have none₀ : ∀ b, D ≤ b → h₀.get? b = none := fun b hb => by
    cases e : h₀.get? b with
    | none => rfl
    | some o => have h1 := Heap.lt_size (F.keep b o e); rw [← hD] at h1; exact absurd h1 (Nat.not_lt.mpr hb)
  have hD₀ := none₀ D (Nat.le_refl _)
  have hC₀ := none₀ C (by rw [hCD]; exact Nat.le_succ _)
  have hX₀ := none₀ X (by rw [hX, hCD]; exact Nat.le_succ_of_le (Nat.le_succ _))
  have hLlt : L < D := hD ▸ F.ns.lt
  have hDL : D ≠ L := (Nat.ne_of_lt hLlt).symm
  have hCL : C ≠ L := by rw [hCD]; exact (Nat.ne_of_lt (Nat.lt_succ_of_lt hLlt)).symm
  have hXL : X ≠ L := by rw [hX, hCD]; exact (Nat.ne_of_lt (Nat.lt_succ_of_lt (Nat.lt_succ_of_lt hLlt))).symm
  have hID : I ≠ D := Nat.ne_of_lt (hD ▸ hIlt)
  have hIC : I ≠ C := by rw [hCD]; exact Nat.ne_of_lt (Nat.lt_succ_of_lt (hD ▸ hIlt))
  have hIX : I ≠ X := by rw [hX, hCD]; exact Nat.ne_of_lt (Nat.lt_succ_of_lt (Nat.lt_succ_of_lt (hD ▸ hIlt)))
  have hst₁ : IsRangeIter h₁ I (a + ((0 : Nat) : Nat) * 1) ((n : Int) - ((0 : Nat) : Nat)) 1 := W.frame 0 _ _ hst fun b _ o e => (up b o e).2.2.2
  have loop : ∀ s₃ : Shared, s₃ = { s₂ with heap := h₁ } →
      codeAny (model prog w) A (.compLoop (.ListComp elt [⟨.Name x px, iter, [], 0⟩] scope pos) 0 (.ref I) (.ref D) (compEnvC scope ((x, X) :: cl) C env)) (RR (.ref D) C) s₃ := by
    rintro s₃ rfl
    refine codeAny_compLoop_tests
      (fun k s' => ∃ h' tk i ys m' nx oX v₀, s' = { s₂ with heap := h', toks := tk } ∧ i ≤ n ∧ k = n + 1 - i ∧ ys.length = i ∧ IsRangeIter h' I (a + (i : Nat) * 1) ((n : Int) - (i : Nat)) 1 ∧ Fr h₀ L h' m ∧ h'.Ns C m' ∧ h'.get? X = some oX ∧ oX.data = .cell v₀ ∧ News h₀ L h' ((D, lst ys) :: nx) ∧ Off4 I C X D nx ∧ J i ys nx) ?_ (n + 1)
      ⟨h₁, _, 0, [], _, news, _, none, rfl, Nat.zero_le _, rfl, rfl, hst₁, F.keeps fun b o e => (up b o e).2.2.2, hns₁, hcell, rfl, fun p hp => ?_, fun p hp => ⟨off p hp, (up _ _ (N p hp).1).1, (up _ _ (N p hp).1).2.1, (up _ _ (N p hp).1).2.2.1⟩, hJ⟩
    · rintro k s' ⟨h', tk, i, ys, m', nx, oX, v₀, rfl, hi, rfl, hyl, hst', F', hn', hX', hdX, N', off', hJ'⟩
      by_cases hlt : i < n
      · refine W.item i _ _ _ hlt hst' fun v h₂ tk₂ hPv hst₂ hk₂ => ?_
        have kI : ∀ b o, b ≠ I → h'.get? b = some o → h₂.get? b = some o := fun b o hb e => hk₂ b o (by simpa using hb) e
        refine wpAny_assign_Name (wpAny_storeName_cell (c := X) (v₀ := v₀) (by simp [compEnvC, relabel, hkind]) hx (by simp [compEnvC, List.lookup_cons]) ⟨oX, kI _ _ hIX.symm hX', hdX⟩ (fun h₃ hv₃ hs₃ => ?_))
        obtain ⟨oX₃, hX₃, hdX₃⟩ := hv₃
        refine wpAny_tests_nil ?_
        simp only [if_true]
        have hst₃ : IsRangeIter h₃ I (a + ((i + 1 : Nat) : Nat) * 1) ((n : Int) - ((i + 1 : Nat) : Nat)) 1 := W.frame (i + 1) _ _ hst₂ fun b hb o e => hs₃.extBut b o (fun q => hIX ((List.mem_singleton.mp hb).symm.trans q)) e
        have heI : h₃.get? I = some _ := hst₃
        have hn₃ := (hn'.at' fun o e => kI C o hIC.symm e).sameBut hs₃ hCX
        obtain ⟨oC, heC, hoC⟩ := ns_obj hn₃
        have F₃ : Fr h₀ L h₃ m := (fr_but F' hk₂ hIL hI₀).change hs₃ hXL hX₀
        have N₂ : News h₀ L h₂ ((D, lst ys) :: nx) := news_but N' hk₂ (fcons hID.symm (fun p hp => (off' p hp).1))
        have N₃ : News h₀ L h₃ ((D, lst ys) :: nx) := fun p hp => ⟨hs₃.extBut _ _ ((fcons hDX (fun p hp => (off' p hp).2.2.1) : ∀ p ∈ (D, lst ys) :: nx, p.1 ≠ X) p hp) (N₂ p hp).1, (N₂ p hp).2⟩
        refine wpAny_mono (turn i v I _ C oC X oX₃ D h₃ _ _ ys nx hlt hJ' hPv hdX₃ F₃ (fcons (⟨heI, hIL.symm, hI₀⟩) (fcons (⟨heC, hCL, hC₀⟩) (fcons (⟨hX₃, hXL, hX₀⟩) N₃))) off' ⟨hIC, hIX, hID, hCX, hDC.symm, hDX.symm⟩) (fun y s₄ h₄ => ?_) fun _ _ e => e
        refine hide_goal fun G9 k9 => ?_
        obtain ⟨h₄, tk₄, nx₄, rfl, F₄, N₄, off₄, J₄⟩ := h₄
        have zI := (N₄ _ (List.mem_cons_self ..)).1
        have zC := (N₄ _ (List.mem_cons_of_mem _ (List.mem_cons_self ..))).1
        have zX := (N₄ _ (List.mem_cons_of_mem _ (List.mem_cons_of_mem _ (List.mem_cons_self ..)))).1
        have zD := (N₄ _ (List.mem_cons_of_mem _ (List.mem_cons_of_mem _ (List.mem_cons_of_mem _ (List.mem_cons_self ..))))).1
        have N₄' : News h₀ L h₄ nx₄ := fun p hp => N₄ p (List.mem_cons_of_mem _ (List.mem_cons_of_mem _ (List.mem_cons_of_mem _ (List.mem_cons_of_mem _ hp))))
        have hst₄ : IsRangeIter h₄ I (a + ((i + 1 : Nat) : Nat) * 1) ((n : Int) - ((i + 1 : Nat) : Nat)) 1 := zI
        refine k9 ?_
        clear k9
        refine append_at (hsz := by show ys.toArray.size ≤ sizeLine; rw [List.size_toArray, hyl]; exact Nat.le_trans hi hsz) zD fun h₅ hs₅ hD₅ => ?_
        refine ⟨n + 1 - (i + 1), by omega, h₅, tk₄, i + 1, ys ++ [y], _, nx₄, oX₃, _, rfl, hlt, rfl, by rw [List.length_append, List.length_singleton, hyl], W.frame (i + 1) _ _ hst₄ fun b hb o e => hs₅.extBut b o (fun q => hID ((List.mem_singleton.mp hb).symm.trans q)) e, F₄.change hs₅ hDL hD₀,
          (hoC.ns zC).sameBut hs₅ hDC.symm, hs₅.extBut _ _ hDX.symm zX, hdX₃, fcons (⟨hD₅.trans (congrArg some (lst_snoc ys y)), hDL, hD₀⟩) (fun p hp => ⟨hs₅.extBut _ _ (off₄ p hp).2.2.2 (N₄' p hp).1, (N₄' p hp).2⟩), off₄, J₄⟩
      · obtain rfl : i = n := Nat.le_antisymm hi (Nat.not_lt.mp hlt)
        refine W.done _ _ _ hst' fun h₂ tk₂ hk₂ => ?_
        exact hRR _ _ h₂ tk₂ _ ys nx (fr_but F' hk₂ hIL hI₀) (news_but N' hk₂ (fcons hID.symm (fun p hp => (off' p hp).1))) (Off3.of fun p hp => ⟨(off' p hp).1, (off' p hp).2.1, (off' p hp).2.2.2⟩).one
          (hn'.at' fun o e => hk₂ _ o (by simpa using hIC.symm) e) hC₀ hD₀ hCL hDL hDC.symm (fun p hp => (off' p hp).2.1) hJ'
    · rcases List.mem_cons.mp hp with rfl | hp
      · exact ⟨hacc, hDL, hD₀⟩
      · exact ⟨(up _ _ (N p hp).1).2.2.2, (N p hp).2⟩
  exact codeAny_compStart_list (loop _ rfl) (W.self 0 _ _ _ hst₁ (loop _ rfl))

open PyProof.Rows.LCg in
theorem ListComp_C {prog : Program} {w : World} {A : Around} {E : Value → Shared → Prop} {s : Shared} {h₀ : Heap} {L : Addr} {m : Str → Option Value} {env : Env} {elt iter : Expr} {x : Str} {px : Pos} {scope : Scope} {cl : List (Str × Addr)} {pos : Pos} {Q : Value → Shared → Prop} (_F₀ : Fr h₀ L s.heap m)
    (hclos : closureFor scope env = pure cl) (hone : ∀ (k : Nat) (acc : List (Str × Addr)), cellsFrom k scope.names acc = (x, k) :: acc) (hpush : ∀ h : Heap, pushCells h scope.names = h.push cellNone) (hkind : scope.kind = .function)
    (hnames : ∀ y ∈ scope.names, y.2 = .local → scope.names.lookup y.1 = some .local) (hx : (relabel scope env).names.lookup x = some .cell)
    (h : wpAny (model prog w) A (eval iter env) (SrcC prog w A h₀ L m env elt x scope cl Q) E s)
    (hs : ∀ x, foldedSetIterable iter env x = pure x := by intro _; rfl) :
    wpAny (model prog w) A (eval (.ListComp elt [⟨.Name x px, iter, [], 0⟩] scope pos) env) Q E s := by
  rw [eval_ListComp]
  refine wpAny_comprehension_free (use := none) rfl hs hclos hkind hnames (wpAny_mono h (fun xv s₁ h₁ => ?_) fun _ _ e => e)
  refine hide_goal fun G9 k9 => ?_
  obtain ⟨r, a, b, t, u, v, n, news, rfl, hh, F, N, hr, hsm, hn, hsz, R⟩ := h₁
  refine k9 ?_
  clear k9
  refine wpAny_pyIter_range hr hsm ?_
  refine hide_goal fun G9 k9 => ?_
  obtain ⟨J, hJ, turn, fin⟩ := R
  refine k9 ?_
  clear k9
  refine blockC (RR := fun acc C => compPost (model prog w) A E none Q acc C) J hh hsz hone hpush hkind hx (by show IsRangeIter _ _ _ _ _; rw [hn]; simpa using Heap.get?_push_size _ rfl) (by show s₁.heap.objs.size < (s₁.heap.push _).objs.size; rw [Heap.size_push]; exact Nat.lt_succ_self _)
    (F.keeps fun _ _ e => Heap.get?_push_of_some _ e) (N.grown fun _ _ e => Heap.get?_push_of_some _ e) (Nat.ne_of_lt F.ns.lt) (next_is_new F) (fun p hp => Nat.ne_of_lt (Heap.lt_size (N p hp).1)) hJ turn ?_
  intro D C h tk m' ys nx F' N' o1 hn hC₀ hD₀ hCL hDL hCD offC fj
  refine ⟨m', hn, fun h'' hs'' => fin ys nx fj D h'' tk (F'.change hs'' hCL hC₀) (fun p hp => ?_) o1⟩
  refine ⟨hs''.extBut _ _ ?_ (N' p hp).1, (N' p hp).2⟩
  rcases List.mem_cons.mp hp with rfl | hp
  · exact Ne.symm hCD
  · exact offC p hp
-- except X: .. (X a builtin, no name) in a def with cells (envOfC): a raise of a class of the program's own under X is caught
theorem caught_V {prog : Program} {w : World} {A₀ : Around} {E : Value → Shared → Prop} {s' : Shared} {h₀ h : Heap} {outer : List Env} {L a e t : Addr} {m : Str → Option Value} {name : Str} {scope : Scope} {cd : Value}
    {vs : List Value} {b₀ : Stmt} {suite : List Stmt} {pos np : Pos} {rest : List ExceptHandler} {Q : Flow → Shared → Prop} {news : List (Addr × Obj)} {KF : Frag} {C : Addr} {c : Value}
    {p : Program} {loose : List Str} {mean : ExcName → Option Value} {mg mb : Str → Option Value} {x : Str}
    (K : Below A₀ h₀ outer h₀) (F : Fr h₀ L h m) (hsm : h.UpToSlots s'.heap) (R : RaisedK h₀ (envOfC name scope L a cd :: outer) e (.ref C) t vs news s'.heap)
    (X : KF.In h₀) (T : Top p loose mean mg mb h₀) (ex : nsIn KF mainGlobals x = some none) (hv : bootBuiltins x = some c) (hn : x ≠ "__name__") (q : exmOne KF (.ref C) c = some true)
    (k : ∀ h' (E' : Value → Shared → Prop), Fr h₀ L h' m → News h₀ L h' news →
      wpAny (model prog w) ((A₀.deeper (envOfC name scope L a cd)).mark (some (.ref e))) (execs (b₀ :: suite) (envOfC name scope L a cd)) Q E' { s' with heap := h' })
    (hk : scope.kind = .function := by rfl) (hx : (envOfC name scope L a cd).kindOf x = some .globalImplicit := by rfl) (hd : (x == ("__debug__" : Str)) = false := by decide) :
    wpAny (model prog w) (A₀.deeper (envOfC name scope L a cd)) (noteFrame (.ref e) (envOfC name scope L a cd))
      (fun _ s₂ => wpAny (model prog w) (A₀.deeper (envOfC name scope L a cd)) (setFlight (.ref e) none) (fun _ s₃ =>
        wpAny (model prog w) (A₀.deeper (envOfC name scope L a cd)) (handleBy (.ref e) (envOfC name scope L a cd) (.ExceptHandler (some (.Name x np)) none (b₀ :: suite) pos :: rest)) Q E s₃) E s₂) E s' := by
  refine hide_goal fun G9 k9 => ?_
  obtain ⟨⟨B, hB, hl, hfl, hnew⟩, htup⟩ := R
  have hL : B.get? L = none := by
    obtain ⟨_, ⟨L', _, hf, hn', _⟩, _⟩ := hfl.2.2.1
    obtain rfl : L = L' := Option.some.inj hf
    exact hn'
  refine k9 ?_
  clear k9
  refine wpAny_looks_onW (Around.frames_deeper K.stack) rfl hfl fun h₄ y₄ u₄ => ?_
  refine wpAny_landsW y₄ fun h₅ y₅ u₅ => ?_
  have hsm₅ := hsm.trans (u₄.trans u₅)
  have F₅ := F.of_stays (flyingW_base hB y₅).1 hsm₅
  obtain ⟨ob, hob, hobc⟩ := y₅.there
  have LT : Looks (model prog w) h₅ (typeOf (.ref e)) (.ref C) := by
    rw [← hobc]; exact (Looks.ld hob).andThen .now
  refine wpAny_handleBy_cons (codeAny_handlers_test (nameX_B F₅ X (topRead_of T) ex hv hn ?_ hk hx hd)) (by intro q; cases q)
  refine (exm_one (X.keeps F₅.keep) LT q).here ?_
  refine codeAny_handlers_suite ?_
  refine lands_againW y₅ fun h₆ y₆ u₆ => ?_
  have z₆ := flyingW_base hB y₆
  have F₆ := F.of_stays z₆.1 (hsm₅.trans u₆)
  have N₆ : News h₀ L h₆ news := fun q hq => ⟨y₆.1 _ _ (hl q hq).1, (fun z => by have := (hl q hq).1; rw [z, hL] at this; cases this), (hl q hq).2⟩
  exact k h₆ _ F₆ N₆
end
end Mine
open Mine
local macro_rules | `(tactic| walk_at "i5") => `(tactic| (intro r' D' t' u' c' h' tk' rE' rN' rD' F' N' l1; (try k_lt l1)))
local macro_rules | `(tactic| walk_at "i6") => `(tactic| (intro D' t' u' c' h' tk' F' N' l1; (try k_lt l1)))
local macro_rules | `(tactic| walk_at "i7") => `(tactic| ((with_reducible rename Fr _ _ _ _ => lsF); (with_reducible rename News _ _ _ _ => lsN); (refine slice_strN_sn (hsz := ?hsz) (s := ⟨_, _, _, _, _⟩) lsF lsN ?_); (case hsz => (rw [sizeLine_eq]; omega)); intro _ _ _ _ _))
local macro_rules | `(tactic| walk_at "i8") => `(tactic| (intro D' _ _ _ _ _ F' N' l1; (try k_lt l1)))
local macro_rules | `(tactic| walk_at "i9") => `(tactic| (intro u' h' tk' zl' F' N'))
local macro_rules | `(tactic| walk_at "i10") => `(tactic| (intro D' h' F' N' l1; (try k_lt l1)))
local macro_rules | `(tactic| walk_at "i11") => `(tactic| ((rename Fr _ _ _ _ => lF'); (with_unfolding_all refine' For_turns lF' ?_; k_whole)))
local macro_rules | `(tactic| walk_at "i12") => `(tactic| (intro tk9))
namespace Mine
section
theorem eq_sb {prog : Program} {w : World} {A : Around} {E : Value → Shared → Prop} {s : Shared} {b : Bool} {x y : Str} {t u : Tok} {Q : Value → Shared → Prop} (h : (x == y) = b) (hq : Q (.bool b) s) :
    wpAny (model prog w) A (compareOp .Eq (.str x t) (.str y u)) Q E s := PyProof.Rows.eq_str (by rw [h]; exact hq)
theorem ne_sb {prog : Program} {w : World} {A : Around} {E : Value → Shared → Prop} {s : Shared} {b : Bool} {x y : Str} {t u : Tok} {Q : Value → Shared → Prop} (h : (x == y) = b) (hq : Q (.bool (!b)) s) :
    wpAny (model prog w) A (compareOp .NotEq (.str x t) (.str y u)) Q E s := PyProof.Rows.ne_str (by rw [bne, h]; exact hq)
def cntX (l : List Nat) : Nat := (l.filter fun c => !(decide (48 ≤ c) && decide (c ≤ 57))).length
theorem cntX_snoc (l : List Nat) (c : Nat) : cntX (l ++ [c]) = cntX l + (if 48 ≤ c ∧ c ≤ 57 then 0 else 1) := by
  unfold cntX
  rw [List.filter_append, List.length_append]
  by_cases h : 48 ≤ c ∧ c ≤ 57
  · rw [if_pos h]; simp [h.1, h.2]
  · rw [if_neg h]
    have e : (!(decide (48 ≤ c) && decide (c ≤ 57))) = true := by
      by_cases h1 : 48 ≤ c
      · have h2 : ¬ c ≤ 57 := fun h2 => h ⟨h1, h2⟩
        simp [h1, h2]
      · simp [h1]
    simp only [List.filter_cons, e, if_true, List.filter_nil, List.length_singleton]
theorem cntX_zero {l : List Nat} : cntX l = 0 ↔ NumText.AllDigits l := by
  unfold cntX NumText.AllDigits
  rw [List.length_eq_zero_iff, List.filter_eq_nil_iff]
  constructor
  · intro h c hc; have := h c hc; simpa using this
  · intro h c hc; have := h c hc; simpa using this
theorem t2_rat {n : Int} {t u : Tok} {c : Nat} : T2 n 1 t u c = RatO (Rat.divInt n 1) t u c := by
  unfold RatO; rw [r_one_num, r_one_den]; rfl
theorem news_t2 {h₀ h : Heap} {L D : Addr} {n : Int} {t u : Tok} {c : Nat} {nx : List (Addr × Obj)} (N : News h₀ L h ((D, T2 n 1 t u c) :: nx)) : News h₀ L h ((D, RatO (Rat.divInt n 1) t u c) :: nx) := by rw [← t2_rat]; exact N
theorem lt_of9 {l : List (Addr × Obj)} {D : Addr} (h : ∀ p ∈ l, p.1 < D) (p : Addr × Obj) (hp : p ∈ l) : p.1 < D := h p hp
theorem news_one {h₀ h : Heap} {L : Addr} {p : Addr × Obj} {all news : List (Addr × Obj)} (N : News h₀ L h (p :: all)) (hs : ∀ q ∈ news, q ∈ p :: all) : News h₀ L h (p :: news) := fcons (N p (List.mem_cons_self ..)) (fun q hq => N q (hs q hq))
theorem led_split {h₀ h : Heap} {L D : Addr} {vs : List Value} {n : Nat} {news : List (Addr × Obj)} {PS : List Str} (hA : All2 (fun (v : Value) (p : Str) => ∃ t, v = .str p t) vs PS) (N : News h₀ L h ((D, PySem.W.listOf vs.toArray n) :: news)) :
    ∃ (vs' : List Value) (LX : List (Addr × Obj)), LX = (D, PySem.W.listOf vs'.toArray n) :: news ∧ All2 (fun (v : Value) (p : Str) => ∃ t, v = .str p t) vs' PS ∧ News h₀ L h LX := ⟨vs, _, rfl, hA, N⟩
theorem fr_name9 {h₀ h : Heap} {L : Addr} {m : Str → Option Value} (F : Fr h₀ L h m) : ∃ m', m' = m ∧ Fr h₀ L h m' := ⟨m, rfl, F⟩
theorem fr_at9 {m m' : Str → Option Value} (e : m' = m) (x : Str) (v : Value) (h : m x = some v) : m' x = some v := by rw [e]; exact h
theorem lt1 (a b : Nat) : ([a] < [b]) ↔ a < b := by
  rw [List.cons_lt_cons_iff]
  simp
theorem dig_lo {prog : Program} {w : World} {A : Around} {E : Value → Shared → Prop} {s : Shared} {t u : Tok} {c : Nat} {Q : Value → Shared → Prop} (h : Q (.bool (decide (48 ≤ c))) s) : wpAny (model prog w) A (compareOp .LtE (.str (Str.ofString "0") t) (.str ⟨#[c]⟩ u)) Q E s := by
  refine PySem.P.le_str ?_
  have e : (!(decide ((⟨#[c]⟩ : Str).cps.toList < (Str.ofString "0").cps.toList))) = decide (48 ≤ c) := by
    have z : (Str.ofString "0").cps.toList = [48] := by decide +kernel
    rw [z]
    show (!(decide ([c] < [48]))) = _
    rw [decide_eq_decide.mpr (lt1 c 48)]
    by_cases h : 48 ≤ c
    · rw [decide_eq_true h, decide_eq_false (by omega)]; rfl
    · rw [decide_eq_false h, decide_eq_true (by omega)]; rfl
  rw [e]; exact h
theorem dig_hi {prog : Program} {w : World} {A : Around} {E : Value → Shared → Prop} {s : Shared} {t u : Tok} {c : Nat} {Q : Value → Shared → Prop} (h : Q (.bool (decide (c ≤ 57))) s) : wpAny (model prog w) A (compareOp .LtE (.str ⟨#[c]⟩ t) (.str (Str.ofString "9") u)) Q E s := by
  refine PySem.P.le_str ?_
  have e : (!(decide ((Str.ofString "9").cps.toList < (⟨#[c]⟩ : Str).cps.toList))) = decide (c ≤ 57) := by
    have z : (Str.ofString "9").cps.toList = [57] := by decide +kernel
    rw [z]
    show (!(decide ([57] < [c]))) = _
    rw [decide_eq_decide.mpr (lt1 57 c)]
    by_cases h : c ≤ 57
    · rw [decide_eq_true h, decide_eq_false (by omega)]; rfl
    · rw [decide_eq_false h, decide_eq_true (by omega)]; rfl
  rw [e]; exact h
section
theorem words5 : True := by
  k_with_none
  k_with "ne9" => (refine neN ?_; (try dsimp only); first | with_reducible assumption | exact Ne.symm (by with_reducible assumption) | exact pj0 (by with_reducible assumption) | exact pj1 (by with_reducible assumption) | exact pj2 (by with_reducible assumption) | exact pj3 (by with_reducible assumption) | exact pj4 (by with_reducible assumption) | exact pj5 (by with_reducible assumption) | exact pj6 (by with_reducible assumption) | exact pj7 (by with_reducible assumption) | exact pj8 (by with_reducible assumption) | exact pj9 (by with_reducible assumption) | exact pj10 (by with_reducible assumption) | exact pj11 (by with_reducible assumption) | exact Ne.symm (pj0 (by with_reducible assumption)) | exact Ne.symm (pj1 (by with_reducible assumption)) | exact Ne.symm (pj2 (by with_reducible assumption)) | exact Ne.symm (pj3 (by with_reducible assumption)) | exact Ne.symm (pj4 (by with_reducible assumption)) | exact Ne.symm (pj5 (by with_reducible assumption)) | exact Ne.symm (pj6 (by with_reducible assumption)) | exact Ne.symm (pj7 (by with_reducible assumption)) | exact Ne.symm (pj8 (by with_reducible assumption)) | exact Ne.symm (pj9 (by with_reducible assumption)) | exact Ne.symm (pj10 (by with_reducible assumption)) | exact Ne.symm (pj11 (by with_reducible assumption)) | exact ad1 | exact ad2 | exact ad3 | exact ad4 | exact ad5 | exact ad6 | exact ad7 | exact ad8 | exact Ne.symm ad1 | exact Ne.symm ad2 | exact Ne.symm ad3 | exact Ne.symm ad4 | exact Ne.symm ad5 | exact Ne.symm ad6 | exact Ne.symm ad7 | exact Ne.symm ad8 | exact Nat.ne_of_lt (by with_reducible assumption) | exact Nat.ne_of_gt (by with_reducible assumption) | exact Nat.ne_of_lt (pj0 (by with_reducible assumption)) | exact Nat.ne_of_lt (pj1 (by with_reducible assumption)) | exact Nat.ne_of_lt (pj2 (by with_reducible assumption)) | exact Nat.ne_of_lt (pj3 (by with_reducible assumption)) | exact Nat.ne_of_lt (pj4 (by with_reducible assumption)) | exact Nat.ne_of_lt (pj5 (by with_reducible assumption)) | exact Nat.ne_of_lt (pj6 (by with_reducible assumption)) | exact Nat.ne_of_lt (pj7 (by with_reducible assumption)) | exact Nat.ne_of_lt (pj8 (by with_reducible assumption)) | exact Nat.ne_of_lt (pj9 (by with_reducible assumption)) | exact Nat.ne_of_lt (pj10 (by with_reducible assumption)) | exact Nat.ne_of_lt (pj11 (by with_reducible assumption)) | exact Nat.ne_of_gt (pj0 (by with_reducible assumption)) | exact Nat.ne_of_gt (pj1 (by with_reducible assumption)) | exact Nat.ne_of_gt (pj2 (by with_reducible assumption)) | exact Nat.ne_of_gt (pj3 (by with_reducible assumption)) | exact Nat.ne_of_gt (pj4 (by with_reducible assumption)) | exact Nat.ne_of_gt (pj5 (by with_reducible assumption)) | exact Nat.ne_of_gt (pj6 (by with_reducible assumption)) | exact Nat.ne_of_gt (pj7 (by with_reducible assumption)) | exact Nat.ne_of_gt (pj8 (by with_reducible assumption)) | exact Nat.ne_of_gt (pj9 (by with_reducible assumption)) | exact Nat.ne_of_gt (pj10 (by with_reducible assumption)) | exact Nat.ne_of_gt (pj11 (by with_reducible assumption)) | omega)
  k_with "k_ne" => (walk_at "ne9")
  k_with "k_in" => (refine' in_of ?z21fF ?z21fX; (case z21fF => k_asm); (case z21fX => k_asm))
  k_with "hat9" => (first | exact News.get (by k_asm) (by k_mem) | exact Fr.keep (by k_asm) _ _ (by with_reducible assumption) | exact Tk.get (by k_asm) (by k_asm) (by with_reducible assumption) (by intro p9 hp9; first | exact hp9 | exact absurd hp9 List.not_mem_nil | (repeat (first | exact hp9 | refine List.mem_cons_of_mem _ ?_))) | exact Frag.In.keeps (by k_asm) (Fr.keep (by k_asm)) _ _ (by k_is))
  k_with "ktr_units" => ((try simp only [units_under_make, units_in1, units_deeper, Around.mark_units, units_caller]); (try dsimp only [ktrTop]); first | exact un1 (by with_reducible assumption) (Nat.le_of_ble_eq_true rfl) | exact un2 (by with_reducible assumption) (Nat.le_of_ble_eq_true rfl) | exact un3 (by with_reducible assumption) (Nat.le_of_ble_eq_true rfl) | (have hcL9 := cLine_is; omega))
  k_with "eval Name" => (k_here; k_dflt (refine' nameX_L ?z22k1 ?z22k2 ?_ ?z22k3 ?z22k4; (case z22k1 => k_asm); (case z22k2 => first | exact rfl | assumption); (case z22k3 => rfl); (case z22k4 => rfl); k_whole))
  k_with "hat9" => (first | exact News.get (by k_asm) (by k_mem) | exact Fr.keep (by k_asm) _ _ (by with_reducible assumption) | exact Tk.get (by k_asm) (by k_asm) (by with_reducible assumption) (by intro p9 hp9; first | exact hp9 | exact absurd hp9 List.not_mem_nil | (repeat (first | exact hp9 | refine List.mem_cons_of_mem _ ?_))) | exact Frag.In.keeps (by k_asm) (Fr.keep (by k_asm)) _ _ (by k_is))
  k_with "bits_by_make" => (with_reducible assumption)
  k_with "ktr_units" => ((try simp only [units_under_make, units_in1, units_deeper, Around.mark_units, units_caller]); (try dsimp only [ktrTop]); first | exact un1 (by with_reducible assumption) (Nat.le_of_ble_eq_true rfl) | exact un2 (by with_reducible assumption) (Nat.le_of_ble_eq_true rfl) | exact un3 (by with_reducible assumption) (Nat.le_of_ble_eq_true rfl) | (have hcL9 := cLine_is; omega))
  k_with "call ref" => (k_here; (with_reducible show wpAny _ _ (call (Value.ref 69) [Value.int _ _, Value.int _ _]) _ _ _); k_dflt (refine' frac_use ?z23k1 ?z23k2 ?z23k3 ?z23k4 ?z23k5 ?z23k6 ?z23k7 ?z23k8 ?z23k9 ?z23k10 ?z23k11 ?z23k12 ?z23k13 ?_; (case z23k1 => k_asm); (case z23k2 => k_asm); (case z23k3 => k_asm); (case z23k4 => k_asm); (case z23k5 => k_asm); (case z23k6 => first | exact rfl | assumption); (case z23k7 => first | exact Nat.le_of_ble_eq_true rfl | ktr_room); (case z23k8 => first | exact Nat.le_of_ble_eq_true rfl | ktr_units); (case z23k10 => bits_by_make); (case z23k11 => bits_by_make); (case z23k12 => decide); (case z23k13 => decide); (case z23k9 => first | exact nzden _ | omega | ((try k_fmods); omega) | (refine nzmul ?_ ?_ <;> first | exact nzden _ | omega)); k_whole); walk_at "i5"; (try k_sweep))
  k_with "call ref" => (k_here; (with_reducible show wpAny _ _ (call (Value.ref 69) [Value.int _ _, Value.int 1 _]) _ _ _); k_dflt (refine' frac_one ?z24k1 ?z24k2 ?z24k3 ?z24k4 ?z24k5 ?z24k6 ?z24k7 ?z24k8 ?z24k10 ?z24k12 ?_; (case z24k1 => k_asm); (case z24k2 => k_asm); (case z24k3 => k_asm); (case z24k4 => k_asm); (case z24k5 => k_asm); (case z24k6 => first | exact rfl | assumption); (case z24k7 => first | exact Nat.le_of_ble_eq_true rfl | ktr_room); (case z24k8 => first | exact Nat.le_of_ble_eq_true rfl | ktr_units); (case z24k10 => bits_by_make); (case z24k12 => decide); k_whole); walk_at "i6"; (try k_sweep))
  k_with "call ref" => (k_here; (with_reducible show wpAny _ _ (call (Value.ref 69) [Value.int _ _]) _ _ _); k_dflt (refine' frac_dflt ?z25k1 ?z25k2 ?z25k3 ?z25k4 ?z25k5 ?z25k6 ?z25k7 ?z25k8 ?z25k10 ?z25k12 ?_; (case z25k1 => k_asm); (case z25k2 => k_asm); (case z25k3 => k_asm); (case z25k4 => k_asm); (case z25k5 => k_asm); (case z25k6 => first | exact rfl | assumption); (case z25k7 => first | exact Nat.le_of_ble_eq_true rfl | ktr_room); (case z25k8 => first | exact Nat.le_of_ble_eq_true rfl | ktr_units); (case z25k10 => bits_by_make); (case z25k12 => decide); k_whole); walk_at "i6"; (try k_sweep))
  k_with "call builtin:len" => (k_here; (with_reducible show wpAny _ _ (call (Value.builtin "len") [Value.str _ _]) _ _ _); (refine P.len_str ?z26hLn ?_); (case z26hLn => omega))
  k_with "subscriptTail" => (k_here; (with_reducible show wpAny _ _ (subscriptTail _ (Expr.Slice none (some _) none _) (Value.str _ _) (Value.ref _)) _ _ _); walk_at "i4")
  k_with "subscriptTail" => (k_here; (with_reducible show wpAny _ _ (subscriptTail _ (Expr.Slice (some _) none none _) (Value.str _ _) (Value.ref _)) _ _ _); walk_at "i7")
  k_with "call builtin:str.partition" => (k_here; (with_reducible show wpAny _ _ (call (Value.builtin "str.partition") [Value.str _ _, Value.str _ _]) _ _ _); (refine KXpa.partition (by k_asm) (by k_asm) (by decide) (by with_reducible assumption) (by with_reducible assumption) (by with_reducible assumption) (by rw [sizeLine_eq]; omega) ?_); walk_at "i8")
  k_with "eval ListComp" => (k_here; k_dflt (refine ListComp_TS (_F₀ := by k_asm) (by with_unfolding_all rfl) (by decide) (by rfl) (by decide) (by rfl) ?_))
  k_with "SrcTS" => (refine Hold.out ?_)
  k_with "pyIter ref" => (refine Hold.out ?_)
  k_with "call ref" => (k_here; (with_reducible show wpAny _ _ (call (Value.ref 41) [Value.str _ _]) _ _ _); k_dflt (refine' shown_s ?z27k1 ?z27k2 ?z27k3 ?z27k4 ?z27k5 ?z27k6 ?z27hT ?z27k7 ?z27k8 ?_; (case z27k1 => k_asm); (case z27k2 => k_asm); (case z27k3 => k_asm); (case z27k4 => k_asm); (case z27k5 => k_asm); (case z27k6 => first | exact rfl | assumption); (case z27k7 => first | exact Nat.le_of_ble_eq_true rfl | ktr_room); (case z27k8 => first | exact Nat.le_of_ble_eq_true rfl | ktr_units); (case z27hT => first | omega | decide +kernel); k_whole); walk_at "i9"; (try k_sweep))
  k_with "binaryOp Add ref ref" => (k_here; (with_reducible show wpAny _ _ (binaryOp Operator.Add (Value.ref _) (Value.ref _)) _ _ _); k_dflt (refine' add_k ?z28F ?z28N ?z28a ?z28b ?z28z ?_; (case z28F => k_asm); (case z28N => k_asm); (case z28a => (walk_at "hat9")); (case z28b => (walk_at "hat9")); (case z28z => ((try simp only [List.length_cons, List.length_nil, List.length_reverse]); omega)); k_whole); walk_at "i10"; (try k_sweep))
  k_with "exec For Name BinOp cons nil" => (k_here; walk_at "i11")
  k_with "compareOp Eq str str" => (k_here; (with_reducible show wpAny _ _ (compareOp CmpOp.Eq (Value.str _ _) (Value.str _ _)) _ _ _); first | (refine eq_sb (b := true) (by first | with_reducible assumption | decide +kernel) ?_) | (refine eq_sb (b := false) (by first | with_reducible assumption | decide +kernel) ?_))
  k_with "compareOp NotEq str str" => (k_here; (with_reducible show wpAny _ _ (compareOp CmpOp.NotEq (Value.str _ _) (Value.str _ _)) _ _ _); first | (refine ne_sb (b := true) (by first | with_reducible assumption | decide +kernel) ?_) | (refine ne_sb (b := false) (by first | with_reducible assumption | decide +kernel) ?_))
  k_with "compareOp LtE str str" => (k_here; (with_reducible show wpAny _ _ (compareOp CmpOp.LtE (Value.str _ _) (Value.str _ _)) _ _ _); first | (refine dig_lo ?_) | (refine dig_hi ?_))
  k_with "call builtin:len" => (k_here; (with_reducible show wpAny _ _ (call (Value.builtin "len") [Value.ref _]) _ _ _); k_dflt (refine' lst_lenT ?z29k1 ?z29k0 ?z29k2 ?z29kS ?z29k3 ?_; (case z29k1 => k_asm); (case z29k0 => k_asm); (case z29k2 => with_reducible assumption); (case z29kS => exact (by intro p9 hp9; first | exact hp9 | exact absurd hp9 List.not_mem_nil | (repeat (first | exact hp9 | refine List.mem_cons_of_mem _ ?_)))); (case z29k3 => ((try simp only [List.length_append, List.length_cons, List.length_nil]); omega)); k_whole); walk_at "i12"; (try simp only [List.length_append, List.length_cons, List.length_nil]))
  trivial
theorem read_p0 {w : World} {p : Program} {loose : List Str} {mean : ExcName → Option Value} {mg mb : Str → Option Value} {dp un : Nat} {gd : Option (List Code)} {cn : Str} {cs : Scope} {a : Addr} {ccd : Value} {cl : List (Str × Addr)} {outer : List Env} {A₀ : Around} {base h₀ : Heap} {L : Addr} {m : Str → Option Value} {news : List (Addr × Obj)} {s : Shared} {Q E : Value → Shared → Prop} {tx U : Str} {n d : Int} {t4 : Tok}
    (B : Below A₀ base outer h₀) (F : Fr h₀ L s.heap m) (X : (HD.K w.params).In h₀) (N : News h₀ L s.heap news) (T : Top p loose mean mg mb h₀) (hk : cs.kind = .function) (hT : tx.length ≤ 3000) (hU : U.length ≤ 3000) (hd : dp + 10 < recursionLimit) (hu : un + 300 < cLine)
    (e1 : (Txt.partition tx (Str.ofString "/")).1 = U) (e2 : (Txt.partition tx (Str.ofString "/")).2.1 = Str.ofString "") (e3 : (Txt.partition tx (Str.ofString "/")).2.2 = Str.ofString "")
    (hn : (Txt.slice U none (some 1) == Str.ofString "-") = false) (hasc : ∀ p ∈ [U], p.cps.all (· < 128) = true)
    (hok : (∀ p ∈ [U], okP p) → PySem.intText? U = some n ∧ U.length ≤ 640 ∧ Builtin.Int.intBits n ≤ 64 ∧ d = 1 ∧ Builtin.Int.intBits d ≤ 64)
    (hret : (∀ p ∈ [U], okP p) → d ≠ 0 → ∀ (D : Addr) (t t' : Tok) (c : Nat) (h' : Heap) (tk' : Nat), Fr h₀ L h' m → News h₀ L h' ((D, RatO (Rat.divInt n d) t t' c) :: news) → (∀ p ∈ news, p.1 ≠ D) → Q (.ref D) { s with heap := h', toks := tk' })
    (hE : (¬ (∀ p ∈ [U], okP p) ∨ d = 0) → ∀ (T9 : Str) (g : Heap) (e t : Addr) (u : Tok) (h' : Heap) (tk' : Nat), Fr h₀ L g m → g.UpToSlots h' → RaisedK base (envX cn cs L a ccd cl :: outer) e (.ref 24) t [.str T9 u] news h' → E (.ref e) { s with heap := h', toks := tk' }) :
    wpAny (model PySem.Challenge.rw_ui0509_08.row.prog w) (ktrTop dp un gd cn cs L a ccd cl outer) (call (.ref 166) [.str tx t4]) Q E s := by
  w_top off
  revert X; k_fill; intro X
  refine wpAny_call ?_
  k_dflt (refine' code_need news ?k1 ?k2 ?k3 ?k4 ?k5 ?kA ?kF ?kK ?k6 ?k7 ?k8 ?k9 ?kB ?kN ?_ ?c2 ?c3 ?c4 ?c5; (case kA => exact rfl); (case kF => exact rfl); (case kK => assumption); (case k1 => k_asm); (case k2 => k_asm); (case k3 => k_asm); (case k4 => k_asm); (case k5 => k_asm); (case k6 => k_is); (case k7 => k_is); (case k8 => ktr_room); (case k9 => first | exact BindsTo.of_eq rfl | exact binds_K (by k_in) rfl (by k_is) rfl rfl rfl); (case c5 => decide); (case kB => exact locs rfl); (case kN => exact fun _ h => h); (case c2 => exact rfl); (case c3 => exact rfl); (case c4 => exact rfl); k_whole; intro g' L' h' tk0 FG' F' N' B' X' T' hG'; (try dsimp only); (try k_fold))
  k_steps
  unfold Hold
  (rename Fr _ _ _ _ => F8)
  (rename News _ _ _ _ => N8)
  rename_i D9 h9 l9
  refine hide_goal fun G9 k9 => ?_
  obtain ⟨m9, em9, F9⟩ := fr_name9 F8
  have n_text := fr_at9 em9 (Str.ofString "text") _ (by rfl)
  have n_mark := fr_at9 em9 (Str.ofString "mark") _ (by rfl)
  have n_lower := fr_at9 em9 (Str.ofString "lower") _ (by rfl)
  have n_upper := fr_at9 em9 (Str.ofString "upper") _ (by rfl)
  clear em9 F8
  obtain ⟨vs9, LX9, eLX9, hAl, N9⟩ := led_split (PS := [U]) (by exact .cons ⟨_, rfl⟩ .nil) (news_one (news := news) N8 (by intro p9 hp9; first | ((repeat (first | exact hp9 | exact List.mem_append_left _ hp9 | exact List.mem_append_right _ hp9 | refine List.mem_cons_of_mem _ ?_)); done) | (simp only [List.mem_cons, List.mem_append]; simp only [hp9, true_or, or_true])))
  clear N8
  refine k9 ?_
  clear k9
  refine iter_listTurns rfl F9 N9 (by rw [eLX9]; exact List.mem_cons_self ..) rfl rfl (fun I lI => ?_)
  refine items_ind (fun i m' nx => (∀ p ∈ [U].take i, okP p) ∧ nx = LX9 ∧ m' (Str.ofString "text") = some (Value.str tx t4) ∧ (∃ t, m' (Str.ofString "mark") = some (Value.str (Str.ofString "") t)) ∧ (∃ t, m' (Str.ofString "lower") = some (Value.str (Str.ofString "") t)) ∧ (∃ t, m' (Str.ofString "upper") = some (Value.str U t))) ?turn ?done _ 0 _ _ rfl (Nat.zero_le _) ⟨(by rw [eLX9]; exact List.mem_cons_self ..), trivial⟩ (fun p hp => Nat.ne_of_lt (lI p hp)) ⟨(fun _ h => nomatch h), rfl, n_text, ⟨_, n_mark⟩, ⟨_, n_lower⟩, ⟨_, n_upper⟩⟩
  case turn =>
    intro i a v m' nx h tk o ha hS hI hJ hav Fm ho Nn
    refine hide_goal fun G9 k9 => ?_
    obtain ⟨hpre, rfl, q_text, ⟨tm, q_mark⟩, ⟨tl, q_lower⟩, ⟨tu, q_upper⟩⟩ := hJ
    obtain ⟨pt, hpt, tp, rfl⟩ := hAl.get (val_get ha hav)
    have hmem := List.mem_of_getElem? hpt
    have hptl : pt.length ≤ 3000 := (fcons hU (List.forall_mem_nil _) : ∀ p ∈ [U], p.length ≤ 3000) pt hmem
    have hasp := hasc pt hmem
    have hbad : ¬ okP pt → (¬ (∀ p ∈ [U], okP p) ∨ d = 0) := fun h => .inl fun k => h (k pt hmem)
    have hstep : okP pt → ∀ p ∈ [U].take (i + 1), okP p := fun h p hp => by
      rw [List.take_add_one, hpt] at hp
      rcases List.mem_append.mp hp with h1 | h1
      · exact hpre p h1
      · obtain rfl : p = pt := by simpa using h1
        exact h
    clear N9 F9 n_text n_mark n_lower n_upper hav ha hpt
    refine k9 ?_
    clear k9
    k_steps
    · exact hE (hbad fun k => k.1 (eq_of_beq (by assumption))) _ _ _ _ _ _ _ (by assumption) (by assumption) (raisedK_from (by assumption) fun p hp => List.mem_cons_of_mem _ (by rw [eLX9]; exact List.mem_cons_of_mem _ hp))
    · exact hE (hbad fun k => by have := k.2.1; omega) _ _ _ _ _ _ _ (by assumption) (by assumption) (raisedK_from (by assumption) fun p hp => List.mem_cons_of_mem _ (by rw [eLX9]; exact List.mem_cons_of_mem _ hp))
    unfold Hold
    (rename Fr _ _ _ _ => F7)
    (rename News _ _ _ _ => N7)
    refine hide_goal fun G9 k9 => ?_
    obtain ⟨LN, eLN⟩ : ∃ LN, LN = (I, o) :: nx := ⟨_, rfl⟩
    rw [← eLN] at N7
    refine k9 ?_
    clear k9
    refine ⟨_, _, _, rfl, rfl, F7, N7, hasp, (by show pt.length ≤ sizeLine; rw [sizeLine_eq]; omega), fun g9 => ?_⟩
    refine comp_indT (fun j ys nx' => nx' = LN ∧ ys.length = cntX (pt.cps.toList.take j)) ?turn2 ?fin2 _ 0 [] _ (Nat.zero_add _) ⟨rfl, rfl⟩
    case turn2 =>
      intro j v9 I9 oI9 C9 oC9 D8 m9 h tk9 E9 ys nx9 hj hJ9 hPv hC hx Fm9 Nn9 off ne
      refine hide_goal fun G9 k9 => ?_
      obtain ⟨e9, hys⟩ := hJ9
      obtain ⟨c, u9, hc, rfl⟩ := hPv
      have hst : cntX (pt.cps.toList.take (j + 1)) = cntX (pt.cps.toList.take j) + (if 48 ≤ c ∧ c ≤ 57 then 0 else 1) := by
        rw [← cntX_snoc, List.take_add_one, Array.getElem?_toList, hc]; rfl
      rw [e9] at Nn9 off
      clear Nn F7 N7
      refine k9 ?_
      clear k9
      k_steps
      all_goals (refine comp_end (by k_asm) (by k_asm) LN (fun _ h => h) off trivial ⟨rfl, ?_⟩)
      · rw [hst, if_pos ⟨by assumption, by assumption⟩]; exact hys
      · rw [hst, if_neg (fun k => absurd k.2 (by assumption)), List.length_append, hys]; rfl
      · rw [hst, if_neg (fun k => absurd k.1 (by assumption)), List.length_append, hys]; rfl
    case fin2 =>
      intro ys nx9 hJ9 D8 h tk9 Fm9 Nn9 off
      obtain ⟨e9, hys⟩ := hJ9
      rw [e9] at Nn9 off
      have hln : pt.cps.size = pt.cps.toList.length := (Array.length_toList).symm
      rw [hln, List.take_length] at hys
      clear F7 N7 Nn
      have hcl : cntX pt.cps.toList ≤ 3000 := Nat.le_trans (List.length_filter_le _ _) (by rw [← hln]; exact hptl)
      have tk0 : Tk g' ((D8, LCg.lst ys) :: LN) D8 (listOf ys.toArray ys.length) := .inl (List.mem_cons_self ..)
      k_steps
      · exact hE (hbad fun k => by have z := (cntX_zero (l := pt.cps.toList)).mpr k.2.2; omega) _ _ _ _ _ _ _ (by assumption) (by assumption) (raisedK_from (by assumption) fun p hp => List.mem_cons_of_mem _ (by rw [eLN]; exact List.mem_cons_of_mem _ (by rw [eLX9]; exact List.mem_cons_of_mem _ hp)))
      · have hne : (pt == Str.ofString "") = false := by assumption
        exact unr_end nx Fm9 Nn9 (List.mem_cons_of_mem _ (by rw [eLN]; exact List.mem_cons_self ..)) (fun p hp => List.mem_cons_of_mem _ (by rw [eLN]; exact List.mem_cons_of_mem _ hp)) hI ⟨hS, hstep ⟨fun e => by rw [e] at hne; exact absurd hne (by decide +kernel), by omega, cntX_zero.mp (by omega)⟩, rfl, (by exact q_text), ⟨_, (by exact q_mark)⟩, ⟨_, (by exact q_lower)⟩, ⟨_, (by exact q_upper)⟩⟩
  case done =>
    intro m3 nx3 h8 tk8 hJ Fm Nn
    refine hide_goal fun G9 k9 => ?_
    rw [List.length_map, hAl.length] at hJ
    obtain ⟨hall, rfl, q_text, ⟨tm, q_mark⟩, ⟨tl, q_lower⟩, ⟨tu, q_upper⟩⟩ := hJ
    rw [List.take_length] at hall
    have hk9 := hok hall
    obtain ⟨i1, i2, i3, rfl, i6⟩ := hk9
    clear N9 F9 n_text n_mark n_lower n_upper lI
    refine k9 ?_
    clear k9
    k_steps
    all_goals (try unfold Hold)
    refine leaveN_ (by k_asm) (by k_asm) ?_
    intro kF kN kR kD
    (try dsimp only)
    replace kN := news_t2 kN
    exact hret hall (by decide) _ _ _ _ _ _ kF (fcons (kN _ (List.mem_cons_self ..)) (fun p hp => kN p (List.mem_cons_of_mem _ (by rw [eLX9]; exact List.mem_cons_of_mem _ hp)))) (fun p hp => Nat.ne_of_lt (lt_of9 (l := nx3) (by assumption) p (by rw [eLX9]; exact List.mem_cons_of_mem _ hp)))
theorem read_ps {w : World} {p : Program} {loose : List Str} {mean : ExcName → Option Value} {mg mb : Str → Option Value} {dp un : Nat} {gd : Option (List Code)} {cn : Str} {cs : Scope} {a : Addr} {ccd : Value} {cl : List (Str × Addr)} {outer : List Env} {A₀ : Around} {base h₀ : Heap} {L : Addr} {m : Str → Option Value} {news : List (Addr × Obj)} {s : Shared} {Q E : Value → Shared → Prop} {tx U W : Str} {n d : Int} {t4 : Tok}
    (B : Below A₀ base outer h₀) (F : Fr h₀ L s.heap m) (X : (HD.K w.params).In h₀) (N : News h₀ L s.heap news) (T : Top p loose mean mg mb h₀) (hk : cs.kind = .function) (hT : tx.length ≤ 3000) (hU : U.length ≤ 3000) (hW : W.length ≤ 3000) (hd : dp + 10 < recursionLimit) (hu : un + 300 < cLine)
    (e1 : (Txt.partition tx (Str.ofString "/")).1 = U) (e2 : (Txt.partition tx (Str.ofString "/")).2.1 = Str.ofString "/") (e3 : (Txt.partition tx (Str.ofString "/")).2.2 = W)
    (hn : (Txt.slice U none (some 1) == Str.ofString "-") = false) (hasc : ∀ p ∈ [U, W], p.cps.all (· < 128) = true)
    (hok : (∀ p ∈ [U, W], okP p) → PySem.intText? U = some n ∧ U.length ≤ 640 ∧ Builtin.Int.intBits n ≤ 64 ∧ PySem.intText? W = some d ∧ W.length ≤ 640 ∧ Builtin.Int.intBits d ≤ 64)
    (hret : (∀ p ∈ [U, W], okP p) → d ≠ 0 → ∀ (D : Addr) (t t' : Tok) (c : Nat) (h' : Heap) (tk' : Nat), Fr h₀ L h' m → News h₀ L h' ((D, RatO (Rat.divInt n d) t t' c) :: news) → (∀ p ∈ news, p.1 ≠ D) → Q (.ref D) { s with heap := h', toks := tk' })
    (hE : (¬ (∀ p ∈ [U, W], okP p) ∨ d = 0) → ∀ (T9 : Str) (g : Heap) (e t : Addr) (u : Tok) (h' : Heap) (tk' : Nat), Fr h₀ L g m → g.UpToSlots h' → RaisedK base (envX cn cs L a ccd cl :: outer) e (.ref 24) t [.str T9 u] news h' → E (.ref e) { s with heap := h', toks := tk' }) :
    wpAny (model PySem.Challenge.rw_ui0509_08.row.prog w) (ktrTop dp un gd cn cs L a ccd cl outer) (call (.ref 166) [.str tx t4]) Q E s := by
  w_top off
  revert X; k_fill; intro X
  refine wpAny_call ?_
  k_dflt (refine' code_need news ?k1 ?k2 ?k3 ?k4 ?k5 ?kA ?kF ?kK ?k6 ?k7 ?k8 ?k9 ?kB ?kN ?_ ?c2 ?c3 ?c4 ?c5; (case kA => exact rfl); (case kF => exact rfl); (case kK => assumption); (case k1 => k_asm); (case k2 => k_asm); (case k3 => k_asm); (case k4 => k_asm); (case k5 => k_asm); (case k6 => k_is); (case k7 => k_is); (case k8 => ktr_room); (case k9 => first | exact BindsTo.of_eq rfl | exact binds_K (by k_in) rfl (by k_is) rfl rfl rfl); (case c5 => decide); (case kB => exact locs rfl); (case kN => exact fun _ h => h); (case c2 => exact rfl); (case c3 => exact rfl); (case c4 => exact rfl); k_whole; intro g' L' h' tk0 FG' F' N' B' X' T' hG'; (try dsimp only); (try k_fold))
  k_steps
  unfold Hold
  (rename Fr _ _ _ _ => F8)
  (rename News _ _ _ _ => N8)
  rename_i D9 h9 l9
  refine hide_goal fun G9 k9 => ?_
  obtain ⟨m9, em9, F9⟩ := fr_name9 F8
  have n_text := fr_at9 em9 (Str.ofString "text") _ (by rfl)
  have n_mark := fr_at9 em9 (Str.ofString "mark") _ (by rfl)
  have n_lower := fr_at9 em9 (Str.ofString "lower") _ (by rfl)
  have n_upper := fr_at9 em9 (Str.ofString "upper") _ (by rfl)
  clear em9 F8
  obtain ⟨vs9, LX9, eLX9, hAl, N9⟩ := led_split (PS := [U, W]) (by exact .cons ⟨_, rfl⟩ (.cons ⟨_, rfl⟩ .nil)) (news_one (news := news) N8 (by intro p9 hp9; first | ((repeat (first | exact hp9 | exact List.mem_append_left _ hp9 | exact List.mem_append_right _ hp9 | refine List.mem_cons_of_mem _ ?_)); done) | (simp only [List.mem_cons, List.mem_append]; simp only [hp9, true_or, or_true])))
  clear N8
  refine k9 ?_
  clear k9
  refine iter_listTurns rfl F9 N9 (by rw [eLX9]; exact List.mem_cons_self ..) rfl rfl (fun I lI => ?_)
  refine items_ind (fun i m' nx => (∀ p ∈ [U, W].take i, okP p) ∧ nx = LX9 ∧ m' (Str.ofString "text") = some (Value.str tx t4) ∧ (∃ t, m' (Str.ofString "mark") = some (Value.str (Str.ofString "/") t)) ∧ (∃ t, m' (Str.ofString "lower") = some (Value.str (W) t)) ∧ (∃ t, m' (Str.ofString "upper") = some (Value.str U t))) ?turn ?done _ 0 _ _ rfl (Nat.zero_le _) ⟨(by rw [eLX9]; exact List.mem_cons_self ..), trivial⟩ (fun p hp => Nat.ne_of_lt (lI p hp)) ⟨(fun _ h => nomatch h), rfl, n_text, ⟨_, n_mark⟩, ⟨_, n_lower⟩, ⟨_, n_upper⟩⟩
  case turn =>
    intro i a v m' nx h tk o ha hS hI hJ hav Fm ho Nn
    refine hide_goal fun G9 k9 => ?_
    obtain ⟨hpre, rfl, q_text, ⟨tm, q_mark⟩, ⟨tl, q_lower⟩, ⟨tu, q_upper⟩⟩ := hJ
    obtain ⟨pt, hpt, tp, rfl⟩ := hAl.get (val_get ha hav)
    have hmem := List.mem_of_getElem? hpt
    have hptl : pt.length ≤ 3000 := (fcons hU (fcons hW (List.forall_mem_nil _)) : ∀ p ∈ [U, W], p.length ≤ 3000) pt hmem
    have hasp := hasc pt hmem
    have hbad : ¬ okP pt → (¬ (∀ p ∈ [U, W], okP p) ∨ d = 0) := fun h => .inl fun k => h (k pt hmem)
    have hstep : okP pt → ∀ p ∈ [U, W].take (i + 1), okP p := fun h p hp => by
      rw [List.take_add_one, hpt] at hp
      rcases List.mem_append.mp hp with h1 | h1
      · exact hpre p h1
      · obtain rfl : p = pt := by simpa using h1
        exact h
    clear N9 F9 n_text n_mark n_lower n_upper hav ha hpt
    refine k9 ?_
    clear k9
    k_steps
    · exact hE (hbad fun k => k.1 (eq_of_beq (by assumption))) _ _ _ _ _ _ _ (by assumption) (by assumption) (raisedK_from (by assumption) fun p hp => List.mem_cons_of_mem _ (by rw [eLX9]; exact List.mem_cons_of_mem _ hp))
    · exact hE (hbad fun k => by have := k.2.1; omega) _ _ _ _ _ _ _ (by assumption) (by assumption) (raisedK_from (by assumption) fun p hp => List.mem_cons_of_mem _ (by rw [eLX9]; exact List.mem_cons_of_mem _ hp))
    unfold Hold
    (rename Fr _ _ _ _ => F7)
    (rename News _ _ _ _ => N7)
    refine hide_goal fun G9 k9 => ?_
    obtain ⟨LN, eLN⟩ : ∃ LN, LN = (I, o) :: nx := ⟨_, rfl⟩
    rw [← eLN] at N7
    refine k9 ?_
    clear k9
    refine ⟨_, _, _, rfl, rfl, F7, N7, hasp, (by show pt.length ≤ sizeLine; rw [sizeLine_eq]; omega), fun g9 => ?_⟩
    refine comp_indT (fun j ys nx' => nx' = LN ∧ ys.length = cntX (pt.cps.toList.take j)) ?turn2 ?fin2 _ 0 [] _ (Nat.zero_add _) ⟨rfl, rfl⟩
    case turn2 =>
      intro j v9 I9 oI9 C9 oC9 D8 m9 h tk9 E9 ys nx9 hj hJ9 hPv hC hx Fm9 Nn9 off ne
      refine hide_goal fun G9 k9 => ?_
      obtain ⟨e9, hys⟩ := hJ9
      obtain ⟨c, u9, hc, rfl⟩ := hPv
      have hst : cntX (pt.cps.toList.take (j + 1)) = cntX (pt.cps.toList.take j) + (if 48 ≤ c ∧ c ≤ 57 then 0 else 1) := by
        rw [← cntX_snoc, List.take_add_one, Array.getElem?_toList, hc]; rfl
      rw [e9] at Nn9 off
      clear Nn F7 N7
      refine k9 ?_
      clear k9
      k_steps
      all_goals (refine comp_end (by k_asm) (by k_asm) LN (fun _ h => h) off trivial ⟨rfl, ?_⟩)
      · rw [hst, if_pos ⟨by assumption, by assumption⟩]; exact hys
      · rw [hst, if_neg (fun k => absurd k.2 (by assumption)), List.length_append, hys]; rfl
      · rw [hst, if_neg (fun k => absurd k.1 (by assumption)), List.length_append, hys]; rfl
    case fin2 =>
      intro ys nx9 hJ9 D8 h tk9 Fm9 Nn9 off
      obtain ⟨e9, hys⟩ := hJ9
      rw [e9] at Nn9 off
      have hln : pt.cps.size = pt.cps.toList.length := (Array.length_toList).symm
      rw [hln, List.take_length] at hys
      clear F7 N7 Nn
      have hcl : cntX pt.cps.toList ≤ 3000 := Nat.le_trans (List.length_filter_le _ _) (by rw [← hln]; exact hptl)
      have tk0 : Tk g' ((D8, LCg.lst ys) :: LN) D8 (listOf ys.toArray ys.length) := .inl (List.mem_cons_self ..)
      k_steps
      · exact hE (hbad fun k => by have z := (cntX_zero (l := pt.cps.toList)).mpr k.2.2; omega) _ _ _ _ _ _ _ (by assumption) (by assumption) (raisedK_from (by assumption) fun p hp => List.mem_cons_of_mem _ (by rw [eLN]; exact List.mem_cons_of_mem _ (by rw [eLX9]; exact List.mem_cons_of_mem _ hp)))
      · have hne : (pt == Str.ofString "") = false := by assumption
        exact unr_end nx Fm9 Nn9 (List.mem_cons_of_mem _ (by rw [eLN]; exact List.mem_cons_self ..)) (fun p hp => List.mem_cons_of_mem _ (by rw [eLN]; exact List.mem_cons_of_mem _ hp)) hI ⟨hS, hstep ⟨fun e => by rw [e] at hne; exact absurd hne (by decide +kernel), by omega, cntX_zero.mp (by omega)⟩, rfl, (by exact q_text), ⟨_, (by exact q_mark)⟩, ⟨_, (by exact q_lower)⟩, ⟨_, (by exact q_upper)⟩⟩
  case done =>
    intro m3 nx3 h8 tk8 hJ Fm Nn
    refine hide_goal fun G9 k9 => ?_
    rw [List.length_map, hAl.length] at hJ
    obtain ⟨hall, rfl, q_text, ⟨tm, q_mark⟩, ⟨tl, q_lower⟩, ⟨tu, q_upper⟩⟩ := hJ
    rw [List.take_length] at hall
    have hk9 := hok hall
    obtain ⟨i1, i2, i3, i4, i5, i6⟩ := hk9
    clear N9 F9 n_text n_mark n_lower n_upper lI
    refine k9 ?_
    clear k9
    k_steps
    all_goals (try unfold Hold)
    all_goals (try exact hE (.inr (by assumption)) _ _ _ _ _ _ _ (by assumption) (by assumption) (raisedK_from (by assumption) fun p hp => by rw [eLX9]; exact List.mem_cons_of_mem _ hp))
    all_goals (try rename _ = Rat.divInt n d => eR9)
    all_goals (try subst eR9)
    refine leaveN_ (by k_asm) (by k_asm) ?_
    intro kF kN kR kD
    (try dsimp only)
    exact hret hall (by assumption) _ _ _ _ _ _ kF (fcons (kN _ (List.mem_cons_self ..)) (fun p hp => kN p (List.mem_cons_of_mem _ (by rw [eLX9]; exact List.mem_cons_of_mem _ hp)))) (fun p hp => Nat.ne_of_lt (lt_of9 (l := nx3) (by assumption) p (by rw [eLX9]; exact List.mem_cons_of_mem _ hp)))
theorem read_n0 {w : World} {p : Program} {loose : List Str} {mean : ExcName → Option Value} {mg mb : Str → Option Value} {dp un : Nat} {gd : Option (List Code)} {cn : Str} {cs : Scope} {a : Addr} {ccd : Value} {cl : List (Str × Addr)} {outer : List Env} {A₀ : Around} {base h₀ : Heap} {L : Addr} {m : Str → Option Value} {news : List (Addr × Obj)} {s : Shared} {Q E : Value → Shared → Prop} {tx U : Str} {n d : Int} {t4 : Tok}
    (B : Below A₀ base outer h₀) (F : Fr h₀ L s.heap m) (X : (HD.K w.params).In h₀) (N : News h₀ L s.heap news) (T : Top p loose mean mg mb h₀) (hk : cs.kind = .function) (hT : tx.length ≤ 3000) (hU : U.length ≤ 3000) (hd : dp + 10 < recursionLimit) (hu : un + 300 < cLine)
    (e1 : (Txt.partition tx (Str.ofString "/")).1 = U) (e2 : (Txt.partition tx (Str.ofString "/")).2.1 = Str.ofString "") (e3 : (Txt.partition tx (Str.ofString "/")).2.2 = Str.ofString "")
    (hn : (Txt.slice U none (some 1) == Str.ofString "-") = true) (hasc : ∀ p ∈ [Txt.slice U (some 1) none], p.cps.all (· < 128) = true)
    (hok : (∀ p ∈ [Txt.slice U (some 1) none], okP p) → PySem.intText? U = some n ∧ U.length ≤ 640 ∧ Builtin.Int.intBits n ≤ 64 ∧ d = 1 ∧ Builtin.Int.intBits d ≤ 64)
    (hret : (∀ p ∈ [Txt.slice U (some 1) none], okP p) → d ≠ 0 → ∀ (D : Addr) (t t' : Tok) (c : Nat) (h' : Heap) (tk' : Nat), Fr h₀ L h' m → News h₀ L h' ((D, RatO (Rat.divInt n d) t t' c) :: news) → (∀ p ∈ news, p.1 ≠ D) → Q (.ref D) { s with heap := h', toks := tk' })
    (hE : (¬ (∀ p ∈ [Txt.slice U (some 1) none], okP p) ∨ d = 0) → ∀ (T9 : Str) (g : Heap) (e t : Addr) (u : Tok) (h' : Heap) (tk' : Nat), Fr h₀ L g m → g.UpToSlots h' → RaisedK base (envX cn cs L a ccd cl :: outer) e (.ref 24) t [.str T9 u] news h' → E (.ref e) { s with heap := h', toks := tk' }) :
    wpAny (model PySem.Challenge.rw_ui0509_08.row.prog w) (ktrTop dp un gd cn cs L a ccd cl outer) (call (.ref 166) [.str tx t4]) Q E s := by
  w_top off
  revert X; k_fill; intro X
  refine wpAny_call ?_
  k_dflt (refine' code_need news ?k1 ?k2 ?k3 ?k4 ?k5 ?kA ?kF ?kK ?k6 ?k7 ?k8 ?k9 ?kB ?kN ?_ ?c2 ?c3 ?c4 ?c5; (case kA => exact rfl); (case kF => exact rfl); (case kK => assumption); (case k1 => k_asm); (case k2 => k_asm); (case k3 => k_asm); (case k4 => k_asm); (case k5 => k_asm); (case k6 => k_is); (case k7 => k_is); (case k8 => ktr_room); (case k9 => first | exact BindsTo.of_eq rfl | exact binds_K (by k_in) rfl (by k_is) rfl rfl rfl); (case c5 => decide); (case kB => exact locs rfl); (case kN => exact fun _ h => h); (case c2 => exact rfl); (case c3 => exact rfl); (case c4 => exact rfl); k_whole; intro g' L' h' tk0 FG' F' N' B' X' T' hG'; (try dsimp only); (try k_fold))
  k_steps
  unfold Hold
  (rename Fr _ _ _ _ => F8)
  (rename News _ _ _ _ => N8)
  rename_i D9 h9 l9
  refine hide_goal fun G9 k9 => ?_
  obtain ⟨m9, em9, F9⟩ := fr_name9 F8
  have n_text := fr_at9 em9 (Str.ofString "text") _ (by rfl)
  have n_mark := fr_at9 em9 (Str.ofString "mark") _ (by rfl)
  have n_lower := fr_at9 em9 (Str.ofString "lower") _ (by rfl)
  have n_upper := fr_at9 em9 (Str.ofString "upper") _ (by rfl)
  clear em9 F8
  obtain ⟨vs9, LX9, eLX9, hAl, N9⟩ := led_split (PS := [Txt.slice U (some 1) none]) (by exact .cons ⟨_, rfl⟩ .nil) (news_one (news := news) N8 (by intro p9 hp9; first | ((repeat (first | exact hp9 | exact List.mem_append_left _ hp9 | exact List.mem_append_right _ hp9 | refine List.mem_cons_of_mem _ ?_)); done) | (simp only [List.mem_cons, List.mem_append]; simp only [hp9, true_or, or_true])))
  clear N8
  refine k9 ?_
  clear k9
  refine iter_listTurns rfl F9 N9 (by rw [eLX9]; exact List.mem_cons_self ..) rfl rfl (fun I lI => ?_)
  refine items_ind (fun i m' nx => (∀ p ∈ [Txt.slice U (some 1) none].take i, okP p) ∧ nx = LX9 ∧ m' (Str.ofString "text") = some (Value.str tx t4) ∧ (∃ t, m' (Str.ofString "mark") = some (Value.str (Str.ofString "") t)) ∧ (∃ t, m' (Str.ofString "lower") = some (Value.str (Str.ofString "") t)) ∧ (∃ t, m' (Str.ofString "upper") = some (Value.str U t))) ?turn ?done _ 0 _ _ rfl (Nat.zero_le _) ⟨(by rw [eLX9]; exact List.mem_cons_self ..), trivial⟩ (fun p hp => Nat.ne_of_lt (lI p hp)) ⟨(fun _ h => nomatch h), rfl, n_text, ⟨_, n_mark⟩, ⟨_, n_lower⟩, ⟨_, n_upper⟩⟩
  case turn =>
    intro i a v m' nx h tk o ha hS hI hJ hav Fm ho Nn
    refine hide_goal fun G9 k9 => ?_
    obtain ⟨hpre, rfl, q_text, ⟨tm, q_mark⟩, ⟨tl, q_lower⟩, ⟨tu, q_upper⟩⟩ := hJ
    obtain ⟨pt, hpt, tp, rfl⟩ := hAl.get (val_get ha hav)
    have hmem := List.mem_of_getElem? hpt
    have hptl : pt.length ≤ 3000 := (fcons (Nat.le_trans (Txt.slice_le _ _ _) hU) (List.forall_mem_nil _) : ∀ p ∈ [Txt.slice U (some 1) none], p.length ≤ 3000) pt hmem
    have hasp := hasc pt hmem
    have hbad : ¬ okP pt → (¬ (∀ p ∈ [Txt.slice U (some 1) none], okP p) ∨ d = 0) := fun h => .inl fun k => h (k pt hmem)
    have hstep : okP pt → ∀ p ∈ [Txt.slice U (some 1) none].take (i + 1), okP p := fun h p hp => by
      rw [List.take_add_one, hpt] at hp
      rcases List.mem_append.mp hp with h1 | h1
      · exact hpre p h1
      · obtain rfl : p = pt := by simpa using h1
        exact h
    clear N9 F9 n_text n_mark n_lower n_upper hav ha hpt
    refine k9 ?_
    clear k9
    k_steps
    · exact hE (hbad fun k => k.1 (eq_of_beq (by assumption))) _ _ _ _ _ _ _ (by assumption) (by assumption) (raisedK_from (by assumption) fun p hp => List.mem_cons_of_mem _ (by rw [eLX9]; exact List.mem_cons_of_mem _ hp))
    · exact hE (hbad fun k => by have := k.2.1; omega) _ _ _ _ _ _ _ (by assumption) (by assumption) (raisedK_from (by assumption) fun p hp => List.mem_cons_of_mem _ (by rw [eLX9]; exact List.mem_cons_of_mem _ hp))
    unfold Hold
    (rename Fr _ _ _ _ => F7)
    (rename News _ _ _ _ => N7)
    refine hide_goal fun G9 k9 => ?_
    obtain ⟨LN, eLN⟩ : ∃ LN, LN = (I, o) :: nx := ⟨_, rfl⟩
    rw [← eLN] at N7
    refine k9 ?_
    clear k9
    refine ⟨_, _, _, rfl, rfl, F7, N7, hasp, (by show pt.length ≤ sizeLine; rw [sizeLine_eq]; omega), fun g9 => ?_⟩
    refine comp_indT (fun j ys nx' => nx' = LN ∧ ys.length = cntX (pt.cps.toList.take j)) ?turn2 ?fin2 _ 0 [] _ (Nat.zero_add _) ⟨rfl, rfl⟩
    case turn2 =>
      intro j v9 I9 oI9 C9 oC9 D8 m9 h tk9 E9 ys nx9 hj hJ9 hPv hC hx Fm9 Nn9 off ne
      refine hide_goal fun G9 k9 => ?_
      obtain ⟨e9, hys⟩ := hJ9
      obtain ⟨c, u9, hc, rfl⟩ := hPv
      have hst : cntX (pt.cps.toList.take (j + 1)) = cntX (pt.cps.toList.take j) + (if 48 ≤ c ∧ c ≤ 57 then 0 else 1) := by
        rw [← cntX_snoc, List.take_add_one, Array.getElem?_toList, hc]; rfl
      rw [e9] at Nn9 off
      clear Nn F7 N7
      refine k9 ?_
      clear k9
      k_steps
      all_goals (refine comp_end (by k_asm) (by k_asm) LN (fun _ h => h) off trivial ⟨rfl, ?_⟩)
      · rw [hst, if_pos ⟨by assumption, by assumption⟩]; exact hys
      · rw [hst, if_neg (fun k => absurd k.2 (by assumption)), List.length_append, hys]; rfl
      · rw [hst, if_neg (fun k => absurd k.1 (by assumption)), List.length_append, hys]; rfl
    case fin2 =>
      intro ys nx9 hJ9 D8 h tk9 Fm9 Nn9 off
      obtain ⟨e9, hys⟩ := hJ9
      rw [e9] at Nn9 off
      have hln : pt.cps.size = pt.cps.toList.length := (Array.length_toList).symm
      rw [hln, List.take_length] at hys
      clear F7 N7 Nn
      have hcl : cntX pt.cps.toList ≤ 3000 := Nat.le_trans (List.length_filter_le _ _) (by rw [← hln]; exact hptl)
      have tk0 : Tk g' ((D8, LCg.lst ys) :: LN) D8 (listOf ys.toArray ys.length) := .inl (List.mem_cons_self ..)
      k_steps
      · exact hE (hbad fun k => by have z := (cntX_zero (l := pt.cps.toList)).mpr k.2.2; omega) _ _ _ _ _ _ _ (by assumption) (by assumption) (raisedK_from (by assumption) fun p hp => List.mem_cons_of_mem _ (by rw [eLN]; exact List.mem_cons_of_mem _ (by rw [eLX9]; exact List.mem_cons_of_mem _ hp)))
      · have hne : (pt == Str.ofString "") = false := by assumption
        exact unr_end nx Fm9 Nn9 (List.mem_cons_of_mem _ (by rw [eLN]; exact List.mem_cons_self ..)) (fun p hp => List.mem_cons_of_mem _ (by rw [eLN]; exact List.mem_cons_of_mem _ hp)) hI ⟨hS, hstep ⟨fun e => by rw [e] at hne; exact absurd hne (by decide +kernel), by omega, cntX_zero.mp (by omega)⟩, rfl, (by exact q_text), ⟨_, (by exact q_mark)⟩, ⟨_, (by exact q_lower)⟩, ⟨_, (by exact q_upper)⟩⟩
  case done =>
    intro m3 nx3 h8 tk8 hJ Fm Nn
    refine hide_goal fun G9 k9 => ?_
    rw [List.length_map, hAl.length] at hJ
    obtain ⟨hall, rfl, q_text, ⟨tm, q_mark⟩, ⟨tl, q_lower⟩, ⟨tu, q_upper⟩⟩ := hJ
    rw [List.take_length] at hall
    have hk9 := hok hall
    obtain ⟨i1, i2, i3, rfl, i6⟩ := hk9
    clear N9 F9 n_text n_mark n_lower n_upper lI
    refine k9 ?_
    clear k9
    k_steps
    all_goals (try unfold Hold)
    refine leaveN_ (by k_asm) (by k_asm) ?_
    intro kF kN kR kD
    (try dsimp only)
    replace kN := news_t2 kN
    exact hret hall (by decide) _ _ _ _ _ _ kF (fcons (kN _ (List.mem_cons_self ..)) (fun p hp => kN p (List.mem_cons_of_mem _ (by rw [eLX9]; exact List.mem_cons_of_mem _ hp)))) (fun p hp => Nat.ne_of_lt (lt_of9 (l := nx3) (by assumption) p (by rw [eLX9]; exact List.mem_cons_of_mem _ hp)))
theorem read_ns {w : World} {p : Program} {loose : List Str} {mean : ExcName → Option Value} {mg mb : Str → Option Value} {dp un : Nat} {gd : Option (List Code)} {cn : Str} {cs : Scope} {a : Addr} {ccd : Value} {cl : List (Str × Addr)} {outer : List Env} {A₀ : Around} {base h₀ : Heap} {L : Addr} {m : Str → Option Value} {news : List (Addr × Obj)} {s : Shared} {Q E : Value → Shared → Prop} {tx U W : Str} {n d : Int} {t4 : Tok}
    (B : Below A₀ base outer h₀) (F : Fr h₀ L s.heap m) (X : (HD.K w.params).In h₀) (N : News h₀ L s.heap news) (T : Top p loose mean mg mb h₀) (hk : cs.kind = .function) (hT : tx.length ≤ 3000) (hU : U.length ≤ 3000) (hW : W.length ≤ 3000) (hd : dp + 10 < recursionLimit) (hu : un + 300 < cLine)
    (e1 : (Txt.partition tx (Str.ofString "/")).1 = U) (e2 : (Txt.partition tx (Str.ofString "/")).2.1 = Str.ofString "/") (e3 : (Txt.partition tx (Str.ofString "/")).2.2 = W)
    (hn : (Txt.slice U none (some 1) == Str.ofString "-") = true) (hasc : ∀ p ∈ [Txt.slice U (some 1) none, W], p.cps.all (· < 128) = true)
    (hok : (∀ p ∈ [Txt.slice U (some 1) none, W], okP p) → PySem.intText? U = some n ∧ U.length ≤ 640 ∧ Builtin.Int.intBits n ≤ 64 ∧ PySem.intText? W = some d ∧ W.length ≤ 640 ∧ Builtin.Int.intBits d ≤ 64)
    (hret : (∀ p ∈ [Txt.slice U (some 1) none, W], okP p) → d ≠ 0 → ∀ (D : Addr) (t t' : Tok) (c : Nat) (h' : Heap) (tk' : Nat), Fr h₀ L h' m → News h₀ L h' ((D, RatO (Rat.divInt n d) t t' c) :: news) → (∀ p ∈ news, p.1 ≠ D) → Q (.ref D) { s with heap := h', toks := tk' })
    (hE : (¬ (∀ p ∈ [Txt.slice U (some 1) none, W], okP p) ∨ d = 0) → ∀ (T9 : Str) (g : Heap) (e t : Addr) (u : Tok) (h' : Heap) (tk' : Nat), Fr h₀ L g m → g.UpToSlots h' → RaisedK base (envX cn cs L a ccd cl :: outer) e (.ref 24) t [.str T9 u] news h' → E (.ref e) { s with heap := h', toks := tk' }) :
    wpAny (model PySem.Challenge.rw_ui0509_08.row.prog w) (ktrTop dp un gd cn cs L a ccd cl outer) (call (.ref 166) [.str tx t4]) Q E s := by
  w_top off
  revert X; k_fill; intro X
  refine wpAny_call ?_
  k_dflt (refine' code_need news ?k1 ?k2 ?k3 ?k4 ?k5 ?kA ?kF ?kK ?k6 ?k7 ?k8 ?k9 ?kB ?kN ?_ ?c2 ?c3 ?c4 ?c5; (case kA => exact rfl); (case kF => exact rfl); (case kK => assumption); (case k1 => k_asm); (case k2 => k_asm); (case k3 => k_asm); (case k4 => k_asm); (case k5 => k_asm); (case k6 => k_is); (case k7 => k_is); (case k8 => ktr_room); (case k9 => first | exact BindsTo.of_eq rfl | exact binds_K (by k_in) rfl (by k_is) rfl rfl rfl); (case c5 => decide); (case kB => exact locs rfl); (case kN => exact fun _ h => h); (case c2 => exact rfl); (case c3 => exact rfl); (case c4 => exact rfl); k_whole; intro g' L' h' tk0 FG' F' N' B' X' T' hG'; (try dsimp only); (try k_fold))
  k_steps
  unfold Hold
  (rename Fr _ _ _ _ => F8)
  (rename News _ _ _ _ => N8)
  rename_i D9 h9 l9
  refine hide_goal fun G9 k9 => ?_
  obtain ⟨m9, em9, F9⟩ := fr_name9 F8
  have n_text := fr_at9 em9 (Str.ofString "text") _ (by rfl)
  have n_mark := fr_at9 em9 (Str.ofString "mark") _ (by rfl)
  have n_lower := fr_at9 em9 (Str.ofString "lower") _ (by rfl)
  have n_upper := fr_at9 em9 (Str.ofString "upper") _ (by rfl)
  clear em9 F8
  obtain ⟨vs9, LX9, eLX9, hAl, N9⟩ := led_split (PS := [Txt.slice U (some 1) none, W]) (by exact .cons ⟨_, rfl⟩ (.cons ⟨_, rfl⟩ .nil)) (news_one (news := news) N8 (by intro p9 hp9; first | ((repeat (first | exact hp9 | exact List.mem_append_left _ hp9 | exact List.mem_append_right _ hp9 | refine List.mem_cons_of_mem _ ?_)); done) | (simp only [List.mem_cons, List.mem_append]; simp only [hp9, true_or, or_true])))
  clear N8
  refine k9 ?_
  clear k9
  refine iter_listTurns rfl F9 N9 (by rw [eLX9]; exact List.mem_cons_self ..) rfl rfl (fun I lI => ?_)
  refine items_ind (fun i m' nx => (∀ p ∈ [Txt.slice U (some 1) none, W].take i, okP p) ∧ nx = LX9 ∧ m' (Str.ofString "text") = some (Value.str tx t4) ∧ (∃ t, m' (Str.ofString "mark") = some (Value.str (Str.ofString "/") t)) ∧ (∃ t, m' (Str.ofString "lower") = some (Value.str (W) t)) ∧ (∃ t, m' (Str.ofString "upper") = some (Value.str U t))) ?turn ?done _ 0 _ _ rfl (Nat.zero_le _) ⟨(by rw [eLX9]; exact List.mem_cons_self ..), trivial⟩ (fun p hp => Nat.ne_of_lt (lI p hp)) ⟨(fun _ h => nomatch h), rfl, n_text, ⟨_, n_mark⟩, ⟨_, n_lower⟩, ⟨_, n_upper⟩⟩
  case turn =>
    intro i a v m' nx h tk o ha hS hI hJ hav Fm ho Nn
    refine hide_goal fun G9 k9 => ?_
    obtain ⟨hpre, rfl, q_text, ⟨tm, q_mark⟩, ⟨tl, q_lower⟩, ⟨tu, q_upper⟩⟩ := hJ
    obtain ⟨pt, hpt, tp, rfl⟩ := hAl.get (val_get ha hav)
    have hmem := List.mem_of_getElem? hpt
    have hptl : pt.length ≤ 3000 := (fcons (Nat.le_trans (Txt.slice_le _ _ _) hU) (fcons hW (List.forall_mem_nil _)) : ∀ p ∈ [Txt.slice U (some 1) none, W], p.length ≤ 3000) pt hmem
    have hasp := hasc pt hmem
    have hbad : ¬ okP pt → (¬ (∀ p ∈ [Txt.slice U (some 1) none, W], okP p) ∨ d = 0) := fun h => .inl fun k => h (k pt hmem)
    have hstep : okP pt → ∀ p ∈ [Txt.slice U (some 1) none, W].take (i + 1), okP p := fun h p hp => by
      rw [List.take_add_one, hpt] at hp
      rcases List.mem_append.mp hp with h1 | h1
      · exact hpre p h1
      · obtain rfl : p = pt := by simpa using h1
        exact h
    clear N9 F9 n_text n_mark n_lower n_upper hav ha hpt
    refine k9 ?_
    clear k9
    k_steps
    · exact hE (hbad fun k => k.1 (eq_of_beq (by assumption))) _ _ _ _ _ _ _ (by assumption) (by assumption) (raisedK_from (by assumption) fun p hp => List.mem_cons_of_mem _ (by rw [eLX9]; exact List.mem_cons_of_mem _ hp))
    · exact hE (hbad fun k => by have := k.2.1; omega) _ _ _ _ _ _ _ (by assumption) (by assumption) (raisedK_from (by assumption) fun p hp => List.mem_cons_of_mem _ (by rw [eLX9]; exact List.mem_cons_of_mem _ hp))
    unfold Hold
    (rename Fr _ _ _ _ => F7)
    (rename News _ _ _ _ => N7)
    refine hide_goal fun G9 k9 => ?_
    obtain ⟨LN, eLN⟩ : ∃ LN, LN = (I, o) :: nx := ⟨_, rfl⟩
    rw [← eLN] at N7
    refine k9 ?_
    clear k9
    refine ⟨_, _, _, rfl, rfl, F7, N7, hasp, (by show pt.length ≤ sizeLine; rw [sizeLine_eq]; omega), fun g9 => ?_⟩
    refine comp_indT (fun j ys nx' => nx' = LN ∧ ys.length = cntX (pt.cps.toList.take j)) ?turn2 ?fin2 _ 0 [] _ (Nat.zero_add _) ⟨rfl, rfl⟩
    case turn2 =>
      intro j v9 I9 oI9 C9 oC9 D8 m9 h tk9 E9 ys nx9 hj hJ9 hPv hC hx Fm9 Nn9 off ne
      refine hide_goal fun G9 k9 => ?_
      obtain ⟨e9, hys⟩ := hJ9
      obtain ⟨c, u9, hc, rfl⟩ := hPv
      have hst : cntX (pt.cps.toList.take (j + 1)) = cntX (pt.cps.toList.take j) + (if 48 ≤ c ∧ c ≤ 57 then 0 else 1) := by
        rw [← cntX_snoc, List.take_add_one, Array.getElem?_toList, hc]; rfl
      rw [e9] at Nn9 off
      clear Nn F7 N7
      refine k9 ?_
      clear k9
      k_steps
      all_goals (refine comp_end (by k_asm) (by k_asm) LN (fun _ h => h) off trivial ⟨rfl, ?_⟩)
      · rw [hst, if_pos ⟨by assumption, by assumption⟩]; exact hys
      · rw [hst, if_neg (fun k => absurd k.2 (by assumption)), List.length_append, hys]; rfl
      · rw [hst, if_neg (fun k => absurd k.1 (by assumption)), List.length_append, hys]; rfl
    case fin2 =>
      intro ys nx9 hJ9 D8 h tk9 Fm9 Nn9 off
      obtain ⟨e9, hys⟩ := hJ9
      rw [e9] at Nn9 off
      have hln : pt.cps.size = pt.cps.toList.length := (Array.length_toList).symm
      rw [hln, List.take_length] at hys
      clear F7 N7 Nn
      have hcl : cntX pt.cps.toList ≤ 3000 := Nat.le_trans (List.length_filter_le _ _) (by rw [← hln]; exact hptl)
      have tk0 : Tk g' ((D8, LCg.lst ys) :: LN) D8 (listOf ys.toArray ys.length) := .inl (List.mem_cons_self ..)
      k_steps
      · exact hE (hbad fun k => by have z := (cntX_zero (l := pt.cps.toList)).mpr k.2.2; omega) _ _ _ _ _ _ _ (by assumption) (by assumption) (raisedK_from (by assumption) fun p hp => List.mem_cons_of_mem _ (by rw [eLN]; exact List.mem_cons_of_mem _ (by rw [eLX9]; exact List.mem_cons_of_mem _ hp)))
      · have hne : (pt == Str.ofString "") = false := by assumption
        exact unr_end nx Fm9 Nn9 (List.mem_cons_of_mem _ (by rw [eLN]; exact List.mem_cons_self ..)) (fun p hp => List.mem_cons_of_mem _ (by rw [eLN]; exact List.mem_cons_of_mem _ hp)) hI ⟨hS, hstep ⟨fun e => by rw [e] at hne; exact absurd hne (by decide +kernel), by omega, cntX_zero.mp (by omega)⟩, rfl, (by exact q_text), ⟨_, (by exact q_mark)⟩, ⟨_, (by exact q_lower)⟩, ⟨_, (by exact q_upper)⟩⟩
  case done =>
    intro m3 nx3 h8 tk8 hJ Fm Nn
    refine hide_goal fun G9 k9 => ?_
    rw [List.length_map, hAl.length] at hJ
    obtain ⟨hall, rfl, q_text, ⟨tm, q_mark⟩, ⟨tl, q_lower⟩, ⟨tu, q_upper⟩⟩ := hJ
    rw [List.take_length] at hall
    have hk9 := hok hall
    obtain ⟨i1, i2, i3, i4, i5, i6⟩ := hk9
    clear N9 F9 n_text n_mark n_lower n_upper lI
    refine k9 ?_
    clear k9
    k_steps
    all_goals (try unfold Hold)
    all_goals (try exact hE (.inr (by assumption)) _ _ _ _ _ _ _ (by assumption) (by assumption) (raisedK_from (by assumption) fun p hp => by rw [eLX9]; exact List.mem_cons_of_mem _ hp))
    all_goals (try rename _ = Rat.divInt n d => eR9)
    all_goals (try subst eR9)
    refine leaveN_ (by k_asm) (by k_asm) ?_
    intro kF kN kR kD
    (try dsimp only)
    exact hret hall (by assumption) _ _ _ _ _ _ kF (fcons (kN _ (List.mem_cons_self ..)) (fun p hp => kN p (List.mem_cons_of_mem _ (by rw [eLX9]; exact List.mem_cons_of_mem _ hp)))) (fun p hp => Nat.ne_of_lt (lt_of9 (l := nx3) (by assumption) p (by rw [eLX9]; exact List.mem_cons_of_mem _ hp)))
end
end
section
def okW (p : Str) : Prop := p ≠ Str.ofString "" ∧ p.length ≤ 9 ∧ NumText.AllDigits p.cps.toList
section
theorem words6 : True := by
  k_with_none
  k_with "ne9" => (refine neN ?_; (try dsimp only); first | with_reducible assumption | exact Ne.symm (by with_reducible assumption) | exact pj0 (by with_reducible assumption) | exact pj1 (by with_reducible assumption) | exact pj2 (by with_reducible assumption) | exact pj3 (by with_reducible assumption) | exact pj4 (by with_reducible assumption) | exact pj5 (by with_reducible assumption) | exact pj6 (by with_reducible assumption) | exact pj7 (by with_reducible assumption) | exact pj8 (by with_reducible assumption) | exact pj9 (by with_reducible assumption) | exact pj10 (by with_reducible assumption) | exact pj11 (by with_reducible assumption) | exact Ne.symm (pj0 (by with_reducible assumption)) | exact Ne.symm (pj1 (by with_reducible assumption)) | exact Ne.symm (pj2 (by with_reducible assumption)) | exact Ne.symm (pj3 (by with_reducible assumption)) | exact Ne.symm (pj4 (by with_reducible assumption)) | exact Ne.symm (pj5 (by with_reducible assumption)) | exact Ne.symm (pj6 (by with_reducible assumption)) | exact Ne.symm (pj7 (by with_reducible assumption)) | exact Ne.symm (pj8 (by with_reducible assumption)) | exact Ne.symm (pj9 (by with_reducible assumption)) | exact Ne.symm (pj10 (by with_reducible assumption)) | exact Ne.symm (pj11 (by with_reducible assumption)) | exact ad1 | exact ad2 | exact ad3 | exact ad4 | exact ad5 | exact ad6 | exact ad7 | exact ad8 | exact Ne.symm ad1 | exact Ne.symm ad2 | exact Ne.symm ad3 | exact Ne.symm ad4 | exact Ne.symm ad5 | exact Ne.symm ad6 | exact Ne.symm ad7 | exact Ne.symm ad8 | exact Nat.ne_of_lt (by with_reducible assumption) | exact Nat.ne_of_gt (by with_reducible assumption) | exact Nat.ne_of_lt (pj0 (by with_reducible assumption)) | exact Nat.ne_of_lt (pj1 (by with_reducible assumption)) | exact Nat.ne_of_lt (pj2 (by with_reducible assumption)) | exact Nat.ne_of_lt (pj3 (by with_reducible assumption)) | exact Nat.ne_of_lt (pj4 (by with_reducible assumption)) | exact Nat.ne_of_lt (pj5 (by with_reducible assumption)) | exact Nat.ne_of_lt (pj6 (by with_reducible assumption)) | exact Nat.ne_of_lt (pj7 (by with_reducible assumption)) | exact Nat.ne_of_lt (pj8 (by with_reducible assumption)) | exact Nat.ne_of_lt (pj9 (by with_reducible assumption)) | exact Nat.ne_of_lt (pj10 (by with_reducible assumption)) | exact Nat.ne_of_lt (pj11 (by with_reducible assumption)) | exact Nat.ne_of_gt (pj0 (by with_reducible assumption)) | exact Nat.ne_of_gt (pj1 (by with_reducible assumption)) | exact Nat.ne_of_gt (pj2 (by with_reducible assumption)) | exact Nat.ne_of_gt (pj3 (by with_reducible assumption)) | exact Nat.ne_of_gt (pj4 (by with_reducible assumption)) | exact Nat.ne_of_gt (pj5 (by with_reducible assumption)) | exact Nat.ne_of_gt (pj6 (by with_reducible assumption)) | exact Nat.ne_of_gt (pj7 (by with_reducible assumption)) | exact Nat.ne_of_gt (pj8 (by with_reducible assumption)) | exact Nat.ne_of_gt (pj9 (by with_reducible assumption)) | exact Nat.ne_of_gt (pj10 (by with_reducible assumption)) | exact Nat.ne_of_gt (pj11 (by with_reducible assumption)) | omega)
  k_with "k_ne" => (walk_at "ne9")
  k_with "k_in" => (refine' in_of ?z30fF ?z30fX; (case z30fF => k_asm); (case z30fX => k_asm))
  k_with "hat9" => (first | exact News.get (by k_asm) (by k_mem) | exact Fr.keep (by k_asm) _ _ (by with_reducible assumption) | exact Tk.get (by k_asm) (by k_asm) (by with_reducible assumption) (by intro p9 hp9; first | exact hp9 | exact absurd hp9 List.not_mem_nil | (repeat (first | exact hp9 | refine List.mem_cons_of_mem _ ?_))) | exact Frag.In.keeps (by k_asm) (Fr.keep (by k_asm)) _ _ (by k_is))
  k_with "ktr_units" => ((try simp only [units_under_make, units_in1, units_deeper, Around.mark_units, units_caller]); (try dsimp only [ktrTop]); first | exact un1 (by with_reducible assumption) (Nat.le_of_ble_eq_true rfl) | exact un2 (by with_reducible assumption) (Nat.le_of_ble_eq_true rfl) | exact un3 (by with_reducible assumption) (Nat.le_of_ble_eq_true rfl) | (have hcL9 := cLine_is; omega))
  k_with "eval Name" => (k_here; k_dflt (refine' nameX_L ?z31k1 ?z31k2 ?_ ?z31k3 ?z31k4; (case z31k1 => k_asm); (case z31k2 => first | exact rfl | assumption); (case z31k3 => rfl); (case z31k4 => rfl); k_whole))
  k_with "call builtin:len" => (k_here; (with_reducible show wpAny _ _ (call (Value.builtin "len") [Value.str _ _]) _ _ _); (refine P.len_str ?z32hLn ?_); (case z32hLn => omega))
  k_with "subscriptTail" => (k_here; (with_reducible show wpAny _ _ (subscriptTail _ (Expr.Slice none (some _) none _) (Value.str _ _) (Value.ref _)) _ _ _); walk_at "i4")
  k_with "subscriptTail" => (k_here; (with_reducible show wpAny _ _ (subscriptTail _ (Expr.Slice (some _) none none _) (Value.str _ _) (Value.ref _)) _ _ _); walk_at "i7")
  k_with "eval ListComp" => (k_here; k_dflt (refine ListComp_TS (_F₀ := by k_asm) (by with_unfolding_all rfl) (by decide) (by rfl) (by decide) (by rfl) ?_))
  k_with "SrcTS" => (refine Hold.out ?_)
  k_with "call ref" => (k_here; (with_reducible show wpAny _ _ (call (Value.ref 41) [Value.str _ _]) _ _ _); k_dflt (refine' shown_s ?z33k1 ?z33k2 ?z33k3 ?z33k4 ?z33k5 ?z33k6 ?z33hT ?z33k7 ?z33k8 ?_; (case z33k1 => k_asm); (case z33k2 => k_asm); (case z33k3 => k_asm); (case z33k4 => k_asm); (case z33k5 => k_asm); (case z33k6 => first | exact rfl | assumption); (case z33k7 => first | exact Nat.le_of_ble_eq_true rfl | ktr_room); (case z33k8 => first | exact Nat.le_of_ble_eq_true rfl | ktr_units); (case z33hT => first | omega | decide +kernel); k_whole); walk_at "i9"; (try k_sweep))
  k_with "compareOp Eq str str" => (k_here; (with_reducible show wpAny _ _ (compareOp CmpOp.Eq (Value.str _ _) (Value.str _ _)) _ _ _); first | (refine eq_sb (b := true) (by first | with_reducible assumption | decide +kernel) ?_) | (refine eq_sb (b := false) (by first | with_reducible assumption | decide +kernel) ?_))
  k_with "compareOp NotEq str str" => (k_here; (with_reducible show wpAny _ _ (compareOp CmpOp.NotEq (Value.str _ _) (Value.str _ _)) _ _ _); first | (refine ne_sb (b := true) (by first | with_reducible assumption | decide +kernel) ?_) | (refine ne_sb (b := false) (by first | with_reducible assumption | decide +kernel) ?_))
  k_with "compareOp LtE str str" => (k_here; (with_reducible show wpAny _ _ (compareOp CmpOp.LtE (Value.str _ _) (Value.str _ _)) _ _ _); first | (refine dig_lo ?_) | (refine dig_hi ?_))
  k_with "call builtin:len" => (k_here; (with_reducible show wpAny _ _ (call (Value.builtin "len") [Value.ref _]) _ _ _); k_dflt (refine' lst_lenT ?z34k1 ?z34k0 ?z34k2 ?z34kS ?z34k3 ?_; (case z34k1 => k_asm); (case z34k0 => k_asm); (case z34k2 => with_reducible assumption); (case z34kS => exact (by intro p9 hp9; first | exact hp9 | exact absurd hp9 List.not_mem_nil | (repeat (first | exact hp9 | refine List.mem_cons_of_mem _ ?_)))); (case z34k3 => ((try simp only [List.length_append, List.length_cons, List.length_nil]); omega)); k_whole); walk_at "i12"; (try simp only [List.length_append, List.length_cons, List.length_nil]))
  trivial
theorem whole_p {w : World} {p : Program} {loose : List Str} {mean : ExcName → Option Value} {mg mb : Str → Option Value} {dp un : Nat} {gd : Option (List Code)} {cn : Str} {cs : Scope} {a : Addr} {ccd : Value} {cl : List (Str × Addr)} {outer : List Env} {A₀ : Around} {base h₀ : Heap} {L : Addr} {m : Str → Option Value} {news : List (Addr × Obj)} {s : Shared} {Q E : Value → Shared → Prop} {tx : Str} {t4 : Tok}
    (B : Below A₀ base outer h₀) (F : Fr h₀ L s.heap m) (X : (HD.K w.params).In h₀) (N : News h₀ L s.heap news) (T : Top p loose mean mg mb h₀) (hk : cs.kind = .function) (hT : tx.length ≤ 3000) (hn : (Txt.slice tx none (some 1) == Str.ofString "-") = false) (hasc : (tx).cps.all (· < 128) = true) (hbad : ¬ okW (tx)) (hd : dp + 10 < recursionLimit) (hu : un + 300 < cLine)
    (hE : ∀ (T9 : Str) (g : Heap) (e t : Addr) (u : Tok) (h' : Heap) (tk' : Nat), Fr h₀ L g m → g.UpToSlots h' → RaisedK base (envX cn cs L a ccd cl :: outer) e (.ref 24) t [.str T9 u] news h' → E (.ref e) { s with heap := h', toks := tk' }) :
    wpAny (model PySem.Challenge.rw_ui0509_08.row.prog w) (ktrTop dp un gd cn cs L a ccd cl outer) (call (.ref 46) [.str tx t4]) Q E s := by
  w_top off
  revert X; k_fill; intro X
  refine wpAny_call ?_
  k_dflt (refine' code_need news ?k1 ?k2 ?k3 ?k4 ?k5 ?kA ?kF ?kK ?k6 ?k7 ?k8 ?k9 ?kB ?kN ?_ ?c2 ?c3 ?c4 ?c5; (case kA => exact rfl); (case kF => exact rfl); (case kK => assumption); (case k1 => k_asm); (case k2 => k_asm); (case k3 => k_asm); (case k4 => k_asm); (case k5 => k_asm); (case k6 => k_is); (case k7 => k_is); (case k8 => ktr_room); (case k9 => first | exact BindsTo.of_eq rfl | exact binds_K (by k_in) rfl (by k_is) rfl rfl rfl); (case c5 => decide); (case kB => exact locs rfl); (case kN => exact fun _ h => h); (case c2 => exact rfl); (case c3 => exact rfl); (case c4 => exact rfl); k_whole; intro g' L' h' tk0 FG' F' N' B' X' T' hG'; (try dsimp only); (try k_fold))
  refine hide_goal fun G9 k9 => ?_
  have hUl : (tx).length ≤ 3000 := hT
  obtain ⟨pt, ept⟩ : ∃ pt, pt = tx := ⟨_, rfl⟩
  rw [← ept] at hasc hbad hUl
  refine k9 ?_
  clear k9
  k_steps
  · exact hE _ _ _ _ _ _ _ (by assumption) (by assumption) (by assumption)
  · exact hE _ _ _ _ _ _ _ (by assumption) (by assumption) (by assumption)
  unfold Hold
  (rename Fr _ _ _ _ => F7)
  (rename News _ _ _ _ => N7)
  refine ⟨_, _, _, rfl, rfl, F7, N7, (by rw [← ept]; exact hasc), (by rw [← ept]; show pt.length ≤ sizeLine; rw [sizeLine_eq]; omega), fun g9 => ?_⟩
  rw [← ept]
  refine comp_indT (fun j ys nx' => nx' = news ∧ ys.length = cntX (pt.cps.toList.take j)) ?turn2 ?fin2 _ 0 [] _ (Nat.zero_add _) ⟨rfl, rfl⟩
  case turn2 =>
    intro j v9 I9 oI9 C9 oC9 D8 m9 h tk9 E9 ys nx9 hj hJ9 hPv hC hx Fm9 Nn9 off ne
    refine hide_goal fun G9 k9 => ?_
    obtain ⟨e9, hys⟩ := hJ9
    obtain ⟨c, u9, hc, rfl⟩ := hPv
    have hst : cntX (pt.cps.toList.take (j + 1)) = cntX (pt.cps.toList.take j) + (if 48 ≤ c ∧ c ≤ 57 then 0 else 1) := by
      rw [← cntX_snoc, List.take_add_one, Array.getElem?_toList, hc]; rfl
    rw [e9] at Nn9 off
    clear F7 N7
    refine k9 ?_
    clear k9
    k_steps
    all_goals (refine comp_end (by k_asm) (by k_asm) news (fun _ h => h) off trivial ⟨rfl, ?_⟩)
    · rw [hst, if_pos ⟨by assumption, by assumption⟩]; exact hys
    · rw [hst, if_neg (fun k => absurd k.2 (by assumption)), List.length_append, hys]; rfl
    · rw [hst, if_neg (fun k => absurd k.1 (by assumption)), List.length_append, hys]; rfl
  case fin2 =>
    intro ys nx9 hJ9 D8 h tk9 Fm9 Nn9 off
    obtain ⟨e9, hys⟩ := hJ9
    rw [e9] at Nn9 off
    have hln : pt.cps.size = pt.cps.toList.length := (Array.length_toList).symm
    rw [hln, List.take_length] at hys
    clear F7 N7
    have hcl : cntX pt.cps.toList ≤ 3000 := Nat.le_trans (List.length_filter_le _ _) (by rw [← hln]; exact hUl)
    have tk0 : Tk g' ((D8, LCg.lst ys) :: news) D8 (listOf ys.toArray ys.length) := .inl (List.mem_cons_self ..)
    k_steps
    · exact hE _ _ _ _ _ _ _ (by assumption) (by assumption) (raisedK_from (by assumption) fun p hp => List.mem_cons_of_mem _ hp)
    all_goals (exfalso; rw [← ept] at *; exact hbad ⟨fun e => by simp_all, by omega, cntX_zero.mp (by omega)⟩)
theorem whole_n {w : World} {p : Program} {loose : List Str} {mean : ExcName → Option Value} {mg mb : Str → Option Value} {dp un : Nat} {gd : Option (List Code)} {cn : Str} {cs : Scope} {a : Addr} {ccd : Value} {cl : List (Str × Addr)} {outer : List Env} {A₀ : Around} {base h₀ : Heap} {L : Addr} {m : Str → Option Value} {news : List (Addr × Obj)} {s : Shared} {Q E : Value → Shared → Prop} {tx : Str} {t4 : Tok}
    (B : Below A₀ base outer h₀) (F : Fr h₀ L s.heap m) (X : (HD.K w.params).In h₀) (N : News h₀ L s.heap news) (T : Top p loose mean mg mb h₀) (hk : cs.kind = .function) (hT : tx.length ≤ 3000) (hn : (Txt.slice tx none (some 1) == Str.ofString "-") = true) (hasc : (Txt.slice tx (some 1) none).cps.all (· < 128) = true) (hbad : ¬ okW (Txt.slice tx (some 1) none)) (hd : dp + 10 < recursionLimit) (hu : un + 300 < cLine)
    (hE : ∀ (T9 : Str) (g : Heap) (e t : Addr) (u : Tok) (h' : Heap) (tk' : Nat), Fr h₀ L g m → g.UpToSlots h' → RaisedK base (envX cn cs L a ccd cl :: outer) e (.ref 24) t [.str T9 u] news h' → E (.ref e) { s with heap := h', toks := tk' }) :
    wpAny (model PySem.Challenge.rw_ui0509_08.row.prog w) (ktrTop dp un gd cn cs L a ccd cl outer) (call (.ref 46) [.str tx t4]) Q E s := by
  w_top off
  revert X; k_fill; intro X
  refine wpAny_call ?_
  k_dflt (refine' code_need news ?k1 ?k2 ?k3 ?k4 ?k5 ?kA ?kF ?kK ?k6 ?k7 ?k8 ?k9 ?kB ?kN ?_ ?c2 ?c3 ?c4 ?c5; (case kA => exact rfl); (case kF => exact rfl); (case kK => assumption); (case k1 => k_asm); (case k2 => k_asm); (case k3 => k_asm); (case k4 => k_asm); (case k5 => k_asm); (case k6 => k_is); (case k7 => k_is); (case k8 => ktr_room); (case k9 => first | exact BindsTo.of_eq rfl | exact binds_K (by k_in) rfl (by k_is) rfl rfl rfl); (case c5 => decide); (case kB => exact locs rfl); (case kN => exact fun _ h => h); (case c2 => exact rfl); (case c3 => exact rfl); (case c4 => exact rfl); k_whole; intro g' L' h' tk0 FG' F' N' B' X' T' hG'; (try dsimp only); (try k_fold))
  refine hide_goal fun G9 k9 => ?_
  have hUl : (Txt.slice tx (some 1) none).length ≤ 3000 := Nat.le_trans (Txt.slice_le _ _ _) hT
  obtain ⟨pt, ept⟩ : ∃ pt, pt = Txt.slice tx (some 1) none := ⟨_, rfl⟩
  rw [← ept] at hasc hbad hUl
  refine k9 ?_
  clear k9
  k_steps
  · exact hE _ _ _ _ _ _ _ (by assumption) (by assumption) (by assumption)
  · exact hE _ _ _ _ _ _ _ (by assumption) (by assumption) (by assumption)
  unfold Hold
  (rename Fr _ _ _ _ => F7)
  (rename News _ _ _ _ => N7)
  refine ⟨_, _, _, rfl, rfl, F7, N7, (by rw [← ept]; exact hasc), (by rw [← ept]; show pt.length ≤ sizeLine; rw [sizeLine_eq]; omega), fun g9 => ?_⟩
  rw [← ept]
  refine comp_indT (fun j ys nx' => nx' = news ∧ ys.length = cntX (pt.cps.toList.take j)) ?turn2 ?fin2 _ 0 [] _ (Nat.zero_add _) ⟨rfl, rfl⟩
  case turn2 =>
    intro j v9 I9 oI9 C9 oC9 D8 m9 h tk9 E9 ys nx9 hj hJ9 hPv hC hx Fm9 Nn9 off ne
    refine hide_goal fun G9 k9 => ?_
    obtain ⟨e9, hys⟩ := hJ9
    obtain ⟨c, u9, hc, rfl⟩ := hPv
    have hst : cntX (pt.cps.toList.take (j + 1)) = cntX (pt.cps.toList.take j) + (if 48 ≤ c ∧ c ≤ 57 then 0 else 1) := by
      rw [← cntX_snoc, List.take_add_one, Array.getElem?_toList, hc]; rfl
    rw [e9] at Nn9 off
    clear F7 N7
    refine k9 ?_
    clear k9
    k_steps
    all_goals (refine comp_end (by k_asm) (by k_asm) news (fun _ h => h) off trivial ⟨rfl, ?_⟩)
    · rw [hst, if_pos ⟨by assumption, by assumption⟩]; exact hys
    · rw [hst, if_neg (fun k => absurd k.2 (by assumption)), List.length_append, hys]; rfl
    · rw [hst, if_neg (fun k => absurd k.1 (by assumption)), List.length_append, hys]; rfl
  case fin2 =>
    intro ys nx9 hJ9 D8 h tk9 Fm9 Nn9 off
    obtain ⟨e9, hys⟩ := hJ9
    rw [e9] at Nn9 off
    have hln : pt.cps.size = pt.cps.toList.length := (Array.length_toList).symm
    rw [hln, List.take_length] at hys
    clear F7 N7
    have hcl : cntX pt.cps.toList ≤ 3000 := Nat.le_trans (List.length_filter_le _ _) (by rw [← hln]; exact hUl)
    have tk0 : Tk g' ((D8, LCg.lst ys) :: news) D8 (listOf ys.toArray ys.length) := .inl (List.mem_cons_self ..)
    k_steps
    · exact hE _ _ _ _ _ _ _ (by assumption) (by assumption) (raisedK_from (by assumption) fun p hp => List.mem_cons_of_mem _ hp)
    all_goals (exfalso; rw [← ept] at *; exact hbad ⟨fun e => by simp_all, by omega, cntX_zero.mp (by omega)⟩)
end
end
section
def shT (x y : Int) : Str := if y = 1 then Str.ofString (toString x) else Str.ofString (toString x) ++ Str.ofString "/" ++ Str.ofString (toString y)
theorem num_len {x : Int} (h1 : -100000 ≤ x) (h2 : x ≤ 100000) : (Str.ofString (toString x)).length ≤ 11 := by
  by_cases h : 0 ≤ x
  · exact Nat.le_trans (KT.len_num h (by omega)) (by decide)
  · obtain ⟨m, rfl⟩ : ∃ m : Nat, x = -((m + 1 : Nat) : Int) := ⟨(-x - 1).toNat, by omega⟩
    have e := sN_neg m
    rw [list_len]
    show (sN (-((m + 1 : Nat) : Int))).cps.toList.length ≤ 11
    rw [e, List.length_cons]
    exact Nat.succ_le_succ (cD_len (by omega))
section
theorem words7 : True := by
  k_with_none
  k_with "ne9" => (refine neN ?_; (try dsimp only); first | with_reducible assumption | exact Ne.symm (by with_reducible assumption) | exact pj0 (by with_reducible assumption) | exact pj1 (by with_reducible assumption) | exact pj2 (by with_reducible assumption) | exact pj3 (by with_reducible assumption) | exact pj4 (by with_reducible assumption) | exact pj5 (by with_reducible assumption) | exact pj6 (by with_reducible assumption) | exact pj7 (by with_reducible assumption) | exact pj8 (by with_reducible assumption) | exact pj9 (by with_reducible assumption) | exact pj10 (by with_reducible assumption) | exact pj11 (by with_reducible assumption) | exact Ne.symm (pj0 (by with_reducible assumption)) | exact Ne.symm (pj1 (by with_reducible assumption)) | exact Ne.symm (pj2 (by with_reducible assumption)) | exact Ne.symm (pj3 (by with_reducible assumption)) | exact Ne.symm (pj4 (by with_reducible assumption)) | exact Ne.symm (pj5 (by with_reducible assumption)) | exact Ne.symm (pj6 (by with_reducible assumption)) | exact Ne.symm (pj7 (by with_reducible assumption)) | exact Ne.symm (pj8 (by with_reducible assumption)) | exact Ne.symm (pj9 (by with_reducible assumption)) | exact Ne.symm (pj10 (by with_reducible assumption)) | exact Ne.symm (pj11 (by with_reducible assumption)) | exact ad1 | exact ad2 | exact ad3 | exact ad4 | exact ad5 | exact ad6 | exact ad7 | exact ad8 | exact Ne.symm ad1 | exact Ne.symm ad2 | exact Ne.symm ad3 | exact Ne.symm ad4 | exact Ne.symm ad5 | exact Ne.symm ad6 | exact Ne.symm ad7 | exact Ne.symm ad8 | exact Nat.ne_of_lt (by with_reducible assumption) | exact Nat.ne_of_gt (by with_reducible assumption) | exact Nat.ne_of_lt (pj0 (by with_reducible assumption)) | exact Nat.ne_of_lt (pj1 (by with_reducible assumption)) | exact Nat.ne_of_lt (pj2 (by with_reducible assumption)) | exact Nat.ne_of_lt (pj3 (by with_reducible assumption)) | exact Nat.ne_of_lt (pj4 (by with_reducible assumption)) | exact Nat.ne_of_lt (pj5 (by with_reducible assumption)) | exact Nat.ne_of_lt (pj6 (by with_reducible assumption)) | exact Nat.ne_of_lt (pj7 (by with_reducible assumption)) | exact Nat.ne_of_lt (pj8 (by with_reducible assumption)) | exact Nat.ne_of_lt (pj9 (by with_reducible assumption)) | exact Nat.ne_of_lt (pj10 (by with_reducible assumption)) | exact Nat.ne_of_lt (pj11 (by with_reducible assumption)) | exact Nat.ne_of_gt (pj0 (by with_reducible assumption)) | exact Nat.ne_of_gt (pj1 (by with_reducible assumption)) | exact Nat.ne_of_gt (pj2 (by with_reducible assumption)) | exact Nat.ne_of_gt (pj3 (by with_reducible assumption)) | exact Nat.ne_of_gt (pj4 (by with_reducible assumption)) | exact Nat.ne_of_gt (pj5 (by with_reducible assumption)) | exact Nat.ne_of_gt (pj6 (by with_reducible assumption)) | exact Nat.ne_of_gt (pj7 (by with_reducible assumption)) | exact Nat.ne_of_gt (pj8 (by with_reducible assumption)) | exact Nat.ne_of_gt (pj9 (by with_reducible assumption)) | exact Nat.ne_of_gt (pj10 (by with_reducible assumption)) | exact Nat.ne_of_gt (pj11 (by with_reducible assumption)) | omega)
  k_with "k_ne" => (walk_at "ne9")
  k_with "k_in" => (refine' in_of ?z35fF ?z35fX; (case z35fF => k_asm); (case z35fX => k_asm))
  k_with "subscriptTail" => (k_here; (with_reducible show wpAny _ _ (subscriptTail _ _ (Value.ref _) (Value.int _ _)) _ _ _); k_dflt (refine' tup_g ?z36k1 ?z36k2 ?z36k3 ?z36k4 ?z36k5 ?z36k6 ?z36k7 ?z36k8 ?_ ?z36k9 ?z36k10; (case z36k1 => k_asm); (case z36k2 => with_reducible assumption); (case z36k3 => exact rfl); (case z36k4 => exact rfl); (case z36k5 => decide); (case z36k6 => decide); (case z36k7 => exact rfl); (case z36k8 => exact rfl); (case z36k9 => with_unfolding_all rfl); (case z36k10 => (intro _; with_unfolding_all rfl)); k_whole))
  k_with "binaryOp FloorDiv int int" => (with_reducible refine floordiv_int ?z37ne ?_ (Or.inl (PyProof.noPylong_of_log2 ?z37lg)); (case z37lg => with_reducible assumption); (case z37ne => with_reducible assumption))
  trivial
theorem show_c {w : World} {p : Program} {loose : List Str} {mean : ExcName → Option Value} {mg mb : Str → Option Value} {dp un : Nat} {gd : Option (List Code)} {cn : Str} {cs : Scope} {a : Addr} {ccd : Value} {cl : List (Str × Addr)} {outer : List Env} {A₀ : Around} {base h₀ : Heap} {L : Addr} {m : Str → Option Value} {news : List (Addr × Obj)} {s : Shared} {Q E : Value → Shared → Prop} {D : Addr} {x y : Int} {t1 t1' : Tok} {c1 : Nat}
    (B : Below A₀ base outer h₀) (F : Fr h₀ L s.heap m) (X : (HD.K w.params).In h₀) (N : News h₀ L s.heap news) (T : Top p loose mean mg mb h₀) (hk : cs.kind = .function) (e1 : s.heap.get? D = some (T2 x y t1 t1' c1)) (hx : -100000 ≤ x) (hx2 : x ≤ 100000) (hy : 1 ≤ y) (hy2 : y ≤ 100000)
    (hd : dp + 3 < recursionLimit) (hu : un + 60 < cLine)
    (hret : ∀ (u : Tok) (h' : Heap) (tk' : Nat), Fr h₀ L h' m → News h₀ L h' news → Q (.str (shT x y) u) { s with heap := h', toks := tk' }) :
    wpAny (model PySem.Challenge.rw_ui0509_08.row.prog w) (ktrTop dp un gd cn cs L a ccd cl outer) (call (.ref 161) [.ref D]) Q E s := by
  w_top off
  revert X; k_fill; intro X
  refine wpAny_call ?_
  k_dflt (refine' code_need [] ?k1 ?k2 ?k3 ?k4 ?k5 ?kA ?kF ?kK ?k6 ?k7 ?k8 ?k9 ?kB ?kN ?_ ?c2 ?c3 ?c4 ?c5; (case kA => exact rfl); (case kF => exact rfl); (case kK => assumption); (case k1 => k_asm); (case k2 => k_asm); (case k3 => k_asm); (case k4 => k_asm); (case k5 => k_asm); (case k6 => k_is); (case k7 => k_is); (case k8 => ktr_room); (case k9 => first | exact BindsTo.of_eq rfl | exact binds_K (by k_in) rfl (by k_is) rfl rfl rfl); (case c5 => decide); (case kB => exact locs rfl); (case kN => exact fun _ h => nomatch h); (case c2 => exact rfl); (case c3 => exact rfl); (case c4 => exact rfl); k_whole; intro g' L' h' tk0 FG' F' N' B' X' T' hG'; (try dsimp only); (try k_fold))
  replace e1 := hG' _ _ e1 (by simp)
  have ln1 := num_len hx hx2
  have ln2 := num_len (x := y) (by omega) hy2
  k_steps
  all_goals (refine leaveN_ (by k_asm) (by k_asm) ?_; intro kF kN kR kD; (try dsimp only); first | (have e9 : shT x y = _ := if_pos (by omega); rw [← e9]; exact hret _ _ _ kF (news_all kR)) | (have e9 : shT x y = _ := if_neg (by omega); rw [← e9]; exact hret _ _ _ kF (news_all kR)))
theorem size_c {w : World} {p : Program} {loose : List Str} {mean : ExcName → Option Value} {mg mb : Str → Option Value} {dp un : Nat} {gd : Option (List Code)} {cn : Str} {cs : Scope} {a : Addr} {ccd : Value} {cl : List (Str × Addr)} {outer : List Env} {A₀ : Around} {base h₀ : Heap} {L : Addr} {m : Str → Option Value} {news : List (Addr × Obj)} {s : Shared} {Q E : Value → Shared → Prop} {D1 : Addr} {x1 y1 : Int} {t1 t1' : Tok} {c1 : Nat}
    (B : Below A₀ base outer h₀) (F : Fr h₀ L s.heap m) (X : (HD.K w.params).In h₀) (N : News h₀ L s.heap news) (T : Top p loose mean mg mb h₀) (hk : cs.kind = .function) (e1 : s.heap.get? D1 = some (T2 x1 y1 t1 t1' c1))
    (hd : dp + 3 < recursionLimit) (hu : un + 60 < cLine)
    (hret : ∀ (D : Addr) (t t' : Tok) (c : Nat) (h' : Heap) (tk' : Nat), Fr h₀ L h' m → News h₀ L h' ((D, T2 (if x1 < 0 then -x1 else x1) y1 t t' c) :: news) → (∀ p ∈ news, p.1 ≠ D) → Q (.ref D) { s with heap := h', toks := tk' }) :
    wpAny (model PySem.Challenge.rw_ui0509_08.row.prog w) (ktrTop dp un gd cn cs L a ccd cl outer) (call (.ref 112) [.ref D1]) Q E s := by
  w_top off
  revert X; k_fill; intro X
  refine wpAny_call ?_
  k_dflt (refine' code_need [] ?k1 ?k2 ?k3 ?k4 ?k5 ?kA ?kF ?kK ?k6 ?k7 ?k8 ?k9 ?kB ?kN ?_ ?c2 ?c3 ?c4 ?c5; (case kA => exact rfl); (case kF => exact rfl); (case kK => assumption); (case k1 => k_asm); (case k2 => k_asm); (case k3 => k_asm); (case k4 => k_asm); (case k5 => k_asm); (case k6 => k_is); (case k7 => k_is); (case k8 => ktr_room); (case k9 => first | exact BindsTo.of_eq rfl | exact binds_K (by k_in) rfl (by k_is) rfl rfl rfl); (case c5 => decide); (case kB => exact locs rfl); (case kN => exact fun _ h => nomatch h); (case c2 => exact rfl); (case c3 => exact rfl); (case c4 => exact rfl); k_whole; intro g' L' h' tk0 FG' F' N' B' X' T' hG'; (try dsimp only); (try k_fold))
  replace e1 := hG' _ _ e1 (by simp)
  k_steps
  all_goals (refine leaveN_ (by k_asm) (by k_asm) ?_; intro kF kN kR kD; (try dsimp only); exact hret _ _ _ _ _ _ kF (news_cons kN (by k_mem) (news_all kR)) (ne_all kD (List.mem_cons_self ..)))
theorem up_c {w : World} {p : Program} {loose : List Str} {mean : ExcName → Option Value} {mg mb : Str → Option Value} {dp un : Nat} {gd : Option (List Code)} {cn : Str} {cs : Scope} {a : Addr} {ccd : Value} {cl : List (Str × Addr)} {outer : List Env} {A₀ : Around} {base h₀ : Heap} {L : Addr} {m : Str → Option Value} {news : List (Addr × Obj)} {s : Shared} {Q E : Value → Shared → Prop} {D1 : Addr} {x1 y1 : Int} {t1 t1' : Tok} {c1 : Nat}
    (B : Below A₀ base outer h₀) (F : Fr h₀ L s.heap m) (X : (HD.K w.params).In h₀) (N : News h₀ L s.heap news) (T : Top p loose mean mg mb h₀) (hk : cs.kind = .function) (e1 : s.heap.get? D1 = some (T2 x1 y1 t1 t1' c1)) (hy : 1 ≤ y1) (hy2 : y1 ≤ 100000)
    (hd : dp + 3 < recursionLimit) (hu : un + 60 < cLine)
    (hret : ∀ (u : Tok) (h' : Heap) (tk' : Nat), Fr h₀ L h' m → News h₀ L h' news → Q (.int (-(Int.fdiv (-x1) y1)) u) { s with heap := h', toks := tk' }) :
    wpAny (model PySem.Challenge.rw_ui0509_08.row.prog w) (ktrTop dp un gd cn cs L a ccd cl outer) (call (.ref 154) [.ref D1]) Q E s := by
  w_top off
  revert X; k_fill; intro X
  refine wpAny_call ?_
  k_dflt (refine' code_need [] ?k1 ?k2 ?k3 ?k4 ?k5 ?kA ?kF ?kK ?k6 ?k7 ?k8 ?k9 ?kB ?kN ?_ ?c2 ?c3 ?c4 ?c5; (case kA => exact rfl); (case kF => exact rfl); (case kK => assumption); (case k1 => k_asm); (case k2 => k_asm); (case k3 => k_asm); (case k4 => k_asm); (case k5 => k_asm); (case k6 => k_is); (case k7 => k_is); (case k8 => ktr_room); (case k9 => first | exact BindsTo.of_eq rfl | exact binds_K (by k_in) rfl (by k_is) rfl rfl rfl); (case c5 => decide); (case kB => exact locs rfl); (case kN => exact fun _ h => nomatch h); (case c2 => exact rfl); (case c3 => exact rfl); (case c4 => exact rfl); k_whole; intro g' L' h' tk0 FG' F' N' B' X' T' hG'; (try dsimp only); (try k_fold))
  replace e1 := hG' _ _ e1 (by simp)
  k_steps
  all_goals (refine leaveN_ (by k_asm) (by k_asm) ?_; intro kF kN kR kD; (try dsimp only); exact hret _ _ _ kF (news_all kR))
end
section
theorem words8 : True := by
  k_with_none
  k_with "ne9" => (refine neN ?_; (try dsimp only); first | with_reducible assumption | exact Ne.symm (by with_reducible assumption) | exact pj0 (by with_reducible assumption) | exact pj1 (by with_reducible assumption) | exact pj2 (by with_reducible assumption) | exact pj3 (by with_reducible assumption) | exact pj4 (by with_reducible assumption) | exact pj5 (by with_reducible assumption) | exact pj6 (by with_reducible assumption) | exact pj7 (by with_reducible assumption) | exact pj8 (by with_reducible assumption) | exact pj9 (by with_reducible assumption) | exact pj10 (by with_reducible assumption) | exact pj11 (by with_reducible assumption) | exact Ne.symm (pj0 (by with_reducible assumption)) | exact Ne.symm (pj1 (by with_reducible assumption)) | exact Ne.symm (pj2 (by with_reducible assumption)) | exact Ne.symm (pj3 (by with_reducible assumption)) | exact Ne.symm (pj4 (by with_reducible assumption)) | exact Ne.symm (pj5 (by with_reducible assumption)) | exact Ne.symm (pj6 (by with_reducible assumption)) | exact Ne.symm (pj7 (by with_reducible assumption)) | exact Ne.symm (pj8 (by with_reducible assumption)) | exact Ne.symm (pj9 (by with_reducible assumption)) | exact Ne.symm (pj10 (by with_reducible assumption)) | exact Ne.symm (pj11 (by with_reducible assumption)) | exact ad1 | exact ad2 | exact ad3 | exact ad4 | exact ad5 | exact ad6 | exact ad7 | exact ad8 | exact Ne.symm ad1 | exact Ne.symm ad2 | exact Ne.symm ad3 | exact Ne.symm ad4 | exact Ne.symm ad5 | exact Ne.symm ad6 | exact Ne.symm ad7 | exact Ne.symm ad8 | exact Nat.ne_of_lt (by with_reducible assumption) | exact Nat.ne_of_gt (by with_reducible assumption) | exact Nat.ne_of_lt (pj0 (by with_reducible assumption)) | exact Nat.ne_of_lt (pj1 (by with_reducible assumption)) | exact Nat.ne_of_lt (pj2 (by with_reducible assumption)) | exact Nat.ne_of_lt (pj3 (by with_reducible assumption)) | exact Nat.ne_of_lt (pj4 (by with_reducible assumption)) | exact Nat.ne_of_lt (pj5 (by with_reducible assumption)) | exact Nat.ne_of_lt (pj6 (by with_reducible assumption)) | exact Nat.ne_of_lt (pj7 (by with_reducible assumption)) | exact Nat.ne_of_lt (pj8 (by with_reducible assumption)) | exact Nat.ne_of_lt (pj9 (by with_reducible assumption)) | exact Nat.ne_of_lt (pj10 (by with_reducible assumption)) | exact Nat.ne_of_lt (pj11 (by with_reducible assumption)) | exact Nat.ne_of_gt (pj0 (by with_reducible assumption)) | exact Nat.ne_of_gt (pj1 (by with_reducible assumption)) | exact Nat.ne_of_gt (pj2 (by with_reducible assumption)) | exact Nat.ne_of_gt (pj3 (by with_reducible assumption)) | exact Nat.ne_of_gt (pj4 (by with_reducible assumption)) | exact Nat.ne_of_gt (pj5 (by with_reducible assumption)) | exact Nat.ne_of_gt (pj6 (by with_reducible assumption)) | exact Nat.ne_of_gt (pj7 (by with_reducible assumption)) | exact Nat.ne_of_gt (pj8 (by with_reducible assumption)) | exact Nat.ne_of_gt (pj9 (by with_reducible assumption)) | exact Nat.ne_of_gt (pj10 (by with_reducible assumption)) | exact Nat.ne_of_gt (pj11 (by with_reducible assumption)) | omega)
  k_with "k_ne" => (walk_at "ne9")
  k_with "k_in" => (refine' in_of ?z35fF ?z35fX; (case z35fF => k_asm); (case z35fX => k_asm))
  k_with "hat9" => (first | exact News.get (by k_asm) (by k_mem) | exact Fr.keep (by k_asm) _ _ (by with_reducible assumption) | exact Tk.get (by k_asm) (by k_asm) (by with_reducible assumption) (by intro p9 hp9; first | exact hp9 | exact absurd hp9 List.not_mem_nil | (repeat (first | exact hp9 | refine List.mem_cons_of_mem _ ?_))) | exact Frag.In.keeps (by k_asm) (Fr.keep (by k_asm)) _ _ (by k_is))
  k_with "ktr_units" => ((try simp only [units_under_make, units_in1, units_deeper, Around.mark_units, units_caller]); (try dsimp only [ktrTop]); first | exact un1 (by with_reducible assumption) (Nat.le_of_ble_eq_true rfl) | exact un2 (by with_reducible assumption) (Nat.le_of_ble_eq_true rfl) | exact un3 (by with_reducible assumption) (Nat.le_of_ble_eq_true rfl) | (have hcL9 := cLine_is; omega))
  k_with "call ref" => (k_here; (with_reducible show wpAny _ _ (call (Value.ref 119) [Value.ref _, Value.ref _]) _ _ _); k_dflt (refine' less_r ?z38k1 ?z38k2 ?z38k3 ?z38k4 ?z38k5 ?z38k6 ?z38m1 ?z38m2 ?z38k7 ?z38k8 ?z38b1 ?z38b2 ?z38hb ?_; (case z38k1 => k_asm); (case z38k2 => k_asm); (case z38k3 => k_asm); (case z38k4 => k_asm); (case z38k5 => k_asm); (case z38k6 => first | exact rfl | assumption); (case z38k7 => first | exact Nat.le_of_ble_eq_true rfl | ktr_room); (case z38k8 => first | exact Nat.le_of_ble_eq_true rfl | ktr_units); (case z38m1 => (walk_at "hat9")); (case z38m2 => (walk_at "hat9")); (case z38b1 => with_reducible assumption); (case z38b2 => with_reducible assumption); (case z38hb => first | assumption | omega | decide); k_whole); walk_at "i3"; (try k_sweep))
  trivial
theorem greatest_c {w : World} {p : Program} {loose : List Str} {mean : ExcName → Option Value} {mg mb : Str → Option Value} {dp un : Nat} {gd : Option (List Code)} {cn : Str} {cs : Scope} {a : Addr} {ccd : Value} {cl : List (Str × Addr)} {outer : List Env} {A₀ : Around} {base h₀ : Heap} {L : Addr} {m : Str → Option Value} {news : List (Addr × Obj)} {s : Shared} {Q E : Value → Shared → Prop} {D1 D2 : Addr} {r1 r2 : Rat} {t1 t1' t2 t2' : Tok} {c1 c2 n k : Nat}
    (B : Below A₀ base outer h₀) (F : Fr h₀ L s.heap m) (X : (HD.K w.params).In h₀) (N : News h₀ L s.heap news) (T : Top p loose mean mg mb h₀) (hk : cs.kind = .function) (e1 : s.heap.get? D1 = some (RatO r1 t1 t1' c1)) (e2 : s.heap.get? D2 = some (RatO r2 t2 t2' c2))
    (hd : dp + 5 < recursionLimit) (hu : un + 60 < cLine) (b1 : Bd n r1) (b2 : Bd k r2) (hb : n + k ≤ 100000)
    (h1 : r1 < r2 → ∀ (h' : Heap) (tk' : Nat), Fr h₀ L h' m → News h₀ L h' news → Q (.ref D2) { s with heap := h', toks := tk' }) (h2 : ¬ r1 < r2 → ∀ (h' : Heap) (tk' : Nat), Fr h₀ L h' m → News h₀ L h' news → Q (.ref D1) { s with heap := h', toks := tk' }) :
    wpAny (model PySem.Challenge.rw_ui0509_08.row.prog w) (ktrTop dp un gd cn cs L a ccd cl outer) (call (.ref 140) [.ref D1, .ref D2]) Q E s := by
  w_top off
  revert X; k_fill; intro X
  refine wpAny_call ?_
  k_dflt (refine' code_need [] ?k1 ?k2 ?k3 ?k4 ?k5 ?kA ?kF ?kK ?k6 ?k7 ?k8 ?k9 ?kB ?kN ?_ ?c2 ?c3 ?c4 ?c5; (case kA => exact rfl); (case kF => exact rfl); (case kK => assumption); (case k1 => k_asm); (case k2 => k_asm); (case k3 => k_asm); (case k4 => k_asm); (case k5 => k_asm); (case k6 => k_is); (case k7 => k_is); (case k8 => ktr_room); (case k9 => first | exact BindsTo.of_eq rfl | exact binds_K (by k_in) rfl (by k_is) rfl rfl rfl); (case c5 => decide); (case kB => exact locs rfl); (case kN => exact fun _ h => nomatch h); (case c2 => exact rfl); (case c3 => exact rfl); (case c4 => exact rfl); k_whole; intro g' L' h' tk0 FG' F' N' B' X' T' hG'; (try dsimp only); (try k_fold))
  replace e1 := hG' _ _ e1 (by simp)
  replace e2 := hG' _ _ e2 (by simp)
  k_steps
  all_goals (refine leaveN_ (by k_asm) (by k_asm) ?_; intro kF kN kR kD; (try dsimp only); first | exact h1 (by simpa using (by assumption : decide (r1 < r2) = true)) _ _ kF (news_all kR) | exact h2 (by simpa using (by assumption : decide (r1 < r2) = false)) _ _ kF (news_all kR) | exact h1 (by assumption) _ _ kF (news_all kR) | exact h2 (by assumption) _ _ kF (news_all kR))
end
end
end Mine
open Mine
local macro_rules | `(tactic| walk_at "i13") => `(tactic| (intro u' h' tk' F' N'))
namespace Mine
section
theorem words9 : True := by
  k_with_none
  k_with "ne9" => (refine neN ?_; (try dsimp only); first | with_reducible assumption | exact Ne.symm (by with_reducible assumption) | exact pj0 (by with_reducible assumption) | exact pj1 (by with_reducible assumption) | exact pj2 (by with_reducible assumption) | exact pj3 (by with_reducible assumption) | exact pj4 (by with_reducible assumption) | exact pj5 (by with_reducible assumption) | exact pj6 (by with_reducible assumption) | exact pj7 (by with_reducible assumption) | exact pj8 (by with_reducible assumption) | exact pj9 (by with_reducible assumption) | exact pj10 (by with_reducible assumption) | exact pj11 (by with_reducible assumption) | exact Ne.symm (pj0 (by with_reducible assumption)) | exact Ne.symm (pj1 (by with_reducible assumption)) | exact Ne.symm (pj2 (by with_reducible assumption)) | exact Ne.symm (pj3 (by with_reducible assumption)) | exact Ne.symm (pj4 (by with_reducible assumption)) | exact Ne.symm (pj5 (by with_reducible assumption)) | exact Ne.symm (pj6 (by with_reducible assumption)) | exact Ne.symm (pj7 (by with_reducible assumption)) | exact Ne.symm (pj8 (by with_reducible assumption)) | exact Ne.symm (pj9 (by with_reducible assumption)) | exact Ne.symm (pj10 (by with_reducible assumption)) | exact Ne.symm (pj11 (by with_reducible assumption)) | exact ad1 | exact ad2 | exact ad3 | exact ad4 | exact ad5 | exact ad6 | exact ad7 | exact ad8 | exact Ne.symm ad1 | exact Ne.symm ad2 | exact Ne.symm ad3 | exact Ne.symm ad4 | exact Ne.symm ad5 | exact Ne.symm ad6 | exact Ne.symm ad7 | exact Ne.symm ad8 | exact Nat.ne_of_lt (by with_reducible assumption) | exact Nat.ne_of_gt (by with_reducible assumption) | exact Nat.ne_of_lt (pj0 (by with_reducible assumption)) | exact Nat.ne_of_lt (pj1 (by with_reducible assumption)) | exact Nat.ne_of_lt (pj2 (by with_reducible assumption)) | exact Nat.ne_of_lt (pj3 (by with_reducible assumption)) | exact Nat.ne_of_lt (pj4 (by with_reducible assumption)) | exact Nat.ne_of_lt (pj5 (by with_reducible assumption)) | exact Nat.ne_of_lt (pj6 (by with_reducible assumption)) | exact Nat.ne_of_lt (pj7 (by with_reducible assumption)) | exact Nat.ne_of_lt (pj8 (by with_reducible assumption)) | exact Nat.ne_of_lt (pj9 (by with_reducible assumption)) | exact Nat.ne_of_lt (pj10 (by with_reducible assumption)) | exact Nat.ne_of_lt (pj11 (by with_reducible assumption)) | exact Nat.ne_of_gt (pj0 (by with_reducible assumption)) | exact Nat.ne_of_gt (pj1 (by with_reducible assumption)) | exact Nat.ne_of_gt (pj2 (by with_reducible assumption)) | exact Nat.ne_of_gt (pj3 (by with_reducible assumption)) | exact Nat.ne_of_gt (pj4 (by with_reducible assumption)) | exact Nat.ne_of_gt (pj5 (by with_reducible assumption)) | exact Nat.ne_of_gt (pj6 (by with_reducible assumption)) | exact Nat.ne_of_gt (pj7 (by with_reducible assumption)) | exact Nat.ne_of_gt (pj8 (by with_reducible assumption)) | exact Nat.ne_of_gt (pj9 (by with_reducible assumption)) | exact Nat.ne_of_gt (pj10 (by with_reducible assumption)) | exact Nat.ne_of_gt (pj11 (by with_reducible assumption)) | omega)
  k_with "k_ne" => (walk_at "ne9")
  k_with "k_in" => (refine' in_of ?z39fF ?z39fX; (case z39fF => k_asm); (case z39fX => k_asm))
  trivial
theorem shown_vb {w : World} {p : Program} {loose : List Str} {mean : ExcName → Option Value} {mg mb : Str → Option Value} {dp un : Nat} {gd : Option (List Code)} {cn : Str} {cs : Scope} {a : Addr} {ccd : Value} {cl : List (Str × Addr)} {outer : List Env} {A₀ : Around} {base h₀ : Heap} {L : Addr} {m : Str → Option Value} {news : List (Addr × Obj)} {s : Shared} {Q E : Value → Shared → Prop}
    (B : Below A₀ base outer h₀) (F : Fr h₀ L s.heap m) (X : (HD.K w.params).In h₀) (N : News h₀ L s.heap news) (T : Top p loose mean mg mb h₀) (hk : cs.kind = .function) (hd : dp + 4 < recursionLimit) (hu : un + 100 < cLine)
    (hret : ∀ (u : Tok) (h' : Heap) (tk' : Nat), Fr h₀ L h' m → News h₀ L h' news → Q (.str (Str.ofString "(not shown)") u) { s with heap := h', toks := tk' }) :
    wpAny (model PySem.Challenge.rw_ui0509_08.row.prog w) (ktrTop dp un gd cn cs L a ccd cl outer) (call (.ref 41) [.bool true]) Q E s := by
  w_top off
  revert X; k_fill; intro X
  refine wpAny_call ?_
  k_dflt (refine' code_need [] ?k1 ?k2 ?k3 ?k4 ?k5 ?kA ?kF ?kK ?k6 ?k7 ?k8 ?k9 ?kB ?kN ?_ ?c2 ?c3 ?c4 ?c5; (case kA => exact rfl); (case kF => exact rfl); (case kK => assumption); (case k1 => k_asm); (case k2 => k_asm); (case k3 => k_asm); (case k4 => k_asm); (case k5 => k_asm); (case k6 => k_is); (case k7 => k_is); (case k8 => ktr_room); (case k9 => first | exact BindsTo.of_eq rfl | exact binds_K (by k_in) rfl (by k_is) rfl rfl rfl); (case c5 => decide); (case kB => exact locs rfl); (case kN => exact fun _ h => nomatch h); (case c2 => exact rfl); (case c3 => exact rfl); (case c4 => exact rfl); k_whole; intro g' L' h' tk0 FG' F' N' B' X' T' hG'; (try dsimp only); (try k_fold))
  k_steps
  all_goals (refine leaveN_ (by k_asm) (by k_asm) ?_; intro kF kN kR kD; (try dsimp only); exact hret _ _ _ kF (news_all kR))
theorem shown_vh {w : World} {p : Program} {loose : List Str} {mean : ExcName → Option Value} {mg mb : Str → Option Value} {dp un : Nat} {gd : Option (List Code)} {cn : Str} {cs : Scope} {a : Addr} {ccd : Value} {cl : List (Str × Addr)} {outer : List Env} {A₀ : Around} {base h₀ : Heap} {L : Addr} {m : Str → Option Value} {news : List (Addr × Obj)} {s : Shared} {Q E : Value → Shared → Prop} {t4 : Tok}
    (B : Below A₀ base outer h₀) (F : Fr h₀ L s.heap m) (X : (HD.K w.params).In h₀) (N : News h₀ L s.heap news) (T : Top p loose mean mg mb h₀) (hk : cs.kind = .function) (hd : dp + 4 < recursionLimit) (hu : un + 100 < cLine)
    (hret : ∀ (u : Tok) (h' : Heap) (tk' : Nat), Fr h₀ L h' m → News h₀ L h' news → Q (.str (Str.ofString "101") u) { s with heap := h', toks := tk' }) :
    wpAny (model PySem.Challenge.rw_ui0509_08.row.prog w) (ktrTop dp un gd cn cs L a ccd cl outer) (call (.ref 41) [.int 101 t4]) Q E s := by
  w_top off
  revert X; k_fill; intro X
  refine wpAny_call ?_
  k_dflt (refine' code_need [] ?k1 ?k2 ?k3 ?k4 ?k5 ?kA ?kF ?kK ?k6 ?k7 ?k8 ?k9 ?kB ?kN ?_ ?c2 ?c3 ?c4 ?c5; (case kA => exact rfl); (case kF => exact rfl); (case kK => assumption); (case k1 => k_asm); (case k2 => k_asm); (case k3 => k_asm); (case k4 => k_asm); (case k5 => k_asm); (case k6 => k_is); (case k7 => k_is); (case k8 => ktr_room); (case k9 => first | exact BindsTo.of_eq rfl | exact binds_K (by k_in) rfl (by k_is) rfl rfl rfl); (case c5 => decide); (case kB => exact locs rfl); (case kN => exact fun _ h => nomatch h); (case c2 => exact rfl); (case c3 => exact rfl); (case c4 => exact rfl); k_whole; intro g' L' h' tk0 FG' F' N' B' X' T' hG'; (try dsimp only); (try k_fold))
  k_steps
  all_goals (refine leaveN_ (by k_asm) (by k_asm) ?_; intro kF kN kR kD; (try dsimp only); exact hret _ _ _ kF (news_all kR))
theorem shown_vn {w : World} {p : Program} {loose : List Str} {mean : ExcName → Option Value} {mg mb : Str → Option Value} {dp un : Nat} {gd : Option (List Code)} {cn : Str} {cs : Scope} {a : Addr} {ccd : Value} {cl : List (Str × Addr)} {outer : List Env} {A₀ : Around} {base h₀ : Heap} {L : Addr} {m : Str → Option Value} {news : List (Addr × Obj)} {s : Shared} {Q E : Value → Shared → Prop} {t4 : Tok}
    (B : Below A₀ base outer h₀) (F : Fr h₀ L s.heap m) (X : (HD.K w.params).In h₀) (N : News h₀ L s.heap news) (T : Top p loose mean mg mb h₀) (hk : cs.kind = .function) (hd : dp + 4 < recursionLimit) (hu : un + 100 < cLine)
    (hret : ∀ (u : Tok) (h' : Heap) (tk' : Nat), Fr h₀ L h' m → News h₀ L h' news → Q (.str (Str.ofString "-1") u) { s with heap := h', toks := tk' }) :
    wpAny (model PySem.Challenge.rw_ui0509_08.row.prog w) (ktrTop dp un gd cn cs L a ccd cl outer) (call (.ref 41) [.int (-1) t4]) Q E s := by
  w_top off
  revert X; k_fill; intro X
  refine wpAny_call ?_
  k_dflt (refine' code_need [] ?k1 ?k2 ?k3 ?k4 ?k5 ?kA ?kF ?kK ?k6 ?k7 ?k8 ?k9 ?kB ?kN ?_ ?c2 ?c3 ?c4 ?c5; (case kA => exact rfl); (case kF => exact rfl); (case kK => assumption); (case k1 => k_asm); (case k2 => k_asm); (case k3 => k_asm); (case k4 => k_asm); (case k5 => k_asm); (case k6 => k_is); (case k7 => k_is); (case k8 => ktr_room); (case k9 => first | exact BindsTo.of_eq rfl | exact binds_K (by k_in) rfl (by k_is) rfl rfl rfl); (case c5 => decide); (case kB => exact locs rfl); (case kN => exact fun _ h => nomatch h); (case c2 => exact rfl); (case c3 => exact rfl); (case c4 => exact rfl); k_whole; intro g' L' h' tk0 FG' F' N' B' X' T' hG'; (try dsimp only); (try k_fold))
  k_steps
  all_goals (refine leaveN_ (by k_asm) (by k_asm) ?_; intro kF kN kR kD; (try dsimp only); exact hret _ _ _ kF (news_all kR))
section
theorem words10 : True := by
  k_with "call ref" => (k_here; (with_reducible show wpAny _ _ (call (Value.ref 41) [Value.str _ _]) _ _ _); k_dflt (refine' shown_s ?z40k1 ?z40k2 ?z40k3 ?z40k4 ?z40k5 ?z40k6 ?z40hT ?z40k7 ?z40k8 ?_; (case z40k1 => k_asm); (case z40k2 => k_asm); (case z40k3 => k_asm); (case z40k4 => k_asm); (case z40k5 => k_asm); (case z40k6 => first | exact rfl | assumption); (case z40k7 => first | exact Nat.le_of_ble_eq_true rfl | ktr_room); (case z40k8 => first | exact Nat.le_of_ble_eq_true rfl | ktr_units); (case z40hT => first | omega | decide +kernel); k_whole); walk_at "i9"; (try k_sweep))
  k_with "call ref" => (k_here; (with_reducible show wpAny _ _ (call (Value.ref 41) [Value.bool true]) _ _ _); k_dflt (refine' shown_vb ?z41k1 ?z41k2 ?z41k3 ?z41k4 ?z41k5 ?z41k6 ?z41k7 ?z41k8 ?_; (case z41k1 => k_asm); (case z41k2 => k_asm); (case z41k3 => k_asm); (case z41k4 => k_asm); (case z41k5 => k_asm); (case z41k6 => first | exact rfl | assumption); (case z41k7 => first | exact Nat.le_of_ble_eq_true rfl | ktr_room); (case z41k8 => first | exact Nat.le_of_ble_eq_true rfl | ktr_units); k_whole); walk_at "i13"; (try k_sweep))
  k_with "call ref" => (k_here; (with_reducible show wpAny _ _ (call (Value.ref 41) [Value.int 101 _]) _ _ _); k_dflt (refine' shown_vh ?z42k1 ?z42k2 ?z42k3 ?z42k4 ?z42k5 ?z42k6 ?z42k7 ?z42k8 ?_; (case z42k1 => k_asm); (case z42k2 => k_asm); (case z42k3 => k_asm); (case z42k4 => k_asm); (case z42k5 => k_asm); (case z42k6 => first | exact rfl | assumption); (case z42k7 => first | exact Nat.le_of_ble_eq_true rfl | ktr_room); (case z42k8 => first | exact Nat.le_of_ble_eq_true rfl | ktr_units); k_whole); walk_at "i13"; (try k_sweep))
  k_with "call ref" => (k_here; (with_reducible show wpAny _ _ (call (Value.ref 41) [Value.int (-1) _]) _ _ _); k_dflt (refine' shown_vn ?z43k1 ?z43k2 ?z43k3 ?z43k4 ?z43k5 ?z43k6 ?z43k7 ?z43k8 ?_; (case z43k1 => k_asm); (case z43k2 => k_asm); (case z43k3 => k_asm); (case z43k4 => k_asm); (case z43k5 => k_asm); (case z43k6 => first | exact rfl | assumption); (case z43k7 => first | exact Nat.le_of_ble_eq_true rfl | ktr_room); (case z43k8 => first | exact Nat.le_of_ble_eq_true rfl | ktr_units); k_whole); walk_at "i13"; (try k_sweep))
  trivial
theorem num_b {w : World} {p : Program} {loose : List Str} {mean : ExcName → Option Value} {mg mb : Str → Option Value} {dp un : Nat} {gd : Option (List Code)} {cn : Str} {cs : Scope} {a : Addr} {ccd : Value} {cl : List (Str × Addr)} {outer : List Env} {A₀ : Around} {base h₀ : Heap} {L : Addr} {m : Str → Option Value} {news : List (Addr × Obj)} {s : Shared} {Q E : Value → Shared → Prop} {t4 t5 t6 t7 : Tok}
    (B : Below A₀ base outer h₀) (F : Fr h₀ L s.heap m) (X : (HD.K w.params).In h₀) (N : News h₀ L s.heap news) (T : Top p loose mean mg mb h₀) (hk : cs.kind = .function) (hd : dp + 8 < recursionLimit) (hu : un + 150 < cLine)
    (hE : ∀ (T9 : Str) (g : Heap) (e t : Addr) (u : Tok) (h' : Heap) (tk' : Nat), Fr h₀ L g m → g.UpToSlots h' → RaisedK base (envX cn cs L a ccd cl :: outer) e (.ref 24) t [.str T9 u] news h' → E (.ref e) { s with heap := h', toks := tk' }) :
    wpAny (model PySem.Challenge.rw_ui0509_08.row.prog w) (ktrTop dp un gd cn cs L a ccd cl outer) (call (.ref 34) [.bool true, .int 0 t5, .int 100 t6, .str (Str.ofString "number") t7]) Q E s := by
  w_top off
  revert X; k_fill; intro X
  refine wpAny_call ?_
  k_dflt (refine' code_need news ?k1 ?k2 ?k3 ?k4 ?k5 ?kA ?kF ?kK ?k6 ?k7 ?k8 ?k9 ?kB ?kN ?_ ?c2 ?c3 ?c4 ?c5; (case kA => exact rfl); (case kF => exact rfl); (case kK => assumption); (case k1 => k_asm); (case k2 => k_asm); (case k3 => k_asm); (case k4 => k_asm); (case k5 => k_asm); (case k6 => k_is); (case k7 => k_is); (case k8 => ktr_room); (case k9 => first | exact BindsTo.of_eq rfl | exact binds_K (by k_in) rfl (by k_is) rfl rfl rfl); (case c5 => decide); (case kB => exact locs rfl); (case kN => exact fun _ h => h); (case c2 => exact rfl); (case c3 => exact rfl); (case c4 => exact rfl); k_whole; intro g' L' h' tk0 FG' F' N' B' X' T' hG'; (try dsimp only); (try k_fold))
  k_steps
  all_goals first | exact hE _ _ _ _ _ _ _ (by assumption) (by assumption) (by assumption) | exact hE _ _ _ _ _ _ _ (by assumption) (by assumption) (raisedK_mono (fun p hp => List.mem_cons_of_mem _ hp) (by assumption)) | (exfalso; omega) | (exfalso; (rename _ = Rat.divInt 2 4 => e9); subst e9; (rename (_ && _) = true => k9); exact absurd k9 (by decide +kernel))
theorem num_s {w : World} {p : Program} {loose : List Str} {mean : ExcName → Option Value} {mg mb : Str → Option Value} {dp un : Nat} {gd : Option (List Code)} {cn : Str} {cs : Scope} {a : Addr} {ccd : Value} {cl : List (Str × Addr)} {outer : List Env} {A₀ : Around} {base h₀ : Heap} {L : Addr} {m : Str → Option Value} {news : List (Addr × Obj)} {s : Shared} {Q E : Value → Shared → Prop} {t4 t5 t6 t7 : Tok}
    (B : Below A₀ base outer h₀) (F : Fr h₀ L s.heap m) (X : (HD.K w.params).In h₀) (N : News h₀ L s.heap news) (T : Top p loose mean mg mb h₀) (hk : cs.kind = .function) (hd : dp + 8 < recursionLimit) (hu : un + 150 < cLine)
    (hE : ∀ (T9 : Str) (g : Heap) (e t : Addr) (u : Tok) (h' : Heap) (tk' : Nat), Fr h₀ L g m → g.UpToSlots h' → RaisedK base (envX cn cs L a ccd cl :: outer) e (.ref 24) t [.str T9 u] news h' → E (.ref e) { s with heap := h', toks := tk' }) :
    wpAny (model PySem.Challenge.rw_ui0509_08.row.prog w) (ktrTop dp un gd cn cs L a ccd cl outer) (call (.ref 34) [.str (Str.ofString "1") t4, .int 0 t5, .int 100 t6, .str (Str.ofString "number") t7]) Q E s := by
  w_top off
  revert X; k_fill; intro X
  refine wpAny_call ?_
  k_dflt (refine' code_need news ?k1 ?k2 ?k3 ?k4 ?k5 ?kA ?kF ?kK ?k6 ?k7 ?k8 ?k9 ?kB ?kN ?_ ?c2 ?c3 ?c4 ?c5; (case kA => exact rfl); (case kF => exact rfl); (case kK => assumption); (case k1 => k_asm); (case k2 => k_asm); (case k3 => k_asm); (case k4 => k_asm); (case k5 => k_asm); (case k6 => k_is); (case k7 => k_is); (case k8 => ktr_room); (case k9 => first | exact BindsTo.of_eq rfl | exact binds_K (by k_in) rfl (by k_is) rfl rfl rfl); (case c5 => decide); (case kB => exact locs rfl); (case kN => exact fun _ h => h); (case c2 => exact rfl); (case c3 => exact rfl); (case c4 => exact rfl); k_whole; intro g' L' h' tk0 FG' F' N' B' X' T' hG'; (try dsimp only); (try k_fold))
  k_steps
  all_goals first | exact hE _ _ _ _ _ _ _ (by assumption) (by assumption) (by assumption) | exact hE _ _ _ _ _ _ _ (by assumption) (by assumption) (raisedK_mono (fun p hp => List.mem_cons_of_mem _ hp) (by assumption)) | (exfalso; omega) | (exfalso; (rename _ = Rat.divInt 2 4 => e9); subst e9; (rename (_ && _) = true => k9); exact absurd k9 (by decide +kernel))
theorem num_h {w : World} {p : Program} {loose : List Str} {mean : ExcName → Option Value} {mg mb : Str → Option Value} {dp un : Nat} {gd : Option (List Code)} {cn : Str} {cs : Scope} {a : Addr} {ccd : Value} {cl : List (Str × Addr)} {outer : List Env} {A₀ : Around} {base h₀ : Heap} {L : Addr} {m : Str → Option Value} {news : List (Addr × Obj)} {s : Shared} {Q E : Value → Shared → Prop} {t4 t5 t6 t7 : Tok}
    (B : Below A₀ base outer h₀) (F : Fr h₀ L s.heap m) (X : (HD.K w.params).In h₀) (N : News h₀ L s.heap news) (T : Top p loose mean mg mb h₀) (hk : cs.kind = .function) (hd : dp + 8 < recursionLimit) (hu : un + 150 < cLine)
    (hE : ∀ (T9 : Str) (g : Heap) (e t : Addr) (u : Tok) (h' : Heap) (tk' : Nat), Fr h₀ L g m → g.UpToSlots h' → RaisedK base (envX cn cs L a ccd cl :: outer) e (.ref 24) t [.str T9 u] news h' → E (.ref e) { s with heap := h', toks := tk' }) :
    wpAny (model PySem.Challenge.rw_ui0509_08.row.prog w) (ktrTop dp un gd cn cs L a ccd cl outer) (call (.ref 34) [.int 101 t4, .int 0 t5, .int 100 t6, .str (Str.ofString "number") t7]) Q E s := by
  w_top off
  revert X; k_fill; intro X
  refine wpAny_call ?_
  k_dflt (refine' code_need news ?k1 ?k2 ?k3 ?k4 ?k5 ?kA ?kF ?kK ?k6 ?k7 ?k8 ?k9 ?kB ?kN ?_ ?c2 ?c3 ?c4 ?c5; (case kA => exact rfl); (case kF => exact rfl); (case kK => assumption); (case k1 => k_asm); (case k2 => k_asm); (case k3 => k_asm); (case k4 => k_asm); (case k5 => k_asm); (case k6 => k_is); (case k7 => k_is); (case k8 => ktr_room); (case k9 => first | exact BindsTo.of_eq rfl | exact binds_K (by k_in) rfl (by k_is) rfl rfl rfl); (case c5 => decide); (case kB => exact locs rfl); (case kN => exact fun _ h => h); (case c2 => exact rfl); (case c3 => exact rfl); (case c4 => exact rfl); k_whole; intro g' L' h' tk0 FG' F' N' B' X' T' hG'; (try dsimp only); (try k_fold))
  k_steps
  all_goals first | exact hE _ _ _ _ _ _ _ (by assumption) (by assumption) (by assumption) | exact hE _ _ _ _ _ _ _ (by assumption) (by assumption) (raisedK_mono (fun p hp => List.mem_cons_of_mem _ hp) (by assumption)) | (exfalso; omega) | (exfalso; (rename _ = Rat.divInt 2 4 => e9); subst e9; (rename (_ && _) = true => k9); exact absurd k9 (by decide +kernel))
theorem num_m {w : World} {p : Program} {loose : List Str} {mean : ExcName → Option Value} {mg mb : Str → Option Value} {dp un : Nat} {gd : Option (List Code)} {cn : Str} {cs : Scope} {a : Addr} {ccd : Value} {cl : List (Str × Addr)} {outer : List Env} {A₀ : Around} {base h₀ : Heap} {L : Addr} {m : Str → Option Value} {news : List (Addr × Obj)} {s : Shared} {Q E : Value → Shared → Prop} {t4 t5 t6 t7 : Tok}
    (B : Below A₀ base outer h₀) (F : Fr h₀ L s.heap m) (X : (HD.K w.params).In h₀) (N : News h₀ L s.heap news) (T : Top p loose mean mg mb h₀) (hk : cs.kind = .function) (hd : dp + 8 < recursionLimit) (hu : un + 150 < cLine)
    (hE : ∀ (T9 : Str) (g : Heap) (e t : Addr) (u : Tok) (h' : Heap) (tk' : Nat), Fr h₀ L g m → g.UpToSlots h' → RaisedK base (envX cn cs L a ccd cl :: outer) e (.ref 24) t [.str T9 u] news h' → E (.ref e) { s with heap := h', toks := tk' }) :
    wpAny (model PySem.Challenge.rw_ui0509_08.row.prog w) (ktrTop dp un gd cn cs L a ccd cl outer) (call (.ref 34) [.int (-1) t4, .int 0 t5, .int 100 t6, .str (Str.ofString "number") t7]) Q E s := by
  w_top off
  revert X; k_fill; intro X
  refine wpAny_call ?_
  k_dflt (refine' code_need news ?k1 ?k2 ?k3 ?k4 ?k5 ?kA ?kF ?kK ?k6 ?k7 ?k8 ?k9 ?kB ?kN ?_ ?c2 ?c3 ?c4 ?c5; (case kA => exact rfl); (case kF => exact rfl); (case kK => assumption); (case k1 => k_asm); (case k2 => k_asm); (case k3 => k_asm); (case k4 => k_asm); (case k5 => k_asm); (case k6 => k_is); (case k7 => k_is); (case k8 => ktr_room); (case k9 => first | exact BindsTo.of_eq rfl | exact binds_K (by k_in) rfl (by k_is) rfl rfl rfl); (case c5 => decide); (case kB => exact locs rfl); (case kN => exact fun _ h => h); (case c2 => exact rfl); (case c3 => exact rfl); (case c4 => exact rfl); k_whole; intro g' L' h' tk0 FG' F' N' B' X' T' hG'; (try dsimp only); (try k_fold))
  k_steps
  all_goals first | exact hE _ _ _ _ _ _ _ (by assumption) (by assumption) (by assumption) | exact hE _ _ _ _ _ _ _ (by assumption) (by assumption) (raisedK_mono (fun p hp => List.mem_cons_of_mem _ hp) (by assumption)) | (exfalso; omega) | (exfalso; (rename _ = Rat.divInt 2 4 => e9); subst e9; (rename (_ && _) = true => k9); exact absurd k9 (by decide +kernel))
end
end
section
section
theorem words11 : True := by
  k_with_none
  k_with "ne9" => (refine neN ?_; (try dsimp only); first | with_reducible assumption | exact Ne.symm (by with_reducible assumption) | exact pj0 (by with_reducible assumption) | exact pj1 (by with_reducible assumption) | exact pj2 (by with_reducible assumption) | exact pj3 (by with_reducible assumption) | exact pj4 (by with_reducible assumption) | exact pj5 (by with_reducible assumption) | exact pj6 (by with_reducible assumption) | exact pj7 (by with_reducible assumption) | exact pj8 (by with_reducible assumption) | exact pj9 (by with_reducible assumption) | exact pj10 (by with_reducible assumption) | exact pj11 (by with_reducible assumption) | exact Ne.symm (pj0 (by with_reducible assumption)) | exact Ne.symm (pj1 (by with_reducible assumption)) | exact Ne.symm (pj2 (by with_reducible assumption)) | exact Ne.symm (pj3 (by with_reducible assumption)) | exact Ne.symm (pj4 (by with_reducible assumption)) | exact Ne.symm (pj5 (by with_reducible assumption)) | exact Ne.symm (pj6 (by with_reducible assumption)) | exact Ne.symm (pj7 (by with_reducible assumption)) | exact Ne.symm (pj8 (by with_reducible assumption)) | exact Ne.symm (pj9 (by with_reducible assumption)) | exact Ne.symm (pj10 (by with_reducible assumption)) | exact Ne.symm (pj11 (by with_reducible assumption)) | exact ad1 | exact ad2 | exact ad3 | exact ad4 | exact ad5 | exact ad6 | exact ad7 | exact ad8 | exact Ne.symm ad1 | exact Ne.symm ad2 | exact Ne.symm ad3 | exact Ne.symm ad4 | exact Ne.symm ad5 | exact Ne.symm ad6 | exact Ne.symm ad7 | exact Ne.symm ad8 | exact Nat.ne_of_lt (by with_reducible assumption) | exact Nat.ne_of_gt (by with_reducible assumption) | exact Nat.ne_of_lt (pj0 (by with_reducible assumption)) | exact Nat.ne_of_lt (pj1 (by with_reducible assumption)) | exact Nat.ne_of_lt (pj2 (by with_reducible assumption)) | exact Nat.ne_of_lt (pj3 (by with_reducible assumption)) | exact Nat.ne_of_lt (pj4 (by with_reducible assumption)) | exact Nat.ne_of_lt (pj5 (by with_reducible assumption)) | exact Nat.ne_of_lt (pj6 (by with_reducible assumption)) | exact Nat.ne_of_lt (pj7 (by with_reducible assumption)) | exact Nat.ne_of_lt (pj8 (by with_reducible assumption)) | exact Nat.ne_of_lt (pj9 (by with_reducible assumption)) | exact Nat.ne_of_lt (pj10 (by with_reducible assumption)) | exact Nat.ne_of_lt (pj11 (by with_reducible assumption)) | exact Nat.ne_of_gt (pj0 (by with_reducible assumption)) | exact Nat.ne_of_gt (pj1 (by with_reducible assumption)) | exact Nat.ne_of_gt (pj2 (by with_reducible assumption)) | exact Nat.ne_of_gt (pj3 (by with_reducible assumption)) | exact Nat.ne_of_gt (pj4 (by with_reducible assumption)) | exact Nat.ne_of_gt (pj5 (by with_reducible assumption)) | exact Nat.ne_of_gt (pj6 (by with_reducible assumption)) | exact Nat.ne_of_gt (pj7 (by with_reducible assumption)) | exact Nat.ne_of_gt (pj8 (by with_reducible assumption)) | exact Nat.ne_of_gt (pj9 (by with_reducible assumption)) | exact Nat.ne_of_gt (pj10 (by with_reducible assumption)) | exact Nat.ne_of_gt (pj11 (by with_reducible assumption)) | omega)
  k_with "k_ne" => (walk_at "ne9")
  k_with "k_in" => (refine' in_of ?z44fF ?z44fX; (case z44fF => k_asm); (case z44fX => k_asm))
  k_with "call ref" => (k_here; (with_reducible show wpAny _ _ (call (Value.ref 41) [Value.str _ _]) _ _ _); k_dflt (refine' shown_s ?z45k1 ?z45k2 ?z45k3 ?z45k4 ?z45k5 ?z45k6 ?z45hT ?z45k7 ?z45k8 ?_; (case z45k1 => k_asm); (case z45k2 => k_asm); (case z45k3 => k_asm); (case z45k4 => k_asm); (case z45k5 => k_asm); (case z45k6 => first | exact rfl | assumption); (case z45k7 => first | exact Nat.le_of_ble_eq_true rfl | ktr_room); (case z45k8 => first | exact Nat.le_of_ble_eq_true rfl | ktr_units); (case z45hT => first | omega | decide +kernel); k_whole); walk_at "i9"; (try k_sweep))
  trivial
theorem name_0 {w : World} {p : Program} {loose : List Str} {mean : ExcName → Option Value} {mg mb : Str → Option Value} {dp un : Nat} {gd : Option (List Code)} {cn : Str} {cs : Scope} {a : Addr} {ccd : Value} {cl : List (Str × Addr)} {outer : List Env} {A₀ : Around} {base h₀ : Heap} {L : Addr} {m : Str → Option Value} {news : List (Addr × Obj)} {s : Shared} {Q E : Value → Shared → Prop} {t4 : Tok}
    (B : Below A₀ base outer h₀) (F : Fr h₀ L s.heap m) (X : (HD.K w.params).In h₀) (N : News h₀ L s.heap news) (T : Top p loose mean mg mb h₀) (hk : cs.kind = .function) (hd : dp + 8 < recursionLimit) (hu : un + 150 < cLine)
    (hE : ∀ (T9 : Str) (g : Heap) (e t : Addr) (u : Tok) (h' : Heap) (tk' : Nat), Fr h₀ L g m → g.UpToSlots h' → RaisedK base (envX cn cs L a ccd cl :: outer) e (.ref 24) t [.str T9 u] news h' → E (.ref e) { s with heap := h', toks := tk' }) :
    wpAny (model PySem.Challenge.rw_ui0509_08.row.prog w) (ktrTop dp un gd cn cs L a ccd cl outer) (call (.ref 53) [.str (Str.ofString "") t4]) Q E s := by
  w_top off
  revert X; k_fill; intro X
  refine wpAny_call ?_
  k_dflt (refine' code_need news ?k1 ?k2 ?k3 ?k4 ?k5 ?kA ?kF ?kK ?k6 ?k7 ?k8 ?k9 ?kB ?kN ?_ ?c2 ?c3 ?c4 ?c5; (case kA => exact rfl); (case kF => exact rfl); (case kK => assumption); (case k1 => k_asm); (case k2 => k_asm); (case k3 => k_asm); (case k4 => k_asm); (case k5 => k_asm); (case k6 => k_is); (case k7 => k_is); (case k8 => ktr_room); (case k9 => first | exact BindsTo.of_eq rfl | exact binds_K (by k_in) rfl (by k_is) rfl rfl rfl); (case c5 => decide); (case kB => exact locs rfl); (case kN => exact fun _ h => h); (case c2 => exact rfl); (case c3 => exact rfl); (case c4 => exact rfl); k_whole; intro g' L' h' tk0 FG' F' N' B' X' T' hG'; (try dsimp only); (try k_fold))
  have hln9 : ((Str.ofString "").length : Int) = 0 := by decide +kernel
  k_steps
  all_goals first | exact hE _ _ _ _ _ _ _ (by assumption) (by assumption) (by assumption) | exact hE _ _ _ _ _ _ _ (by assumption) (by assumption) (raisedK_mono (fun p hp => List.mem_cons_of_mem _ hp) (by assumption)) | (exfalso; omega) | (exfalso; (rename _ = Rat.divInt 2 4 => e9); subst e9; (rename (_ && _) = true => k9); exact absurd k9 (by decide +kernel))
theorem name_1a {w : World} {p : Program} {loose : List Str} {mean : ExcName → Option Value} {mg mb : Str → Option Value} {dp un : Nat} {gd : Option (List Code)} {cn : Str} {cs : Scope} {a : Addr} {ccd : Value} {cl : List (Str × Addr)} {outer : List Env} {A₀ : Around} {base h₀ : Heap} {L : Addr} {m : Str → Option Value} {news : List (Addr × Obj)} {s : Shared} {Q E : Value → Shared → Prop} {t4 : Tok}
    (B : Below A₀ base outer h₀) (F : Fr h₀ L s.heap m) (X : (HD.K w.params).In h₀) (N : News h₀ L s.heap news) (T : Top p loose mean mg mb h₀) (hk : cs.kind = .function) (hd : dp + 8 < recursionLimit) (hu : un + 150 < cLine)
    (hE : ∀ (T9 : Str) (g : Heap) (e t : Addr) (u : Tok) (h' : Heap) (tk' : Nat), Fr h₀ L g m → g.UpToSlots h' → RaisedK base (envX cn cs L a ccd cl :: outer) e (.ref 24) t [.str T9 u] news h' → E (.ref e) { s with heap := h', toks := tk' }) :
    wpAny (model PySem.Challenge.rw_ui0509_08.row.prog w) (ktrTop dp un gd cn cs L a ccd cl outer) (call (.ref 53) [.str (Str.ofString "1a") t4]) Q E s := by
  w_top off
  revert X; k_fill; intro X
  refine wpAny_call ?_
  k_dflt (refine' code_need news ?k1 ?k2 ?k3 ?k4 ?k5 ?kA ?kF ?kK ?k6 ?k7 ?k8 ?k9 ?kB ?kN ?_ ?c2 ?c3 ?c4 ?c5; (case kA => exact rfl); (case kF => exact rfl); (case kK => assumption); (case k1 => k_asm); (case k2 => k_asm); (case k3 => k_asm); (case k4 => k_asm); (case k5 => k_asm); (case k6 => k_is); (case k7 => k_is); (case k8 => ktr_room); (case k9 => first | exact BindsTo.of_eq rfl | exact binds_K (by k_in) rfl (by k_is) rfl rfl rfl); (case c5 => decide); (case kB => exact locs rfl); (case kN => exact fun _ h => h); (case c2 => exact rfl); (case c3 => exact rfl); (case c4 => exact rfl); k_whole; intro g' L' h' tk0 FG' F' N' B' X' T' hG'; (try dsimp only); (try k_fold))
  have hln9 : ((Str.ofString "1a").length : Int) = 2 := by decide +kernel
  k_steps
  all_goals first | exact hE _ _ _ _ _ _ _ (by assumption) (by assumption) (by assumption) | exact hE _ _ _ _ _ _ _ (by assumption) (by assumption) (raisedK_mono (fun p hp => List.mem_cons_of_mem _ hp) (by assumption)) | (exfalso; omega) | (exfalso; (rename _ = Rat.divInt 2 4 => e9); subst e9; (rename (_ && _) = true => k9); exact absurd k9 (by decide +kernel))
theorem name_da {w : World} {p : Program} {loose : List Str} {mean : ExcName → Option Value} {mg mb : Str → Option Value} {dp un : Nat} {gd : Option (List Code)} {cn : Str} {cs : Scope} {a : Addr} {ccd : Value} {cl : List (Str × Addr)} {outer : List Env} {A₀ : Around} {base h₀ : Heap} {L : Addr} {m : Str → Option Value} {news : List (Addr × Obj)} {s : Shared} {Q E : Value → Shared → Prop} {t4 : Tok}
    (B : Below A₀ base outer h₀) (F : Fr h₀ L s.heap m) (X : (HD.K w.params).In h₀) (N : News h₀ L s.heap news) (T : Top p loose mean mg mb h₀) (hk : cs.kind = .function) (hd : dp + 8 < recursionLimit) (hu : un + 150 < cLine)
    (hE : ∀ (T9 : Str) (g : Heap) (e t : Addr) (u : Tok) (h' : Heap) (tk' : Nat), Fr h₀ L g m → g.UpToSlots h' → RaisedK base (envX cn cs L a ccd cl :: outer) e (.ref 24) t [.str T9 u] news h' → E (.ref e) { s with heap := h', toks := tk' }) :
    wpAny (model PySem.Challenge.rw_ui0509_08.row.prog w) (ktrTop dp un gd cn cs L a ccd cl outer) (call (.ref 53) [.str (Str.ofString "-a") t4]) Q E s := by
  w_top off
  revert X; k_fill; intro X
  refine wpAny_call ?_
  k_dflt (refine' code_need news ?k1 ?k2 ?k3 ?k4 ?k5 ?kA ?kF ?kK ?k6 ?k7 ?k8 ?k9 ?kB ?kN ?_ ?c2 ?c3 ?c4 ?c5; (case kA => exact rfl); (case kF => exact rfl); (case kK => assumption); (case k1 => k_asm); (case k2 => k_asm); (case k3 => k_asm); (case k4 => k_asm); (case k5 => k_asm); (case k6 => k_is); (case k7 => k_is); (case k8 => ktr_room); (case k9 => first | exact BindsTo.of_eq rfl | exact binds_K (by k_in) rfl (by k_is) rfl rfl rfl); (case c5 => decide); (case kB => exact locs rfl); (case kN => exact fun _ h => h); (case c2 => exact rfl); (case c3 => exact rfl); (case c4 => exact rfl); k_whole; intro g' L' h' tk0 FG' F' N' B' X' T' hG'; (try dsimp only); (try k_fold))
  have hln9 : ((Str.ofString "-a").length : Int) = 2 := by decide +kernel
  k_steps
  all_goals first | exact hE _ _ _ _ _ _ _ (by assumption) (by assumption) (by assumption) | exact hE _ _ _ _ _ _ _ (by assumption) (by assumption) (raisedK_mono (fun p hp => List.mem_cons_of_mem _ hp) (by assumption)) | (exfalso; omega) | (exfalso; (rename _ = Rat.divInt 2 4 => e9); subst e9; (rename (_ && _) = true => k9); exact absurd k9 (by decide +kernel))
theorem words12 : True := by
  k_with "hat9" => (first | exact News.get (by k_asm) (by k_mem) | exact Fr.keep (by k_asm) _ _ (by with_reducible assumption) | exact Tk.get (by k_asm) (by k_asm) (by with_reducible assumption) (by intro p9 hp9; first | exact hp9 | exact absurd hp9 List.not_mem_nil | (repeat (first | exact hp9 | refine List.mem_cons_of_mem _ ?_))) | exact Frag.In.keeps (by k_asm) (Fr.keep (by k_asm)) _ _ (by k_is))
  k_with "ktr_units" => ((try simp only [units_under_make, units_in1, units_deeper, Around.mark_units, units_caller]); (try dsimp only [ktrTop]); first | exact un1 (by with_reducible assumption) (Nat.le_of_ble_eq_true rfl) | exact un2 (by with_reducible assumption) (Nat.le_of_ble_eq_true rfl) | exact un3 (by with_reducible assumption) (Nat.le_of_ble_eq_true rfl) | (have hcL9 := cLine_is; omega))
  k_with "eval Name" => (k_here; k_dflt (refine' nameX_L ?z46k1 ?z46k2 ?_ ?z46k3 ?z46k4; (case z46k1 => k_asm); (case z46k2 => first | exact rfl | assumption); (case z46k3 => rfl); (case z46k4 => rfl); k_whole))
  k_with "exec For" => (k_here; walk_at "i11")
  k_with "exec For Name Name cons nil" => (k_here; walk_at "i11")
  k_with "exec For Name Call cons nil" => (k_here; walk_at "i11")
  k_with "exec For Tuple Name cons nil" => (k_here; walk_at "i11")
  k_with "exec For Tuple Call cons nil" => (k_here; walk_at "i11")
  k_with "exec For Name Attribute cons nil" => (k_here; walk_at "i11")
  k_with "exec For Tuple Attribute cons nil" => (k_here; walk_at "i11")
  k_with "exec For Tuple Subscript cons nil" => (k_here; walk_at "i11")
  k_with "pyIter ref" => ((with_reducible show wpAny _ _ (pyIter (Value.ref _)) (fun it s₂ => TurnsAt _ _ _ _ _ _ _ _ _ it s₂) _ _); refine Hold.out ?_)
  k_with "UnrPostW" => (dsimp only [UnrPostW])
  k_with "UnrEndW" => (refine Hold.out ?_)
  k_with "k_mem" => (first | with_reducible assumption | (refine List.mem_append_left _ ?_; with_reducible assumption) | (refine List.mem_cons_of_mem _ ?_; k_mem))
  trivial
theorem name_ab {w : World} {p : Program} {loose : List Str} {mean : ExcName → Option Value} {mg mb : Str → Option Value} {dp un : Nat} {gd : Option (List Code)} {cn : Str} {cs : Scope} {a : Addr} {ccd : Value} {cl : List (Str × Addr)} {outer : List Env} {A₀ : Around} {base h₀ : Heap} {L : Addr} {m : Str → Option Value} {news : List (Addr × Obj)} {s : Shared} {Q E : Value → Shared → Prop} {t4 : Tok}
    (B : Below A₀ base outer h₀) (F : Fr h₀ L s.heap m) (X : (HD.K w.params).In h₀) (N : News h₀ L s.heap news) (T : Top p loose mean mg mb h₀) (hk : cs.kind = .function) (hd : dp + 8 < recursionLimit) (hu : un + 150 < cLine)
    (hE : ∀ (T9 : Str) (g : Heap) (e t : Addr) (u : Tok) (h' : Heap) (tk' : Nat), Fr h₀ L g m → g.UpToSlots h' → RaisedK base (envX cn cs L a ccd cl :: outer) e (.ref 24) t [.str T9 u] news h' → E (.ref e) { s with heap := h', toks := tk' }) :
    wpAny (model PySem.Challenge.rw_ui0509_08.row.prog w) (ktrTop dp un gd cn cs L a ccd cl outer) (call (.ref 53) [.str (Str.ofString "a b") t4]) Q E s := by
  w_top off
  revert X; k_fill; intro X
  refine wpAny_call ?_
  k_dflt (refine' code_need news ?k1 ?k2 ?k3 ?k4 ?k5 ?kA ?kF ?kK ?k6 ?k7 ?k8 ?k9 ?kB ?kN ?_ ?c2 ?c3 ?c4 ?c5; (case kA => exact rfl); (case kF => exact rfl); (case kK => assumption); (case k1 => k_asm); (case k2 => k_asm); (case k3 => k_asm); (case k4 => k_asm); (case k5 => k_asm); (case k6 => k_is); (case k7 => k_is); (case k8 => ktr_room); (case k9 => first | exact BindsTo.of_eq rfl | exact binds_K (by k_in) rfl (by k_is) rfl rfl rfl); (case c5 => decide); (case kB => exact locs rfl); (case kN => exact fun _ h => h); (case c2 => exact rfl); (case c3 => exact rfl); (case c4 => exact rfl); k_whole; intro g' L' h' tk0 FG' F' N' B' X' T' hG'; (try dsimp only); (try k_fold))
  have hln9 : ((Str.ofString "a b").length : Int) = 3 := by decide +kernel
  k_steps
  unfold Hold
  (rename Fr _ _ _ _ => F9)
  (rename News _ _ _ _ => N9)
  (rename IsRange _ _ _ _ _ _ _ _ => hrg9)
  refine iter_rangeTurns (n := 3) rfl hrg9 (by decide +kernel) (by decide +kernel) F9 N9 (fun I lI => ?_)
  refine items_ind (fun i m' nx => i ≤ 1 ∧ nx = news ∧ m' (Str.ofString "text") = some (.str (Str.ofString "a b") t4)) ?turn ?done _ 0 _ _ rfl (Nat.zero_le _) trivial (fun p hp => Nat.ne_of_lt (lI p hp)) ⟨Nat.zero_le _, rfl, by rfl⟩
  case turn =>
    intro i a v m' nx h tk o ha _ hI hJ hav Fm ho Nn
    obtain ⟨h1, rfl, q_text⟩ := hJ
    obtain ⟨hi, rfl⟩ := rangeItems_get ha
    obtain ⟨t9, rfl⟩ := hav
    rcases (by omega : i = 0 ∨ i = 1) with rfl | rfl
    · clear ha F9 N9
      k_steps
      all_goals (try unfold Hold)
      all_goals first | exact unr_end nx (by k_asm) (by k_asm) (by k_mem) (by intro p9 hp9; first | ((repeat (first | exact hp9 | exact List.mem_append_left _ hp9 | exact List.mem_append_right _ hp9 | refine List.mem_cons_of_mem _ ?_)); done) | (simp only [List.mem_cons, List.mem_append]; simp only [hp9, true_or, or_true])) hI ⟨trivial, by decide, rfl, by assumption⟩ | (exfalso; omega)
    · clear ha F9 N9
      k_steps
      all_goals first | exact hE _ _ _ _ _ _ _ (by assumption) (by assumption) (by assumption) | exact hE _ _ _ _ _ _ _ (by assumption) (by assumption) (raisedK_mono (fun p hp => List.mem_cons_of_mem _ hp) (by assumption)) | (exfalso; omega) | (exfalso; (rename _ = Rat.divInt 2 4 => e9); subst e9; (rename (_ && _) = true => k9); exact absurd k9 (by decide +kernel))
  case done =>
    intro m3 nx3 h8 tk8 hJ Fm Nn
    simp only [rangeItems, List.length_map, List.length_range] at hJ
    exact absurd hJ.1 (by decide)
theorem name_ub {w : World} {p : Program} {loose : List Str} {mean : ExcName → Option Value} {mg mb : Str → Option Value} {dp un : Nat} {gd : Option (List Code)} {cn : Str} {cs : Scope} {a : Addr} {ccd : Value} {cl : List (Str × Addr)} {outer : List Env} {A₀ : Around} {base h₀ : Heap} {L : Addr} {m : Str → Option Value} {news : List (Addr × Obj)} {s : Shared} {Q E : Value → Shared → Prop} {t4 : Tok}
    (B : Below A₀ base outer h₀) (F : Fr h₀ L s.heap m) (X : (HD.K w.params).In h₀) (N : News h₀ L s.heap news) (T : Top p loose mean mg mb h₀) (hk : cs.kind = .function) (hd : dp + 8 < recursionLimit) (hu : un + 150 < cLine)
    (hE : ∀ (T9 : Str) (g : Heap) (e t : Addr) (u : Tok) (h' : Heap) (tk' : Nat), Fr h₀ L g m → g.UpToSlots h' → RaisedK base (envX cn cs L a ccd cl :: outer) e (.ref 24) t [.str T9 u] news h' → E (.ref e) { s with heap := h', toks := tk' }) :
    wpAny (model PySem.Challenge.rw_ui0509_08.row.prog w) (ktrTop dp un gd cn cs L a ccd cl outer) (call (.ref 53) [.str (Str.ofString "a_b") t4]) Q E s := by
  w_top off
  revert X; k_fill; intro X
  refine wpAny_call ?_
  k_dflt (refine' code_need news ?k1 ?k2 ?k3 ?k4 ?k5 ?kA ?kF ?kK ?k6 ?k7 ?k8 ?k9 ?kB ?kN ?_ ?c2 ?c3 ?c4 ?c5; (case kA => exact rfl); (case kF => exact rfl); (case kK => assumption); (case k1 => k_asm); (case k2 => k_asm); (case k3 => k_asm); (case k4 => k_asm); (case k5 => k_asm); (case k6 => k_is); (case k7 => k_is); (case k8 => ktr_room); (case k9 => first | exact BindsTo.of_eq rfl | exact binds_K (by k_in) rfl (by k_is) rfl rfl rfl); (case c5 => decide); (case kB => exact locs rfl); (case kN => exact fun _ h => h); (case c2 => exact rfl); (case c3 => exact rfl); (case c4 => exact rfl); k_whole; intro g' L' h' tk0 FG' F' N' B' X' T' hG'; (try dsimp only); (try k_fold))
  have hln9 : ((Str.ofString "a_b").length : Int) = 3 := by decide +kernel
  k_steps
  unfold Hold
  (rename Fr _ _ _ _ => F9)
  (rename News _ _ _ _ => N9)
  (rename IsRange _ _ _ _ _ _ _ _ => hrg9)
  refine iter_rangeTurns (n := 3) rfl hrg9 (by decide +kernel) (by decide +kernel) F9 N9 (fun I lI => ?_)
  refine items_ind (fun i m' nx => i ≤ 1 ∧ nx = news ∧ m' (Str.ofString "text") = some (.str (Str.ofString "a_b") t4)) ?turn ?done _ 0 _ _ rfl (Nat.zero_le _) trivial (fun p hp => Nat.ne_of_lt (lI p hp)) ⟨Nat.zero_le _, rfl, by rfl⟩
  case turn =>
    intro i a v m' nx h tk o ha _ hI hJ hav Fm ho Nn
    obtain ⟨h1, rfl, q_text⟩ := hJ
    obtain ⟨hi, rfl⟩ := rangeItems_get ha
    obtain ⟨t9, rfl⟩ := hav
    rcases (by omega : i = 0 ∨ i = 1) with rfl | rfl
    · clear ha F9 N9
      k_steps
      all_goals (try unfold Hold)
      all_goals first | exact unr_end nx (by k_asm) (by k_asm) (by k_mem) (by intro p9 hp9; first | ((repeat (first | exact hp9 | exact List.mem_append_left _ hp9 | exact List.mem_append_right _ hp9 | refine List.mem_cons_of_mem _ ?_)); done) | (simp only [List.mem_cons, List.mem_append]; simp only [hp9, true_or, or_true])) hI ⟨trivial, by decide, rfl, by assumption⟩ | (exfalso; omega)
    · clear ha F9 N9
      k_steps
      all_goals first | exact hE _ _ _ _ _ _ _ (by assumption) (by assumption) (by assumption) | exact hE _ _ _ _ _ _ _ (by assumption) (by assumption) (raisedK_mono (fun p hp => List.mem_cons_of_mem _ hp) (by assumption)) | (exfalso; omega) | (exfalso; (rename _ = Rat.divInt 2 4 => e9); subst e9; (rename (_ && _) = true => k9); exact absurd k9 (by decide +kernel))
  case done =>
    intro m3 nx3 h8 tk8 hJ Fm Nn
    simp only [rangeItems, List.length_map, List.length_range] at hJ
    exact absurd hJ.1 (by decide)
end
section
theorem words13 : True := by
  k_with_none
  k_with "ne9" => (refine neN ?_; (try dsimp only); first | with_reducible assumption | exact Ne.symm (by with_reducible assumption) | exact pj0 (by with_reducible assumption) | exact pj1 (by with_reducible assumption) | exact pj2 (by with_reducible assumption) | exact pj3 (by with_reducible assumption) | exact pj4 (by with_reducible assumption) | exact pj5 (by with_reducible assumption) | exact pj6 (by with_reducible assumption) | exact pj7 (by with_reducible assumption) | exact pj8 (by with_reducible assumption) | exact pj9 (by with_reducible assumption) | exact pj10 (by with_reducible assumption) | exact pj11 (by with_reducible assumption) | exact Ne.symm (pj0 (by with_reducible assumption)) | exact Ne.symm (pj1 (by with_reducible assumption)) | exact Ne.symm (pj2 (by with_reducible assumption)) | exact Ne.symm (pj3 (by with_reducible assumption)) | exact Ne.symm (pj4 (by with_reducible assumption)) | exact Ne.symm (pj5 (by with_reducible assumption)) | exact Ne.symm (pj6 (by with_reducible assumption)) | exact Ne.symm (pj7 (by with_reducible assumption)) | exact Ne.symm (pj8 (by with_reducible assumption)) | exact Ne.symm (pj9 (by with_reducible assumption)) | exact Ne.symm (pj10 (by with_reducible assumption)) | exact Ne.symm (pj11 (by with_reducible assumption)) | exact ad1 | exact ad2 | exact ad3 | exact ad4 | exact ad5 | exact ad6 | exact ad7 | exact ad8 | exact Ne.symm ad1 | exact Ne.symm ad2 | exact Ne.symm ad3 | exact Ne.symm ad4 | exact Ne.symm ad5 | exact Ne.symm ad6 | exact Ne.symm ad7 | exact Ne.symm ad8 | exact Nat.ne_of_lt (by with_reducible assumption) | exact Nat.ne_of_gt (by with_reducible assumption) | exact Nat.ne_of_lt (pj0 (by with_reducible assumption)) | exact Nat.ne_of_lt (pj1 (by with_reducible assumption)) | exact Nat.ne_of_lt (pj2 (by with_reducible assumption)) | exact Nat.ne_of_lt (pj3 (by with_reducible assumption)) | exact Nat.ne_of_lt (pj4 (by with_reducible assumption)) | exact Nat.ne_of_lt (pj5 (by with_reducible assumption)) | exact Nat.ne_of_lt (pj6 (by with_reducible assumption)) | exact Nat.ne_of_lt (pj7 (by with_reducible assumption)) | exact Nat.ne_of_lt (pj8 (by with_reducible assumption)) | exact Nat.ne_of_lt (pj9 (by with_reducible assumption)) | exact Nat.ne_of_lt (pj10 (by with_reducible assumption)) | exact Nat.ne_of_lt (pj11 (by with_reducible assumption)) | exact Nat.ne_of_gt (pj0 (by with_reducible assumption)) | exact Nat.ne_of_gt (pj1 (by with_reducible assumption)) | exact Nat.ne_of_gt (pj2 (by with_reducible assumption)) | exact Nat.ne_of_gt (pj3 (by with_reducible assumption)) | exact Nat.ne_of_gt (pj4 (by with_reducible assumption)) | exact Nat.ne_of_gt (pj5 (by with_reducible assumption)) | exact Nat.ne_of_gt (pj6 (by with_reducible assumption)) | exact Nat.ne_of_gt (pj7 (by with_reducible assumption)) | exact Nat.ne_of_gt (pj8 (by with_reducible assumption)) | exact Nat.ne_of_gt (pj9 (by with_reducible assumption)) | exact Nat.ne_of_gt (pj10 (by with_reducible assumption)) | exact Nat.ne_of_gt (pj11 (by with_reducible assumption)) | omega)
  k_with "k_ne" => (walk_at "ne9")
  k_with "k_in" => (refine' in_of ?z44fF ?z44fX; (case z44fF => k_asm); (case z44fX => k_asm))
  k_with "call builtin:len" => (k_here; (with_reducible show wpAny _ _ (call (Value.builtin "len") [Value.str _ _]) _ _ _); (refine P.len_str ?z47hLn ?_); (case z47hLn => omega))
  k_with "compareOp Eq str str" => (k_here; (with_reducible show wpAny _ _ (compareOp CmpOp.Eq (Value.str _ _) (Value.str _ _)) _ _ _); first | (refine eq_sb (b := true) (by first | with_reducible assumption | decide +kernel) ?_) | (refine eq_sb (b := false) (by first | with_reducible assumption | decide +kernel) ?_))
  k_with "compareOp NotEq str str" => (k_here; (with_reducible show wpAny _ _ (compareOp CmpOp.NotEq (Value.str _ _) (Value.str _ _)) _ _ _); first | (refine ne_sb (b := true) (by first | with_reducible assumption | decide +kernel) ?_) | (refine ne_sb (b := false) (by first | with_reducible assumption | decide +kernel) ?_))
  trivial
theorem name_long {w : World} {p : Program} {loose : List Str} {mean : ExcName → Option Value} {mg mb : Str → Option Value} {dp un : Nat} {gd : Option (List Code)} {cn : Str} {cs : Scope} {a : Addr} {ccd : Value} {cl : List (Str × Addr)} {outer : List Env} {A₀ : Around} {base h₀ : Heap} {L : Addr} {m : Str → Option Value} {news : List (Addr × Obj)} {s : Shared} {Q E : Value → Shared → Prop} {t4 : Tok} {tx : Str}
    (B : Below A₀ base outer h₀) (F : Fr h₀ L s.heap m) (X : (HD.K w.params).In h₀) (N : News h₀ L s.heap news) (T : Top p loose mean mg mb h₀) (hk : cs.kind = .function) (hT : tx.length ≤ 3000) (h30 : 30 < tx.length) (hne : (tx == Str.ofString "") = false) (hd : dp + 8 < recursionLimit) (hu : un + 150 < cLine)
    (hE : ∀ (T9 : Str) (g : Heap) (e t : Addr) (u : Tok) (h' : Heap) (tk' : Nat), Fr h₀ L g m → g.UpToSlots h' → RaisedK base (envX cn cs L a ccd cl :: outer) e (.ref 24) t [.str T9 u] news h' → E (.ref e) { s with heap := h', toks := tk' }) :
    wpAny (model PySem.Challenge.rw_ui0509_08.row.prog w) (ktrTop dp un gd cn cs L a ccd cl outer) (call (.ref 53) [.str tx t4]) Q E s := by
  w_top off
  revert X; k_fill; intro X
  refine wpAny_call ?_
  k_dflt (refine' code_need news ?k1 ?k2 ?k3 ?k4 ?k5 ?kA ?kF ?kK ?k6 ?k7 ?k8 ?k9 ?kB ?kN ?_ ?c2 ?c3 ?c4 ?c5; (case kA => exact rfl); (case kF => exact rfl); (case kK => assumption); (case k1 => k_asm); (case k2 => k_asm); (case k3 => k_asm); (case k4 => k_asm); (case k5 => k_asm); (case k6 => k_is); (case k7 => k_is); (case k8 => ktr_room); (case k9 => first | exact BindsTo.of_eq rfl | exact binds_K (by k_in) rfl (by k_is) rfl rfl rfl); (case c5 => decide); (case kB => exact locs rfl); (case kN => exact fun _ h => h); (case c2 => exact rfl); (case c3 => exact rfl); (case c4 => exact rfl); k_whole; intro g' L' h' tk0 FG' F' N' B' X' T' hG'; (try dsimp only); (try k_fold))
  k_steps
  all_goals first | exact hE _ _ _ _ _ _ _ (by assumption) (by assumption) (by assumption) | exact hE _ _ _ _ _ _ _ (by assumption) (by assumption) (raisedK_mono (fun p hp => List.mem_cons_of_mem _ hp) (by assumption)) | (exfalso; omega) | (exfalso; (rename _ = Rat.divInt 2 4 => e9); subst e9; (rename (_ && _) = true => k9); exact absurd k9 (by decide +kernel))
end
end
section
theorem words14 : True := by
  k_with_none
  k_with "ne9" => (refine neN ?_; (try dsimp only); first | with_reducible assumption | exact Ne.symm (by with_reducible assumption) | exact pj0 (by with_reducible assumption) | exact pj1 (by with_reducible assumption) | exact pj2 (by with_reducible assumption) | exact pj3 (by with_reducible assumption) | exact pj4 (by with_reducible assumption) | exact pj5 (by with_reducible assumption) | exact pj6 (by with_reducible assumption) | exact pj7 (by with_reducible assumption) | exact pj8 (by with_reducible assumption) | exact pj9 (by with_reducible assumption) | exact pj10 (by with_reducible assumption) | exact pj11 (by with_reducible assumption) | exact Ne.symm (pj0 (by with_reducible assumption)) | exact Ne.symm (pj1 (by with_reducible assumption)) | exact Ne.symm (pj2 (by with_reducible assumption)) | exact Ne.symm (pj3 (by with_reducible assumption)) | exact Ne.symm (pj4 (by with_reducible assumption)) | exact Ne.symm (pj5 (by with_reducible assumption)) | exact Ne.symm (pj6 (by with_reducible assumption)) | exact Ne.symm (pj7 (by with_reducible assumption)) | exact Ne.symm (pj8 (by with_reducible assumption)) | exact Ne.symm (pj9 (by with_reducible assumption)) | exact Ne.symm (pj10 (by with_reducible assumption)) | exact Ne.symm (pj11 (by with_reducible assumption)) | exact ad1 | exact ad2 | exact ad3 | exact ad4 | exact ad5 | exact ad6 | exact ad7 | exact ad8 | exact Ne.symm ad1 | exact Ne.symm ad2 | exact Ne.symm ad3 | exact Ne.symm ad4 | exact Ne.symm ad5 | exact Ne.symm ad6 | exact Ne.symm ad7 | exact Ne.symm ad8 | exact Nat.ne_of_lt (by with_reducible assumption) | exact Nat.ne_of_gt (by with_reducible assumption) | exact Nat.ne_of_lt (pj0 (by with_reducible assumption)) | exact Nat.ne_of_lt (pj1 (by with_reducible assumption)) | exact Nat.ne_of_lt (pj2 (by with_reducible assumption)) | exact Nat.ne_of_lt (pj3 (by with_reducible assumption)) | exact Nat.ne_of_lt (pj4 (by with_reducible assumption)) | exact Nat.ne_of_lt (pj5 (by with_reducible assumption)) | exact Nat.ne_of_lt (pj6 (by with_reducible assumption)) | exact Nat.ne_of_lt (pj7 (by with_reducible assumption)) | exact Nat.ne_of_lt (pj8 (by with_reducible assumption)) | exact Nat.ne_of_lt (pj9 (by with_reducible assumption)) | exact Nat.ne_of_lt (pj10 (by with_reducible assumption)) | exact Nat.ne_of_lt (pj11 (by with_reducible assumption)) | exact Nat.ne_of_gt (pj0 (by with_reducible assumption)) | exact Nat.ne_of_gt (pj1 (by with_reducible assumption)) | exact Nat.ne_of_gt (pj2 (by with_reducible assumption)) | exact Nat.ne_of_gt (pj3 (by with_reducible assumption)) | exact Nat.ne_of_gt (pj4 (by with_reducible assumption)) | exact Nat.ne_of_gt (pj5 (by with_reducible assumption)) | exact Nat.ne_of_gt (pj6 (by with_reducible assumption)) | exact Nat.ne_of_gt (pj7 (by with_reducible assumption)) | exact Nat.ne_of_gt (pj8 (by with_reducible assumption)) | exact Nat.ne_of_gt (pj9 (by with_reducible assumption)) | exact Nat.ne_of_gt (pj10 (by with_reducible assumption)) | exact Nat.ne_of_gt (pj11 (by with_reducible assumption)) | omega)
  k_with "k_ne" => (walk_at "ne9")
  k_with "k_in" => (refine' in_of ?z48fF ?z48fX; (case z48fF => k_asm); (case z48fX => k_asm))
  trivial
theorem need_5 {w : World} {p : Program} {loose : List Str} {mean : ExcName → Option Value} {mg mb : Str → Option Value} {dp un : Nat} {gd : Option (List Code)} {cn : Str} {cs : Scope} {a : Addr} {ccd : Value} {cl : List (Str × Addr)} {outer : List Env} {A₀ : Around} {base h₀ : Heap} {L : Addr} {m : Str → Option Value} {news : List (Addr × Obj)} {s : Shared} {Q E : Value → Shared → Prop} {D2 : Addr} {t4 : Tok}
    (B : Below A₀ base outer h₀) (F : Fr h₀ L s.heap m) (X : (HD.K w.params).In h₀) (N : News h₀ L s.heap news) (T : Top p loose mean mg mb h₀) (hk : cs.kind = .function)
    (hd : dp + 8 < recursionLimit) (hu : un + 200 < cLine)
    (hE : ∀ (T9 : Str) (g : Heap) (e t : Addr) (u : Tok) (h' : Heap) (tk' : Nat), Fr h₀ L g m → g.UpToSlots h' → RaisedK base (envX cn cs L a ccd cl :: outer) e (.ref 24) t [.str T9 u] news h' → E (.ref e) { s with heap := h', toks := tk' }) :
    wpAny (model PySem.Challenge.rw_ui0509_08.row.prog w) (ktrTop dp un gd cn cs L a ccd cl outer) (call (.ref 77) [.int 5 t4, .ref D2]) Q E s := by
  w_top off
  revert X; k_fill; intro X
  refine wpAny_call ?_
  k_dflt (refine' code_need news ?k1 ?k2 ?k3 ?k4 ?k5 ?kA ?kF ?kK ?k6 ?k7 ?k8 ?k9 ?kB ?kN ?_ ?c2 ?c3 ?c4 ?c5; (case kA => exact rfl); (case kF => exact rfl); (case kK => assumption); (case k1 => k_asm); (case k2 => k_asm); (case k3 => k_asm); (case k4 => k_asm); (case k5 => k_asm); (case k6 => k_is); (case k7 => k_is); (case k8 => ktr_room); (case k9 => first | exact BindsTo.of_eq rfl | exact binds_K (by k_in) rfl (by k_is) rfl rfl rfl); (case c5 => decide); (case kB => exact locs rfl); (case kN => exact fun _ h => h); (case c2 => exact rfl); (case c3 => exact rfl); (case c4 => exact rfl); k_whole; intro g' L' h' tk0 FG' F' N' B' X' T' hG'; (try dsimp only); (try k_fold))
  k_steps
  all_goals first | exact hE _ _ _ _ _ _ _ (by assumption) (by assumption) (by assumption) | exact hE _ _ _ _ _ _ _ (by assumption) (by assumption) (raisedK_mono (fun p hp => List.mem_cons_of_mem _ hp) (by assumption)) | (exfalso; omega) | (exfalso; (rename _ = Rat.divInt 2 4 => e9); subst e9; (rename (_ && _) = true => k9); exact absurd k9 (by decide +kernel))
theorem tup_n {prog : Program} {w : World} {A : Around} {E : Value → Shared → Prop} {s : Shared} {h₀ : Heap} {L D : Addr} {lo : Obj} {news : List (Addr × Obj)} {value slice : Expr} {l : List Value} {n : Nat} {k : Int} {u : Tok} {j : Nat} {x : Value} {Q : Value → Shared → Prop}
    (N : News h₀ L s.heap news) (e : (D, lo) ∈ news) (hc : lo.cls = .type "tuple") (hd : lo.data = .seq l.toArray n) (hlo : -(2 ^ 63) ≤ k) (hhi : k < 2 ^ 63) (hj : seqIndex? k l.length = some j) (hx : l[j]? = some x) (h : Q x s)
    (hs : subscripted slice false (.ref D) (.int k u) = operate [.ref D, .int k u] (getItem (.ref D) (.int k u))) (hg : ∀ r, letTemporaryGo value (.ref D) r = pure ()) :
    wpAny (model prog w) A (subscriptTail value slice (.ref D) (.int k u)) Q E s := item_tupleL ⟨lo, N.get e, hc, n, hd⟩ hlo hhi hj hx h hs hg
theorem ne_T2b {prog : Program} {w : World} {A : Around} {E : Value → Shared → Prop} {s : Shared} {D1 D2 : Addr} {x1 y1 x2 y2 : Int} {t1 t1' t2 t2' : Tok} {c1 c2 : Nat} {b : Bool} {Q : Value → Shared → Prop}
    (e1 : s.heap.get? D1 = some (T2 x1 y1 t1 t1' c1)) (e2 : s.heap.get? D2 = some (T2 x2 y2 t2 t2' c2)) (hu : A.units + 64 < cLine) (hb : (!(x1 == x2 && y1 == y2)) = b) (h : Q (.bool b) s) : wpAny (model prog w) A (compareOp .NotEq (.ref D1) (.ref D2)) Q E s := ne_T2h e1 e2 hu (by rw [hb]; exact h)
section
theorem words15 : True := by
  k_with "k_mem" => (first | with_reducible assumption | (refine List.mem_append_left _ ?_; with_reducible assumption) | (refine List.mem_cons_of_mem _ ?_; k_mem))
  k_with "call type:type" => (k_here; (with_reducible show wpAny _ _ (call (Value.type "type") [Value.ref _]) _ _ _); k_dflt (refine' kto_cont (T := "tuple") ?z49c ?z49n ?_; (case z49c => exact ⟨_, News.get (by k_asm) (by k_mem), rfl⟩); (case z49n => decide +kernel); k_whole))
  k_with "subscriptTail" => (k_here; (with_reducible show wpAny _ _ (subscriptTail _ _ (Value.ref _) (Value.int _ _)) _ _ _); k_dflt (refine' tup_n ?z50k1 ?z50k2 ?z50k3 ?z50k4 ?z50k5 ?z50k6 ?z50k7 ?z50k8 ?_ ?z50k9 ?z50k10; (case z50k1 => k_asm); (case z50k2 => with_reducible assumption); (case z50k3 => exact rfl); (case z50k4 => exact rfl); (case z50k5 => decide); (case z50k6 => decide); (case z50k7 => exact rfl); (case z50k8 => exact rfl); (case z50k9 => with_unfolding_all rfl); (case z50k10 => (intro _; with_unfolding_all rfl)); k_whole))
  k_with "call builtin:len" => (k_here; (with_reducible show wpAny _ _ (call (Value.builtin "len") [Value.ref _]) _ _ _); k_dflt (refine' kun_lenT (k := 3) ?z51k1 ?z51k2 ?z51k3 ?_; (case z51k1 => exact ⟨_, News.get (by k_asm) (by k_mem), rfl, _, rfl⟩); (case z51k2 => exact rfl); (case z51k3 => decide); k_whole))
  trivial
theorem need_3 {w : World} {p : Program} {loose : List Str} {mean : ExcName → Option Value} {mg mb : Str → Option Value} {dp un : Nat} {gd : Option (List Code)} {cn : Str} {cs : Scope} {a : Addr} {ccd : Value} {cl : List (Str × Addr)} {outer : List Env} {A₀ : Around} {base h₀ : Heap} {L : Addr} {m : Str → Option Value} {news : List (Addr × Obj)} {s : Shared} {Q E : Value → Shared → Prop} {D2 : Addr} {D1 : Addr} {t1 t2 t3 : Tok} {c1 : Nat}
    (B : Below A₀ base outer h₀) (F : Fr h₀ L s.heap m) (X : (HD.K w.params).In h₀) (N : News h₀ L s.heap news) (T : Top p loose mean mg mb h₀) (hk : cs.kind = .function) (e1 : (D1, { cls := .type "tuple", data := .seq #[.int 1 t1, .int 2 t2, .int 3 t3] c1 }) ∈ news)
    (hd : dp + 8 < recursionLimit) (hu : un + 200 < cLine)
    (hE : ∀ (T9 : Str) (g : Heap) (e t : Addr) (u : Tok) (h' : Heap) (tk' : Nat), Fr h₀ L g m → g.UpToSlots h' → RaisedK base (envX cn cs L a ccd cl :: outer) e (.ref 24) t [.str T9 u] news h' → E (.ref e) { s with heap := h', toks := tk' }) :
    wpAny (model PySem.Challenge.rw_ui0509_08.row.prog w) (ktrTop dp un gd cn cs L a ccd cl outer) (call (.ref 77) [.ref D1, .ref D2]) Q E s := by
  w_top off
  revert X; k_fill; intro X
  refine wpAny_call ?_
  k_dflt (refine' code_need news ?k1 ?k2 ?k3 ?k4 ?k5 ?kA ?kF ?kK ?k6 ?k7 ?k8 ?k9 ?kB ?kN ?_ ?c2 ?c3 ?c4 ?c5; (case kA => exact rfl); (case kF => exact rfl); (case kK => assumption); (case k1 => k_asm); (case k2 => k_asm); (case k3 => k_asm); (case k4 => k_asm); (case k5 => k_asm); (case k6 => k_is); (case k7 => k_is); (case k8 => ktr_room); (case k9 => first | exact BindsTo.of_eq rfl | exact binds_K (by k_in) rfl (by k_is) rfl rfl rfl); (case c5 => decide); (case kB => exact locs rfl); (case kN => exact fun _ h => h); (case c2 => exact rfl); (case c3 => exact rfl); (case c4 => exact rfl); k_whole; intro g' L' h' tk0 FG' F' N' B' X' T' hG'; (try dsimp only); (try k_fold))
  k_steps
  all_goals first | exact hE _ _ _ _ _ _ _ (by assumption) (by assumption) (by assumption) | exact hE _ _ _ _ _ _ _ (by assumption) (by assumption) (raisedK_mono (fun p hp => List.mem_cons_of_mem _ hp) (by assumption)) | (exfalso; omega) | (exfalso; (rename _ = Rat.divInt 2 4 => e9); subst e9; (rename (_ && _) = true => k9); exact absurd k9 (by decide +kernel))
end
section
theorem words16 : True := by
  k_with_none
  k_with "ne9" => (refine neN ?_; (try dsimp only); first | with_reducible assumption | exact Ne.symm (by with_reducible assumption) | exact pj0 (by with_reducible assumption) | exact pj1 (by with_reducible assumption) | exact pj2 (by with_reducible assumption) | exact pj3 (by with_reducible assumption) | exact pj4 (by with_reducible assumption) | exact pj5 (by with_reducible assumption) | exact pj6 (by with_reducible assumption) | exact pj7 (by with_reducible assumption) | exact pj8 (by with_reducible assumption) | exact pj9 (by with_reducible assumption) | exact pj10 (by with_reducible assumption) | exact pj11 (by with_reducible assumption) | exact Ne.symm (pj0 (by with_reducible assumption)) | exact Ne.symm (pj1 (by with_reducible assumption)) | exact Ne.symm (pj2 (by with_reducible assumption)) | exact Ne.symm (pj3 (by with_reducible assumption)) | exact Ne.symm (pj4 (by with_reducible assumption)) | exact Ne.symm (pj5 (by with_reducible assumption)) | exact Ne.symm (pj6 (by with_reducible assumption)) | exact Ne.symm (pj7 (by with_reducible assumption)) | exact Ne.symm (pj8 (by with_reducible assumption)) | exact Ne.symm (pj9 (by with_reducible assumption)) | exact Ne.symm (pj10 (by with_reducible assumption)) | exact Ne.symm (pj11 (by with_reducible assumption)) | exact ad1 | exact ad2 | exact ad3 | exact ad4 | exact ad5 | exact ad6 | exact ad7 | exact ad8 | exact Ne.symm ad1 | exact Ne.symm ad2 | exact Ne.symm ad3 | exact Ne.symm ad4 | exact Ne.symm ad5 | exact Ne.symm ad6 | exact Ne.symm ad7 | exact Ne.symm ad8 | exact Nat.ne_of_lt (by with_reducible assumption) | exact Nat.ne_of_gt (by with_reducible assumption) | exact Nat.ne_of_lt (pj0 (by with_reducible assumption)) | exact Nat.ne_of_lt (pj1 (by with_reducible assumption)) | exact Nat.ne_of_lt (pj2 (by with_reducible assumption)) | exact Nat.ne_of_lt (pj3 (by with_reducible assumption)) | exact Nat.ne_of_lt (pj4 (by with_reducible assumption)) | exact Nat.ne_of_lt (pj5 (by with_reducible assumption)) | exact Nat.ne_of_lt (pj6 (by with_reducible assumption)) | exact Nat.ne_of_lt (pj7 (by with_reducible assumption)) | exact Nat.ne_of_lt (pj8 (by with_reducible assumption)) | exact Nat.ne_of_lt (pj9 (by with_reducible assumption)) | exact Nat.ne_of_lt (pj10 (by with_reducible assumption)) | exact Nat.ne_of_lt (pj11 (by with_reducible assumption)) | exact Nat.ne_of_gt (pj0 (by with_reducible assumption)) | exact Nat.ne_of_gt (pj1 (by with_reducible assumption)) | exact Nat.ne_of_gt (pj2 (by with_reducible assumption)) | exact Nat.ne_of_gt (pj3 (by with_reducible assumption)) | exact Nat.ne_of_gt (pj4 (by with_reducible assumption)) | exact Nat.ne_of_gt (pj5 (by with_reducible assumption)) | exact Nat.ne_of_gt (pj6 (by with_reducible assumption)) | exact Nat.ne_of_gt (pj7 (by with_reducible assumption)) | exact Nat.ne_of_gt (pj8 (by with_reducible assumption)) | exact Nat.ne_of_gt (pj9 (by with_reducible assumption)) | exact Nat.ne_of_gt (pj10 (by with_reducible assumption)) | exact Nat.ne_of_gt (pj11 (by with_reducible assumption)) | omega)
  k_with "k_ne" => (walk_at "ne9")
  k_with "k_in" => (refine' in_of ?z48fF ?z48fX; (case z48fF => k_asm); (case z48fX => k_asm))
  k_with "k_mem" => (first | with_reducible assumption | (refine List.mem_append_left _ ?_; with_reducible assumption) | (refine List.mem_cons_of_mem _ ?_; k_mem))
  k_with "call type:type" => (k_here; (with_reducible show wpAny _ _ (call (Value.type "type") [Value.ref _]) _ _ _); k_dflt (refine' kto_cont (T := "tuple") ?z52c ?z52n ?_; (case z52c => exact ⟨_, News.get (by k_asm) (by k_mem), rfl⟩); (case z52n => decide +kernel); k_whole))
  k_with "subscriptTail" => (k_here; (with_reducible show wpAny _ _ (subscriptTail _ _ (Value.ref _) (Value.int _ _)) _ _ _); k_dflt (refine' tup_n ?z53k1 ?z53k2 ?z53k3 ?z53k4 ?z53k5 ?z53k6 ?z53k7 ?z53k8 ?_ ?z53k9 ?z53k10; (case z53k1 => k_asm); (case z53k2 => with_reducible assumption); (case z53k3 => exact rfl); (case z53k4 => exact rfl); (case z53k5 => decide); (case z53k6 => decide); (case z53k7 => exact rfl); (case z53k8 => exact rfl); (case z53k9 => with_unfolding_all rfl); (case z53k10 => (intro _; with_unfolding_all rfl)); k_whole))
  k_with "call builtin:len" => (k_here; (with_reducible show wpAny _ _ (call (Value.builtin "len") [Value.ref _]) _ _ _); k_dflt (refine' kun_lenT (k := 2) ?z54k1 ?z54k2 ?z54k3 ?_; (case z54k1 => exact ⟨_, News.get (by k_asm) (by k_mem), rfl, _, rfl⟩); (case z54k2 => exact rfl); (case z54k3 => decide); k_whole))
  k_with "hat9" => (first | exact News.get (by k_asm) (by k_mem) | exact Fr.keep (by k_asm) _ _ (by with_reducible assumption) | exact Tk.get (by k_asm) (by k_asm) (by with_reducible assumption) (by intro p9 hp9; first | exact hp9 | exact absurd hp9 List.not_mem_nil | (repeat (first | exact hp9 | refine List.mem_cons_of_mem _ ?_))) | exact Frag.In.keeps (by k_asm) (Fr.keep (by k_asm)) _ _ (by k_is))
  k_with "bits_by_make" => (with_reducible assumption)
  k_with "ktr_units" => ((try simp only [units_under_make, units_in1, units_deeper, Around.mark_units, units_caller]); (try dsimp only [ktrTop]); first | exact un1 (by with_reducible assumption) (Nat.le_of_ble_eq_true rfl) | exact un2 (by with_reducible assumption) (Nat.le_of_ble_eq_true rfl) | exact un3 (by with_reducible assumption) (Nat.le_of_ble_eq_true rfl) | (have hcL9 := cLine_is; omega))
  k_with "call ref" => (k_here; (with_reducible show wpAny _ _ (call (Value.ref 69) [Value.int _ _, Value.int _ _]) _ _ _); k_dflt (refine' frac_use ?z55k1 ?z55k2 ?z55k3 ?z55k4 ?z55k5 ?z55k6 ?z55k7 ?z55k8 ?z55k9 ?z55k10 ?z55k11 ?z55k12 ?z55k13 ?_; (case z55k1 => k_asm); (case z55k2 => k_asm); (case z55k3 => k_asm); (case z55k4 => k_asm); (case z55k5 => k_asm); (case z55k6 => first | exact rfl | assumption); (case z55k7 => first | exact Nat.le_of_ble_eq_true rfl | ktr_room); (case z55k8 => first | exact Nat.le_of_ble_eq_true rfl | ktr_units); (case z55k10 => bits_by_make); (case z55k11 => bits_by_make); (case z55k12 => decide); (case z55k13 => decide); (case z55k9 => first | exact nzden _ | omega | ((try k_fmods); omega) | (refine nzmul ?_ ?_ <;> first | exact nzden _ | omega)); k_whole); walk_at "i5"; (try k_sweep))
  k_with "compareOp NotEq ref ref" => (k_here; (with_reducible show wpAny _ _ (compareOp CmpOp.NotEq (Value.ref _) (Value.ref _)) _ _ _); k_dflt (refine' ne_T2b (b := true) ?z56k2 ?z56k3 ?z56k4 ?z56k5 ?_; (case z56k2 => first | exact Fr.keep (by k_asm) _ _ (by with_reducible assumption) | exact News.get (by k_asm) (by k_mem)); (case z56k3 => first | exact Fr.keep (by k_asm) _ _ (by with_reducible assumption) | exact News.get (by k_asm) (by k_mem)); (case z56k4 => first | exact Nat.le_of_ble_eq_true rfl | ktr_units); (case z56k5 => decide +kernel)))
  trivial
theorem need_24 {w : World} {p : Program} {loose : List Str} {mean : ExcName → Option Value} {mg mb : Str → Option Value} {dp un : Nat} {gd : Option (List Code)} {cn : Str} {cs : Scope} {a : Addr} {ccd : Value} {cl : List (Str × Addr)} {outer : List Env} {A₀ : Around} {base h₀ : Heap} {L : Addr} {m : Str → Option Value} {news : List (Addr × Obj)} {s : Shared} {Q E : Value → Shared → Prop} {D2 : Addr} {D1 : Addr} {t1 t1' : Tok} {c1 : Nat}
    (B : Below A₀ base outer h₀) (F : Fr h₀ L s.heap m) (X : (HD.K w.params).In h₀) (N : News h₀ L s.heap news) (T : Top p loose mean mg mb h₀) (hk : cs.kind = .function) (e1 : (D1, T2 2 4 t1 t1' c1) ∈ news)
    (hd : dp + 8 < recursionLimit) (hu : un + 200 < cLine)
    (hE : ∀ (T9 : Str) (g : Heap) (e t : Addr) (u : Tok) (h' : Heap) (tk' : Nat), Fr h₀ L g m → g.UpToSlots h' → RaisedK base (envX cn cs L a ccd cl :: outer) e (.ref 24) t [.str T9 u] news h' → E (.ref e) { s with heap := h', toks := tk' }) :
    wpAny (model PySem.Challenge.rw_ui0509_08.row.prog w) (ktrTop dp un gd cn cs L a ccd cl outer) (call (.ref 77) [.ref D1, .ref D2]) Q E s := by
  w_top off
  revert X; k_fill; intro X
  refine wpAny_call ?_
  k_dflt (refine' code_need news ?k1 ?k2 ?k3 ?k4 ?k5 ?kA ?kF ?kK ?k6 ?k7 ?k8 ?k9 ?kB ?kN ?_ ?c2 ?c3 ?c4 ?c5; (case kA => exact rfl); (case kF => exact rfl); (case kK => assumption); (case k1 => k_asm); (case k2 => k_asm); (case k3 => k_asm); (case k4 => k_asm); (case k5 => k_asm); (case k6 => k_is); (case k7 => k_is); (case k8 => ktr_room); (case k9 => first | exact BindsTo.of_eq rfl | exact binds_K (by k_in) rfl (by k_is) rfl rfl rfl); (case c5 => decide); (case kB => exact locs rfl); (case kN => exact fun _ h => h); (case c2 => exact rfl); (case c3 => exact rfl); (case c4 => exact rfl); k_whole; intro g' L' h' tk0 FG' F' N' B' X' T' hG'; (try dsimp only); (try k_fold))
  have hb1 : Builtin.Int.intBits 2 ≤ 4 := by decide
  have hb2 : Builtin.Int.intBits 4 ≤ 4 := by decide
  k_steps
  all_goals first | exact hE _ _ _ _ _ _ _ (by assumption) (by assumption) (by assumption) | exact hE _ _ _ _ _ _ _ (by assumption) (by assumption) (raisedK_mono (fun p hp => List.mem_cons_of_mem _ hp) (by assumption)) | (exfalso; omega) | (exfalso; (rename _ = Rat.divInt 2 4 => e9); subst e9; (rename (_ && _) = true => k9); exact absurd k9 (by decide +kernel))
end
section
theorem words17 : True := by
  k_with_none
  k_with "ne9" => (refine neN ?_; (try dsimp only); first | with_reducible assumption | exact Ne.symm (by with_reducible assumption) | exact pj0 (by with_reducible assumption) | exact pj1 (by with_reducible assumption) | exact pj2 (by with_reducible assumption) | exact pj3 (by with_reducible assumption) | exact pj4 (by with_reducible assumption) | exact pj5 (by with_reducible assumption) | exact pj6 (by with_reducible assumption) | exact pj7 (by with_reducible assumption) | exact pj8 (by with_reducible assumption) | exact pj9 (by with_reducible assumption) | exact pj10 (by with_reducible assumption) | exact pj11 (by with_reducible assumption) | exact Ne.symm (pj0 (by with_reducible assumption)) | exact Ne.symm (pj1 (by with_reducible assumption)) | exact Ne.symm (pj2 (by with_reducible assumption)) | exact Ne.symm (pj3 (by with_reducible assumption)) | exact Ne.symm (pj4 (by with_reducible assumption)) | exact Ne.symm (pj5 (by with_reducible assumption)) | exact Ne.symm (pj6 (by with_reducible assumption)) | exact Ne.symm (pj7 (by with_reducible assumption)) | exact Ne.symm (pj8 (by with_reducible assumption)) | exact Ne.symm (pj9 (by with_reducible assumption)) | exact Ne.symm (pj10 (by with_reducible assumption)) | exact Ne.symm (pj11 (by with_reducible assumption)) | exact ad1 | exact ad2 | exact ad3 | exact ad4 | exact ad5 | exact ad6 | exact ad7 | exact ad8 | exact Ne.symm ad1 | exact Ne.symm ad2 | exact Ne.symm ad3 | exact Ne.symm ad4 | exact Ne.symm ad5 | exact Ne.symm ad6 | exact Ne.symm ad7 | exact Ne.symm ad8 | exact Nat.ne_of_lt (by with_reducible assumption) | exact Nat.ne_of_gt (by with_reducible assumption) | exact Nat.ne_of_lt (pj0 (by with_reducible assumption)) | exact Nat.ne_of_lt (pj1 (by with_reducible assumption)) | exact Nat.ne_of_lt (pj2 (by with_reducible assumption)) | exact Nat.ne_of_lt (pj3 (by with_reducible assumption)) | exact Nat.ne_of_lt (pj4 (by with_reducible assumption)) | exact Nat.ne_of_lt (pj5 (by with_reducible assumption)) | exact Nat.ne_of_lt (pj6 (by with_reducible assumption)) | exact Nat.ne_of_lt (pj7 (by with_reducible assumption)) | exact Nat.ne_of_lt (pj8 (by with_reducible assumption)) | exact Nat.ne_of_lt (pj9 (by with_reducible assumption)) | exact Nat.ne_of_lt (pj10 (by with_reducible assumption)) | exact Nat.ne_of_lt (pj11 (by with_reducible assumption)) | exact Nat.ne_of_gt (pj0 (by with_reducible assumption)) | exact Nat.ne_of_gt (pj1 (by with_reducible assumption)) | exact Nat.ne_of_gt (pj2 (by with_reducible assumption)) | exact Nat.ne_of_gt (pj3 (by with_reducible assumption)) | exact Nat.ne_of_gt (pj4 (by with_reducible assumption)) | exact Nat.ne_of_gt (pj5 (by with_reducible assumption)) | exact Nat.ne_of_gt (pj6 (by with_reducible assumption)) | exact Nat.ne_of_gt (pj7 (by with_reducible assumption)) | exact Nat.ne_of_gt (pj8 (by with_reducible assumption)) | exact Nat.ne_of_gt (pj9 (by with_reducible assumption)) | exact Nat.ne_of_gt (pj10 (by with_reducible assumption)) | exact Nat.ne_of_gt (pj11 (by with_reducible assumption)) | omega)
  k_with "k_ne" => (walk_at "ne9")
  k_with "k_in" => (refine' in_of ?z48fF ?z48fX; (case z48fF => k_asm); (case z48fX => k_asm))
  k_with "k_mem" => (first | with_reducible assumption | (refine List.mem_append_left _ ?_; with_reducible assumption) | (refine List.mem_cons_of_mem _ ?_; k_mem))
  k_with "call type:type" => (k_here; (with_reducible show wpAny _ _ (call (Value.type "type") [Value.ref _]) _ _ _); k_dflt (refine' kto_cont (T := "tuple") ?z57c ?z57n ?_; (case z57c => exact ⟨_, News.get (by k_asm) (by k_mem), rfl⟩); (case z57n => decide +kernel); k_whole))
  k_with "subscriptTail" => (k_here; (with_reducible show wpAny _ _ (subscriptTail _ _ (Value.ref _) (Value.int _ _)) _ _ _); k_dflt (refine' tup_n ?z58k1 ?z58k2 ?z58k3 ?z58k4 ?z58k5 ?z58k6 ?z58k7 ?z58k8 ?_ ?z58k9 ?z58k10; (case z58k1 => k_asm); (case z58k2 => with_reducible assumption); (case z58k3 => exact rfl); (case z58k4 => exact rfl); (case z58k5 => decide); (case z58k6 => decide); (case z58k7 => exact rfl); (case z58k8 => exact rfl); (case z58k9 => with_unfolding_all rfl); (case z58k10 => (intro _; with_unfolding_all rfl)); k_whole))
  k_with "call builtin:len" => (k_here; (with_reducible show wpAny _ _ (call (Value.builtin "len") [Value.ref _]) _ _ _); k_dflt (refine' kun_lenT (k := 2) ?z59k1 ?z59k2 ?z59k3 ?_; (case z59k1 => exact ⟨_, News.get (by k_asm) (by k_mem), rfl, _, rfl⟩); (case z59k2 => exact rfl); (case z59k3 => decide); k_whole))
  k_with "call ref" => (k_here; (with_reducible show wpAny _ _ (call (Value.ref 69) [Value.int _ _, Value.int _ _]) _ _ _); k_dflt (refine' frac_sf ?z60k1 ?z60k2 ?z60k3 ?z60k4 ?z60k5 ?z60k6 ?z60k7 ?z60k8 ?z60k10 ?z60k11 ?_; (case z60k1 => k_asm); (case z60k2 => k_asm); (case z60k3 => k_asm); (case z60k4 => k_asm); (case z60k5 => k_asm); (case z60k6 => first | exact rfl | assumption); (case z60k7 => first | exact Nat.le_of_ble_eq_true rfl | ktr_room); (case z60k8 => first | exact Nat.le_of_ble_eq_true rfl | ktr_units); (case z60k10 => assumption); (case z60k11 => assumption); k_whole); walk_at "i2"; (try k_sweep))
  k_with "call ref" => (k_here; (with_reducible show wpAny _ _ (call (Value.ref 119) [Value.ref _, Value.ref _]) _ _ _); k_dflt (refine' less_c ?z61k1 ?z61k2 ?z61k3 ?z61k4 ?z61k5 ?z61k6 ?z61m1 ?z61m2 ?z61k7 ?z61k8 ?z61k10 ?z61k11 ?_; (case z61k1 => k_asm); (case z61k2 => k_asm); (case z61k3 => k_asm); (case z61k4 => k_asm); (case z61k5 => k_asm); (case z61k6 => first | exact rfl | assumption); (case z61k7 => first | exact Nat.le_of_ble_eq_true rfl | ktr_room); (case z61k8 => first | exact Nat.le_of_ble_eq_true rfl | ktr_units); (case z61m1 => exact News.get (by k_asm) (by k_mem)); (case z61m2 => exact News.get (by k_asm) (by k_mem)); (case z61k10 => assumption); (case z61k11 => assumption); k_whole); walk_at "i3"; (try k_sweep))
  k_with "compareOp NotEq ref ref" => (k_here; (with_reducible show wpAny _ _ (compareOp CmpOp.NotEq (Value.ref _) (Value.ref _)) _ _ _); k_dflt (refine' ne_T2h ?z62k2 ?z62k3 ?z62k4 ?_; (case z62k2 => first | exact Fr.keep (by k_asm) _ _ (by with_reducible assumption) | exact News.get (by k_asm) (by k_mem)); (case z62k3 => first | exact Fr.keep (by k_asm) _ _ (by with_reducible assumption) | exact News.get (by k_asm) (by k_mem)); (case z62k4 => first | exact Nat.le_of_ble_eq_true rfl | ktr_units)); (try simp only [beq_self_eq_true, Bool.and_true, Bool.true_and, Bool.not_true, Bool.not_false]))
  k_with "call ref" => (k_here; (with_reducible show wpAny _ _ (call (Value.ref 161) [Value.ref _]) _ _ _); k_dflt (refine' show_c ?z63k1 ?z63k2 ?z63k3 ?z63k4 ?z63k5 ?z63k6 ?z63m1 ?z63hx ?z63hx2 ?z63hy ?z63hy2 ?z63k7 ?z63k8 ?_; (case z63k1 => k_asm); (case z63k2 => k_asm); (case z63k3 => k_asm); (case z63k4 => k_asm); (case z63k5 => k_asm); (case z63k6 => first | exact rfl | assumption); (case z63k7 => first | exact Nat.le_of_ble_eq_true rfl | ktr_room); (case z63k8 => first | exact Nat.le_of_ble_eq_true rfl | ktr_units); (case z63m1 => first | exact Fr.keep (by k_asm) _ _ (by with_reducible assumption) | exact News.get (by k_asm) (by k_mem)); (case z63hx => assumption); (case z63hx2 => assumption); (case z63hy => assumption); (case z63hy2 => assumption); k_whole); walk_at "i13"; (try k_sweep))
  trivial
theorem need_13 {w : World} {p : Program} {loose : List Str} {mean : ExcName → Option Value} {mg mb : Str → Option Value} {dp un : Nat} {gd : Option (List Code)} {cn : Str} {cs : Scope} {a : Addr} {ccd : Value} {cl : List (Str × Addr)} {outer : List Env} {A₀ : Around} {base h₀ : Heap} {L : Addr} {m : Str → Option Value} {news : List (Addr × Obj)} {s : Shared} {Q E : Value → Shared → Prop} {D2 : Addr} {D1 : Addr} {t1 t1' t2 t2' : Tok} {c1 c2 : Nat}
    (B : Below A₀ base outer h₀) (F : Fr h₀ L s.heap m) (X : (HD.K w.params).In h₀) (N : News h₀ L s.heap news) (T : Top p loose mean mg mb h₀) (hk : cs.kind = .function) (e1 : (D1, RatO (Rat.divInt (-1) 3) t1 t1' c1) ∈ news) (e2 : (D2, T2 0 1 t2 t2' c2) ∈ news)
    (hd : dp + 8 < recursionLimit) (hu : un + 200 < cLine)
    (hE : ∀ (T9 : Str) (g : Heap) (e t : Addr) (u : Tok) (h' : Heap) (tk' : Nat), Fr h₀ L g m → g.UpToSlots h' → RaisedK base (envX cn cs L a ccd cl :: outer) e (.ref 24) t [.str T9 u] news h' → E (.ref e) { s with heap := h', toks := tk' }) :
    wpAny (model PySem.Challenge.rw_ui0509_08.row.prog w) (ktrTop dp un gd cn cs L a ccd cl outer) (call (.ref 77) [.ref D1, .ref D2]) Q E s := by
  w_top off
  revert X; k_fill; intro X
  refine wpAny_call ?_
  k_dflt (refine' code_need news ?k1 ?k2 ?k3 ?k4 ?k5 ?kA ?kF ?kK ?k6 ?k7 ?k8 ?k9 ?kB ?kN ?_ ?c2 ?c3 ?c4 ?c5; (case kA => exact rfl); (case kF => exact rfl); (case kK => assumption); (case k1 => k_asm); (case k2 => k_asm); (case k3 => k_asm); (case k4 => k_asm); (case k5 => k_asm); (case k6 => k_is); (case k7 => k_is); (case k8 => ktr_room); (case k9 => first | exact BindsTo.of_eq rfl | exact binds_K (by k_in) rfl (by k_is) rfl rfl rfl); (case c5 => decide); (case kB => exact locs rfl); (case kN => exact fun _ h => h); (case c2 => exact rfl); (case c3 => exact rfl); (case c4 => exact rfl); k_whole; intro g' L' h' tk0 FG' F' N' B' X' T' hG'; (try dsimp only); (try k_fold))
  have z1 : -100000 ≤ (Rat.divInt (-1) 3).num := by decide +kernel
  have z2 : (Rat.divInt (-1) 3).num ≤ 100000 := by decide +kernel
  have z3 : 1 ≤ ((Rat.divInt (-1) 3).den : Int) := by decide +kernel
  have z4 : ((Rat.divInt (-1) 3).den : Int) ≤ 100000 := by decide +kernel
  have z5 : Fits (Rat.divInt (-1) 3).num := Fits.of (n := 4) (by decide +kernel) (by decide)
  have z6 : Fits ((Rat.divInt (-1) 3).den : Int) := Fits.of (n := 4) (by decide +kernel) (by decide)
  have z7 : IntMulOk (Rat.divInt (-1) 3).num 1 := mulOk_of_bits (m := 4) (n := 4) (by decide +kernel) (by decide +kernel) (by omega)
  have z8 : IntMulOk 0 ((Rat.divInt (-1) 3).den : Int) := mulOk_of_bits (m := 4) (n := 4) (by decide +kernel) (by decide +kernel) (by omega)
  have z9 : (Rat.divInt (-1) 3).num * 1 < 0 * ((Rat.divInt (-1) 3).den : Int) := by decide +kernel
  have zl : (shT (Rat.divInt (-1) 3).num ((Rat.divInt (-1) 3).den : Int)).length ≤ 30 := by decide +kernel
  k_steps
  all_goals first | exact hE _ _ _ _ _ _ _ (by assumption) (by assumption) (by assumption) | exact hE _ _ _ _ _ _ _ (by assumption) (by assumption) (raisedK_mono (fun p hp => List.mem_cons_of_mem _ hp) (by assumption)) | (exfalso; omega) | (exfalso; (rename _ = Rat.divInt 2 4 => e9); subst e9; (rename (_ && _) = true => k9); exact absurd k9 (by decide +kernel))
end
end
section
theorem ok_list {x : Str} {m : Nat} (hx : x.cps.toList = cD m) (h : m < 10 ^ 10) : okP x := by
  rw [str_of_list hx]; exact ok_cD h
theorem one_mem {P : Str → Prop} {a : Str} (h : P a) : ∀ p ∈ [a], P p := fcons h (List.forall_mem_nil _)
theorem two_mem {P : Str → Prop} {a b : Str} (h : P a) (k : P b) : ∀ p ∈ [a, b], P p := fcons h (one_mem k)
theorem slash_list (a b : Str) : (a ++ Str.ofString "/" ++ b).cps.toList = a.cps.toList ++ 47 :: b.cps.toList := by
  rw [KT.app_list, KT.app_list, show (Str.ofString "/").cps.toList = [47] by decide +kernel]; simp
def okB (p : Str) : Bool := !(p == Str.ofString "") && decide (p.length ≤ 2000) && p.cps.toList.all fun c => decide (48 ≤ c) && decide (c ≤ 57)
theorem okB_of {p : Str} (h : okP p) : okB p = true := by
  obtain ⟨h1, h2, h3⟩ := h
  unfold okB
  rw [decide_eq_true h2, beq_eq_false_iff_ne.mpr h1, Bool.not_false, Bool.true_and, Bool.true_and, List.all_eq_true]
  intro c hc
  have := h3 c hc
  rw [decide_eq_true this.1, decide_eq_true this.2]; rfl
theorem not_ok {p : Str} (h : okB p = false) : ¬ okP p := fun k => by rw [okB_of k] at h; cases h
theorem read_sh {w : World} {p : Program} {loose : List Str} {mean : ExcName → Option Value} {mg mb : Str → Option Value} {dp un : Nat} {gd : Option (List Code)} {cn : Str} {cs : Scope} {a : Addr} {ccd : Value} {cl : List (Str × Addr)} {outer : List Env} {A₀ : Around} {base h₀ : Heap} {L : Addr} {m : Str → Option Value} {news : List (Addr × Obj)} {s : Shared} {Q E : Value → Shared → Prop} {x y : Int} {t4 : Tok}
    (B : Below A₀ base outer h₀) (F : Fr h₀ L s.heap m) (X : (HD.K w.params).In h₀) (N : News h₀ L s.heap news) (T : Top p loose mean mg mb h₀) (hk : cs.kind = .function) (hx : -100000 ≤ x) (hx2 : x ≤ 100000) (hy : 1 ≤ y) (hy2 : y ≤ 100000) (hd : dp + 10 < recursionLimit) (hu : un + 300 < cLine)
    (hret : ∀ (D : Addr) (t t' : Tok) (c : Nat) (h' : Heap) (tk' : Nat), Fr h₀ L h' m → News h₀ L h' ((D, RatO (Rat.divInt x y) t t' c) :: news) → (∀ p ∈ news, p.1 ≠ D) → Q (.ref D) { s with heap := h', toks := tk' }) :
    wpAny (model PySem.Challenge.rw_ui0509_08.row.prog w) (ktrTop dp un gd cn cs L a ccd cl outer) (call (.ref 166) [.str (shT x y) t4]) Q E s := by
  have hbx : Builtin.Int.intBits x ≤ 64 := PySem.intBits_le_64 (by omega) (by omega)
  have hby : Builtin.Int.intBits y ≤ 64 := PySem.intBits_le_64 (by omega) (by omega)
  by_cases h1 : y = 1
  · subst h1
    rw [show shT x 1 = Str.ofString (toString x) from if_pos rfl]
    by_cases h0 : 0 ≤ x
    · obtain ⟨k, rfl⟩ := nat_of h0
      have hl : (Str.ofString (toString ((k : Nat) : Int))).cps.toList = cD k := sN_pos k
      have hk9 : k < 10 ^ 10 := by omega
      obtain ⟨p1, p2, p3⟩ := part_no (x := Str.ofString (toString ((k : Nat) : Int))) (by rw [hl]; exact no_slash)
      have hle := sN_le hl hk9
      have ok := one_mem (ok_list hl hk9)
      exact read_p0 B F X N T hk (Nat.le_trans hle (by decide)) (Nat.le_trans hle (by decide)) hd hu p1 p2 p3 (dash_no hl) (one_mem (P := fun p => p.cps.all (· < 128) = true) (cD_asc hl)) (fun _ => ⟨it_pos hl hk9, Nat.le_trans hle (by decide), hbx, rfl, hby⟩) (fun _ _ => hret) (fun q => absurd q (fun q => q.elim (fun q => q ok) (fun q => absurd q (by decide))))
    · obtain ⟨k, rfl⟩ := neg_of h0
      have hl : (Str.ofString (toString (-((k + 1 : Nat) : Int)))).cps.toList = 45 :: cD (k + 1) := sN_neg k
      have hk9 : k + 1 < 10 ^ 10 := by omega
      obtain ⟨p1, p2, p3⟩ := part_no (x := Str.ofString (toString (-((k + 1 : Nat) : Int)))) (by rw [hl]; exact no_slash2)
      have hle := sN_le2 hl hk9
      have es := sliceT hl
      have hls : (Txt.slice (Str.ofString (toString (-((k + 1 : Nat) : Int)))) (some 1) none).cps.toList = cD (k + 1) := by rw [es]
      have ok := one_mem (ok_list hls hk9)
      exact read_n0 B F X N T hk (Nat.le_trans hle (by decide)) (Nat.le_trans hle (by decide)) hd hu p1 p2 p3 (dash_yes hl) (one_mem (P := fun p => p.cps.all (· < 128) = true) (cD_asc hls)) (fun _ => ⟨it_neg hl hk9, Nat.le_trans hle (by decide), hbx, rfl, hby⟩) (fun _ _ => hret) (fun q => absurd q (fun q => q.elim (fun q => q ok) (fun q => absurd q (by decide))))
  · rw [show shT x y = Str.ofString (toString x) ++ Str.ofString "/" ++ Str.ofString (toString y) from if_neg h1]
    obtain ⟨j, rfl⟩ := nat_of (show 0 ≤ y by omega)
    have hj9 : j < 10 ^ 10 := by omega
    have hj : (Str.ofString (toString ((j : Nat) : Int))).cps.toList = cD j := sN_pos j
    have okj : okP ⟨(cD j).toArray⟩ := ok_cD hj9
    have lej : (⟨(cD j).toArray⟩ : Str).length ≤ 10 := sN_le rfl hj9
    by_cases h0 : 0 ≤ x
    · obtain ⟨k, rfl⟩ := nat_of h0
      have hl : (Str.ofString (toString ((k : Nat) : Int))).cps.toList = cD k := sN_pos k
      have hk9 : k < 10 ^ 10 := by omega
      have hs : (Str.ofString (toString ((k : Nat) : Int)) ++ Str.ofString "/" ++ Str.ofString (toString ((j : Nat) : Int))).cps.toList = cD k ++ 47 :: cD j := by rw [slash_list, hl, hj]
      obtain ⟨p1, p2, p3⟩ := part_at hs no_slash
      have hlt : (Str.ofString (toString ((k : Nat) : Int)) ++ Str.ofString "/" ++ Str.ofString (toString ((j : Nat) : Int))).length ≤ 3000 := by
        rw [list_len, hs, List.length_append, List.length_cons]
        have := cD_len hk9; have := cD_len hj9; omega
      have lek : (⟨(cD k).toArray⟩ : Str).length ≤ 10 := sN_le rfl hk9
      have ok := two_mem (ok_cD hk9) okj
      exact read_ps B F X N T hk hlt (Nat.le_trans lek (by decide)) (Nat.le_trans lej (by decide)) hd hu p1 p2 p3 (dash_no rfl) (two_mem (P := fun p => p.cps.all (· < 128) = true) (cD_asc rfl) (cD_asc rfl)) (fun _ => ⟨it_pos rfl hk9, Nat.le_trans lek (by decide), hbx, it_pos rfl hj9, Nat.le_trans lej (by decide), hby⟩) (fun _ _ => hret) (fun q => absurd q (fun q => q.elim (fun q => q ok) (fun q => by omega)))
    · obtain ⟨k, rfl⟩ := neg_of h0
      have hl : (Str.ofString (toString (-((k + 1 : Nat) : Int)))).cps.toList = 45 :: cD (k + 1) := sN_neg k
      have hk9 : k + 1 < 10 ^ 10 := by omega
      have hs : (Str.ofString (toString (-((k + 1 : Nat) : Int))) ++ Str.ofString "/" ++ Str.ofString (toString ((j : Nat) : Int))).cps.toList = (45 :: cD (k + 1)) ++ 47 :: cD j := by rw [slash_list, hl, hj]
      obtain ⟨p1, p2, p3⟩ := part_at hs no_slash2
      have hlt : (Str.ofString (toString (-((k + 1 : Nat) : Int))) ++ Str.ofString "/" ++ Str.ofString (toString ((j : Nat) : Int))).length ≤ 3000 := by
        rw [list_len, hs, List.length_append, List.length_cons, List.length_cons]
        have := cD_len hk9; have := cD_len hj9; omega
      have lek : (⟨(45 :: cD (k + 1)).toArray⟩ : Str).length ≤ 11 := sN_le2 rfl hk9
      have es := sliceT (x := ⟨(45 :: cD (k + 1)).toArray⟩) (c := 45) (l := cD (k + 1)) rfl
      have hls : (Txt.slice ⟨(45 :: cD (k + 1)).toArray⟩ (some 1) none).cps.toList = cD (k + 1) := by rw [es]
      have ok := two_mem (ok_list hls hk9) okj
      exact read_ns B F X N T hk hlt (Nat.le_trans lek (by decide)) (Nat.le_trans lej (by decide)) hd hu p1 p2 p3 (dash_yes rfl) (two_mem (P := fun p => p.cps.all (· < 128) = true) (cD_asc hls) (cD_asc rfl)) (fun _ => ⟨it_neg rfl hk9, Nat.le_trans lek (by decide), hbx, it_pos rfl hj9, Nat.le_trans lej (by decide), hby⟩) (fun _ _ => hret) (fun q => absurd q (fun q => q.elim (fun q => q ok) (fun q => by omega)))
def BadT (tx : Str) : Prop := tx = (Str.ofString "") ∨ tx = (Str.ofString "-") ∨ tx = (Str.ofString "1.5") ∨ tx = (Str.ofString "1/0") ∨ tx = (Str.ofString "1/") ∨ tx = (Str.ofString "/2") ∨ tx = (Str.ofString "x") ∨ tx = (Str.ofString "+1") ∨ tx = Txt.mul (Str.ofString "1") 2001 ∨ tx = (Str.ofString "--1") ∨ tx = (Str.ofString "1/-2") ∨ tx = (Str.ofString " 1")
theorem read_bad {w : World} {p : Program} {loose : List Str} {mean : ExcName → Option Value} {mg mb : Str → Option Value} {dp un : Nat} {gd : Option (List Code)} {cn : Str} {cs : Scope} {a : Addr} {ccd : Value} {cl : List (Str × Addr)} {outer : List Env} {A₀ : Around} {base h₀ : Heap} {L : Addr} {m : Str → Option Value} {news : List (Addr × Obj)} {s : Shared} {Q E : Value → Shared → Prop} {tx : Str} {t4 : Tok}
    (B : Below A₀ base outer h₀) (F : Fr h₀ L s.heap m) (X : (HD.K w.params).In h₀) (N : News h₀ L s.heap news) (T : Top p loose mean mg mb h₀) (hk : cs.kind = .function) (hb : BadT tx) (hd : dp + 10 < recursionLimit) (hu : un + 300 < cLine)
    (hE : ∀ (T9 : Str) (g : Heap) (e t : Addr) (u : Tok) (h' : Heap) (tk' : Nat), Fr h₀ L g m → g.UpToSlots h' → RaisedK base (envX cn cs L a ccd cl :: outer) e (.ref 24) t [.str T9 u] news h' → E (.ref e) { s with heap := h', toks := tk' }) :
    wpAny (model PySem.Challenge.rw_ui0509_08.row.prog w) (ktrTop dp un gd cn cs L a ccd cl outer) (call (.ref 166) [.str tx t4]) Q E s := by
  rcases hb with rfl | rfl | rfl | rfl | rfl | rfl | rfl | rfl | rfl | rfl | rfl | rfl
  · exact read_p0 (tx := (Str.ofString "")) (U := (Str.ofString "")) (n := 0) (d := 1) B F X N T hk (by decide +kernel) (by decide +kernel) hd hu (by decide +kernel) (by decide +kernel) (by decide +kernel) (by decide +kernel) (one_mem (P := fun p => p.cps.all (· < 128) = true) (by decide +kernel)) (fun k => absurd (k _ (List.mem_cons_self ..)) (not_ok (by decide +kernel))) (fun k => absurd (k _ (List.mem_cons_self ..)) (not_ok (by decide +kernel))) (fun _ => hE)
  · exact read_n0 (tx := (Str.ofString "-")) (U := (Str.ofString "-")) (n := 0) (d := 1) B F X N T hk (by decide +kernel) (by decide +kernel) hd hu (by decide +kernel) (by decide +kernel) (by decide +kernel) (by decide +kernel) (one_mem (P := fun p => p.cps.all (· < 128) = true) (by decide +kernel)) (fun k => absurd (k _ (List.mem_cons_self ..)) (not_ok (by decide +kernel))) (fun k => absurd (k _ (List.mem_cons_self ..)) (not_ok (by decide +kernel))) (fun _ => hE)
  · exact read_p0 (tx := (Str.ofString "1.5")) (U := (Str.ofString "1.5")) (n := 0) (d := 1) B F X N T hk (by decide +kernel) (by decide +kernel) hd hu (by decide +kernel) (by decide +kernel) (by decide +kernel) (by decide +kernel) (one_mem (P := fun p => p.cps.all (· < 128) = true) (by decide +kernel)) (fun k => absurd (k _ (List.mem_cons_self ..)) (not_ok (by decide +kernel))) (fun k => absurd (k _ (List.mem_cons_self ..)) (not_ok (by decide +kernel))) (fun _ => hE)
  · exact read_ps (tx := (Str.ofString "1/0")) (U := (Str.ofString "1")) (W := (Str.ofString "0")) (n := 1) (d := 0) B F X N T hk (by decide +kernel) (by decide +kernel) (by decide +kernel) hd hu (by decide +kernel) (by decide +kernel) (by decide +kernel) (by decide +kernel) (two_mem (P := fun p => p.cps.all (· < 128) = true) (by decide +kernel) (by decide +kernel)) (fun _ => ⟨(by decide +kernel), (by decide +kernel), (by decide +kernel), (by decide +kernel), (by decide +kernel), (by decide +kernel)⟩) (fun _ k => absurd rfl k) (fun _ => hE)
  · exact read_ps (tx := (Str.ofString "1/")) (U := (Str.ofString "1")) (W := (Str.ofString "")) (n := 1) (d := 0) B F X N T hk (by decide +kernel) (by decide +kernel) (by decide +kernel) hd hu (by decide +kernel) (by decide +kernel) (by decide +kernel) (by decide +kernel) (two_mem (P := fun p => p.cps.all (· < 128) = true) (by decide +kernel) (by decide +kernel)) (fun k => absurd (k _ (List.mem_cons_of_mem _ (List.mem_cons_self ..))) (not_ok (by decide +kernel))) (fun k => absurd (k _ (List.mem_cons_of_mem _ (List.mem_cons_self ..))) (not_ok (by decide +kernel))) (fun _ => hE)
  · exact read_ps (tx := (Str.ofString "/2")) (U := (Str.ofString "")) (W := (Str.ofString "2")) (n := 1) (d := 0) B F X N T hk (by decide +kernel) (by decide +kernel) (by decide +kernel) hd hu (by decide +kernel) (by decide +kernel) (by decide +kernel) (by decide +kernel) (two_mem (P := fun p => p.cps.all (· < 128) = true) (by decide +kernel) (by decide +kernel)) (fun k => absurd (k _ (List.mem_cons_self ..)) (not_ok (by decide +kernel))) (fun k => absurd (k _ (List.mem_cons_self ..)) (not_ok (by decide +kernel))) (fun _ => hE)
  · exact read_p0 (tx := (Str.ofString "x")) (U := (Str.ofString "x")) (n := 0) (d := 1) B F X N T hk (by decide +kernel) (by decide +kernel) hd hu (by decide +kernel) (by decide +kernel) (by decide +kernel) (by decide +kernel) (one_mem (P := fun p => p.cps.all (· < 128) = true) (by decide +kernel)) (fun k => absurd (k _ (List.mem_cons_self ..)) (not_ok (by decide +kernel))) (fun k => absurd (k _ (List.mem_cons_self ..)) (not_ok (by decide +kernel))) (fun _ => hE)
  · exact read_p0 (tx := (Str.ofString "+1")) (U := (Str.ofString "+1")) (n := 0) (d := 1) B F X N T hk (by decide +kernel) (by decide +kernel) hd hu (by decide +kernel) (by decide +kernel) (by decide +kernel) (by decide +kernel) (one_mem (P := fun p => p.cps.all (· < 128) = true) (by decide +kernel)) (fun k => absurd (k _ (List.mem_cons_self ..)) (not_ok (by decide +kernel))) (fun k => absurd (k _ (List.mem_cons_self ..)) (not_ok (by decide +kernel))) (fun _ => hE)
  · have ey : Str.ofString "1" = ⟨#[49]⟩ := by decide +kernel
    have hl : (Txt.mul (Str.ofString "1") 2001).cps.toList = List.replicate 2001 49 := by rw [ey]; exact mul_one_list 49 2001
    have hlen : (Txt.mul (Str.ofString "1") 2001).length = 2001 := by rw [list_len, hl, List.length_replicate]
    have hno : (47 : Nat) ∉ (Txt.mul (Str.ofString "1") 2001).cps.toList := by rw [hl]; intro h; have := List.eq_of_mem_replicate h; omega
    obtain ⟨p1, p2, p3⟩ := part_no hno
    have hnok : ¬ okP (Txt.mul (Str.ofString "1") 2001) := fun k => by have := k.2.1; omega
    have hasc : (Txt.mul (Str.ofString "1") 2001).cps.all (· < 128) = true := asc_of hl (fun c hc => by rw [List.eq_of_mem_replicate hc]; decide)
    have hd9 : (Txt.slice (Txt.mul (Str.ofString "1") 2001) none (some 1) == Str.ofString "-") = false := by rw [slice1 (c := 49) (l := List.replicate 2000 49) hl, one_eq]; decide
    exact read_p0 (tx := Txt.mul (Str.ofString "1") 2001) (U := Txt.mul (Str.ofString "1") 2001) (n := 0) (d := 1) B F X N T hk (by omega) (by omega) hd hu p1 p2 p3 hd9 (one_mem (P := fun p => p.cps.all (· < 128) = true) hasc) (fun k => absurd (k _ (List.mem_cons_self ..)) hnok) (fun k => absurd (k _ (List.mem_cons_self ..)) hnok) (fun _ => hE)
  · exact read_n0 (tx := (Str.ofString "--1")) (U := (Str.ofString "--1")) (n := 0) (d := 1) B F X N T hk (by decide +kernel) (by decide +kernel) hd hu (by decide +kernel) (by decide +kernel) (by decide +kernel) (by decide +kernel) (one_mem (P := fun p => p.cps.all (· < 128) = true) (by decide +kernel)) (fun k => absurd (k _ (List.mem_cons_self ..)) (not_ok (by decide +kernel))) (fun k => absurd (k _ (List.mem_cons_self ..)) (not_ok (by decide +kernel))) (fun _ => hE)
  · exact read_ps (tx := (Str.ofString "1/-2")) (U := (Str.ofString "1")) (W := (Str.ofString "-2")) (n := 1) (d := 0) B F X N T hk (by decide +kernel) (by decide +kernel) (by decide +kernel) hd hu (by decide +kernel) (by decide +kernel) (by decide +kernel) (by decide +kernel) (two_mem (P := fun p => p.cps.all (· < 128) = true) (by decide +kernel) (by decide +kernel)) (fun k => absurd (k _ (List.mem_cons_of_mem _ (List.mem_cons_self ..))) (not_ok (by decide +kernel))) (fun k => absurd (k _ (List.mem_cons_of_mem _ (List.mem_cons_self ..))) (not_ok (by decide +kernel))) (fun _ => hE)
  · exact read_p0 (tx := (Str.ofString " 1")) (U := (Str.ofString " 1")) (n := 0) (d := 1) B F X N T hk (by decide +kernel) (by decide +kernel) hd hu (by decide +kernel) (by decide +kernel) (by decide +kernel) (by decide +kernel) (one_mem (P := fun p => p.cps.all (· < 128) = true) (by decide +kernel)) (fun k => absurd (k _ (List.mem_cons_self ..)) (not_ok (by decide +kernel))) (fun k => absurd (k _ (List.mem_cons_self ..)) (not_ok (by decide +kernel))) (fun _ => hE)
def okWB (p : Str) : Bool := !(p == Str.ofString "") && decide (p.length ≤ 9) && p.cps.toList.all fun c => decide (48 ≤ c) && decide (c ≤ 57)
theorem not_okW {p : Str} (h : okWB p = false) : ¬ okW p := fun k => by
  obtain ⟨h1, h2, h3⟩ := k
  have e : okWB p = true := by
    unfold okWB
    rw [decide_eq_true h2, beq_eq_false_iff_ne.mpr h1, Bool.not_false, Bool.true_and, Bool.true_and, List.all_eq_true]
    intro c hc
    have := h3 c hc
    rw [decide_eq_true this.1, decide_eq_true this.2]; rfl
  rw [e] at h; cases h
def BadW (tx : Str) : Prop := tx = Str.ofString "" ∨ tx = Str.ofString "x" ∨ tx = Str.ofString "1111111111" ∨ tx = Str.ofString "1.0" ∨ tx = Str.ofString "--1"
theorem whole_bad {w : World} {p : Program} {loose : List Str} {mean : ExcName → Option Value} {mg mb : Str → Option Value} {dp un : Nat} {gd : Option (List Code)} {cn : Str} {cs : Scope} {a : Addr} {ccd : Value} {cl : List (Str × Addr)} {outer : List Env} {A₀ : Around} {base h₀ : Heap} {L : Addr} {m : Str → Option Value} {news : List (Addr × Obj)} {s : Shared} {Q E : Value → Shared → Prop} {tx : Str} {t4 : Tok}
    (B : Below A₀ base outer h₀) (F : Fr h₀ L s.heap m) (X : (HD.K w.params).In h₀) (N : News h₀ L s.heap news) (T : Top p loose mean mg mb h₀) (hk : cs.kind = .function) (hb : BadW tx) (hd : dp + 10 < recursionLimit) (hu : un + 300 < cLine)
    (hE : ∀ (T9 : Str) (g : Heap) (e t : Addr) (u : Tok) (h' : Heap) (tk' : Nat), Fr h₀ L g m → g.UpToSlots h' → RaisedK base (envX cn cs L a ccd cl :: outer) e (.ref 24) t [.str T9 u] news h' → E (.ref e) { s with heap := h', toks := tk' }) :
    wpAny (model PySem.Challenge.rw_ui0509_08.row.prog w) (ktrTop dp un gd cn cs L a ccd cl outer) (call (.ref 46) [.str tx t4]) Q E s := by
  rcases hb with rfl | rfl | rfl | rfl | rfl
  · exact whole_p B F X N T hk (by decide +kernel) (by decide +kernel) (by decide +kernel) (not_okW (by decide +kernel)) hd hu hE
  · exact whole_p B F X N T hk (by decide +kernel) (by decide +kernel) (by decide +kernel) (not_okW (by decide +kernel)) hd hu hE
  · exact whole_p B F X N T hk (by decide +kernel) (by decide +kernel) (by decide +kernel) (not_okW (by decide +kernel)) hd hu hE
  · exact whole_p B F X N T hk (by decide +kernel) (by decide +kernel) (by decide +kernel) (not_okW (by decide +kernel)) hd hu hE
  · exact whole_n B F X N T hk (by decide +kernel) (by decide +kernel) (by decide +kernel) (not_okW (by decide +kernel)) hd hu hE
end
end Mine
open Mine
local macro_rules | `(tactic| walk_at "i14") => `(tactic| (intro h' t' R' U'; (try dsimp only at R' U' ⊢)))
local macro_rules | `(tactic| walk_at "i15") => `(tactic| (intro D' t' u' c' h' tk' bD' F' N' l1; (try (replace l1 := allNe_of l1; simp only [AllNe, and_true] at l1))))
local macro_rules | `(tactic| walk_at "i16") => `(tactic| (intro h' F' N'))
local macro_rules | `(tactic| walk_at "i17") => `(tactic| (intro D' c' h' F' N' l1; (try k_lt l1)))
namespace Mine
section
abbrev Mat := List (List Rat)
def at2 (M : Mat) (j k : Nat) : Rat := (M.getD j []).getD k 0
def plM (M : Mat) (k i : Nat) : Option Nat := (List.range i).foldl (fun p d => if p = none ∧ at2 M (k + d) k ≠ 0 then some (k + d) else p) none
def swapM (k j : Nat) (M : Mat) : Mat := (M.set k (M.getD j [])).set j (M.getD k [])
def normM (k : Nat) (M : Mat) : Mat := M.set k ((M.getD k []).map (· / at2 M k k))
def elimM (n k : Nat) (M : Mat) (j : Nat) : Mat := if j ≠ k ∧ at2 M j k ≠ 0 then M.set j ((List.range (n + 1)).map fun m => at2 M j m - at2 M j k * at2 M k m) else M
def stepM (n k : Nat) (M : Mat) : Option Mat := (plM M k (n - k)).map fun p => (List.range n).foldl (elimM n k) (normM k (swapM k p M))
def gjM (n : Nat) : Nat → Mat → Option Mat
  | 0, M => some M
  | i + 1, M => (gjM n i M).bind (stepM n i)
theorem r2 : List.range 2 = [0, 1] := rfl
theorem r1 : List.range 1 = [0] := rfl
theorem r3 : List.range 3 = [0, 1, 2] := rfl
def OffC (L q : Nat) : Prop := q ≤ L ∨ L + 8 ≤ q
theorem offc_of {L q : Nat} (h1 : q ≠ L + 1) (h2 : q ≠ L + 1 + 1) (h3 : q ≠ L + 1 + 1 + 1) (h4 : q ≠ L + 1 + 1 + 1 + 1) (h5 : q ≠ L + 1 + 1 + 1 + 1 + 1) (h6 : q ≠ L + 1 + 1 + 1 + 1 + 1 + 1) (h7 : q ≠ L + 1 + 1 + 1 + 1 + 1 + 1 + 1) : OffC L q := by unfold OffC; omega
theorem off_c {tl : List (Addr × Obj)} {L c : Nat} (h : ∀ p ∈ tl, OffC L p.1) (h1 : L < c) (h2 : c < L + 8) : ∀ p ∈ tl, p.1 ≠ c := fun p hp e => by
  have := h p hp
  unfold OffC at this
  have e' : @Eq Nat p.1 c := e
  omega
theorem offc_cons {L : Nat} {q : Addr × Obj} {tl : List (Addr × Obj)} (hq : OffC L q.1) (h : ∀ p ∈ tl, OffC L p.1) : ∀ p ∈ q :: tl, OffC L p.1 := fcons hq h
theorem ne_cons {t : Addr} {q : Addr × Obj} {tl : List (Addr × Obj)} (hq : q.1 ≠ t) (h : ∀ p ∈ tl, p.1 ≠ t) : ∀ p ∈ q :: tl, p.1 ≠ t := fcons hq h
theorem subs_of {h₀ h' : Heap} {L : Addr} {all TL : List (Addr × Obj)} (_N : News h₀ L h' all) (hs : ∀ p ∈ TL, p ∈ all) : ∀ p ∈ TL, p ∈ all := hs
theorem news_sub {h₀ h : Heap} {L : Addr} {l all : List (Addr × Obj)} (N : News h₀ L h all) (hs : ∀ p ∈ l, p ∈ all) : News h₀ L h l := fun p hp => N p (hs p hp)
theorem src_tk {prog : Program} {w : World} {A : Around} {h₀ : Heap} {L : Addr} {m : Str → Option Value} {env : Env} {elt : Expr} {x : Str} {scope : Scope} {cl : List (Str × Addr)} {Fin : Shared → List Value → List (Addr × Obj) → Prop} {ax : Addr} {its : Array Value} {k : Nat} {nx news : List (Addr × Obj)} {s₁ : Shared}
    (hh : A.handled = none) (F : Fr h₀ L s₁.heap m) (N : News h₀ L s₁.heap news) (hT : Tk h₀ nx ax (listOf its k)) (hs : ∀ p ∈ nx, p ∈ news) (hsz : its.size ≤ sizeLine)
    (h : ∀ g, LCg.CompRest prog w A h₀ L m env elt x scope cl { s₁ with heap := g } (LCg.SrcAt h₀ ax its) (fun i v => its[i]? = some v) (Fin { s₁ with heap := g }) its.size 0 [] news) :
    LCg.CompSrc prog w A h₀ L m env elt x scope cl Fin (.ref ax) s₁ := .inl ⟨ax, its, news, rfl, hh, F, N, hT.elim (fun e => .inr ⟨_, hs _ e, rfl, _, rfl⟩) (fun e => .inl ⟨_, e, rfl, _, rfl⟩), hsz, fun _ ⟨g, e⟩ => e ▸ h g⟩
theorem srcAt_tk {h₀ : Heap} {ax : Addr} {its : Array Value} {k : Nat} {nx news : List (Addr × Obj)} (hT : Tk h₀ nx ax (listOf its k)) (hs : ∀ p ∈ nx, p ∈ news) : LCg.SrcAt h₀ ax its news := hT.elim (fun e => .inr ⟨_, hs _ e, rfl, _, rfl⟩) (fun e => .inl ⟨_, e, rfl, _, rfl⟩)
theorem off9 {I C D : Addr} {p1 p2 p3 p4 p5 p6 p7 p8 p9 q : Addr × Obj} {tl : List (Addr × Obj)} (h : LCg.Off3 I C D (p1 :: p2 :: p3 :: p4 :: p5 :: p6 :: p7 :: p8 :: p9 :: tl)) (a : q.1 ≠ I) (b : q.1 ≠ C) (c : q.1 ≠ D) : LCg.Off3 I C D (p1 :: p2 :: p3 :: p4 :: p5 :: p6 :: p7 :: p8 :: p9 :: q :: tl) :=
  let ⟨h1, h2, h3, h4, h5, h6, h7, h8, h9, t⟩ := h; ⟨h1, h2, h3, h4, h5, h6, h7, h8, h9, ⟨a, b, c⟩, t⟩
theorem bd_snoc {b : Nat} {l : List Rat} {y : Rat} (h : ∀ x ∈ l, Bd b x) (hy : Bd b y) : ∀ x ∈ l ++ [y], Bd b x := List.forall_mem_append.mpr ⟨h, fcons hy (List.forall_mem_nil _)⟩
def augM (M : Mat) (sd : List Rat) : Mat := List.zipWith (fun r x => r ++ [x]) M sd
theorem aug_get {M : Mat} {sd : List Rat} {i : Nat} {r : List Rat} {x : Rat} (h : M[i]? = some r) (k : sd[i]? = some x) : (augM M sd)[i]? = some (r ++ [x]) := by
  unfold augM; rw [List.getElem?_zipWith, h, k]
theorem take_snoc_of {α : Type} {l : List α} {i : Nat} {x : α} (h : l[i]? = some x) : l.take (i + 1) = l.take i ++ [x] := by rw [List.take_add_one, h]; rfl
theorem lt_len {k i n : Nat} (h : k = n) (hi : i < n) : i < k := by rw [h]; exact hi
theorem lt_len1 {k i n : Nat} (h : k = n + 1) (hi : i < n) : i < k := by rw [h]; exact Nat.lt_succ_of_lt hi
theorem sm_0 {l n : Nat} (h : l = n) (hn : n ≤ 3) : Builtin.Range.small 0 (l : Int) 1 = true := small_one (by omega) (by omega) (by omega) (by omega)
theorem sm_i {i l n : Nat} (h : l = n) (hn : n ≤ 3) (hi : i < n) : Builtin.Range.small (0 + (i : Int)) (l : Int) 1 = true := small_one (by omega) (by omega) (by omega) (by omega)
theorem sm_1 {l n : Nat} (h : l = n) (hn : n ≤ 3) : Builtin.Range.small 0 ((l : Int) + 1) 1 = true := small_one (by omega) (by omega) (by omega) (by omega)
theorem rs_0 {l n : Nat} (h : l = n) : (l : Int) = 0 + (n : Int) := by omega
theorem rs_i {i l n : Nat} (h : l = n) (hi : i < n) : (l : Int) = 0 + (i : Int) + ((n - i : Nat) : Int) := by omega
theorem rs_1 {l n : Nat} (h : l = n) : (l : Int) + 1 = 0 + ((n + 1 : Nat) : Int) := by omega
theorem z_le {i : Nat} : (0 : Int) ≤ 0 + (i : Int) := by omega
theorem z_lt {i k j n : Nat} (h : k = j) (e : j = n) (hi : i < n) : (0 : Int) + (i : Int) < (k : Int) := by omega
theorem z_to {i : Nat} : ((0 : Int) + (i : Int)).toNat = i := by omega
theorem ex_at {α : Type} {l : List α} {i : Nat} (h : i < l.length) : ∃ x, l[i]? = some x := ⟨l[i], List.getElem?_eq_getElem h⟩
theorem aug_mem {M : Mat} {sd : List Rat} {r : List Rat} (h : r ∈ augM M sd) : ∃ q ∈ M, ∃ x ∈ sd, r = q ++ [x] := by
  unfold augM at h
  obtain ⟨i, hi, e⟩ := List.mem_iff_getElem.mp h
  rw [List.getElem_zipWith] at e
  exact ⟨_, List.getElem_mem .., _, List.getElem_mem .., e.symm⟩
theorem aug_rows {M : Mat} {sd : List Rat} {n : Nat} (h : ∀ r ∈ M, r.length = n) : ∀ r ∈ augM M sd, r.length = n + 1 := by
  intro r hr
  refine hide_goal fun G9 k9 => ?_
  obtain ⟨q, hq, x, _, rfl⟩ := aug_mem hr
  refine k9 ?_
  clear k9
  rw [List.length_append, h q hq]; rfl
theorem aug_bd {M : Mat} {sd : List Rat} {b : Nat} (h : ∀ r ∈ M, ∀ x ∈ r, Bd b x) (h2 : ∀ x ∈ sd, Bd b x) : ∀ r ∈ augM M sd, ∀ x ∈ r, Bd b x := by
  intro r hr y hy
  refine hide_goal fun G9 k9 => ?_
  obtain ⟨q, hq, x, hx, rfl⟩ := aug_mem hr
  refine k9 ?_
  clear k9
  rcases List.mem_append.mp hy with hy | hy
  · exact h q hq y hy
  · rw [List.mem_singleton.mp hy]; exact h2 x hx
theorem swap_all {R : Value → List Rat → Prop} {vs : List Value} {M : Mat} {i p : Nat} {vi vp : Value} {ri rp : List Rat} (h : All2 R vs M) (hri : M[i]? = some ri) (hrp : M[p]? = some rp) (ai : R vi ri) (ap : R vp rp) : All2 R ((vs.set i vp).set p vi) (swapM i p M) := by
  have e1 : M.getD i [] = ri := by simp [List.getD_eq_getElem?_getD, hri]
  have e2 : M.getD p [] = rp := by simp [List.getD_eq_getElem?_getD, hrp]
  unfold swapM
  rw [e1, e2]
  exact (h.set ap i).set ai p
theorem row_facts {M : Mat} {Q : List Rat → Prop} {r : List Rat} (i : Nat) (h : ∀ r ∈ M, Q r) (hr : Q r) : ∀ q ∈ M.set i r, Q q := by
  intro q hq
  rcases List.mem_or_eq_of_mem_set hq with h1 | h1
  · exact h q h1
  · rw [h1]; exact hr
theorem getD_mem {M : Mat} {i : Nat} (h : i < M.length) : M.getD i [] ∈ M := by
  rw [List.getD_eq_getElem?_getD, List.getElem?_eq_getElem h, Option.getD_some]; exact List.getElem_mem ..
theorem swap_facts {M : Mat} {i p c b : Nat} (hi : i < M.length) (hp : p < M.length) (hr : ∀ r ∈ M, r.length = c) (hb : ∀ r ∈ M, ∀ x ∈ r, Bd b x) : (swapM i p M).length = M.length ∧ (∀ r ∈ swapM i p M, r.length = c) ∧ (∀ r ∈ swapM i p M, ∀ x ∈ r, Bd b x) := by
  refine ⟨by simp [swapM], ?_, ?_⟩
  · exact row_facts (Q := fun r => r.length = c) p (row_facts i hr (hr _ (getD_mem hp))) (hr _ (getD_mem hi))
  · exact row_facts (Q := fun r => ∀ x ∈ r, Bd b x) p (row_facts (Q := fun r => ∀ x ∈ r, Bd b x) i hb (hb _ (getD_mem hp))) (hb _ (getD_mem hi))
theorem swap_at {M : Mat} {i p k : Nat} {ri rp : List Rat} (hri : M[i]? = some ri) (hrp : M[p]? = some rp) : at2 (swapM i p M) i k = at2 M p k := by
  have hi : i < M.length := (List.getElem?_eq_some_iff.mp hri).1
  have hp : p < M.length := (List.getElem?_eq_some_iff.mp hrp).1
  have e1 : M.getD i [] = ri := by simp [List.getD_eq_getElem?_getD, hri]
  have e2 : M.getD p [] = rp := by simp [List.getD_eq_getElem?_getD, hrp]
  unfold at2 swapM
  rw [e1, e2]
  congr 1
  rw [List.getD_eq_getElem?_getD, List.getElem?_set]
  by_cases h : p = i
  · subst h
    rw [if_pos rfl, if_pos (by simpa using hp), Option.getD_some]
    rw [hri] at hrp; exact Option.some.inj hrp
  · rw [if_neg h, List.getElem?_set_self (by simpa using hi), Option.getD_some]
theorem at2_of {M : Mat} {j k : Nat} {r : List Rat} {x : Rat} (h : M[j]? = some r) (h' : r[k]? = some x) : at2 M j k = x := by
  simp [at2, List.getD_eq_getElem?_getD, h, h']
theorem norm_eq {M : Mat} {i : Nat} {rq : List Rat} {x : Rat} (hrq : M[i]? = some rq) (hx : rq[i]? = some x) : normM i M = M.set i (rq.map (· / x)) := by
  have e1 : M.getD i [] = rq := by simp [List.getD_eq_getElem?_getD, hrq]
  unfold normM
  rw [e1, at2_of hrq hx]
theorem norm_all {R : Value → List Rat → Prop} {vs : List Value} {M : Mat} {i : Nat} {v : Value} {rq : List Rat} {x : Rat} (h : All2 R vs M) (hrq : M[i]? = some rq) (hx : rq[i]? = some x) (hr : R v (rq.map (· / x))) : All2 R (vs.set i v) (normM i M) := by
  rw [norm_eq hrq hx]; exact h.set hr i
def elB (β i j q : Nat) : Nat := if q = i then β + β else if q < j then 4 * β + 1 else β
theorem norm_facts {M : Mat} {i c β : Nat} {rq : List Rat} {x : Rat} (hrq : M[i]? = some rq) (hx : rq[i]? = some x) (hr : ∀ r ∈ M, r.length = c) (hb : ∀ r ∈ M, ∀ x ∈ r, Bd β x) (hq : ∀ y ∈ rq.map (· / x), Bd (β + β) y) :
    (normM i M).length = M.length ∧ (∀ r ∈ normM i M, r.length = c) ∧ (∀ q r, (normM i M)[q]? = some r → ∀ y ∈ r, Bd (elB β i 0 q) y) := by
  rw [norm_eq hrq hx]
  refine ⟨List.length_set, row_facts (Q := fun r => r.length = c) i hr (by rw [List.length_map]; exact hr _ (List.mem_of_getElem? hrq)), fun q r h => ?_⟩
  unfold elB
  by_cases hqi : q = i
  · subst hqi
    rw [List.getElem?_set_self (List.getElem?_eq_some_iff.mp hrq).1] at h
    rw [if_pos rfl, ← Option.some.inj h]; exact hq
  · rw [List.getElem?_set_ne (fun e => hqi e.symm)] at h
    rw [if_neg hqi, if_neg (Nat.not_lt_zero _)]; exact hb _ (List.mem_of_getElem? h)
def elimR (n i : Nat) (M : Mat) (j : Nat) : List Rat := (List.range (n + 1)).map fun m => at2 M j m - at2 M j i * at2 M i m
theorem elimR_len {n i j : Nat} {M : Mat} : (elimR n i M j).length = n + 1 := by simp [elimR]
theorem elimR_get {n i j c : Nat} {M : Mat} {rj ri : List Rat} {x yj yi : Rat} (hc : c < n + 1) (hj : M[j]? = some rj) (hi : M[i]? = some ri) (hx : rj[i]? = some x) (hyj : rj[c]? = some yj) (hyi : ri[c]? = some yi) : (elimR n i M j)[c]? = some (yj - x * yi) := by
  unfold elimR
  rw [List.getElem?_map, List.getElem?_range hc, Option.map_some, at2_of hj hyj, at2_of hj hx, at2_of hi hyi]
theorem elim_eq {n i j : Nat} {M : Mat} (h : j ≠ i) (h2 : at2 M j i ≠ 0) : elimM n i M j = M.set j (elimR n i M j) := by unfold elimM; rw [if_pos ⟨h, h2⟩]; rfl
theorem elB_self {β i j : Nat} (h : j ≠ i) : elB β i j j = β := by unfold elB; rw [if_neg h, if_neg (Nat.lt_irrefl _)]
theorem elB_piv {β i j : Nat} : elB β i j i = β + β := if_pos rfl
theorem elB_le {β i j q : Nat} : elB β i j q ≤ elB β i (j + 1) q := by
  unfold elB
  split
  · exact Nat.le_refl _
  · split
    · rw [if_pos (by omega)]; exact Nat.le_refl _
    · split <;> omega
theorem elB_top {β i j q : Nat} : elB β i j q ≤ 4 * β + 1 := by
  unfold elB
  split
  · omega
  · split <;> omega
theorem elB_mono {M : Mat} {β i j : Nat} (h : ∀ q r, M[q]? = some r → ∀ y ∈ r, Bd (elB β i j q) y) : ∀ q r, M[q]? = some r → ∀ y ∈ r, Bd (elB β i (j + 1) q) y := fun q r e y hy => (h q r e y hy).mono elB_le
theorem elim_bd {M : Mat} {β i j : Nat} {rn : List Rat} (hji : j ≠ i) (hj : j < M.length) (h : ∀ q r, M[q]? = some r → ∀ y ∈ r, Bd (elB β i j q) y) (hn : ∀ y ∈ rn, Bd (4 * β + 1) y) : ∀ q r, (M.set j rn)[q]? = some r → ∀ y ∈ r, Bd (elB β i (j + 1) q) y := by
  intro q r e y hy
  by_cases hq : q = j
  · subst hq
    rw [List.getElem?_set_self hj] at e
    rw [← Option.some.inj e] at hy
    have : elB β i (q + 1) q = 4 * β + 1 := by unfold elB; rw [if_neg hji, if_pos (by omega)]
    rw [this]; exact hn y hy
  · rw [List.getElem?_set_ne (fun e => hq e.symm)] at e
    exact (h q r e y hy).mono elB_le
theorem off10 {I C D : Addr} {p0 p1 p2 p3 p4 p5 p6 p7 p8 p9 q : Addr × Obj} {tl : List (Addr × Obj)} (h : LCg.Off3 I C D (p0 :: p1 :: p2 :: p3 :: p4 :: p5 :: p6 :: p7 :: p8 :: p9 :: tl)) (a : q.1 ≠ I) (b : q.1 ≠ C) (c : q.1 ≠ D) : LCg.Off3 I C D (p0 :: p1 :: p2 :: p3 :: p4 :: p5 :: p6 :: p7 :: p8 :: p9 :: q :: tl) :=
  let ⟨h0, h1, h2, h3, h4, h5, h6, h7, h8, h9, t⟩ := h; ⟨h0, h1, h2, h3, h4, h5, h6, h7, h8, h9, ⟨a, b, c⟩, t⟩
theorem off7 {I C D : Addr} {p1 p2 p3 p4 p5 p6 p7 q : Addr × Obj} {tl : List (Addr × Obj)} (h : LCg.Off3 I C D (p1 :: p2 :: p3 :: p4 :: p5 :: p6 :: p7 :: tl)) (a : q.1 ≠ I) (b : q.1 ≠ C) (c : q.1 ≠ D) : LCg.Off3 I C D (p1 :: p2 :: p3 :: p4 :: p5 :: p6 :: p7 :: q :: tl) :=
  let ⟨h1, h2, h3, h4, h5, h6, h7, t⟩ := h; ⟨h1, h2, h3, h4, h5, h6, h7, ⟨a, b, c⟩, t⟩
theorem rats_new {P : Addr → Obj → Prop} {D : Addr} {vs : List Value} {n : Nat} {rs : List Rat} (h : P D (listOf vs.toArray n)) (a : All2 (RatN P) vs rs) : RatsN P (.ref D) rs := ⟨D, vs, n, rfl, h, a⟩
def bnd (b : Nat) : Nat → Nat
  | 0 => b
  | i + 1 => 4 * bnd b i + 1
theorem bnd_le2 {b i : Nat} (hb : b ≤ 64) (hi : i < 3) : bnd b i ≤ 1029 := by
  have h : i = 0 ∨ i = 1 ∨ i = 2 := by omega
  rcases h with rfl | rfl | rfl <;> simp only [bnd] <;> omega
theorem plM_succ (M : Mat) (k i : Nat) : plM M k (i + 1) = if plM M k i = none ∧ at2 M (k + i) k ≠ 0 then some (k + i) else plM M k i := by
  unfold plM
  rw [List.range_succ, List.foldl_append]; rfl
theorem plM_spec {M : Mat} {k c p : Nat} (h : plM M k c = some p) : k ≤ p ∧ p < k + c ∧ at2 M p k ≠ 0 := by
  induction c with
  | zero => simp [plM] at h
  | succ c ih =>
    rw [plM_succ] at h
    split at h
    · rename_i hc
      have := Option.some.inj h
      subst this
      exact ⟨by omega, by omega, hc.2⟩
    · obtain ⟨a, b, d⟩ := ih h
      exact ⟨a, by omega, d⟩
theorem ground_ofK {P : Addr → Obj → Prop} {h g : Heap} {kp : Addr × Obj} (hP : ∀ a o, P a o → h.get? a = some o) (hPk : ∀ a o, P a o → a ≠ kp.1) (hG : ∀ b o, h.get? b = some o → b ∉ List.map (·.1) [kp] → g.get? b = some o) (tl : List (Addr × Obj)) :
    ∀ a o, PT P tl a o → Tk g tl a o := fun a o e => e.elim (fun h => .inr (hG _ _ (hP _ _ h) (by simpa using hPk _ _ h))) .inl
theorem gj_none {n i : Nat} {M Mi : Mat} (h : gjM n i M = some Mi) (hp : plM Mi i (n - i) = none) : ∀ k, i < k → gjM n k M = none := by
  intro k
  induction k with
  | zero => intro hk; exact absurd hk (Nat.not_lt_zero _)
  | succ k ih =>
    intro hk
    rcases Nat.lt_or_ge i k with h1 | h1
    · rw [gjM, ih h1]; rfl
    · obtain rfl : i = k := by omega
      rw [gjM, h]; simp only [Option.bind_some, stepM, hp, Option.map_none]
theorem gj_mk {n i p : Nat} {M Mi : Mat} (h : gjM n i M = some Mi) (hp : plM Mi i (n - i) = some p) : ∃ Y, gjM n (i + 1) M = some Y ∧ Y = (List.range n).foldl (elimM n i) (normM i (swapM i p Mi)) := by
  refine ⟨_, ?_, rfl⟩
  rw [gjM, h]; simp only [Option.bind_some, stepM, hp, Option.map_some]
theorem num_ne {x : Rat} (h : x.num ≠ 0) : x ≠ 0 := fun e => h (by rw [e]; rfl)
theorem num_eq {x : Rat} (h : x.num = 0) : x = 0 := Rat.num_eq_zero.mp h

-- raise C(..) of a class of the program's own in a def with cells (envX), and leaving such a def with it
theorem leave_raiseX {M : Model} {A : Around} {E : Value → Shared → Prop} {s' : Shared} {base g h : Heap} {outer : List Env} {L e : Addr} {env : Env} {m : Str → Option Value} {Q : Unit → Shared → Prop} {news : List (Addr × Obj)} {cls : Value} {vs : List Value}
    (K : Below A base outer g) (hx : Heap.MadeExcOf h s'.heap e cls vs) (F : Fr g L h m) (N : News g L h news) (hf : env.frame = some L) (hke : env.scope.kind = .function)
    (hQ : ∀ h' t, RaisedK base outer e cls t vs news h' → g.UpToSlots h' → Q () { s' with heap := h' }) : wpAny M (A.deeper env) (leaving env (.ref e)) Q E s' := by
  refine hide_goal fun G9 k9 => ?_
  have P := pushX K F hf hke
  obtain ⟨fs, efs⟩ : ∃ fs, fs = (env :: outer).filterMap (·.frame) := ⟨_, rfl⟩
  have own : ∀ x ∈ env :: outer, ∀ b, x.frame = some b → b ∈ fs := fun x hxm b hb => by rw [efs]; exact List.mem_filterMap.mpr ⟨x, hxm, hb⟩
  have gone : ∀ b ∈ fs, base.get? b = none := fun b hb => (P.frames.mem (by rw [← efs]; exact hb)).1
  have keepB : base.StaysIn (hideAll h fs) := fun b o q => hideAll_get _ (P.stays b o q) fun hm => by
    have := gone b hm; rw [this] at q; cases q
  have keepN : ∀ q ∈ news, (hideAll h fs).get? q.1 = some q.2 ∧ base.get? q.1 = none := fun q hq => by
    obtain ⟨n1, n2, n3⟩ := N q hq
    refine ⟨hideAll_get _ n1 fun hm => ?_, fresh_of_stays K.stays n3⟩
    rw [efs] at hm
    obtain ⟨x, hxm, hb⟩ := List.mem_filterMap.mp hm
    rcases List.mem_cons.mp hxm with rfl | hxo
    · exact n2 (Option.some.inj (hb.symm.trans hf))
    · obtain ⟨o, ho, _⟩ := (K.frames.mem (List.mem_filterMap.mpr ⟨x, hxo, hb⟩)).2
      rw [n3] at ho; cases ho
  refine k9 ?_
  clear k9
  refine wpAny_leaves_madeW P.stack hf (fun b o q => of_hideAll _ q) (funFrames_hide P.frames own) hx fun h' t a b c d => ?_
  exact hQ h' t ⟨⟨_, keepB, keepN, a, c⟩, b⟩ (((Heap.UpToSlots.of_keeps F.keep).trans (Heap.UpToSlots.of_keeps hx.keeps)).trans d)
theorem raise_ownX {prog : Program} {w : World} {A : Around} {E : Value → Shared → Prop} {s : Shared} {cn : Str} {cs : Scope} {L a : Addr} {ccd : Value} {cl : List (Str × Addr)} {h₀ : Heap} {m mg : Str → Option Value}
    {x : Str} {C : Addr} {B newId initId : String} {bm : List Value} {np cpos pos : Pos} {Q : Flow → Shared → Prop} {e₀ : Expr} {rest : List Expr} (F : Fr h₀ L s.heap m) (hg : h₀.Ns mainGlobals mg) (O : OwnCls x C bm newId mg h₀) (FB : ExcBaseFacts B newId initId bm) (hh : A.handled = none)
    (h : wpAny (model prog w) A (spliced (backTo cpos (starEach (e₀ :: rest) (envX cn cs L a ccd cl)))) (fun vs s₂ => vs.length ≤ sizeLine ∧ (∀ b o, h₀.get? b = some o → s₂.heap.get? b = some o) ∧
      ∀ h' e, Heap.MadeExcOf s₂.heap h' e (.ref C) vs → E (.ref e) { s₂ with heap := h' }) E s)
    (hp : (backTo cpos (starEach (e₀ :: rest) (envX cn cs L a ccd cl))).any (·.1) = false)
    (hev : ∀ (R : Args → Shared → Prop), wpAny (model prog w) A (spliced (backTo cpos (starEach (e₀ :: rest) (envX cn cs L a ccd cl)))) (fun vs s₂ => R ⟨vs, []⟩ s₂) E s → wpAny (model prog w) A (evalArgs (.ref C) true (backTo cpos (starEach (e₀ :: rest) (envX cn cs L a ccd cl))) []) R E s)
    (hk : cs.kind = .function := by rfl) (hx : (envX cn cs L a ccd cl).kindOf x = some .globalImplicit := by rfl) (hd : (x == ("__debug__" : Str)) = false := by decide) :
    wpAny (model prog w) A (exec (.Raise (some (.Call (.Name x np) (e₀ :: rest) [] cpos)) none pos) (envX cn cs L a ccd cl)) Q E s := by
  refine hide_goal fun G9 k9 => ?_
  obtain ⟨tl, N, nm, q, bs, hdct, sn, sub, ab, col, dd, k0, k1, k2, k3, k5, mN, hC, hN, hni, T⟩ := O.obj
  refine k9 ?_
  clear k9
  refine wpAny_Raise_call_subT (C := C) (nm := nm) (q := q) (N := N) (bs := bs) (bm := tl) (hdct := hdct) (sn := sn) (sub := sub) (ab := ab) (col := col) (dd := dd) (k0 := k0) (k1 := k1) (k2 := k2) (k3 := k3) (k5 := k5)
    FB (mN := mN) (T.hasType FB.hasBase) hh hp hni (Name_function_global hk hx (loadGlobal_global (env := envX cn cs L a ccd cl) (hg.keeps F.keep) O.bound ⟨rfl, ?_⟩) hd)
  exact hev _ (wpAny_mono h (fun vs s₂ h₂ => ⟨rfl, h₂.1, h₂.2.1 _ _ hC, hN.keeps h₂.2.1, T.keeps h₂.2.1, h₂.2.2⟩) fun _ _ y => y)
theorem args_plain1 {prog : Program} {w : World} {A : Around} {E : Value → Shared → Prop} {s : Shared} {f : Value} {cpos : Pos} {env : Env} {e₀ : Expr} (h1 : starEach [e₀] env = (false, eval e₀ env) :: starEach [] env) :
    ∀ (R : Args → Shared → Prop), wpAny (model prog w) A (spliced (backTo cpos (starEach [e₀] env))) (fun vs s₂ => R ⟨vs, []⟩ s₂) E s → wpAny (model prog w) A (evalArgs f true (backTo cpos (starEach [e₀] env)) []) R E s := by
  intro R h
  rw [h1] at h ⊢
  exact Calls.evalArgs_plain h

section
theorem words18 : True := by
  k_with_none
  k_with "ne9" => (refine neN ?_; (try dsimp only); first | with_reducible assumption | exact Ne.symm (by with_reducible assumption) | exact pj0 (by with_reducible assumption) | exact pj1 (by with_reducible assumption) | exact pj2 (by with_reducible assumption) | exact pj3 (by with_reducible assumption) | exact pj4 (by with_reducible assumption) | exact pj5 (by with_reducible assumption) | exact pj6 (by with_reducible assumption) | exact pj7 (by with_reducible assumption) | exact pj8 (by with_reducible assumption) | exact pj9 (by with_reducible assumption) | exact pj10 (by with_reducible assumption) | exact pj11 (by with_reducible assumption) | exact Ne.symm (pj0 (by with_reducible assumption)) | exact Ne.symm (pj1 (by with_reducible assumption)) | exact Ne.symm (pj2 (by with_reducible assumption)) | exact Ne.symm (pj3 (by with_reducible assumption)) | exact Ne.symm (pj4 (by with_reducible assumption)) | exact Ne.symm (pj5 (by with_reducible assumption)) | exact Ne.symm (pj6 (by with_reducible assumption)) | exact Ne.symm (pj7 (by with_reducible assumption)) | exact Ne.symm (pj8 (by with_reducible assumption)) | exact Ne.symm (pj9 (by with_reducible assumption)) | exact Ne.symm (pj10 (by with_reducible assumption)) | exact Ne.symm (pj11 (by with_reducible assumption)) | exact ad1 | exact ad2 | exact ad3 | exact ad4 | exact ad5 | exact ad6 | exact ad7 | exact ad8 | exact Ne.symm ad1 | exact Ne.symm ad2 | exact Ne.symm ad3 | exact Ne.symm ad4 | exact Ne.symm ad5 | exact Ne.symm ad6 | exact Ne.symm ad7 | exact Ne.symm ad8 | exact Nat.ne_of_lt (by with_reducible assumption) | exact Nat.ne_of_gt (by with_reducible assumption) | exact Nat.ne_of_lt (pj0 (by with_reducible assumption)) | exact Nat.ne_of_lt (pj1 (by with_reducible assumption)) | exact Nat.ne_of_lt (pj2 (by with_reducible assumption)) | exact Nat.ne_of_lt (pj3 (by with_reducible assumption)) | exact Nat.ne_of_lt (pj4 (by with_reducible assumption)) | exact Nat.ne_of_lt (pj5 (by with_reducible assumption)) | exact Nat.ne_of_lt (pj6 (by with_reducible assumption)) | exact Nat.ne_of_lt (pj7 (by with_reducible assumption)) | exact Nat.ne_of_lt (pj8 (by with_reducible assumption)) | exact Nat.ne_of_lt (pj9 (by with_reducible assumption)) | exact Nat.ne_of_lt (pj10 (by with_reducible assumption)) | exact Nat.ne_of_lt (pj11 (by with_reducible assumption)) | exact Nat.ne_of_gt (pj0 (by with_reducible assumption)) | exact Nat.ne_of_gt (pj1 (by with_reducible assumption)) | exact Nat.ne_of_gt (pj2 (by with_reducible assumption)) | exact Nat.ne_of_gt (pj3 (by with_reducible assumption)) | exact Nat.ne_of_gt (pj4 (by with_reducible assumption)) | exact Nat.ne_of_gt (pj5 (by with_reducible assumption)) | exact Nat.ne_of_gt (pj6 (by with_reducible assumption)) | exact Nat.ne_of_gt (pj7 (by with_reducible assumption)) | exact Nat.ne_of_gt (pj8 (by with_reducible assumption)) | exact Nat.ne_of_gt (pj9 (by with_reducible assumption)) | exact Nat.ne_of_gt (pj10 (by with_reducible assumption)) | exact Nat.ne_of_gt (pj11 (by with_reducible assumption)) | omega)
  k_with "k_ne" => (walk_at "ne9")
  k_with "k_in" => (refine' in_of ?z65fF ?z65fX; (case z65fF => k_asm); (case z65fX => k_asm))
  k_with "k_all" => (exact off_c (by with_reducible assumption) (by omega) (by omega))
  k_with "exec Raise some none" => (k_here; (with_reducible show wpAny _ _ (exec (Stmt.Raise (some (Expr.Call (Expr.Name _ _) [_] [] _)) none _) _) _ _ _); k_dflt (refine' raise_ownX ?z66F ?z66g ?z66O PySem.F.excBase_ValueError ?z66h ?_ ?z66hp ?z66hev ?z66c ?z66d ?z66e; (case z66F => k_asm); (case z66g => exact TopRead.g (by k_asm)); (case z66O => exact own_of_in (by k_asm) (by k_asm) (by k_is) (by k_exc)); (case z66h => first | rfl | assumption); (case z66hp => rfl); (case z66hev => exact args_plain1 rfl); (case z66c => rfl); (case z66d => rfl); (case z66e => decide); k_whole))
  k_with "leaving ref" => (k_here; refine' leave_raiseX ?z67k1 ?z67k0 ?z67k2 ?z67k3 ?z67k4 ?z67k5 ?_; (case z67k0 => assumption); (case z67k1 => assumption); (case z67k2 => assumption); (case z67k3 => k_asm); (case z67k4 => rfl); (case z67k5 => rfl); k_whole; walk_at "i14")
  k_with "hat9" => (first | exact News.get (by k_asm) (by k_mem) | exact Fr.keep (by k_asm) _ _ (by with_reducible assumption) | exact Tk.get (by k_asm) (by k_asm) (by with_reducible assumption) (by intro p9 hp9; first | exact hp9 | exact absurd hp9 List.not_mem_nil | (repeat (first | exact hp9 | refine List.mem_cons_of_mem _ ?_))) | exact Frag.In.keeps (by k_asm) (Fr.keep (by k_asm)) _ _ (by k_is))
  k_with "ktr_units" => ((try simp only [units_under_make, units_in1, units_deeper, Around.mark_units, units_caller]); (try dsimp only [ktrTop]); first | exact un1 (by with_reducible assumption) (Nat.le_of_ble_eq_true rfl) | exact un2 (by with_reducible assumption) (Nat.le_of_ble_eq_true rfl) | exact un3 (by with_reducible assumption) (Nat.le_of_ble_eq_true rfl) | (have hcL9 := cLine_is; omega))
  k_with "call ref" => (k_here; (with_reducible show wpAny _ _ (call (Value.ref 91) [Value.ref _, Value.ref _]) _ _ _); k_dflt (refine' minus_r ?z68k1 ?z68k2 ?z68k3 ?z68k4 ?z68k5 ?z68k6 ?z68m1 ?z68m2 ?z68k7 ?z68k8 ?z68b1 ?z68b2 ?z68hb ?_; (case z68k1 => k_asm); (case z68k2 => k_asm); (case z68k3 => k_asm); (case z68k4 => k_asm); (case z68k5 => k_asm); (case z68k6 => first | exact rfl | assumption); (case z68k7 => first | exact Nat.le_of_ble_eq_true rfl | ktr_room); (case z68k8 => first | exact Nat.le_of_ble_eq_true rfl | ktr_units); (case z68m1 => (walk_at "hat9")); (case z68m2 => (walk_at "hat9")); (case z68b1 => with_reducible assumption); (case z68b2 => with_reducible assumption); (case z68hb => first | assumption | omega | decide); k_whole); walk_at "i15"; (try k_sweep))
  k_with "call ref" => (k_here; (with_reducible show wpAny _ _ (call (Value.ref 98) [Value.ref _, Value.ref _]) _ _ _); k_dflt (refine' times_r ?z69k1 ?z69k2 ?z69k3 ?z69k4 ?z69k5 ?z69k6 ?z69m1 ?z69m2 ?z69k7 ?z69k8 ?z69b1 ?z69b2 ?z69hb ?_; (case z69k1 => k_asm); (case z69k2 => k_asm); (case z69k3 => k_asm); (case z69k4 => k_asm); (case z69k5 => k_asm); (case z69k6 => first | exact rfl | assumption); (case z69k7 => first | exact Nat.le_of_ble_eq_true rfl | ktr_room); (case z69k8 => first | exact Nat.le_of_ble_eq_true rfl | ktr_units); (case z69m1 => (walk_at "hat9")); (case z69m2 => (walk_at "hat9")); (case z69b1 => with_reducible assumption); (case z69b2 => with_reducible assumption); (case z69hb => first | assumption | omega | decide); k_whole); walk_at "i15"; (try k_sweep))
  k_with "call ref" => (k_here; (with_reducible show wpAny _ _ (call (Value.ref 105) [Value.ref _, Value.ref _]) _ _ _); k_dflt (refine' over_r ?z70k1 ?z70k2 ?z70k3 ?z70k4 ?z70k5 ?z70k6 ?z70m1 ?z70m2 ?z70k7 ?z70k8 ?z70b1 ?z70b2 ?z70hz ?z70hb ?_; (case z70k1 => k_asm); (case z70k2 => k_asm); (case z70k3 => k_asm); (case z70k4 => k_asm); (case z70k5 => k_asm); (case z70k6 => first | exact rfl | assumption); (case z70k7 => first | exact Nat.le_of_ble_eq_true rfl | ktr_room); (case z70k8 => first | exact Nat.le_of_ble_eq_true rfl | ktr_units); (case z70m1 => (walk_at "hat9")); (case z70m2 => (walk_at "hat9")); (case z70b1 => with_reducible assumption); (case z70b2 => with_reducible assumption); (case z70hb => first | assumption | omega | decide); (case z70hz => first | assumption | grind); k_whole); walk_at "i15"; (try k_sweep))
  k_with "subscriptTail" => (k_here; (with_reducible show wpAny _ _ (subscriptTail _ _ (Value.ref _) (Value.int _ _)) _ _ _); k_dflt (refine' tup_t ?z71k1 ?z71k0 ?z71k2 ?z71kS ?z71k3 ?z71k4 ?z71k5 ?z71k6 ?z71k7 ?z71k8 ?_ ?z71k9 ?z71k10; (case z71k1 => k_asm); (case z71k0 => k_asm); (case z71k2 => with_reducible assumption); (case z71kS => exact (by intro p9 hp9; first | exact hp9 | exact absurd hp9 List.not_mem_nil | (repeat (first | exact hp9 | refine List.mem_cons_of_mem _ ?_)))); (case z71k3 => exact rfl); (case z71k4 => exact rfl); (case z71k5 => decide); (case z71k6 => decide); (case z71k7 => exact rfl); (case z71k8 => exact rfl); (case z71k9 => with_unfolding_all rfl); (case z71k10 => (intro _; with_unfolding_all rfl)); k_whole))
  k_with "assign Tuple" => (k_here; (with_reducible show wpAny _ _ (assign (Expr.Tuple _ _ _) _ (Value.ref _)) _ _ _); k_dflt (refine' unpack_t ?z72F ?z72N ?z72k ?z72kS ?z72c ?z72d ?z72k1 ?z72k2 ?z72k3 ?_; (case z72F => k_asm); (case z72N => k_asm); (case z72k => with_reducible assumption); (case z72kS => exact (by intro p9 hp9; first | exact hp9 | exact absurd hp9 List.not_mem_nil | (repeat (first | exact hp9 | refine List.mem_cons_of_mem _ ?_)))); (case z72c => exact rfl); (case z72d => exact rfl); (case z72k1 => exact rfl); (case z72k2 => exact rfl); (case z72k3 => exact rfl)); walk_at "i16"; (try k_sweep))
  k_with "k_all" => (with_reducible assumption)
  k_with "size_fits" => ((simp only [List.size_toArray]); rw [sizeLine_eq]; omega)
  k_with "eval Name" => (k_here; k_dflt (refine' nameX_L ?z73k1 ?z73k2 ?_ ?z73k3 ?z73k4; (case z73k1 => k_asm); (case z73k2 => first | exact rfl | assumption); (case z73k3 => rfl); (case z73k4 => rfl); k_whole))
  k_with "exec For" => (k_here; walk_at "i11")
  k_with "exec For Name Name cons nil" => (k_here; walk_at "i11")
  k_with "exec For Name Call cons nil" => (k_here; walk_at "i11")
  k_with "exec For Tuple Name cons nil" => (k_here; walk_at "i11")
  k_with "exec For Tuple Call cons nil" => (k_here; walk_at "i11")
  k_with "exec For Name Attribute cons nil" => (k_here; walk_at "i11")
  k_with "exec For Tuple Attribute cons nil" => (k_here; walk_at "i11")
  k_with "exec For Tuple Subscript cons nil" => (k_here; walk_at "i11")
  k_with "pyIter ref" => ((with_reducible show wpAny _ _ (pyIter (Value.ref _)) (fun it s₂ => TurnsAt _ _ _ _ _ _ _ _ _ it s₂) _ _); refine Hold.out ?_)
  k_with "UnrPostW" => (dsimp only [UnrPostW])
  k_with "UnrEndW" => (refine Hold.out ?_)
  k_with "eval ListComp" => (k_here; lcg_look; k_dflt (refine LCg.ListComp_U (F₀ := by k_asm) (by rfl) (by decide) (by rfl) (by decide) (by rfl) ?_); k_dflt lcg_toSrc)
  k_with "eval ListComp" => (k_here; lcf_look; k_dflt (refine LCg.ListComp_U (F₀ := by k_asm) (by with_unfolding_all rfl) (by decide) (by rfl) (by decide) (by rfl) ?_); k_dflt lcg_toSrc)
  k_with "exec Assign cons ListComp" => (k_here; lcg_look; k_dflt (refine LCg.Assign_ListComp_U (F₀ := by k_asm) (by rfl) (by with_unfolding_all rfl) (by rfl) (by decide) (by rfl) (by decide) (by rfl) (by rfl) (by rfl) ?_); k_dflt lcg_toSrc)
  k_with "exec Assign cons ListComp" => (k_here; lcf_look; k_dflt (refine LCg.Assign_ListComp_U (F₀ := by k_asm) (by rfl) (by with_unfolding_all rfl) (by with_unfolding_all rfl) (by decide) (by rfl) (by decide) (by rfl) (by rfl) (by rfl) ?_); k_dflt lcg_toSrc)
  k_with "CompSrc" => (refine Hold.out ?_)
  k_with "CompEnd" => (show LCg.CompEnd _ _ _ _ _ _ _ _ _ _ _ _ _ _; refine Hold.out ?_)
  k_with "call builtin:len" => (k_here; (with_reducible show wpAny _ _ (call (Value.builtin "len") [Value.ref _]) _ _ _); k_dflt (refine' lst_lenT ?z74k1 ?z74k0 ?z74k2 ?z74kS ?z74k3 ?_; (case z74k1 => k_asm); (case z74k0 => k_asm); (case z74k2 => with_reducible assumption); (case z74kS => exact (by intro p9 hp9; first | exact hp9 | exact absurd hp9 List.not_mem_nil | (repeat (first | exact hp9 | refine List.mem_cons_of_mem _ ?_)))); (case z74k3 => ((try simp only [List.length_append, List.length_cons, List.length_nil]); omega)); k_whole); walk_at "i12"; (try simp only [List.length_append, List.length_cons, List.length_nil]))
  k_with "subscriptTail" => (k_here; (with_reducible show wpAny _ _ (subscriptTail _ _ (Value.ref _) (Value.int _ _)) _ _ _); k_dflt (refine' list_t ?z75k1 ?z75k0 ?z75k2 ?z75kS ?z75k3 ?z75k4 ?z75k5 ?z75k6 ?z75k8 ?_ ?z75k9 ?z75k10; (case z75k1 => k_asm); (case z75k0 => k_asm); (case z75k2 => with_reducible assumption); (case z75kS => exact (by intro p9 hp9; first | exact hp9 | exact absurd hp9 List.not_mem_nil | (repeat (first | exact hp9 | refine List.mem_cons_of_mem _ ?_)))); (case z75k3 => exact rfl); (case z75k4 => exact rfl); (case z75k5 => first | decide | omega); (case z75k6 => first | decide | omega); (case z75k8 => with_reducible assumption); (case z75k9 => with_unfolding_all rfl); (case z75k10 => (intro _; with_unfolding_all rfl)); k_whole))
  k_with "subscriptTail" => (k_here; (with_reducible show wpAny _ _ (subscriptTail _ _ (Value.ref _) (Value.int _ _)) _ _ _); k_dflt (refine' back_t ?z76k1 ?z76k0 ?z76k2 ?z76kS ?z76k3 ?z76k4 ?z76k5 ?z76k6 ?z76k7 ?z76k8 ?_ ?z76k9 ?z76k10; (case z76k1 => k_asm); (case z76k0 => k_asm); (case z76k2 => with_reducible assumption); (case z76kS => exact (by intro p9 hp9; first | exact hp9 | exact absurd hp9 List.not_mem_nil | (repeat (first | exact hp9 | refine List.mem_cons_of_mem _ ?_)))); (case z76k3 => exact rfl); (case z76k4 => exact rfl); (case z76k5 => decide); (case z76k6 => omega); (case z76k7 => decide); (case z76k8 => with_reducible assumption); (case z76k9 => with_unfolding_all rfl); (case z76k10 => (intro _; with_unfolding_all rfl)); k_whole))
  k_with "binaryOp Add ref ref" => (k_here; (with_reducible show wpAny _ _ (binaryOp Operator.Add (Value.ref _) (Value.ref _)) _ _ _); k_dflt (refine' add_k ?z77F ?z77N ?z77a ?z77b ?z77z ?_; (case z77F => k_asm); (case z77N => k_asm); (case z77a => (walk_at "hat9")); (case z77b => (walk_at "hat9")); (case z77z => ((try simp only [List.length_cons, List.length_nil, List.length_reverse]); omega)); k_whole); walk_at "i10"; (try k_sweep))
  k_with "call type:list" => (k_here; (with_reducible show wpAny _ _ (call (Value.type _) [Value.ref _]) _ _ _); k_dflt (refine' list_copyK ?z78k1 ?z78k2 ?z78k3 ?_ ?z78z; (case z78k1 => k_asm); (case z78k2 => k_asm); (case z78k3 => exact ⟨_, Tk.get (by k_asm) (by k_asm) (by with_reducible assumption) (by intro p9 hp9; first | exact hp9 | exact absurd hp9 List.not_mem_nil | (repeat (first | exact hp9 | refine List.mem_cons_of_mem _ ?_))), rfl, _, rfl⟩); (case z78z => size_fits); k_whole); walk_at "i17"; (try k_sweep))
  k_with "subscriptTail" => (k_here; (with_reducible show wpAny _ _ (subscriptTail _ _ (Value.ref _) (Value.int _ _)) _ _ _); k_dflt (refine' kim_list ?z79k1 ?z79k2 ?z79k3 ?z79k4 ?z79k5 ?z79k6 ?z79k7 ?_ ?z79k8 ?z79k9; (case z79k1 => k_asm); (case z79k2 => k_mem); (case z79k3 => exact rfl); (case z79k4 => exact rfl); (case z79k5 => omega); (case z79k6 => omega); (case z79k7 => with_reducible assumption); (case z79k8 => with_unfolding_all rfl); (case z79k9 => (intro _; with_unfolding_all rfl)); k_whole))
  k_with "setItem ref int" => (k_here; (with_reducible show wpAny _ _ (setItem (Value.ref _) (Value.int _ _) (Value.ref _)) _ _ _); refine Hold.out ?_)
  k_with "subscriptTail Name Name ref int" => (k_here; (with_reducible show wpAny _ _ (subscriptTail _ _ (Value.ref _) (Value.int _ _)) _ _ _); k_dflt (refine' list_t ?z80k1 ?z80k0 ?z80k2 ?z80kS ?z80k3 ?z80k4 ?z80k5 ?z80k6 ?z80k8 ?_ ?z80k9 ?z80k10; (case z80k1 => k_asm); (case z80k0 => k_asm); (case z80k2 => with_reducible assumption); (case z80kS => exact (by intro p9 hp9; first | exact hp9 | exact absurd hp9 List.not_mem_nil | (repeat (first | exact hp9 | refine List.mem_cons_of_mem _ ?_)))); (case z80k3 => exact rfl); (case z80k4 => exact rfl); (case z80k5 => first | decide | omega); (case z80k6 => first | decide | omega); (case z80k8 => with_reducible assumption); (case z80k9 => with_unfolding_all rfl); (case z80k10 => (intro _; with_unfolding_all rfl)); k_whole))
  k_with "subscriptTail Name Name ref int" => (k_here; (with_reducible show wpAny _ _ (subscriptTail _ _ (Value.ref _) (Value.int _ _)) _ _ _); k_dflt (refine' kim_list ?z81k1 ?z81k2 ?z81k3 ?z81k4 ?z81k5 ?z81k6 ?z81k7 ?_ ?z81k8 ?z81k9; (case z81k1 => k_asm); (case z81k2 => k_mem); (case z81k3 => exact rfl); (case z81k4 => exact rfl); (case z81k5 => omega); (case z81k6 => omega); (case z81k7 => with_reducible assumption); (case z81k8 => with_unfolding_all rfl); (case z81k9 => (intro _; with_unfolding_all rfl)); k_whole))
  trivial
theorem solved_x {w : World} {p : Program} {loose : List Str} {mean : ExcName → Option Value} {mg mb : Str → Option Value} {dp un : Nat} {gd : Option (List Code)} {cn : Str} {cs : Scope} {a : Addr} {ccd : Value} {cl : List (Str × Addr)} {outer : List Env} {A₀ : Around} {base h₀ : Heap} {L : Addr} {m : Str → Option Value} {news : List (Addr × Obj)} {s : Shared} {Q E : Value → Shared → Prop} {P : Addr → Obj → Prop} {R S : Addr} {rv sv : List Value} {M : Mat} {sd : List Rat} {nR nS n b : Nat} {kp : Addr × Obj}
    (B : Below A₀ base outer h₀) (F : Fr h₀ L s.heap m) (X : (HD.K w.params).In h₀) (N : News h₀ L s.heap news) (T : Top p loose mean mg mb h₀) (hk : cs.kind = .function) (hkn : kp ∈ news) (hP : ∀ a o, P a o → s.heap.get? a = some o) (hPk : ∀ a o, P a o → a ≠ kp.1) (eR : P R (listOf rv.toArray nR)) (hR : All2 (RatsN P) rv M) (eS : P S (listOf sv.toArray nS)) (hS : All2 (RatN P) sv sd) (hM : M.length = n) (hsd : sd.length = n) (hrow : ∀ r ∈ M, r.length = n) (hb : ∀ r ∈ M, ∀ x ∈ r, Bd b x) (hb2 : ∀ x ∈ sd, Bd b x)
    (hn1 : 1 ≤ n) (hn : n ≤ 3) (hbb : b ≤ 64)
    (hd : dp + 20 < recursionLimit) (hu : un + 800 < cLine)
    (hret : ∀ (Z : Mat) (v : Value) (tl : List (Addr × Obj)) (h' : Heap) (tk' : Nat), gjM n n (augM M sd) = some Z → Fr h₀ L h' m → News h₀ L h' (news ++ tl) → (∀ p ∈ news, p.1 ≠ kp.1 → ∀ q ∈ tl, p.1 ≠ q.1) → RatsN (PT P tl) v (Z.map fun r => r.getD n 0) → (∀ r ∈ Z, ∀ x ∈ r, Bd (bnd b n) x) → Q v { s with heap := h', toks := tk' })
    (hE : gjM n n (augM M sd) = none → ∀ (T9 : Str) (g : Heap) (e t : Addr) (u : Tok) (h' : Heap) (tk' : Nat), Fr h₀ L g m → g.UpToSlots h' → RaisedK base (envX cn cs L a ccd cl :: outer) e (.ref 24) t [.str T9 u] [kp] h' → E (.ref e) { s with heap := h', toks := tk' }) :
    wpAny (model PySem.Challenge.rw_ui0509_08.row.prog w) (ktrTop dp un gd cn cs L a ccd cl outer) (call (.ref 171) [.ref R, .ref S]) Q E s := by
  w_top off
  revert X; k_fill; intro X
  refine wpAny_call ?_
  k_dflt (refine' code_needC [kp] ?k1 ?k2 ?k3 ?k4 ?k5 ?kA ?kF ?kK ?k6 ?k7 ?k8 ?k9 ?kB ?kD ?kN ?_ ?c2 ?c3 ?c4; (case kA => exact rfl); (case kF => exact rfl); (case kK => assumption); (case k1 => k_asm); (case k2 => k_asm); (case k3 => k_asm); (case k4 => k_asm); (case k5 => k_asm); (case k6 => k_is); (case k7 => k_is); (case k8 => ktr_room); (case k9 => first | exact BindsTo.of_eq rfl | exact binds_K (by k_in) rfl (by k_is) rfl rfl rfl); (case kB => exact rfl); (case kD => decide +kernel); (case kN => exact fun p hp => by rw [List.mem_singleton.mp hp]; exact hkn); (case c2 => exact rfl); (case c3 => exact rfl); (case c4 => exact rfl); k_whole; intro g' L' h' tk0 cells' FG' F' N' Y' B' X' T' l1 hG')
  refine hide_goal fun G9 k9 => ?_
  obtain ⟨o1, o2, o3, o4, o5, o6, o7, rfl, q1, q2, q3, q4, q5, q6, q7⟩ := PyProof.Rows.kc_seven Y'
  have hkl : kp.1 < L' := l1 kp (List.mem_cons_self ..)
  clear Y' l1
  refine k9 ?_
  clear k9
  (try dsimp only [List.cons_append, List.nil_append] at N')
  (try dsimp only); (try k_fold)
  have hT := ground_ofK hP hPk hG'
  have eRT := hT [] _ _ (.inl eR)
  have eST := hT [] _ _ (.inl eS)
  have hvl := hR.length
  have hsl := hS.length
  replace q7 : o7.data = .cell (some (.ref R)) := q7
  replace q6 : o6.data = .cell (some (.ref S)) := q6
  replace q5 : o5.data = .cell none := q5
  replace q4 : o4.data = .cell none := q4
  replace q3 : o3.data = .cell none := q3
  replace q2 : o2.data = .cell none := q2
  replace q1 : o1.data = .cell none := q1
  k_steps
  unfold Hold
  refine LCg.CompSrc.range (n := n) rfl (by k_asm) (by k_asm) (by assumption) (by first | with_reducible exact sm_0 (hvl.trans hM) hn | with_reducible exact sm_i (hvl.trans hM) hn hi | with_reducible exact sm_1 (hvl.trans hM) hn | exact small_one (by omega) (by omega) (by omega) (by omega)) (rsize (by first | with_reducible exact rs_0 (hvl.trans hM) | with_reducible exact rs_i (hvl.trans hM) hi | with_reducible exact rs_1 (hvl.trans hM) | omega)) (by rw [sizeLine_eq]; omega) (fun g9 => ?_)
  refine comp_ind (fun i ys nx => ∃ tl, nx = (L' + 1 + 1 + 1 + 1 + 1 + 1 + 1, o1) :: (L' + 1 + 1 + 1 + 1 + 1 + 1, o2) :: (L' + 1 + 1 + 1 + 1 + 1, o3) :: (L' + 1 + 1 + 1 + 1, o4) :: (L' + 1 + 1 + 1, o5) :: (L' + 1 + 1, o6) :: (L' + 1, o7) :: tl ∧ (∀ p ∈ tl, OffC L' p.1) ∧ kp ∈ tl ∧ All2 (RatsN (PT P tl)) ys ((augM M sd).take i)) ?turn1 ?fin1 _ 0 [] _ (Nat.zero_add _) ⟨[kp], rfl, (fun p h => by rw [List.mem_singleton.mp h]; exact .inl (Nat.le_of_lt hkl)), List.mem_cons_self .., .nil⟩
  case turn1 =>
    intro i v I oI C oC D9 m2 h tk E' ys nx hi hJ hPv hC hx Fm Nn off ne
    refine hide_goal fun G9 k9 => ?_
    obtain ⟨tl, rfl, htl, hkp, hys⟩ := hJ
    obtain ⟨t9, rfl⟩ := hPv
    obtain ⟨row, hrw⟩ : ∃ row, M[i]? = some row := ex_at (by first | exact lt_len (by with_reducible assumption) (by with_reducible assumption) | exact lt_len1 (by with_reducible assumption) (by with_reducible assumption) | omega)
    obtain ⟨x, hxs⟩ : ∃ x, sd[i]? = some x := ex_at (by first | exact lt_len (by with_reducible assumption) (by with_reducible assumption) | exact lt_len1 (by with_reducible assumption) (by with_reducible assumption) | omega)
    obtain ⟨_, hvr, Rr, rws, nr, rfl, eRr, hrws⟩ := hR.at hrw
    obtain ⟨vx, hvx, hrx⟩ := hS.at hxs
    have hx1 : rv[(0 + (i : Int)).toNat]? = some (Value.ref Rr) := at_of hvr (by first | with_reducible exact Int.zero_add _ | omega)
    have hx2 : sv[(0 + (i : Int)).toNat]? = some vx := at_of hvx (by first | with_reducible exact Int.zero_add _ | omega)
    have eRr' := hT tl _ _ (.inl eRr)
    have hlr := hrws.length
    have hlr2 := hrow _ (List.mem_of_getElem? hrw)
    have hag := take_snoc_of (aug_get hrw hxs)
    have off' := off
    simp only [LCg.Off3, and_assoc] at off'
    refine k9 ?_
    clear k9
    k_steps
    unfold Hold
    rename_i Dn hn' Fn Nn2 ln
    refine comp_end Fn Nn2 ((L' + 1 + 1 + 1 + 1 + 1 + 1 + 1, o1) :: (L' + 1 + 1 + 1 + 1 + 1 + 1, o2) :: (L' + 1 + 1 + 1 + 1 + 1, o3) :: (L' + 1 + 1 + 1 + 1, o4) :: (L' + 1 + 1 + 1, o5) :: (L' + 1 + 1, o6) :: (L' + 1, o7) :: (Dn, listOf (rws ++ [vx]).toArray 0) :: tl) (fcons (by k_mem) (fcons (by k_mem) (fcons (by k_mem) (fcons (by k_mem) (fcons (by k_mem) (fcons (by k_mem) (fcons (by k_mem) (fcons (by k_mem) (fcons (by k_mem) (fcons (by k_mem) (fcons (by k_mem) (by intro p9 hp9; first | ((repeat (first | exact hp9 | exact List.mem_append_left _ hp9 | exact List.mem_append_right _ hp9 | refine List.mem_cons_of_mem _ ?_)); done) | (simp only [List.mem_cons, List.mem_append]; simp only [hp9, true_or, or_true]))))))))))))) (off7 off (neN (by walk_at "ne9")) (neN (by walk_at "ne9")) (neN (by walk_at "ne9"))) trivial ⟨(Dn, listOf (rws ++ [vx]).toArray 0) :: tl, rfl, offc_cons (by first | exact offc_of (by k_ne) (by k_ne) (by k_ne) (by k_ne) (by k_ne) (by k_ne) (by k_ne) | (unfold OffC; dsimp only; omega)) htl, List.mem_cons_of_mem _ hkp, ?_⟩
    rw [hag]
    exact (hys.mono fun _ _ y => RatsN.mono (PT.mono fun p hp => List.mem_cons_of_mem _ hp) y).snoc (rats_new (.inr (List.mem_cons_self ..)) ((hrws.mono fun _ _ y => y.mono fun _ _ e => .inl e).snoc (hrx.mono fun _ _ e => .inl e)))
  case fin1 =>
    intro ys nx hJ t h tk Fm Nn off1
    refine hide_goal fun G9 k9 => ?_
    obtain ⟨tl, rfl, htl, hkp, hys⟩ := hJ
    have hal : (augM M sd).length = n := by simp [augM]; omega
    rw [List.take_of_length_le (by omega)] at hys
    have offt := off1_mem off1.2.2.2.2.2.2.2
    simp only [LCg.Off1] at off1
    refine k9 ?_
    clear k9
    k_steps
    unfold Hold
    rename_i h3 oT F3 N3 dT h4 tk4 ta ua va hrg F4 N4 hk4
    refine iter_rangeTurns (n := n) rfl hrg (by first | with_reducible exact sm_0 (hvl.trans hM) hn | with_reducible exact sm_i (hvl.trans hM) hn hi | with_reducible exact sm_1 (hvl.trans hM) hn | exact small_one (by omega) (by omega) (by omega) (by omega)) (rsize (by first | with_reducible exact rs_0 (hvl.trans hM) | with_reducible exact rs_i (hvl.trans hM) hi | with_reducible exact rs_1 (hvl.trans hM) | omega)) F4 N4 (fun I lI => ?_)
    have ltI := allLt_of lI
    simp only [AllLt] at ltI
    refine items_ind (fun i m nx => ∃ (vs : List Value) (n0 : Nat) (tl : List (Addr × Obj)) (p1 p2 p3 p5 : Obj) (w1 w2 w3 w5 : Option Value) (Mi : Mat), nx = (t, listOf vs.toArray n0) :: (L' + 1 + 1 + 1 + 1 + 1 + 1 + 1, p1) :: (L' + 1 + 1 + 1 + 1 + 1 + 1, p2) :: (L' + 1 + 1 + 1 + 1 + 1, p3) :: (L' + 1 + 1 + 1 + 1, oT) :: (L' + 1 + 1 + 1, p5) :: (L' + 1 + 1, o6) :: (L' + 1, o7) :: tl ∧ p1.data = .cell w1 ∧ p2.data = .cell w2 ∧ p3.data = .cell w3 ∧ p5.data = .cell w5 ∧
      (∀ p ∈ tl, OffC L' p.1) ∧ (∀ p ∈ tl, p.1 ≠ t) ∧ kp ∈ tl ∧ (∃ tc, m (Str.ofString "count") = some (.int (rv.length : Int) tc)) ∧ gjM n i (augM M sd) = some Mi ∧ All2 (RatsN (PT P tl)) vs Mi ∧ Mi.length = n ∧ (∀ r ∈ Mi, r.length = n + 1) ∧ (∀ r ∈ Mi, ∀ x ∈ r, Bd (bnd b i) x)) ?turn2 ?done2 _ 0 _ _ rfl (Nat.zero_le _) trivial (fun p hp => Nat.ne_of_lt (lI p hp)) ?init2
    case init2 => exact ⟨ys, ys.length, tl, o1, o2, o3, o5, none, none, none, none, augM M sd, rfl, q1, q2, q3, q5, htl, offt, hkp, ⟨_, rfl⟩, rfl, hys, hal, aug_rows hrow, aug_bd hb hb2⟩
    case turn2 =>
      intro i a v m nx h tk o ha _ hI hJ hav Fm ho Nn
      refine hide_goal fun G9 k9 => ?_
      obtain ⟨vs, n0, tl, p1, p2, p3, p5, w1, w2, w3, w5, Mi, rfl, d1, d2, d3, d5, htl, htt, hkp, ⟨tc, hmc⟩, hgi, hvs, hMl, hMr, hMb⟩ := hJ
      obtain ⟨hi, rfl⟩ := rangeItems_get ha
      obtain ⟨t9, rfl⟩ := hav
      have htI : ∀ p ∈ tl, p.1 ≠ I := fun p hp => hI p (List.mem_cons_of_mem _ (List.mem_cons_of_mem _ (List.mem_cons_of_mem _ (List.mem_cons_of_mem _ (List.mem_cons_of_mem _ (List.mem_cons_of_mem _ (List.mem_cons_of_mem _ (List.mem_cons_of_mem _ hp))))))))
      clear hI
      have hvl2 := hvs.length
      refine k9 ?_
      clear k9
      k_steps
      unfold Hold
      rename_i h5 r5 d5' h6 F6 N6 h7 tk7 tb ub vb hrg2 F7 N7 hk7
      dsimp only at d5'
      refine iter_rangeTurns (n := n - i) rfl hrg2 (by first | with_reducible exact sm_0 (hvl.trans hM) hn | with_reducible exact sm_i (hvl.trans hM) hn hi | with_reducible exact sm_1 (hvl.trans hM) hn | exact small_one (by omega) (by omega) (by omega) (by omega)) (rsize (by first | with_reducible exact rs_0 (hvl.trans hM) | with_reducible exact rs_i (hvl.trans hM) hi | with_reducible exact rs_1 (hvl.trans hM) | omega)) F7 N7 (fun I2 lI2 => ?_)
      have ltI2 := allLt_of lI2
      simp only [AllLt] at ltI2
      refine items_ind (fun d m' nx => ∃ (r3 : Obj) (u3 : Option Value), nx = (I, o) :: (t, listOf vs.toArray n0) :: (L' + 1 + 1 + 1 + 1 + 1 + 1 + 1, p1) :: (L' + 1 + 1 + 1 + 1 + 1 + 1, p2) :: (L' + 1 + 1 + 1 + 1 + 1, r3) :: (L' + 1 + 1 + 1 + 1, oT) :: (L' + 1 + 1 + 1, r5) :: (L' + 1 + 1, o6) :: (L' + 1, o7) :: tl ∧ r3.data = .cell u3 ∧ (∃ tc, m' (Str.ofString "count") = some (.int (rv.length : Int) tc)) ∧ ((plM Mi i d = none ∧ m' (Str.ofString "place") = some .none) ∨ (∃ pv tp, plM Mi i d = some pv ∧ m' (Str.ofString "place") = some (.int ((pv : Nat) : Int) tp)))) ?turn3 ?done3 _ 0 _ _ rfl (Nat.zero_le _) trivial (fun p hp => Nat.ne_of_lt (lI2 p hp)) ⟨p3, w3, rfl, d3, ⟨tc, hmc⟩, .inl ⟨rfl, rfl⟩⟩
      case turn3 =>
        intro d a2 v2 m2 nx2 h8 tk8 ob ha2 _ hI2 hJ2 hav2 Fm2 ho2 Nn2
        refine hide_goal fun G9 k9 => ?_
        obtain ⟨r3, u3, rfl, d3', ⟨tc2, hmc2⟩, hpl2⟩ := hJ2
        obtain ⟨hi2, rfl⟩ := rangeItems_get ha2
        obtain ⟨t8, rfl⟩ := hav2
        have htI2 : ∀ p ∈ tl, p.1 ≠ I2 := fun p hp => hI2 p (List.mem_cons_of_mem _ (List.mem_cons_of_mem _ (List.mem_cons_of_mem _ (List.mem_cons_of_mem _ (List.mem_cons_of_mem _ (List.mem_cons_of_mem _ (List.mem_cons_of_mem _ (List.mem_cons_of_mem _ (List.mem_cons_of_mem _ hp)))))))))
        clear hI2
        refine k9 ?_
        clear k9
        rcases hpl2 with ⟨hpn, hmp⟩ | ⟨pv2, tp, hps, hmp⟩
        · refine hide_goal fun G9 k9 => ?_
          obtain ⟨rj, hrj⟩ : ∃ rj, Mi[i + d]? = some rj := ex_at (by first | exact lt_len (by with_reducible assumption) (by with_reducible assumption) | exact lt_len1 (by with_reducible assumption) (by with_reducible assumption) | omega)
          obtain ⟨_, hvj, Rj, rjs, nj, rfl, eRj, hrjs⟩ := hvs.at hrj
          have hlj := hMr _ (List.mem_of_getElem? hrj)
          obtain ⟨x, hx⟩ : ∃ x, rj[i]? = some x := ex_at (by first | exact lt_len (by with_reducible assumption) (by with_reducible assumption) | exact lt_len1 (by with_reducible assumption) (by with_reducible assumption) | omega)
          obtain ⟨_, hvx, Dx, tx, tx', cx, rfl, eDx⟩ := hrjs.at hx
          have eRj' := hT tl _ _ eRj
          have eDx' := hT tl _ _ eDx
          have hx1 : vs[(0 + (i : Int) + (d : Int)).toNat]? = some (Value.ref Rj) := at_of hvj (by first | with_reducible exact Int.zero_add _ | omega)
          have hx2 : rjs[(0 + (i : Int)).toNat]? = some (Value.ref Dx) := at_of hvx (by first | with_reducible exact Int.zero_add _ | omega)
          have hat := at2_of hrj hx
          have hps := plM_succ Mi i d
          rw [hpn, hat] at hps
          refine k9 ?_
          clear k9
          k_steps
          all_goals unfold Hold
          · rename_i h9 rr dd tkk hx0 h10 F9 N9
            exact unr_end ((I, o) :: (t, listOf vs.toArray n0) :: (L' + 1 + 1 + 1 + 1 + 1 + 1 + 1, p1) :: (L' + 1 + 1 + 1 + 1 + 1 + 1, p2) :: (L' + 1 + 1 + 1 + 1 + 1, rr) :: (L' + 1 + 1 + 1 + 1, oT) :: (L' + 1 + 1 + 1, r5) :: (L' + 1 + 1, o6) :: (L' + 1, o7) :: tl) F9 N9 (by k_mem) (fcons (by k_mem) (fcons (by k_mem) (fcons (by k_mem) (fcons (by k_mem) (fcons (by k_mem) (fcons (by k_mem) (fcons (by k_mem) (fcons (by k_mem) (fcons (by k_mem) (by intro p9 hp9; first | ((repeat (first | exact hp9 | exact List.mem_append_left _ hp9 | exact List.mem_append_right _ hp9 | refine List.mem_cons_of_mem _ ?_)); done) | (simp only [List.mem_cons, List.mem_append]; simp only [hp9, true_or, or_true]))))))))))) (fcons (neN (by walk_at "ne9")) (fcons (neN (by walk_at "ne9")) (fcons (neN (by walk_at "ne9")) (fcons (neN (by walk_at "ne9")) (fcons (neN (by walk_at "ne9")) (fcons (neN (by walk_at "ne9")) (fcons (neN (by walk_at "ne9")) (fcons (neN (by walk_at "ne9")) (fcons (neN (by walk_at "ne9")) htI2))))))))) ⟨trivial, rr, _, rfl, dd, ⟨tc2, hmc2⟩, .inr ⟨i + d, t8, by rw [hps, if_pos ⟨rfl, num_ne hx0⟩], by show some (Value.int (0 + (i : Int) + (d : Int)) t8) = _; rw [show (0 + (i : Int) + (d : Int)) = ((i + d : Nat) : Int) by omega]⟩⟩
          · rename_i h9 rr F9 N9 dd tkk hx0
            exact unr_end ((I, o) :: (t, listOf vs.toArray n0) :: (L' + 1 + 1 + 1 + 1 + 1 + 1 + 1, p1) :: (L' + 1 + 1 + 1 + 1 + 1 + 1, p2) :: (L' + 1 + 1 + 1 + 1 + 1, rr) :: (L' + 1 + 1 + 1 + 1, oT) :: (L' + 1 + 1 + 1, r5) :: (L' + 1 + 1, o6) :: (L' + 1, o7) :: tl) F9 N9 (by k_mem) (fcons (by k_mem) (fcons (by k_mem) (fcons (by k_mem) (fcons (by k_mem) (fcons (by k_mem) (fcons (by k_mem) (fcons (by k_mem) (fcons (by k_mem) (fcons (by k_mem) (by intro p9 hp9; first | ((repeat (first | exact hp9 | exact List.mem_append_left _ hp9 | exact List.mem_append_right _ hp9 | refine List.mem_cons_of_mem _ ?_)); done) | (simp only [List.mem_cons, List.mem_append]; simp only [hp9, true_or, or_true]))))))))))) (fcons (neN (by walk_at "ne9")) (fcons (neN (by walk_at "ne9")) (fcons (neN (by walk_at "ne9")) (fcons (neN (by walk_at "ne9")) (fcons (neN (by walk_at "ne9")) (fcons (neN (by walk_at "ne9")) (fcons (neN (by walk_at "ne9")) (fcons (neN (by walk_at "ne9")) (fcons (neN (by walk_at "ne9")) htI2))))))))) ⟨trivial, rr, _, rfl, dd, ⟨tc2, hmc2⟩, .inl ⟨by rw [hps, if_neg (fun h => h.2 (num_eq hx0))], hmp⟩⟩
        · have hps2 := plM_succ Mi i d
          k_steps
          all_goals unfold Hold
          rename_i h9 rr F9 N9 dd
          exact unr_end ((I, o) :: (t, listOf vs.toArray n0) :: (L' + 1 + 1 + 1 + 1 + 1 + 1 + 1, p1) :: (L' + 1 + 1 + 1 + 1 + 1 + 1, p2) :: (L' + 1 + 1 + 1 + 1 + 1, rr) :: (L' + 1 + 1 + 1 + 1, oT) :: (L' + 1 + 1 + 1, r5) :: (L' + 1 + 1, o6) :: (L' + 1, o7) :: tl) F9 N9 (by k_mem) (fcons (by k_mem) (fcons (by k_mem) (fcons (by k_mem) (fcons (by k_mem) (fcons (by k_mem) (fcons (by k_mem) (fcons (by k_mem) (fcons (by k_mem) (fcons (by k_mem) (by intro p9 hp9; first | ((repeat (first | exact hp9 | exact List.mem_append_left _ hp9 | exact List.mem_append_right _ hp9 | refine List.mem_cons_of_mem _ ?_)); done) | (simp only [List.mem_cons, List.mem_append]; simp only [hp9, true_or, or_true]))))))))))) (fcons (neN (by walk_at "ne9")) (fcons (neN (by walk_at "ne9")) (fcons (neN (by walk_at "ne9")) (fcons (neN (by walk_at "ne9")) (fcons (neN (by walk_at "ne9")) (fcons (neN (by walk_at "ne9")) (fcons (neN (by walk_at "ne9")) (fcons (neN (by walk_at "ne9")) (fcons (neN (by walk_at "ne9")) htI2))))))))) ⟨trivial, rr, _, rfl, dd, ⟨tc2, hmc2⟩, .inr ⟨pv2, tp, by rw [hps2, hps, if_neg (fun h => nomatch h.1)], hmp⟩⟩
      case done3 =>
        intro m3 nx3 h8 tk8 hJ3 Fm3 Nn3
        refine hide_goal fun G9 k9 => ?_
        simp only [rangeItems, List.length_map, List.length_range] at hJ3
        obtain ⟨r3, u3, rfl, d3', ⟨tc2, hmc2⟩, hpl3⟩ := hJ3
        refine k9 ?_
        clear k9
        rcases hpl3 with ⟨hpn, hmp⟩ | ⟨pv, tp, hpl, hmp⟩
        · have hgn := gj_none hgi hpn n hi
          k_steps
          all_goals exact hE hgn _ _ _ _ _ _ _ (by assumption) (by assumption) (raisedK_from (by assumption) (fun p hp => by rw [List.mem_singleton.mp hp]; exact ((by intro p9 hp9; first | ((repeat (first | exact hp9 | exact List.mem_append_left _ hp9 | exact List.mem_append_right _ hp9 | refine List.mem_cons_of_mem _ ?_)); done) | (simp only [List.mem_cons, List.mem_append]; simp only [hp9, true_or, or_true])) : ∀ p ∈ tl, p ∈ _) _ hkp))
        refine hide_goal fun G9 k9 => ?_
        obtain ⟨Y, hY, hYe⟩ := gj_mk hgi hpl
        obtain ⟨hp1, hp2, hp3⟩ := plM_spec hpl
        obtain ⟨rp, hrp⟩ : ∃ rp, Mi[pv]? = some rp := ex_at (by first | exact lt_len (by with_reducible assumption) (by with_reducible assumption) | exact lt_len1 (by with_reducible assumption) (by with_reducible assumption) | omega)
        obtain ⟨ri, hri⟩ : ∃ ri, Mi[i]? = some ri := ex_at (by first | exact lt_len (by with_reducible assumption) (by with_reducible assumption) | exact lt_len1 (by with_reducible assumption) (by with_reducible assumption) | omega)
        obtain ⟨_, hvp, Rp, rps, np, rfl, eRp, hrps⟩ := hvs.at hrp
        obtain ⟨_, hvi, Ri, ris, ni, rfl, eRi, hris⟩ := hvs.at hri
        have hx1 : vs[((pv : Nat) : Int).toNat]? = some (Value.ref Rp) := at_of hvp rfl
        have hx2 : vs[(0 + (i : Int)).toNat]? = some (Value.ref Ri) := at_of hvi (by first | with_reducible exact Int.zero_add _ | omega)
        refine k9 ?_
        clear k9
        k_steps
        unfold Hold
        rename_i Dq hq lq h9 F9 N9
        refine' set_at (vs := vs) (n := n0) F9 N9 ?U1 (by first | with_reducible exact z_le | omega) (by first | with_reducible exact z_lt (by with_reducible assumption) (by with_reducible assumption) (by with_reducible assumption) | omega) (by omega) ?_
        case U1 => k_upd
        intro h10 F10 N10
        k_steps
        unfold Hold
        refine' set_at (vs := vs.set (0 + (i : Int)).toNat (Value.ref Rp)) (n := n0) F10 N10 ?U2 (by omega) (by rw [List.length_set]; omega) (by omega) ?_
        case U2 => k_upd
        intro h11 F11 N11
        refine hide_goal fun G9 k9 => ?_
        have e1 : (0 + (i : Int)).toNat = i := z_to
        simp only [e1, Int.toNat_natCast] at N11
        have hvs2 := swap_all hvs hri hrp (rats_new eRi hris) (rats_new eRp hrps)
        obtain ⟨sw1, sw2, sw3⟩ := swap_facts (i := i) (p := pv) (by omega) (by omega) hMr hMb
        have sw4 : at2 (swapM i pv Mi) i i ≠ 0 := by rw [swap_at hri hrp]; exact hp3
        generalize (vs.set i (Value.ref Rp)).set pv (Value.ref Ri) = vs2 at N11 hvs2
        generalize swapM i pv Mi = M2 at hvs2 sw1 sw2 sw3 sw4 hYe
        rw [hMl] at sw1
        have hvl3 := hvs2.length
        clear hx1 hx2
        obtain ⟨rq, hrq⟩ : ∃ rq, M2[i]? = some rq := ex_at (by first | exact lt_len (by with_reducible assumption) (by with_reducible assumption) | exact lt_len1 (by with_reducible assumption) (by with_reducible assumption) | omega)
        obtain ⟨_, hvq, Rq, rqs, nq, rfl, eRq, hrqs⟩ := hvs2.at hrq
        have hlq := sw2 _ (List.mem_of_getElem? hrq)
        have hlq2 := hrqs.length
        obtain ⟨x, hx⟩ : ∃ x, rq[i]? = some x := ex_at (by first | exact lt_len (by with_reducible assumption) (by with_reducible assumption) | exact lt_len1 (by with_reducible assumption) (by with_reducible assumption) | omega)
        obtain ⟨_, hvx, Dx, tx, tx', cx, rfl, eDx⟩ := hrqs.at hx
        have hxz : x ≠ 0 := by rw [at2_of hrq hx] at sw4; exact sw4
        have hbx := sw3 _ (List.mem_of_getElem? hrq) _ (List.mem_of_getElem? hx)
        have hbi := bnd_le2 (i := i) hbb (by omega)
        have eRq' := hT tl _ _ eRq
        have eDx' := hT tl _ _ eDx
        have hx1 : vs2[(0 + (i : Int)).toNat]? = some (Value.ref Rq) := at_of hvq (by first | with_reducible exact Int.zero_add _ | omega)
        have hx2 : rqs[(0 + (i : Int)).toNat]? = some (Value.ref Dx) := at_of hvx (by first | with_reducible exact Int.zero_add _ | omega)
        refine k9 ?_
        clear k9
        k_steps
        unfold Hold
        rename_i h12 r2 F12 N12 d2'
        clear hx1 hx2
        refine src_tk (news := (I, o) :: (t, listOf vs2.toArray n0) :: (L' + 1 + 1 + 1 + 1 + 1 + 1 + 1, p1) :: (L' + 1 + 1 + 1 + 1 + 1 + 1, r2) :: (L' + 1 + 1 + 1 + 1 + 1, r3) :: (L' + 1 + 1 + 1 + 1, oT) :: (L' + 1 + 1 + 1, r5) :: (L' + 1 + 1, o6) :: (L' + 1, o7) :: tl) rfl F12 (news_sub N12 (fcons (by k_mem) (fcons (by k_mem) (fcons (by k_mem) (fcons (by k_mem) (fcons (by k_mem) (fcons (by k_mem) (fcons (by k_mem) (fcons (by k_mem) (fcons (by k_mem) (by intro p9 hp9; first | ((repeat (first | exact hp9 | exact List.mem_append_left _ hp9 | exact List.mem_append_right _ hp9 | refine List.mem_cons_of_mem _ ?_)); done) | (simp only [List.mem_cons, List.mem_append]; simp only [hp9, true_or, or_true])))))))))))) eRq' (by intro p9 hp9; first | ((repeat (first | exact hp9 | exact List.mem_append_left _ hp9 | exact List.mem_append_right _ hp9 | refine List.mem_cons_of_mem _ ?_)); done) | (simp only [List.mem_cons, List.mem_append]; simp only [hp9, true_or, or_true])) (by rw [List.size_toArray, sizeLine_eq]; omega) (fun g9 => ?_)
        refine comp_ind (fun c ys nx => ∃ tl2, nx = (I, o) :: (t, listOf vs2.toArray n0) :: (L' + 1 + 1 + 1 + 1 + 1 + 1 + 1, p1) :: (L' + 1 + 1 + 1 + 1 + 1 + 1, r2) :: (L' + 1 + 1 + 1 + 1 + 1, r3) :: (L' + 1 + 1 + 1 + 1, oT) :: (L' + 1 + 1 + 1, r5) :: (L' + 1 + 1, o6) :: (L' + 1, o7) :: tl2 ∧ (∀ p ∈ tl2, OffC L' p.1) ∧ (∀ p ∈ tl2, p.1 ≠ t) ∧ (∀ p ∈ tl2, p.1 ≠ I) ∧ (∀ p ∈ tl, p ∈ tl2) ∧ All2 (RatN (PT P tl2)) ys ((rq.map (· / x)).take c) ∧ (∀ y ∈ (rq.map (· / x)).take c, Bd (bnd b i + bnd b i) y)) ?turn5 ?fin5 _ 0 [] _ (Nat.zero_add _) ⟨tl, rfl, htl, htt, htI, (fun _ h => h), .nil, (by simp)⟩
        case turn5 =>
          intro c v I5 oI C oC D9 m2 h tk E' ys nx hi hJ hPv hC hx5 Fm Nn off ne
          refine hide_goal fun G9 k9 => ?_
          obtain ⟨tl2, rfl, htl2, htt2, htI2, hss, hys, hyb⟩ := hJ
          have hvc : rqs[c]? = some v := by simpa using hPv
          obtain ⟨y, hy, Dy, ty, ty', cy, rfl, eDy⟩ := hrqs.get hvc
          have eDy' := hT tl2 _ _ (PT.mono hss _ _ eDy)
          have eDx2 := hT tl2 _ _ (PT.mono hss _ _ eDx)
          have eRq2 := hT tl2 _ _ (PT.mono hss _ _ eRq)
          have hby := sw3 _ (List.mem_of_getElem? hrq) _ (List.mem_of_getElem? hy)
          have hst : (rq.map (· / x)).take (c + 1) = (rq.map (· / x)).take c ++ [y / x] := take_snoc_of (by rw [List.getElem?_map, hy]; rfl)
          refine k9 ?_
          clear k9
          k_steps
          unfold Hold
          rename_i Dn tn un' cn' hn' tkn bDn Fn Nn2 ln
          refine comp_end Fn Nn2 ((I, o) :: (t, listOf vs2.toArray n0) :: (L' + 1 + 1 + 1 + 1 + 1 + 1 + 1, p1) :: (L' + 1 + 1 + 1 + 1 + 1 + 1, r2) :: (L' + 1 + 1 + 1 + 1 + 1, r3) :: (L' + 1 + 1 + 1 + 1, oT) :: (L' + 1 + 1 + 1, r5) :: (L' + 1 + 1, o6) :: (L' + 1, o7) :: (Dn, RatO (y / x) tn un' cn') :: tl2) (fcons (by k_mem) (fcons (by k_mem) (fcons (by k_mem) (fcons (by k_mem) (fcons (by k_mem) (fcons (by k_mem) (fcons (by k_mem) (fcons (by k_mem) (fcons (by k_mem) (fcons (by k_mem) (fcons (by k_mem) (fcons (by k_mem) (fcons (by k_mem) (by intro p9 hp9; first | ((repeat (first | exact hp9 | exact List.mem_append_left _ hp9 | exact List.mem_append_right _ hp9 | refine List.mem_cons_of_mem _ ?_)); done) | (simp only [List.mem_cons, List.mem_append]; simp only [hp9, true_or, or_true]))))))))))))))) (off9 off (neN (by walk_at "ne9")) (neN (by walk_at "ne9")) (neN (by walk_at "ne9"))) (srcAt_tk eRq2 (by intro p9 hp9; first | ((repeat (first | exact hp9 | exact List.mem_append_left _ hp9 | exact List.mem_append_right _ hp9 | refine List.mem_cons_of_mem _ ?_)); done) | (simp only [List.mem_cons, List.mem_append]; simp only [hp9, true_or, or_true]))) ⟨(Dn, RatO (y / x) tn un' cn') :: tl2, rfl, offc_cons (by first | exact offc_of (by k_ne) (by k_ne) (by k_ne) (by k_ne) (by k_ne) (by k_ne) (by k_ne) | (unfold OffC; dsimp only; omega)) htl2, ne_cons (neN (by walk_at "ne9")) htt2, ne_cons (neN (by walk_at "ne9")) htI2, fun p hp => List.mem_cons_of_mem _ (hss p hp), ?_, ?_⟩
          · rw [hst]; exact (hys.mono fun _ _ y => y.mono (PT.mono fun p hp => List.mem_cons_of_mem _ hp)).snoc (rat_new (.inr (List.mem_cons_self ..)))
          · rw [hst]; exact bd_snoc hyb bDn
        case fin5 =>
          intro ys nx hJ Dr h tk Fm Nn off1
          refine hide_goal fun G9 k9 => ?_
          obtain ⟨tl2, rfl, htl2, htt2, htI2, hss, hys, hyb⟩ := hJ
          refine k9 ?_
          clear k9
          rw [List.take_of_length_le (by rw [List.length_map, List.size_toArray]; omega)] at hys hyb
          simp only [LCg.Off1] at off1
          k_steps
          unfold Hold
          refine' set_at (vs := vs2) (n := n0) Fm Nn ?U3 (by first | with_reducible exact z_le | omega) (by first | with_reducible exact z_lt (by with_reducible assumption) (by with_reducible assumption) (by with_reducible assumption) | omega) (by omega) ?_
          case U3 => k_upd
          intro h14 F14 N14
          simp only [e1] at N14
          have hvs3 := norm_all (hvs2.mono fun _ _ y => RatsN.mono (PT.mono fun p hp => List.mem_cons_of_mem (Dr, LCg.lst ys) (hss p hp)) y) hrq hx (rats_new (.inr (List.mem_cons_self ..)) (hys.mono fun _ _ y => y.mono (PT.mono fun p hp => List.mem_cons_of_mem _ hp)))
          obtain ⟨nm1, nm2, nm3⟩ := norm_facts hrq hx sw2 sw3 hyb
          rw [sw1] at nm1
          generalize vs2.set i (Value.ref Dr) = vs3 at N14 hvs3
          generalize normM i M2 = M3 at hvs3 nm1 nm2 nm3 hYe
          have htl3 : ∀ p ∈ (Dr, LCg.lst ys) :: tl2, OffC L' p.1 := offc_cons (by first | exact offc_of (by k_ne) (by k_ne) (by k_ne) (by k_ne) (by k_ne) (by k_ne) (by k_ne) | (unfold OffC; dsimp only; omega)) htl2
          have htt3 : ∀ p ∈ (Dr, LCg.lst ys) :: tl2, p.1 ≠ t := ne_cons (neN (by walk_at "ne9")) htt2
          have htI3 : ∀ p ∈ (Dr, LCg.lst ys) :: tl2, p.1 ≠ I := ne_cons (neN (by walk_at "ne9")) htI2
          clear eRq' eDx' eRT eST
          k_steps
          unfold Hold
          rename_i h15 tk15 tc' uc vc hrg6 F15 N15 hk15
          refine iter_rangeTurns (n := n) (news := (I, o) :: (t, listOf vs3.toArray n0) :: (L' + 1 + 1 + 1 + 1 + 1 + 1 + 1, p1) :: (L' + 1 + 1 + 1 + 1 + 1 + 1, r2) :: (L' + 1 + 1 + 1 + 1 + 1, r3) :: (L' + 1 + 1 + 1 + 1, oT) :: (L' + 1 + 1 + 1, r5) :: (L' + 1 + 1, o6) :: (L' + 1, o7) :: (Dr, LCg.lst ys) :: tl2) rfl hrg6 (by first | with_reducible exact sm_0 (hvl.trans hM) hn | with_reducible exact sm_i (hvl.trans hM) hn hi | with_reducible exact sm_1 (hvl.trans hM) hn | exact small_one (by omega) (by omega) (by omega) (by omega)) (rsize (by first | with_reducible exact rs_0 (hvl.trans hM) | with_reducible exact rs_i (hvl.trans hM) hi | with_reducible exact rs_1 (hvl.trans hM) | omega)) F15 (news_sub N15 (fcons (by k_mem) (fcons (by k_mem) (fcons (by k_mem) (fcons (by k_mem) (fcons (by k_mem) (fcons (by k_mem) (fcons (by k_mem) (fcons (by k_mem) (fcons (by k_mem) (fcons (by k_mem) (by intro p9 hp9; first | ((repeat (first | exact hp9 | exact List.mem_append_left _ hp9 | exact List.mem_append_right _ hp9 | refine List.mem_cons_of_mem _ ?_)); done) | (simp only [List.mem_cons, List.mem_append]; simp only [hp9, true_or, or_true]))))))))))))) (fun I6 lI6 => ?_)
          have ltI6 := allLt_of lI6
          simp only [AllLt] at ltI6
          refine items_ind (fun j m' nx => ∃ (vs : List Value) (n0 : Nat) (tl : List (Addr × Obj)) (s1 s3 : Obj) (y1 y3 : Option Value) (Mj : Mat), nx = (I, o) :: (t, listOf vs.toArray n0) :: (L' + 1 + 1 + 1 + 1 + 1 + 1 + 1, s1) :: (L' + 1 + 1 + 1 + 1 + 1 + 1, r2) :: (L' + 1 + 1 + 1 + 1 + 1, s3) :: (L' + 1 + 1 + 1 + 1, oT) :: (L' + 1 + 1 + 1, r5) :: (L' + 1 + 1, o6) :: (L' + 1, o7) :: tl ∧ s1.data = .cell y1 ∧ s3.data = .cell y3 ∧ (∀ p ∈ tl, OffC L' p.1) ∧ (∀ p ∈ tl, p.1 ≠ t) ∧ (∀ p ∈ tl, p.1 ≠ I) ∧ kp ∈ tl ∧
            (∃ tc, m' (Str.ofString "count") = some (.int (rv.length : Int) tc)) ∧ Mj = (List.range j).foldl (elimM n i) M3 ∧ All2 (RatsN (PT P tl)) vs Mj ∧ Mj.length = n ∧ (∀ r ∈ Mj, r.length = n + 1) ∧ (∀ q r, Mj[q]? = some r → ∀ y ∈ r, Bd (elB (bnd b i) i j q) y)) ?turn6 ?done6 _ 0 _ _ rfl (Nat.zero_le _) trivial (fun p hp => Nat.ne_of_lt (lI6 p hp)) ⟨vs3, n0, (Dr, LCg.lst ys) :: tl2, p1, r3, w1, u3, M3, rfl, d1, d3', htl3, htt3, htI3, List.mem_cons_of_mem _ (hss _ hkp), ⟨tc2, hmc2⟩, rfl, hvs3, nm1, nm2, nm3⟩
          case turn6 =>
            (try clear hvs); (try clear hvs2); (try clear hvs3); (try clear hrqs); (try clear hys); (try clear hyb); (try clear sw1); (try clear sw2); (try clear sw3); (try clear sw4); (try clear hMl); (try clear hMr); (try clear hMb); (try clear nm1); (try clear nm2); (try clear nm3); (try clear htl3); (try clear htt3); (try clear htI3); (try clear htl2); (try clear htt2); (try clear htI2); (try clear hss); (try clear off1); (try clear htl); (try clear htt); (try clear htI); (try clear N14); (try clear N15); (try clear F14); (try clear F15); (try clear hk15); (try clear hvl3); (try clear hlq); (try clear hlq2); (try clear hvl2); (try clear hR); (try clear hS); (try clear hrow); (try clear hb); (try clear hb2)
            intro j a2 v2 m2 nx2 h8' tk8' ob ha2 _ hI6 hJ6 hav2 Fm2 ho2 Nn2
            refine hide_goal fun G9 k9 => ?_
            obtain ⟨vs, n0, tl, s1, s3, y1, y3, Mj, rfl, c1, c3, htl, htt, htI, hkp, ⟨tc2, hmc2⟩, hMj, hvs, hMl, hMr, hMb⟩ := hJ6
            obtain ⟨hj, rfl⟩ := rangeItems_get ha2
            obtain ⟨t8, rfl⟩ := hav2
            have htI6 : ∀ p ∈ tl, p.1 ≠ I6 := fun p hp => hI6 p (List.mem_cons_of_mem _ (List.mem_cons_of_mem _ (List.mem_cons_of_mem _ (List.mem_cons_of_mem _ (List.mem_cons_of_mem _ (List.mem_cons_of_mem _ (List.mem_cons_of_mem _ (List.mem_cons_of_mem _ (List.mem_cons_of_mem _ hp)))))))))
            clear hI6
            have hvl4 := hvs.length
            have hfold : (List.range (j + 1)).foldl (elimM n i) M3 = elimM n i Mj j := by rw [List.range_succ, List.foldl_append, ← hMj]; rfl
            obtain ⟨rj, hrj⟩ : ∃ rj, Mj[j]? = some rj := ex_at (by first | exact lt_len (by with_reducible assumption) (by with_reducible assumption) | exact lt_len1 (by with_reducible assumption) (by with_reducible assumption) | omega)
            obtain ⟨ri, hri⟩ : ∃ ri, Mj[i]? = some ri := ex_at (by first | exact lt_len (by with_reducible assumption) (by with_reducible assumption) | exact lt_len1 (by with_reducible assumption) (by with_reducible assumption) | omega)
            obtain ⟨_, hvj, Rj, rjs, nj, rfl, eRj, hrjs⟩ := hvs.at hrj
            obtain ⟨_, hvi, Ri, ris, ni, rfl, eRi, hris⟩ := hvs.at hri
            have hlj := hMr _ (List.mem_of_getElem? hrj)
            have hli := hMr _ (List.mem_of_getElem? hri)
            obtain ⟨x, hx⟩ : ∃ x, rj[i]? = some x := ex_at (by first | exact lt_len (by with_reducible assumption) (by with_reducible assumption) | exact lt_len1 (by with_reducible assumption) (by with_reducible assumption) | omega)
            obtain ⟨_, hvx, Dx, tx, tx', cx, rfl, eDx⟩ := hrjs.at hx
            have eRj' := hT tl _ _ eRj
            have eDx' := hT tl _ _ eDx
            have hx1 : vs[(0 + (j : Int)).toNat]? = some (Value.ref Rj) := at_of hvj (by first | with_reducible exact Int.zero_add _ | omega)
            have hx2 : rjs[(0 + (i : Int)).toNat]? = some (Value.ref Dx) := at_of hvx (by first | with_reducible exact Int.zero_add _ | omega)
            have hat := at2_of hrj hx
            refine k9 ?_
            clear k9
            k_steps
            all_goals unfold Hold
            · rename_i h8a rr dd tkk hjn hx0 h9 ff F9 N9 df h10 tk10 ta' ua' va' hrg7 F10 N10 hk10
              have hji : j ≠ i := by omega
              clear hx2 eRj' eDx' F9 N9 hk10
              have hbx : Bd (bnd b i) x := by have := hMb j rj hrj x (List.mem_of_getElem? hx); rwa [elB_self hji] at this
              refine LCg.CompSrc.range (n := n + 1) (news := (I6, ob) :: (I, o) :: (t, listOf vs.toArray n0) :: (L' + 1 + 1 + 1 + 1 + 1 + 1 + 1, ff) :: (L' + 1 + 1 + 1 + 1 + 1 + 1, r2) :: (L' + 1 + 1 + 1 + 1 + 1, rr) :: (L' + 1 + 1 + 1 + 1, oT) :: (L' + 1 + 1 + 1, r5) :: (L' + 1 + 1, o6) :: (L' + 1, o7) :: tl) rfl F10 (news_sub N10 (fcons (by k_mem) (fcons (by k_mem) (fcons (by k_mem) (fcons (by k_mem) (fcons (by k_mem) (fcons (by k_mem) (fcons (by k_mem) (fcons (by k_mem) (fcons (by k_mem) (fcons (by k_mem) (by intro p9 hp9; first | ((repeat (first | exact hp9 | exact List.mem_append_left _ hp9 | exact List.mem_append_right _ hp9 | refine List.mem_cons_of_mem _ ?_)); done) | (simp only [List.mem_cons, List.mem_append]; simp only [hp9, true_or, or_true]))))))))))))) hrg7 (by first | with_reducible exact sm_0 (hvl.trans hM) hn | with_reducible exact sm_i (hvl.trans hM) hn hi | with_reducible exact sm_1 (hvl.trans hM) hn | exact small_one (by omega) (by omega) (by omega) (by omega)) (rsize (by first | with_reducible exact rs_0 (hvl.trans hM) | with_reducible exact rs_i (hvl.trans hM) hi | with_reducible exact rs_1 (hvl.trans hM) | omega)) (by rw [sizeLine_eq]; omega) (fun g9 => ?_)
              refine comp_ind (fun c ys nx => ∃ tl2, nx = (I6, ob) :: (I, o) :: (t, listOf vs.toArray n0) :: (L' + 1 + 1 + 1 + 1 + 1 + 1 + 1, ff) :: (L' + 1 + 1 + 1 + 1 + 1 + 1, r2) :: (L' + 1 + 1 + 1 + 1 + 1, rr) :: (L' + 1 + 1 + 1 + 1, oT) :: (L' + 1 + 1 + 1, r5) :: (L' + 1 + 1, o6) :: (L' + 1, o7) :: tl2 ∧ (∀ p ∈ tl2, OffC L' p.1) ∧ (∀ p ∈ tl2, p.1 ≠ t) ∧ (∀ p ∈ tl2, p.1 ≠ I) ∧ (∀ p ∈ tl2, p.1 ≠ I6) ∧ (∀ p ∈ tl, p ∈ tl2) ∧ All2 (RatN (PT P tl2)) ys ((elimR n i Mj j).take c) ∧ (∀ y ∈ (elimR n i Mj j).take c, Bd (4 * bnd b i + 1) y)) ?turn7 ?fin7 _ 0 [] _ (Nat.zero_add _) ⟨tl, rfl, htl, htt, htI, htI6, (fun _ h => h), .nil, (by simp)⟩
              case turn7 =>
                intro c v I5 oI C oC D9 m5 h tk E' ys nx hi hJ hPv hC hx5 Fm Nn off ne
                refine hide_goal fun G9 k9 => ?_
                obtain ⟨tl2, rfl, htl2, htt2, htI2, htI62, hss, hys, hyb⟩ := hJ
                obtain ⟨t7, rfl⟩ := hPv
                obtain ⟨yj, hyj⟩ : ∃ y, rj[c]? = some y := ex_at (by first | exact lt_len (by with_reducible assumption) (by with_reducible assumption) | exact lt_len1 (by with_reducible assumption) (by with_reducible assumption) | omega)
                obtain ⟨yi, hyi⟩ : ∃ y, ri[c]? = some y := ex_at (by first | exact lt_len (by with_reducible assumption) (by with_reducible assumption) | exact lt_len1 (by with_reducible assumption) (by with_reducible assumption) | omega)
                obtain ⟨_, hvyj, Dj, tj, tj', cj, rfl, eDj⟩ := hrjs.at hyj
                obtain ⟨_, hvyi, Di, ti, ti', ci, rfl, eDi⟩ := hris.at hyi
                have eRj2 := hT tl2 _ _ (PT.mono hss _ _ eRj)
                have eRi2 := hT tl2 _ _ (PT.mono hss _ _ eRi)
                have eDx2 := hT tl2 _ _ (PT.mono hss _ _ eDx)
                have eDj2 := hT tl2 _ _ (PT.mono hss _ _ eDj)
                have eDi2 := hT tl2 _ _ (PT.mono hss _ _ eDi)
                have hx3 : vs[(0 + (i : Int)).toNat]? = some (Value.ref Ri) := at_of hvi (by first | with_reducible exact Int.zero_add _ | omega)
                have hx4 : rjs[(0 + (c : Int)).toNat]? = some (Value.ref Dj) := at_of hvyj (by first | with_reducible exact Int.zero_add _ | omega)
                have hx6 : ris[(0 + (c : Int)).toNat]? = some (Value.ref Di) := at_of hvyi (by first | with_reducible exact Int.zero_add _ | omega)
                have hbj : Bd (bnd b i) yj := by have := hMb j rj hrj yj (List.mem_of_getElem? hyj); rwa [elB_self hji] at this
                have hbi2 : Bd (bnd b i + bnd b i) yi := by have := hMb i ri hri yi (List.mem_of_getElem? hyi); rwa [elB_piv] at this
                have hst : (elimR n i Mj j).take (c + 1) = (elimR n i Mj j).take c ++ [yj - x * yi] := take_snoc_of (elimR_get hi hrj hri hx hyj hyi)
                refine k9 ?_
                clear k9
                k_steps
                unfold Hold
                rename_i Dn tn un' cn' hn' tkn bDn Fn Nn2 ln
                refine comp_end Fn Nn2 ((I6, ob) :: (I, o) :: (t, listOf vs.toArray n0) :: (L' + 1 + 1 + 1 + 1 + 1 + 1 + 1, ff) :: (L' + 1 + 1 + 1 + 1 + 1 + 1, r2) :: (L' + 1 + 1 + 1 + 1 + 1, rr) :: (L' + 1 + 1 + 1 + 1, oT) :: (L' + 1 + 1 + 1, r5) :: (L' + 1 + 1, o6) :: (L' + 1, o7) :: (Dn, RatO (yj - x * yi) tn un' cn') :: tl2) (fcons (by k_mem) (fcons (by k_mem) (fcons (by k_mem) (fcons (by k_mem) (fcons (by k_mem) (fcons (by k_mem) (fcons (by k_mem) (fcons (by k_mem) (fcons (by k_mem) (fcons (by k_mem) (fcons (by k_mem) (fcons (by k_mem) (fcons (by k_mem) (fcons (by k_mem) (by intro p9 hp9; first | ((repeat (first | exact hp9 | exact List.mem_append_left _ hp9 | exact List.mem_append_right _ hp9 | refine List.mem_cons_of_mem _ ?_)); done) | (simp only [List.mem_cons, List.mem_append]; simp only [hp9, true_or, or_true])))))))))))))))) (off10 off (neN (by walk_at "ne9")) (neN (by walk_at "ne9")) (neN (by walk_at "ne9"))) trivial ⟨(Dn, RatO (yj - x * yi) tn un' cn') :: tl2, rfl, offc_cons (by first | exact offc_of (by k_ne) (by k_ne) (by k_ne) (by k_ne) (by k_ne) (by k_ne) (by k_ne) | (unfold OffC; dsimp only; omega)) htl2, ne_cons (neN (by walk_at "ne9")) htt2, ne_cons (neN (by walk_at "ne9")) htI2, ne_cons (neN (by walk_at "ne9")) htI62, fun p hp => List.mem_cons_of_mem _ (hss p hp), ?_, ?_⟩
                · rw [hst]; exact (hys.mono fun _ _ y => y.mono (PT.mono fun p hp => List.mem_cons_of_mem _ hp)).snoc (rat_new (.inr (List.mem_cons_self ..)))
                · rw [hst]; exact bd_snoc hyb (bDn.mono (by omega))
              case fin7 =>
                intro ys nx hJ Dr h tk Fm Nn off1
                refine hide_goal fun G9 k9 => ?_
                obtain ⟨tl2, rfl, htl2, htt2, htI2, htI62, hss, hys, hyb⟩ := hJ
                refine k9 ?_
                clear k9
                rw [List.take_of_length_le (by rw [elimR_len]; omega)] at hys hyb
                simp only [LCg.Off1] at off1
                k_steps
                unfold Hold
                refine' set_at (vs := vs) (n := n0) Fm Nn ?U7 (by first | with_reducible exact z_le | omega) (by first | with_reducible exact z_lt (by with_reducible assumption) (by with_reducible assumption) (by with_reducible assumption) | omega) (by omega) ?_
                case U7 => k_upd
                intro h14 F14 N14
                have e7 : (0 + (j : Int)).toNat = j := z_to
                simp only [e7] at N14
                k_steps
                unfold Hold
                (rename News _ _ _ _ => N17)
                have helim : elimM n i Mj j = Mj.set j (elimR n i Mj j) := elim_eq hji (by rw [hat]; exact num_ne hx0)
                exact unr_end ((I, o) :: (t, listOf (vs.set j (Value.ref Dr)).toArray n0) :: (L' + 1 + 1 + 1 + 1 + 1 + 1 + 1, ff) :: (L' + 1 + 1 + 1 + 1 + 1 + 1, r2) :: (L' + 1 + 1 + 1 + 1 + 1, rr) :: (L' + 1 + 1 + 1 + 1, oT) :: (L' + 1 + 1 + 1, r5) :: (L' + 1 + 1, o6) :: (L' + 1, o7) :: (Dr, LCg.lst ys) :: tl2) (by k_asm) N17 (by k_mem) (fcons (by k_mem) (fcons (by k_mem) (fcons (by k_mem) (fcons (by k_mem) (fcons (by k_mem) (fcons (by k_mem) (fcons (by k_mem) (fcons (by k_mem) (fcons (by k_mem) (fcons (by k_mem) (by intro p9 hp9; first | ((repeat (first | exact hp9 | exact List.mem_append_left _ hp9 | exact List.mem_append_right _ hp9 | refine List.mem_cons_of_mem _ ?_)); done) | (simp only [List.mem_cons, List.mem_append]; simp only [hp9, true_or, or_true])))))))))))) (fcons (neN (by walk_at "ne9")) (fcons (neN (by walk_at "ne9")) (fcons (neN (by walk_at "ne9")) (fcons (neN (by walk_at "ne9")) (fcons (neN (by walk_at "ne9")) (fcons (neN (by walk_at "ne9")) (fcons (neN (by walk_at "ne9")) (fcons (neN (by walk_at "ne9")) (fcons (neN (by walk_at "ne9")) (fcons (neN (by walk_at "ne9")) htI62)))))))))) ⟨trivial, vs.set j (Value.ref Dr), n0, (Dr, LCg.lst ys) :: tl2, ff, rr, _, _, elimM n i Mj j, rfl, df, dd, offc_cons (by first | exact offc_of (by k_ne) (by k_ne) (by k_ne) (by k_ne) (by k_ne) (by k_ne) (by k_ne) | (unfold OffC; dsimp only; omega)) htl2, ne_cons (neN (by walk_at "ne9")) htt2, ne_cons (neN (by walk_at "ne9")) htI2, List.mem_cons_of_mem _ (hss _ hkp), ⟨tc2, hmc2⟩, hfold.symm,
                  by rw [helim]; exact (hvs.mono fun _ _ y => RatsN.mono (PT.mono fun p hp => List.mem_cons_of_mem _ (hss p hp)) y).set (rats_new (.inr (List.mem_cons_self ..)) (hys.mono fun _ _ y => y.mono (PT.mono fun p hp => List.mem_cons_of_mem _ hp))) j,
                  by rw [helim, List.length_set]; exact hMl, by rw [helim]; exact row_facts (Q := fun r => r.length = n + 1) j hMr elimR_len, by rw [helim]; exact elim_bd hji (by omega) hMb hyb⟩
            · rename_i h9 rr F9 N9 dd tkk hjn hx0
              have helim : elimM n i Mj j = Mj := by unfold elimM; rw [hat, if_neg (fun h => h.2 (num_eq hx0))]
              exact unr_end ((I, o) :: (t, listOf vs.toArray n0) :: (L' + 1 + 1 + 1 + 1 + 1 + 1 + 1, s1) :: (L' + 1 + 1 + 1 + 1 + 1 + 1, r2) :: (L' + 1 + 1 + 1 + 1 + 1, rr) :: (L' + 1 + 1 + 1 + 1, oT) :: (L' + 1 + 1 + 1, r5) :: (L' + 1 + 1, o6) :: (L' + 1, o7) :: tl) F9 N9 (by k_mem) (fcons (by k_mem) (fcons (by k_mem) (fcons (by k_mem) (fcons (by k_mem) (fcons (by k_mem) (fcons (by k_mem) (fcons (by k_mem) (fcons (by k_mem) (fcons (by k_mem) (by intro p9 hp9; first | ((repeat (first | exact hp9 | exact List.mem_append_left _ hp9 | exact List.mem_append_right _ hp9 | refine List.mem_cons_of_mem _ ?_)); done) | (simp only [List.mem_cons, List.mem_append]; simp only [hp9, true_or, or_true]))))))))))) (fcons (neN (by walk_at "ne9")) (fcons (neN (by walk_at "ne9")) (fcons (neN (by walk_at "ne9")) (fcons (neN (by walk_at "ne9")) (fcons (neN (by walk_at "ne9")) (fcons (neN (by walk_at "ne9")) (fcons (neN (by walk_at "ne9")) (fcons (neN (by walk_at "ne9")) (fcons (neN (by walk_at "ne9")) htI6))))))))) ⟨trivial, vs, n0, tl, s1, rr, y1, _, Mj, rfl, c1, dd, htl, htt, htI, hkp, ⟨tc2, hmc2⟩, by rw [hfold, helim], hvs, hMl, hMr, elB_mono hMb⟩
            · rename_i h9 rr F9 N9 dd hjn
              have hji : j = i := by omega
              have helim : elimM n i Mj j = Mj := by unfold elimM; rw [if_neg (fun h => h.1 hji)]
              exact unr_end ((I, o) :: (t, listOf vs.toArray n0) :: (L' + 1 + 1 + 1 + 1 + 1 + 1 + 1, s1) :: (L' + 1 + 1 + 1 + 1 + 1 + 1, r2) :: (L' + 1 + 1 + 1 + 1 + 1, rr) :: (L' + 1 + 1 + 1 + 1, oT) :: (L' + 1 + 1 + 1, r5) :: (L' + 1 + 1, o6) :: (L' + 1, o7) :: tl) F9 N9 (by k_mem) (fcons (by k_mem) (fcons (by k_mem) (fcons (by k_mem) (fcons (by k_mem) (fcons (by k_mem) (fcons (by k_mem) (fcons (by k_mem) (fcons (by k_mem) (fcons (by k_mem) (by intro p9 hp9; first | ((repeat (first | exact hp9 | exact List.mem_append_left _ hp9 | exact List.mem_append_right _ hp9 | refine List.mem_cons_of_mem _ ?_)); done) | (simp only [List.mem_cons, List.mem_append]; simp only [hp9, true_or, or_true]))))))))))) (fcons (neN (by walk_at "ne9")) (fcons (neN (by walk_at "ne9")) (fcons (neN (by walk_at "ne9")) (fcons (neN (by walk_at "ne9")) (fcons (neN (by walk_at "ne9")) (fcons (neN (by walk_at "ne9")) (fcons (neN (by walk_at "ne9")) (fcons (neN (by walk_at "ne9")) (fcons (neN (by walk_at "ne9")) htI6))))))))) ⟨trivial, vs, n0, tl, s1, rr, y1, _, Mj, rfl, c1, dd, htl, htt, htI, hkp, ⟨tc2, hmc2⟩, by rw [hfold, helim], hvs, hMl, hMr, elB_mono hMb⟩
          case done6 =>
            intro m6 nx6 h8' tk8' hJ6 Fm6 Nn6
            refine hide_goal fun G9 k9 => ?_
            simp only [rangeItems, List.length_map, List.length_range] at hJ6
            obtain ⟨vs6, n6, tl6, s1, s3, y1, y3, Mj, rfl, c1, c3, htl6, htt6, htI6, hkp6, ⟨tc6, hmc6⟩, hMj, hvs6, hMl6, hMr6, hMb6⟩ := hJ6
            rw [← hYe] at hMj
            refine k9 ?_
            clear k9
            subst hMj
            k_steps
            unfold Hold
            (rename News _ _ _ _ => N18)
            exact unr_end ((t, listOf vs6.toArray n6) :: (L' + 1 + 1 + 1 + 1 + 1 + 1 + 1, s1) :: (L' + 1 + 1 + 1 + 1 + 1 + 1, r2) :: (L' + 1 + 1 + 1 + 1 + 1, s3) :: (L' + 1 + 1 + 1 + 1, oT) :: (L' + 1 + 1 + 1, r5) :: (L' + 1 + 1, o6) :: (L' + 1, o7) :: tl6) (by k_asm) N18 (by k_mem) (fcons (by k_mem) (fcons (by k_mem) (fcons (by k_mem) (fcons (by k_mem) (fcons (by k_mem) (fcons (by k_mem) (fcons (by k_mem) (fcons (by k_mem) (by intro p9 hp9; first | ((repeat (first | exact hp9 | exact List.mem_append_left _ hp9 | exact List.mem_append_right _ hp9 | refine List.mem_cons_of_mem _ ?_)); done) | (simp only [List.mem_cons, List.mem_append]; simp only [hp9, true_or, or_true])))))))))) (fcons (neN (by walk_at "ne9")) (fcons (neN (by walk_at "ne9")) (fcons (neN (by walk_at "ne9")) (fcons (neN (by walk_at "ne9")) (fcons (neN (by walk_at "ne9")) (fcons (neN (by walk_at "ne9")) (fcons (neN (by walk_at "ne9")) (fcons (neN (by walk_at "ne9")) htI6)))))))) ⟨trivial, vs6, n6, tl6, s1, r2, s3, r5, y1, _, y3, _, Mj, rfl, c1, d2', c3, d5', htl6, htt6, hkp6, ⟨tc6, hmc6⟩, hY, hvs6, hMl6, hMr6, fun r hr x hx => by
              obtain ⟨q, hq⟩ := List.mem_iff_getElem?.mp hr
              exact (hMb6 q r hq x hx).mono elB_top⟩
    case done2 =>
      intro m5 nx h tk hJ Fm Nn
      refine hide_goal fun G9 k9 => ?_
      simp only [rangeItems, List.length_map, List.length_range] at hJ
      obtain ⟨vs, n0, tl, p1, p2, p3, p5, w1, w2, w3, w5, Mi, rfl, d1, d2, d3, d5, htl, htt, hkp, ⟨tc, hmc⟩, hgi, hvs, hMl, hMr, hMb⟩ := hJ
      obtain ⟨Z, rfl⟩ : ∃ Z, Z = Mi := ⟨_, rfl⟩
      have hvl2 := hvs.length
      refine k9 ?_
      clear k9
      k_steps
      unfold Hold
      refine LCg.CompSrc.ledger (news := (t, listOf vs.toArray n0) :: (L' + 1 + 1 + 1 + 1 + 1 + 1 + 1, p1) :: (L' + 1 + 1 + 1 + 1 + 1 + 1, p2) :: (L' + 1 + 1 + 1 + 1 + 1, p3) :: (L' + 1 + 1 + 1 + 1, oT) :: (L' + 1 + 1 + 1, p5) :: (L' + 1 + 1, o6) :: (L' + 1, o7) :: tl) rfl (by k_asm) (by k_asm) (List.mem_cons_self ..) (by rw [List.size_toArray, sizeLine_eq]; omega) (fun g9 => ?_)
      refine comp_ind (fun c ys nx => nx = (t, listOf vs.toArray n0) :: (L' + 1 + 1 + 1 + 1 + 1 + 1 + 1, p1) :: (L' + 1 + 1 + 1 + 1 + 1 + 1, p2) :: (L' + 1 + 1 + 1 + 1 + 1, p3) :: (L' + 1 + 1 + 1 + 1, oT) :: (L' + 1 + 1 + 1, p5) :: (L' + 1 + 1, o6) :: (L' + 1, o7) :: tl ∧ All2 (RatN (PT P tl)) ys ((Z.map fun r => r.getD n 0).take c)) ?turn8 ?fin8 _ 0 [] _ (Nat.zero_add _) ⟨rfl, .nil⟩
      case turn8 =>
        intro c v I5 oI C oC D9 m2 h tk E' ys nx hi hJ hPv hC hx5 Fm Nn off ne
        refine hide_goal fun G9 k9 => ?_
        obtain ⟨rfl, hys⟩ := hJ
        have hvc : vs[c]? = some v := by simpa using hPv
        obtain ⟨r, hr, Rr, rrs, nr, rfl, eRr, hrrs⟩ := hvs.get hvc
        have hlr := hMr _ (List.mem_of_getElem? hr)
        have hlr2 := hrrs.length
        obtain ⟨y, hy⟩ : ∃ y, r[n]? = some y := ex_at (by first | exact lt_len (by with_reducible assumption) (by with_reducible assumption) | exact lt_len1 (by with_reducible assumption) (by with_reducible assumption) | omega)
        obtain ⟨vy, hvy, hry⟩ := hrrs.at hy
        have hx1 : rrs[(-1 + (rrs.length : Int)).toNat]? = some vy := at_of hvy (by first | with_reducible exact Int.zero_add _ | omega)
        have eRr' := hT tl _ _ eRr
        have hst : (Z.map fun r => r.getD n 0).take (c + 1) = (Z.map fun r => r.getD n 0).take c ++ [y] := take_snoc_of (by rw [List.getElem?_map, hr, Option.map_some]; simp [List.getD_eq_getElem?_getD, hy])
        refine k9 ?_
        clear k9
        k_steps
        unfold Hold
        exact comp_end (by k_asm) (by k_asm) ((t, listOf vs.toArray n0) :: (L' + 1 + 1 + 1 + 1 + 1 + 1 + 1, p1) :: (L' + 1 + 1 + 1 + 1 + 1 + 1, p2) :: (L' + 1 + 1 + 1 + 1 + 1, p3) :: (L' + 1 + 1 + 1 + 1, oT) :: (L' + 1 + 1 + 1, p5) :: (L' + 1 + 1, o6) :: (L' + 1, o7) :: tl) (fcons (by k_mem) (fcons (by k_mem) (fcons (by k_mem) (fcons (by k_mem) (fcons (by k_mem) (fcons (by k_mem) (fcons (by k_mem) (fcons (by k_mem) (fcons (by k_mem) (fcons (by k_mem) (fcons (by k_mem) (by intro p9 hp9; first | ((repeat (first | exact hp9 | exact List.mem_append_left _ hp9 | exact List.mem_append_right _ hp9 | refine List.mem_cons_of_mem _ ?_)); done) | (simp only [List.mem_cons, List.mem_append]; simp only [hp9, true_or, or_true]))))))))))))) off (.inr ⟨_, List.mem_cons_self .., rfl, _, rfl⟩) ⟨rfl, by rw [hst]; exact hys.snoc hry⟩
      case fin8 =>
        intro ys nx hJ D h tk Fm Nn off1
        obtain ⟨rfl, hys⟩ := hJ
        rw [List.take_of_length_le (by rw [List.length_map, List.size_toArray]; omega)] at hys
        k_steps
        try dsimp only
        refine leaveN_ (by k_asm) (by k_asm) ?_; intro kF kN kR kD; (try dsimp only)
        have hTL := subs_of (TL := (D, LCg.lst ys) :: tl) kN (fcons (by k_mem) (by intro p9 hp9; first | ((repeat (first | exact hp9 | exact List.mem_append_left _ hp9 | exact List.mem_append_right _ hp9 | refine List.mem_cons_of_mem _ ?_)); done) | (simp only [List.mem_cons, List.mem_append]; simp only [hp9, true_or, or_true])))
        exact hret Z (.ref D) ((D, LCg.lst ys) :: tl) _ _ hgi kF (news_app2 (fun p hp => kN p (hTL p hp)) (news_back N (fun p hp => by rw [List.mem_singleton.mp hp]; exact hkn) kN (fun p hp => by rw [List.mem_singleton.mp hp]; exact hTL _ (List.mem_cons_of_mem _ hkp)) kR)) (fun p hp hk9 q hq => kD p (mem_rest hp (by simpa using hk9)) q (hTL q hq)) (rats_new (.inr (List.mem_cons_self ..)) (hys.mono fun _ _ y => y.mono (PT.mono fun p hp => List.mem_cons_of_mem _ hp))) hMb
end
end
section
section KeepT
theorem words19 : True := by
  k_with_none
  k_with "ne9" => (refine neN ?_; (try dsimp only); first | with_reducible assumption | exact Ne.symm (by with_reducible assumption) | exact pj0 (by with_reducible assumption) | exact pj1 (by with_reducible assumption) | exact pj2 (by with_reducible assumption) | exact pj3 (by with_reducible assumption) | exact pj4 (by with_reducible assumption) | exact pj5 (by with_reducible assumption) | exact pj6 (by with_reducible assumption) | exact pj7 (by with_reducible assumption) | exact pj8 (by with_reducible assumption) | exact pj9 (by with_reducible assumption) | exact pj10 (by with_reducible assumption) | exact pj11 (by with_reducible assumption) | exact Ne.symm (pj0 (by with_reducible assumption)) | exact Ne.symm (pj1 (by with_reducible assumption)) | exact Ne.symm (pj2 (by with_reducible assumption)) | exact Ne.symm (pj3 (by with_reducible assumption)) | exact Ne.symm (pj4 (by with_reducible assumption)) | exact Ne.symm (pj5 (by with_reducible assumption)) | exact Ne.symm (pj6 (by with_reducible assumption)) | exact Ne.symm (pj7 (by with_reducible assumption)) | exact Ne.symm (pj8 (by with_reducible assumption)) | exact Ne.symm (pj9 (by with_reducible assumption)) | exact Ne.symm (pj10 (by with_reducible assumption)) | exact Ne.symm (pj11 (by with_reducible assumption)) | exact ad1 | exact ad2 | exact ad3 | exact ad4 | exact ad5 | exact ad6 | exact ad7 | exact ad8 | exact Ne.symm ad1 | exact Ne.symm ad2 | exact Ne.symm ad3 | exact Ne.symm ad4 | exact Ne.symm ad5 | exact Ne.symm ad6 | exact Ne.symm ad7 | exact Ne.symm ad8 | exact Nat.ne_of_lt (by with_reducible assumption) | exact Nat.ne_of_gt (by with_reducible assumption) | exact Nat.ne_of_lt (pj0 (by with_reducible assumption)) | exact Nat.ne_of_lt (pj1 (by with_reducible assumption)) | exact Nat.ne_of_lt (pj2 (by with_reducible assumption)) | exact Nat.ne_of_lt (pj3 (by with_reducible assumption)) | exact Nat.ne_of_lt (pj4 (by with_reducible assumption)) | exact Nat.ne_of_lt (pj5 (by with_reducible assumption)) | exact Nat.ne_of_lt (pj6 (by with_reducible assumption)) | exact Nat.ne_of_lt (pj7 (by with_reducible assumption)) | exact Nat.ne_of_lt (pj8 (by with_reducible assumption)) | exact Nat.ne_of_lt (pj9 (by with_reducible assumption)) | exact Nat.ne_of_lt (pj10 (by with_reducible assumption)) | exact Nat.ne_of_lt (pj11 (by with_reducible assumption)) | exact Nat.ne_of_gt (pj0 (by with_reducible assumption)) | exact Nat.ne_of_gt (pj1 (by with_reducible assumption)) | exact Nat.ne_of_gt (pj2 (by with_reducible assumption)) | exact Nat.ne_of_gt (pj3 (by with_reducible assumption)) | exact Nat.ne_of_gt (pj4 (by with_reducible assumption)) | exact Nat.ne_of_gt (pj5 (by with_reducible assumption)) | exact Nat.ne_of_gt (pj6 (by with_reducible assumption)) | exact Nat.ne_of_gt (pj7 (by with_reducible assumption)) | exact Nat.ne_of_gt (pj8 (by with_reducible assumption)) | exact Nat.ne_of_gt (pj9 (by with_reducible assumption)) | exact Nat.ne_of_gt (pj10 (by with_reducible assumption)) | exact Nat.ne_of_gt (pj11 (by with_reducible assumption)) | omega)
  k_with "k_ne" => (walk_at "ne9")
  k_with "k_in" => (refine' in_of ?z82fF ?z82fX; (case z82fF => k_asm); (case z82fX => k_asm))
  k_with "hat9" => (first | exact News.get (by k_asm) (by k_mem) | exact Fr.keep (by k_asm) _ _ (by with_reducible assumption) | exact Tk.get (by k_asm) (by k_asm) (by with_reducible assumption) (by intro p9 hp9; first | exact hp9 | exact absurd hp9 List.not_mem_nil | (repeat (first | exact hp9 | refine List.mem_cons_of_mem _ ?_))) | exact Frag.In.keeps (by k_asm) (Fr.keep (by k_asm)) _ _ (by k_is))
  k_with "ktr_units" => ((try simp only [units_under_make, units_in1, units_deeper, Around.mark_units, units_caller]); (try dsimp only [ktrTop]); first | exact un1 (by with_reducible assumption) (Nat.le_of_ble_eq_true rfl) | exact un2 (by with_reducible assumption) (Nat.le_of_ble_eq_true rfl) | exact un3 (by with_reducible assumption) (Nat.le_of_ble_eq_true rfl) | (have hcL9 := cLine_is; omega))
  k_with "call ref" => (k_here; (with_reducible show wpAny _ _ (call (Value.ref 84) [Value.ref _, Value.ref _]) _ _ _); k_dflt (refine' plus_r ?z83k1 ?z83k2 ?z83k3 ?z83k4 ?z83k5 ?z83k6 ?z83m1 ?z83m2 ?z83k7 ?z83k8 ?z83b1 ?z83b2 ?z83hb ?_; (case z83k1 => k_asm); (case z83k2 => k_asm); (case z83k3 => k_asm); (case z83k4 => k_asm); (case z83k5 => k_asm); (case z83k6 => first | exact rfl | assumption); (case z83k7 => first | exact Nat.le_of_ble_eq_true rfl | ktr_room); (case z83k8 => first | exact Nat.le_of_ble_eq_true rfl | ktr_units); (case z83m1 => (walk_at "hat9")); (case z83m2 => (walk_at "hat9")); (case z83b1 => with_reducible assumption); (case z83b2 => with_reducible assumption); (case z83hb => first | assumption | omega | decide); k_whole); walk_at "i15"; (try k_sweep))
  k_with "call ref" => (k_here; (with_reducible show wpAny _ _ (call (Value.ref 84) [Value.ref 54, Value.ref _]) _ _ _); k_dflt (refine' plus_r (r1 := 0) (n := 1) ?z84k1 ?z84k2 ?z84k3 ?z84k4 ?z84k5 ?z84k6 ?z84m1 ?z84m2 ?z84k7 ?z84k8 ?z84b1 ?z84b2 ?z84hb ?_; (case z84k1 => k_asm); (case z84k2 => k_asm); (case z84k3 => k_asm); (case z84k4 => k_asm); (case z84k5 => k_asm); (case z84k6 => first | exact rfl | assumption); (case z84k7 => first | exact Nat.le_of_ble_eq_true rfl | ktr_room); (case z84k8 => first | exact Nat.le_of_ble_eq_true rfl | ktr_units); (case z84m1 => exact Frag.In.keeps (by k_asm) (Fr.keep (by k_asm)) _ _ (by k_is)); (case z84m2 => (walk_at "hat9")); (case z84b1 => exact Bd.zero (by decide)); (case z84b2 => with_reducible assumption); (case z84hb => first | assumption | omega | decide); k_whole); walk_at "i15"; (try k_sweep))
  k_with "subscriptTail" => (k_here; (with_reducible show wpAny _ _ (subscriptTail _ _ (Value.ref _) (Value.int _ _)) _ _ _); k_dflt (refine' tup_g ?z85k1 ?z85k2 ?z85k3 ?z85k4 ?z85k5 ?z85k6 ?z85k7 ?z85k8 ?_ ?z85k9 ?z85k10; (case z85k1 => k_asm); (case z85k2 => with_reducible assumption); (case z85k3 => exact rfl); (case z85k4 => exact rfl); (case z85k5 => decide); (case z85k6 => decide); (case z85k7 => exact rfl); (case z85k8 => exact rfl); (case z85k9 => with_unfolding_all rfl); (case z85k10 => (intro _; with_unfolding_all rfl)); k_whole))
  k_with "eval Name" => (k_here; k_dflt (refine' ld ?z86k1 ?z86k2 ?_; (case z86k1 => k_asm); (case z86k2 => first | exact rfl | assumption); k_whole))
  k_with "exec For" => (k_here; walk_at "i11")
  k_with "exec For Name Name cons nil" => (k_here; walk_at "i11")
  k_with "exec For Name Call cons nil" => (k_here; walk_at "i11")
  k_with "exec For Tuple Name cons nil" => (k_here; walk_at "i11")
  k_with "exec For Tuple Call cons nil" => (k_here; walk_at "i11")
  k_with "exec For Name Attribute cons nil" => (k_here; walk_at "i11")
  k_with "exec For Tuple Attribute cons nil" => (k_here; walk_at "i11")
  k_with "exec For Tuple Subscript cons nil" => (k_here; walk_at "i11")
  k_with "pyIter ref" => ((with_reducible show wpAny _ _ (pyIter (Value.ref _)) (fun it s₂ => TurnsAt _ _ _ _ _ _ _ _ _ it s₂) _ _); refine Hold.out ?_)
  k_with "UnrPostW" => (dsimp only [UnrPostW])
  k_with "UnrEndW" => (refine Hold.out ?_)
  trivial
theorem total_c {w : World} {p : Program} {loose : List Str} {mean : ExcName → Option Value} {mg mb : Str → Option Value} {dp un : Nat} {gd : Option (List Code)} {cn : Str} {cs : Scope} {a : Addr} {ccd : Value} {cl : List (Str × Addr)} {outer : List Env} {A₀ : Around} {base h₀ : Heap} {L : Addr} {m : Str → Option Value} {news : List (Addr × Obj)} {s : Shared} {Q E : Value → Shared → Prop} {l : Addr} {vs : List Value} {rs : List Rat} {n0 b : Nat}
    (B : Below A₀ base outer h₀) (F : Fr h₀ L s.heap m) (X : (HD.K w.params).In h₀) (N : News h₀ L s.heap news) (T : Top p loose mean mg mb h₀) (hk : cs.kind = .function) (el : s.heap.get? l = some (listOf vs.toArray n0)) (hv : All2 (RatH s.heap) vs rs) (hne : rs ≠ []) (hb : ∀ r ∈ rs, Bd b r) (hlen : rs.length * (b + 1) + 1 ≤ 6643)
    (hd : dp + 6 < recursionLimit) (hu : un + 100 < cLine)
    (hret : ∀ (D : Addr) (t t' : Tok) (c : Nat) (h' : Heap) (tk' : Nat), Bd (rs.length * (b + 1) + 1) (tot rs) → Fr h₀ L h' m → News h₀ L h' ((D, RatO (tot rs) t t' c) :: news) → (∀ p ∈ news, p.1 ≠ D) → Q (.ref D) { s with heap := h', toks := tk' }) :
    wpAny (model PySem.Challenge.rw_ui0509_08.row.prog w) (ktrTop dp un gd cn cs L a ccd cl outer) (call (.ref 147) [.ref l]) Q E s := by
  w_top off
  revert X; k_fill; intro X
  refine wpAny_call ?_
  k_dflt (refine' code_need [] ?k1 ?k2 ?k3 ?k4 ?k5 ?kA ?kF ?kK ?k6 ?k7 ?k8 ?k9 ?kB ?kN ?_ ?c2 ?c3 ?c4 ?c5; (case kA => exact rfl); (case kF => exact rfl); (case kK => assumption); (case k1 => k_asm); (case k2 => k_asm); (case k3 => k_asm); (case k4 => k_asm); (case k5 => k_asm); (case k6 => k_is); (case k7 => k_is); (case k8 => ktr_room); (case k9 => first | exact BindsTo.of_eq rfl | exact binds_K (by k_in) rfl (by k_is) rfl rfl rfl); (case c5 => decide); (case kB => exact locs rfl); (case kN => exact fun _ h => nomatch h); (case c2 => exact rfl); (case c3 => exact rfl); (case c4 => exact rfl); k_whole; intro g' L' h' tk0 FG' F' N' B' X' T' hG'; (try dsimp only); (try k_fold))
  replace el := hG' _ _ el (by simp)
  replace hv := hv.mono fun v r x => x.keeps fun b o e => hG' b o e (by simp)
  k_steps
  unfold Hold
  refine iter_baseTurns rfl (by k_asm) (by k_asm) el rfl rfl (fun I lI => ?_)
  refine items_ind (fun i m nx => ∃ v, m (Str.ofString "out") = some v ∧ ((i = 0 ∧ v = .ref 54 ∧ nx = []) ∨ (0 < i ∧ ∃ D t t' c, v = .ref D ∧ nx = [(D, RatO (tot (rs.take i)) t t' c)] ∧ Bd (i * (b + 1) + 1) (tot (rs.take i))))) ?turn ?done _ 0 _ _ rfl (Nat.zero_le _) trivial (fun p hp => Nat.ne_of_lt (lI p hp)) ⟨_, rfl, .inl ⟨rfl, rfl, rfl⟩⟩
  case turn =>
    intro i a v m nx h tk o ha _ hI hJ hav Fm ho Nn
    obtain ⟨r, hr, D1, t1, t1', c1, rfl, e1⟩ := hv.get (val_get ha hav)
    have hil : i < rs.length := (List.getElem?_eq_some_iff.mp hr).1
    have bR := hb r (List.mem_of_getElem? hr)
    have hsz := mul_le_of_lt (b := b) hil
    have hsz2 : i * (b + 1) + 1 + b + 1 ≤ 6643 := Nat.le_trans hsz hlen
    obtain ⟨vo, hm, ⟨rfl, rfl, rfl⟩ | ⟨hpos, D, t, t', c, rfl, rfl, hB⟩⟩ := hJ
    · have htot : tot (rs.take (0 + 1)) = 0 + r := by rw [tot_take hr]; rfl
      k_steps
      unfold Hold
      exact unr_one (by k_asm) (by k_asm) (by k_mem) (neN (by walk_at "ne9")) ⟨trivial, _, rfl, .inr ⟨Nat.succ_pos _, _, _, _, _, rfl, by rw [htot], by rw [htot]; exact Bd.mono (by assumption) (by omega)⟩⟩
    · have htot := tot_take hr
      k_steps
      unfold Hold
      exact unr_one (by k_asm) (by k_asm) (by k_mem) (neN (by walk_at "ne9")) ⟨trivial, _, rfl, .inr ⟨Nat.succ_pos _, _, _, _, _, rfl, by rw [htot], by rw [htot]; exact Bd.mono (by assumption) (by rw [Nat.add_mul]; omega)⟩⟩
  case done =>
    intro m nx h tk hJ Fm Nn
    rw [List.length_map, hv.length] at hJ
    obtain ⟨vo, hm, ⟨h0, _, _⟩ | ⟨hpos, D, t, t', c, rfl, rfl, hB⟩⟩ := hJ
    · exact absurd (List.length_eq_zero_iff.mp h0) hne
    · rw [List.take_length] at hB Nn
      k_steps
      dsimp only
      refine leaveN_ (by k_asm) (by k_asm) ?_; intro kF kN kR kD; (try dsimp only); exact hret _ _ _ _ _ _ hB kF (news_cons kN (by k_mem) (news_all kR)) (ne_all kD (List.mem_cons_self ..))
end KeepT
end
section
section
theorem words20 : True := by
  k_with_none
  k_with "ne9" => (refine neN ?_; (try dsimp only); first | with_reducible assumption | exact Ne.symm (by with_reducible assumption) | exact pj0 (by with_reducible assumption) | exact pj1 (by with_reducible assumption) | exact pj2 (by with_reducible assumption) | exact pj3 (by with_reducible assumption) | exact pj4 (by with_reducible assumption) | exact pj5 (by with_reducible assumption) | exact pj6 (by with_reducible assumption) | exact pj7 (by with_reducible assumption) | exact pj8 (by with_reducible assumption) | exact pj9 (by with_reducible assumption) | exact pj10 (by with_reducible assumption) | exact pj11 (by with_reducible assumption) | exact Ne.symm (pj0 (by with_reducible assumption)) | exact Ne.symm (pj1 (by with_reducible assumption)) | exact Ne.symm (pj2 (by with_reducible assumption)) | exact Ne.symm (pj3 (by with_reducible assumption)) | exact Ne.symm (pj4 (by with_reducible assumption)) | exact Ne.symm (pj5 (by with_reducible assumption)) | exact Ne.symm (pj6 (by with_reducible assumption)) | exact Ne.symm (pj7 (by with_reducible assumption)) | exact Ne.symm (pj8 (by with_reducible assumption)) | exact Ne.symm (pj9 (by with_reducible assumption)) | exact Ne.symm (pj10 (by with_reducible assumption)) | exact Ne.symm (pj11 (by with_reducible assumption)) | exact ad1 | exact ad2 | exact ad3 | exact ad4 | exact ad5 | exact ad6 | exact ad7 | exact ad8 | exact Ne.symm ad1 | exact Ne.symm ad2 | exact Ne.symm ad3 | exact Ne.symm ad4 | exact Ne.symm ad5 | exact Ne.symm ad6 | exact Ne.symm ad7 | exact Ne.symm ad8 | exact Nat.ne_of_lt (by with_reducible assumption) | exact Nat.ne_of_gt (by with_reducible assumption) | exact Nat.ne_of_lt (pj0 (by with_reducible assumption)) | exact Nat.ne_of_lt (pj1 (by with_reducible assumption)) | exact Nat.ne_of_lt (pj2 (by with_reducible assumption)) | exact Nat.ne_of_lt (pj3 (by with_reducible assumption)) | exact Nat.ne_of_lt (pj4 (by with_reducible assumption)) | exact Nat.ne_of_lt (pj5 (by with_reducible assumption)) | exact Nat.ne_of_lt (pj6 (by with_reducible assumption)) | exact Nat.ne_of_lt (pj7 (by with_reducible assumption)) | exact Nat.ne_of_lt (pj8 (by with_reducible assumption)) | exact Nat.ne_of_lt (pj9 (by with_reducible assumption)) | exact Nat.ne_of_lt (pj10 (by with_reducible assumption)) | exact Nat.ne_of_lt (pj11 (by with_reducible assumption)) | exact Nat.ne_of_gt (pj0 (by with_reducible assumption)) | exact Nat.ne_of_gt (pj1 (by with_reducible assumption)) | exact Nat.ne_of_gt (pj2 (by with_reducible assumption)) | exact Nat.ne_of_gt (pj3 (by with_reducible assumption)) | exact Nat.ne_of_gt (pj4 (by with_reducible assumption)) | exact Nat.ne_of_gt (pj5 (by with_reducible assumption)) | exact Nat.ne_of_gt (pj6 (by with_reducible assumption)) | exact Nat.ne_of_gt (pj7 (by with_reducible assumption)) | exact Nat.ne_of_gt (pj8 (by with_reducible assumption)) | exact Nat.ne_of_gt (pj9 (by with_reducible assumption)) | exact Nat.ne_of_gt (pj10 (by with_reducible assumption)) | exact Nat.ne_of_gt (pj11 (by with_reducible assumption)) | omega)
  k_with "k_ne" => (walk_at "ne9")
  k_with "k_in" => (refine' in_of ?z87fF ?z87fX; (case z87fF => k_asm); (case z87fX => k_asm))
  k_with "hat9" => (first | exact News.get (by k_asm) (by k_mem) | exact Fr.keep (by k_asm) _ _ (by with_reducible assumption) | exact Tk.get (by k_asm) (by k_asm) (by with_reducible assumption) (by intro p9 hp9; first | exact hp9 | exact absurd hp9 List.not_mem_nil | (repeat (first | exact hp9 | refine List.mem_cons_of_mem _ ?_))) | exact Frag.In.keeps (by k_asm) (Fr.keep (by k_asm)) _ _ (by k_is))
  k_with "ktr_units" => ((try simp only [units_under_make, units_in1, units_deeper, Around.mark_units, units_caller]); (try dsimp only [ktrTop]); first | exact un1 (by with_reducible assumption) (Nat.le_of_ble_eq_true rfl) | exact un2 (by with_reducible assumption) (Nat.le_of_ble_eq_true rfl) | exact un3 (by with_reducible assumption) (Nat.le_of_ble_eq_true rfl) | (have hcL9 := cLine_is; omega))
  k_with "call ref" => (k_here; (with_reducible show wpAny _ _ (call (Value.ref 119) [Value.ref _, Value.ref _]) _ _ _); k_dflt (refine' less_r ?z88k1 ?z88k2 ?z88k3 ?z88k4 ?z88k5 ?z88k6 ?z88m1 ?z88m2 ?z88k7 ?z88k8 ?z88b1 ?z88b2 ?z88hb ?_; (case z88k1 => k_asm); (case z88k2 => k_asm); (case z88k3 => k_asm); (case z88k4 => k_asm); (case z88k5 => k_asm); (case z88k6 => first | exact rfl | assumption); (case z88k7 => first | exact Nat.le_of_ble_eq_true rfl | ktr_room); (case z88k8 => first | exact Nat.le_of_ble_eq_true rfl | ktr_units); (case z88m1 => (walk_at "hat9")); (case z88m2 => (walk_at "hat9")); (case z88b1 => with_reducible assumption); (case z88b2 => with_reducible assumption); (case z88hb => first | assumption | omega | decide); k_whole); walk_at "i3"; (try k_sweep))
  trivial
theorem least_c {w : World} {p : Program} {loose : List Str} {mean : ExcName → Option Value} {mg mb : Str → Option Value} {dp un : Nat} {gd : Option (List Code)} {cn : Str} {cs : Scope} {a : Addr} {ccd : Value} {cl : List (Str × Addr)} {outer : List Env} {A₀ : Around} {base h₀ : Heap} {L : Addr} {m : Str → Option Value} {news : List (Addr × Obj)} {s : Shared} {Q E : Value → Shared → Prop} {D1 D2 : Addr} {r1 r2 : Rat} {t1 t1' t2 t2' : Tok} {c1 c2 n k : Nat}
    (B : Below A₀ base outer h₀) (F : Fr h₀ L s.heap m) (X : (HD.K w.params).In h₀) (N : News h₀ L s.heap news) (T : Top p loose mean mg mb h₀) (hk : cs.kind = .function) (e1 : s.heap.get? D1 = some (RatO r1 t1 t1' c1)) (e2 : s.heap.get? D2 = some (RatO r2 t2 t2' c2))
    (hd : dp + 5 < recursionLimit) (hu : un + 60 < cLine) (b1 : Bd n r1) (b2 : Bd k r2) (hb : k + n ≤ 100000)
    (h1 : r2 < r1 → ∀ (h' : Heap) (tk' : Nat), Fr h₀ L h' m → News h₀ L h' news → Q (.ref D2) { s with heap := h', toks := tk' }) (h2 : ¬ r2 < r1 → ∀ (h' : Heap) (tk' : Nat), Fr h₀ L h' m → News h₀ L h' news → Q (.ref D1) { s with heap := h', toks := tk' }) :
    wpAny (model PySem.Challenge.rw_ui0509_08.row.prog w) (ktrTop dp un gd cn cs L a ccd cl outer) (call (.ref 133) [.ref D1, .ref D2]) Q E s := by
  w_top off
  revert X; k_fill; intro X
  refine wpAny_call ?_
  k_dflt (refine' code_need [] ?k1 ?k2 ?k3 ?k4 ?k5 ?kA ?kF ?kK ?k6 ?k7 ?k8 ?k9 ?kB ?kN ?_ ?c2 ?c3 ?c4 ?c5; (case kA => exact rfl); (case kF => exact rfl); (case kK => assumption); (case k1 => k_asm); (case k2 => k_asm); (case k3 => k_asm); (case k4 => k_asm); (case k5 => k_asm); (case k6 => k_is); (case k7 => k_is); (case k8 => ktr_room); (case k9 => first | exact BindsTo.of_eq rfl | exact binds_K (by k_in) rfl (by k_is) rfl rfl rfl); (case c5 => decide); (case kB => exact locs rfl); (case kN => exact fun _ h => nomatch h); (case c2 => exact rfl); (case c3 => exact rfl); (case c4 => exact rfl); k_whole; intro g' L' h' tk0 FG' F' N' B' X' T' hG'; (try dsimp only); (try k_fold))
  replace e1 := hG' _ _ e1 (by simp)
  replace e2 := hG' _ _ e2 (by simp)
  k_steps
  all_goals (refine leaveN_ (by k_asm) (by k_asm) ?_; intro kF kN kR kD; (try dsimp only); first | exact h1 (by simpa using (by assumption : decide (r2 < r1) = true)) _ _ kF (news_all kR) | exact h2 (by simpa using (by assumption : decide (r2 < r1) = false)) _ _ kF (news_all kR) | exact h1 (by assumption) _ _ kF (news_all kR) | exact h2 (by assumption) _ _ kF (news_all kR))
end
theorem least_m {w : World} {p : Program} {loose : List Str} {mean : ExcName → Option Value} {mg mb : Str → Option Value} {dp un : Nat} {gd : Option (List Code)} {cn : Str} {cs : Scope} {a : Addr} {ccd : Value} {cl : List (Str × Addr)} {outer : List Env} {A₀ : Around} {base h₀ : Heap} {L : Addr} {m : Str → Option Value} {news : List (Addr × Obj)} {s : Shared} {Q E : Value → Shared → Prop} {D1 D2 : Addr} {r1 r2 : Rat} {t1 t1' t2 t2' : Tok} {c1 c2 n k : Nat}
    (B : Below A₀ base outer h₀) (F : Fr h₀ L s.heap m) (X : (HD.K w.params).In h₀) (N : News h₀ L s.heap news) (T : Top p loose mean mg mb h₀) (hk : cs.kind = .function) (e1 : s.heap.get? D1 = some (RatO r1 t1 t1' c1)) (e2 : s.heap.get? D2 = some (RatO r2 t2 t2' c2))
    (hd : dp + 5 < recursionLimit) (hu : un + 60 < cLine) (b1 : Bd n r1) (b2 : Bd k r2) (hb : k + n ≤ 100000)
    (hret : ∀ (D : Addr) (r : Rat) (h' : Heap) (tk' : Nat), ((D = D1 ∧ r = r1 ∧ ¬ r2 < r1) ∨ (D = D2 ∧ r = r2 ∧ r2 < r1)) → Fr h₀ L h' m → News h₀ L h' news → Q (.ref D) { s with heap := h', toks := tk' }) :
    wpAny (model PySem.Challenge.rw_ui0509_08.row.prog w) (ktrTop dp un gd cn cs L a ccd cl outer) (call (.ref 133) [.ref D1, .ref D2]) Q E s :=
  least_c B F X N T hk e1 e2 hd hu b1 b2 hb (fun hc h' tk' F' N' => hret D2 r2 h' tk' (.inr ⟨rfl, rfl, hc⟩) F' N') (fun hc h' tk' F' N' => hret D1 r1 h' tk' (.inl ⟨rfl, rfl, hc⟩) F' N')
theorem greatest_m {w : World} {p : Program} {loose : List Str} {mean : ExcName → Option Value} {mg mb : Str → Option Value} {dp un : Nat} {gd : Option (List Code)} {cn : Str} {cs : Scope} {a : Addr} {ccd : Value} {cl : List (Str × Addr)} {outer : List Env} {A₀ : Around} {base h₀ : Heap} {L : Addr} {m : Str → Option Value} {news : List (Addr × Obj)} {s : Shared} {Q E : Value → Shared → Prop} {D1 D2 : Addr} {r1 r2 : Rat} {t1 t1' t2 t2' : Tok} {c1 c2 n k : Nat}
    (B : Below A₀ base outer h₀) (F : Fr h₀ L s.heap m) (X : (HD.K w.params).In h₀) (N : News h₀ L s.heap news) (T : Top p loose mean mg mb h₀) (hk : cs.kind = .function) (e1 : s.heap.get? D1 = some (RatO r1 t1 t1' c1)) (e2 : s.heap.get? D2 = some (RatO r2 t2 t2' c2))
    (hd : dp + 5 < recursionLimit) (hu : un + 60 < cLine) (b1 : Bd n r1) (b2 : Bd k r2) (hb : n + k ≤ 100000)
    (hret : ∀ (D : Addr) (r : Rat) (h' : Heap) (tk' : Nat), ((D = D1 ∧ r = r1 ∧ ¬ r1 < r2) ∨ (D = D2 ∧ r = r2 ∧ r1 < r2)) → Fr h₀ L h' m → News h₀ L h' news → Q (.ref D) { s with heap := h', toks := tk' }) :
    wpAny (model PySem.Challenge.rw_ui0509_08.row.prog w) (ktrTop dp un gd cn cs L a ccd cl outer) (call (.ref 140) [.ref D1, .ref D2]) Q E s :=
  greatest_c B F X N T hk e1 e2 hd hu b1 b2 hb (fun hc h' tk' F' N' => hret D2 r2 h' tk' (.inr ⟨rfl, rfl, hc⟩) F' N') (fun hc h' tk' F' N' => hret D1 r1 h' tk' (.inl ⟨rfl, rfl, hc⟩) F' N')
-- plain: the lesser and the greater of two, sorted
inductive MarkW9 : Prop where
  | mk : MarkW9
theorem shaped_srt {x1 y1 x2 y2 : Int} {a b : Rat} : SeqAt.shaped (.list (srtL x1 y1 x2 y2 (ratP a) (ratP b))) = true := by
  unfold srtL
  split <;> rfl
theorem rat_ext {a b : Rat} (h : a.num = b.num) (k : (a.den : Int) = (b.den : Int)) : a = b := Rat.ext h (Int.ofNat.inj k)
theorem srt_rat (a b : Rat) : srtL a.num (a.den : Int) b.num (b.den : Int) (ratP a) (ratP b) = srtL b.num (b.den : Int) a.num (a.den : Int) (ratP b) (ratP a) := srt_comm fun h k => by rw [rat_ext h k]
def LeG (v o l g : Rat) : Prop := ((l = v ∧ ¬ o < v) ∨ (l = o ∧ o < v)) ∧ ((g = v ∧ ¬ v < o) ∨ (g = o ∧ v < o))
theorem lg_srt {v o l g : Rat} (h : LeG v o l g) : srtL l.num (l.den : Int) g.num (g.den : Int) (ratP l) (ratP g) = srtL v.num (v.den : Int) o.num (o.den : Int) (ratP v) (ratP o) := by
  obtain ⟨h1 | h1, h2 | h2⟩ := h
  · have e : v = o := Rat.le_antisymm (Rat.not_lt.mp h1.2) (Rat.not_lt.mp h2.2)
    rw [h1.1, h2.1, ← e]
  · rw [h1.1, h2.1]
  · rw [h1.1, h2.1]; exact srt_rat o v
  · exact absurd h1.2 (Rat.not_lt.mpr (Rat.le_of_lt h2.2))
theorem lg_not {v o l g : Rat} (h : LeG v o l g) : decide (g < l) = false := by
  refine decide_eq_false ?_
  obtain ⟨h1 | h1, h2 | h2⟩ := h
  · rw [h1.1, h2.1]; exact Rat.not_lt.mpr (Rat.le_refl)
  · rw [h1.1, h2.1]; exact Rat.not_lt.mpr (Rat.le_of_lt h2.2)
  · rw [h1.1, h2.1]; exact Rat.not_lt.mpr (Rat.le_of_lt h1.2)
  · rw [h1.1, h2.1]; exact Rat.not_lt.mpr (Rat.le_refl)
theorem srt_rd {h : Heap} {x1 y1 x2 y2 : Int} {v1 v2 : Value} {p q : PyData} (h1 : Rd h v1 p) (h2 : Rd h v2 q) : All2 (Rd h) (srtL x1 y1 x2 y2 v1 v2) (srtL x1 y1 x2 y2 p q) := by
  unfold srtL
  split
  · exact .cons h2 (.cons h1 .nil)
  · exact .cons h1 (.cons h2 .nil)
theorem bits64 {x : Int} (h : -(2 ^ 62) ≤ x) (h' : x < 2 ^ 62) : Builtin.Int.intBits x ≤ 64 := PySem.intBits_le_64 (by omega) (by omega)
theorem bd_of {r : Rat} (h1 : -100000 ≤ r.num) (h2 : r.num ≤ 100000) (h3 : (r.den : Int) ≤ 100000) : Bd 64 r := ⟨bits64 (by omega) (by omega), bits64 (by omega) (by omega)⟩
theorem div_bounds {r : Rat} {u l : Int} (e : r = Rat.divInt u l) (hl : l ≠ 0) (h1 : u.natAbs ≤ 100000) (h2 : l.natAbs ≤ 100000) : -100000 ≤ r.num ∧ r.num ≤ 100000 ∧ 1 ≤ (r.den : Int) ∧ (r.den : Int) ≤ 100000 := by
  have a : r.num.natAbs ≤ 100000 := by rw [e]; exact Nat.le_trans (num_le _ _) h1
  have b : r.den ≤ 100000 := by rw [e]; exact Nat.le_trans (den_le hl) h2
  have c := r.den_pos
  omega
theorem dup2 {h₀ h : Heap} {L : Addr} {l : List (Addr × Obj)} {D D1 D2 : Addr} {r r1 r2 : Rat} {p1 p2 : Prop} {t1 t1' t2 t2' : Tok} {c1 c2 : Nat} (N : News h₀ L h l) (c : (D = D1 ∧ r = r1 ∧ p1) ∨ (D = D2 ∧ r = r2 ∧ p2)) (m1 : (D1, RatO r1 t1 t1' c1) ∈ l) (m2 : (D2, RatO r2 t2 t2' c2) ∈ l) :
    ∃ t t' k, News h₀ L h ((D, RatO r t t' k) :: l) := by
  rcases c with ⟨e, q, _⟩ | ⟨e, q, _⟩
  · rw [e, q]; exact ⟨_, _, _, fcons (N _ m1) N⟩
  · rw [e, q]; exact ⟨_, _, _, fcons (N _ m2) N⟩
theorem bd2 {D D1 D2 : Addr} {r r1 r2 : Rat} {p1 p2 : Prop} {n : Nat} (c : (D = D1 ∧ r = r1 ∧ p1) ∨ (D = D2 ∧ r = r2 ∧ p2)) (b1 : Bd n r1) (b2 : Bd n r2) : Bd n r := by
  rcases c with ⟨_, q, _⟩ | ⟨_, q, _⟩
  · rw [q]; exact b1
  · rw [q]; exact b2
theorem strs_rd {h : Heap} {x : Str} : ∀ {ws : List Value} {n : Nat}, ws.length = n → (∀ v ∈ ws, ∃ t, v = Value.str x t) → All2 (Rd h) ws (List.replicate n (PyData.str x))
  | [], n, hl, _ => by obtain rfl : n = 0 := hl.symm; exact .nil
  | v :: ws, n, hl, hw => by
    obtain ⟨k, rfl⟩ : ∃ k, n = k + 1 := ⟨ws.length, by simpa using hl.symm⟩
    obtain ⟨t, rfl⟩ := hw v (List.mem_cons_self ..)
    exact .cons ⟨_, .str x t⟩ (strs_rd (by simpa using hl) fun u hu => hw u (List.mem_cons_of_mem _ hu))
end
section
theorem r4 : List.range 4 = [0, 1, 2, 3] := rfl
-- three equations: the steps written out
theorem s2_3 (a2 a3 b2 b3 c2 c3 : Rat) : stepM 3 2 [[1, 0, a2, a3], [0, 1, b2, b3], [0, 0, c2, c3]] = if c2 = 0 then none else some [[1, 0, 0, a3 - a2 * (c3 / c2)], [0, 1, 0, b3 - b2 * (c3 / c2)], [0, 0, 1, c3 / c2]] := by
  by_cases hc : c2 = 0
  · simp [stepM, plM, at2, r1, hc]
  · have h1 : c2 / c2 = 1 := by grind
    have h0 : (0 : Rat) / c2 = 0 := by grind
    by_cases ha : a2 = 0
    · by_cases hb : b2 = 0
      · simp [stepM, plM, swapM, normM, elimM, at2, r1, r3, r4, hc, h1, h0, ha, hb] <;> grind
      · simp [stepM, plM, swapM, normM, elimM, at2, r1, r3, r4, hc, h1, h0, ha, hb] <;> grind
    · by_cases hb : b2 = 0
      · simp [stepM, plM, swapM, normM, elimM, at2, r1, r3, r4, hc, h1, h0, ha, hb] <;> grind
      · simp [stepM, plM, swapM, normM, elimM, at2, r1, r3, r4, hc, h1, h0, ha, hb] <;> grind
def gF (a1 a2 a3 b1 b2 b3 c1 c2 c3 : Rat) : Mat := [[1, 0, a2 - a1 * (b2 / b1), a3 - a1 * (b3 / b1)], [0, 1, b2 / b1, b3 / b1], [0, 0, c2 - c1 * (b2 / b1), c3 - c1 * (b3 / b1)]]
theorem s1_3 (a1 a2 a3 b1 b2 b3 c1 c2 c3 : Rat) : stepM 3 1 [[1, a1, a2, a3], [0, b1, b2, b3], [0, c1, c2, c3]] = if b1 ≠ 0 then some (gF a1 a2 a3 b1 b2 b3 c1 c2 c3) else if c1 ≠ 0 then some (gF a1 a2 a3 c1 c2 c3 b1 b2 b3) else none := by
  unfold gF
  by_cases hb : b1 = 0
  · by_cases hc : c1 = 0
    · simp [stepM, plM, at2, r2, hb, hc]
    · have h1 : c1 / c1 = 1 := by grind
      have h0 : (0 : Rat) / c1 = 0 := by grind
      by_cases ha : a1 = 0
      · simp [stepM, plM, swapM, normM, elimM, at2, r2, r3, r4, hb, hc, h1, h0, ha] <;> grind
      · simp [stepM, plM, swapM, normM, elimM, at2, r2, r3, r4, hb, hc, h1, h0, ha] <;> grind
  · have h1 : b1 / b1 = 1 := by grind
    have h0 : (0 : Rat) / b1 = 0 := by grind
    by_cases ha : a1 = 0
    · by_cases hc : c1 = 0
      · simp [stepM, plM, swapM, normM, elimM, at2, r2, r3, r4, hb, hc, h1, h0, ha] <;> grind
      · simp [stepM, plM, swapM, normM, elimM, at2, r2, r3, r4, hb, hc, h1, h0, ha] <;> grind
    · by_cases hc : c1 = 0
      · simp [stepM, plM, swapM, normM, elimM, at2, r2, r3, r4, hb, hc, h1, h0, ha] <;> grind
      · simp [stepM, plM, swapM, normM, elimM, at2, r2, r3, r4, hb, hc, h1, h0, ha] <;> grind
def gG (a0 a1 a2 a3 b0 b1 b2 b3 c0 c1 c2 c3 : Rat) : Mat := [[1, a1 / a0, a2 / a0, a3 / a0], [0, b1 - b0 * (a1 / a0), b2 - b0 * (a2 / a0), b3 - b0 * (a3 / a0)], [0, c1 - c0 * (a1 / a0), c2 - c0 * (a2 / a0), c3 - c0 * (a3 / a0)]]
theorem s0_a {a0 a1 a2 a3 b0 b1 b2 b3 c0 c1 c2 c3 : Rat} (h : a0 ≠ 0) : stepM 3 0 [[a0, a1, a2, a3], [b0, b1, b2, b3], [c0, c1, c2, c3]] = some (gG a0 a1 a2 a3 b0 b1 b2 b3 c0 c1 c2 c3) := by
  unfold gG
  have h1 : a0 / a0 = 1 := by grind
  by_cases hb : b0 = 0
  · by_cases hc : c0 = 0
    · simp [stepM, plM, swapM, normM, elimM, at2, r3, r4, hb, hc, h1, h] <;> grind
    · simp [stepM, plM, swapM, normM, elimM, at2, r3, r4, hb, hc, h1, h] <;> grind
  · by_cases hc : c0 = 0
    · simp [stepM, plM, swapM, normM, elimM, at2, r3, r4, hb, hc, h1, h] <;> grind
    · simp [stepM, plM, swapM, normM, elimM, at2, r3, r4, hb, hc, h1, h] <;> grind
theorem s0_b {a1 a2 a3 b0 b1 b2 b3 c0 c1 c2 c3 : Rat} (h : b0 ≠ 0) : stepM 3 0 [[0, a1, a2, a3], [b0, b1, b2, b3], [c0, c1, c2, c3]] = some (gG b0 b1 b2 b3 0 a1 a2 a3 c0 c1 c2 c3) := by
  unfold gG
  have h1 : b0 / b0 = 1 := by grind
  by_cases hc : c0 = 0
  · simp [stepM, plM, swapM, normM, elimM, at2, r3, r4, hc, h1, h] <;> grind
  · simp [stepM, plM, swapM, normM, elimM, at2, r3, r4, hc, h1, h] <;> grind
theorem s0_c {a1 a2 a3 b1 b2 b3 c0 c1 c2 c3 : Rat} (h : c0 ≠ 0) : stepM 3 0 [[0, a1, a2, a3], [0, b1, b2, b3], [c0, c1, c2, c3]] = some (gG c0 c1 c2 c3 0 b1 b2 b3 0 a1 a2 a3) := by
  unfold gG
  have h1 : c0 / c0 = 1 := by grind
  simp [stepM, plM, swapM, normM, elimM, at2, r3, r4, h1, h] <;> grind
theorem s0_n {a1 a2 a3 b1 b2 b3 c1 c2 c3 : Rat} : stepM 3 0 [[0, a1, a2, a3], [0, b1, b2, b3], [0, c1, c2, c3]] = none := by
  simp [stepM, plM, at2, r3]
def det3 (a0 a1 a2 b0 b1 b2 c0 c1 c2 : Rat) : Rat := a0 * (b1 * c2 - b2 * c1) - a1 * (b0 * c2 - b2 * c0) + a2 * (b0 * c1 - b1 * c0)
def Sol3 (a0 a1 a2 a3 b0 b1 b2 b3 c0 c1 c2 c3 x y z : Rat) : Prop := a0 * x + a1 * y + a2 * z = a3 ∧ b0 * x + b1 * y + b2 * z = b3 ∧ c0 * x + c1 * y + c2 * z = c3
-- what is told of a table behind its first step
def Told1 (M : Option Mat) (d : Rat) (S : Rat → Rat → Rat → Prop) : Prop := (M = none ∧ d = 0) ∨ ∃ Z x y z, M = some Z ∧ d ≠ 0 ∧ Z.map (fun r => r.getD 3 0) = [x, y, z] ∧ S x y z
theorem mul_ne {a b : Rat} (ha : a ≠ 0) (hb : b ≠ 0) : a * b ≠ 0 := by
  intro h
  rcases Rat.mul_eq_zero.mp h with h | h
  · exact ha h
  · exact hb h
theorem told_2 (a2 a3 b2 b3 c2 c3 : Rat) : Told1 (stepM 3 2 [[1, 0, a2, a3], [0, 1, b2, b3], [0, 0, c2, c3]]) c2 (fun x y z => x + a2 * z = a3 ∧ y + b2 * z = b3 ∧ c2 * z = c3) := by
  rw [s2_3]
  by_cases hc : c2 = 0
  · exact .inl ⟨if_pos hc, hc⟩
  · refine .inr ⟨_, a3 - a2 * (c3 / c2), b3 - b2 * (c3 / c2), c3 / c2, if_neg hc, hc, rfl, ?_, ?_, ?_⟩ <;> grind
theorem told_1 (a1 a2 a3 b1 b2 b3 c1 c2 c3 : Rat) : Told1 ((stepM 3 1 [[1, a1, a2, a3], [0, b1, b2, b3], [0, c1, c2, c3]]).bind (stepM 3 2)) (b1 * c2 - b2 * c1) (fun x y z => x + a1 * y + a2 * z = a3 ∧ b1 * y + b2 * z = b3 ∧ c1 * y + c2 * z = c3) := by
  rw [s1_3]
  by_cases hb : b1 = 0
  · rw [if_neg (by simpa using hb)]
    by_cases hc : c1 = 0
    · rw [if_neg (by simpa using hc)]
      exact .inl ⟨rfl, by rw [hb, hc]; grind⟩
    · rw [if_pos hc, Option.bind_some, gF]
      rcases told_2 (a2 - a1 * (c2 / c1)) (a3 - a1 * (c3 / c1)) (c2 / c1) (c3 / c1) (b2 - b1 * (c2 / c1)) (b3 - b1 * (c3 / c1)) with ⟨e, d⟩ | ⟨Z, x, y, z, e, d, h, q1, q2, q3⟩
      · exact .inl ⟨e, by grind⟩
      · refine .inr ⟨Z, x, y, z, e, ?_, h, ?_, ?_, ?_⟩
        · intro hd; apply d; grind
        · grind
        · grind
        · grind
  · rw [if_pos hb, Option.bind_some, gF]
    rcases told_2 (a2 - a1 * (b2 / b1)) (a3 - a1 * (b3 / b1)) (b2 / b1) (b3 / b1) (c2 - c1 * (b2 / b1)) (c3 - c1 * (b3 / b1)) with ⟨e, d⟩ | ⟨Z, x, y, z, e, d, h, q1, q2, q3⟩
    · exact .inl ⟨e, by grind⟩
    · refine .inr ⟨Z, x, y, z, e, ?_, h, ?_, ?_, ?_⟩
      · intro hd; apply d; grind
      · grind
      · grind
      · grind
theorem told_G {a0 a1 a2 a3 b0 b1 b2 b3 c0 c1 c2 c3 : Rat} (ha : a0 ≠ 0) : Told1 (((some (gG a0 a1 a2 a3 b0 b1 b2 b3 c0 c1 c2 c3)).bind (stepM 3 1)).bind (stepM 3 2)) (det3 a0 a1 a2 b0 b1 b2 c0 c1 c2) (Sol3 a0 a1 a2 a3 b0 b1 b2 b3 c0 c1 c2 c3) := by
  rw [Option.bind_some, gG]
  have hdet : det3 a0 a1 a2 b0 b1 b2 c0 c1 c2 = a0 * ((b1 - b0 * (a1 / a0)) * (c2 - c0 * (a2 / a0)) - (b2 - b0 * (a2 / a0)) * (c1 - c0 * (a1 / a0))) := by
    unfold det3
    have e1 : a1 = a0 * (a1 / a0) := by grind
    have e2 : a2 = a0 * (a2 / a0) := by grind
    generalize a1 / a0 = u at *
    generalize a2 / a0 = v at *
    subst e1 e2
    grind
  rw [hdet]
  rcases told_1 (a1 / a0) (a2 / a0) (a3 / a0) (b1 - b0 * (a1 / a0)) (b2 - b0 * (a2 / a0)) (b3 - b0 * (a3 / a0)) (c1 - c0 * (a1 / a0)) (c2 - c0 * (a2 / a0)) (c3 - c0 * (a3 / a0)) with ⟨e, d⟩ | ⟨Z, x, y, z, e, d, h, q1, q2, q3⟩
  · exact .inl ⟨e, by rw [d]; grind⟩
  · refine .inr ⟨Z, x, y, z, e, mul_ne ha d, h, ?_⟩
    clear hdet d
    have e1 : a1 = a0 * (a1 / a0) := by grind
    have e2 : a2 = a0 * (a2 / a0) := by grind
    have e3 : a3 = a0 * (a3 / a0) := by grind
    unfold Sol3
    generalize a1 / a0 = u at *
    generalize a2 / a0 = v at *
    generalize a3 / a0 = t at *
    subst e1 e2 e3
    refine ⟨?_, ?_, ?_⟩
    · rw [← q1]; grind
    · have : b0 * (x + u * y + v * z) = b0 * t := by rw [q1]
      grind
    · have : c0 * (x + u * y + v * z) = c0 * t := by rw [q1]
      grind
theorem gj_3 (a0 a1 a2 a3 b0 b1 b2 b3 c0 c1 c2 c3 : Rat) : Told1 (gjM 3 3 [[a0, a1, a2, a3], [b0, b1, b2, b3], [c0, c1, c2, c3]]) (det3 a0 a1 a2 b0 b1 b2 c0 c1 c2) (Sol3 a0 a1 a2 a3 b0 b1 b2 b3 c0 c1 c2 c3) := by
  have e : gjM 3 3 [[a0, a1, a2, a3], [b0, b1, b2, b3], [c0, c1, c2, c3]] = ((stepM 3 0 [[a0, a1, a2, a3], [b0, b1, b2, b3], [c0, c1, c2, c3]]).bind (stepM 3 1)).bind (stepM 3 2) := by
    simp [gjM]
  rw [e]
  by_cases ha : a0 = 0
  · subst ha
    by_cases hb : b0 = 0
    · subst hb
      by_cases hc : c0 = 0
      · subst hc
        rw [s0_n]
        exact .inl ⟨rfl, by unfold det3; grind⟩
      · rw [s0_c hc]
        rcases told_G (a0 := c0) (a1 := c1) (a2 := c2) (a3 := c3) (b0 := 0) (b1 := b1) (b2 := b2) (b3 := b3) (c0 := 0) (c1 := a1) (c2 := a2) (c3 := a3) hc with ⟨e, d⟩ | ⟨Z, x, y, z, e, d, h, q1, q2, q3⟩
        · exact .inl ⟨e, by unfold det3 at *; grind⟩
        · exact .inr ⟨Z, x, y, z, e, fun hd => d (by unfold det3 at *; grind), h, q3, q2, q1⟩
    · rw [s0_b hb]
      rcases told_G (a0 := b0) (a1 := b1) (a2 := b2) (a3 := b3) (b0 := 0) (b1 := a1) (b2 := a2) (b3 := a3) (c0 := c0) (c1 := c1) (c2 := c2) (c3 := c3) hb with ⟨e, d⟩ | ⟨Z, x, y, z, e, d, h, q1, q2, q3⟩
      · exact .inl ⟨e, by unfold det3 at *; grind⟩
      · exact .inr ⟨Z, x, y, z, e, fun hd => d (by unfold det3 at *; grind), h, q2, q1, q3⟩
  · rw [s0_a ha]
    exact told_G ha
-- plain: up, sorted, det, sums
theorem up_eq {x y : Int} (hy : 1 ≤ y) : ∃ q r : Int, Int.fdiv (-x) y = q ∧ q * y = -x - r ∧ 0 ≤ r ∧ r < y := by
  have e : Int.fdiv (-x) y = (-x) / y := Int.fdiv_eq_ediv_of_nonneg _ (by omega)
  refine ⟨(-x) / y, (-x) % y, e, ?_, Int.emod_nonneg _ (by omega), Int.emod_lt_of_pos _ (by omega)⟩
  have h := Int.mul_ediv_add_emod (-x) y
  rw [Int.mul_comm]; omega
theorem up_le {x y : Int} (hy : 1 ≤ y) : x * 1 ≤ -(Int.fdiv (-x) y) * y := by
  obtain ⟨q, r, e, h, h1, h2⟩ := up_eq (x := x) hy
  rw [e, Int.neg_mul, h]; omega
theorem up_lt {x y : Int} (hy : 1 ≤ y) : (-(Int.fdiv (-x) y) - 1) * y < x * 1 := by
  obtain ⟨q, r, e, h, h1, h2⟩ := up_eq (x := x) hy
  rw [e, Int.sub_mul, Int.neg_mul, h]; omega
theorem up_abs {x y : Int} (hy : 1 ≤ y) (h1 : -100000 ≤ x) (h2 : x ≤ 100000) : -100000 ≤ -(Int.fdiv (-x) y) ∧ -(Int.fdiv (-x) y) ≤ 100000 := by
  obtain ⟨q, r, e, h, h3, h4⟩ := up_eq (x := x) hy
  rw [e]
  constructor
  · have : ¬ 100000 < q := fun hq => by
      have h5 := Int.mul_lt_mul_of_pos_right hq (show (0 : Int) < y by omega)
      have h6 := Int.mul_le_mul_of_nonneg_left hy (show (0 : Int) ≤ 100000 by decide)
      omega
    omega
  · have : ¬ q < -100000 := fun hq => by
      have h5 : (q + 1) * y ≤ -100000 * y := Int.mul_le_mul_of_nonneg_right (by omega) (by omega)
      have h6 := Int.mul_le_mul_of_nonneg_left hy (show (0 : Int) ≤ 100000 by decide)
      rw [Int.add_mul] at h5
      omega
    omega
def det3I (a0 a1 a2 b0 b1 b2 c0 c1 c2 : Int) : Int := a0 * (b1 * c2 - b2 * c1) - a1 * (b0 * c2 - b2 * c0) + a2 * (b0 * c1 - b1 * c0)
theorem det_cast (a0 a1 a2 b0 b1 b2 c0 c1 c2 : Int) : det3 (a0 : Rat) a1 a2 b0 b1 b2 c0 c1 c2 = ((det3I a0 a1 a2 b0 b1 b2 c0 c1 c2 : Int) : Rat) := by
  unfold det3 det3I
  simp only [Rat.intCast_add, Rat.intCast_sub, Rat.intCast_mul]
theorem told8 (a0 a1 a2 a3 b0 b1 b2 b3 c0 c1 c2 c3 : Int) : (gjM 3 3 [[(a0 : Rat), a1, a2, a3], [(b0 : Rat), b1, b2, b3], [(c0 : Rat), c1, c2, c3]] = none ∧ det3I a0 a1 a2 b0 b1 b2 c0 c1 c2 = 0) ∨
    ∃ Z x y z, gjM 3 3 [[(a0 : Rat), a1, a2, a3], [(b0 : Rat), b1, b2, b3], [(c0 : Rat), c1, c2, c3]] = some Z ∧ det3I a0 a1 a2 b0 b1 b2 c0 c1 c2 ≠ 0 ∧ Z.map (fun r => r.getD 3 0) = [x, y, z] ∧ Sol3 (a0 : Rat) a1 a2 a3 b0 b1 b2 b3 c0 c1 c2 c3 x y z := by
  have hz : ((0 : Int) : Rat) = 0 := rfl
  rcases gj_3 (a0 : Rat) a1 a2 a3 b0 b1 b2 b3 c0 c1 c2 c3 with ⟨e, d⟩ | ⟨Z, x, y, z, e, d, h, q⟩
  · refine .inl ⟨e, ?_⟩
    rw [det_cast, ← hz] at d
    exact Rat.intCast_inj.mp d
  · refine .inr ⟨Z, x, y, z, e, fun k => d ?_, h, q⟩
    rw [det_cast, k]; rfl
end
section
section
theorem words21 : True := by
  k_with_none
  k_with "ne9" => (refine neN ?_; (try dsimp only); first | with_reducible assumption | exact Ne.symm (by with_reducible assumption) | exact pj0 (by with_reducible assumption) | exact pj1 (by with_reducible assumption) | exact pj2 (by with_reducible assumption) | exact pj3 (by with_reducible assumption) | exact pj4 (by with_reducible assumption) | exact pj5 (by with_reducible assumption) | exact pj6 (by with_reducible assumption) | exact pj7 (by with_reducible assumption) | exact pj8 (by with_reducible assumption) | exact pj9 (by with_reducible assumption) | exact pj10 (by with_reducible assumption) | exact pj11 (by with_reducible assumption) | exact Ne.symm (pj0 (by with_reducible assumption)) | exact Ne.symm (pj1 (by with_reducible assumption)) | exact Ne.symm (pj2 (by with_reducible assumption)) | exact Ne.symm (pj3 (by with_reducible assumption)) | exact Ne.symm (pj4 (by with_reducible assumption)) | exact Ne.symm (pj5 (by with_reducible assumption)) | exact Ne.symm (pj6 (by with_reducible assumption)) | exact Ne.symm (pj7 (by with_reducible assumption)) | exact Ne.symm (pj8 (by with_reducible assumption)) | exact Ne.symm (pj9 (by with_reducible assumption)) | exact Ne.symm (pj10 (by with_reducible assumption)) | exact Ne.symm (pj11 (by with_reducible assumption)) | exact ad1 | exact ad2 | exact ad3 | exact ad4 | exact ad5 | exact ad6 | exact ad7 | exact ad8 | exact Ne.symm ad1 | exact Ne.symm ad2 | exact Ne.symm ad3 | exact Ne.symm ad4 | exact Ne.symm ad5 | exact Ne.symm ad6 | exact Ne.symm ad7 | exact Ne.symm ad8 | exact Nat.ne_of_lt (by with_reducible assumption) | exact Nat.ne_of_gt (by with_reducible assumption) | exact Nat.ne_of_lt (pj0 (by with_reducible assumption)) | exact Nat.ne_of_lt (pj1 (by with_reducible assumption)) | exact Nat.ne_of_lt (pj2 (by with_reducible assumption)) | exact Nat.ne_of_lt (pj3 (by with_reducible assumption)) | exact Nat.ne_of_lt (pj4 (by with_reducible assumption)) | exact Nat.ne_of_lt (pj5 (by with_reducible assumption)) | exact Nat.ne_of_lt (pj6 (by with_reducible assumption)) | exact Nat.ne_of_lt (pj7 (by with_reducible assumption)) | exact Nat.ne_of_lt (pj8 (by with_reducible assumption)) | exact Nat.ne_of_lt (pj9 (by with_reducible assumption)) | exact Nat.ne_of_lt (pj10 (by with_reducible assumption)) | exact Nat.ne_of_lt (pj11 (by with_reducible assumption)) | exact Nat.ne_of_gt (pj0 (by with_reducible assumption)) | exact Nat.ne_of_gt (pj1 (by with_reducible assumption)) | exact Nat.ne_of_gt (pj2 (by with_reducible assumption)) | exact Nat.ne_of_gt (pj3 (by with_reducible assumption)) | exact Nat.ne_of_gt (pj4 (by with_reducible assumption)) | exact Nat.ne_of_gt (pj5 (by with_reducible assumption)) | exact Nat.ne_of_gt (pj6 (by with_reducible assumption)) | exact Nat.ne_of_gt (pj7 (by with_reducible assumption)) | exact Nat.ne_of_gt (pj8 (by with_reducible assumption)) | exact Nat.ne_of_gt (pj9 (by with_reducible assumption)) | exact Nat.ne_of_gt (pj10 (by with_reducible assumption)) | exact Nat.ne_of_gt (pj11 (by with_reducible assumption)) | omega)
  k_with "k_ne" => (walk_at "ne9")
  k_with "k_in" => (refine' in_of ?z90fF ?z90fX; (case z90fF => k_asm); (case z90fX => k_asm))
  k_with "k_mem" => (first | with_reducible assumption | (refine List.mem_append_left _ ?_; with_reducible assumption) | (refine List.mem_cons_of_mem _ ?_; k_mem))
  trivial
theorem sort2 {w0 : World} {p : Program} {loose : List Str} {mean : ExcName → Option Value} {mg mb : Str → Option Value} {fa L : Addr} {cc : Value} {h₀ : Heap} {EX : Value → Shared → Prop} {m : Str → Option Value} {s : Shared} {l D1 D2 : Addr} {x1 y1 x2 y2 : Int} {t1 t1' t2 t2' : Tok} {c1 c2 n : Nat} {news : List (Addr × Obj)} {Q2 : Value → Shared → Prop}
    (K0 : Below callerA h₀ [] h₀) (KX : (HD.K w0.params).In h₀) (T : Top p loose mean mg mb h₀) (F : Fr h₀ L s.heap m) (N : News h₀ L s.heap news) (el : (l, listOf [Value.ref D1, Value.ref D2].toArray n) ∈ news) (e1 : (D1, T2 x1 y1 t1 t1' c1) ∈ news) (e2 : (D2, T2 x2 y2 t2 t2' c2) ∈ news)
    (hret : ∀ (D : Addr) (c : Nat) (h' : Heap) (tk' : Nat), Fr h₀ L h' m → News h₀ L h' ((D, listOf (srtL x1 y1 x2 y2 (Value.ref D1) (Value.ref D2)).toArray c) :: news) → Q2 (.ref D) { s with heap := h', toks := tk' }) :
    wpAny (model PySem.Challenge.rw_ui0509_08.row.prog w0) (callerA.deeper (envOfC HD.dH.name HD.dH.scope L fa cc)) (call (.builtin "sorted") [.ref l]) Q2 EX s := by
  w_top off
  revert KX; k_fill; intro KX
  replace N : News h₀ L s.heap ((l, listOf [Value.ref D1, Value.ref D2].toArray n) :: (D1, T2 x1 y1 t1 t1' c1) :: (D2, T2 x2 y2 t2 t2' c2) :: news) := fcons (N _ el) (fcons (N _ e1) (fcons (N _ e2) N))
  clear el e1 e2
  (with_unfolding_all refine' kat_sorted ?k1 ?k2 ?k3 ?k4 ?k5 ?_)
  case k1 => k_asm
  case k2 => k_asm
  case k3 => kso_list
  case k4 => exact Nat.le_of_ble_eq_true rfl
  case k5 => exact Nat.le_of_ble_eq_true rfl
  intro D' e' h' F' N' l1

  kat_kinds
  k_steps
  all_goals (refine' KasFin.intro F' N' (UpdF.head (fun p hp => Nat.ne_of_lt (l1 p hp))) ?_)
  all_goals (intro h2 c2' F2 N2)
  all_goals (refine hret D' c2' h2 _ F2 ?_)
  all_goals (refine fcons (?_) (fun p hp => N2 p (List.mem_cons_of_mem _ (List.mem_cons_of_mem _ (List.mem_cons_of_mem _ (List.mem_cons_of_mem _ hp))))); have q := N2 _ (List.mem_cons_self ..); unfold srtL; first | (rw [if_pos (by unfold lexB; simp; omega)]; exact q) | (rw [if_neg (by unfold lexB; simp; omega)]; exact q))
end
end
section
theorem idx_any {prog : Program} {w : World} {A : Around} {E : Value → Shared → Prop} {s : Shared} {h₀ : Heap} {L a : Addr} {lo : Obj} {news : List (Addr × Obj)} {value slice : Expr} {l : List Value} {n : Nat} {k : Int} {u : Tok} {Q : Value → Shared → Prop}
    (N : News h₀ L s.heap news) (hm : (a, lo) ∈ news) (hc : lo.cls = .type "list") (hd : lo.data = .seq l.toArray n) (h0 : 0 ≤ k) (hlt : k < (l.length : Int)) (hf : l.length < 1000) (h : ∀ x, l[k.toNat]? = some x → Q x s)
    (hs : subscripted slice false (.ref a) (.int k u) = operate [.ref a, .int k u] (getItem (.ref a) (.int k u))) (hg : ∀ r, letTemporaryGo value (.ref a) r = pure ()) :
    wpAny (model prog w) A (subscriptTail value slice (.ref a) (.int k u)) Q E s :=
  have hk : k.toNat < l.length := by omega
  PySem.W.kim_list N hm hc hd h0 (by omega) (List.getElem?_eq_getElem hk) (h _ (List.getElem?_eq_getElem hk)) hs hg
def BadF (news : List (Addr × Obj)) (x : Value) : Prop := (∃ t, x = .int 5 t) ∨ (∃ D t t' c, x = .ref D ∧ (D, T2 2 4 t t' c) ∈ news) ∨ (∃ D t1 t2 t3 c, x = .ref D ∧ (D, ({ cls := .type "tuple", data := .seq #[.int 1 t1, .int 2 t2, .int 3 t3] c } : Obj)) ∈ news) ∨ (∃ D t t' c, x = .ref D ∧ (D, T2 (-1) 3 t t' c) ∈ news)
theorem pick_need {j : Nat} {news : List (Addr × Obj)} {D1 D2 D3 : Addr} {t t1 t2 t3 t4 t5 t6 t7 : Tok} {c1 c2 c3 : Nat} {x : Value} (m1 : (D1, T2 2 4 t1 t2 c1) ∈ news) (m2 : (D2, ({ cls := .type "tuple", data := .seq #[.int 1 t3, .int 2 t4, .int 3 t5] c2 } : Obj)) ∈ news) (m3 : (D3, T2 (-1) 3 t6 t7 c3) ∈ news)
    (h : ([.int 5 t, .ref D1, .ref D2, .ref D3] : List Value)[j]? = some x) : BadF news x := by
  have hj : j < 4 := (List.getElem?_eq_some_iff.mp h).1
  rcases (by omega : j = 0 ∨ j = 1 ∨ j = 2 ∨ j = 3) with rfl | rfl | rfl | rfl
  · exact .inl ⟨_, (Option.some.inj h).symm⟩
  · exact .inr (.inl ⟨_, _, _, _, (Option.some.inj h).symm, m1⟩)
  · exact .inr (.inr (.inl ⟨_, _, _, _, _, (Option.some.inj h).symm, m2⟩))
  · exact .inr (.inr (.inr ⟨_, _, _, _, (Option.some.inj h).symm, m3⟩))
theorem t2_third {t t' : Tok} {c : Nat} : T2 (-1) 3 t t' c = RatO (Rat.divInt (-1) 3) t t' c := by
  unfold RatO
  rw [show (Rat.divInt (-1) 3).num = -1 by decide +kernel, show ((Rat.divInt (-1) 3).den : Int) = 3 by decide +kernel]
def BadM (x : Value) : Prop := x = .bool true ∨ (∃ t, x = .str (Str.ofString "1") t) ∨ (∃ t, x = .int 101 t) ∨ (∃ t, x = .int (-1) t)
theorem pick_num {j : Nat} {t1 t2 t3 : Tok} {x : Value} (h : ([.bool true, .str (Str.ofString "1") t1, .int 101 t2, .int (-1) t3] : List Value)[j]? = some x) : BadM x := by
  have hj : j < 4 := (List.getElem?_eq_some_iff.mp h).1
  rcases (by omega : j = 0 ∨ j = 1 ∨ j = 2 ∨ j = 3) with rfl | rfl | rfl | rfl
  · exact .inl (Option.some.inj h).symm
  · exact .inr (.inl ⟨_, (Option.some.inj h).symm⟩)
  · exact .inr (.inr (.inl ⟨_, (Option.some.inj h).symm⟩))
  · exact .inr (.inr (.inr ⟨_, (Option.some.inj h).symm⟩))
theorem pick_bad {j : Nat} {t0 t1 t2 t3 t4 t5 t6 t7 t8 t9 t10 t11 : Tok} {x : Value} (h : ([.str (Str.ofString "") t0, .str (Str.ofString "-") t1, .str (Str.ofString "1.5") t2, .str (Str.ofString "1/0") t3, .str (Str.ofString "1/") t4, .str (Str.ofString "/2") t5, .str (Str.ofString "x") t6, .str (Str.ofString "+1") t7, .str (Txt.mul (Str.ofString "1") 2001) t8, .str (Str.ofString "--1") t9, .str (Str.ofString "1/-2") t10, .str (Str.ofString " 1") t11] : List Value)[j]? = some x) : ∃ tx t, x = Value.str tx t ∧ BadT tx := by
  have hj : j < 12 := (List.getElem?_eq_some_iff.mp h).1
  rcases (by omega : j = 0 ∨ j = 1 ∨ j = 2 ∨ j = 3 ∨ j = 4 ∨ j = 5 ∨ j = 6 ∨ j = 7 ∨ j = 8 ∨ j = 9 ∨ j = 10 ∨ j = 11) with rfl | rfl | rfl | rfl | rfl | rfl | rfl | rfl | rfl | rfl | rfl | rfl
  · exact ⟨_, _, (Option.some.inj h).symm, .inl (rfl)⟩
  · exact ⟨_, _, (Option.some.inj h).symm, .inr (.inl (rfl))⟩
  · exact ⟨_, _, (Option.some.inj h).symm, .inr (.inr (.inl (rfl)))⟩
  · exact ⟨_, _, (Option.some.inj h).symm, .inr (.inr (.inr (.inl (rfl))))⟩
  · exact ⟨_, _, (Option.some.inj h).symm, .inr (.inr (.inr (.inr (.inl (rfl)))))⟩
  · exact ⟨_, _, (Option.some.inj h).symm, .inr (.inr (.inr (.inr (.inr (.inl (rfl))))))⟩
  · exact ⟨_, _, (Option.some.inj h).symm, .inr (.inr (.inr (.inr (.inr (.inr (.inl (rfl)))))))⟩
  · exact ⟨_, _, (Option.some.inj h).symm, .inr (.inr (.inr (.inr (.inr (.inr (.inr (.inl (rfl))))))))⟩
  · exact ⟨_, _, (Option.some.inj h).symm, .inr (.inr (.inr (.inr (.inr (.inr (.inr (.inr (.inl (rfl)))))))))⟩
  · exact ⟨_, _, (Option.some.inj h).symm, .inr (.inr (.inr (.inr (.inr (.inr (.inr (.inr (.inr (.inl (rfl))))))))))⟩
  · exact ⟨_, _, (Option.some.inj h).symm, .inr (.inr (.inr (.inr (.inr (.inr (.inr (.inr (.inr (.inr (.inl (rfl)))))))))))⟩
  · exact ⟨_, _, (Option.some.inj h).symm, .inr (.inr (.inr (.inr (.inr (.inr (.inr (.inr (.inr (.inr (.inr (rfl)))))))))))⟩
def BadN (tx : Str) : Prop := tx = (Str.ofString "") ∨ tx = (Str.ofString "1a") ∨ tx = (Str.ofString "a b") ∨ tx = (Str.ofString "-a") ∨ tx = (Str.ofString "aaaaaaaaaaaaaaaaaaaaaaaaaaaaaaa") ∨ tx = (Str.ofString "a_b")
theorem pick_name {j : Nat} {t0 t1 t2 t3 t4 t5 : Tok} {x : Value} (h : ([.str (Str.ofString "") t0, .str (Str.ofString "1a") t1, .str (Str.ofString "a b") t2, .str (Str.ofString "-a") t3, .str (Str.ofString "aaaaaaaaaaaaaaaaaaaaaaaaaaaaaaa") t4, .str (Str.ofString "a_b") t5] : List Value)[j]? = some x) : ∃ tx t, x = Value.str tx t ∧ BadN tx := by
  have hj : j < 6 := (List.getElem?_eq_some_iff.mp h).1
  rcases (by omega : j = 0 ∨ j = 1 ∨ j = 2 ∨ j = 3 ∨ j = 4 ∨ j = 5) with rfl | rfl | rfl | rfl | rfl | rfl
  · exact ⟨_, _, (Option.some.inj h).symm, .inl (rfl)⟩
  · exact ⟨_, _, (Option.some.inj h).symm, .inr (.inl (rfl))⟩
  · exact ⟨_, _, (Option.some.inj h).symm, .inr (.inr (.inl (rfl)))⟩
  · exact ⟨_, _, (Option.some.inj h).symm, .inr (.inr (.inr (.inl (rfl))))⟩
  · exact ⟨_, _, (Option.some.inj h).symm, .inr (.inr (.inr (.inr (.inl (rfl)))))⟩
  · exact ⟨_, _, (Option.some.inj h).symm, .inr (.inr (.inr (.inr (.inr (rfl)))))⟩
theorem pick_whole {j : Nat} {t0 t1 t2 t3 t4 : Tok} {x : Value} (h : ([.str (Str.ofString "") t0, .str (Str.ofString "x") t1, .str (Str.ofString "1111111111") t2, .str (Str.ofString "1.0") t3, .str (Str.ofString "--1") t4] : List Value)[j]? = some x) : ∃ tx t, x = Value.str tx t ∧ BadW tx := by
  have hj : j < 5 := (List.getElem?_eq_some_iff.mp h).1
  rcases (by omega : j = 0 ∨ j = 1 ∨ j = 2 ∨ j = 3 ∨ j = 4) with rfl | rfl | rfl | rfl | rfl
  · exact ⟨_, _, (Option.some.inj h).symm, .inl (rfl)⟩
  · exact ⟨_, _, (Option.some.inj h).symm, .inr (.inl (rfl))⟩
  · exact ⟨_, _, (Option.some.inj h).symm, .inr (.inr (.inl (rfl)))⟩
  · exact ⟨_, _, (Option.some.inj h).symm, .inr (.inr (.inr (.inl (rfl))))⟩
  · exact ⟨_, _, (Option.some.inj h).symm, .inr (.inr (.inr (.inr (rfl))))⟩
theorem news_bad {h₀ h : Heap} {L : Addr} {l : List (Addr × Obj)} {x : Value} (_N : News h₀ L h l) (b : BadF l x) : BadF l x := b
theorem words_end {h₀ h : Heap} {L lw I : Addr} {o : Obj} {ws : List Value} {n : Nat} {v : Value} {C : List (Addr × Obj)} (N : News h₀ L h ((I, o) :: (lw, listOf (ws.toArray.push v) n) :: C)) : News h₀ L h ((I, o) :: (lw, listOf (ws ++ [v]).toArray n) :: C) := by
  rw [List.push_toArray] at N; exact N
theorem words_end2 {h₀ h : Heap} {L lw I : Addr} {o : Obj} {ws : List Value} {n : Nat} {v : Value} {C l : List (Addr × Obj)} (N : News h₀ L h l) (m1 : (I, o) ∈ l) (m2 : (lw, listOf (ws.toArray.push v) n) ∈ l) (m3 : ∀ p ∈ C, p ∈ l) : News h₀ L h ((I, o) :: (lw, listOf (ws ++ [v]).toArray n) :: C) :=
  words_end (fcons (N _ m1) (fcons (N _ m2) (fun p hp => N p (m3 p hp))))
theorem snoc_str {ws : List Value} {x : Str} {u : Tok} (h : ∀ v ∈ ws, ∃ t, v = Value.str x t) : ∀ v ∈ ws ++ [Value.str x u], ∃ t, v = Value.str x t := List.forall_mem_append.mpr ⟨h, fcons (⟨_, rfl⟩) (List.forall_mem_nil _)⟩
theorem name_bad {w : World} {p : Program} {loose : List Str} {mean : ExcName → Option Value} {mg mb : Str → Option Value} {dp un : Nat} {gd : Option (List Code)} {cn : Str} {cs : Scope} {a : Addr} {ccd : Value} {cl : List (Str × Addr)} {outer : List Env} {A₀ : Around} {base h₀ : Heap} {L : Addr} {m : Str → Option Value} {news : List (Addr × Obj)} {s : Shared} {Q E : Value → Shared → Prop} {tx : Str} {t4 : Tok}
    (B : Below A₀ base outer h₀) (F : Fr h₀ L s.heap m) (X : (HD.K w.params).In h₀) (N : News h₀ L s.heap news) (T : Top p loose mean mg mb h₀) (hk : cs.kind = .function) (hb : BadN tx) (hd : dp + 8 < recursionLimit) (hu : un + 150 < cLine)
    (hE : ∀ (T9 : Str) (g : Heap) (e t : Addr) (u : Tok) (h' : Heap) (tk' : Nat), Fr h₀ L g m → g.UpToSlots h' → RaisedK base (envX cn cs L a ccd cl :: outer) e (.ref 24) t [.str T9 u] news h' → E (.ref e) { s with heap := h', toks := tk' }) :
    wpAny (model PySem.Challenge.rw_ui0509_08.row.prog w) (ktrTop dp un gd cn cs L a ccd cl outer) (call (.ref 53) [.str tx t4]) Q E s := by
  rcases hb with rfl | rfl | rfl | rfl | rfl | rfl
  · exact name_0 B F X N T hk hd hu hE
  · exact name_1a B F X N T hk hd hu hE
  · exact name_ab B F X N T hk hd hu hE
  · exact name_da B F X N T hk hd hu hE
  · exact name_long B F X N T hk (by decide +kernel) (by decide +kernel) (by decide +kernel) hd hu hE
  · exact name_ub B F X N T hk hd hu hE
theorem need_bad {w : World} {p : Program} {loose : List Str} {mean : ExcName → Option Value} {mg mb : Str → Option Value} {dp un : Nat} {gd : Option (List Code)} {cn : Str} {cs : Scope} {a : Addr} {ccd : Value} {cl : List (Str × Addr)} {outer : List Env} {A₀ : Around} {base h₀ : Heap} {L : Addr} {m : Str → Option Value} {news : List (Addr × Obj)} {s : Shared} {Q E : Value → Shared → Prop} {D2 : Addr} {x : Value} {t2 t2' : Tok} {c2 : Nat}
    (B : Below A₀ base outer h₀) (F : Fr h₀ L s.heap m) (X : (HD.K w.params).In h₀) (N : News h₀ L s.heap news) (T : Top p loose mean mg mb h₀) (hk : cs.kind = .function) (hb : BadF news x) (e2 : (D2, T2 0 1 t2 t2' c2) ∈ news) (hd : dp + 8 < recursionLimit) (hu : un + 200 < cLine)
    (hE : ∀ (T9 : Str) (g : Heap) (e t : Addr) (u : Tok) (h' : Heap) (tk' : Nat), Fr h₀ L g m → g.UpToSlots h' → RaisedK base (envX cn cs L a ccd cl :: outer) e (.ref 24) t [.str T9 u] news h' → E (.ref e) { s with heap := h', toks := tk' }) :
    wpAny (model PySem.Challenge.rw_ui0509_08.row.prog w) (ktrTop dp un gd cn cs L a ccd cl outer) (call (.ref 77) [x, .ref D2]) Q E s := by
  rcases hb with ⟨t, rfl⟩ | ⟨D, t, t', c, rfl, m⟩ | ⟨D, t1, t3, t4, c, rfl, m⟩ | ⟨D, t, t', c, rfl, m⟩
  · exact need_5 B F X N T hk hd hu hE
  · exact need_24 B F X N T hk m hd hu hE
  · exact need_3 B F X N T hk m hd hu hE
  · rw [t2_third] at m
    exact need_13 B F X N T hk m e2 hd hu hE
theorem num_bad {w : World} {p : Program} {loose : List Str} {mean : ExcName → Option Value} {mg mb : Str → Option Value} {dp un : Nat} {gd : Option (List Code)} {cn : Str} {cs : Scope} {a : Addr} {ccd : Value} {cl : List (Str × Addr)} {outer : List Env} {A₀ : Around} {base h₀ : Heap} {L : Addr} {m : Str → Option Value} {news : List (Addr × Obj)} {s : Shared} {Q E : Value → Shared → Prop} {x : Value} {t5 t6 t7 : Tok}
    (B : Below A₀ base outer h₀) (F : Fr h₀ L s.heap m) (X : (HD.K w.params).In h₀) (N : News h₀ L s.heap news) (T : Top p loose mean mg mb h₀) (hk : cs.kind = .function) (hb : BadM x) (hd : dp + 8 < recursionLimit) (hu : un + 150 < cLine)
    (hE : ∀ (T9 : Str) (g : Heap) (e t : Addr) (u : Tok) (h' : Heap) (tk' : Nat), Fr h₀ L g m → g.UpToSlots h' → RaisedK base (envX cn cs L a ccd cl :: outer) e (.ref 24) t [.str T9 u] news h' → E (.ref e) { s with heap := h', toks := tk' }) :
    wpAny (model PySem.Challenge.rw_ui0509_08.row.prog w) (ktrTop dp un gd cn cs L a ccd cl outer) (call (.ref 34) [x, .int 0 t5, .int 100 t6, .str (Str.ofString "number") t7]) Q E s := by
  rcases hb with rfl | ⟨t, rfl⟩ | ⟨t, rfl⟩ | ⟨t, rfl⟩
  · exact num_b (t4 := t5) B F X N T hk hd hu hE
  · exact num_s B F X N T hk hd hu hE
  · exact num_h B F X N T hk hd hu hE
  · exact num_m B F X N T hk hd hu hE
end
end Mine
open Mine
local macro_rules | `(tactic| walk_at "i18") => `(tactic| (intro v' v0' v1' vE'))
namespace Mine
section
theorem y_len {n : Int} (h : n ≤ 3000) : (Txt.mul (Str.ofString "y") n).length ≤ 3000 := len_mul_one (c := 121) (by decide +kernel) h
section
theorem words22 : True := by
  k_with_none
  k_with "ne9" => (refine neN ?_; (try dsimp only); first | with_reducible assumption | exact Ne.symm (by with_reducible assumption) | exact pj0 (by with_reducible assumption) | exact pj1 (by with_reducible assumption) | exact pj2 (by with_reducible assumption) | exact pj3 (by with_reducible assumption) | exact pj4 (by with_reducible assumption) | exact pj5 (by with_reducible assumption) | exact pj6 (by with_reducible assumption) | exact pj7 (by with_reducible assumption) | exact pj8 (by with_reducible assumption) | exact pj9 (by with_reducible assumption) | exact pj10 (by with_reducible assumption) | exact pj11 (by with_reducible assumption) | exact Ne.symm (pj0 (by with_reducible assumption)) | exact Ne.symm (pj1 (by with_reducible assumption)) | exact Ne.symm (pj2 (by with_reducible assumption)) | exact Ne.symm (pj3 (by with_reducible assumption)) | exact Ne.symm (pj4 (by with_reducible assumption)) | exact Ne.symm (pj5 (by with_reducible assumption)) | exact Ne.symm (pj6 (by with_reducible assumption)) | exact Ne.symm (pj7 (by with_reducible assumption)) | exact Ne.symm (pj8 (by with_reducible assumption)) | exact Ne.symm (pj9 (by with_reducible assumption)) | exact Ne.symm (pj10 (by with_reducible assumption)) | exact Ne.symm (pj11 (by with_reducible assumption)) | exact ad1 | exact ad2 | exact ad3 | exact ad4 | exact ad5 | exact ad6 | exact ad7 | exact ad8 | exact Ne.symm ad1 | exact Ne.symm ad2 | exact Ne.symm ad3 | exact Ne.symm ad4 | exact Ne.symm ad5 | exact Ne.symm ad6 | exact Ne.symm ad7 | exact Ne.symm ad8 | exact Nat.ne_of_lt (by with_reducible assumption) | exact Nat.ne_of_gt (by with_reducible assumption) | exact Nat.ne_of_lt (pj0 (by with_reducible assumption)) | exact Nat.ne_of_lt (pj1 (by with_reducible assumption)) | exact Nat.ne_of_lt (pj2 (by with_reducible assumption)) | exact Nat.ne_of_lt (pj3 (by with_reducible assumption)) | exact Nat.ne_of_lt (pj4 (by with_reducible assumption)) | exact Nat.ne_of_lt (pj5 (by with_reducible assumption)) | exact Nat.ne_of_lt (pj6 (by with_reducible assumption)) | exact Nat.ne_of_lt (pj7 (by with_reducible assumption)) | exact Nat.ne_of_lt (pj8 (by with_reducible assumption)) | exact Nat.ne_of_lt (pj9 (by with_reducible assumption)) | exact Nat.ne_of_lt (pj10 (by with_reducible assumption)) | exact Nat.ne_of_lt (pj11 (by with_reducible assumption)) | exact Nat.ne_of_gt (pj0 (by with_reducible assumption)) | exact Nat.ne_of_gt (pj1 (by with_reducible assumption)) | exact Nat.ne_of_gt (pj2 (by with_reducible assumption)) | exact Nat.ne_of_gt (pj3 (by with_reducible assumption)) | exact Nat.ne_of_gt (pj4 (by with_reducible assumption)) | exact Nat.ne_of_gt (pj5 (by with_reducible assumption)) | exact Nat.ne_of_gt (pj6 (by with_reducible assumption)) | exact Nat.ne_of_gt (pj7 (by with_reducible assumption)) | exact Nat.ne_of_gt (pj8 (by with_reducible assumption)) | exact Nat.ne_of_gt (pj9 (by with_reducible assumption)) | exact Nat.ne_of_gt (pj10 (by with_reducible assumption)) | exact Nat.ne_of_gt (pj11 (by with_reducible assumption)) | omega)
  k_with "k_ne" => (walk_at "ne9")
  k_with "k_in" => (refine' in_of ?z92fF ?z92fX; (case z92fF => k_asm); (case z92fX => k_asm))
  k_with "eval Name" => (k_here; k_dflt (refine' nameX_L ?z93k1 ?z93k2 ?_ ?z93k3 ?z93k4; (case z93k3 => rfl); (case z93k4 => rfl); (case z93k1 => k_asm); (case z93k2 => first | exact rfl | assumption); k_whole))
  k_with "hat9" => (first | exact News.get (by k_asm) (by k_mem) | exact Fr.keep (by k_asm) _ _ (by with_reducible assumption) | exact Tk.get (by k_asm) (by k_asm) (by with_reducible assumption) (by intro p9 hp9; first | exact hp9 | exact absurd hp9 List.not_mem_nil | (repeat (first | exact hp9 | refine List.mem_cons_of_mem _ ?_))) | exact Frag.In.keeps (by k_asm) (Fr.keep (by k_asm)) _ _ (by k_is))
  k_with "bits_by_make" => (with_reducible assumption)
  k_with "ktr_units" => ((try simp only [units_under_make, units_in1, units_deeper, Around.mark_units, units_caller]); (try dsimp only [ktrTop]); first | exact un1 (by with_reducible assumption) (Nat.le_of_ble_eq_true rfl) | exact un2 (by with_reducible assumption) (Nat.le_of_ble_eq_true rfl) | exact un3 (by with_reducible assumption) (Nat.le_of_ble_eq_true rfl) | (have hcL9 := cLine_is; omega))
  k_with "binaryOp Mod int int" => (k_here; (with_reducible refine mod_gen ?z94mp ?_); (case z94mp => decide); walk_at "i18")
  k_with "call ref" => (k_here; (with_reducible show wpAny _ _ (call (Value.ref 41) [Value.str _ _]) _ _ _); k_dflt (refine' shown_s ?z95k1 ?z95k2 ?z95k3 ?z95k4 ?z95k5 ?z95k6 ?z95hT ?z95k7 ?z95k8 ?_; (case z95k1 => k_asm); (case z95k2 => k_asm); (case z95k3 => k_asm); (case z95k4 => k_asm); (case z95k5 => k_asm); (case z95k6 => first | exact rfl | assumption); (case z95k7 => first | exact Nat.le_of_ble_eq_true rfl | ktr_room); (case z95k8 => first | exact Nat.le_of_ble_eq_true rfl | ktr_units); (case z95hT => first | exact y_len (by omega) | omega | decide +kernel); k_whole); walk_at "i9"; (try k_sweep))
  k_with "compareOp Eq str str" => (k_here; (with_reducible show wpAny _ _ (compareOp CmpOp.Eq (Value.str (shF _) _) (Value.str _ _)) _ _ _); (refine eq_sb (b := true) (by rw [y_shown (by omega)]; exact beq_self_eq_true _) ?_))
  trivial
theorem lawF {w0 : World} {p : Program} {loose : List Str} {mean : ExcName → Option Value} {mg mb : Str → Option Value} {fa L : Addr} {cc : Value} {h₀ : Heap} {Q : Flow → Shared → Prop} {EX : Value → Shared → Prop} {m : Str → Option Value} {s : Shared} {o1 o2 o3 o4 : Obj} {l0 : Addr} {vs0 : List Value} {ns0 : List Int} {R : List (Addr × Obj)}
    (K0 : Below callerA h₀ [] h₀) (KX : (HD.K w0.params).In h₀) (T : Top p loose mean mg mb h₀) (F : Fr h₀ L s.heap m) (N : News h₀ L s.heap ((L + 1, o1) :: R))
    (q1 : o1.data = .cell (some (.ref l0))) (hL0 : h₀.IsList l0 vs0.toArray) (hI0 : IntsAre vs0 ns0) (hns0 : ns0.length ≤ 63) 
    
    (hE : PassesOwn (model PySem.Challenge.rw_ui0509_08.row.prog w0) (callerA.deeper (envOfC HD.dH.name HD.dH.scope L fa cc)) (envOfC HD.dH.name HD.dH.scope L fa cc) EX)
    (hend : ∀ (h' : Heap) (tk' : Nat) (m' : Str → Option Value), Fr h₀ L h' m' → Q (.ret (.bool true)) { s with heap := h', toks := tk' }) :
    wpAny (model PySem.Challenge.rw_ui0509_08.row.prog w0) (callerA.deeper (envOfC HD.dH.name HD.dH.scope L fa cc)) (execs (HD.fb29.1.drop 23) (envOfC HD.dH.name HD.dH.scope L fa cc)) Q EX s := by
  w_top off
  revert KX; k_fill; intro KX
  dsimp only [HD.dH, HD.fb29, HD.fs29, List.drop_succ_cons, List.drop_zero]
  k_steps
  all_goals exact hend _ _ _ (by assumption)
end
end
section
-- the ledger as what is told
abbrev Led (led : List (Addr × Obj)) (a : Addr) (o : Obj) : Prop := (a, o) ∈ led
theorem ratL {led : List (Addr × Obj)} {D : Addr} {x : Int} {t t' : Tok} {c : Nat} (h : (D, T2 x 1 t t' c) ∈ led) : RatN (Led led) (.ref D) (x : Rat) := ⟨D, t, t', c, rfl, h⟩
theorem ratR {led : List (Addr × Obj)} {D : Addr} {r : Rat} {t t' : Tok} {c : Nat} (h : (D, RatO r t t' c) ∈ led) : RatN (Led led) (.ref D) r := ⟨D, t, t', c, rfl, h⟩
theorem ledG {h₀ h : Heap} {L : Addr} {led all : List (Addr × Obj)} (N : News h₀ L h all) (hs : ∀ p ∈ led, p ∈ all) : ∀ a o, Led led a o → h.get? a = some o := fun _ _ e => N.get (hs _ e)
-- the law's tables of whole numbers
theorem off3_mem {I C D : Addr} : ∀ {l : List (Addr × Obj)}, LCg.Off3 I C D l → ∀ p ∈ l, (@Ne Nat p.1 I) ∧ (@Ne Nat p.1 C) ∧ (@Ne Nat p.1 D)
  | [], _, _, h => nomatch h
  | _ :: _, x, p, h => by
    rcases List.mem_cons.mp h with rfl | h
    · exact x.1
    · exact off3_mem x.2 p h
def OffL (L q : Nat) : Prop := q ≠ L + 1 ∧ q ≠ L + 1 + 1 ∧ q ≠ L + 1 + 1 + 1 ∧ q ≠ L + 1 + 1 + 1 + 1
def castL (z : List Int) : List Rat := z.map fun x : Int => (x : Rat)
def IntV (v : Value) (d : Int) : Prop := ∃ t, v = .int d t
def IntsN (P : Addr → Obj → Prop) (v : Value) (z : List Int) : Prop := ∃ l vs n, v = .ref l ∧ P l (listOf vs.toArray n) ∧ All2 IntV vs z
theorem IntsN.mono {P P' : Addr → Obj → Prop} (hs : ∀ a o, P a o → P' a o) {v : Value} {z : List Int} (x : IntsN P v z) : IntsN P' v z := let ⟨l, vs, n, e, k, a⟩ := x; ⟨l, vs, n, e, hs _ _ k, a⟩
theorem castL_snoc (z : List Int) (x : Int) : castL (z ++ [x]) = castL z ++ [(x : Rat)] := by unfold castL; rw [List.map_append]; rfl
theorem led_mono {l l' : List (Addr × Obj)} (h : ∀ p ∈ l, p ∈ l') : ∀ a o, Led l a o → Led l' a o := fun _ _ e => h _ e
def Small (z : List Int) : Prop := ∀ x ∈ z, -9 ≤ x ∧ x ≤ 9
theorem small_snoc {z : List Int} {x : Int} (h : Small z) (a : -9 ≤ x) (b : x ≤ 9) : Small (z ++ [x]) := List.forall_mem_append.mpr ⟨h, fcons (⟨a, b⟩) (List.forall_mem_nil _)⟩
theorem mem4 {a b c d : Addr × Obj} {l : List (Addr × Obj)} {p : Addr × Obj} (h : p ∈ l) : p ∈ a :: b :: c :: d :: l := List.mem_cons_of_mem _ (List.mem_cons_of_mem _ (List.mem_cons_of_mem _ (List.mem_cons_of_mem _ h)))
theorem bits4 {x : Int} (a : -9 ≤ x) (b : x ≤ 9) : Builtin.Int.intBits x ≤ 4 := by
  have h : ∀ k : Nat, k ≤ 18 → Builtin.Int.intBits ((k : Int) - 9) ≤ 4 := by decide
  have e := h (x + 9).toNat (by omega)
  rwa [show (((x + 9).toNat : Nat) : Int) - 9 = x by omega] at e
theorem bd4 {x : Int} (a : -9 ≤ x) (b : x ≤ 9) : Bd 4 (x : Rat) := Bd.int (bits4 a b) (by decide)
theorem sub_at4 {a1 a2 a3 a4 d : Addr × Obj} {l : List (Addr × Obj)} : ∀ p ∈ a1 :: a2 :: a3 :: a4 :: d :: l, p ∈ d :: a1 :: a2 :: a3 :: a4 :: l := by
  intro p hp; simp only [List.mem_cons] at hp ⊢; rcases hp with h | h | h | h | h | h <;> simp [h]
theorem sub_at7 {a1 a2 a3 a4 a5 a6 a7 d : Addr × Obj} {l : List (Addr × Obj)} : ∀ p ∈ a1 :: a2 :: a3 :: a4 :: a5 :: a6 :: a7 :: d :: l, p ∈ d :: a1 :: a2 :: a3 :: a4 :: a5 :: a6 :: a7 :: l := by
  intro p hp; simp only [List.mem_cons] at hp ⊢; rcases hp with h | h | h | h | h | h | h | h | h <;> simp [h]
theorem sub_at8 {a1 a2 a3 a4 a5 a6 a7 a8 d : Addr × Obj} {l : List (Addr × Obj)} : ∀ p ∈ a1 :: a2 :: a3 :: a4 :: a5 :: a6 :: a7 :: a8 :: d :: l, p ∈ d :: a1 :: a2 :: a3 :: a4 :: a5 :: a6 :: a7 :: a8 :: l := by
  intro p hp; simp only [List.mem_cons] at hp ⊢; rcases hp with h | h | h | h | h | h | h | h | h | h <;> simp [h]
theorem sub_at11 {a1 a2 a3 a4 a5 a6 a7 a8 a9 a10 a11 d : Addr × Obj} {l : List (Addr × Obj)} : ∀ p ∈ a1 :: a2 :: a3 :: a4 :: a5 :: a6 :: a7 :: a8 :: a9 :: a10 :: a11 :: d :: l, p ∈ d :: a1 :: a2 :: a3 :: a4 :: a5 :: a6 :: a7 :: a8 :: a9 :: a10 :: a11 :: l := by
  intro p hp; simp only [List.mem_cons] at hp ⊢; rcases hp with h | h | h | h | h | h | h | h | h | h | h | h | h <;> simp [h]
theorem off3_ins4 {I C D : Addr} {a1 a2 a3 a4 d : Addr × Obj} {l : List (Addr × Obj)} (h : LCg.Off3 I C D (a1 :: a2 :: a3 :: a4 :: l)) (x : d.1 ≠ I) (y : d.1 ≠ C) (z : d.1 ≠ D) : LCg.Off3 I C D (a1 :: a2 :: a3 :: a4 :: d :: l) := LCg.Off3.of fun p hp => by
  rcases List.mem_cons.mp (sub_at4 p hp) with rfl | hp
  · exact ⟨x, y, z⟩
  · exact off3_mem h p hp
theorem off3_ins8 {I C D : Addr} {a1 a2 a3 a4 a5 a6 a7 a8 d : Addr × Obj} {l : List (Addr × Obj)} (h : LCg.Off3 I C D (a1 :: a2 :: a3 :: a4 :: a5 :: a6 :: a7 :: a8 :: l)) (x : d.1 ≠ I) (y : d.1 ≠ C) (z : d.1 ≠ D) : LCg.Off3 I C D (a1 :: a2 :: a3 :: a4 :: a5 :: a6 :: a7 :: a8 :: d :: l) := LCg.Off3.of fun p hp => by
  rcases List.mem_cons.mp (sub_at8 p hp) with rfl | hp
  · exact ⟨x, y, z⟩
  · exact off3_mem h p hp
theorem offL_of {L : Addr} {l : List (Addr × Obj)} {D : Addr} (h : ∀ p ∈ l, p.1 < D) {o1 o2 o3 o4 : Obj} (m1 : (L + 1, o1) ∈ l) (m2 : (L + 1 + 1, o2) ∈ l) (m3 : (L + 1 + 1 + 1, o3) ∈ l) (m4 : (L + 1 + 1 + 1 + 1, o4) ∈ l) : OffL L D :=
  ⟨Nat.ne_of_gt (h _ m1), Nat.ne_of_gt (h _ m2), Nat.ne_of_gt (h _ m3), Nat.ne_of_gt (h _ m4)⟩
theorem offL_cons {L : Addr} {d : Addr × Obj} {l : List (Addr × Obj)} (h : OffL L d.1) (k : ∀ p ∈ l, OffL L p.1) : ∀ p ∈ d :: l, OffL L p.1 := fcons h k
theorem ngt {l : List (Addr × Obj)} {D a : Addr} {o : Obj} (h : ∀ p ∈ l, p.1 < D) (m : (a, o) ∈ l) : D ≠ a := Nat.ne_of_gt (h _ m)
theorem nsy {l : List (Addr × Obj)} {D a : Addr} {o : Obj} (h : ∀ p ∈ l, p.1 ≠ D) (m : (a, o) ∈ l) : D ≠ a := (h _ m).symm
theorem offL_ne {L : Addr} {l : List (Addr × Obj)} {D : Addr} (h : ∀ p ∈ l, p.1 ≠ D) {o1 o2 o3 o4 : Obj} (m1 : (L + 1, o1) ∈ l) (m2 : (L + 1 + 1, o2) ∈ l) (m3 : (L + 1 + 1 + 1, o3) ∈ l) (m4 : (L + 1 + 1 + 1 + 1, o4) ∈ l) : OffL L D :=
  ⟨(h _ m1).symm, (h _ m2).symm, (h _ m3).symm, (h _ m4).symm⟩
theorem three_of {α : Type} {l : List α} (h : l.length = 3) : ∃ a b c, l = [a, b, c] := by
  match l, h with
  | [a, b, c], _ => exact ⟨a, b, c, rfl⟩
theorem castL_at {z : List Int} {j : Nat} {x : Rat} (h : (castL z)[j]? = some x) : ∃ y : Int, z[j]? = some y ∧ x = (y : Rat) := by
  unfold castL at h
  rw [List.getElem?_map] at h
  obtain ⟨y, hy, e⟩ := Option.map_eq_some_iff.mp h
  exact ⟨y, hy, e.symm⟩
theorem take_step {α : Type} {l : List α} {i : Nat} {x : α} (h : l[i]? = some x) : l.take (i + 1) = l.take i ++ [x] := by rw [List.take_add_one, h]; rfl
theorem small3 {a b c : Int} (h : Small [a, b, c]) : (-9 ≤ a ∧ a ≤ 9) ∧ (-9 ≤ b ∧ b ≤ 9) ∧ (-9 ≤ c ∧ c ≤ 9) := ⟨h a (by simp), h b (by simp), h c (by simp)⟩
theorem three_mem {α : Type} {P : α → Prop} {a b c : α} (x : P a) (y : P b) (z : P c) : ∀ r ∈ [a, b, c], P r := fcons x (fcons y (fcons z (List.forall_mem_nil _)))
theorem cast_bd {z : List Int} (h : Small z) : ∀ x ∈ castL z, Bd 4 x := fun x hx => by
  unfold castL at hx
  obtain ⟨y, hy, rfl⟩ := List.mem_map.mp hx
  exact bd4 (h y hy).1 (h y hy).2
theorem told_bd {Z : Mat} {n : Nat} {b : Nat} (h1 : 1 ≤ b) (h : ∀ r ∈ Z, ∀ x ∈ r, Bd b x) : ∀ y ∈ Z.map (fun r => r.getD n 0), Bd b y := fun y hy => by
  obtain ⟨r, hr, rfl⟩ := List.mem_map.mp hy
  rw [List.getD_eq_getElem?_getD]
  cases e : r[n]? with
  | none => exact Bd.zero h1
  | some q => exact h r hr q (List.mem_of_getElem? e)
theorem ne_add3 (L : Nat) : L + 1 + 1 + 1 + 1 ≠ L + 1 := by omega
theorem ne_add1 (L : Nat) : L + 1 + 1 ≠ L + 1 := by omega
def prods (z : List Int) (xs : List Rat) : List Rat := List.zipWith (fun (a : Int) (b : Rat) => (a : Rat) * b) z xs
theorem prods_at {z : List Int} {xs : List Rat} {j : Nat} {a : Int} {r : Rat} (h : z[j]? = some a) (k : xs[j]? = some r) : (prods z xs)[j]? = some ((a : Rat) * r) := by
  unfold prods; rw [List.getElem?_zipWith, h, k]
theorem tot3 (p q r : Rat) : tot [p, q, r] = p + q + r := by
  show ((0 : Rat) + p) + q + r = _
  rw [Rat.zero_add]
theorem sums {a0 a1 a2 a3 b0 b1 b2 b3 c0 c1 c2 c3 : Int} {x y z : Rat} {i : Nat} {zi : List Int} {si : Rat} (h1 : [[a0, a1, a2], [b0, b1, b2], [c0, c1, c2]][i]? = some zi) (h2 : (castL [a3, b3, c3])[i]? = some si)
    (hsol : Sol3 (a0 : Rat) a1 a2 a3 b0 b1 b2 b3 c0 c1 c2 c3 x y z) : tot (prods zi [x, y, z]) = si := by
  obtain ⟨s1, s2, s3⟩ := hsol
  have hi : i < 3 := (List.getElem?_eq_some_iff.mp h1).1
  rcases (by omega : i = 0 ∨ i = 1 ∨ i = 2) with rfl | rfl | rfl
  · obtain rfl := Option.some.inj h1; obtain rfl := Option.some.inj h2; exact (tot3 _ _ _).trans s1
  · obtain rfl := Option.some.inj h1; obtain rfl := Option.some.inj h2; exact (tot3 _ _ _).trans s2
  · obtain rfl := Option.some.inj h1; obtain rfl := Option.some.inj h2; exact (tot3 _ _ _).trans s3
theorem row_small {a0 a1 a2 b0 b1 b2 c0 c1 c2 : Int} {i : Nat} {zi : List Int} (h1 : [[a0, a1, a2], [b0, b1, b2], [c0, c1, c2]][i]? = some zi) (sa : Small [a0, a1, a2]) (sb : Small [b0, b1, b2]) (sc : Small [c0, c1, c2]) : zi.length = 3 ∧ Small zi := by
  have hi : i < 3 := (List.getElem?_eq_some_iff.mp h1).1
  rcases (by omega : i = 0 ∨ i = 1 ∨ i = 2) with rfl | rfl | rfl
  · obtain rfl := Option.some.inj h1; exact ⟨rfl, sa⟩
  · obtain rfl := Option.some.inj h1; exact ⟨rfl, sb⟩
  · obtain rfl := Option.some.inj h1; exact ⟨rfl, sc⟩
theorem ex_get {α : Type} {l : List α} {i : Nat} (h : i < l.length) : ∃ x, l[i]? = some x := ⟨l[i], List.getElem?_eq_getElem h⟩
theorem prods_len {z : List Int} {xs : List Rat} (h : z.length = 3) (k : xs.length = 3) : (prods z xs).length = 3 := by unfold prods; rw [List.length_zipWith, h, k]; rfl
theorem sub_at3 {a1 a2 a3 d : Addr × Obj} {l : List (Addr × Obj)} : ∀ p ∈ a1 :: a2 :: a3 :: d :: l, p ∈ d :: a1 :: a2 :: a3 :: l := by
  intro p hp; simp only [List.mem_cons] at hp ⊢; rcases hp with h | h | h | h | h <;> simp [h]
end
end Mine
open Mine
local macro_rules | `(tactic| walk_at "i19") => `(tactic| ((rename MarkW9 => mkS)))
namespace Mine
section
section
local macro_rules | `(tactic| k_lt $h:ident) => `(tactic| skip)
theorem words23 : True := by
  k_with_none
  k_with "ne9" => (refine neN ?_; (try dsimp only); first | with_reducible assumption | exact Ne.symm (by with_reducible assumption) | exact pj0 (by with_reducible assumption) | exact pj1 (by with_reducible assumption) | exact pj2 (by with_reducible assumption) | exact pj3 (by with_reducible assumption) | exact pj4 (by with_reducible assumption) | exact pj5 (by with_reducible assumption) | exact pj6 (by with_reducible assumption) | exact pj7 (by with_reducible assumption) | exact pj8 (by with_reducible assumption) | exact pj9 (by with_reducible assumption) | exact pj10 (by with_reducible assumption) | exact pj11 (by with_reducible assumption) | exact Ne.symm (pj0 (by with_reducible assumption)) | exact Ne.symm (pj1 (by with_reducible assumption)) | exact Ne.symm (pj2 (by with_reducible assumption)) | exact Ne.symm (pj3 (by with_reducible assumption)) | exact Ne.symm (pj4 (by with_reducible assumption)) | exact Ne.symm (pj5 (by with_reducible assumption)) | exact Ne.symm (pj6 (by with_reducible assumption)) | exact Ne.symm (pj7 (by with_reducible assumption)) | exact Ne.symm (pj8 (by with_reducible assumption)) | exact Ne.symm (pj9 (by with_reducible assumption)) | exact Ne.symm (pj10 (by with_reducible assumption)) | exact Ne.symm (pj11 (by with_reducible assumption)) | exact ad1 | exact ad2 | exact ad3 | exact ad4 | exact ad5 | exact ad6 | exact ad7 | exact ad8 | exact Ne.symm ad1 | exact Ne.symm ad2 | exact Ne.symm ad3 | exact Ne.symm ad4 | exact Ne.symm ad5 | exact Ne.symm ad6 | exact Ne.symm ad7 | exact Ne.symm ad8 | exact Nat.ne_of_lt (by with_reducible assumption) | exact Nat.ne_of_gt (by with_reducible assumption) | exact Nat.ne_of_lt (pj0 (by with_reducible assumption)) | exact Nat.ne_of_lt (pj1 (by with_reducible assumption)) | exact Nat.ne_of_lt (pj2 (by with_reducible assumption)) | exact Nat.ne_of_lt (pj3 (by with_reducible assumption)) | exact Nat.ne_of_lt (pj4 (by with_reducible assumption)) | exact Nat.ne_of_lt (pj5 (by with_reducible assumption)) | exact Nat.ne_of_lt (pj6 (by with_reducible assumption)) | exact Nat.ne_of_lt (pj7 (by with_reducible assumption)) | exact Nat.ne_of_lt (pj8 (by with_reducible assumption)) | exact Nat.ne_of_lt (pj9 (by with_reducible assumption)) | exact Nat.ne_of_lt (pj10 (by with_reducible assumption)) | exact Nat.ne_of_lt (pj11 (by with_reducible assumption)) | exact Nat.ne_of_gt (pj0 (by with_reducible assumption)) | exact Nat.ne_of_gt (pj1 (by with_reducible assumption)) | exact Nat.ne_of_gt (pj2 (by with_reducible assumption)) | exact Nat.ne_of_gt (pj3 (by with_reducible assumption)) | exact Nat.ne_of_gt (pj4 (by with_reducible assumption)) | exact Nat.ne_of_gt (pj5 (by with_reducible assumption)) | exact Nat.ne_of_gt (pj6 (by with_reducible assumption)) | exact Nat.ne_of_gt (pj7 (by with_reducible assumption)) | exact Nat.ne_of_gt (pj8 (by with_reducible assumption)) | exact Nat.ne_of_gt (pj9 (by with_reducible assumption)) | exact Nat.ne_of_gt (pj10 (by with_reducible assumption)) | exact Nat.ne_of_gt (pj11 (by with_reducible assumption)) | omega)
  k_with "k_ne" => (walk_at "ne9")
  k_with "k_in" => (refine' in_of ?z97fF ?z97fX; (case z97fF => k_asm); (case z97fX => k_asm))
  k_with "eval Name" => (k_here; k_dflt (refine' nameX_L ?z98k1 ?z98k2 ?_ ?z98k3 ?z98k4; (case z98k3 => rfl); (case z98k4 => rfl); (case z98k1 => k_asm); (case z98k2 => first | exact rfl | assumption); k_whole))
  k_with "size_fits" => ((simp only [List.size_toArray]); rw [sizeLine_eq]; omega)
  k_with "bits_by_make" => (first | with_reducible assumption | exact bits64 (by omega) (by omega))
  k_with "execs cons" => (walk_at "i19"; refine Hold.out ?_)
  k_with "eval ListComp" => (k_here; k_dflt (refine LCg.ListComp_U (F₀ := by k_asm) (by with_unfolding_all rfl) (by decide) (by rfl) (by decide) (by rfl) ?_))
  k_with "k_mem" => (first | with_reducible assumption | (refine List.mem_append_left _ ?_; with_reducible assumption) | (refine List.mem_cons_of_mem _ ?_; k_mem))
  k_with "k_all" => (first | with_reducible assumption | (refine' fcons (?z99a) (?z99b); (case z99a => k_ne); (case z99b => k_all)))
  k_with "subscriptTail" => (k_here; (with_reducible show wpAny _ _ (subscriptTail _ _ (Value.ref _) (Value.int _ _)) _ _ _); k_dflt (refine' kim_list ?z100k1 ?z100k2 ?z100k3 ?z100k4 ?z100k5 ?z100k6 ?z100k7 ?_ ?z100k8 ?z100k9; (case z100k1 => k_asm); (case z100k2 => k_mem); (case z100k3 => exact rfl); (case z100k4 => exact rfl); (case z100k5 => omega); (case z100k6 => omega); (case z100k7 => with_reducible assumption); (case z100k8 => with_unfolding_all rfl); (case z100k9 => (intro _; with_unfolding_all rfl)); k_whole))
  k_with "hat9" => (first | exact News.get (by k_asm) (by k_mem) | exact Fr.keep (by k_asm) _ _ (by with_reducible assumption) | exact Tk.get (by k_asm) (by k_asm) (by with_reducible assumption) (by intro p9 hp9; first | exact hp9 | exact absurd hp9 List.not_mem_nil | (repeat (first | exact hp9 | refine List.mem_cons_of_mem _ ?_))) | exact Frag.In.keeps (by k_asm) (Fr.keep (by k_asm)) _ _ (by k_is))
  k_with "ktr_units" => ((try simp only [units_under_make, units_in1, units_deeper, Around.mark_units, units_caller]); (try dsimp only [ktrTop]); first | exact un1 (by with_reducible assumption) (Nat.le_of_ble_eq_true rfl) | exact un2 (by with_reducible assumption) (Nat.le_of_ble_eq_true rfl) | exact un3 (by with_reducible assumption) (Nat.le_of_ble_eq_true rfl) | (have hcL9 := cLine_is; omega))
  k_with "call ref" => (k_here; (with_reducible show wpAny _ _ (call (Value.ref 98) [Value.ref _, Value.ref _]) _ _ _); k_dflt (refine' times_r ?z101k1 ?z101k2 ?z101k3 ?z101k4 ?z101k5 ?z101k6 ?z101m1 ?z101m2 ?z101k7 ?z101k8 ?z101b1 ?z101b2 ?z101hb ?_; (case z101k1 => k_asm); (case z101k2 => k_asm); (case z101k3 => k_asm); (case z101k4 => k_asm); (case z101k5 => k_asm); (case z101k6 => first | exact rfl | assumption); (case z101k7 => first | exact Nat.le_of_ble_eq_true rfl | ktr_room); (case z101k8 => first | exact Nat.le_of_ble_eq_true rfl | ktr_units); (case z101m1 => (walk_at "hat9")); (case z101m2 => (walk_at "hat9")); (case z101b1 => with_reducible assumption); (case z101b2 => with_reducible assumption); (case z101hb => first | assumption | omega | decide); k_whole); walk_at "i15"; (try k_sweep))
  k_with "exec For" => (k_here; walk_at "i11")
  k_with "exec For Name Name cons nil" => (k_here; walk_at "i11")
  k_with "exec For Name Call cons nil" => (k_here; walk_at "i11")
  k_with "exec For Tuple Name cons nil" => (k_here; walk_at "i11")
  k_with "exec For Tuple Call cons nil" => (k_here; walk_at "i11")
  k_with "exec For Name Attribute cons nil" => (k_here; walk_at "i11")
  k_with "exec For Tuple Attribute cons nil" => (k_here; walk_at "i11")
  k_with "exec For Tuple Subscript cons nil" => (k_here; walk_at "i11")
  k_with "pyIter ref" => ((with_reducible show wpAny _ _ (pyIter (Value.ref _)) (fun it s₂ => TurnsAt _ _ _ _ _ _ _ _ _ it s₂) _ _); refine Hold.out ?_)
  k_with "UnrPostW" => (dsimp only [UnrPostW])
  k_with "UnrEndW" => (refine Hold.out ?_)
  k_with "compareOp Eq ref ref" => (k_here; (with_reducible show wpAny _ _ (compareOp CmpOp.Eq (Value.ref _) (Value.ref _)) _ _ _); refine Hold.out ?_)
  k_with "compareOp NotEq ref ref" => (k_here; (with_reducible show wpAny _ _ (compareOp CmpOp.NotEq (Value.ref _) (Value.ref _)) _ _ _); refine Hold.out ?_)
  k_with "compareOp Eq str str" => (k_here; (with_reducible show wpAny _ _ (compareOp CmpOp.Eq (Value.str _ _) (Value.str _ _)) _ _ _); first | (refine eq_sb (b := true) (by first | with_reducible assumption | decide +kernel) ?_) | (refine eq_sb (b := false) (by first | with_reducible assumption | decide +kernel) ?_))
  k_with "compareOp NotEq str str" => (k_here; (with_reducible show wpAny _ _ (compareOp CmpOp.NotEq (Value.str _ _) (Value.str _ _)) _ _ _); first | (refine ne_sb (b := true) (by first | with_reducible assumption | decide +kernel) ?_) | (refine ne_sb (b := false) (by first | with_reducible assumption | decide +kernel) ?_))
  k_with "CompSrc" => (refine Hold.out ?_)
  k_with "CompEnd" => (show LCg.CompEnd _ _ _ _ _ _ _ _ _ _ _ _ _ _; refine Hold.out ?_)
  k_with "call ref" => (k_here; (with_reducible show wpAny _ _ (call (Value.ref 147) _) _ _ _); refine Hold.out ?_)
  trivial
theorem lawT {w0 : World} {p : Program} {loose : List Str} {mean : ExcName → Option Value} {mg mb : Str → Option Value} {fa L : Addr} {cc : Value} {h₀ : Heap} {Q : Flow → Shared → Prop} {EX : Value → Shared → Prop} {m : Str → Option Value} {s : Shared} {o1 o2 o3 o4 : Obj} {l0 : Addr} {vs0 : List Value} {ns0 : List Int} {D D2 : Addr} {ys ys2 : List Value} {nD nD2 : Nat} {tl : List (Addr × Obj)} {a0 a1 a2 a3 b0 b1 b2 b3 c0 c1 c2 c3 : Int} {tt : Tok} {lz : Addr} {lv : List Value} {nz : Nat} {x y z : Rat} {t0 : Tok}
    (K0 : Below callerA h₀ [] h₀) (KX : (HD.K w0.params).In h₀) (T : Top p loose mean mg mb h₀) (F : Fr h₀ L s.heap m) (N : News h₀ L s.heap ((L + 1 + 1 + 1 + 1, o4) :: (L + 1 + 1 + 1, o3) :: (L + 1 + 1, o2) :: (L + 1, o1) :: tl))
    (q1 : o1.data = .cell (some (.ref l0))) (hL0 : h₀.IsList l0 vs0.toArray) (hI0 : IntsAre vs0 ns0) (hns0 : ns0.length ≤ 63) (q2 : o2.data = .cell none) (q3 : o3.data = .cell (some (.ref D))) (q4 : o4.data = .cell (some (.ref lz))) (mD : (D, listOf ys.toArray nD) ∈ tl) (mD2 : (D2, listOf ys2.toArray nD2) ∈ tl) (hys : All2 (fun v z => RatsN (Led tl) v (castL z)) ys [[a0, a1, a2], [b0, b1, b2], [c0, c1, c2]]) (sa : Small [a0, a1, a2]) (sb : Small [b0, b1, b2]) (sc : Small [c0, c1, c2]) (hys2 : All2 (RatN (Led tl)) ys2 (castL [a3, b3, c3])) (hz : Small [a3, b3, c3]) (htl : ∀ p ∈ tl, p.1 ≠ L + 1 + 1) (mz : (lz, listOf lv.toArray nz) ∈ tl) (hlv : All2 (RatN (Led tl)) lv [x, y, z]) (hbz : ∀ r ∈ [x, y, z], Bd 277 r) (hsol : Sol3 (a0 : Rat) a1 a2 a3 b0 b1 b2 b3 c0 c1 c2 c3 x y z) (hne : det3I a0 a1 a2 b0 b1 b2 c0 c1 c2 ≠ 0)
    (n_sides : m (Str.ofString "sides") = some (.ref D2)) (n_turned : m (Str.ofString "turned") = some (.int (det3I a0 a1 a2 b0 b1 b2 c0 c1 c2) tt)) (n_told : m (Str.ofString "told") = some (.str (Str.ofString "") t0))
    (hE : PassesOwn (model PySem.Challenge.rw_ui0509_08.row.prog w0) (callerA.deeper (envOfC HD.dH.name HD.dH.scope L fa cc)) (envOfC HD.dH.name HD.dH.scope L fa cc) EX)
    (hend : ∀ (h' : Heap) (tk' : Nat) (m' : Str → Option Value), Fr h₀ L h' m' → Q (.ret (.bool true)) { s with heap := h', toks := tk' }) :
    wpAny (model PySem.Challenge.rw_ui0509_08.row.prog w0) (callerA.deeper (envOfC HD.dH.name HD.dH.scope L fa cc)) (execs (HD.fb29.1.drop 21) (envOfC HD.dH.name HD.dH.scope L fa cc)) Q EX s := by
  w_top off
  revert KX; k_fill; intro KX
  dsimp only [HD.dH, HD.fb29, HD.fs29, List.drop_succ_cons, List.drop_zero]
  refine hide_goal fun G9 k9 => ?_
  obtain ⟨dd, edd⟩ : ∃ dd, dd = det3I a0 a1 a2 b0 b1 b2 c0 c1 c2 := ⟨_, rfl⟩
  rw [← edd] at hne n_turned
  clear edd
  have hb0 : (dd == 0) = false := beq_eq_false_iff_ne.mpr hne
  refine k9 ?_
  clear k9
  k_steps
  all_goals (try (exfalso; (rename (_ != _) = true => k9); rw [hb0] at k9; exact absurd k9 (by decide)))
  all_goals (try (exfalso; omega))
  unfold Hold
  (rename Fr _ _ _ _ => F8)
  (rename News _ _ _ _ => N8)
  (rename IsRange _ _ _ _ _ _ _ _ => hrg9)
  obtain ⟨m9, em9, F9⟩ := fr_name9 F8
  have n_sid9 := fr_at9 em9 (Str.ofString "sides") _ (by exact n_sides)
  clear em9 F8
  refine iter_rangeTurns (n := 3) rfl hrg9 (by decide +kernel) (by decide +kernel) F9 N8 (fun I lI => ?_)
  refine items_ind (fun i m' nx => ∃ oi w, nx = (L + 1 + 1 + 1 + 1, o4) :: (L + 1 + 1 + 1, o3) :: (L + 1 + 1, oi) :: (L + 1, o1) :: tl ∧ oi.data = .cell w ∧ m' (Str.ofString "sides") = some (.ref D2)) ?turn ?done _ 0 _ _ rfl (Nat.zero_le _) trivial (fun p hp => Nat.ne_of_lt (lI p hp)) ⟨o2, none, rfl, q2, n_sid9⟩
  case turn =>
    intro i a v m' nx h tk o ha hS hI hJ hav Fm ho Nn
    refine hide_goal fun G9 k9 => ?_
    obtain ⟨oi, w, rfl, qi, q_sides⟩ := hJ
    obtain ⟨hi, rfl⟩ := rangeItems_get ha
    obtain ⟨t9, rfl⟩ := hav
    have hI2 : @Ne Nat I (L + 1 + 1) := (hI _ (List.mem_cons_of_mem _ (List.mem_cons_of_mem _ (List.mem_cons_self ..)))).symm
    obtain ⟨zi, hzi⟩ := ex_get (l := [[a0, a1, a2], [b0, b1, b2], [c0, c1, c2]]) (i := i) hi
    obtain ⟨hzl9, hzs9⟩ := row_small hzi sa sb sc
    obtain ⟨_, hvi, Ri, rvi, ni, rfl, mRi, hrvi⟩ := hys.at hzi
    obtain ⟨si, hsi⟩ := ex_get (l := castL [a3, b3, c3]) (i := i) hi
    obtain ⟨_, hvs, DS, ts, ts', cs9, rfl, mDS⟩ := hys2.at hsi
    have hsum := sums hzi hsi hsol
    have hx1 : ys[(0 + (i : Int)).toNat]? = some (Value.ref Ri) := at_of hvi (by first | with_reducible exact Int.zero_add _ | omega)
    have hxs : ys2[(0 + (i : Int)).toNat]? = some (Value.ref DS) := at_of hvs (by first | with_reducible exact Int.zero_add _ | omega)
    have hyl : ys.length = 3 := hys.length
    have hyl2 : ys2.length = 3 := hys2.length
    have hlvl : lv.length = 3 := hlv.length
    have hril : rvi.length = 3 := by rw [hrvi.length]; unfold castL; rw [List.length_map, hzl9]
    clear F9 N8 ha
    refine k9 ?_
    clear k9
    k_steps
    unfold Hold
    (rename Fr _ _ _ _ => F7)
    (rename News _ _ _ _ => N7)
    (rename _ = Data.cell (some (Value.int _ _)) => qj)
    (rename Obj => oj)
    refine hide_goal fun G9 k9 => ?_
    obtain ⟨LN, eLN⟩ : ∃ LN, LN = (I, o) :: (L + 1 + 1 + 1 + 1, o4) :: (L + 1 + 1 + 1, o3) :: (L + 1 + 1, oj) :: (L + 1, o1) :: tl := ⟨_, rfl⟩
    have sLN : ∀ p ∈ tl, p ∈ LN := fun p hp => by rw [eLN]; exact List.mem_cons_of_mem _ (mem4 hp)
    have mc3 : (L + 1 + 1 + 1, o3) ∈ LN := by rw [eLN]; exact List.mem_cons_of_mem _ (List.mem_cons_of_mem _ (List.mem_cons_self ..))
    have mc4 : (L + 1 + 1 + 1 + 1, o4) ∈ LN := by rw [eLN]; exact List.mem_cons_of_mem _ (List.mem_cons_self ..)
    have mc2 : (L + 1 + 1, oj) ∈ LN := by rw [eLN]; exact List.mem_cons_of_mem _ (List.mem_cons_of_mem _ (List.mem_cons_of_mem _ (List.mem_cons_self ..)))
    rw [← eLN] at N7
    refine k9 ?_
    clear k9
    refine LCg.CompSrc.range (n := 3) rfl F7 N7 (by assumption) (by decide +kernel) (by decide +kernel) (by decide +kernel) (fun g9 => ?_)
    refine comp_ind (fun j ps nx2 => (∀ p ∈ LN, p ∈ nx2) ∧ All2 (RatN (Led nx2)) ps ((prods zi [x, y, z]).take j) ∧ (∀ r ∈ (prods zi [x, y, z]).take j, Bd 281 r)) ?turn2 ?fin2 _ 0 [] _ (Nat.zero_add _) ⟨fun _ h => h, .nil, fun _ h => nomatch h⟩
    case turn2 =>
      intro j v2 I2 oI2 C2 oC2 Dp m2 h2 tk2 E2 ps nx2 hj hJ2 hP2 hC2 hx2 F2 N2 off2 ne2
      refine hide_goal fun G9 k9 => ?_
      obtain ⟨hLN, hps, hpb⟩ := hJ2
      obtain ⟨t8, rfl⟩ := hP2
      obtain ⟨q, hq⟩ := ex_get (l := zi) (i := j) (by omega)
      obtain ⟨r, hr⟩ := ex_get (l := [x, y, z]) (i := j) hj
      obtain ⟨_, hvj, Dx, tx, tx', cx, rfl, mDx⟩ := hrvi.at (show (castL zi)[j]? = some (q : Rat) by unfold castL; rw [List.getElem?_map, hq]; rfl)
      obtain ⟨_, hvr, Dr, tr, tr', cr, rfl, mDr⟩ := hlv.at hr
      have hx3 : rvi[(0 + (j : Int)).toNat]? = some (Value.ref Dx) := at_of hvj (by first | with_reducible exact Int.zero_add _ | omega)
      have hx4 : lv[(0 + (j : Int)).toNat]? = some (Value.ref Dr) := at_of hvr (by first | with_reducible exact Int.zero_add _ | omega)
      have bq : Bd 4 (q : Rat) := bd4 (hzs9 q (List.mem_of_getElem? hq)).1 (hzs9 q (List.mem_of_getElem? hq)).2
      have br : Bd 277 r := hbz r (List.mem_of_getElem? hr)
      have nD' : (D, listOf ys.toArray nD) ∈ nx2 := hLN _ (sLN _ mD)
      have nz' : (lz, listOf lv.toArray nz) ∈ nx2 := hLN _ (sLN _ mz)
      have nRi : (Ri, listOf rvi.toArray ni) ∈ nx2 := hLN _ (sLN _ mRi)
      have nDx : (Dx, RatO (q : Rat) tx tx' cx) ∈ nx2 := hLN _ (sLN _ mDx)
      have nDr : (Dr, RatO r tr tr' cr) ∈ nx2 := hLN _ (sLN _ mDr)
      have nc2 := hLN _ mc2
      have nc3 := hLN _ mc3
      have nc4 := hLN _ mc4
      clear F7 N7
      refine k9 ?_
      clear k9
      k_steps
      (try unfold Hold)
      rename_i D3 t3 u3 c3 h3 tk3 bD3 F3 N3 l3
      refine comp_end F3 N3 ((D3, RatO ((q : Rat) * r) t3 u3 c3) :: nx2) sub_at3 (off3_cons l3.1.symm l3.2.1.symm l3.2.2.1.symm off2) trivial ⟨fun p hp => List.mem_cons_of_mem _ (hLN p hp), ?_, ?_⟩
      · rw [take_step (prods_at hq hr)]; exact (hps.mono fun _ _ y => y.mono (led_mono fun p hp => List.mem_cons_of_mem _ hp)).snoc (ratR (List.mem_cons_self ..))
      · rw [take_step (prods_at hq hr)]; exact List.forall_mem_append.mpr ⟨hpb, fcons bD3 (List.forall_mem_nil _)⟩
    case fin2 =>
      intro ps nx2 hJ2 Dp h2 tk2 F2 N2 off2
      obtain ⟨hLN, hps, hpb⟩ := hJ2
      have hpl := prods_len (xs := [x, y, z]) hzl9 rfl
      have hnn : prods zi [x, y, z] ≠ [] := fun e => by rw [e] at hpl; exact absurd hpl (by decide)
      rw [List.take_of_length_le (by omega)] at hps hpb
      have nc2 := hLN _ mc2
      have nc3 := hLN _ mc3
      have nc4 := hLN _ mc4
      have nD2 : (D2, listOf ys2.toArray nD2) ∈ nx2 := hLN _ (sLN _ mD2)
      have nDS : (DS, RatO si ts ts' cs9) ∈ nx2 := hLN _ (sLN _ mDS)
      have nI : (I, o) ∈ nx2 := hLN _ (by rw [eLN]; exact List.mem_cons_self ..)
      clear F7 N7
      k_steps
      unfold Hold
      (rename News _ _ _ _ => N6)
      have hvH : All2 (RatH _) ps (prods zi [x, y, z]) := hps.mono fun _ _ y => let ⟨D, t, t', c, e, m⟩ := y; ⟨D, t, t', c, e, N6.get (List.mem_cons_of_mem _ m)⟩
      change wpAny _ _ _ _ _ _
      refine' total_c (vs := ps) (rs := prods zi [x, y, z]) (b := 281) ?b1_u1 ?b2_u1 ?b3_u1 ?b4_u1 ?b5_u1 ?b6_u1 (N6.get (List.mem_cons_self ..)) hvH hnn hpb (by rw [hpl]; decide) ?k7_u1 ?k8_u1 ?_
      case b1_u1 => k_asm
      case b2_u1 => k_asm
      case b3_u1 => k_asm
      case b4_u1 => k_asm
      case b5_u1 => k_asm
      case b6_u1 => first | exact rfl | assumption
      case k7_u1 => ktr_room
      case k8_u1 => ktr_units
      intro D6 t6 t6' c6 h6 tk6 b6 F6 N6' l6
      rw [hsum] at N6'
      k_steps
      unfold Hold
      (rename News _ _ _ _ => N5)
      refine ne_rd (d := ratP si) (RatO_rd (N5.get (List.mem_cons_self ..))) (RatO_rd (N5.get (by k_mem))) (by rfl) ?hu9 ?_
      case hu9 => ktr_units
      k_steps
      unfold Hold
      (rename News _ _ _ _ => N4)
      (rename Fr _ _ _ _ => F4)
      exact unr_end ((L + 1 + 1 + 1 + 1, o4) :: (L + 1 + 1 + 1, o3) :: (L + 1 + 1, oj) :: (L + 1, o1) :: tl) F4 N4 (by k_mem) (fun p hp => ((by intro p9 hp9; first | ((repeat (first | exact hp9 | exact List.mem_append_left _ hp9 | exact List.mem_append_right _ hp9 | refine List.mem_cons_of_mem _ ?_)); done) | (simp only [List.mem_cons, List.mem_append]; simp only [hp9, true_or, or_true])) : ∀ p ∈ nx2, p ∈ _) p (hLN p (by rw [eLN]; exact List.mem_cons_of_mem _ hp))) (fcons (hI _ (List.mem_cons_self ..)) (fcons (hI _ (List.mem_cons_of_mem _ (List.mem_cons_self ..))) (fcons (hI (_, oi) (List.mem_cons_of_mem _ (List.mem_cons_of_mem _ (List.mem_cons_self ..)))) (fcons (hI _ (List.mem_cons_of_mem _ (List.mem_cons_of_mem _ (List.mem_cons_of_mem _ (List.mem_cons_self ..))))) (fun p hp => hI p (mem4 hp)))))) ⟨trivial, oj, _, rfl, qj, (by exact q_sides)⟩
  case done =>
    intro m3 nx3 h8 tk8 hJ Fm Nn
    refine hide_goal fun G9 k9 => ?_
    obtain ⟨oi, w, rfl, qi, q_sides⟩ := hJ
    clear F9 N8
    have mkS : MarkW9 := .mk
    refine k9 ?_
    clear k9
    k_steps
    change wpAny _ _ _ _ _ _
    (rename News _ _ _ _ => N9)
    (rename Fr _ _ _ _ => F9)
    exact lawF (o2 := o1) (o3 := o1) (o4 := o1) (R := []) K0 KX T F9 (fun p hp => by rw [List.mem_singleton.mp hp]; exact N9 _ (List.mem_cons_of_mem _ (List.mem_cons_of_mem _ (List.mem_cons_of_mem _ (List.mem_cons_self ..))))) q1 hL0 hI0 hns0 hE hend
end
end
end Mine
open Mine
local macro_rules | `(tactic| walk_at "i20") => `(tactic| ((rename RaisedK _ _ _ _ _ _ _ _ => rkX); (with_reducible show wpAny _ _ (noteFrame _ _) (fun _ s₂ => wpAny _ _ (setFlight _ none) (fun _ s₃ => wpAny _ _ (handleBy _ _ (ExceptHandler.ExceptHandler (some (Expr.Name _ _)) none _ _ :: _)) _ _ s₃) _ s₂) _ _); k_dflt (refine' caught_V ?K ?F ?U ?R ?X ?T ?ex ?hv ?hn ?q ?_; (case K => assumption); (case F => assumption); (case U => assumption); (case R => exact rkX); (case X => k_asm); (case T => k_asm); (case ex => k_is); (case hv => boot_by_name); (case hn => decide); (case q => kts_exm); k_whole); clear rkX; intro h' E' F' N'))
namespace Mine
section
section
local macro_rules | `(tactic| k_lt $h:ident) => `(tactic| skip)
theorem words24 : True := by
  k_with_none
  k_with "ne9" => (refine neN ?_; (try dsimp only); first | with_reducible assumption | exact Ne.symm (by with_reducible assumption) | exact pj0 (by with_reducible assumption) | exact pj1 (by with_reducible assumption) | exact pj2 (by with_reducible assumption) | exact pj3 (by with_reducible assumption) | exact pj4 (by with_reducible assumption) | exact pj5 (by with_reducible assumption) | exact pj6 (by with_reducible assumption) | exact pj7 (by with_reducible assumption) | exact pj8 (by with_reducible assumption) | exact pj9 (by with_reducible assumption) | exact pj10 (by with_reducible assumption) | exact pj11 (by with_reducible assumption) | exact Ne.symm (pj0 (by with_reducible assumption)) | exact Ne.symm (pj1 (by with_reducible assumption)) | exact Ne.symm (pj2 (by with_reducible assumption)) | exact Ne.symm (pj3 (by with_reducible assumption)) | exact Ne.symm (pj4 (by with_reducible assumption)) | exact Ne.symm (pj5 (by with_reducible assumption)) | exact Ne.symm (pj6 (by with_reducible assumption)) | exact Ne.symm (pj7 (by with_reducible assumption)) | exact Ne.symm (pj8 (by with_reducible assumption)) | exact Ne.symm (pj9 (by with_reducible assumption)) | exact Ne.symm (pj10 (by with_reducible assumption)) | exact Ne.symm (pj11 (by with_reducible assumption)) | exact ad1 | exact ad2 | exact ad3 | exact ad4 | exact ad5 | exact ad6 | exact ad7 | exact ad8 | exact Ne.symm ad1 | exact Ne.symm ad2 | exact Ne.symm ad3 | exact Ne.symm ad4 | exact Ne.symm ad5 | exact Ne.symm ad6 | exact Ne.symm ad7 | exact Ne.symm ad8 | exact Nat.ne_of_lt (by with_reducible assumption) | exact Nat.ne_of_gt (by with_reducible assumption) | exact Nat.ne_of_lt (pj0 (by with_reducible assumption)) | exact Nat.ne_of_lt (pj1 (by with_reducible assumption)) | exact Nat.ne_of_lt (pj2 (by with_reducible assumption)) | exact Nat.ne_of_lt (pj3 (by with_reducible assumption)) | exact Nat.ne_of_lt (pj4 (by with_reducible assumption)) | exact Nat.ne_of_lt (pj5 (by with_reducible assumption)) | exact Nat.ne_of_lt (pj6 (by with_reducible assumption)) | exact Nat.ne_of_lt (pj7 (by with_reducible assumption)) | exact Nat.ne_of_lt (pj8 (by with_reducible assumption)) | exact Nat.ne_of_lt (pj9 (by with_reducible assumption)) | exact Nat.ne_of_lt (pj10 (by with_reducible assumption)) | exact Nat.ne_of_lt (pj11 (by with_reducible assumption)) | exact Nat.ne_of_gt (pj0 (by with_reducible assumption)) | exact Nat.ne_of_gt (pj1 (by with_reducible assumption)) | exact Nat.ne_of_gt (pj2 (by with_reducible assumption)) | exact Nat.ne_of_gt (pj3 (by with_reducible assumption)) | exact Nat.ne_of_gt (pj4 (by with_reducible assumption)) | exact Nat.ne_of_gt (pj5 (by with_reducible assumption)) | exact Nat.ne_of_gt (pj6 (by with_reducible assumption)) | exact Nat.ne_of_gt (pj7 (by with_reducible assumption)) | exact Nat.ne_of_gt (pj8 (by with_reducible assumption)) | exact Nat.ne_of_gt (pj9 (by with_reducible assumption)) | exact Nat.ne_of_gt (pj10 (by with_reducible assumption)) | exact Nat.ne_of_gt (pj11 (by with_reducible assumption)) | omega)
  k_with "k_ne" => (walk_at "ne9")
  k_with "k_in" => (refine' in_of ?z102fF ?z102fX; (case z102fF => k_asm); (case z102fX => k_asm))
  k_with "eval Name" => (k_here; k_dflt (refine' nameX_L ?z103k1 ?z103k2 ?_ ?z103k3 ?z103k4; (case z103k3 => rfl); (case z103k4 => rfl); (case z103k1 => k_asm); (case z103k2 => first | exact rfl | assumption); k_whole))
  k_with "size_fits" => ((simp only [List.size_toArray]); rw [sizeLine_eq]; omega)
  k_with "bits_by_make" => (first | with_reducible assumption | exact bits64 (by omega) (by omega))
  k_with "execs cons" => (walk_at "i19"; refine Hold.out ?_)
  k_with "k_all" => (first | with_reducible assumption | (refine' fcons (?z104a) (?z104b); (case z104a => k_ne); (case z104b => k_all)))
  k_with "k_mem" => (first | with_reducible assumption | (refine List.mem_append_left _ ?_; with_reducible assumption) | (refine List.mem_cons_of_mem _ ?_; k_mem))
  k_with "noteFrame ref" => (k_here; walk_at "i20")
  k_with "exec Try" => ((with_reducible show wpAny _ _ (exec (Stmt.Try _ (_ :: _) _ [] _) _) _ _ _); refine wpAny_Try_except ?_)
  k_with "call ref" => (k_here; (with_reducible show wpAny _ _ (call (Value.ref 171) _) _ _ _); refine Hold.out ?_)
  k_with "compareOp Eq str str" => (k_here; (with_reducible show wpAny _ _ (compareOp CmpOp.Eq (Value.str _ _) (Value.str _ _)) _ _ _); first | (refine eq_sb (b := true) (by first | with_reducible assumption | decide +kernel) ?_) | (refine eq_sb (b := false) (by first | with_reducible assumption | decide +kernel) ?_))
  k_with "compareOp NotEq str str" => (k_here; (with_reducible show wpAny _ _ (compareOp CmpOp.NotEq (Value.str _ _) (Value.str _ _)) _ _ _); first | (refine ne_sb (b := true) (by first | with_reducible assumption | decide +kernel) ?_) | (refine ne_sb (b := false) (by first | with_reducible assumption | decide +kernel) ?_))
  k_with "hat9" => (first | exact News.get (by k_asm) (by k_mem) | exact Fr.keep (by k_asm) _ _ (by with_reducible assumption) | exact Tk.get (by k_asm) (by k_asm) (by with_reducible assumption) (by intro p9 hp9; first | exact hp9 | exact absurd hp9 List.not_mem_nil | (repeat (first | exact hp9 | refine List.mem_cons_of_mem _ ?_))) | exact Frag.In.keeps (by k_asm) (Fr.keep (by k_asm)) _ _ (by k_is))
  k_with "bits_by_make" => (with_reducible assumption)
  k_with "ktr_units" => ((try simp only [units_under_make, units_in1, units_deeper, Around.mark_units, units_caller]); (try dsimp only [ktrTop]); first | exact un1 (by with_reducible assumption) (Nat.le_of_ble_eq_true rfl) | exact un2 (by with_reducible assumption) (Nat.le_of_ble_eq_true rfl) | exact un3 (by with_reducible assumption) (Nat.le_of_ble_eq_true rfl) | (have hcL9 := cLine_is; omega))
  k_with "binaryOp Mod int int" => (k_here; (with_reducible refine mod_gen ?z105mp ?_); (case z105mp => decide); walk_at "i18")
  k_with "call ref" => (k_here; (with_reducible show wpAny _ _ (call (Value.ref 41) [Value.str _ _]) _ _ _); k_dflt (refine' shown_s ?z106k1 ?z106k2 ?z106k3 ?z106k4 ?z106k5 ?z106k6 ?z106hT ?z106k7 ?z106k8 ?_; (case z106k1 => k_asm); (case z106k2 => k_asm); (case z106k3 => k_asm); (case z106k4 => k_asm); (case z106k5 => k_asm); (case z106k6 => first | exact rfl | assumption); (case z106k7 => first | exact Nat.le_of_ble_eq_true rfl | ktr_room); (case z106k8 => first | exact Nat.le_of_ble_eq_true rfl | ktr_units); (case z106hT => first | exact y_len (by omega) | omega | decide +kernel); k_whole); walk_at "i9"; (try k_sweep))
  k_with "compareOp Eq str str" => (k_here; (with_reducible show wpAny _ _ (compareOp CmpOp.Eq (Value.str (shF _) _) (Value.str _ _)) _ _ _); (refine eq_sb (b := true) (by rw [y_shown (by omega)]; exact beq_self_eq_true _) ?_))
  trivial
theorem lawS {w0 : World} {p : Program} {loose : List Str} {mean : ExcName → Option Value} {mg mb : Str → Option Value} {fa L : Addr} {cc : Value} {h₀ : Heap} {Q : Flow → Shared → Prop} {EX : Value → Shared → Prop} {m : Str → Option Value} {s : Shared} {o1 o2 o3 o4 : Obj} {l0 : Addr} {vs0 : List Value} {ns0 : List Int} {D D2 : Addr} {ys ys2 : List Value} {nD nD2 : Nat} {tl : List (Addr × Obj)} {a0 a1 a2 a3 b0 b1 b2 b3 c0 c1 c2 c3 : Int} {tt : Tok}
    (K0 : Below callerA h₀ [] h₀) (KX : (HD.K w0.params).In h₀) (T : Top p loose mean mg mb h₀) (F : Fr h₀ L s.heap m) (N : News h₀ L s.heap ((L + 1 + 1 + 1 + 1, o4) :: (L + 1 + 1 + 1, o3) :: (L + 1 + 1, o2) :: (L + 1, o1) :: tl))
    (q1 : o1.data = .cell (some (.ref l0))) (hL0 : h₀.IsList l0 vs0.toArray) (hI0 : IntsAre vs0 ns0) (hns0 : ns0.length ≤ 63) (q2 : o2.data = .cell none) (q3 : o3.data = .cell (some (.ref D))) (q4 : o4.data = .cell none) (mD : (D, listOf ys.toArray nD) ∈ tl) (mD2 : (D2, listOf ys2.toArray nD2) ∈ tl) (hys : All2 (fun v z => RatsN (Led tl) v (castL z)) ys [[a0, a1, a2], [b0, b1, b2], [c0, c1, c2]]) (sa : Small [a0, a1, a2]) (sb : Small [b0, b1, b2]) (sc : Small [c0, c1, c2]) (hys2 : All2 (RatN (Led tl)) ys2 (castL [a3, b3, c3])) (hz : Small [a3, b3, c3]) (htl : ∀ p ∈ tl, OffL L p.1)
    (n_sides : m (Str.ofString "sides") = some (.ref D2)) (n_turned : m (Str.ofString "turned") = some (.int (det3I a0 a1 a2 b0 b1 b2 c0 c1 c2) tt))
    (hE : PassesOwn (model PySem.Challenge.rw_ui0509_08.row.prog w0) (callerA.deeper (envOfC HD.dH.name HD.dH.scope L fa cc)) (envOfC HD.dH.name HD.dH.scope L fa cc) EX)
    (hend : ∀ (h' : Heap) (tk' : Nat) (m' : Str → Option Value), Fr h₀ L h' m' → Q (.ret (.bool true)) { s with heap := h', toks := tk' }) :
    wpAny (model PySem.Challenge.rw_ui0509_08.row.prog w0) (callerA.deeper (envOfC HD.dH.name HD.dH.scope L fa cc)) (execs (HD.fb29.1.drop 18) (envOfC HD.dH.name HD.dH.scope L fa cc)) Q EX s := by
  w_top off
  revert KX; k_fill; intro KX
  dsimp only [HD.dH, HD.fb29, HD.fs29, List.drop_succ_cons, List.drop_zero]
  refine hide_goal fun G9 k9 => ?_
  obtain ⟨dd, edd⟩ : ∃ dd, dd = det3I a0 a1 a2 b0 b1 b2 c0 c1 c2 := ⟨_, rfl⟩
  rw [← edd] at n_turned
  have htl4 : ∀ p ∈ tl, p.1 ≠ L + 1 + 1 + 1 + 1 := fun p hp => (htl p hp).2.2.2
  refine k9 ?_
  clear k9
  k_steps
  unfold Hold
  (rename Fr _ _ _ _ => F9)
  (rename News _ _ _ _ => N9)
  change wpAny _ _ _ _ _ _
  have hrow9 : ∀ r ∈ [castL [a0, a1, a2], castL [b0, b1, b2], castL [c0, c1, c2]], r.length = 3 := three_mem rfl rfl rfl
  have hb9 : ∀ r ∈ [castL [a0, a1, a2], castL [b0, b1, b2], castL [c0, c1, c2]], ∀ x ∈ r, Bd 4 x := three_mem (cast_bd sa) (cast_bd sb) (cast_bd sc)
  have hb29 := cast_bd hz
  refine' solved_x (kp := (L + 1, o1)) (P := Led tl) (rv := ys) (sv := ys2) (M := [castL [a0, a1, a2], castL [b0, b1, b2], castL [c0, c1, c2]]) (sd := castL [a3, b3, c3]) (n := 3) (b := 4) ?b1_u1 ?b2_u1 ?b3_u1 ?b4_u1 ?b5_u1 ?b6_u1 ?hkn_u1 (ledG N9 fun p hp => mem4 hp) (fun a o e => (htl _ e).1) mD (All2.map_r (f := castL) (fun _ _ y => y) hys) mD2 hys2 rfl rfl hrow9 hb9 hb29 (by decide) (by decide) (by decide) ?k7_u1 ?k8_u1 ?_ ?_
  case b1_u1 => k_asm
  case b2_u1 => k_asm
  case b3_u1 => k_asm
  case b4_u1 => k_asm
  case b5_u1 => k_asm
  case b6_u1 => first | exact rfl | assumption
  case k7_u1 => ktr_room
  case k8_u1 => ktr_units
  case hkn_u1 => k_mem
  · intro Z v9 tl9 h9 tk9 hg F8 N8 hdis hv9 hZb
    rcases told8 a0 a1 a2 a3 b0 b1 b2 b3 c0 c1 c2 c3 with ⟨e0, _⟩ | ⟨Z', x, y, z, e0, hne, hmap, hsol⟩
    · exact absurd (hg.symm.trans e0) (by simp)
    refine hide_goal fun G9 k9 => ?_
    obtain rfl : Z = Z' := Option.some.inj (hg.symm.trans e0)
    rw [hmap] at hv9
    obtain ⟨lz, lv, nz, rfl, plz, hlv⟩ := hv9
    have hbz : ∀ r ∈ [x, y, z], Bd 277 r := by
      rw [← hmap]
      exact fun r hr => told_bd (by decide) hZb r hr
    simp only [List.cons_append] at N8
    obtain ⟨TL, eTL⟩ : ∃ TL, TL = tl ++ tl9 := ⟨_, rfl⟩
    rw [← eTL] at N8
    have sub1 : ∀ p ∈ tl, p ∈ TL := fun p hp => by rw [eTL]; exact List.mem_append_left _ hp
    have sub2 : ∀ p ∈ tl9, p ∈ TL := fun p hp => by rw [eTL]; exact List.mem_append_right _ hp
    have hT4 : ∀ p ∈ TL, p.1 ≠ L + 1 + 1 + 1 + 1 := fun p hp => by
      rw [eTL] at hp
      rcases List.mem_append.mp hp with hp | hp
      · exact htl4 p hp
      · exact (hdis _ (List.mem_cons_self ..) (ne_add3 L) p hp).symm
    have hT2 : ∀ p ∈ TL, p.1 ≠ L + 1 + 1 := fun p hp => by
      rw [eTL] at hp
      rcases List.mem_append.mp hp with hp | hp
      · exact (htl p hp).2.1
      · exact (hdis _ (List.mem_cons_of_mem _ (List.mem_cons_of_mem _ (List.mem_cons_self ..))) (ne_add1 L) p hp).symm
    clear F9 N9 hdis
    have mkS : MarkW9 := .mk
    refine k9 ?_
    clear k9
    k_steps
    change wpAny _ _ _ _ _ _
    (rename MarkW9 => mkS)
    clear mkS
    (rename News _ _ _ _ => N7)
    (rename Fr _ _ _ _ => F7)
    (rename _ = Data.cell (some (Value.ref lz)) => q5)
    exact lawT (D := D) (D2 := D2) (ys := ys) (ys2 := ys2) (tl := TL) (lz := lz) (lv := lv) (x := x) (y := y) (z := z) K0 KX T F7 N7 q1 hL0 hI0 hns0 q2 q3 q5 (sub1 _ mD) (sub1 _ mD2) (hys.mono fun _ _ y => y.mono (led_mono sub1)) sa sb sc (hys2.mono fun _ _ y => y.mono (led_mono sub1)) hz hT2 (plz.elim (sub1 _) (sub2 _)) (hlv.mono fun _ _ y => y.mono fun a o e => e.elim (sub1 _) (sub2 _)) hbz hsol hne (by exact n_sides) (by rw [← edd]; exact n_turned) (by rfl) hE hend
  · intro hg T9 g9 e9 t9 u9 h9 tk9 Fg Ug R9
    have hdet : det3I a0 a1 a2 b0 b1 b2 c0 c1 c2 = 0 := by
      rcases told8 a0 a1 a2 a3 b0 b1 b2 b3 c0 c1 c2 c3 with ⟨_, e0⟩ | ⟨Z', x, y, z, e0, _, _, _⟩
      · exact e0
      · exact absurd (hg.symm.trans e0) (by simp)
    have hdd : dd = 0 := edd.trans hdet
    k_steps
    all_goals first | exact hend _ _ _ (by assumption) | (exfalso; (rename (_ != _) = true => k9); rw [hdd] at k9; exact absurd k9 (by decide)) | (exfalso; omega)
end
end
section
section
local macro_rules | `(tactic| k_lt $h:ident) => `(tactic| skip)
theorem words25 : True := by
  k_with_none
  k_with "ne9" => (refine neN ?_; (try dsimp only); first | with_reducible assumption | exact Ne.symm (by with_reducible assumption) | exact pj0 (by with_reducible assumption) | exact pj1 (by with_reducible assumption) | exact pj2 (by with_reducible assumption) | exact pj3 (by with_reducible assumption) | exact pj4 (by with_reducible assumption) | exact pj5 (by with_reducible assumption) | exact pj6 (by with_reducible assumption) | exact pj7 (by with_reducible assumption) | exact pj8 (by with_reducible assumption) | exact pj9 (by with_reducible assumption) | exact pj10 (by with_reducible assumption) | exact pj11 (by with_reducible assumption) | exact Ne.symm (pj0 (by with_reducible assumption)) | exact Ne.symm (pj1 (by with_reducible assumption)) | exact Ne.symm (pj2 (by with_reducible assumption)) | exact Ne.symm (pj3 (by with_reducible assumption)) | exact Ne.symm (pj4 (by with_reducible assumption)) | exact Ne.symm (pj5 (by with_reducible assumption)) | exact Ne.symm (pj6 (by with_reducible assumption)) | exact Ne.symm (pj7 (by with_reducible assumption)) | exact Ne.symm (pj8 (by with_reducible assumption)) | exact Ne.symm (pj9 (by with_reducible assumption)) | exact Ne.symm (pj10 (by with_reducible assumption)) | exact Ne.symm (pj11 (by with_reducible assumption)) | exact ad1 | exact ad2 | exact ad3 | exact ad4 | exact ad5 | exact ad6 | exact ad7 | exact ad8 | exact Ne.symm ad1 | exact Ne.symm ad2 | exact Ne.symm ad3 | exact Ne.symm ad4 | exact Ne.symm ad5 | exact Ne.symm ad6 | exact Ne.symm ad7 | exact Ne.symm ad8 | exact Nat.ne_of_lt (by with_reducible assumption) | exact Nat.ne_of_gt (by with_reducible assumption) | exact Nat.ne_of_lt (pj0 (by with_reducible assumption)) | exact Nat.ne_of_lt (pj1 (by with_reducible assumption)) | exact Nat.ne_of_lt (pj2 (by with_reducible assumption)) | exact Nat.ne_of_lt (pj3 (by with_reducible assumption)) | exact Nat.ne_of_lt (pj4 (by with_reducible assumption)) | exact Nat.ne_of_lt (pj5 (by with_reducible assumption)) | exact Nat.ne_of_lt (pj6 (by with_reducible assumption)) | exact Nat.ne_of_lt (pj7 (by with_reducible assumption)) | exact Nat.ne_of_lt (pj8 (by with_reducible assumption)) | exact Nat.ne_of_lt (pj9 (by with_reducible assumption)) | exact Nat.ne_of_lt (pj10 (by with_reducible assumption)) | exact Nat.ne_of_lt (pj11 (by with_reducible assumption)) | exact Nat.ne_of_gt (pj0 (by with_reducible assumption)) | exact Nat.ne_of_gt (pj1 (by with_reducible assumption)) | exact Nat.ne_of_gt (pj2 (by with_reducible assumption)) | exact Nat.ne_of_gt (pj3 (by with_reducible assumption)) | exact Nat.ne_of_gt (pj4 (by with_reducible assumption)) | exact Nat.ne_of_gt (pj5 (by with_reducible assumption)) | exact Nat.ne_of_gt (pj6 (by with_reducible assumption)) | exact Nat.ne_of_gt (pj7 (by with_reducible assumption)) | exact Nat.ne_of_gt (pj8 (by with_reducible assumption)) | exact Nat.ne_of_gt (pj9 (by with_reducible assumption)) | exact Nat.ne_of_gt (pj10 (by with_reducible assumption)) | exact Nat.ne_of_gt (pj11 (by with_reducible assumption)) | omega)
  k_with "k_ne" => (walk_at "ne9")
  k_with "k_in" => (refine' in_of ?z107fF ?z107fX; (case z107fF => k_asm); (case z107fX => k_asm))
  k_with "eval Name" => (k_here; k_dflt (refine' nameX_L ?z108k1 ?z108k2 ?_ ?z108k3 ?z108k4; (case z108k3 => rfl); (case z108k4 => rfl); (case z108k1 => k_asm); (case z108k2 => first | exact rfl | assumption); k_whole))
  k_with "size_fits" => ((simp only [List.size_toArray]); rw [sizeLine_eq]; omega)
  k_with "subscriptTail" => (k_here; (with_reducible show wpAny _ _ (subscriptTail _ _ (Value.ref _) (Value.int _ _)) _ _ _); k_dflt (refine' PySem.W.kim_list ?z109k1 ?z109k2 ?z109k3 ?z109k4 ?z109k5 ?z109k6 ?z109k7 ?_ ?z109k8 ?z109k9; (case z109k1 => k_asm); (case z109k2 => k_mem); (case z109k3 => exact rfl); (case z109k4 => exact rfl); (case z109k5 => decide); (case z109k6 => decide); (case z109k7 => exact rfl); (case z109k8 => with_unfolding_all rfl); (case z109k9 => (intro _; with_unfolding_all rfl)); k_whole))
  k_with "bits_by_make" => (first | with_reducible assumption | exact bits64 (by omega) (by omega))
  k_with "execs cons" => (walk_at "i19"; refine Hold.out ?_)
  k_with "eval ListComp" => (k_here; k_dflt (refine LCg.ListComp_U (F₀ := by k_asm) (by with_unfolding_all rfl) (by decide) (by rfl) (by decide) (by rfl) ?_))
  k_with "exec Assign cons ListComp" => (k_here; k_dflt (refine LCg.Assign_ListComp_U (F₀ := by k_asm) (by rfl) (by with_unfolding_all rfl) (by with_unfolding_all rfl) (by decide) (by rfl) (by decide) (by rfl) (by rfl) (by rfl) ?_))
  k_with "k_all" => (first | with_reducible assumption | (refine' fcons (?z110a) (?z110b); (case z110a => k_ne); (case z110b => k_all)))
  k_with "k_mem" => (first | with_reducible assumption | (refine List.mem_append_left _ ?_; with_reducible assumption) | (refine List.mem_cons_of_mem _ ?_; k_mem))
  k_with "subscriptTail" => (k_here; (with_reducible show wpAny _ _ (subscriptTail _ _ (Value.ref _) (Value.int _ _)) _ _ _); k_dflt (refine' tup_n ?z111k1 ?z111k2 ?z111k3 ?z111k4 ?z111k5 ?z111k6 ?z111k7 ?z111k8 ?_ ?z111k9 ?z111k10; (case z111k1 => k_asm); (case z111k2 => with_reducible assumption); (case z111k3 => exact rfl); (case z111k4 => exact rfl); (case z111k5 => decide); (case z111k6 => decide); (case z111k7 => exact rfl); (case z111k8 => exact rfl); (case z111k9 => with_unfolding_all rfl); (case z111k10 => (intro _; with_unfolding_all rfl)); k_whole))
  k_with "CompSrc" => (refine Hold.out ?_)
  k_with "CompEnd" => (show LCg.CompEnd _ _ _ _ _ _ _ _ _ _ _ _ _ _; refine Hold.out ?_)
  trivial
theorem lawQ {w0 : World} {p : Program} {loose : List Str} {mean : ExcName → Option Value} {mg mb : Str → Option Value} {fa L : Addr} {cc : Value} {h₀ : Heap} {Q : Flow → Shared → Prop} {EX : Value → Shared → Prop} {m : Str → Option Value} {s : Shared} {o1 o2 o3 o4 : Obj} {l0 : Addr} {vs0 : List Value} {ns0 : List Int} {D D2 : Addr} {ys ys2 : List Value} {nD nD2 : Nat} {tl : List (Addr × Obj)} {zs : List (List Int)} {z : List Int}
    (K0 : Below callerA h₀ [] h₀) (KX : (HD.K w0.params).In h₀) (T : Top p loose mean mg mb h₀) (F : Fr h₀ L s.heap m) (N : News h₀ L s.heap ((L + 1 + 1 + 1 + 1, o4) :: (L + 1 + 1 + 1, o3) :: (L + 1 + 1, o2) :: (L + 1, o1) :: tl))
    (q1 : o1.data = .cell (some (.ref l0))) (hL0 : h₀.IsList l0 vs0.toArray) (hI0 : IntsAre vs0 ns0) (hns0 : ns0.length ≤ 63) (q2 : o2.data = .cell none) (q3 : o3.data = .cell (some (.ref D))) (q4 : o4.data = .cell none) (mD : (D, listOf ys.toArray nD) ∈ tl) (mD2 : (D2, listOf ys2.toArray nD2) ∈ tl) (hzl : zs.length = 3) (hys : All2 (fun v z => RatsN (Led tl) v (castL z)) ys zs) (hzb : ∀ z ∈ zs, z.length = 3 ∧ Small z) (hzl2 : z.length = 3) (hys2 : All2 (RatN (Led tl)) ys2 (castL z)) (hzb2 : Small z) (htl : ∀ p ∈ tl, OffL L p.1)
    (n_sides : m (Str.ofString "sides") = some (.ref D2))
    (hE : PassesOwn (model PySem.Challenge.rw_ui0509_08.row.prog w0) (callerA.deeper (envOfC HD.dH.name HD.dH.scope L fa cc)) (envOfC HD.dH.name HD.dH.scope L fa cc) EX)
    (hend : ∀ (h' : Heap) (tk' : Nat) (m' : Str → Option Value), Fr h₀ L h' m' → Q (.ret (.bool true)) { s with heap := h', toks := tk' }) :
    wpAny (model PySem.Challenge.rw_ui0509_08.row.prog w0) (callerA.deeper (envOfC HD.dH.name HD.dH.scope L fa cc)) (execs (HD.fb29.1.drop 16) (envOfC HD.dH.name HD.dH.scope L fa cc)) Q EX s := by
  w_top off
  revert KX; k_fill; intro KX
  dsimp only [HD.dH, HD.fb29, HD.fs29, List.drop_succ_cons, List.drop_zero]
  k_steps
  unfold Hold
  (rename Fr _ _ _ _ => F9)
  (rename News _ _ _ _ => N9)
  have hyl := hys.length
  refine LCg.CompSrc.ledger (news := (L + 1 + 1 + 1 + 1, o4) :: (L + 1 + 1 + 1, o3) :: (L + 1 + 1, o2) :: (L + 1, o1) :: tl) rfl F9 N9 (mem4 mD) (by rw [List.size_toArray, sizeLine_eq]; omega) (fun g9 => ?_)
  refine comp_ind (fun i yv nx => ∃ tl3, nx = (L + 1 + 1 + 1 + 1, o4) :: (L + 1 + 1 + 1, o3) :: (L + 1 + 1, o2) :: (L + 1, o1) :: tl3 ∧ (∀ p ∈ tl, p ∈ tl3) ∧ All2 (IntsN (Led tl3)) yv (zs.take i) ∧ (∀ p ∈ tl3, OffL L p.1)) ?turn4 ?fin4 _ 0 [] _ (Nat.zero_add _) ⟨tl, rfl, fun _ h => h, .nil, htl⟩
  case turn4 =>
    intro i v I oI C oC D4 m2 h tk E' yv nx hi hJ hPv hC hx Fm Nn off ne
    refine hide_goal fun G9 k9 => ?_
    obtain ⟨tl3, rfl, hss3, hyv, htl3⟩ := hJ
    have hv0 : ys[i]? = some v := by simpa using hPv
    obtain ⟨z0, hz0, l9, rv, n9, rfl, ml, hrv⟩ := hys.get hv0
    have hrl := hrv.length
    have hzl0 := (hzb z0 (List.mem_of_getElem? hz0)).1
    have hcl : (castL z0).length = 3 := by unfold castL; rw [List.length_map, hzl0]
    have ml3 : (l9, listOf rv.toArray n9) ∈ tl3 := hss3 _ ml
    clear F9 N9 hPv
    refine k9 ?_
    clear k9
    k_steps
    unfold Hold
    (rename Fr _ _ _ _ => F8)
    (rename News _ _ _ _ => N8)
    have ml8 : (l9, listOf rv.toArray n9) ∈ (I, oI) :: (C, oC) :: (D4, LCg.lst yv) :: (L + 1 + 1 + 1 + 1, o4) :: (L + 1 + 1 + 1, o3) :: (L + 1 + 1, o2) :: (L + 1, o1) :: tl3 := List.mem_cons_of_mem _ (List.mem_cons_of_mem _ (List.mem_cons_of_mem _ (mem4 ml3)))
    refine LCg.CompSrc.ledger (news := (I, oI) :: (C, oC) :: (D4, LCg.lst yv) :: (L + 1 + 1 + 1 + 1, o4) :: (L + 1 + 1 + 1, o3) :: (L + 1 + 1, o2) :: (L + 1, o1) :: tl3) rfl F8 N8 ml8 (by rw [List.size_toArray, sizeLine_eq]; omega) (fun g8 => ?_)
    refine hide_goal fun G9 k9 => ?_
    obtain ⟨LN, eLN⟩ : ∃ LN, LN = (I, oI) :: (C, oC) :: (D4, LCg.lst yv) :: (L + 1 + 1 + 1 + 1, o4) :: (L + 1 + 1 + 1, o3) :: (L + 1 + 1, o2) :: (L + 1, o1) :: tl3 := ⟨_, rfl⟩
    refine k9 ?_
    clear k9
    rw [← eLN] at ml8 ⊢
    refine comp_ind (fun j zv nx2 => nx2 = LN ∧ All2 IntV zv (z0.take j)) ?turn5 ?fin5 _ 0 [] _ (Nat.zero_add _) ⟨rfl, .nil⟩
    case turn5 =>
      intro j v5 I5 oI5 C5 oC5 D5 m5 h5 tk5 E5 zv nx5 hj hJ5 hPv5 hC5 hx5 F5 N5 off5 ne5
      refine hide_goal fun G9 k9 => ?_
      obtain ⟨e5, hzv⟩ := hJ5
      rw [e5] at N5 off5
      have hv5 : rv[j]? = some v5 := by simpa using hPv5
      obtain ⟨x, hxx, D6, t6, t6', c6, rfl, m6⟩ := hrv.get hv5
      obtain ⟨y, hy, rfl⟩ := castL_at hxx
      have m6' : (D6, RatO (y : Rat) t6 t6' c6) ∈ LN := by rw [eLN]; exact List.mem_cons_of_mem _ (List.mem_cons_of_mem _ (List.mem_cons_of_mem _ (mem4 (hss3 _ m6))))
      have m6b : (D6, RatO (y : Rat) t6 t6' c6) ∈ (I5, oI5) :: (C5, oC5) :: (D5, LCg.lst zv) :: LN := List.mem_cons_of_mem _ (List.mem_cons_of_mem _ (List.mem_cons_of_mem _ m6'))
      clear F8 N8 hPv5
      refine k9 ?_
      clear k9
      k_steps
      unfold Hold
      exact comp_end (by k_asm) (by k_asm) LN (fun _ h => h) off5 (.inr ⟨_, ml8, rfl, _, rfl⟩) ⟨rfl, by rw [take_step hy]; exact hzv.snoc ⟨_, rfl⟩⟩
    case fin5 =>
      intro zv nx5 hJ5 D5 h5 tk5 F5 N5 off5
      obtain ⟨e5, hzv⟩ := hJ5
      rw [e5, eLN] at N5 off5
      rw [List.size_toArray, hrl, hcl, ← hzl0, List.take_length] at hzv
      have o5m := off1_mem off5
      clear F8 N8
      k_steps
      (try unfold Hold)
      refine comp_end F5 N5 ((L + 1 + 1 + 1 + 1, o4) :: (L + 1 + 1 + 1, o3) :: (L + 1 + 1, o2) :: (L + 1, o1) :: (D5, LCg.lst zv) :: tl3) sub_at7 (off3_ins4 off (nsy o5m (by k_mem)) (nsy o5m (by k_mem)) (nsy o5m (by k_mem))) (.inr ⟨_, mem4 (List.mem_cons_of_mem _ (hss3 _ mD)), rfl, _, rfl⟩) ⟨(D5, LCg.lst zv) :: tl3, rfl, fun p hp => List.mem_cons_of_mem _ (hss3 p hp), ?_, offL_cons (offL_ne o5m (by k_mem) (by k_mem) (by k_mem) (by k_mem)) htl3⟩
      rw [take_step hz0]
      exact (hyv.mono fun _ _ y => y.mono (led_mono fun p hp => List.mem_cons_of_mem _ hp)).snoc ⟨D5, zv, _, rfl, List.mem_cons_self .., hzv⟩
  case fin4 =>
    intro yv nx hJ D4 h4 tk4 F4 N4 off4
    refine hide_goal fun G9 k9 => ?_
    obtain ⟨tl3, rfl, hss3, hyv, htl3⟩ := hJ
    rw [List.size_toArray, hyl, List.take_length] at hyv
    clear F9 N9
    obtain ⟨a3, b3, c3, rfl⟩ := three_of hzl2
    obtain ⟨za, zb, zc, rfl⟩ := three_of hzl
    obtain ⟨ha, sa⟩ := hzb za (by simp)
    obtain ⟨hb, sb⟩ := hzb zb (by simp)
    obtain ⟨hc, sc⟩ := hzb zc (by simp)
    obtain ⟨a0, a1, a2, rfl⟩ := three_of ha
    obtain ⟨b0, b1, b2, rfl⟩ := three_of hb
    obtain ⟨c0, c1, c2, rfl⟩ := three_of hc
    obtain ⟨⟨pa0, qa0⟩, ⟨pa1, qa1⟩, ⟨pa2, qa2⟩⟩ := small3 sa
    obtain ⟨⟨pb0, qb0⟩, ⟨pb1, qb1⟩, ⟨pb2, qb2⟩⟩ := small3 sb
    obtain ⟨⟨pc0, qc0⟩, ⟨pc1, qc1⟩, ⟨pc2, qc2⟩⟩ := small3 sc
    refine k9 ?_
    clear k9
    rcases hyv with _ | ⟨⟨A, av, nA, rfl, mA, hav⟩, _ | ⟨⟨B, bv, nB, rfl, mB, hbv⟩, _ | ⟨⟨C, cv, nC, rfl, mC, hcv⟩, _ | _⟩⟩⟩
    rcases hav with _ | ⟨⟨ta0, rfl⟩, _ | ⟨⟨ta1, rfl⟩, _ | ⟨⟨ta2, rfl⟩, _ | _⟩⟩⟩
    rcases hbv with _ | ⟨⟨tb0, rfl⟩, _ | ⟨⟨tb1, rfl⟩, _ | ⟨⟨tb2, rfl⟩, _ | _⟩⟩⟩
    rcases hcv with _ | ⟨⟨tc0, rfl⟩, _ | ⟨⟨tc1, rfl⟩, _ | ⟨⟨tc2, rfl⟩, _ | _⟩⟩⟩
    refine' kun_list (items := [Value.ref A, Value.ref B, Value.ref C].toArray) F4 N4 ⟨_, N4.get (List.mem_cons_self ..), rfl, _, rfl⟩ rfl rfl rfl ?_
    intro h5 F5 N5
    have NX : News h₀ L h5 ((L + 1 + 1 + 1 + 1, o4) :: (L + 1 + 1 + 1, o3) :: (L + 1 + 1, o2) :: (L + 1, o1) :: tl3) := fun p hp => N5 p (List.mem_cons_of_mem _ hp)
    clear F4 N4 N5
    have mA' : (A, listOf [Value.int a0 ta0, Value.int a1 ta1, Value.int a2 ta2].toArray nA) ∈ tl3 := mA
    have mB' : (B, listOf [Value.int b0 tb0, Value.int b1 tb1, Value.int b2 tb2].toArray nB) ∈ tl3 := mB
    have mC' : (C, listOf [Value.int c0 tc0, Value.int c1 tc1, Value.int c2 tc2].toArray nC) ∈ tl3 := mC
    clear mA mB mC
    have mkS : MarkW9 := .mk
    k_steps
    change wpAny _ _ _ _ _ _
    (rename MarkW9 => mkS)
    clear mkS
    iterate 2 walk1
    have mkS : MarkW9 := .mk
    k_steps
    change wpAny _ _ _ _ _ _
    (rename News _ _ _ _ => N9)
    (rename Fr _ _ _ _ => F9)
    exact lawS (D := D) (D2 := D2) (ys := ys) (ys2 := ys2) (tl := tl3) (a0 := a0) (a1 := a1) (a2 := a2) (a3 := a3) (b0 := b0) (b1 := b1) (b2 := b2) (b3 := b3) (c0 := c0) (c1 := c1) (c2 := c2) (c3 := c3) K0 KX T F9 N9 q1 hL0 hI0 hns0 q2 q3 q4 (hss3 _ mD) (hss3 _ mD2) (hys.mono fun _ _ y => y.mono (led_mono hss3)) sa sb sc (hys2.mono fun _ _ y => y.mono (led_mono hss3)) hzb2 htl3 (by exact n_sides) (by rfl) hE hend
end
end
section
section
local macro_rules | `(tactic| k_lt $h:ident) => `(tactic| skip)
theorem words26 : True := by
  k_with_none
  k_with "ne9" => (refine neN ?_; (try dsimp only); first | with_reducible assumption | exact Ne.symm (by with_reducible assumption) | exact pj0 (by with_reducible assumption) | exact pj1 (by with_reducible assumption) | exact pj2 (by with_reducible assumption) | exact pj3 (by with_reducible assumption) | exact pj4 (by with_reducible assumption) | exact pj5 (by with_reducible assumption) | exact pj6 (by with_reducible assumption) | exact pj7 (by with_reducible assumption) | exact pj8 (by with_reducible assumption) | exact pj9 (by with_reducible assumption) | exact pj10 (by with_reducible assumption) | exact pj11 (by with_reducible assumption) | exact Ne.symm (pj0 (by with_reducible assumption)) | exact Ne.symm (pj1 (by with_reducible assumption)) | exact Ne.symm (pj2 (by with_reducible assumption)) | exact Ne.symm (pj3 (by with_reducible assumption)) | exact Ne.symm (pj4 (by with_reducible assumption)) | exact Ne.symm (pj5 (by with_reducible assumption)) | exact Ne.symm (pj6 (by with_reducible assumption)) | exact Ne.symm (pj7 (by with_reducible assumption)) | exact Ne.symm (pj8 (by with_reducible assumption)) | exact Ne.symm (pj9 (by with_reducible assumption)) | exact Ne.symm (pj10 (by with_reducible assumption)) | exact Ne.symm (pj11 (by with_reducible assumption)) | exact ad1 | exact ad2 | exact ad3 | exact ad4 | exact ad5 | exact ad6 | exact ad7 | exact ad8 | exact Ne.symm ad1 | exact Ne.symm ad2 | exact Ne.symm ad3 | exact Ne.symm ad4 | exact Ne.symm ad5 | exact Ne.symm ad6 | exact Ne.symm ad7 | exact Ne.symm ad8 | exact Nat.ne_of_lt (by with_reducible assumption) | exact Nat.ne_of_gt (by with_reducible assumption) | exact Nat.ne_of_lt (pj0 (by with_reducible assumption)) | exact Nat.ne_of_lt (pj1 (by with_reducible assumption)) | exact Nat.ne_of_lt (pj2 (by with_reducible assumption)) | exact Nat.ne_of_lt (pj3 (by with_reducible assumption)) | exact Nat.ne_of_lt (pj4 (by with_reducible assumption)) | exact Nat.ne_of_lt (pj5 (by with_reducible assumption)) | exact Nat.ne_of_lt (pj6 (by with_reducible assumption)) | exact Nat.ne_of_lt (pj7 (by with_reducible assumption)) | exact Nat.ne_of_lt (pj8 (by with_reducible assumption)) | exact Nat.ne_of_lt (pj9 (by with_reducible assumption)) | exact Nat.ne_of_lt (pj10 (by with_reducible assumption)) | exact Nat.ne_of_lt (pj11 (by with_reducible assumption)) | exact Nat.ne_of_gt (pj0 (by with_reducible assumption)) | exact Nat.ne_of_gt (pj1 (by with_reducible assumption)) | exact Nat.ne_of_gt (pj2 (by with_reducible assumption)) | exact Nat.ne_of_gt (pj3 (by with_reducible assumption)) | exact Nat.ne_of_gt (pj4 (by with_reducible assumption)) | exact Nat.ne_of_gt (pj5 (by with_reducible assumption)) | exact Nat.ne_of_gt (pj6 (by with_reducible assumption)) | exact Nat.ne_of_gt (pj7 (by with_reducible assumption)) | exact Nat.ne_of_gt (pj8 (by with_reducible assumption)) | exact Nat.ne_of_gt (pj9 (by with_reducible assumption)) | exact Nat.ne_of_gt (pj10 (by with_reducible assumption)) | exact Nat.ne_of_gt (pj11 (by with_reducible assumption)) | omega)
  k_with "k_ne" => (walk_at "ne9")
  k_with "k_in" => (refine' in_of ?z112fF ?z112fX; (case z112fF => k_asm); (case z112fX => k_asm))
  k_with "eval Name" => (k_here; k_dflt (refine' nameX_L ?z113k1 ?z113k2 ?_ ?z113k3 ?z113k4; (case z113k3 => rfl); (case z113k4 => rfl); (case z113k1 => k_asm); (case z113k2 => first | exact rfl | assumption); k_whole))
  k_with "size_fits" => ((simp only [List.size_toArray]); rw [sizeLine_eq]; omega)
  k_with "hat9" => (first | exact News.get (by k_asm) (by k_mem) | exact Fr.keep (by k_asm) _ _ (by with_reducible assumption) | exact Tk.get (by k_asm) (by k_asm) (by with_reducible assumption) (by intro p9 hp9; first | exact hp9 | exact absurd hp9 List.not_mem_nil | (repeat (first | exact hp9 | refine List.mem_cons_of_mem _ ?_))) | exact Frag.In.keeps (by k_asm) (Fr.keep (by k_asm)) _ _ (by k_is))
  k_with "bits_by_make" => (with_reducible assumption)
  k_with "ktr_units" => ((try simp only [units_under_make, units_in1, units_deeper, Around.mark_units, units_caller]); (try dsimp only [ktrTop]); first | exact un1 (by with_reducible assumption) (Nat.le_of_ble_eq_true rfl) | exact un2 (by with_reducible assumption) (Nat.le_of_ble_eq_true rfl) | exact un3 (by with_reducible assumption) (Nat.le_of_ble_eq_true rfl) | (have hcL9 := cLine_is; omega))
  k_with "binaryOp Mod int int" => (k_here; (with_reducible refine mod_gen ?z114mp ?_); (case z114mp => decide); walk_at "i18")
  k_with "call ref" => (k_here; (with_reducible show wpAny _ _ (call (Value.ref 69) [Value.int _ _, Value.int _ _]) _ _ _); k_dflt (refine' frac_use ?z115k1 ?z115k2 ?z115k3 ?z115k4 ?z115k5 ?z115k6 ?z115k7 ?z115k8 ?z115k9 ?z115k10 ?z115k11 ?z115k12 ?z115k13 ?_; (case z115k1 => k_asm); (case z115k2 => k_asm); (case z115k3 => k_asm); (case z115k4 => k_asm); (case z115k5 => k_asm); (case z115k6 => first | exact rfl | assumption); (case z115k7 => first | exact Nat.le_of_ble_eq_true rfl | ktr_room); (case z115k8 => first | exact Nat.le_of_ble_eq_true rfl | ktr_units); (case z115k10 => bits_by_make); (case z115k11 => bits_by_make); (case z115k12 => decide); (case z115k13 => decide); (case z115k9 => first | exact nzden _ | omega | ((try k_fmods); omega) | (refine nzmul ?_ ?_ <;> first | exact nzden _ | omega)); k_whole); walk_at "i5"; (try k_sweep))
  k_with "call ref" => (k_here; (with_reducible show wpAny _ _ (call (Value.ref 69) [Value.int _ _, Value.int 1 _]) _ _ _); k_dflt (refine' frac_one ?z116k1 ?z116k2 ?z116k3 ?z116k4 ?z116k5 ?z116k6 ?z116k7 ?z116k8 ?z116k10 ?z116k12 ?_; (case z116k1 => k_asm); (case z116k2 => k_asm); (case z116k3 => k_asm); (case z116k4 => k_asm); (case z116k5 => k_asm); (case z116k6 => first | exact rfl | assumption); (case z116k7 => first | exact Nat.le_of_ble_eq_true rfl | ktr_room); (case z116k8 => first | exact Nat.le_of_ble_eq_true rfl | ktr_units); (case z116k10 => bits_by_make); (case z116k12 => decide); k_whole); walk_at "i6"; (try k_sweep))
  k_with "call ref" => (k_here; (with_reducible show wpAny _ _ (call (Value.ref 69) [Value.int _ _]) _ _ _); k_dflt (refine' frac_dflt ?z117k1 ?z117k2 ?z117k3 ?z117k4 ?z117k5 ?z117k6 ?z117k7 ?z117k8 ?z117k10 ?z117k12 ?_; (case z117k1 => k_asm); (case z117k2 => k_asm); (case z117k3 => k_asm); (case z117k4 => k_asm); (case z117k5 => k_asm); (case z117k6 => first | exact rfl | assumption); (case z117k7 => first | exact Nat.le_of_ble_eq_true rfl | ktr_room); (case z117k8 => first | exact Nat.le_of_ble_eq_true rfl | ktr_units); (case z117k10 => bits_by_make); (case z117k12 => decide); k_whole); walk_at "i6"; (try k_sweep))
  k_with "bits_by_make" => (first | with_reducible assumption | exact bits64 (by omega) (by omega))
  k_with "execs cons" => (walk_at "i19"; refine Hold.out ?_)
  k_with "eval ListComp" => (k_here; k_dflt (refine LCg.ListComp_U (F₀ := by k_asm) (by with_unfolding_all rfl) (by decide) (by rfl) (by decide) (by rfl) ?_))
  k_with "eval ListComp" => (k_here; k_dflt (refine ListComp_C (_F₀ := by k_asm) (by with_unfolding_all rfl) (by intros; rfl) (by intros; rfl) (by rfl) (by decide) (by rfl) ?_))
  k_with "SrcC" => (refine Hold.out ?_)
  k_with "CompEndC" => (refine Hold.out ?_)
  k_with "exec Assign cons ListComp" => (k_here; k_dflt (refine LCg.Assign_ListComp_U (F₀ := by k_asm) (by rfl) (by with_unfolding_all rfl) (by with_unfolding_all rfl) (by decide) (by rfl) (by decide) (by rfl) (by rfl) (by rfl) ?_))
  k_with "k_all" => (first | with_reducible assumption | (refine' fcons (?z118a) (?z118b); (case z118a => k_ne); (case z118b => k_all)))
  k_with "CompSrc" => (refine Hold.out ?_)
  k_with "CompEnd" => (show LCg.CompEnd _ _ _ _ _ _ _ _ _ _ _ _ _ _; refine Hold.out ?_)
  trivial
theorem lawR {w0 : World} {p : Program} {loose : List Str} {mean : ExcName → Option Value} {mg mb : Str → Option Value} {fa L : Addr} {cc : Value} {h₀ : Heap} {Q : Flow → Shared → Prop} {EX : Value → Shared → Prop} {m : Str → Option Value} {s : Shared} {o1 o2 o3 o4 : Obj} {l0 : Addr} {vs0 : List Value} {ns0 : List Int} 
    (K0 : Below callerA h₀ [] h₀) (KX : (HD.K w0.params).In h₀) (T : Top p loose mean mg mb h₀) (F : Fr h₀ L s.heap m) (N : News h₀ L s.heap ((L + 1 + 1 + 1 + 1, o4) :: (L + 1 + 1 + 1, o3) :: (L + 1 + 1, o2) :: (L + 1, o1) :: []))
    (q1 : o1.data = .cell (some (.ref l0))) (hL0 : h₀.IsList l0 vs0.toArray) (hI0 : IntsAre vs0 ns0) (hns0 : ns0.length ≤ 63) (q2 : o2.data = .cell none) (q3 : o3.data = .cell none) (q4 : o4.data = .cell none)
    
    (hE : PassesOwn (model PySem.Challenge.rw_ui0509_08.row.prog w0) (callerA.deeper (envOfC HD.dH.name HD.dH.scope L fa cc)) (envOfC HD.dH.name HD.dH.scope L fa cc) EX)
    (hend : ∀ (h' : Heap) (tk' : Nat) (m' : Str → Option Value), Fr h₀ L h' m' → Q (.ret (.bool true)) { s with heap := h', toks := tk' }) :
    wpAny (model PySem.Challenge.rw_ui0509_08.row.prog w0) (callerA.deeper (envOfC HD.dH.name HD.dH.scope L fa cc)) (execs (HD.fb29.1.drop 14) (envOfC HD.dH.name HD.dH.scope L fa cc)) Q EX s := by
  w_top off
  revert KX; k_fill; intro KX
  dsimp only [HD.dH, HD.fb29, HD.fs29, List.drop_succ_cons, List.drop_zero]
  k_steps
  unfold Hold
  (rename Fr _ _ _ _ => F9)
  (rename News _ _ _ _ => N9)
  (rename IsRange _ _ _ _ _ _ _ _ => hrg9)
  refine ⟨_, 0, 3, _, _, _, 3, _, rfl, rfl, F9, N9, hrg9, by decide +kernel, by decide +kernel, by decide +kernel, fun i ys nx => ∃ tl zs, nx = (L + 1 + 1 + 1 + 1, o4) :: (L + 1 + 1 + 1, o3) :: (L + 1 + 1, o2) :: (L + 1, o1) :: tl ∧ zs.length = i ∧ All2 (fun v z => RatsN (Led tl) v (castL z)) ys zs ∧ (∀ z ∈ zs, z.length = 3 ∧ Small z) ∧ (∀ p ∈ tl, OffL L p.1), ⟨[], [], rfl, rfl, .nil, (fun _ h => nomatch h), (fun _ h => nomatch h)⟩, ?turn1, ?fin1⟩
  case turn1 =>
    intro i v I oI C oC X oX D h tk E' ys nx hi hJ hv hX Fm Nn off ne
    refine hide_goal fun G9 k9 => ?_
    obtain ⟨tl, zs, rfl, hzl, hys, hzb, htl⟩ := hJ
    obtain ⟨t9, rfl⟩ := hv
    clear F9 N9 hrg9
    refine k9 ?_
    clear k9
    k_steps
    unfold Hold
    refine LCg.CompSrc.range (n := 3) (news := (I, oI) :: (C, oC) :: (X, oX) :: (D, LCg.lst ys) :: (L + 1 + 1 + 1 + 1, o4) :: (L + 1 + 1 + 1, o3) :: (L + 1 + 1, o2) :: (L + 1, o1) :: tl) rfl (by k_asm) (by k_asm) (by assumption) (by decide +kernel) (by decide +kernel) (by decide +kernel) (fun g9 => ?_)
    refine comp_ind (fun j ys2 nx2 => ∃ tl2 z, nx2 = (I, oI) :: (C, oC) :: (X, oX) :: (D, LCg.lst ys) :: (L + 1 + 1 + 1 + 1, o4) :: (L + 1 + 1 + 1, o3) :: (L + 1 + 1, o2) :: (L + 1, o1) :: tl2 ∧ (∀ p ∈ tl, p ∈ tl2) ∧ z.length = j ∧ All2 (RatN (Led tl2)) ys2 (castL z) ∧ Small z ∧ (∀ p ∈ tl2, OffL L p.1) ∧ Off4 I C X D tl2) ?turn2 ?fin2 _ 0 [] _ (Nat.zero_add _) ⟨tl, [], rfl, fun _ h => h, rfl, .nil, (fun _ h => nomatch h), htl, fun p hp => off p (mem4 hp)⟩
    case turn2 =>
      intro j v2 I2 oI2 C2 oC2 D2 m2 h2 tk2 E2 ys2 nx2 hj hJ2 hP2 hC2 hx2 F2 N2 off2 ne2
      refine hide_goal fun G9 k9 => ?_
      obtain ⟨tl2, z, rfl, hss, hzl2, hys2, hzb2, htl2, offt⟩ := hJ2
      obtain ⟨t8, rfl⟩ := hP2
      (try clear Fm)
      (try clear Nn)
      refine k9 ?_
      clear k9
      k_steps
      unfold Hold
      rename_i v3 a3 b3 e3 D3 t3 u3 c3 h3 tk3 F3 N3 l3
      refine comp_end F3 N3 ((I, oI) :: (C, oC) :: (X, oX) :: (D, LCg.lst ys) :: (L + 1 + 1 + 1 + 1, o4) :: (L + 1 + 1 + 1, o3) :: (L + 1 + 1, o2) :: (L + 1, o1) :: (D3, T2 (v3 - 4) 1 t3 u3 c3) :: tl2) sub_at11 (off3_ins8 off2 (ngt l3 (by k_mem)) (ngt l3 (by k_mem)) (ngt l3 (by k_mem))) trivial ⟨(D3, T2 (v3 - 4) 1 t3 u3 c3) :: tl2, z ++ [v3 - 4], rfl, fun p hp => List.mem_cons_of_mem _ (hss p hp), by rw [List.length_append, hzl2]; rfl, ?_, small_snoc hzb2 (by omega) (by omega), offL_cons (offL_of l3 (by k_mem) (by k_mem) (by k_mem) (by k_mem)) htl2, fcons (⟨ngt l3 (by k_mem), ngt l3 (by k_mem), ngt l3 (by k_mem), ngt l3 (by k_mem)⟩) offt⟩
      rw [castL_snoc]
      exact (hys2.mono fun _ _ y => y.mono (led_mono fun p hp => List.mem_cons_of_mem _ hp)).snoc (ratL (List.mem_cons_self ..))
    case fin2 =>
      intro ys2 nx2 hJ2 D2 h2 tk2 F2 N2 off1
      refine hide_goal fun G9 k9 => ?_
      obtain ⟨tl2, z, rfl, hss, hzl2, hys2, hzb2, htl2, offt⟩ := hJ2
      (try clear Fm)
      (try clear Nn)
      refine k9 ?_
      clear k9
      k_steps
      (try unfold Hold)
      have o1m := off1_mem off1
      refine comp_endC F2 N2 ((L + 1 + 1 + 1 + 1, o4) :: (L + 1 + 1 + 1, o3) :: (L + 1 + 1, o2) :: (L + 1, o1) :: (D2, LCg.lst ys2) :: tl2) sub_at8 (fun p hp => ?_) ⟨(D2, LCg.lst ys2) :: tl2, zs ++ [z], rfl, by rw [List.length_append, hzl]; rfl, (hys.mono fun _ _ y => y.mono (led_mono fun p hp => List.mem_cons_of_mem _ (hss p hp))).snoc (rats_new (List.mem_cons_self ..) (hys2.mono fun _ _ y => y.mono (led_mono fun p hp => List.mem_cons_of_mem _ hp))), List.forall_mem_append.mpr ⟨hzb, fcons (⟨hzl2, hzb2⟩) (List.forall_mem_nil _)⟩, offL_cons (offL_ne o1m (by k_mem) (by k_mem) (by k_mem) (by k_mem)) htl2⟩
      rcases List.mem_cons.mp (sub_at4 p hp) with rfl | hp
      · exact ⟨nsy o1m (by k_mem), nsy o1m (by k_mem), nsy o1m (by k_mem), nsy o1m (by k_mem)⟩
      · rcases List.mem_append.mp (show p ∈ [(L + 1 + 1 + 1 + 1, o4), (L + 1 + 1 + 1, o3), (L + 1 + 1, o2), (L + 1, o1)] ++ tl2 from hp) with hp | hp
        · exact off p (List.mem_append_left tl hp)
        · exact offt p hp
  case fin1 =>
    intro ys nx hJ D h tk Fm Nn off1
    refine hide_goal fun G9 k9 => ?_
    obtain ⟨tl, zs, rfl, hzl, hys, hzb, htl⟩ := hJ
    clear F9 N9 hrg9
    refine k9 ?_
    clear k9
    (rename Fr h₀ L s.heap m => F0)
    (rename News h₀ L s.heap _ => N0)
    refine hide_goal fun G9 k9 => ?_
    clear F0 N0
    have htl3 : ∀ p ∈ tl, p.1 ≠ L + 1 + 1 + 1 := fun p hp => (htl p hp).2.2.1
    obtain ⟨d4, d3, d2, d1, off1'⟩ := off1
    dsimp only at d4 d3 d2 d1
    refine k9 ?_
    clear k9
    k_steps
    unfold Hold
    (rename Obj => o5)
    (rename _ = Data.cell (some (Value.ref D)) => q5)
    (rename News _ _ _ _ => N5)
    (rename Fr _ _ _ _ => F5)
    have N6 : News h₀ L _ ((L + 1 + 1 + 1 + 1, o4) :: (L + 1 + 1 + 1, o5) :: (L + 1 + 1, o2) :: (L + 1, o1) :: (D, LCg.lst ys) :: tl) := fun p hp => N5 p (sub_at4 p hp)
    have htlD : ∀ p ∈ (D, LCg.lst ys) :: tl, OffL L p.1 := offL_cons ⟨d1.symm, d2.symm, d3.symm, d4.symm⟩ htl
    clear N5
    refine LCg.CompSrc.range (n := 3) (news := (L + 1 + 1 + 1 + 1, o4) :: (L + 1 + 1 + 1, o5) :: (L + 1 + 1, o2) :: (L + 1, o1) :: (D, LCg.lst ys) :: tl) rfl F5 N6 (by assumption) (by decide +kernel) (by decide +kernel) (by decide +kernel) (fun g9 => ?_)
    refine comp_ind (fun j ys2 nx2 => ∃ tl2 z, nx2 = (L + 1 + 1 + 1 + 1, o4) :: (L + 1 + 1 + 1, o5) :: (L + 1 + 1, o2) :: (L + 1, o1) :: tl2 ∧ (∀ p ∈ (D, LCg.lst ys) :: tl, p ∈ tl2) ∧ z.length = j ∧ All2 (RatN (Led tl2)) ys2 (castL z) ∧ Small z ∧ (∀ p ∈ tl2, OffL L p.1)) ?turn3 ?fin3 _ 0 [] _ (Nat.zero_add _) ⟨(D, LCg.lst ys) :: tl, [], rfl, fun _ h => h, rfl, .nil, (fun _ h => nomatch h), htlD⟩
    case turn3 =>
      intro j v2 I2 oI2 C2 oC2 D2 m2 h2 tk2 E2 ys2 nx2 hj hJ2 hP2 hC2 hx2 F2 N2 off2 ne2
      refine hide_goal fun G9 k9 => ?_
      obtain ⟨tl2, z, rfl, hss, hzl2, hys2, hzb2, htl2⟩ := hJ2
      obtain ⟨t8, rfl⟩ := hP2
      clear F5 N6
      refine k9 ?_
      clear k9
      k_steps
      unfold Hold
      rename_i v3 a3 b3 e3 D3 t3 u3 c3 h3 tk3 F3 N3 l3
      refine comp_end F3 N3 ((L + 1 + 1 + 1 + 1, o4) :: (L + 1 + 1 + 1, o5) :: (L + 1 + 1, o2) :: (L + 1, o1) :: (D3, T2 (v3 - 9) 1 t3 u3 c3) :: tl2) sub_at7 (off3_ins4 off2 (ngt l3 (by k_mem)) (ngt l3 (by k_mem)) (ngt l3 (by k_mem))) trivial ⟨(D3, T2 (v3 - 9) 1 t3 u3 c3) :: tl2, z ++ [v3 - 9], rfl, fun p hp => List.mem_cons_of_mem _ (hss p hp), by rw [List.length_append, hzl2]; rfl, ?_, small_snoc hzb2 (by omega) (by omega), offL_cons (offL_of l3 (by k_mem) (by k_mem) (by k_mem) (by k_mem)) htl2⟩
      rw [castL_snoc]
      exact (hys2.mono fun _ _ y => y.mono (led_mono fun p hp => List.mem_cons_of_mem _ hp)).snoc (ratL (List.mem_cons_self ..))
    case fin3 =>
      intro ys2 nx2 hJ2 D2 h2 tk2 F2 N2 off2
      refine hide_goal fun G9 k9 => ?_
      obtain ⟨tl2, z, rfl, hss, hzl2, hys2, hzb2, htl2⟩ := hJ2
      have o2m := off1_mem off2
      have htlE : ∀ p ∈ (D2, LCg.lst ys2) :: tl2, OffL L p.1 := offL_cons (offL_ne o2m (by k_mem) (by k_mem) (by k_mem) (by k_mem)) htl2
      clear F5 N6
      have mkS : MarkW9 := .mk
      refine k9 ?_
      clear k9
      k_steps
      change wpAny _ _ _ _ _ _
      (rename News _ _ _ _ => N7)
      (rename Fr _ _ _ _ => F7)
      exact lawQ (D := D) (D2 := D2) (ys := ys) (ys2 := ys2) (zs := zs) (z := z) (tl := (D2, LCg.lst ys2) :: tl2) K0 KX T F7 (fun p hp => N7 p (sub_at4 p hp)) q1 hL0 hI0 hns0 q2 q5 q4 (List.mem_cons_of_mem _ (hss _ (List.mem_cons_self ..))) (List.mem_cons_self ..) hzl (hys.mono fun _ _ y => y.mono (led_mono fun p hp => List.mem_cons_of_mem _ (hss _ (List.mem_cons_of_mem _ hp)))) hzb hzl2 (hys2.mono fun _ _ y => y.mono (led_mono fun p hp => List.mem_cons_of_mem _ hp)) hzb2 htlE (by rfl) hE hend
end
end
end Mine
open Mine
local macro_rules | `(tactic| walk_at "i21") => `(tactic| (intro x' hx'))
namespace Mine
section
section
theorem words27 : True := by
  k_with_none
  k_with "ne9" => (refine neN ?_; (try dsimp only); first | with_reducible assumption | exact Ne.symm (by with_reducible assumption) | exact pj0 (by with_reducible assumption) | exact pj1 (by with_reducible assumption) | exact pj2 (by with_reducible assumption) | exact pj3 (by with_reducible assumption) | exact pj4 (by with_reducible assumption) | exact pj5 (by with_reducible assumption) | exact pj6 (by with_reducible assumption) | exact pj7 (by with_reducible assumption) | exact pj8 (by with_reducible assumption) | exact pj9 (by with_reducible assumption) | exact pj10 (by with_reducible assumption) | exact pj11 (by with_reducible assumption) | exact Ne.symm (pj0 (by with_reducible assumption)) | exact Ne.symm (pj1 (by with_reducible assumption)) | exact Ne.symm (pj2 (by with_reducible assumption)) | exact Ne.symm (pj3 (by with_reducible assumption)) | exact Ne.symm (pj4 (by with_reducible assumption)) | exact Ne.symm (pj5 (by with_reducible assumption)) | exact Ne.symm (pj6 (by with_reducible assumption)) | exact Ne.symm (pj7 (by with_reducible assumption)) | exact Ne.symm (pj8 (by with_reducible assumption)) | exact Ne.symm (pj9 (by with_reducible assumption)) | exact Ne.symm (pj10 (by with_reducible assumption)) | exact Ne.symm (pj11 (by with_reducible assumption)) | exact ad1 | exact ad2 | exact ad3 | exact ad4 | exact ad5 | exact ad6 | exact ad7 | exact ad8 | exact Ne.symm ad1 | exact Ne.symm ad2 | exact Ne.symm ad3 | exact Ne.symm ad4 | exact Ne.symm ad5 | exact Ne.symm ad6 | exact Ne.symm ad7 | exact Ne.symm ad8 | exact Nat.ne_of_lt (by with_reducible assumption) | exact Nat.ne_of_gt (by with_reducible assumption) | exact Nat.ne_of_lt (pj0 (by with_reducible assumption)) | exact Nat.ne_of_lt (pj1 (by with_reducible assumption)) | exact Nat.ne_of_lt (pj2 (by with_reducible assumption)) | exact Nat.ne_of_lt (pj3 (by with_reducible assumption)) | exact Nat.ne_of_lt (pj4 (by with_reducible assumption)) | exact Nat.ne_of_lt (pj5 (by with_reducible assumption)) | exact Nat.ne_of_lt (pj6 (by with_reducible assumption)) | exact Nat.ne_of_lt (pj7 (by with_reducible assumption)) | exact Nat.ne_of_lt (pj8 (by with_reducible assumption)) | exact Nat.ne_of_lt (pj9 (by with_reducible assumption)) | exact Nat.ne_of_lt (pj10 (by with_reducible assumption)) | exact Nat.ne_of_lt (pj11 (by with_reducible assumption)) | exact Nat.ne_of_gt (pj0 (by with_reducible assumption)) | exact Nat.ne_of_gt (pj1 (by with_reducible assumption)) | exact Nat.ne_of_gt (pj2 (by with_reducible assumption)) | exact Nat.ne_of_gt (pj3 (by with_reducible assumption)) | exact Nat.ne_of_gt (pj4 (by with_reducible assumption)) | exact Nat.ne_of_gt (pj5 (by with_reducible assumption)) | exact Nat.ne_of_gt (pj6 (by with_reducible assumption)) | exact Nat.ne_of_gt (pj7 (by with_reducible assumption)) | exact Nat.ne_of_gt (pj8 (by with_reducible assumption)) | exact Nat.ne_of_gt (pj9 (by with_reducible assumption)) | exact Nat.ne_of_gt (pj10 (by with_reducible assumption)) | exact Nat.ne_of_gt (pj11 (by with_reducible assumption)) | omega)
  k_with "k_ne" => (walk_at "ne9")
  k_with "k_in" => (refine' in_of ?z119fF ?z119fX; (case z119fF => k_asm); (case z119fX => k_asm))
  k_with "subscriptTail" => (k_here; (with_reducible show wpAny _ _ (subscriptTail (Expr.List _ _) _ (Value.ref _) (Value.int _ _)) _ _ _); k_dflt (refine kba_turn (value' := PySem.Expr.Name (PySem.Str.ofString "_") ⟨0, 0, 0, 0⟩) (fun _ => rfl) ?_; refine' idx_any ?z120k1 ?z120k2 ?z120k3 ?z120k4 ?z120k5 ?z120k6 ?z120k7 ?_ ?z120k8 ?z120k9; (case z120k1 => k_asm); (case z120k2 => k_mem); (case z120k3 => exact rfl); (case z120k4 => exact rfl); (case z120k5 => omega); (case z120k6 => (simp only [List.length_cons, List.length_nil]; omega)); (case z120k7 => (simp only [List.length_cons, List.length_nil]; decide)); (case z120k8 => with_unfolding_all rfl); (case z120k9 => (intro _; with_unfolding_all rfl)); k_whole); walk_at "i21")
  k_with "eval Name" => (k_here; k_dflt (refine' nameX_L ?z121k1 ?z121k2 ?_ ?z121k3 ?z121k4; (case z121k3 => rfl); (case z121k4 => rfl); (case z121k1 => k_asm); (case z121k2 => first | exact rfl | assumption); k_whole))
  k_with "size_fits" => ((simp only [List.size_toArray]); rw [sizeLine_eq]; omega)
  k_with "hat9" => (first | exact News.get (by k_asm) (by k_mem) | exact Fr.keep (by k_asm) _ _ (by with_reducible assumption) | exact Tk.get (by k_asm) (by k_asm) (by with_reducible assumption) (by intro p9 hp9; first | exact hp9 | exact absurd hp9 List.not_mem_nil | (repeat (first | exact hp9 | refine List.mem_cons_of_mem _ ?_))) | exact Frag.In.keeps (by k_asm) (Fr.keep (by k_asm)) _ _ (by k_is))
  k_with "bits_by_make" => (with_reducible assumption)
  k_with "ktr_units" => ((try simp only [units_under_make, units_in1, units_deeper, Around.mark_units, units_caller]); (try dsimp only [ktrTop]); first | exact un1 (by with_reducible assumption) (Nat.le_of_ble_eq_true rfl) | exact un2 (by with_reducible assumption) (Nat.le_of_ble_eq_true rfl) | exact un3 (by with_reducible assumption) (Nat.le_of_ble_eq_true rfl) | (have hcL9 := cLine_is; omega))
  k_with "binaryOp Mod int int" => (k_here; (with_reducible refine mod_gen ?z122mp ?_); (case z122mp => decide); walk_at "i18")
  k_with "bits_by_make" => (first | with_reducible assumption | exact bits64 (by omega) (by omega))
  k_with "execs cons" => (walk_at "i19"; refine Hold.out ?_)
  k_with "noteFrame ref" => (k_here; walk_at "i20")
  k_with "exec Try" => ((with_reducible show wpAny _ _ (exec (Stmt.Try _ (_ :: _) _ [] _) _) _ _ _); refine wpAny_Try_except ?_)
  k_with "exec For" => (k_here; walk_at "i11")
  k_with "exec For Name Name cons nil" => (k_here; walk_at "i11")
  k_with "exec For Name Call cons nil" => (k_here; walk_at "i11")
  k_with "exec For Tuple Name cons nil" => (k_here; walk_at "i11")
  k_with "exec For Tuple Call cons nil" => (k_here; walk_at "i11")
  k_with "exec For Name Attribute cons nil" => (k_here; walk_at "i11")
  k_with "exec For Tuple Attribute cons nil" => (k_here; walk_at "i11")
  k_with "exec For Tuple Subscript cons nil" => (k_here; walk_at "i11")
  k_with "pyIter ref" => ((with_reducible show wpAny _ _ (pyIter (Value.ref _)) (fun it s₂ => TurnsAt _ _ _ _ _ _ _ _ _ it s₂) _ _); refine Hold.out ?_)
  k_with "UnrPostW" => (dsimp only [UnrPostW])
  k_with "UnrEndW" => (refine Hold.out ?_)
  k_with "compareOp Eq ref ref" => (k_here; (with_reducible show wpAny _ _ (compareOp CmpOp.Eq (Value.ref _) (Value.ref _)) _ _ _); refine Hold.out ?_)
  k_with "compareOp NotEq ref ref" => (k_here; (with_reducible show wpAny _ _ (compareOp CmpOp.NotEq (Value.ref _) (Value.ref _)) _ _ _); refine Hold.out ?_)
  k_with "call ref" => (k_here; (with_reducible show wpAny _ _ (call (Value.ref 166) _) _ _ _); refine Hold.out ?_)
  k_with "call ref" => (k_here; (with_reducible show wpAny _ _ (call (Value.ref 53) _) _ _ _); refine Hold.out ?_)
  k_with "call ref" => (k_here; (with_reducible show wpAny _ _ (call (Value.ref 46) _) _ _ _); refine Hold.out ?_)
  k_with "call ref" => (k_here; (with_reducible show wpAny _ _ (call (Value.ref 77) _) _ _ _); refine Hold.out ?_)
  k_with "call ref" => (k_here; (with_reducible show wpAny _ _ (call (Value.ref 34) _) _ _ _); refine Hold.out ?_)
  trivial
theorem lawB {w0 : World} {p : Program} {loose : List Str} {mean : ExcName → Option Value} {mg mb : Str → Option Value} {fa L : Addr} {cc : Value} {h₀ : Heap} {Q : Flow → Shared → Prop} {EX : Value → Shared → Prop} {m : Str → Option Value} {s : Shared} {o1 o2 o3 o4 : Obj} {l0 : Addr} {vs0 : List Value} {ns0 : List Int} 
    (K0 : Below callerA h₀ [] h₀) (KX : (HD.K w0.params).In h₀) (T : Top p loose mean mg mb h₀) (F : Fr h₀ L s.heap m) (N : News h₀ L s.heap ((L + 1 + 1 + 1 + 1, o4) :: (L + 1 + 1 + 1, o3) :: (L + 1 + 1, o2) :: (L + 1, o1) :: []))
    (q1 : o1.data = .cell (some (.ref l0))) (hL0 : h₀.IsList l0 vs0.toArray) (hI0 : IntsAre vs0 ns0) (hns0 : ns0.length ≤ 63) (q2 : o2.data = .cell none) (q3 : o3.data = .cell none) (q4 : o4.data = .cell none)
    
    (hE : PassesOwn (model PySem.Challenge.rw_ui0509_08.row.prog w0) (callerA.deeper (envOfC HD.dH.name HD.dH.scope L fa cc)) (envOfC HD.dH.name HD.dH.scope L fa cc) EX)
    (hend : ∀ (h' : Heap) (tk' : Nat) (m' : Str → Option Value), Fr h₀ L h' m' → Q (.ret (.bool true)) { s with heap := h', toks := tk' }) :
    wpAny (model PySem.Challenge.rw_ui0509_08.row.prog w0) (callerA.deeper (envOfC HD.dH.name HD.dH.scope L fa cc)) (execs (HD.fb29.1.drop 10) (envOfC HD.dH.name HD.dH.scope L fa cc)) Q EX s := by
  w_top off
  revert KX; k_fill; intro KX
  dsimp only [HD.dH, HD.fb29, HD.fs29, List.drop_succ_cons, List.drop_zero]
  iterate 1 walk1
  have mkS : MarkW9 := .mk
  k_steps
  change wpAny _ _ _ _ _ _
  (rename MarkW9 => mkS)
  clear mkS
  k_steps
  unfold Hold
  (rename Fr _ _ _ _ => F8)
  (rename News _ _ _ _ => N8)
  (rename IsRange _ _ _ _ _ _ _ _ => hrg9)
  refine hide_goal fun G9 k9 => ?_
  obtain ⟨m9, em9, F9⟩ := fr_name9 F8
  obtain ⟨tx, tb, n_bad, hbad⟩ : ∃ tx t, m9 (Str.ofString "bad") = some (.str tx t) ∧ BadT tx := by
    obtain ⟨tx, t, ex, hb⟩ := pick_bad (by assumption)
    exact ⟨tx, t, (fr_at9 em9 _ _ (by rfl)).trans (congrArg some ex), hb⟩
  obtain ⟨lw, nw, n_words, hlw, NR⟩ : ∃ lw nw, m9 (Str.ofString "words") = some (.ref lw) ∧ @LT.lt Nat _ (L + 1 + 1 + 1 + 1) lw ∧ News h₀ L _ ((lw, listOf ([] : List Value).toArray nw) :: (L + 1 + 1 + 1 + 1, o4) :: (L + 1 + 1 + 1, o3) :: (L + 1 + 1, o2) :: (L + 1, o1) :: []) := ⟨_, _, fr_at9 em9 _ _ (by rfl), by omega, fcons (N8 _ (by k_mem)) (fun p hp => N8 p (((by intro p9 hp9; first | ((repeat (first | exact hp9 | exact List.mem_append_left _ hp9 | exact List.mem_append_right _ hp9 | refine List.mem_cons_of_mem _ ?_)); done) | (simp only [List.mem_cons, List.mem_append]; simp only [hp9, true_or, or_true])) : ∀ p ∈ ((L + 1 + 1 + 1 + 1, o4) :: (L + 1 + 1 + 1, o3) :: (L + 1 + 1, o2) :: (L + 1, o1) :: []), p ∈ _) p hp))⟩
  clear N8 F8 em9
  refine k9 ?_
  clear k9
  refine iter_rangeTurns (n := 5) rfl hrg9 (by decide +kernel) (by decide +kernel) F9 NR (fun I lI => ?_)
  refine items_ind (fun i m' nx => ∃ ws nw, nx = (lw, listOf ws.toArray nw) :: (L + 1 + 1 + 1 + 1, o4) :: (L + 1 + 1 + 1, o3) :: (L + 1 + 1, o2) :: (L + 1, o1) :: [] ∧ ws.length = i ∧ (∀ v ∈ ws, ∃ t, v = Value.str (Str.ofString "ValueError") t) ∧ m' (Str.ofString "bad") = some (.str tx tb) ∧ m' (Str.ofString "words") = some (.ref lw)) ?turn ?done _ 0 _ _ rfl (Nat.zero_le _) trivial (fun p hp => Nat.ne_of_lt (lI p hp)) ⟨[], nw, rfl, rfl, (fun _ h => nomatch h), n_bad, n_words⟩
  case turn =>
    intro i a v m' nx h tk o ha _ hI hJ hav Fm ho Nn
    refine hide_goal fun G9 k9 => ?_
    obtain ⟨ws, nw9, rfl, hwl, hws, q_bad, q_words⟩ := hJ
    obtain ⟨hi, rfl⟩ := rangeItems_get ha
    obtain ⟨t9, rfl⟩ := hav
    have hI1 : lw ≠ I := hI _ (List.mem_cons_self ..)
    have hI2 := allNe_of hI
    simp only [AllNe] at hI2
    clear ha F9 NR hI lI n_bad n_words
    refine k9 ?_
    clear k9
    rcases (by omega : i = 0 ∨ i = 1 ∨ i = 2 ∨ i = 3 ∨ i = 4) with rfl | rfl | rfl | rfl | rfl
    · k_steps
      change wpAny _ _ _ _ _ _
      refine' read_bad ?b1_u1 ?b2_u1 ?b3_u1 ?b4_u1 ?b5_u1 ?b6_u1 hbad ?k7_u1 ?k8_u1 ?_
      case b1_u1 => k_asm
      case b2_u1 => k_asm
      case b3_u1 => k_asm
      case b4_u1 => k_asm
      case b5_u1 => k_asm
      case b6_u1 => first | exact rfl | assumption
      case k7_u1 => ktr_room
      case k8_u1 => ktr_units
      intro T9 g9 e9 t8 u9 h9 tk9 Fg Ug R9
      k_steps
      unfold Hold
      (rename News _ _ _ _ => N7)
      (rename Fr _ _ _ _ => F7)
      exact unr_end ((lw, listOf (ws ++ [_]).toArray _) :: (L + 1 + 1 + 1 + 1, o4) :: (L + 1 + 1 + 1, o3) :: (L + 1 + 1, o2) :: (L + 1, o1) :: []) F7 (words_end2 N7 (by k_mem) (by k_mem) (fcons (by k_mem) (fcons (by k_mem) (fcons (by k_mem) (fcons (by k_mem) (List.forall_mem_nil _)))))) (List.mem_cons_self ..) (fun p hp => List.mem_cons_of_mem _ hp) (allNe_mem (l := (lw, _) :: (L + 1 + 1 + 1 + 1, o4) :: (L + 1 + 1 + 1, o3) :: (L + 1 + 1, o2) :: (L + 1, o1) :: []) hI2) ⟨trivial, _, _, rfl, by rw [List.length_append, hwl]; rfl, snoc_str hws, (by exact q_bad), (by exact q_words)⟩
    · k_steps
      unfold Hold
      refine hide_goal fun G9 k9 => ?_
      obtain ⟨ty, tz, rfl, hb9⟩ := pick_name (by assumption)
      refine k9 ?_
      clear k9
      change wpAny _ _ _ _ _ _
      refine' name_bad ?b1_u2 ?b2_u2 ?b3_u2 ?b4_u2 ?b5_u2 ?b6_u2 hb9 ?k7_u2 ?k8_u2 ?_
      case b1_u2 => k_asm
      case b2_u2 => k_asm
      case b3_u2 => k_asm
      case b4_u2 => k_asm
      case b5_u2 => k_asm
      case b6_u2 => first | exact rfl | assumption
      case k7_u2 => ktr_room
      case k8_u2 => ktr_units
      intro T9 g9 e9 t8 u9 h9 tk9 Fg Ug R9
      k_steps
      unfold Hold
      (rename News _ _ _ _ => N7)
      (rename Fr _ _ _ _ => F7)
      exact unr_end ((lw, listOf (ws ++ [_]).toArray _) :: (L + 1 + 1 + 1 + 1, o4) :: (L + 1 + 1 + 1, o3) :: (L + 1 + 1, o2) :: (L + 1, o1) :: []) F7 (words_end2 N7 (by k_mem) (by k_mem) (fcons (by k_mem) (fcons (by k_mem) (fcons (by k_mem) (fcons (by k_mem) (List.forall_mem_nil _)))))) (List.mem_cons_self ..) (fun p hp => List.mem_cons_of_mem _ hp) (allNe_mem (l := (lw, _) :: (L + 1 + 1 + 1 + 1, o4) :: (L + 1 + 1 + 1, o3) :: (L + 1 + 1, o2) :: (L + 1, o1) :: []) hI2) ⟨trivial, _, _, rfl, by rw [List.length_append, hwl]; rfl, snoc_str hws, (by exact q_bad), (by exact q_words)⟩
    · k_steps
      unfold Hold
      refine hide_goal fun G9 k9 => ?_
      obtain ⟨ty, tz, rfl, hb9⟩ := pick_whole (by assumption)
      refine k9 ?_
      clear k9
      change wpAny _ _ _ _ _ _
      refine' whole_bad ?b1_u3 ?b2_u3 ?b3_u3 ?b4_u3 ?b5_u3 ?b6_u3 hb9 ?k7_u3 ?k8_u3 ?_
      case b1_u3 => k_asm
      case b2_u3 => k_asm
      case b3_u3 => k_asm
      case b4_u3 => k_asm
      case b5_u3 => k_asm
      case b6_u3 => first | exact rfl | assumption
      case k7_u3 => ktr_room
      case k8_u3 => ktr_units
      intro T9 g9 e9 t8 u9 h9 tk9 Fg Ug R9
      k_steps
      unfold Hold
      (rename News _ _ _ _ => N7)
      (rename Fr _ _ _ _ => F7)
      exact unr_end ((lw, listOf (ws ++ [_]).toArray _) :: (L + 1 + 1 + 1 + 1, o4) :: (L + 1 + 1 + 1, o3) :: (L + 1 + 1, o2) :: (L + 1, o1) :: []) F7 (words_end2 N7 (by k_mem) (by k_mem) (fcons (by k_mem) (fcons (by k_mem) (fcons (by k_mem) (fcons (by k_mem) (List.forall_mem_nil _)))))) (List.mem_cons_self ..) (fun p hp => List.mem_cons_of_mem _ hp) (allNe_mem (l := (lw, _) :: (L + 1 + 1 + 1 + 1, o4) :: (L + 1 + 1 + 1, o3) :: (L + 1 + 1, o2) :: (L + 1, o1) :: []) hI2) ⟨trivial, _, _, rfl, by rw [List.length_append, hwl]; rfl, snoc_str hws, (by exact q_bad), (by exact q_words)⟩
    · k_steps
      unfold Hold
      (rename News _ _ _ _ => N7)
      have hb9 := news_bad N7 (pick_need (by k_mem) (by k_mem) (by k_mem) (by assumption))
      change wpAny _ _ _ _ _ _
      refine' need_bad ?b1_u4 ?b2_u4 ?b3_u4 ?b4_u4 ?b5_u4 ?b6_u4 hb9 (by k_mem) ?k7_u4 ?k8_u4 ?_
      case b1_u4 => k_asm
      case b2_u4 => k_asm
      case b3_u4 => k_asm
      case b4_u4 => k_asm
      case b5_u4 => k_asm
      case b6_u4 => first | exact rfl | assumption
      case k7_u4 => ktr_room
      case k8_u4 => ktr_units
      intro T9 g9 e9 t8 u9 h9 tk9 Fg Ug R9
      k_steps
      unfold Hold
      (rename News _ _ _ _ => N7b)
      (rename Fr _ _ _ _ => F7)
      exact unr_end ((lw, listOf (ws ++ [_]).toArray _) :: (L + 1 + 1 + 1 + 1, o4) :: (L + 1 + 1 + 1, o3) :: (L + 1 + 1, o2) :: (L + 1, o1) :: []) F7 (words_end2 N7b (by k_mem) (by k_mem) (fcons (by k_mem) (fcons (by k_mem) (fcons (by k_mem) (fcons (by k_mem) (List.forall_mem_nil _)))))) (List.mem_cons_self ..) (fun p hp => List.mem_cons_of_mem _ hp) (allNe_mem (l := (lw, _) :: (L + 1 + 1 + 1 + 1, o4) :: (L + 1 + 1 + 1, o3) :: (L + 1 + 1, o2) :: (L + 1, o1) :: []) hI2) ⟨trivial, _, _, rfl, by rw [List.length_append, hwl]; rfl, snoc_str hws, (by exact q_bad), (by exact q_words)⟩
    · k_steps
      unfold Hold
      have hb9 := pick_num (by assumption)
      change wpAny _ _ _ _ _ _
      refine' num_bad ?b1_u5 ?b2_u5 ?b3_u5 ?b4_u5 ?b5_u5 ?b6_u5 hb9 ?k7_u5 ?k8_u5 ?_
      case b1_u5 => k_asm
      case b2_u5 => k_asm
      case b3_u5 => k_asm
      case b4_u5 => k_asm
      case b5_u5 => k_asm
      case b6_u5 => first | exact rfl | assumption
      case k7_u5 => ktr_room
      case k8_u5 => ktr_units
      intro T9 g9 e9 t8 u9 h9 tk9 Fg Ug R9
      k_steps
      unfold Hold
      (rename News _ _ _ _ => N7)
      (rename Fr _ _ _ _ => F7)
      exact unr_end ((lw, listOf (ws ++ [_]).toArray _) :: (L + 1 + 1 + 1 + 1, o4) :: (L + 1 + 1 + 1, o3) :: (L + 1 + 1, o2) :: (L + 1, o1) :: []) F7 (words_end2 N7 (by k_mem) (by k_mem) (fcons (by k_mem) (fcons (by k_mem) (fcons (by k_mem) (fcons (by k_mem) (List.forall_mem_nil _)))))) (List.mem_cons_self ..) (fun p hp => List.mem_cons_of_mem _ hp) (allNe_mem (l := (lw, _) :: (L + 1 + 1 + 1 + 1, o4) :: (L + 1 + 1 + 1, o3) :: (L + 1 + 1, o2) :: (L + 1, o1) :: []) hI2) ⟨trivial, _, _, rfl, by rw [List.length_append, hwl]; rfl, snoc_str hws, (by exact q_bad), (by exact q_words)⟩
  case done =>
    intro m3 nx3 h8 tk8 hJ Fm Nn
    refine hide_goal fun G9 k9 => ?_
    simp only [rangeItems, List.length_map, List.length_range] at hJ
    obtain ⟨ws, nw9, rfl, hwl, hws, q_bad, q_words⟩ := hJ
    refine k9 ?_
    clear k9
    k_steps
    change wpAny _ _ _ _ _ _
    (rename News _ _ _ _ => N7)
    refine ne_rd (d := .list (List.replicate 5 (PyData.str (Str.ofString "ValueError")))) (Rd.list (N7.get (by k_mem)) (strs_rd hwl hws)) (Rd.list (vs := [_, _, _, _, _]) (N7.get (List.mem_cons_self ..)) (strs_rd rfl (fcons (⟨_, rfl⟩) (fcons (⟨_, rfl⟩) (fcons (⟨_, rfl⟩) (fcons (⟨_, rfl⟩) (fcons (⟨_, rfl⟩) (List.forall_mem_nil _)))))))) (by decide +kernel) ?hu5 ?_
    case hu5 => ktr_units
    have mkS : MarkW9 := .mk
    k_steps
    change wpAny _ _ _ _ _ _
    (rename News _ _ _ _ => N9)
    (rename Fr _ _ _ _ => F9)
    exact lawR K0 KX T F9 (fun p hp => N9 p ((fcons (by k_mem) (fcons (by k_mem) (fcons (by k_mem) (fcons (by k_mem) (List.forall_mem_nil _)))) : ∀ p ∈ ((L + 1 + 1 + 1 + 1, o4) :: (L + 1 + 1 + 1, o3) :: (L + 1 + 1, o2) :: (L + 1, o1) :: []), p ∈ _) p hp)) q1 hL0 hI0 hns0 q2 q3 q4 hE hend
end
end
section
section
theorem words28 : True := by
  k_with_none
  k_with "ne9" => (refine neN ?_; (try dsimp only); first | with_reducible assumption | exact Ne.symm (by with_reducible assumption) | exact pj0 (by with_reducible assumption) | exact pj1 (by with_reducible assumption) | exact pj2 (by with_reducible assumption) | exact pj3 (by with_reducible assumption) | exact pj4 (by with_reducible assumption) | exact pj5 (by with_reducible assumption) | exact pj6 (by with_reducible assumption) | exact pj7 (by with_reducible assumption) | exact pj8 (by with_reducible assumption) | exact pj9 (by with_reducible assumption) | exact pj10 (by with_reducible assumption) | exact pj11 (by with_reducible assumption) | exact Ne.symm (pj0 (by with_reducible assumption)) | exact Ne.symm (pj1 (by with_reducible assumption)) | exact Ne.symm (pj2 (by with_reducible assumption)) | exact Ne.symm (pj3 (by with_reducible assumption)) | exact Ne.symm (pj4 (by with_reducible assumption)) | exact Ne.symm (pj5 (by with_reducible assumption)) | exact Ne.symm (pj6 (by with_reducible assumption)) | exact Ne.symm (pj7 (by with_reducible assumption)) | exact Ne.symm (pj8 (by with_reducible assumption)) | exact Ne.symm (pj9 (by with_reducible assumption)) | exact Ne.symm (pj10 (by with_reducible assumption)) | exact Ne.symm (pj11 (by with_reducible assumption)) | exact ad1 | exact ad2 | exact ad3 | exact ad4 | exact ad5 | exact ad6 | exact ad7 | exact ad8 | exact Ne.symm ad1 | exact Ne.symm ad2 | exact Ne.symm ad3 | exact Ne.symm ad4 | exact Ne.symm ad5 | exact Ne.symm ad6 | exact Ne.symm ad7 | exact Ne.symm ad8 | exact Nat.ne_of_lt (by with_reducible assumption) | exact Nat.ne_of_gt (by with_reducible assumption) | exact Nat.ne_of_lt (pj0 (by with_reducible assumption)) | exact Nat.ne_of_lt (pj1 (by with_reducible assumption)) | exact Nat.ne_of_lt (pj2 (by with_reducible assumption)) | exact Nat.ne_of_lt (pj3 (by with_reducible assumption)) | exact Nat.ne_of_lt (pj4 (by with_reducible assumption)) | exact Nat.ne_of_lt (pj5 (by with_reducible assumption)) | exact Nat.ne_of_lt (pj6 (by with_reducible assumption)) | exact Nat.ne_of_lt (pj7 (by with_reducible assumption)) | exact Nat.ne_of_lt (pj8 (by with_reducible assumption)) | exact Nat.ne_of_lt (pj9 (by with_reducible assumption)) | exact Nat.ne_of_lt (pj10 (by with_reducible assumption)) | exact Nat.ne_of_lt (pj11 (by with_reducible assumption)) | exact Nat.ne_of_gt (pj0 (by with_reducible assumption)) | exact Nat.ne_of_gt (pj1 (by with_reducible assumption)) | exact Nat.ne_of_gt (pj2 (by with_reducible assumption)) | exact Nat.ne_of_gt (pj3 (by with_reducible assumption)) | exact Nat.ne_of_gt (pj4 (by with_reducible assumption)) | exact Nat.ne_of_gt (pj5 (by with_reducible assumption)) | exact Nat.ne_of_gt (pj6 (by with_reducible assumption)) | exact Nat.ne_of_gt (pj7 (by with_reducible assumption)) | exact Nat.ne_of_gt (pj8 (by with_reducible assumption)) | exact Nat.ne_of_gt (pj9 (by with_reducible assumption)) | exact Nat.ne_of_gt (pj10 (by with_reducible assumption)) | exact Nat.ne_of_gt (pj11 (by with_reducible assumption)) | omega)
  k_with "k_ne" => (walk_at "ne9")
  k_with "k_in" => (refine' in_of ?z123fF ?z123fX; (case z123fF => k_asm); (case z123fX => k_asm))
  k_with "eval Name" => (k_here; k_dflt (refine' nameX_L ?z124k1 ?z124k2 ?_ ?z124k3 ?z124k4; (case z124k3 => rfl); (case z124k4 => rfl); (case z124k1 => k_asm); (case z124k2 => first | exact rfl | assumption); k_whole))
  k_with "hat9" => (first | exact News.get (by k_asm) (by k_mem) | exact Fr.keep (by k_asm) _ _ (by with_reducible assumption) | exact Tk.get (by k_asm) (by k_asm) (by with_reducible assumption) (by intro p9 hp9; first | exact hp9 | exact absurd hp9 List.not_mem_nil | (repeat (first | exact hp9 | refine List.mem_cons_of_mem _ ?_))) | exact Frag.In.keeps (by k_asm) (Fr.keep (by k_asm)) _ _ (by k_is))
  k_with "bits_by_make" => (with_reducible assumption)
  k_with "ktr_units" => ((try simp only [units_under_make, units_in1, units_deeper, Around.mark_units, units_caller]); (try dsimp only [ktrTop]); first | exact un1 (by with_reducible assumption) (Nat.le_of_ble_eq_true rfl) | exact un2 (by with_reducible assumption) (Nat.le_of_ble_eq_true rfl) | exact un3 (by with_reducible assumption) (Nat.le_of_ble_eq_true rfl) | (have hcL9 := cLine_is; omega))
  k_with "binaryOp Mod int int" => (k_here; (with_reducible refine mod_gen ?z125mp ?_); (case z125mp => decide); walk_at "i18")
  k_with "call ref" => (k_here; (with_reducible show wpAny _ _ (call (Value.ref 69) [Value.int _ _, Value.int _ _]) _ _ _); k_dflt (refine' frac_use ?z126k1 ?z126k2 ?z126k3 ?z126k4 ?z126k5 ?z126k6 ?z126k7 ?z126k8 ?z126k9 ?z126k10 ?z126k11 ?z126k12 ?z126k13 ?_; (case z126k1 => k_asm); (case z126k2 => k_asm); (case z126k3 => k_asm); (case z126k4 => k_asm); (case z126k5 => k_asm); (case z126k6 => first | exact rfl | assumption); (case z126k7 => first | exact Nat.le_of_ble_eq_true rfl | ktr_room); (case z126k8 => first | exact Nat.le_of_ble_eq_true rfl | ktr_units); (case z126k10 => bits_by_make); (case z126k11 => bits_by_make); (case z126k12 => decide); (case z126k13 => decide); (case z126k9 => first | exact nzden _ | omega | ((try k_fmods); omega) | (refine nzmul ?_ ?_ <;> first | exact nzden _ | omega)); k_whole); walk_at "i5"; (try k_sweep))
  k_with "call ref" => (k_here; (with_reducible show wpAny _ _ (call (Value.ref 69) [Value.int _ _, Value.int 1 _]) _ _ _); k_dflt (refine' frac_one ?z127k1 ?z127k2 ?z127k3 ?z127k4 ?z127k5 ?z127k6 ?z127k7 ?z127k8 ?z127k10 ?z127k12 ?_; (case z127k1 => k_asm); (case z127k2 => k_asm); (case z127k3 => k_asm); (case z127k4 => k_asm); (case z127k5 => k_asm); (case z127k6 => first | exact rfl | assumption); (case z127k7 => first | exact Nat.le_of_ble_eq_true rfl | ktr_room); (case z127k8 => first | exact Nat.le_of_ble_eq_true rfl | ktr_units); (case z127k10 => bits_by_make); (case z127k12 => decide); k_whole); walk_at "i6"; (try k_sweep))
  k_with "call ref" => (k_here; (with_reducible show wpAny _ _ (call (Value.ref 69) [Value.int _ _]) _ _ _); k_dflt (refine' frac_dflt ?z128k1 ?z128k2 ?z128k3 ?z128k4 ?z128k5 ?z128k6 ?z128k7 ?z128k8 ?z128k10 ?z128k12 ?_; (case z128k1 => k_asm); (case z128k2 => k_asm); (case z128k3 => k_asm); (case z128k4 => k_asm); (case z128k5 => k_asm); (case z128k6 => first | exact rfl | assumption); (case z128k7 => first | exact Nat.le_of_ble_eq_true rfl | ktr_room); (case z128k8 => first | exact Nat.le_of_ble_eq_true rfl | ktr_units); (case z128k10 => bits_by_make); (case z128k12 => decide); k_whole); walk_at "i6"; (try k_sweep))
  k_with "bits_by_make" => (first | with_reducible assumption | exact bits64 (by omega) (by omega))
  k_with "execs cons" => (walk_at "i19"; refine Hold.out ?_)
  k_with "call builtin:sorted" => (k_here; (with_reducible show wpAny _ _ (call (Value.builtin "sorted") [Value.ref _]) _ _ _); refine Hold.out ?_)
  k_with "compareOp Eq ref ref" => (k_here; (with_reducible show wpAny _ _ (compareOp CmpOp.Eq (Value.ref _) (Value.ref _)) _ _ _); refine Hold.out ?_)
  k_with "compareOp NotEq ref ref" => (k_here; (with_reducible show wpAny _ _ (compareOp CmpOp.NotEq (Value.ref _) (Value.ref _)) _ _ _); refine Hold.out ?_)
  k_with "call ref" => (k_here; (with_reducible show wpAny _ _ (call (Value.ref 161) _) _ _ _); refine Hold.out ?_)
  k_with "call ref" => (k_here; (with_reducible show wpAny _ _ (call (Value.ref 166) _) _ _ _); refine Hold.out ?_)
  k_with "call ref" => (k_here; (with_reducible show wpAny _ _ (call (Value.ref 154) _) _ _ _); refine Hold.out ?_)
  k_with "call ref" => (k_here; (with_reducible show wpAny _ _ (call (Value.ref 126) _) _ _ _); refine Hold.out ?_)
  k_with "call ref" => (k_here; (with_reducible show wpAny _ _ (call (Value.ref 119) _) _ _ _); refine Hold.out ?_)
  k_with "call ref" => (k_here; (with_reducible show wpAny _ _ (call (Value.ref 133) _) _ _ _); refine Hold.out ?_)
  k_with "call ref" => (k_here; (with_reducible show wpAny _ _ (call (Value.ref 140) _) _ _ _); refine Hold.out ?_)
  k_with "call ref" => (k_here; (with_reducible show wpAny _ _ (call (Value.ref 112) _) _ _ _); refine Hold.out ?_)
  trivial
theorem lawA9 {w0 : World} {p : Program} {loose : List Str} {mean : ExcName → Option Value} {mg mb : Str → Option Value} {fa L : Addr} {cc : Value} {h₀ : Heap} {Q : Flow → Shared → Prop} {EX : Value → Shared → Prop} {m : Str → Option Value} {s : Shared} {o1 o2 o3 o4 : Obj} {l0 : Addr} {vs0 : List Value} {ns0 : List Int} {DV : Addr} {rV : Rat} {tV tV9 : Tok} {cV : Nat}
    (K0 : Below callerA h₀ [] h₀) (KX : (HD.K w0.params).In h₀) (T : Top p loose mean mg mb h₀) (F : Fr h₀ L s.heap m) (N : News h₀ L s.heap ((DV, RatO rV tV tV9 cV) :: (L + 1 + 1 + 1 + 1, o4) :: (L + 1 + 1 + 1, o3) :: (L + 1 + 1, o2) :: (L + 1, o1) :: []))
    (q1 : o1.data = .cell (some (.ref l0))) (hL0 : h₀.IsList l0 vs0.toArray) (hI0 : IntsAre vs0 ns0) (hns0 : ns0.length ≤ 63) (q2 : o2.data = .cell none) (q3 : o3.data = .cell none) (q4 : o4.data = .cell none) (z1 : -100000 ≤ rV.num) (z2 : rV.num ≤ 100000) (z3 : 1 ≤ (rV.den : Int)) (z4 : (rV.den : Int) ≤ 100000)
    (n_value : m (Str.ofString "value") = some (.ref DV))
    (hE : PassesOwn (model PySem.Challenge.rw_ui0509_08.row.prog w0) (callerA.deeper (envOfC HD.dH.name HD.dH.scope L fa cc)) (envOfC HD.dH.name HD.dH.scope L fa cc) EX)
    (hend : ∀ (h' : Heap) (tk' : Nat) (m' : Str → Option Value), Fr h₀ L h' m' → Q (.ret (.bool true)) { s with heap := h', toks := tk' }) :
    wpAny (model PySem.Challenge.rw_ui0509_08.row.prog w0) (callerA.deeper (envOfC HD.dH.name HD.dH.scope L fa cc)) (execs (HD.fb29.1.drop 9) (envOfC HD.dH.name HD.dH.scope L fa cc)) Q EX s := by
  w_top off
  revert KX; k_fill; intro KX
  dsimp only [HD.dH, HD.fb29, HD.fs29, List.drop_succ_cons, List.drop_zero]
  k_steps
  change wpAny _ _ _ _ _ _
  refine' size_c (x1 := rV.num) (y1 := (rV.den : Int)) ?b1_u1 ?b2_u1 ?b3_u1 ?b4_u1 ?b5_u1 ?b6_u1 ?e1_u1 ?k7_u1 ?k8_u1 ?_
  case b1_u1 => k_asm
  case b2_u1 => k_asm
  case b3_u1 => k_asm
  case b4_u1 => k_asm
  case b5_u1 => k_asm
  case b6_u1 => first | exact rfl | assumption
  case k7_u1 => ktr_room
  case k8_u1 => ktr_units
  case e1_u1 => exact News.get (by k_asm) (by k_mem)
  intro Dl9 tl9 tl9' cl9 hl9 tkl Fl Nl ll
  have mkS : MarkW9 := .mk
  k_steps
  · exfalso; (rename _ ≠ _ => k9); exact k9 rfl
  change wpAny _ _ _ _ _ _
  (rename News _ _ _ _ => N9)
  (rename Fr _ _ _ _ => F9)
  exact @lawB w0 p loose mean mg mb fa L cc h₀ Q EX _ _ o1 o2 o3 o4 l0 vs0 ns0 K0 KX T F9 (fun p hp => N9 p ((fcons (by k_mem) (fcons (by k_mem) (fcons (by k_mem) (fcons (by k_mem) (List.forall_mem_nil _)))) : ∀ p ∈ ((L + 1 + 1 + 1 + 1, o4) :: (L + 1 + 1 + 1, o3) :: (L + 1 + 1, o2) :: (L + 1, o1) :: []), p ∈ _) p hp)) q1 hL0 hI0 hns0 q2 q3 q4 hE hend
end
section
theorem words29 : True := by
  k_with_none
  k_with "ne9" => (refine neN ?_; (try dsimp only); first | with_reducible assumption | exact Ne.symm (by with_reducible assumption) | exact pj0 (by with_reducible assumption) | exact pj1 (by with_reducible assumption) | exact pj2 (by with_reducible assumption) | exact pj3 (by with_reducible assumption) | exact pj4 (by with_reducible assumption) | exact pj5 (by with_reducible assumption) | exact pj6 (by with_reducible assumption) | exact pj7 (by with_reducible assumption) | exact pj8 (by with_reducible assumption) | exact pj9 (by with_reducible assumption) | exact pj10 (by with_reducible assumption) | exact pj11 (by with_reducible assumption) | exact Ne.symm (pj0 (by with_reducible assumption)) | exact Ne.symm (pj1 (by with_reducible assumption)) | exact Ne.symm (pj2 (by with_reducible assumption)) | exact Ne.symm (pj3 (by with_reducible assumption)) | exact Ne.symm (pj4 (by with_reducible assumption)) | exact Ne.symm (pj5 (by with_reducible assumption)) | exact Ne.symm (pj6 (by with_reducible assumption)) | exact Ne.symm (pj7 (by with_reducible assumption)) | exact Ne.symm (pj8 (by with_reducible assumption)) | exact Ne.symm (pj9 (by with_reducible assumption)) | exact Ne.symm (pj10 (by with_reducible assumption)) | exact Ne.symm (pj11 (by with_reducible assumption)) | exact ad1 | exact ad2 | exact ad3 | exact ad4 | exact ad5 | exact ad6 | exact ad7 | exact ad8 | exact Ne.symm ad1 | exact Ne.symm ad2 | exact Ne.symm ad3 | exact Ne.symm ad4 | exact Ne.symm ad5 | exact Ne.symm ad6 | exact Ne.symm ad7 | exact Ne.symm ad8 | exact Nat.ne_of_lt (by with_reducible assumption) | exact Nat.ne_of_gt (by with_reducible assumption) | exact Nat.ne_of_lt (pj0 (by with_reducible assumption)) | exact Nat.ne_of_lt (pj1 (by with_reducible assumption)) | exact Nat.ne_of_lt (pj2 (by with_reducible assumption)) | exact Nat.ne_of_lt (pj3 (by with_reducible assumption)) | exact Nat.ne_of_lt (pj4 (by with_reducible assumption)) | exact Nat.ne_of_lt (pj5 (by with_reducible assumption)) | exact Nat.ne_of_lt (pj6 (by with_reducible assumption)) | exact Nat.ne_of_lt (pj7 (by with_reducible assumption)) | exact Nat.ne_of_lt (pj8 (by with_reducible assumption)) | exact Nat.ne_of_lt (pj9 (by with_reducible assumption)) | exact Nat.ne_of_lt (pj10 (by with_reducible assumption)) | exact Nat.ne_of_lt (pj11 (by with_reducible assumption)) | exact Nat.ne_of_gt (pj0 (by with_reducible assumption)) | exact Nat.ne_of_gt (pj1 (by with_reducible assumption)) | exact Nat.ne_of_gt (pj2 (by with_reducible assumption)) | exact Nat.ne_of_gt (pj3 (by with_reducible assumption)) | exact Nat.ne_of_gt (pj4 (by with_reducible assumption)) | exact Nat.ne_of_gt (pj5 (by with_reducible assumption)) | exact Nat.ne_of_gt (pj6 (by with_reducible assumption)) | exact Nat.ne_of_gt (pj7 (by with_reducible assumption)) | exact Nat.ne_of_gt (pj8 (by with_reducible assumption)) | exact Nat.ne_of_gt (pj9 (by with_reducible assumption)) | exact Nat.ne_of_gt (pj10 (by with_reducible assumption)) | exact Nat.ne_of_gt (pj11 (by with_reducible assumption)) | omega)
  k_with "k_ne" => (walk_at "ne9")
  k_with "k_in" => (refine' in_of ?z123fF ?z123fX; (case z123fF => k_asm); (case z123fX => k_asm))
  k_with "eval Name" => (k_here; k_dflt (refine' nameX_L ?z129k1 ?z129k2 ?_ ?z129k3 ?z129k4; (case z129k3 => rfl); (case z129k4 => rfl); (case z129k1 => k_asm); (case z129k2 => first | exact rfl | assumption); k_whole))
  k_with "hat9" => (first | exact News.get (by k_asm) (by k_mem) | exact Fr.keep (by k_asm) _ _ (by with_reducible assumption) | exact Tk.get (by k_asm) (by k_asm) (by with_reducible assumption) (by intro p9 hp9; first | exact hp9 | exact absurd hp9 List.not_mem_nil | (repeat (first | exact hp9 | refine List.mem_cons_of_mem _ ?_))) | exact Frag.In.keeps (by k_asm) (Fr.keep (by k_asm)) _ _ (by k_is))
  k_with "bits_by_make" => (with_reducible assumption)
  k_with "ktr_units" => ((try simp only [units_under_make, units_in1, units_deeper, Around.mark_units, units_caller]); (try dsimp only [ktrTop]); first | exact un1 (by with_reducible assumption) (Nat.le_of_ble_eq_true rfl) | exact un2 (by with_reducible assumption) (Nat.le_of_ble_eq_true rfl) | exact un3 (by with_reducible assumption) (Nat.le_of_ble_eq_true rfl) | (have hcL9 := cLine_is; omega))
  k_with "binaryOp Mod int int" => (k_here; (with_reducible refine mod_gen ?z130mp ?_); (case z130mp => decide); walk_at "i18")
  k_with "call ref" => (k_here; (with_reducible show wpAny _ _ (call (Value.ref 69) [Value.int _ _, Value.int _ _]) _ _ _); k_dflt (refine' frac_use ?z131k1 ?z131k2 ?z131k3 ?z131k4 ?z131k5 ?z131k6 ?z131k7 ?z131k8 ?z131k9 ?z131k10 ?z131k11 ?z131k12 ?z131k13 ?_; (case z131k1 => k_asm); (case z131k2 => k_asm); (case z131k3 => k_asm); (case z131k4 => k_asm); (case z131k5 => k_asm); (case z131k6 => first | exact rfl | assumption); (case z131k7 => first | exact Nat.le_of_ble_eq_true rfl | ktr_room); (case z131k8 => first | exact Nat.le_of_ble_eq_true rfl | ktr_units); (case z131k10 => bits_by_make); (case z131k11 => bits_by_make); (case z131k12 => decide); (case z131k13 => decide); (case z131k9 => first | exact nzden _ | omega | ((try k_fmods); omega) | (refine nzmul ?_ ?_ <;> first | exact nzden _ | omega)); k_whole); walk_at "i5"; (try k_sweep))
  k_with "call ref" => (k_here; (with_reducible show wpAny _ _ (call (Value.ref 69) [Value.int _ _, Value.int 1 _]) _ _ _); k_dflt (refine' frac_one ?z132k1 ?z132k2 ?z132k3 ?z132k4 ?z132k5 ?z132k6 ?z132k7 ?z132k8 ?z132k10 ?z132k12 ?_; (case z132k1 => k_asm); (case z132k2 => k_asm); (case z132k3 => k_asm); (case z132k4 => k_asm); (case z132k5 => k_asm); (case z132k6 => first | exact rfl | assumption); (case z132k7 => first | exact Nat.le_of_ble_eq_true rfl | ktr_room); (case z132k8 => first | exact Nat.le_of_ble_eq_true rfl | ktr_units); (case z132k10 => bits_by_make); (case z132k12 => decide); k_whole); walk_at "i6"; (try k_sweep))
  k_with "call ref" => (k_here; (with_reducible show wpAny _ _ (call (Value.ref 69) [Value.int _ _]) _ _ _); k_dflt (refine' frac_dflt ?z133k1 ?z133k2 ?z133k3 ?z133k4 ?z133k5 ?z133k6 ?z133k7 ?z133k8 ?z133k10 ?z133k12 ?_; (case z133k1 => k_asm); (case z133k2 => k_asm); (case z133k3 => k_asm); (case z133k4 => k_asm); (case z133k5 => k_asm); (case z133k6 => first | exact rfl | assumption); (case z133k7 => first | exact Nat.le_of_ble_eq_true rfl | ktr_room); (case z133k8 => first | exact Nat.le_of_ble_eq_true rfl | ktr_units); (case z133k10 => bits_by_make); (case z133k12 => decide); k_whole); walk_at "i6"; (try k_sweep))
  k_with "bits_by_make" => (first | with_reducible assumption | exact bits64 (by omega) (by omega))
  k_with "execs cons" => (walk_at "i19"; refine Hold.out ?_)
  k_with "call builtin:sorted" => (k_here; (with_reducible show wpAny _ _ (call (Value.builtin "sorted") [Value.ref _]) _ _ _); refine Hold.out ?_)
  k_with "compareOp Eq ref ref" => (k_here; (with_reducible show wpAny _ _ (compareOp CmpOp.Eq (Value.ref _) (Value.ref _)) _ _ _); refine Hold.out ?_)
  k_with "compareOp NotEq ref ref" => (k_here; (with_reducible show wpAny _ _ (compareOp CmpOp.NotEq (Value.ref _) (Value.ref _)) _ _ _); refine Hold.out ?_)
  k_with "call ref" => (k_here; (with_reducible show wpAny _ _ (call (Value.ref 161) _) _ _ _); refine Hold.out ?_)
  k_with "call ref" => (k_here; (with_reducible show wpAny _ _ (call (Value.ref 166) _) _ _ _); refine Hold.out ?_)
  k_with "call ref" => (k_here; (with_reducible show wpAny _ _ (call (Value.ref 154) _) _ _ _); refine Hold.out ?_)
  k_with "call ref" => (k_here; (with_reducible show wpAny _ _ (call (Value.ref 126) _) _ _ _); refine Hold.out ?_)
  k_with "call ref" => (k_here; (with_reducible show wpAny _ _ (call (Value.ref 119) _) _ _ _); refine Hold.out ?_)
  k_with "call ref" => (k_here; (with_reducible show wpAny _ _ (call (Value.ref 133) _) _ _ _); refine Hold.out ?_)
  k_with "call ref" => (k_here; (with_reducible show wpAny _ _ (call (Value.ref 140) _) _ _ _); refine Hold.out ?_)
  k_with "call ref" => (k_here; (with_reducible show wpAny _ _ (call (Value.ref 112) _) _ _ _); refine Hold.out ?_)
  trivial
theorem lawA8 {w0 : World} {p : Program} {loose : List Str} {mean : ExcName → Option Value} {mg mb : Str → Option Value} {fa L : Addr} {cc : Value} {h₀ : Heap} {Q : Flow → Shared → Prop} {EX : Value → Shared → Prop} {m : Str → Option Value} {s : Shared} {o1 o2 o3 o4 : Obj} {l0 : Addr} {vs0 : List Value} {ns0 : List Int} {DV : Addr} {rV : Rat} {tV tV9 : Tok} {cV : Nat} {DO : Addr} {rO : Rat} {tO tO9 : Tok} {cO : Nat}
    (K0 : Below callerA h₀ [] h₀) (KX : (HD.K w0.params).In h₀) (T : Top p loose mean mg mb h₀) (F : Fr h₀ L s.heap m) (N : News h₀ L s.heap ((DO, RatO rO tO tO9 cO) :: (DV, RatO rV tV tV9 cV) :: (L + 1 + 1 + 1 + 1, o4) :: (L + 1 + 1 + 1, o3) :: (L + 1 + 1, o2) :: (L + 1, o1) :: []))
    (q1 : o1.data = .cell (some (.ref l0))) (hL0 : h₀.IsList l0 vs0.toArray) (hI0 : IntsAre vs0 ns0) (hns0 : ns0.length ≤ 63) (q2 : o2.data = .cell none) (q3 : o3.data = .cell none) (q4 : o4.data = .cell none) (z1 : -100000 ≤ rV.num) (z2 : rV.num ≤ 100000) (z3 : 1 ≤ (rV.den : Int)) (z4 : (rV.den : Int) ≤ 100000) (bV : Bd 64 rV) (bO : Bd 64 rO)
    (n_value : m (Str.ofString "value") = some (.ref DV)) (n_other : m (Str.ofString "other") = some (.ref DO))
    (hE : PassesOwn (model PySem.Challenge.rw_ui0509_08.row.prog w0) (callerA.deeper (envOfC HD.dH.name HD.dH.scope L fa cc)) (envOfC HD.dH.name HD.dH.scope L fa cc) EX)
    (hend : ∀ (h' : Heap) (tk' : Nat) (m' : Str → Option Value), Fr h₀ L h' m' → Q (.ret (.bool true)) { s with heap := h', toks := tk' }) :
    wpAny (model PySem.Challenge.rw_ui0509_08.row.prog w0) (callerA.deeper (envOfC HD.dH.name HD.dH.scope L fa cc)) (execs (HD.fb29.1.drop 8) (envOfC HD.dH.name HD.dH.scope L fa cc)) Q EX s := by
  w_top off
  revert KX; k_fill; intro KX
  dsimp only [HD.dH, HD.fb29, HD.fs29, List.drop_succ_cons, List.drop_zero]
  k_steps
  change wpAny _ _ _ _ _ _
  refine' greatest_m (r1 := rV) (r2 := rO) (n := 64) (k := 64) ?b1_u2 ?b2_u2 ?b3_u2 ?b4_u2 ?b5_u2 ?b6_u2 ?e1_u2 ?e2_u2 ?k7_u2 ?k8_u2 bV bO (by decide) ?_
  case b1_u2 => k_asm
  case b2_u2 => k_asm
  case b3_u2 => k_asm
  case b4_u2 => k_asm
  case b5_u2 => k_asm
  case b6_u2 => first | exact rfl | assumption
  case k7_u2 => ktr_room
  case k8_u2 => ktr_units
  case e1_u2 => exact News.get (by k_asm) (by k_mem)
  case e2_u2 => exact News.get (by k_asm) (by k_mem)
  intro Di ri hi tki ci Fi Ni
  refine hide_goal fun G9 k9 => ?_
  obtain ⟨ti, ti', ni, Mi⟩ := dup2 Ni ci (by k_mem) (by k_mem)
  have qi := ci.imp (fun k => k.2) (fun k => k.2)
  have bi := bd2 ci bV bO
  clear Ni ci
  refine k9 ?_
  clear k9
  k_steps
  change wpAny _ _ _ _ _ _
  refine' least_m (r1 := rV) (r2 := rO) (n := 64) (k := 64) ?b1_u3 ?b2_u3 ?b3_u3 ?b4_u3 ?b5_u3 ?b6_u3 ?e1_u3 ?e2_u3 ?k7_u3 ?k8_u3 bV bO (by decide) ?_
  case b1_u3 => k_asm
  case b2_u3 => k_asm
  case b3_u3 => k_asm
  case b4_u3 => k_asm
  case b5_u3 => k_asm
  case b6_u3 => first | exact rfl | assumption
  case k7_u3 => ktr_room
  case k8_u3 => ktr_units
  case e1_u3 => exact News.get (by k_asm) (by k_mem)
  case e2_u3 => exact News.get (by k_asm) (by k_mem)
  intro Dj rj hj tkj cj Fj Nj
  refine hide_goal fun G9 k9 => ?_
  obtain ⟨tj, tj', nj, Mj⟩ := dup2 Nj cj (by k_mem) (by k_mem)
  have qj := cj.imp (fun k => k.2) (fun k => k.2)
  have bj := bd2 cj bV bO
  clear Nj cj
  refine k9 ?_
  clear k9
  k_steps
  change wpAny _ _ _ _ _ _
  refine' less_r (r1 := ri) (r2 := rj) (n := 64) (k := 64) ?b1_u4 ?b2_u4 ?b3_u4 ?b4_u4 ?b5_u4 ?b6_u4 ?e1_u4 ?e2_u4 ?k7_u4 ?k8_u4 bi bj (by decide) ?_
  case b1_u4 => k_asm
  case b2_u4 => k_asm
  case b3_u4 => k_asm
  case b4_u4 => k_asm
  case b5_u4 => k_asm
  case b6_u4 => first | exact rfl | assumption
  case k7_u4 => ktr_room
  case k8_u4 => ktr_units
  case e1_u4 => exact News.get (by k_asm) (by k_mem)
  case e2_u4 => exact News.get (by k_asm) (by k_mem)
  intro hk9 tkk Fk Nk
  rw [lg_not ⟨qj, qi⟩]
  have mkS : MarkW9 := .mk
  k_steps
  change wpAny _ _ _ _ _ _
  (rename News _ _ _ _ => N9)
  (rename Fr _ _ _ _ => F9)
  exact @lawA9 w0 p loose mean mg mb fa L cc h₀ Q EX _ _ o1 o2 o3 o4 l0 vs0 ns0 _ _ _ _ _ K0 KX T F9 (fun p hp => N9 p ((fcons (by k_mem) (fcons (by k_mem) (fcons (by k_mem) (fcons (by k_mem) (fcons (by k_mem) (List.forall_mem_nil _))))) : ∀ p ∈ ((DV, RatO rV tV tV9 cV) :: (L + 1 + 1 + 1 + 1, o4) :: (L + 1 + 1 + 1, o3) :: (L + 1 + 1, o2) :: (L + 1, o1) :: []), p ∈ _) p hp)) q1 hL0 hI0 hns0 q2 q3 q4 z1 z2 z3 z4 (by exact n_value) hE hend
end
section
theorem words30 : True := by
  k_with_none
  k_with "ne9" => (refine neN ?_; (try dsimp only); first | with_reducible assumption | exact Ne.symm (by with_reducible assumption) | exact pj0 (by with_reducible assumption) | exact pj1 (by with_reducible assumption) | exact pj2 (by with_reducible assumption) | exact pj3 (by with_reducible assumption) | exact pj4 (by with_reducible assumption) | exact pj5 (by with_reducible assumption) | exact pj6 (by with_reducible assumption) | exact pj7 (by with_reducible assumption) | exact pj8 (by with_reducible assumption) | exact pj9 (by with_reducible assumption) | exact pj10 (by with_reducible assumption) | exact pj11 (by with_reducible assumption) | exact Ne.symm (pj0 (by with_reducible assumption)) | exact Ne.symm (pj1 (by with_reducible assumption)) | exact Ne.symm (pj2 (by with_reducible assumption)) | exact Ne.symm (pj3 (by with_reducible assumption)) | exact Ne.symm (pj4 (by with_reducible assumption)) | exact Ne.symm (pj5 (by with_reducible assumption)) | exact Ne.symm (pj6 (by with_reducible assumption)) | exact Ne.symm (pj7 (by with_reducible assumption)) | exact Ne.symm (pj8 (by with_reducible assumption)) | exact Ne.symm (pj9 (by with_reducible assumption)) | exact Ne.symm (pj10 (by with_reducible assumption)) | exact Ne.symm (pj11 (by with_reducible assumption)) | exact ad1 | exact ad2 | exact ad3 | exact ad4 | exact ad5 | exact ad6 | exact ad7 | exact ad8 | exact Ne.symm ad1 | exact Ne.symm ad2 | exact Ne.symm ad3 | exact Ne.symm ad4 | exact Ne.symm ad5 | exact Ne.symm ad6 | exact Ne.symm ad7 | exact Ne.symm ad8 | exact Nat.ne_of_lt (by with_reducible assumption) | exact Nat.ne_of_gt (by with_reducible assumption) | exact Nat.ne_of_lt (pj0 (by with_reducible assumption)) | exact Nat.ne_of_lt (pj1 (by with_reducible assumption)) | exact Nat.ne_of_lt (pj2 (by with_reducible assumption)) | exact Nat.ne_of_lt (pj3 (by with_reducible assumption)) | exact Nat.ne_of_lt (pj4 (by with_reducible assumption)) | exact Nat.ne_of_lt (pj5 (by with_reducible assumption)) | exact Nat.ne_of_lt (pj6 (by with_reducible assumption)) | exact Nat.ne_of_lt (pj7 (by with_reducible assumption)) | exact Nat.ne_of_lt (pj8 (by with_reducible assumption)) | exact Nat.ne_of_lt (pj9 (by with_reducible assumption)) | exact Nat.ne_of_lt (pj10 (by with_reducible assumption)) | exact Nat.ne_of_lt (pj11 (by with_reducible assumption)) | exact Nat.ne_of_gt (pj0 (by with_reducible assumption)) | exact Nat.ne_of_gt (pj1 (by with_reducible assumption)) | exact Nat.ne_of_gt (pj2 (by with_reducible assumption)) | exact Nat.ne_of_gt (pj3 (by with_reducible assumption)) | exact Nat.ne_of_gt (pj4 (by with_reducible assumption)) | exact Nat.ne_of_gt (pj5 (by with_reducible assumption)) | exact Nat.ne_of_gt (pj6 (by with_reducible assumption)) | exact Nat.ne_of_gt (pj7 (by with_reducible assumption)) | exact Nat.ne_of_gt (pj8 (by with_reducible assumption)) | exact Nat.ne_of_gt (pj9 (by with_reducible assumption)) | exact Nat.ne_of_gt (pj10 (by with_reducible assumption)) | exact Nat.ne_of_gt (pj11 (by with_reducible assumption)) | omega)
  k_with "k_ne" => (walk_at "ne9")
  k_with "k_in" => (refine' in_of ?z123fF ?z123fX; (case z123fF => k_asm); (case z123fX => k_asm))
  k_with "eval Name" => (k_here; k_dflt (refine' nameX_L ?z134k1 ?z134k2 ?_ ?z134k3 ?z134k4; (case z134k3 => rfl); (case z134k4 => rfl); (case z134k1 => k_asm); (case z134k2 => first | exact rfl | assumption); k_whole))
  k_with "hat9" => (first | exact News.get (by k_asm) (by k_mem) | exact Fr.keep (by k_asm) _ _ (by with_reducible assumption) | exact Tk.get (by k_asm) (by k_asm) (by with_reducible assumption) (by intro p9 hp9; first | exact hp9 | exact absurd hp9 List.not_mem_nil | (repeat (first | exact hp9 | refine List.mem_cons_of_mem _ ?_))) | exact Frag.In.keeps (by k_asm) (Fr.keep (by k_asm)) _ _ (by k_is))
  k_with "bits_by_make" => (with_reducible assumption)
  k_with "ktr_units" => ((try simp only [units_under_make, units_in1, units_deeper, Around.mark_units, units_caller]); (try dsimp only [ktrTop]); first | exact un1 (by with_reducible assumption) (Nat.le_of_ble_eq_true rfl) | exact un2 (by with_reducible assumption) (Nat.le_of_ble_eq_true rfl) | exact un3 (by with_reducible assumption) (Nat.le_of_ble_eq_true rfl) | (have hcL9 := cLine_is; omega))
  k_with "binaryOp Mod int int" => (k_here; (with_reducible refine mod_gen ?z135mp ?_); (case z135mp => decide); walk_at "i18")
  k_with "call ref" => (k_here; (with_reducible show wpAny _ _ (call (Value.ref 69) [Value.int _ _, Value.int _ _]) _ _ _); k_dflt (refine' frac_use ?z136k1 ?z136k2 ?z136k3 ?z136k4 ?z136k5 ?z136k6 ?z136k7 ?z136k8 ?z136k9 ?z136k10 ?z136k11 ?z136k12 ?z136k13 ?_; (case z136k1 => k_asm); (case z136k2 => k_asm); (case z136k3 => k_asm); (case z136k4 => k_asm); (case z136k5 => k_asm); (case z136k6 => first | exact rfl | assumption); (case z136k7 => first | exact Nat.le_of_ble_eq_true rfl | ktr_room); (case z136k8 => first | exact Nat.le_of_ble_eq_true rfl | ktr_units); (case z136k10 => bits_by_make); (case z136k11 => bits_by_make); (case z136k12 => decide); (case z136k13 => decide); (case z136k9 => first | exact nzden _ | omega | ((try k_fmods); omega) | (refine nzmul ?_ ?_ <;> first | exact nzden _ | omega)); k_whole); walk_at "i5"; (try k_sweep))
  k_with "call ref" => (k_here; (with_reducible show wpAny _ _ (call (Value.ref 69) [Value.int _ _, Value.int 1 _]) _ _ _); k_dflt (refine' frac_one ?z137k1 ?z137k2 ?z137k3 ?z137k4 ?z137k5 ?z137k6 ?z137k7 ?z137k8 ?z137k10 ?z137k12 ?_; (case z137k1 => k_asm); (case z137k2 => k_asm); (case z137k3 => k_asm); (case z137k4 => k_asm); (case z137k5 => k_asm); (case z137k6 => first | exact rfl | assumption); (case z137k7 => first | exact Nat.le_of_ble_eq_true rfl | ktr_room); (case z137k8 => first | exact Nat.le_of_ble_eq_true rfl | ktr_units); (case z137k10 => bits_by_make); (case z137k12 => decide); k_whole); walk_at "i6"; (try k_sweep))
  k_with "call ref" => (k_here; (with_reducible show wpAny _ _ (call (Value.ref 69) [Value.int _ _]) _ _ _); k_dflt (refine' frac_dflt ?z138k1 ?z138k2 ?z138k3 ?z138k4 ?z138k5 ?z138k6 ?z138k7 ?z138k8 ?z138k10 ?z138k12 ?_; (case z138k1 => k_asm); (case z138k2 => k_asm); (case z138k3 => k_asm); (case z138k4 => k_asm); (case z138k5 => k_asm); (case z138k6 => first | exact rfl | assumption); (case z138k7 => first | exact Nat.le_of_ble_eq_true rfl | ktr_room); (case z138k8 => first | exact Nat.le_of_ble_eq_true rfl | ktr_units); (case z138k10 => bits_by_make); (case z138k12 => decide); k_whole); walk_at "i6"; (try k_sweep))
  k_with "bits_by_make" => (first | with_reducible assumption | exact bits64 (by omega) (by omega))
  k_with "execs cons" => (walk_at "i19"; refine Hold.out ?_)
  k_with "call builtin:sorted" => (k_here; (with_reducible show wpAny _ _ (call (Value.builtin "sorted") [Value.ref _]) _ _ _); refine Hold.out ?_)
  k_with "compareOp Eq ref ref" => (k_here; (with_reducible show wpAny _ _ (compareOp CmpOp.Eq (Value.ref _) (Value.ref _)) _ _ _); refine Hold.out ?_)
  k_with "compareOp NotEq ref ref" => (k_here; (with_reducible show wpAny _ _ (compareOp CmpOp.NotEq (Value.ref _) (Value.ref _)) _ _ _); refine Hold.out ?_)
  k_with "call ref" => (k_here; (with_reducible show wpAny _ _ (call (Value.ref 161) _) _ _ _); refine Hold.out ?_)
  k_with "call ref" => (k_here; (with_reducible show wpAny _ _ (call (Value.ref 166) _) _ _ _); refine Hold.out ?_)
  k_with "call ref" => (k_here; (with_reducible show wpAny _ _ (call (Value.ref 154) _) _ _ _); refine Hold.out ?_)
  k_with "call ref" => (k_here; (with_reducible show wpAny _ _ (call (Value.ref 126) _) _ _ _); refine Hold.out ?_)
  k_with "call ref" => (k_here; (with_reducible show wpAny _ _ (call (Value.ref 119) _) _ _ _); refine Hold.out ?_)
  k_with "call ref" => (k_here; (with_reducible show wpAny _ _ (call (Value.ref 133) _) _ _ _); refine Hold.out ?_)
  k_with "call ref" => (k_here; (with_reducible show wpAny _ _ (call (Value.ref 140) _) _ _ _); refine Hold.out ?_)
  k_with "call ref" => (k_here; (with_reducible show wpAny _ _ (call (Value.ref 112) _) _ _ _); refine Hold.out ?_)
  trivial
theorem lawA6 {w0 : World} {p : Program} {loose : List Str} {mean : ExcName → Option Value} {mg mb : Str → Option Value} {fa L : Addr} {cc : Value} {h₀ : Heap} {Q : Flow → Shared → Prop} {EX : Value → Shared → Prop} {m : Str → Option Value} {s : Shared} {o1 o2 o3 o4 : Obj} {l0 : Addr} {vs0 : List Value} {ns0 : List Int} {DV : Addr} {rV : Rat} {tV tV9 : Tok} {cV : Nat}
    (K0 : Below callerA h₀ [] h₀) (KX : (HD.K w0.params).In h₀) (T : Top p loose mean mg mb h₀) (F : Fr h₀ L s.heap m) (N : News h₀ L s.heap ((DV, RatO rV tV tV9 cV) :: (L + 1 + 1 + 1 + 1, o4) :: (L + 1 + 1 + 1, o3) :: (L + 1 + 1, o2) :: (L + 1, o1) :: []))
    (q1 : o1.data = .cell (some (.ref l0))) (hL0 : h₀.IsList l0 vs0.toArray) (hI0 : IntsAre vs0 ns0) (hns0 : ns0.length ≤ 63) (q2 : o2.data = .cell none) (q3 : o3.data = .cell none) (q4 : o4.data = .cell none) (z1 : -100000 ≤ rV.num) (z2 : rV.num ≤ 100000) (z3 : 1 ≤ (rV.den : Int)) (z4 : (rV.den : Int) ≤ 100000)
    (n_value : m (Str.ofString "value") = some (.ref DV))
    (hE : PassesOwn (model PySem.Challenge.rw_ui0509_08.row.prog w0) (callerA.deeper (envOfC HD.dH.name HD.dH.scope L fa cc)) (envOfC HD.dH.name HD.dH.scope L fa cc) EX)
    (hend : ∀ (h' : Heap) (tk' : Nat) (m' : Str → Option Value), Fr h₀ L h' m' → Q (.ret (.bool true)) { s with heap := h', toks := tk' }) :
    wpAny (model PySem.Challenge.rw_ui0509_08.row.prog w0) (callerA.deeper (envOfC HD.dH.name HD.dH.scope L fa cc)) (execs (HD.fb29.1.drop 6) (envOfC HD.dH.name HD.dH.scope L fa cc)) Q EX s := by
  w_top off
  revert KX; k_fill; intro KX
  dsimp only [HD.dH, HD.fb29, HD.fs29, List.drop_succ_cons, List.drop_zero]
  k_steps
  (rename Rat => rO)
  (rename _ = Rat.divInt _ _ => eO)
  refine hide_goal fun G9 k9 => ?_
  obtain ⟨w1, w2, w3, w4⟩ := div_bounds eO (by omega) (by omega) (by omega)
  have bV := bd_of z1 z2 z4
  have bO := bd_of w1 w2 w4
  clear eO
  refine k9 ?_
  clear k9
  change wpAny _ _ _ _ _ _
  refine' least_m (r1 := rV) (r2 := rO) (n := 64) (k := 64) ?b1_u5 ?b2_u5 ?b3_u5 ?b4_u5 ?b5_u5 ?b6_u5 ?e1_u5 ?e2_u5 ?k7_u5 ?k8_u5 bV bO (by decide) ?_
  case b1_u5 => k_asm
  case b2_u5 => k_asm
  case b3_u5 => k_asm
  case b4_u5 => k_asm
  case b5_u5 => k_asm
  case b6_u5 => first | exact rfl | assumption
  case k7_u5 => ktr_room
  case k8_u5 => ktr_units
  case e1_u5 => exact News.get (by k_asm) (by k_mem)
  case e2_u5 => exact News.get (by k_asm) (by k_mem)
  intro De re he tke ce Fe Ne
  refine hide_goal fun G9 k9 => ?_
  obtain ⟨te, te', ne, Me⟩ := dup2 Ne ce (by k_mem) (by k_mem)
  have qe := ce.imp (fun k => k.2) (fun k => k.2)
  have be := bd2 ce bV bO
  clear Ne ce
  refine k9 ?_
  clear k9
  k_steps
  change wpAny _ _ _ _ _ _
  refine' greatest_m (r1 := rV) (r2 := rO) (n := 64) (k := 64) ?b1_u6 ?b2_u6 ?b3_u6 ?b4_u6 ?b5_u6 ?b6_u6 ?e1_u6 ?e2_u6 ?k7_u6 ?k8_u6 bV bO (by decide) ?_
  case b1_u6 => k_asm
  case b2_u6 => k_asm
  case b3_u6 => k_asm
  case b4_u6 => k_asm
  case b5_u6 => k_asm
  case b6_u6 => first | exact rfl | assumption
  case k7_u6 => ktr_room
  case k8_u6 => ktr_units
  case e1_u6 => exact News.get (by k_asm) (by k_mem)
  case e2_u6 => exact News.get (by k_asm) (by k_mem)
  intro Df rf hf tkf cf Ff Nf
  refine hide_goal fun G9 k9 => ?_
  obtain ⟨tf, tf', nf, Mf⟩ := dup2 Nf cf (by k_mem) (by k_mem)
  have qf := cf.imp (fun k => k.2) (fun k => k.2)
  have bf := bd2 cf bV bO
  clear Nf cf
  refine k9 ?_
  clear k9
  k_steps
  have hlg : LeG rV rO re rf := ⟨qe, qf⟩
  change wpAny _ _ _ _ _ _
  refine sort2 (x1 := re.num) (y1 := (re.den : Int)) (x2 := rf.num) (y2 := (rf.den : Int)) K0 KX T (by k_asm) (by k_asm) (by k_mem) (by k_mem) (by k_mem) ?_
  intro Dg cg hg tkg Fg Ng
  k_steps
  change wpAny _ _ _ _ _ _
  refine sort2 (x1 := rV.num) (y1 := (rV.den : Int)) (x2 := rO.num) (y2 := (rO.den : Int)) K0 KX T (by k_asm) (by k_asm) (by k_mem) (by k_mem) (by k_mem) ?_
  intro Dh ch hh tkh Fh Nh
  k_steps
  change wpAny _ _ _ _ _ _
  refine ne_rd (d := .list (srtL re.num (re.den : Int) rf.num (rf.den : Int) (ratP re) (ratP rf))) (Rd.list (News.get (by k_asm) (by k_mem)) (srt_rd (RatO_rd (News.get (by k_asm) (by k_mem))) (RatO_rd (News.get (by k_asm) (by k_mem))))) (by rw [lg_srt hlg]; exact (Rd.list (News.get (by k_asm) (by k_mem)) (srt_rd (RatO_rd (News.get (by k_asm) (by k_mem))) (RatO_rd (News.get (by k_asm) (by k_mem)))))) shaped_srt ?hu3 ?_
  case hu3 => ktr_units
  have mkS : MarkW9 := .mk
  k_steps
  change wpAny _ _ _ _ _ _
  (rename News _ _ _ _ => N9)
  (rename Fr _ _ _ _ => F9)
  exact @lawA8 w0 p loose mean mg mb fa L cc h₀ Q EX _ _ o1 o2 o3 o4 l0 vs0 ns0 _ _ _ _ _ _ _ _ _ _ K0 KX T F9 (fun p hp => N9 p ((fcons (by k_mem) (fcons (by k_mem) (fcons (by k_mem) (fcons (by k_mem) (fcons (by k_mem) (fcons (by k_mem) (List.forall_mem_nil _)))))) : ∀ p ∈ ((_, RatO rO _ _ _) :: (DV, RatO rV tV tV9 cV) :: (L + 1 + 1 + 1 + 1, o4) :: (L + 1 + 1 + 1, o3) :: (L + 1 + 1, o2) :: (L + 1, o1) :: []), p ∈ _) p hp)) q1 hL0 hI0 hns0 q2 q3 q4 z1 z2 z3 z4 bV bO (by exact n_value) (by rfl) hE hend
end
section
theorem words31 : True := by
  k_with_none
  k_with "ne9" => (refine neN ?_; (try dsimp only); first | with_reducible assumption | exact Ne.symm (by with_reducible assumption) | exact pj0 (by with_reducible assumption) | exact pj1 (by with_reducible assumption) | exact pj2 (by with_reducible assumption) | exact pj3 (by with_reducible assumption) | exact pj4 (by with_reducible assumption) | exact pj5 (by with_reducible assumption) | exact pj6 (by with_reducible assumption) | exact pj7 (by with_reducible assumption) | exact pj8 (by with_reducible assumption) | exact pj9 (by with_reducible assumption) | exact pj10 (by with_reducible assumption) | exact pj11 (by with_reducible assumption) | exact Ne.symm (pj0 (by with_reducible assumption)) | exact Ne.symm (pj1 (by with_reducible assumption)) | exact Ne.symm (pj2 (by with_reducible assumption)) | exact Ne.symm (pj3 (by with_reducible assumption)) | exact Ne.symm (pj4 (by with_reducible assumption)) | exact Ne.symm (pj5 (by with_reducible assumption)) | exact Ne.symm (pj6 (by with_reducible assumption)) | exact Ne.symm (pj7 (by with_reducible assumption)) | exact Ne.symm (pj8 (by with_reducible assumption)) | exact Ne.symm (pj9 (by with_reducible assumption)) | exact Ne.symm (pj10 (by with_reducible assumption)) | exact Ne.symm (pj11 (by with_reducible assumption)) | exact ad1 | exact ad2 | exact ad3 | exact ad4 | exact ad5 | exact ad6 | exact ad7 | exact ad8 | exact Ne.symm ad1 | exact Ne.symm ad2 | exact Ne.symm ad3 | exact Ne.symm ad4 | exact Ne.symm ad5 | exact Ne.symm ad6 | exact Ne.symm ad7 | exact Ne.symm ad8 | exact Nat.ne_of_lt (by with_reducible assumption) | exact Nat.ne_of_gt (by with_reducible assumption) | exact Nat.ne_of_lt (pj0 (by with_reducible assumption)) | exact Nat.ne_of_lt (pj1 (by with_reducible assumption)) | exact Nat.ne_of_lt (pj2 (by with_reducible assumption)) | exact Nat.ne_of_lt (pj3 (by with_reducible assumption)) | exact Nat.ne_of_lt (pj4 (by with_reducible assumption)) | exact Nat.ne_of_lt (pj5 (by with_reducible assumption)) | exact Nat.ne_of_lt (pj6 (by with_reducible assumption)) | exact Nat.ne_of_lt (pj7 (by with_reducible assumption)) | exact Nat.ne_of_lt (pj8 (by with_reducible assumption)) | exact Nat.ne_of_lt (pj9 (by with_reducible assumption)) | exact Nat.ne_of_lt (pj10 (by with_reducible assumption)) | exact Nat.ne_of_lt (pj11 (by with_reducible assumption)) | exact Nat.ne_of_gt (pj0 (by with_reducible assumption)) | exact Nat.ne_of_gt (pj1 (by with_reducible assumption)) | exact Nat.ne_of_gt (pj2 (by with_reducible assumption)) | exact Nat.ne_of_gt (pj3 (by with_reducible assumption)) | exact Nat.ne_of_gt (pj4 (by with_reducible assumption)) | exact Nat.ne_of_gt (pj5 (by with_reducible assumption)) | exact Nat.ne_of_gt (pj6 (by with_reducible assumption)) | exact Nat.ne_of_gt (pj7 (by with_reducible assumption)) | exact Nat.ne_of_gt (pj8 (by with_reducible assumption)) | exact Nat.ne_of_gt (pj9 (by with_reducible assumption)) | exact Nat.ne_of_gt (pj10 (by with_reducible assumption)) | exact Nat.ne_of_gt (pj11 (by with_reducible assumption)) | omega)
  k_with "k_ne" => (walk_at "ne9")
  k_with "k_in" => (refine' in_of ?z123fF ?z123fX; (case z123fF => k_asm); (case z123fX => k_asm))
  k_with "eval Name" => (k_here; k_dflt (refine' nameX_L ?z139k1 ?z139k2 ?_ ?z139k3 ?z139k4; (case z139k3 => rfl); (case z139k4 => rfl); (case z139k1 => k_asm); (case z139k2 => first | exact rfl | assumption); k_whole))
  k_with "hat9" => (first | exact News.get (by k_asm) (by k_mem) | exact Fr.keep (by k_asm) _ _ (by with_reducible assumption) | exact Tk.get (by k_asm) (by k_asm) (by with_reducible assumption) (by intro p9 hp9; first | exact hp9 | exact absurd hp9 List.not_mem_nil | (repeat (first | exact hp9 | refine List.mem_cons_of_mem _ ?_))) | exact Frag.In.keeps (by k_asm) (Fr.keep (by k_asm)) _ _ (by k_is))
  k_with "bits_by_make" => (with_reducible assumption)
  k_with "ktr_units" => ((try simp only [units_under_make, units_in1, units_deeper, Around.mark_units, units_caller]); (try dsimp only [ktrTop]); first | exact un1 (by with_reducible assumption) (Nat.le_of_ble_eq_true rfl) | exact un2 (by with_reducible assumption) (Nat.le_of_ble_eq_true rfl) | exact un3 (by with_reducible assumption) (Nat.le_of_ble_eq_true rfl) | (have hcL9 := cLine_is; omega))
  k_with "binaryOp Mod int int" => (k_here; (with_reducible refine mod_gen ?z140mp ?_); (case z140mp => decide); walk_at "i18")
  k_with "call ref" => (k_here; (with_reducible show wpAny _ _ (call (Value.ref 69) [Value.int _ _, Value.int _ _]) _ _ _); k_dflt (refine' frac_use ?z141k1 ?z141k2 ?z141k3 ?z141k4 ?z141k5 ?z141k6 ?z141k7 ?z141k8 ?z141k9 ?z141k10 ?z141k11 ?z141k12 ?z141k13 ?_; (case z141k1 => k_asm); (case z141k2 => k_asm); (case z141k3 => k_asm); (case z141k4 => k_asm); (case z141k5 => k_asm); (case z141k6 => first | exact rfl | assumption); (case z141k7 => first | exact Nat.le_of_ble_eq_true rfl | ktr_room); (case z141k8 => first | exact Nat.le_of_ble_eq_true rfl | ktr_units); (case z141k10 => bits_by_make); (case z141k11 => bits_by_make); (case z141k12 => decide); (case z141k13 => decide); (case z141k9 => first | exact nzden _ | omega | ((try k_fmods); omega) | (refine nzmul ?_ ?_ <;> first | exact nzden _ | omega)); k_whole); walk_at "i5"; (try k_sweep))
  k_with "call ref" => (k_here; (with_reducible show wpAny _ _ (call (Value.ref 69) [Value.int _ _, Value.int 1 _]) _ _ _); k_dflt (refine' frac_one ?z142k1 ?z142k2 ?z142k3 ?z142k4 ?z142k5 ?z142k6 ?z142k7 ?z142k8 ?z142k10 ?z142k12 ?_; (case z142k1 => k_asm); (case z142k2 => k_asm); (case z142k3 => k_asm); (case z142k4 => k_asm); (case z142k5 => k_asm); (case z142k6 => first | exact rfl | assumption); (case z142k7 => first | exact Nat.le_of_ble_eq_true rfl | ktr_room); (case z142k8 => first | exact Nat.le_of_ble_eq_true rfl | ktr_units); (case z142k10 => bits_by_make); (case z142k12 => decide); k_whole); walk_at "i6"; (try k_sweep))
  k_with "call ref" => (k_here; (with_reducible show wpAny _ _ (call (Value.ref 69) [Value.int _ _]) _ _ _); k_dflt (refine' frac_dflt ?z143k1 ?z143k2 ?z143k3 ?z143k4 ?z143k5 ?z143k6 ?z143k7 ?z143k8 ?z143k10 ?z143k12 ?_; (case z143k1 => k_asm); (case z143k2 => k_asm); (case z143k3 => k_asm); (case z143k4 => k_asm); (case z143k5 => k_asm); (case z143k6 => first | exact rfl | assumption); (case z143k7 => first | exact Nat.le_of_ble_eq_true rfl | ktr_room); (case z143k8 => first | exact Nat.le_of_ble_eq_true rfl | ktr_units); (case z143k10 => bits_by_make); (case z143k12 => decide); k_whole); walk_at "i6"; (try k_sweep))
  k_with "bits_by_make" => (first | with_reducible assumption | exact bits64 (by omega) (by omega))
  k_with "execs cons" => (walk_at "i19"; refine Hold.out ?_)
  k_with "call builtin:sorted" => (k_here; (with_reducible show wpAny _ _ (call (Value.builtin "sorted") [Value.ref _]) _ _ _); refine Hold.out ?_)
  k_with "compareOp Eq ref ref" => (k_here; (with_reducible show wpAny _ _ (compareOp CmpOp.Eq (Value.ref _) (Value.ref _)) _ _ _); refine Hold.out ?_)
  k_with "compareOp NotEq ref ref" => (k_here; (with_reducible show wpAny _ _ (compareOp CmpOp.NotEq (Value.ref _) (Value.ref _)) _ _ _); refine Hold.out ?_)
  k_with "call ref" => (k_here; (with_reducible show wpAny _ _ (call (Value.ref 161) _) _ _ _); refine Hold.out ?_)
  k_with "call ref" => (k_here; (with_reducible show wpAny _ _ (call (Value.ref 166) _) _ _ _); refine Hold.out ?_)
  k_with "call ref" => (k_here; (with_reducible show wpAny _ _ (call (Value.ref 154) _) _ _ _); refine Hold.out ?_)
  k_with "call ref" => (k_here; (with_reducible show wpAny _ _ (call (Value.ref 126) _) _ _ _); refine Hold.out ?_)
  k_with "call ref" => (k_here; (with_reducible show wpAny _ _ (call (Value.ref 119) _) _ _ _); refine Hold.out ?_)
  k_with "call ref" => (k_here; (with_reducible show wpAny _ _ (call (Value.ref 133) _) _ _ _); refine Hold.out ?_)
  k_with "call ref" => (k_here; (with_reducible show wpAny _ _ (call (Value.ref 140) _) _ _ _); refine Hold.out ?_)
  k_with "call ref" => (k_here; (with_reducible show wpAny _ _ (call (Value.ref 112) _) _ _ _); refine Hold.out ?_)
  trivial
theorem lawA4 {w0 : World} {p : Program} {loose : List Str} {mean : ExcName → Option Value} {mg mb : Str → Option Value} {fa L : Addr} {cc : Value} {h₀ : Heap} {Q : Flow → Shared → Prop} {EX : Value → Shared → Prop} {m : Str → Option Value} {s : Shared} {o1 o2 o3 o4 : Obj} {l0 : Addr} {vs0 : List Value} {ns0 : List Int} {DV : Addr} {rV : Rat} {tV tV9 : Tok} {cV : Nat}
    (K0 : Below callerA h₀ [] h₀) (KX : (HD.K w0.params).In h₀) (T : Top p loose mean mg mb h₀) (F : Fr h₀ L s.heap m) (N : News h₀ L s.heap ((DV, RatO rV tV tV9 cV) :: (L + 1 + 1 + 1 + 1, o4) :: (L + 1 + 1 + 1, o3) :: (L + 1 + 1, o2) :: (L + 1, o1) :: []))
    (q1 : o1.data = .cell (some (.ref l0))) (hL0 : h₀.IsList l0 vs0.toArray) (hI0 : IntsAre vs0 ns0) (hns0 : ns0.length ≤ 63) (q2 : o2.data = .cell none) (q3 : o3.data = .cell none) (q4 : o4.data = .cell none) (z1 : -100000 ≤ rV.num) (z2 : rV.num ≤ 100000) (z3 : 1 ≤ (rV.den : Int)) (z4 : (rV.den : Int) ≤ 100000)
    (n_value : m (Str.ofString "value") = some (.ref DV))
    (hE : PassesOwn (model PySem.Challenge.rw_ui0509_08.row.prog w0) (callerA.deeper (envOfC HD.dH.name HD.dH.scope L fa cc)) (envOfC HD.dH.name HD.dH.scope L fa cc) EX)
    (hend : ∀ (h' : Heap) (tk' : Nat) (m' : Str → Option Value), Fr h₀ L h' m' → Q (.ret (.bool true)) { s with heap := h', toks := tk' }) :
    wpAny (model PySem.Challenge.rw_ui0509_08.row.prog w0) (callerA.deeper (envOfC HD.dH.name HD.dH.scope L fa cc)) (execs (HD.fb29.1.drop 4) (envOfC HD.dH.name HD.dH.scope L fa cc)) Q EX s := by
  w_top off
  revert KX; k_fill; intro KX
  dsimp only [HD.dH, HD.fb29, HD.fs29, List.drop_succ_cons, List.drop_zero]
  k_steps
  obtain ⟨y1, y2⟩ := up_abs (y := (rV.den : Int)) z3 z1 z2
  change wpAny _ _ _ _ _ _
  refine' up_c (x1 := rV.num) (y1 := (rV.den : Int)) ?b1_u7 ?b2_u7 ?b3_u7 ?b4_u7 ?b5_u7 ?b6_u7 ?e1_u7 z3 z4 ?k7_u7 ?k8_u7 ?_
  case b1_u7 => k_asm
  case b2_u7 => k_asm
  case b3_u7 => k_asm
  case b4_u7 => k_asm
  case b5_u7 => k_asm
  case b6_u7 => first | exact rfl | assumption
  case k7_u7 => ktr_room
  case k8_u7 => ktr_units
  case e1_u7 => exact News.get (by k_asm) (by k_mem)
  intro ua ha tka Fa Na
  k_steps
  change wpAny _ _ _ _ _ _
  refine' at_most_u (x1 := rV.num) (y1 := (rV.den : Int)) (x2 := (-(Int.fdiv (-rV.num) (rV.den : Int)))) (y2 := 1) (n1 := 64) (k1 := 64) (n2 := 64) (k2 := 64) ?b1_u8 ?b2_u8 ?b3_u8 ?b4_u8 ?b5_u8 ?b6_u8 ?e1_u8 ?e2_u8 ?k7_u8 ?k8_u8 (bits64 (by omega) (by omega)) (bits64 (by omega) (by omega)) (bits64 (by omega) (by omega)) (bits64 (by omega) (by omega)) (by decide) (by decide) ?_
  case b1_u8 => k_asm
  case b2_u8 => k_asm
  case b3_u8 => k_asm
  case b4_u8 => k_asm
  case b5_u8 => k_asm
  case b6_u8 => first | exact rfl | assumption
  case k7_u8 => ktr_room
  case k8_u8 => ktr_units
  case e1_u8 => exact News.get (by k_asm) (by k_mem)
  case e2_u8 => exact News.get (by k_asm) (by k_mem)
  intro hb tkb Fb Nb
  rw [decide_eq_true (up_le (x := rV.num) z3)]
  k_steps
  change wpAny _ _ _ _ _ _
  refine' up_c (x1 := rV.num) (y1 := (rV.den : Int)) ?b1_u7 ?b2_u7 ?b3_u7 ?b4_u7 ?b5_u7 ?b6_u7 ?e1_u7 z3 z4 ?k7_u7 ?k8_u7 ?_
  case b1_u7 => k_asm
  case b2_u7 => k_asm
  case b3_u7 => k_asm
  case b4_u7 => k_asm
  case b5_u7 => k_asm
  case b6_u7 => first | exact rfl | assumption
  case k7_u7 => ktr_room
  case k8_u7 => ktr_units
  case e1_u7 => exact News.get (by k_asm) (by k_mem)
  intro uc hc tkc Fc Nc
  k_steps
  change wpAny _ _ _ _ _ _
  refine' less_u (x1 := (-(Int.fdiv (-rV.num) (rV.den : Int))) - 1) (y1 := 1) (x2 := rV.num) (y2 := (rV.den : Int)) (n1 := 64) (k1 := 64) (n2 := 64) (k2 := 64) ?b1_u9 ?b2_u9 ?b3_u9 ?b4_u9 ?b5_u9 ?b6_u9 ?e1_u9 ?e2_u9 ?k7_u9 ?k8_u9 (bits64 (by omega) (by omega)) (bits64 (by omega) (by omega)) (bits64 (by omega) (by omega)) (bits64 (by omega) (by omega)) (by decide) (by decide) ?_
  case b1_u9 => k_asm
  case b2_u9 => k_asm
  case b3_u9 => k_asm
  case b4_u9 => k_asm
  case b5_u9 => k_asm
  case b6_u9 => first | exact rfl | assumption
  case k7_u9 => ktr_room
  case k8_u9 => ktr_units
  case e1_u9 => exact News.get (by k_asm) (by k_mem)
  case e2_u9 => exact News.get (by k_asm) (by k_mem)
  intro hd9 tkd Fd Nd
  rw [decide_eq_true (up_lt (x := rV.num) z3)]
  have mkS : MarkW9 := .mk
  k_steps
  change wpAny _ _ _ _ _ _
  (rename News _ _ _ _ => N9)
  (rename Fr _ _ _ _ => F9)
  exact @lawA6 w0 p loose mean mg mb fa L cc h₀ Q EX _ _ o1 o2 o3 o4 l0 vs0 ns0 _ _ _ _ _ K0 KX T F9 (fun p hp => N9 p ((fcons (by k_mem) (fcons (by k_mem) (fcons (by k_mem) (fcons (by k_mem) (fcons (by k_mem) (List.forall_mem_nil _))))) : ∀ p ∈ ((DV, RatO rV tV tV9 cV) :: (L + 1 + 1 + 1 + 1, o4) :: (L + 1 + 1 + 1, o3) :: (L + 1 + 1, o2) :: (L + 1, o1) :: []), p ∈ _) p hp)) q1 hL0 hI0 hns0 q2 q3 q4 z1 z2 z3 z4 (by exact n_value) hE hend
end
section
theorem words32 : True := by
  k_with_none
  k_with "ne9" => (refine neN ?_; (try dsimp only); first | with_reducible assumption | exact Ne.symm (by with_reducible assumption) | exact pj0 (by with_reducible assumption) | exact pj1 (by with_reducible assumption) | exact pj2 (by with_reducible assumption) | exact pj3 (by with_reducible assumption) | exact pj4 (by with_reducible assumption) | exact pj5 (by with_reducible assumption) | exact pj6 (by with_reducible assumption) | exact pj7 (by with_reducible assumption) | exact pj8 (by with_reducible assumption) | exact pj9 (by with_reducible assumption) | exact pj10 (by with_reducible assumption) | exact pj11 (by with_reducible assumption) | exact Ne.symm (pj0 (by with_reducible assumption)) | exact Ne.symm (pj1 (by with_reducible assumption)) | exact Ne.symm (pj2 (by with_reducible assumption)) | exact Ne.symm (pj3 (by with_reducible assumption)) | exact Ne.symm (pj4 (by with_reducible assumption)) | exact Ne.symm (pj5 (by with_reducible assumption)) | exact Ne.symm (pj6 (by with_reducible assumption)) | exact Ne.symm (pj7 (by with_reducible assumption)) | exact Ne.symm (pj8 (by with_reducible assumption)) | exact Ne.symm (pj9 (by with_reducible assumption)) | exact Ne.symm (pj10 (by with_reducible assumption)) | exact Ne.symm (pj11 (by with_reducible assumption)) | exact ad1 | exact ad2 | exact ad3 | exact ad4 | exact ad5 | exact ad6 | exact ad7 | exact ad8 | exact Ne.symm ad1 | exact Ne.symm ad2 | exact Ne.symm ad3 | exact Ne.symm ad4 | exact Ne.symm ad5 | exact Ne.symm ad6 | exact Ne.symm ad7 | exact Ne.symm ad8 | exact Nat.ne_of_lt (by with_reducible assumption) | exact Nat.ne_of_gt (by with_reducible assumption) | exact Nat.ne_of_lt (pj0 (by with_reducible assumption)) | exact Nat.ne_of_lt (pj1 (by with_reducible assumption)) | exact Nat.ne_of_lt (pj2 (by with_reducible assumption)) | exact Nat.ne_of_lt (pj3 (by with_reducible assumption)) | exact Nat.ne_of_lt (pj4 (by with_reducible assumption)) | exact Nat.ne_of_lt (pj5 (by with_reducible assumption)) | exact Nat.ne_of_lt (pj6 (by with_reducible assumption)) | exact Nat.ne_of_lt (pj7 (by with_reducible assumption)) | exact Nat.ne_of_lt (pj8 (by with_reducible assumption)) | exact Nat.ne_of_lt (pj9 (by with_reducible assumption)) | exact Nat.ne_of_lt (pj10 (by with_reducible assumption)) | exact Nat.ne_of_lt (pj11 (by with_reducible assumption)) | exact Nat.ne_of_gt (pj0 (by with_reducible assumption)) | exact Nat.ne_of_gt (pj1 (by with_reducible assumption)) | exact Nat.ne_of_gt (pj2 (by with_reducible assumption)) | exact Nat.ne_of_gt (pj3 (by with_reducible assumption)) | exact Nat.ne_of_gt (pj4 (by with_reducible assumption)) | exact Nat.ne_of_gt (pj5 (by with_reducible assumption)) | exact Nat.ne_of_gt (pj6 (by with_reducible assumption)) | exact Nat.ne_of_gt (pj7 (by with_reducible assumption)) | exact Nat.ne_of_gt (pj8 (by with_reducible assumption)) | exact Nat.ne_of_gt (pj9 (by with_reducible assumption)) | exact Nat.ne_of_gt (pj10 (by with_reducible assumption)) | exact Nat.ne_of_gt (pj11 (by with_reducible assumption)) | omega)
  k_with "k_ne" => (walk_at "ne9")
  k_with "k_in" => (refine' in_of ?z123fF ?z123fX; (case z123fF => k_asm); (case z123fX => k_asm))
  k_with "eval Name" => (k_here; k_dflt (refine' nameX_L ?z144k1 ?z144k2 ?_ ?z144k3 ?z144k4; (case z144k3 => rfl); (case z144k4 => rfl); (case z144k1 => k_asm); (case z144k2 => first | exact rfl | assumption); k_whole))
  k_with "hat9" => (first | exact News.get (by k_asm) (by k_mem) | exact Fr.keep (by k_asm) _ _ (by with_reducible assumption) | exact Tk.get (by k_asm) (by k_asm) (by with_reducible assumption) (by intro p9 hp9; first | exact hp9 | exact absurd hp9 List.not_mem_nil | (repeat (first | exact hp9 | refine List.mem_cons_of_mem _ ?_))) | exact Frag.In.keeps (by k_asm) (Fr.keep (by k_asm)) _ _ (by k_is))
  k_with "bits_by_make" => (with_reducible assumption)
  k_with "ktr_units" => ((try simp only [units_under_make, units_in1, units_deeper, Around.mark_units, units_caller]); (try dsimp only [ktrTop]); first | exact un1 (by with_reducible assumption) (Nat.le_of_ble_eq_true rfl) | exact un2 (by with_reducible assumption) (Nat.le_of_ble_eq_true rfl) | exact un3 (by with_reducible assumption) (Nat.le_of_ble_eq_true rfl) | (have hcL9 := cLine_is; omega))
  k_with "binaryOp Mod int int" => (k_here; (with_reducible refine mod_gen ?z145mp ?_); (case z145mp => decide); walk_at "i18")
  k_with "call ref" => (k_here; (with_reducible show wpAny _ _ (call (Value.ref 69) [Value.int _ _, Value.int _ _]) _ _ _); k_dflt (refine' frac_use ?z146k1 ?z146k2 ?z146k3 ?z146k4 ?z146k5 ?z146k6 ?z146k7 ?z146k8 ?z146k9 ?z146k10 ?z146k11 ?z146k12 ?z146k13 ?_; (case z146k1 => k_asm); (case z146k2 => k_asm); (case z146k3 => k_asm); (case z146k4 => k_asm); (case z146k5 => k_asm); (case z146k6 => first | exact rfl | assumption); (case z146k7 => first | exact Nat.le_of_ble_eq_true rfl | ktr_room); (case z146k8 => first | exact Nat.le_of_ble_eq_true rfl | ktr_units); (case z146k10 => bits_by_make); (case z146k11 => bits_by_make); (case z146k12 => decide); (case z146k13 => decide); (case z146k9 => first | exact nzden _ | omega | ((try k_fmods); omega) | (refine nzmul ?_ ?_ <;> first | exact nzden _ | omega)); k_whole); walk_at "i5"; (try k_sweep))
  k_with "call ref" => (k_here; (with_reducible show wpAny _ _ (call (Value.ref 69) [Value.int _ _, Value.int 1 _]) _ _ _); k_dflt (refine' frac_one ?z147k1 ?z147k2 ?z147k3 ?z147k4 ?z147k5 ?z147k6 ?z147k7 ?z147k8 ?z147k10 ?z147k12 ?_; (case z147k1 => k_asm); (case z147k2 => k_asm); (case z147k3 => k_asm); (case z147k4 => k_asm); (case z147k5 => k_asm); (case z147k6 => first | exact rfl | assumption); (case z147k7 => first | exact Nat.le_of_ble_eq_true rfl | ktr_room); (case z147k8 => first | exact Nat.le_of_ble_eq_true rfl | ktr_units); (case z147k10 => bits_by_make); (case z147k12 => decide); k_whole); walk_at "i6"; (try k_sweep))
  k_with "call ref" => (k_here; (with_reducible show wpAny _ _ (call (Value.ref 69) [Value.int _ _]) _ _ _); k_dflt (refine' frac_dflt ?z148k1 ?z148k2 ?z148k3 ?z148k4 ?z148k5 ?z148k6 ?z148k7 ?z148k8 ?z148k10 ?z148k12 ?_; (case z148k1 => k_asm); (case z148k2 => k_asm); (case z148k3 => k_asm); (case z148k4 => k_asm); (case z148k5 => k_asm); (case z148k6 => first | exact rfl | assumption); (case z148k7 => first | exact Nat.le_of_ble_eq_true rfl | ktr_room); (case z148k8 => first | exact Nat.le_of_ble_eq_true rfl | ktr_units); (case z148k10 => bits_by_make); (case z148k12 => decide); k_whole); walk_at "i6"; (try k_sweep))
  k_with "bits_by_make" => (first | with_reducible assumption | exact bits64 (by omega) (by omega))
  k_with "execs cons" => (walk_at "i19"; refine Hold.out ?_)
  k_with "call builtin:sorted" => (k_here; (with_reducible show wpAny _ _ (call (Value.builtin "sorted") [Value.ref _]) _ _ _); refine Hold.out ?_)
  k_with "compareOp Eq ref ref" => (k_here; (with_reducible show wpAny _ _ (compareOp CmpOp.Eq (Value.ref _) (Value.ref _)) _ _ _); refine Hold.out ?_)
  k_with "compareOp NotEq ref ref" => (k_here; (with_reducible show wpAny _ _ (compareOp CmpOp.NotEq (Value.ref _) (Value.ref _)) _ _ _); refine Hold.out ?_)
  k_with "call ref" => (k_here; (with_reducible show wpAny _ _ (call (Value.ref 161) _) _ _ _); refine Hold.out ?_)
  k_with "call ref" => (k_here; (with_reducible show wpAny _ _ (call (Value.ref 166) _) _ _ _); refine Hold.out ?_)
  k_with "call ref" => (k_here; (with_reducible show wpAny _ _ (call (Value.ref 154) _) _ _ _); refine Hold.out ?_)
  k_with "call ref" => (k_here; (with_reducible show wpAny _ _ (call (Value.ref 126) _) _ _ _); refine Hold.out ?_)
  k_with "call ref" => (k_here; (with_reducible show wpAny _ _ (call (Value.ref 119) _) _ _ _); refine Hold.out ?_)
  k_with "call ref" => (k_here; (with_reducible show wpAny _ _ (call (Value.ref 133) _) _ _ _); refine Hold.out ?_)
  k_with "call ref" => (k_here; (with_reducible show wpAny _ _ (call (Value.ref 140) _) _ _ _); refine Hold.out ?_)
  k_with "call ref" => (k_here; (with_reducible show wpAny _ _ (call (Value.ref 112) _) _ _ _); refine Hold.out ?_)
  trivial
theorem lawA {w0 : World} {p : Program} {loose : List Str} {mean : ExcName → Option Value} {mg mb : Str → Option Value} {fa L : Addr} {cc : Value} {h₀ : Heap} {Q : Flow → Shared → Prop} {EX : Value → Shared → Prop} {m : Str → Option Value} {s : Shared} {o1 o2 o3 o4 : Obj} {l0 : Addr} {vs0 : List Value} {ns0 : List Int} 
    (K0 : Below callerA h₀ [] h₀) (KX : (HD.K w0.params).In h₀) (T : Top p loose mean mg mb h₀) (F : Fr h₀ L s.heap m) (N : News h₀ L s.heap ((L + 1 + 1 + 1 + 1, o4) :: (L + 1 + 1 + 1, o3) :: (L + 1 + 1, o2) :: (L + 1, o1) :: []))
    (q1 : o1.data = .cell (some (.ref l0))) (hL0 : h₀.IsList l0 vs0.toArray) (hI0 : IntsAre vs0 ns0) (hns0 : ns0.length ≤ 63) (q2 : o2.data = .cell none) (q3 : o3.data = .cell none) (q4 : o4.data = .cell none)
    
    (hE : PassesOwn (model PySem.Challenge.rw_ui0509_08.row.prog w0) (callerA.deeper (envOfC HD.dH.name HD.dH.scope L fa cc)) (envOfC HD.dH.name HD.dH.scope L fa cc) EX)
    (hend : ∀ (h' : Heap) (tk' : Nat) (m' : Str → Option Value), Fr h₀ L h' m' → Q (.ret (.bool true)) { s with heap := h', toks := tk' }) :
    wpAny (model PySem.Challenge.rw_ui0509_08.row.prog w0) (callerA.deeper (envOfC HD.dH.name HD.dH.scope L fa cc)) (execs (HD.fb29.1.drop 0) (envOfC HD.dH.name HD.dH.scope L fa cc)) Q EX s := by
  w_top off
  revert KX; k_fill; intro KX
  dsimp only [HD.dH, HD.fb29, HD.fs29, List.drop_succ_cons, List.drop_zero]
  k_steps
  (rename Rat => rV)
  (rename _ = Rat.divInt _ _ => eV)
  refine hide_goal fun G9 k9 => ?_
  obtain ⟨z1, z2, z3, z4⟩ := div_bounds eV (by omega) (by omega) (by omega)
  clear eV
  refine k9 ?_
  clear k9
  change wpAny _ _ _ _ _ _
  refine' show_c (x := rV.num) (y := (rV.den : Int)) ?b1_u10 ?b2_u10 ?b3_u10 ?b4_u10 ?b5_u10 ?b6_u10 ?e1_u10 z1 z2 z3 z4 ?k7_u10 ?k8_u10 ?_
  case b1_u10 => k_asm
  case b2_u10 => k_asm
  case b3_u10 => k_asm
  case b4_u10 => k_asm
  case b5_u10 => k_asm
  case b6_u10 => first | exact rfl | assumption
  case k7_u10 => ktr_room
  case k8_u10 => ktr_units
  case e1_u10 => exact News.get (by k_asm) (by k_mem)
  intro u9 h9 tk9 F9 N9
  k_steps
  change wpAny _ _ _ _ _ _
  refine' read_sh (x := rV.num) (y := (rV.den : Int)) ?b1_u11 ?b2_u11 ?b3_u11 ?b4_u11 ?b5_u11 ?b6_u11 z1 z2 z3 z4 ?k7_u11 ?k8_u11 ?_
  case b1_u11 => k_asm
  case b2_u11 => k_asm
  case b3_u11 => k_asm
  case b4_u11 => k_asm
  case b5_u11 => k_asm
  case b6_u11 => first | exact rfl | assumption
  case k7_u11 => ktr_room
  case k8_u11 => ktr_units
  intro D9 t9 t9' c9 h8 tk8 F8 N8 l8
  rw [Rat.num_divInt_den] at N8
  k_steps
  change wpAny _ _ _ _ _ _
  refine ne_T2b (b := false) (x1 := rV.num) (y1 := (rV.den : Int)) (x2 := rV.num) (y2 := (rV.den : Int)) (News.get (by k_asm) (by k_mem)) (News.get (by k_asm) (by k_mem)) ?hu1 (by simp) ?_
  case hu1 => ktr_units
  have mkS : MarkW9 := .mk
  k_steps
  change wpAny _ _ _ _ _ _
  (rename News _ _ _ _ => N9)
  (rename Fr _ _ _ _ => F9)
  refine' @lawA4 w0 p loose mean mg mb fa L cc h₀ Q EX _ _ o1 o2 o3 o4 l0 vs0 ns0 _ _ _ _ _ K0 KX T F9 ?nN9 q1 hL0 hI0 hns0 q2 q3 q4 z1 z2 z3 z4 ?nV9 hE hend
  case nV9 => exact rfl
  case nN9 => exact (fun p hp => N9 p ((fcons (by k_mem) (fcons (by k_mem) (fcons (by k_mem) (fcons (by k_mem) (fcons (by k_mem) (List.forall_mem_nil _))))) : ∀ p ∈ ((_, RatO rV _ _ _) :: (L + 1 + 1 + 1 + 1, o4) :: (L + 1 + 1 + 1, o3) :: (L + 1 + 1, o2) :: (L + 1, o1) :: []), p ∈ _) p hp))
end
end
section
inductive Final : Prop where
  | mk : Final
theorem good_true {cl : Str → Option Addr} {mean : ExcName → Option Value} {ns : List Int} {s₁ s' : Shared} {L : Addr} {m : Str → Option Value} (F : Fr s₁.heap L s'.heap m) (hg : s'.gens = #[]) (hos : s'.os = s₁.os) :
    GoodW PySem.Challenge.rw_ui0509_08.row.claim cl mean [ofPy (PyData.list (ns.map PyData.int))] s₁ (.ok (.ret (.bool true))) s' := by
  refine goodW_bool F hg (fun _ => rfl) (postW_of rfl ?_ rfl) hos
  first | (with_unfolding_all exact w_eq_bool (w_res rfl) w_lit) | rfl | simp [WTm.value] | wtm_val
end
end Mine
open Mine
local macro_rules | `(tactic| k_qdec) => `(tactic| decide +kernel)
theorem Mine.words33 : True := by
  k_with_none
  k_with "k_in" => (refine' in_of ?z150fF ?z150fX; (case z150fF => k_asm); (case z150fX => k_asm))
  k_with "kc_close" => ((fail_if_success (rename Final => fin')); (with_reducible show GoodW _ _ _ _ _ _ _); refine Hold.out ?_)
  k_with "wrow_close" => ((fail_if_success (rename Final => fin')); (with_reducible show GoodW _ _ _ _ _ _ _); refine Hold.out ?_)
  trivial
set_option maxRecDepth 100000 in
set_option maxHeartbeats 40000000 in
theorem PySem.Challenge.cw_ui0509_08_holds : PySem.Challenge.rw_ui0509_08.Holds :=
  HD.hd (by
  k_go0; (all_goals try k_fold)
  (rename News _ _ _ _ => NT)
  (rename Fr _ _ _ _ => FT)
  refine' lawA (by k_asm) (by k_asm) (by k_asm) FT NT ?q1 ?hl0 ?hi0 ?hns ?q2 ?q3 ?q4 ?hE (fun h' tk' m' F' => ?_)
  case q1 => assumption
  case q2 => assumption
  case q3 => assumption
  case q4 => assumption
  case hl0 => k_asm
  case hi0 => k_asm
  case hns => omega
  case hE => passes_own
  k_unfold
  (try dsimp only)
  exact good_true F' (by assumption) rfl)
