import PyProof.Rows.All
import Wide.All
import OpenK.AllK
import Wide.FinOn
import PySem.Challenge.RW_ui0509_07
open PySem PySem.W PyProof.Rows PySem.Spec PySem.Calls
set_option Elab.async false
set_option maxRecDepth 100000
set_option maxHeartbeats 8000000
set_option rowWalk.seconds 1500
set_option compiler.extract_closed false
set_option linter.all false
namespace HD
open PySem PySem.W PyProof.Rows PySem.Spec PySem.Calls
abbrev pw : Program := PySem.Challenge.pw_ui0509_07
def nth : List Stmt → Nat → Stmt
  | [], _ => .Pass ⟨0, 0, 0, 0⟩
  | x :: _, 0 => x
  | _ :: r, n + 1 => nth r n
def bodyS : Stmt → List Stmt
  | .FunctionDef _ _ b .. => b
  | .ClassDef _ _ _ b .. => b
  | .If _ b .. => b
  | _ => []
def argsS : Stmt → Arguments
  | .FunctionDef _ a .. => a
  | _ => ⟨[], [], none, [], [], none, []⟩
def scopeS : Stmt → Scope
  | .FunctionDef _ _ _ _ _ _ s .. => s
  | _ => ⟨.function, [], false, false, []⟩
abbrev lf (o : Obj) : BT := .node o .nil .nil
@[reducible] noncomputable def fa0 : {x : Arguments // x = argsS (nth pw.main.body 0)} := ⟨_, by conv => (rhs; whnf)⟩
@[reducible] noncomputable def fb0 : {x : List Stmt // x = bodyS (nth pw.main.body 0)} := ⟨_, by conv => (rhs; whnf)⟩
@[reducible] noncomputable def fs0 : {x : Scope // x = scopeS (nth pw.main.body 0)} := ⟨_, by conv => (rhs; whnf)⟩
@[reducible] noncomputable def fa3 : {x : Arguments // x = argsS (nth pw.main.body 3)} := ⟨_, by conv => (rhs; whnf)⟩
@[reducible] noncomputable def fb3 : {x : List Stmt // x = bodyS (nth pw.main.body 3)} := ⟨_, by conv => (rhs; whnf)⟩
@[reducible] noncomputable def fs3 : {x : Scope // x = scopeS (nth pw.main.body 3)} := ⟨_, by conv => (rhs; whnf)⟩
@[reducible] noncomputable def fa4 : {x : Arguments // x = argsS (nth pw.main.body 4)} := ⟨_, by conv => (rhs; whnf)⟩
@[reducible] noncomputable def fb4 : {x : List Stmt // x = bodyS (nth pw.main.body 4)} := ⟨_, by conv => (rhs; whnf)⟩
@[reducible] noncomputable def fs4 : {x : Scope // x = scopeS (nth pw.main.body 4)} := ⟨_, by conv => (rhs; whnf)⟩
@[reducible] noncomputable def fa5 : {x : Arguments // x = argsS (nth pw.main.body 5)} := ⟨_, by conv => (rhs; whnf)⟩
@[reducible] noncomputable def fb5 : {x : List Stmt // x = bodyS (nth pw.main.body 5)} := ⟨_, by conv => (rhs; whnf)⟩
@[reducible] noncomputable def fs5 : {x : Scope // x = scopeS (nth pw.main.body 5)} := ⟨_, by conv => (rhs; whnf)⟩
@[reducible] noncomputable def fa11 : {x : Arguments // x = argsS (nth pw.main.body 11)} := ⟨_, by conv => (rhs; whnf)⟩
@[reducible] noncomputable def fb11 : {x : List Stmt // x = bodyS (nth pw.main.body 11)} := ⟨_, by conv => (rhs; whnf)⟩
@[reducible] noncomputable def fs11 : {x : Scope // x = scopeS (nth pw.main.body 11)} := ⟨_, by conv => (rhs; whnf)⟩
@[reducible] noncomputable def fa12 : {x : Arguments // x = argsS (nth pw.main.body 12)} := ⟨_, by conv => (rhs; whnf)⟩
@[reducible] noncomputable def fb12 : {x : List Stmt // x = bodyS (nth pw.main.body 12)} := ⟨_, by conv => (rhs; whnf)⟩
@[reducible] noncomputable def fs12 : {x : Scope // x = scopeS (nth pw.main.body 12)} := ⟨_, by conv => (rhs; whnf)⟩
@[reducible] noncomputable def fa13 : {x : Arguments // x = argsS (nth pw.main.body 13)} := ⟨_, by conv => (rhs; whnf)⟩
@[reducible] noncomputable def fb13 : {x : List Stmt // x = bodyS (nth pw.main.body 13)} := ⟨_, by conv => (rhs; whnf)⟩
@[reducible] noncomputable def fs13 : {x : Scope // x = scopeS (nth pw.main.body 13)} := ⟨_, by conv => (rhs; whnf)⟩
@[reducible] noncomputable def fa14 : {x : Arguments // x = argsS (nth pw.main.body 14)} := ⟨_, by conv => (rhs; whnf)⟩
@[reducible] noncomputable def fb14 : {x : List Stmt // x = bodyS (nth pw.main.body 14)} := ⟨_, by conv => (rhs; whnf)⟩
@[reducible] noncomputable def fs14 : {x : Scope // x = scopeS (nth pw.main.body 14)} := ⟨_, by conv => (rhs; whnf)⟩
@[reducible] noncomputable def fa15 : {x : Arguments // x = argsS (nth pw.main.body 15)} := ⟨_, by conv => (rhs; whnf)⟩
@[reducible] noncomputable def fb15 : {x : List Stmt // x = bodyS (nth pw.main.body 15)} := ⟨_, by conv => (rhs; whnf)⟩
@[reducible] noncomputable def fs15 : {x : Scope // x = scopeS (nth pw.main.body 15)} := ⟨_, by conv => (rhs; whnf)⟩
@[reducible] noncomputable def fa16 : {x : Arguments // x = argsS (nth pw.main.body 16)} := ⟨_, by conv => (rhs; whnf)⟩
@[reducible] noncomputable def fb16 : {x : List Stmt // x = bodyS (nth pw.main.body 16)} := ⟨_, by conv => (rhs; whnf)⟩
@[reducible] noncomputable def fs16 : {x : Scope // x = scopeS (nth pw.main.body 16)} := ⟨_, by conv => (rhs; whnf)⟩
@[reducible] noncomputable def fa17 : {x : Arguments // x = argsS (nth pw.main.body 17)} := ⟨_, by conv => (rhs; whnf)⟩
@[reducible] noncomputable def fb17 : {x : List Stmt // x = bodyS (nth pw.main.body 17)} := ⟨_, by conv => (rhs; whnf)⟩
@[reducible] noncomputable def fs17 : {x : Scope // x = scopeS (nth pw.main.body 17)} := ⟨_, by conv => (rhs; whnf)⟩
@[reducible] noncomputable def fa19_0 : {x : Arguments // x = argsS (nth (bodyS (nth pw.main.body 19)) 0)} := ⟨_, by conv => (rhs; whnf)⟩
@[reducible] noncomputable def fb19_0 : {x : List Stmt // x = bodyS (nth (bodyS (nth pw.main.body 19)) 0)} := ⟨_, by conv => (rhs; whnf)⟩
@[reducible] noncomputable def fs19_0 : {x : Scope // x = scopeS (nth (bodyS (nth pw.main.body 19)) 0)} := ⟨_, by conv => (rhs; whnf)⟩
@[reducible] noncomputable def fa19_1 : {x : Arguments // x = argsS (nth (bodyS (nth pw.main.body 19)) 1)} := ⟨_, by conv => (rhs; whnf)⟩
@[reducible] noncomputable def fb19_1 : {x : List Stmt // x = bodyS (nth (bodyS (nth pw.main.body 19)) 1)} := ⟨_, by conv => (rhs; whnf)⟩
@[reducible] noncomputable def fs19_1 : {x : Scope // x = scopeS (nth (bodyS (nth pw.main.body 19)) 1)} := ⟨_, by conv => (rhs; whnf)⟩
@[reducible] noncomputable def fa19_2 : {x : Arguments // x = argsS (nth (bodyS (nth pw.main.body 19)) 2)} := ⟨_, by conv => (rhs; whnf)⟩
@[reducible] noncomputable def fb19_2 : {x : List Stmt // x = bodyS (nth (bodyS (nth pw.main.body 19)) 2)} := ⟨_, by conv => (rhs; whnf)⟩
@[reducible] noncomputable def fs19_2 : {x : Scope // x = scopeS (nth (bodyS (nth pw.main.body 19)) 2)} := ⟨_, by conv => (rhs; whnf)⟩
@[reducible] noncomputable def fa19_3 : {x : Arguments // x = argsS (nth (bodyS (nth pw.main.body 19)) 3)} := ⟨_, by conv => (rhs; whnf)⟩
@[reducible] noncomputable def fb19_3 : {x : List Stmt // x = bodyS (nth (bodyS (nth pw.main.body 19)) 3)} := ⟨_, by conv => (rhs; whnf)⟩
@[reducible] noncomputable def fs19_3 : {x : Scope // x = scopeS (nth (bodyS (nth pw.main.body 19)) 3)} := ⟨_, by conv => (rhs; whnf)⟩
@[reducible] noncomputable def fa19_4 : {x : Arguments // x = argsS (nth (bodyS (nth pw.main.body 19)) 4)} := ⟨_, by conv => (rhs; whnf)⟩
@[reducible] noncomputable def fb19_4 : {x : List Stmt // x = bodyS (nth (bodyS (nth pw.main.body 19)) 4)} := ⟨_, by conv => (rhs; whnf)⟩
@[reducible] noncomputable def fs19_4 : {x : Scope // x = scopeS (nth (bodyS (nth pw.main.body 19)) 4)} := ⟨_, by conv => (rhs; whnf)⟩
@[reducible] noncomputable def fa19_5 : {x : Arguments // x = argsS (nth (bodyS (nth pw.main.body 19)) 5)} := ⟨_, by conv => (rhs; whnf)⟩
@[reducible] noncomputable def fb19_5 : {x : List Stmt // x = bodyS (nth (bodyS (nth pw.main.body 19)) 5)} := ⟨_, by conv => (rhs; whnf)⟩
@[reducible] noncomputable def fs19_5 : {x : Scope // x = scopeS (nth (bodyS (nth pw.main.body 19)) 5)} := ⟨_, by conv => (rhs; whnf)⟩
@[reducible] noncomputable def fa21 : {x : Arguments // x = argsS (nth pw.main.body 21)} := ⟨_, by conv => (rhs; whnf)⟩
@[reducible] noncomputable def fb21 : {x : List Stmt // x = bodyS (nth pw.main.body 21)} := ⟨_, by conv => (rhs; whnf)⟩
@[reducible] noncomputable def fs21 : {x : Scope // x = scopeS (nth pw.main.body 21)} := ⟨_, by conv => (rhs; whnf)⟩
noncomputable def envH : Env := { scope := pw.main.scope, locals := mainNs, globals := mainNs, cells := [], code := (.ref 13), frame := some 14 }
noncomputable def cE : Code := Code.body (behindTheImports pw) envH
abbrev qH : Pos := (.mk 0 0 0 0)
abbrev annH : Option Value := (.some (.ref 6))
noncomputable def s0H (P : Params) (os : OsState) : Shared := ⟨boot_heap P, ⟨[]⟩, boot_drawn, boot_toks, os⟩
noncomputable def o11 (P : Params) : Obj := (PySem.Obj.mk (.type "tuple") .none (.seq (List.toArray []) 0) (List.toArray []))
noncomputable def o12 (P : Params) : Obj := (PySem.Obj.mk .none .none (.fields (List.toArray [])) (List.toArray []))
noncomputable def o13 (P : Params) : Obj := (PySem.Obj.mk (.type "code") .none (.fields (List.toArray [(.str (Str.ofString "<module>") 182), (.str (Str.ofString "<module>") 183), (.str (Str.ofString "/claim/cut.py") 184), (.int 1 0), (.int 0 0), (.int 0 0), (.int 0 0), (.int 0 0), (.ref 11), (.bool .false), (.int 181 0), (.ref 12), .none, .none, .none, .none, (.int 185 0), (.int 1 0), (.str (Str.ofString "/claim/cut.py") 186)])) (List.toArray []))
noncomputable def o14 (P : Params) : Obj := (PySem.Obj.mk (.type "frame") .none .plain (List.toArray [(.some (.ref 13)), (.some (.ref 3)), (.some (.ref 3)), .none, (.some (.str (Str.ofString "__main__") 164)), .none, (.some (.ref 0))]))
noncomputable def tA (P : Params) : BT := (.node (boot_o_0 P) (.node (boot_o_1 P) (.node (boot_o_3 P) (lf (boot_o_7 P)) (lf (o11 P))) (.node (boot_o_5 P) (lf (boot_o_9 P)) (lf (o13 P)))) (.node (boot_o_2 P) (.node (boot_o_4 P) (lf (boot_o_8 P)) (lf (o12 P))) (.node (boot_o_6 P) (lf (boot_o_10 P)) (lf (o14 P)))))
noncomputable def tAS (P : Params) (os : OsState) : SharedT := ⟨tA P, 15, (.mk [] [] [] 0 [] [] .false (List.toArray []) [] 0 .false .false .false 0 [2000, 10, 10] .false 0 .true [] [] 0 .false), ⟨[]⟩, (.mk 0 0 0 0), 187, os⟩
theorem preH (w : World) : (fun os => topGo treeTable pw w 11 annH 12 (s0H w.params os) (topStub pw)) = fun os => some ((tAS w.params os).abs, ⟨denote treeTable cE, cE, ((.mk 0 0 0 0) : Pos), [topFrame qH]⟩) := by
  rw [PySem.W.Fast.te15667345088766844465, PySem.W.Fast.te14364793385576792824, PySem.W.Fast.te11892475500146522536]; kernel_rfl!
noncomputable def tB (P : Params) : BT := (.node (boot_o_0 P) (.node (boot_o_1 P) (.node (boot_o_3 P) (lf (boot_o_7 P)) (lf (o11 P))) (.node (boot_o_5 P) (lf (boot_o_9 P)) (lf (o13 P)))) (.node (boot_o_2 P) (.node (boot_o_4 P) (lf (boot_o_8 P)) (lf (o12 P))) (.node (boot_o_6 P) (lf (boot_o_10 P)) (lf (o14 P)))))
noncomputable def tBS (P : Params) (os : OsState) : SharedT := ⟨tB P, 15, (.mk [] [] [] 0 [] [] .false (List.toArray []) [] 0 .false .false .false 0 [2000, 10, 10] .false 0 .true [] [] 0 .false), ⟨[]⟩, (.mk 0 0 0 0), 187, os⟩
theorem blockH (w : World) : (fun os => segRunT treeTable pw w 11 annH 1 1 (tAS w.params os) (blockOf (behindTheImports pw) envH cE ((.mk 0 0 0 0) : Pos) [topFrame qH])) = fun os => some (.next, tBS w.params os, cE, ((.mk 0 0 0 0) : Pos)) := by
  unfold blockOf; rw [PySem.W.Fast.te10110043849684766642, PySem.W.Fast.te14364793385576792824, PySem.W.Fast.te1066825118222455980]; kernel_rfl!
noncomputable def o3 (P : Params) : Obj := (PySem.Obj.mk (.type "dict") .none (.dict (List.toArray [(.mk (PySem.PyData.keyHash P (Str.ofString "__name__")) (.str (Str.ofString "__name__") 165) (.str (Str.ofString "heatnet.exact") 241)), (.mk (PySem.PyData.keyHash P (Str.ofString "__doc__")) (.str (Str.ofString "__doc__") 166) .none), (.mk (PySem.PyData.keyHash P (Str.ofString "__package__")) (.str (Str.ofString "__package__") 167) .none), (.mk (PySem.PyData.keyHash P (Str.ofString "__loader__")) (.str (Str.ofString "__loader__") 168) (.builtin "__main__.__loader__#opaque")), (.mk (PySem.PyData.keyHash P (Str.ofString "__spec__")) (.str (Str.ofString "__spec__") 169) .none), (.mk (PySem.PyData.keyHash P (Str.ofString "__annotations__")) (.str (Str.ofString "__annotations__") 170) (.ref 6)), (.mk (PySem.PyData.keyHash P (Str.ofString "__builtins__")) (.str (Str.ofString "__builtins__") 171) (.ref 4)), (.mk (PySem.PyData.keyHash P (Str.ofString "__file__")) (.str (Str.ofString "__file__") 173) (.str (Str.ofString "/claim/cut.py") 172)), (.mk (PySem.PyData.keyHash P (Str.ofString "__cached__")) (.str (Str.ofString "__cached__") 174) .none), (.mk (PySem.PyData.keyHash P (Str.ofString "_wall")) (.str (Str.ofString "_wall") 193) (.ref 21)), (.mk (PySem.PyData.keyHash P (Str.ofString "HeatError")) (.str (Str.ofString "HeatError") 213) (.ref 31)), (.mk (PySem.PyData.keyHash P (Str.ofString "need_number")) (.str (Str.ofString "need_number") 223) (.ref 41)), (.mk (PySem.PyData.keyHash P (Str.ofString "shown")) (.str (Str.ofString "shown") 230) (.ref 48)), (.mk (PySem.PyData.keyHash P (Str.ofString "need_name")) (.str (Str.ofString "need_name") 240) (.ref 55)), (.mk (PySem.PyData.keyHash P (Str.ofString "FIGURES")) (.str (Str.ofString "FIGURES") 244) (.int 2000 243)), (.mk (PySem.PyData.keyHash P (Str.ofString "MOST")) (.str (Str.ofString "MOST") 247) (.int 100000000000000000000000000000000000000000000000000000000000000000000000000000000000000000000000000000000000000000000000000000000000000000000000000000000000000000000000000000000000000000000000000000000000000000000000000000000000000000000000000000000000000000000000000000000000000000000000000000000000000000000000000000000000000000000000000000000000000000000000000000000000000000000000000000000000000000000000000000000000000000000000000000000000000000000000000000000000000000000000000000000000000000000000000000000000000000000000000000000000000000000000000000000000000000000000000000000000000000000000000000000000000000000000000000000000000000000000000000000000000000000000000000000000000000000000000000000000000000000000000000000000000000000000000000000000000000000000000000000000000000000000000000000000000000000000000000000000000000000000000000000000000000000000000000000000000000000000000000000000000000000000000000000000000000000000000000000000000000000000000000000000000000000000000000000000000000000000000000000000000000000000000000000000000000000000000000000000000000000000000000000000000000000000000000000000000000000000000000000000000000000000000000000000000000000000000000000000000000000000000000000000000000000000000000000000000000000000000000000000000000000000000000000000000000000000000000000000000000000000000000000000000000000000000000000000000000000000000000000000000000000000000000000000000000000000000000000000000000000000000000000000000000000000000000000000000000000000000000000000000000000000000000000000000000000000000000000000000000000000000000000000000000000000000000000000000000000000000000000000000000000000000000000000000000000000000000000000000000000000000000000000000000000000000000000000000000000000000000000000000000000000000000000000000000000000000000000000000000000000000000000000000000000000000000000000000000000000000000000000000000000000000000000000000000000000000000000000000000000000000000000000000000000000000000000000000000000000000000000000000000000000000000000 246)), (.mk (PySem.PyData.keyHash P (Str.ofString "NOUGHT")) (.str (Str.ofString "NOUGHT") 250) (.ref 56)), (.mk (PySem.PyData.keyHash P (Str.ofString "ONE")) (.str (Str.ofString "ONE") 253) (.ref 57)), (.mk (PySem.PyData.keyHash P (Str.ofString "divisor")) (.str (Str.ofString "divisor") 261) (.ref 64))]) 19) (List.toArray []))
noncomputable def o12v1 (P : Params) : Obj := (PySem.Obj.mk .none .none (.fields (List.toArray [(.int 1 0), (.int 0 0), (.ref 20), (.int 5 0), (.int 0 0), (.ref 27), (.int 7 0), (.int 0 0), (.ref 40), (.int 11 0), (.int 0 0), (.ref 47), (.int 17 0), (.int 0 0), (.ref 54), (.int 31 0), (.int 0 0), (.ref 63)])) (List.toArray []))
noncomputable def o15 (P : Params) : Obj := (PySem.Obj.mk (.type "tuple") .none (.seq (List.toArray []) 0) (List.toArray []))
noncomputable def o16 (P : Params) : Obj := (PySem.Obj.mk .none .none (.fields (List.toArray [])) (List.toArray []))
noncomputable def o17 (P : Params) : Obj := (PySem.Obj.mk (.type "tuple") .none (.seq (List.toArray [(.str (Str.ofString "k") 190)]) 0) (List.toArray []))
noncomputable def o18 (P : Params) : Obj := (PySem.Obj.mk (.type "tuple") .none (.seq (List.toArray []) 0) (List.toArray []))
noncomputable def o19 (P : Params) : Obj := (PySem.Obj.mk .none .none (.func (FuncData.mk (Str.ofString "_wall") (Str.ofString "_wall") fa0.1 (.stmts fb0.1) fs0.1 0 [] .none .none .none .none .none .none .none 0)) (List.toArray []))
noncomputable def o20 (P : Params) : Obj := (PySem.Obj.mk (.type "code") .none (.fields (List.toArray [(.str (Str.ofString "_wall") 187), (.str (Str.ofString "_wall") 188), (.str (Str.ofString "/claim/cut.py") 189), (.int 1 0), (.int 1 0), (.int 0 0), (.int 0 0), (.int 3 0), (.ref 15), (.bool .true), (.int 181 0), (.ref 16), .none, (.ref 17), (.ref 18), (.ref 19), (.int 191 0), (.int 1 0), (.str (Str.ofString "/claim/cut.py") 192)])) (List.toArray []))
noncomputable def o21 (P : Params) : Obj := (PySem.Obj.mk (.type "function") .none (.func (FuncData.mk (Str.ofString "_wall") (Str.ofString "_wall") fa0.1 (.stmts fb0.1) fs0.1 3 [] .none .none .none (.str (Str.ofString "__main__") 164) .none (.ref 20) .none 0)) (List.toArray []))
noncomputable def o22 (P : Params) : Obj := (PySem.Obj.mk (.type "tuple") .none (.seq (List.toArray [(.type "ValueError")]) 0) (List.toArray []))
noncomputable def o23 (P : Params) : Obj := (PySem.Obj.mk (.type "builtin_function_or_method") .none (.fields (List.toArray [(.builtin "type.__prepare__"), (.type "type")])) (List.toArray []))
noncomputable def o24 (P : Params) : Obj := (PySem.Obj.mk (.type "dict") .none (.dict (List.toArray [(.mk (PySem.PyData.keyHash P (Str.ofString "__module__")) (.str (Str.ofString "__module__") 203) (.str (Str.ofString "heatnet.errors") 194)), (.mk (PySem.PyData.keyHash P (Str.ofString "__qualname__")) (.str (Str.ofString "__qualname__") 205) (.str (Str.ofString "HeatError") 204)), (.mk (PySem.PyData.keyHash P (Str.ofString "__firstlineno__")) (.str (Str.ofString "__firstlineno__") 207) (.int 5 206)), (.mk (PySem.PyData.keyHash P (Str.ofString "__static_attributes__")) (.str (Str.ofString "__static_attributes__") 208) (.ref 29))]) 4) (List.toArray []))
noncomputable def o25 (P : Params) : Obj := (PySem.Obj.mk (.type "tuple") .none (.seq (List.toArray []) 0) (List.toArray []))
noncomputable def o26 (P : Params) : Obj := (PySem.Obj.mk .none .none (.fields (List.toArray [])) (List.toArray []))
noncomputable def o27 (P : Params) : Obj := (PySem.Obj.mk (.type "code") .none (.fields (List.toArray [(.str (Str.ofString "HeatError") 198), (.str (Str.ofString "HeatError") 199), (.str (Str.ofString "/claim/cut.py") 200), (.int 5 0), (.int 0 0), (.int 0 0), (.int 0 0), (.int 0 0), (.ref 25), (.bool .false), (.int 181 0), (.ref 26), .none, .none, .none, .none, (.int 201 0), (.int 5 0), (.str (Str.ofString "/claim/cut.py") 202)])) (List.toArray []))
noncomputable def o28 (P : Params) : Obj := (PySem.Obj.mk (.type "frame") .none .plain (List.toArray [(.some (.ref 27)), (.some (.ref 3)), (.some (.ref 24)), .none, (.some (.str (Str.ofString "heatnet.errors") 194)), .none, (.some (.ref 0))]))
noncomputable def o29 (P : Params) : Obj := (PySem.Obj.mk (.type "tuple") .none (.seq (List.toArray []) 0) (List.toArray []))
noncomputable def o30 (P : Params) : Obj := (PySem.Obj.mk (.type "dict") .none (.dict (List.toArray [(.mk (PySem.PyData.keyHash P (Str.ofString "__module__")) (.str (Str.ofString "__module__") 203) (.str (Str.ofString "heatnet.errors") 194)), (.mk (PySem.PyData.keyHash P (Str.ofString "__firstlineno__")) (.str (Str.ofString "__firstlineno__") 207) (.int 5 206)), (.mk (PySem.PyData.keyHash P (Str.ofString "__static_attributes__")) (.str (Str.ofString "__static_attributes__") 208) (.ref 29)), (.mk (PySem.PyData.keyHash P (Str.ofString "__weakref__")) (.str (Str.ofString "__weakref__") 210) (.ref 32)), (.mk (PySem.PyData.keyHash P (Str.ofString "__doc__")) (.str (Str.ofString "__doc__") 211) .none)]) 3) (List.toArray []))
noncomputable def o31 (P : Params) : Obj := (PySem.Obj.mk (.type "type") .none (.cls (.mk (Str.ofString "HeatError") [(.type "ValueError")] [(.ref 31), (.type "ValueError"), (.type "Exception"), (.type "BaseException"), (.type "object")] 30 (Str.ofString "HeatError") .true [] [] .false .none .false)) (List.toArray [(.some (.ref 22)), .none, (.some (.str (Str.ofString "HeatError") 196)), (.some (.str (Str.ofString "HeatError") 204)), (.some (.builtin "ValueError.__new__")), (.some (.bool .true))]))
noncomputable def o32 (P : Params) : Obj := (PySem.Obj.mk (.type "getset_descriptor") .none (.fields (List.toArray [(.str (Str.ofString "__weakref__") 209), (.ref 31), (.builtin "ExceptionGroup.__weakref__"), .none])) (List.toArray []))
noncomputable def o33 (P : Params) : Obj := (PySem.Obj.mk (.type "super") .none (.fields (List.toArray [(.ref 31), (.ref 31), (.ref 31)])) (List.toArray []))
noncomputable def o34 (P : Params) : Obj := (PySem.Obj.mk (.type "builtin_function_or_method") .none (.fields (List.toArray [(.builtin "object.__init_subclass__"), (.ref 31)])) (List.toArray []))
noncomputable def o35 (P : Params) : Obj := (PySem.Obj.mk (.type "tuple") .none (.seq (List.toArray []) 0) (List.toArray []))
noncomputable def o36 (P : Params) : Obj := (PySem.Obj.mk .none .none (.fields (List.toArray [])) (List.toArray []))
noncomputable def o37 (P : Params) : Obj := (PySem.Obj.mk (.type "tuple") .none (.seq (List.toArray [(.str (Str.ofString "value") 217), (.str (Str.ofString "least") 218), (.str (Str.ofString "most") 219), (.str (Str.ofString "what") 220)]) 0) (List.toArray []))
noncomputable def o38 (P : Params) : Obj := (PySem.Obj.mk (.type "tuple") .none (.seq (List.toArray []) 0) (List.toArray []))
noncomputable def o39 (P : Params) : Obj := (PySem.Obj.mk .none .none (.func (FuncData.mk (Str.ofString "need_number") (Str.ofString "need_number") fa3.1 (.stmts fb3.1) fs3.1 0 [] .none .none .none .none .none .none .none 0)) (List.toArray []))
noncomputable def o40 (P : Params) : Obj := (PySem.Obj.mk (.type "code") .none (.fields (List.toArray [(.str (Str.ofString "need_number") 214), (.str (Str.ofString "need_number") 215), (.str (Str.ofString "/claim/cut.py") 216), (.int 7 0), (.int 4 0), (.int 0 0), (.int 0 0), (.int 3 0), (.ref 35), (.bool .true), (.int 181 0), (.ref 36), .none, (.ref 37), (.ref 38), (.ref 39), (.int 221 0), (.int 7 0), (.str (Str.ofString "/claim/cut.py") 222)])) (List.toArray []))
noncomputable def o41 (P : Params) : Obj := (PySem.Obj.mk (.type "function") .none (.func (FuncData.mk (Str.ofString "need_number") (Str.ofString "need_number") fa3.1 (.stmts fb3.1) fs3.1 3 [] .none .none .none (.str (Str.ofString "heatnet.errors") 194) .none (.ref 40) .none 0)) (List.toArray []))
noncomputable def o42 (P : Params) : Obj := (PySem.Obj.mk (.type "tuple") .none (.seq (List.toArray []) 0) (List.toArray []))
noncomputable def o43 (P : Params) : Obj := (PySem.Obj.mk .none .none (.fields (List.toArray [])) (List.toArray []))
noncomputable def o44 (P : Params) : Obj := (PySem.Obj.mk (.type "tuple") .none (.seq (List.toArray [(.str (Str.ofString "value") 227)]) 0) (List.toArray []))
noncomputable def o45 (P : Params) : Obj := (PySem.Obj.mk (.type "tuple") .none (.seq (List.toArray []) 0) (List.toArray []))
noncomputable def o46 (P : Params) : Obj := (PySem.Obj.mk .none .none (.func (FuncData.mk (Str.ofString "shown") (Str.ofString "shown") fa4.1 (.stmts fb4.1) fs4.1 0 [] .none .none .none .none .none .none .none 0)) (List.toArray []))
noncomputable def o47 (P : Params) : Obj := (PySem.Obj.mk (.type "code") .none (.fields (List.toArray [(.str (Str.ofString "shown") 224), (.str (Str.ofString "shown") 225), (.str (Str.ofString "/claim/cut.py") 226), (.int 11 0), (.int 1 0), (.int 0 0), (.int 0 0), (.int 3 0), (.ref 42), (.bool .true), (.int 181 0), (.ref 43), .none, (.ref 44), (.ref 45), (.ref 46), (.int 228 0), (.int 11 0), (.str (Str.ofString "/claim/cut.py") 229)])) (List.toArray []))
noncomputable def o48 (P : Params) : Obj := (PySem.Obj.mk (.type "function") .none (.func (FuncData.mk (Str.ofString "shown") (Str.ofString "shown") fa4.1 (.stmts fb4.1) fs4.1 3 [] .none .none .none (.str (Str.ofString "heatnet.errors") 194) .none (.ref 47) .none 0)) (List.toArray []))
noncomputable def o49 (P : Params) : Obj := (PySem.Obj.mk (.type "tuple") .none (.seq (List.toArray []) 0) (List.toArray []))
noncomputable def o50 (P : Params) : Obj := (PySem.Obj.mk .none .none (.fields (List.toArray [])) (List.toArray []))
noncomputable def o51 (P : Params) : Obj := (PySem.Obj.mk (.type "tuple") .none (.seq (List.toArray [(.str (Str.ofString "text") 234), (.str (Str.ofString "k") 235), (.str (Str.ofString "sign") 236), (.str (Str.ofString "letter") 237)]) 0) (List.toArray []))
noncomputable def o52 (P : Params) : Obj := (PySem.Obj.mk (.type "tuple") .none (.seq (List.toArray []) 0) (List.toArray []))
noncomputable def o53 (P : Params) : Obj := (PySem.Obj.mk .none .none (.func (FuncData.mk (Str.ofString "need_name") (Str.ofString "need_name") fa5.1 (.stmts fb5.1) fs5.1 0 [] .none .none .none .none .none .none .none 0)) (List.toArray []))
noncomputable def o54 (P : Params) : Obj := (PySem.Obj.mk (.type "code") .none (.fields (List.toArray [(.str (Str.ofString "need_name") 231), (.str (Str.ofString "need_name") 232), (.str (Str.ofString "/claim/cut.py") 233), (.int 17 0), (.int 1 0), (.int 0 0), (.int 0 0), (.int 3 0), (.ref 49), (.bool .true), (.int 181 0), (.ref 50), .none, (.ref 51), (.ref 52), (.ref 53), (.int 238 0), (.int 17 0), (.str (Str.ofString "/claim/cut.py") 239)])) (List.toArray []))
noncomputable def o55 (P : Params) : Obj := (PySem.Obj.mk (.type "function") .none (.func (FuncData.mk (Str.ofString "need_name") (Str.ofString "need_name") fa5.1 (.stmts fb5.1) fs5.1 3 [] .none .none .none (.str (Str.ofString "heatnet.errors") 194) .none (.ref 54) .none 0)) (List.toArray []))
noncomputable def o56 (P : Params) : Obj := (PySem.Obj.mk (.type "tuple") .none (.seq (List.toArray [(.int 0 248), (.int 1 249)]) 0) (List.toArray []))
noncomputable def o57 (P : Params) : Obj := (PySem.Obj.mk (.type "tuple") .none (.seq (List.toArray [(.int 1 251), (.int 1 252)]) 0) (List.toArray []))
noncomputable def o58 (P : Params) : Obj := (PySem.Obj.mk (.type "tuple") .none (.seq (List.toArray []) 0) (List.toArray []))
noncomputable def o59 (P : Params) : Obj := (PySem.Obj.mk .none .none (.fields (List.toArray [])) (List.toArray []))
noncomputable def o60 (P : Params) : Obj := (PySem.Obj.mk (.type "tuple") .none (.seq (List.toArray [(.str (Str.ofString "a") 257), (.str (Str.ofString "b") 258)]) 0) (List.toArray []))
noncomputable def o61 (P : Params) : Obj := (PySem.Obj.mk (.type "tuple") .none (.seq (List.toArray []) 0) (List.toArray []))
noncomputable def o62 (P : Params) : Obj := (PySem.Obj.mk .none .none (.func (FuncData.mk (Str.ofString "divisor") (Str.ofString "divisor") fa11.1 (.stmts fb11.1) fs11.1 0 [] .none .none .none .none .none .none .none 0)) (List.toArray []))
noncomputable def o63 (P : Params) : Obj := (PySem.Obj.mk (.type "code") .none (.fields (List.toArray [(.str (Str.ofString "divisor") 254), (.str (Str.ofString "divisor") 255), (.str (Str.ofString "/claim/cut.py") 256), (.int 31 0), (.int 2 0), (.int 0 0), (.int 0 0), (.int 3 0), (.ref 58), (.bool .true), (.int 181 0), (.ref 59), .none, (.ref 60), (.ref 61), (.ref 62), (.int 259 0), (.int 31 0), (.str (Str.ofString "/claim/cut.py") 260)])) (List.toArray []))
noncomputable def o64 (P : Params) : Obj := (PySem.Obj.mk (.type "function") .none (.func (FuncData.mk (Str.ofString "divisor") (Str.ofString "divisor") fa11.1 (.stmts fb11.1) fs11.1 3 [] .none .none .none (.str (Str.ofString "heatnet.exact") 241) .none (.ref 63) .none 0)) (List.toArray []))
noncomputable def t0 (P : Params) : BT := (.node (boot_o_0 P) (.node (boot_o_1 P) (.node (o3 P) (.node (boot_o_7 P) (.node (o15 P) (.node (o31 P) (lf (o63 P)) .nil) (lf (o47 P))) (.node (o23 P) (lf (o39 P)) (lf (o55 P)))) (.node (o11 P) (.node (o19 P) (lf (o35 P)) (lf (o51 P))) (.node (o27 P) (lf (o43 P)) (lf (o59 P))))) (.node (boot_o_5 P) (.node (boot_o_9 P) (.node (o17 P) (lf (o33 P)) (lf (o49 P))) (.node (o25 P) (lf (o41 P)) (lf (o57 P)))) (.node (o13 P) (.node (o21 P) (lf (o37 P)) (lf (o53 P))) (.node (o29 P) (lf (o45 P)) (lf (o61 P)))))) (.node (boot_o_2 P) (.node (boot_o_4 P) (.node (boot_o_8 P) (.node (o16 P) (.node (o32 P) (lf (o64 P)) .nil) (lf (o48 P))) (.node (o24 P) (lf (o40 P)) (lf (o56 P)))) (.node (o12v1 P) (.node (o20 P) (lf (o36 P)) (lf (o52 P))) (.node (o28 P) (lf (o44 P)) (lf (o60 P))))) (.node (boot_o_6 P) (.node (boot_o_10 P) (.node (o18 P) (lf (o34 P)) (lf (o50 P))) (.node (o26 P) (lf (o42 P)) (lf (o58 P)))) (.node (o14 P) (.node (o22 P) (lf (o38 P)) (lf (o54 P))) (.node (o30 P) (lf (o46 P)) (lf (o62 P)))))))
noncomputable def t0S (P : Params) (os : OsState) : SharedT := ⟨t0 P, 65, (.mk [] [] [] 0 [] [] .false (List.toArray []) [] 0 .false .false .false 0 [2000, 10, 10] .false 0 .true [] [] 0 .false), ⟨[]⟩, (.mk 0 0 0 0), 262, os⟩
set_option maxRecDepth 100000 in
theorem pc0 (w : World) : (fun os => segRunT treeTable pw w 11 annH 1 406 (tBS (w).params os) (piecesOf (((behindTheImports pw).drop 0).take 12) envH cE ((.mk 0 0 0 0) : Pos) [topFrame qH])) = fun os => some (.next, t0S (w).params os, cE, ((.mk 31 0 36 12) : Pos)) := by
  unfold piecesOf; rw [PySem.W.Fast.te10110043849684766642, PySem.W.Fast.te14364793385576792824, PySem.W.Fast.te12563942051412417395]; kernel_rfl!
noncomputable def o3v1 (P : Params) : Obj := (PySem.Obj.mk (.type "dict") .none (.dict (List.toArray [(.mk (PySem.PyData.keyHash P (Str.ofString "__name__")) (.str (Str.ofString "__name__") 165) (.str (Str.ofString "heatnet.meters") 311)), (.mk (PySem.PyData.keyHash P (Str.ofString "__doc__")) (.str (Str.ofString "__doc__") 166) .none), (.mk (PySem.PyData.keyHash P (Str.ofString "__package__")) (.str (Str.ofString "__package__") 167) .none), (.mk (PySem.PyData.keyHash P (Str.ofString "__loader__")) (.str (Str.ofString "__loader__") 168) (.builtin "__main__.__loader__#opaque")), (.mk (PySem.PyData.keyHash P (Str.ofString "__spec__")) (.str (Str.ofString "__spec__") 169) .none), (.mk (PySem.PyData.keyHash P (Str.ofString "__annotations__")) (.str (Str.ofString "__annotations__") 170) (.ref 6)), (.mk (PySem.PyData.keyHash P (Str.ofString "__builtins__")) (.str (Str.ofString "__builtins__") 171) (.ref 4)), (.mk (PySem.PyData.keyHash P (Str.ofString "__file__")) (.str (Str.ofString "__file__") 173) (.str (Str.ofString "/claim/cut.py") 172)), (.mk (PySem.PyData.keyHash P (Str.ofString "__cached__")) (.str (Str.ofString "__cached__") 174) .none), (.mk (PySem.PyData.keyHash P (Str.ofString "_wall")) (.str (Str.ofString "_wall") 193) (.ref 21)), (.mk (PySem.PyData.keyHash P (Str.ofString "HeatError")) (.str (Str.ofString "HeatError") 213) (.ref 31)), (.mk (PySem.PyData.keyHash P (Str.ofString "need_number")) (.str (Str.ofString "need_number") 223) (.ref 41)), (.mk (PySem.PyData.keyHash P (Str.ofString "shown")) (.str (Str.ofString "shown") 230) (.ref 48)), (.mk (PySem.PyData.keyHash P (Str.ofString "need_name")) (.str (Str.ofString "need_name") 240) (.ref 55)), (.mk (PySem.PyData.keyHash P (Str.ofString "FIGURES")) (.str (Str.ofString "FIGURES") 244) (.int 2000 243)), (.mk (PySem.PyData.keyHash P (Str.ofString "MOST")) (.str (Str.ofString "MOST") 247) (.int 100000000000000000000000000000000000000000000000000000000000000000000000000000000000000000000000000000000000000000000000000000000000000000000000000000000000000000000000000000000000000000000000000000000000000000000000000000000000000000000000000000000000000000000000000000000000000000000000000000000000000000000000000000000000000000000000000000000000000000000000000000000000000000000000000000000000000000000000000000000000000000000000000000000000000000000000000000000000000000000000000000000000000000000000000000000000000000000000000000000000000000000000000000000000000000000000000000000000000000000000000000000000000000000000000000000000000000000000000000000000000000000000000000000000000000000000000000000000000000000000000000000000000000000000000000000000000000000000000000000000000000000000000000000000000000000000000000000000000000000000000000000000000000000000000000000000000000000000000000000000000000000000000000000000000000000000000000000000000000000000000000000000000000000000000000000000000000000000000000000000000000000000000000000000000000000000000000000000000000000000000000000000000000000000000000000000000000000000000000000000000000000000000000000000000000000000000000000000000000000000000000000000000000000000000000000000000000000000000000000000000000000000000000000000000000000000000000000000000000000000000000000000000000000000000000000000000000000000000000000000000000000000000000000000000000000000000000000000000000000000000000000000000000000000000000000000000000000000000000000000000000000000000000000000000000000000000000000000000000000000000000000000000000000000000000000000000000000000000000000000000000000000000000000000000000000000000000000000000000000000000000000000000000000000000000000000000000000000000000000000000000000000000000000000000000000000000000000000000000000000000000000000000000000000000000000000000000000000000000000000000000000000000000000000000000000000000000000000000000000000000000000000000000000000000000000000000000000000000000000000000000000000000000000 246)), (.mk (PySem.PyData.keyHash P (Str.ofString "NOUGHT")) (.str (Str.ofString "NOUGHT") 250) (.ref 56)), (.mk (PySem.PyData.keyHash P (Str.ofString "ONE")) (.str (Str.ofString "ONE") 253) (.ref 57)), (.mk (PySem.PyData.keyHash P (Str.ofString "divisor")) (.str (Str.ofString "divisor") 261) (.ref 64)), (.mk (PySem.PyData.keyHash P (Str.ofString "frac")) (.str (Str.ofString "frac") 271) (.ref 72)), (.mk (PySem.PyData.keyHash P (Str.ofString "need")) (.str (Str.ofString "need") 279) (.ref 80)), (.mk (PySem.PyData.keyHash P (Str.ofString "plus")) (.str (Str.ofString "plus") 287) (.ref 87)), (.mk (PySem.PyData.keyHash P (Str.ofString "times")) (.str (Str.ofString "times") 295) (.ref 94)), (.mk (PySem.PyData.keyHash P (Str.ofString "less")) (.str (Str.ofString "less") 303) (.ref 101)), (.mk (PySem.PyData.keyHash P (Str.ofString "show")) (.str (Str.ofString "show") 310) (.ref 108))]) 25) (List.toArray []))
noncomputable def o12v2 (P : Params) : Obj := (PySem.Obj.mk .none .none (.fields (List.toArray [(.int 1 0), (.int 0 0), (.ref 20), (.int 5 0), (.int 0 0), (.ref 27), (.int 7 0), (.int 0 0), (.ref 40), (.int 11 0), (.int 0 0), (.ref 47), (.int 17 0), (.int 0 0), (.ref 54), (.int 31 0), (.int 0 0), (.ref 63), (.int 37 0), (.int 0 0), (.ref 71), (.int 47 0), (.int 0 0), (.ref 79), (.int 53 0), (.int 0 0), (.ref 86), (.int 55 0), (.int 0 0), (.ref 93), (.int 57 0), (.int 0 0), (.ref 100), (.int 59 0), (.int 0 0), (.ref 107)])) (List.toArray []))
noncomputable def o65 (P : Params) : Obj := (PySem.Obj.mk (.type "tuple") .none (.seq (List.toArray [(.int 1 262)]) 0) (List.toArray []))
noncomputable def o66 (P : Params) : Obj := (PySem.Obj.mk (.type "tuple") .none (.seq (List.toArray []) 0) (List.toArray []))
noncomputable def o67 (P : Params) : Obj := (PySem.Obj.mk .none .none (.fields (List.toArray [])) (List.toArray []))
noncomputable def o68 (P : Params) : Obj := (PySem.Obj.mk (.type "tuple") .none (.seq (List.toArray [(.str (Str.ofString "upper") 266), (.str (Str.ofString "lower") 267), (.str (Str.ofString "by") 268)]) 0) (List.toArray []))
noncomputable def o69 (P : Params) : Obj := (PySem.Obj.mk (.type "tuple") .none (.seq (List.toArray []) 0) (List.toArray []))
noncomputable def o70 (P : Params) : Obj := (PySem.Obj.mk .none .none (.func (FuncData.mk (Str.ofString "frac") (Str.ofString "frac") fa12.1 (.stmts fb12.1) fs12.1 0 [] .none .none .none .none .none .none .none 0)) (List.toArray []))
noncomputable def o71 (P : Params) : Obj := (PySem.Obj.mk (.type "code") .none (.fields (List.toArray [(.str (Str.ofString "frac") 263), (.str (Str.ofString "frac") 264), (.str (Str.ofString "/claim/cut.py") 265), (.int 37 0), (.int 2 0), (.int 0 0), (.int 0 0), (.int 3 0), (.ref 66), (.bool .true), (.int 181 0), (.ref 67), .none, (.ref 68), (.ref 69), (.ref 70), (.int 269 0), (.int 37 0), (.str (Str.ofString "/claim/cut.py") 270)])) (List.toArray []))
noncomputable def o72 (P : Params) : Obj := (PySem.Obj.mk (.type "function") .none (.func (FuncData.mk (Str.ofString "frac") (Str.ofString "frac") fa12.1 (.stmts fb12.1) fs12.1 3 [] (.ref 65) .none .none (.str (Str.ofString "heatnet.exact") 241) .none (.ref 71) .none 0)) (List.toArray []))
noncomputable def o73 (P : Params) : Obj := (PySem.Obj.mk (.type "tuple") .none (.seq (List.toArray [.none]) 0) (List.toArray []))
noncomputable def o74 (P : Params) : Obj := (PySem.Obj.mk (.type "tuple") .none (.seq (List.toArray []) 0) (List.toArray []))
noncomputable def o75 (P : Params) : Obj := (PySem.Obj.mk .none .none (.fields (List.toArray [])) (List.toArray []))
noncomputable def o76 (P : Params) : Obj := (PySem.Obj.mk (.type "tuple") .none (.seq (List.toArray [(.str (Str.ofString "a") 275), (.str (Str.ofString "least") 276)]) 0) (List.toArray []))
noncomputable def o77 (P : Params) : Obj := (PySem.Obj.mk (.type "tuple") .none (.seq (List.toArray []) 0) (List.toArray []))
noncomputable def o78 (P : Params) : Obj := (PySem.Obj.mk .none .none (.func (FuncData.mk (Str.ofString "need") (Str.ofString "need") fa13.1 (.stmts fb13.1) fs13.1 0 [] .none .none .none .none .none .none .none 0)) (List.toArray []))
noncomputable def o79 (P : Params) : Obj := (PySem.Obj.mk (.type "code") .none (.fields (List.toArray [(.str (Str.ofString "need") 272), (.str (Str.ofString "need") 273), (.str (Str.ofString "/claim/cut.py") 274), (.int 47 0), (.int 2 0), (.int 0 0), (.int 0 0), (.int 3 0), (.ref 74), (.bool .true), (.int 181 0), (.ref 75), .none, (.ref 76), (.ref 77), (.ref 78), (.int 277 0), (.int 47 0), (.str (Str.ofString "/claim/cut.py") 278)])) (List.toArray []))
noncomputable def o80 (P : Params) : Obj := (PySem.Obj.mk (.type "function") .none (.func (FuncData.mk (Str.ofString "need") (Str.ofString "need") fa13.1 (.stmts fb13.1) fs13.1 3 [] (.ref 73) .none .none (.str (Str.ofString "heatnet.exact") 241) .none (.ref 79) .none 0)) (List.toArray []))
noncomputable def o81 (P : Params) : Obj := (PySem.Obj.mk (.type "tuple") .none (.seq (List.toArray []) 0) (List.toArray []))
noncomputable def o82 (P : Params) : Obj := (PySem.Obj.mk .none .none (.fields (List.toArray [])) (List.toArray []))
noncomputable def o83 (P : Params) : Obj := (PySem.Obj.mk (.type "tuple") .none (.seq (List.toArray [(.str (Str.ofString "a") 283), (.str (Str.ofString "b") 284)]) 0) (List.toArray []))
noncomputable def o84 (P : Params) : Obj := (PySem.Obj.mk (.type "tuple") .none (.seq (List.toArray []) 0) (List.toArray []))
noncomputable def o85 (P : Params) : Obj := (PySem.Obj.mk .none .none (.func (FuncData.mk (Str.ofString "plus") (Str.ofString "plus") fa14.1 (.stmts fb14.1) fs14.1 0 [] .none .none .none .none .none .none .none 0)) (List.toArray []))
noncomputable def o86 (P : Params) : Obj := (PySem.Obj.mk (.type "code") .none (.fields (List.toArray [(.str (Str.ofString "plus") 280), (.str (Str.ofString "plus") 281), (.str (Str.ofString "/claim/cut.py") 282), (.int 53 0), (.int 2 0), (.int 0 0), (.int 0 0), (.int 3 0), (.ref 81), (.bool .true), (.int 181 0), (.ref 82), .none, (.ref 83), (.ref 84), (.ref 85), (.int 285 0), (.int 53 0), (.str (Str.ofString "/claim/cut.py") 286)])) (List.toArray []))
noncomputable def o87 (P : Params) : Obj := (PySem.Obj.mk (.type "function") .none (.func (FuncData.mk (Str.ofString "plus") (Str.ofString "plus") fa14.1 (.stmts fb14.1) fs14.1 3 [] .none .none .none (.str (Str.ofString "heatnet.exact") 241) .none (.ref 86) .none 0)) (List.toArray []))
noncomputable def o88 (P : Params) : Obj := (PySem.Obj.mk (.type "tuple") .none (.seq (List.toArray []) 0) (List.toArray []))
noncomputable def o89 (P : Params) : Obj := (PySem.Obj.mk .none .none (.fields (List.toArray [])) (List.toArray []))
noncomputable def o90 (P : Params) : Obj := (PySem.Obj.mk (.type "tuple") .none (.seq (List.toArray [(.str (Str.ofString "a") 291), (.str (Str.ofString "b") 292)]) 0) (List.toArray []))
noncomputable def o91 (P : Params) : Obj := (PySem.Obj.mk (.type "tuple") .none (.seq (List.toArray []) 0) (List.toArray []))
noncomputable def o92 (P : Params) : Obj := (PySem.Obj.mk .none .none (.func (FuncData.mk (Str.ofString "times") (Str.ofString "times") fa15.1 (.stmts fb15.1) fs15.1 0 [] .none .none .none .none .none .none .none 0)) (List.toArray []))
noncomputable def o93 (P : Params) : Obj := (PySem.Obj.mk (.type "code") .none (.fields (List.toArray [(.str (Str.ofString "times") 288), (.str (Str.ofString "times") 289), (.str (Str.ofString "/claim/cut.py") 290), (.int 55 0), (.int 2 0), (.int 0 0), (.int 0 0), (.int 3 0), (.ref 88), (.bool .true), (.int 181 0), (.ref 89), .none, (.ref 90), (.ref 91), (.ref 92), (.int 293 0), (.int 55 0), (.str (Str.ofString "/claim/cut.py") 294)])) (List.toArray []))
noncomputable def o94 (P : Params) : Obj := (PySem.Obj.mk (.type "function") .none (.func (FuncData.mk (Str.ofString "times") (Str.ofString "times") fa15.1 (.stmts fb15.1) fs15.1 3 [] .none .none .none (.str (Str.ofString "heatnet.exact") 241) .none (.ref 93) .none 0)) (List.toArray []))
noncomputable def o95 (P : Params) : Obj := (PySem.Obj.mk (.type "tuple") .none (.seq (List.toArray []) 0) (List.toArray []))
noncomputable def o96 (P : Params) : Obj := (PySem.Obj.mk .none .none (.fields (List.toArray [])) (List.toArray []))
noncomputable def o97 (P : Params) : Obj := (PySem.Obj.mk (.type "tuple") .none (.seq (List.toArray [(.str (Str.ofString "a") 299), (.str (Str.ofString "b") 300)]) 0) (List.toArray []))
noncomputable def o98 (P : Params) : Obj := (PySem.Obj.mk (.type "tuple") .none (.seq (List.toArray []) 0) (List.toArray []))
noncomputable def o99 (P : Params) : Obj := (PySem.Obj.mk .none .none (.func (FuncData.mk (Str.ofString "less") (Str.ofString "less") fa16.1 (.stmts fb16.1) fs16.1 0 [] .none .none .none .none .none .none .none 0)) (List.toArray []))
noncomputable def o100 (P : Params) : Obj := (PySem.Obj.mk (.type "code") .none (.fields (List.toArray [(.str (Str.ofString "less") 296), (.str (Str.ofString "less") 297), (.str (Str.ofString "/claim/cut.py") 298), (.int 57 0), (.int 2 0), (.int 0 0), (.int 0 0), (.int 3 0), (.ref 95), (.bool .true), (.int 181 0), (.ref 96), .none, (.ref 97), (.ref 98), (.ref 99), (.int 301 0), (.int 57 0), (.str (Str.ofString "/claim/cut.py") 302)])) (List.toArray []))
noncomputable def o101 (P : Params) : Obj := (PySem.Obj.mk (.type "function") .none (.func (FuncData.mk (Str.ofString "less") (Str.ofString "less") fa16.1 (.stmts fb16.1) fs16.1 3 [] .none .none .none (.str (Str.ofString "heatnet.exact") 241) .none (.ref 100) .none 0)) (List.toArray []))
noncomputable def o102 (P : Params) : Obj := (PySem.Obj.mk (.type "tuple") .none (.seq (List.toArray []) 0) (List.toArray []))
noncomputable def o103 (P : Params) : Obj := (PySem.Obj.mk .none .none (.fields (List.toArray [])) (List.toArray []))
noncomputable def o104 (P : Params) : Obj := (PySem.Obj.mk (.type "tuple") .none (.seq (List.toArray [(.str (Str.ofString "a") 307)]) 0) (List.toArray []))
noncomputable def o105 (P : Params) : Obj := (PySem.Obj.mk (.type "tuple") .none (.seq (List.toArray []) 0) (List.toArray []))
noncomputable def o106 (P : Params) : Obj := (PySem.Obj.mk .none .none (.func (FuncData.mk (Str.ofString "show") (Str.ofString "show") fa17.1 (.stmts fb17.1) fs17.1 0 [] .none .none .none .none .none .none .none 0)) (List.toArray []))
noncomputable def o107 (P : Params) : Obj := (PySem.Obj.mk (.type "code") .none (.fields (List.toArray [(.str (Str.ofString "show") 304), (.str (Str.ofString "show") 305), (.str (Str.ofString "/claim/cut.py") 306), (.int 59 0), (.int 1 0), (.int 0 0), (.int 0 0), (.int 3 0), (.ref 102), (.bool .true), (.int 181 0), (.ref 103), .none, (.ref 104), (.ref 105), (.ref 106), (.int 308 0), (.int 59 0), (.str (Str.ofString "/claim/cut.py") 309)])) (List.toArray []))
noncomputable def o108 (P : Params) : Obj := (PySem.Obj.mk (.type "function") .none (.func (FuncData.mk (Str.ofString "show") (Str.ofString "show") fa17.1 (.stmts fb17.1) fs17.1 3 [] .none .none .none (.str (Str.ofString "heatnet.exact") 241) .none (.ref 107) .none 0)) (List.toArray []))
noncomputable def t1 (P : Params) : BT := (.node (boot_o_0 P) (.node (boot_o_1 P) (.node (o3v1 P) (.node (boot_o_7 P) (.node (o15 P) (.node (o31 P) (lf (o63 P)) (lf (o95 P))) (.node (o47 P) (lf (o79 P)) .nil)) (.node (o23 P) (.node (o39 P) (lf (o71 P)) (lf (o103 P))) (.node (o55 P) (lf (o87 P)) .nil))) (.node (o11 P) (.node (o19 P) (.node (o35 P) (lf (o67 P)) (lf (o99 P))) (.node (o51 P) (lf (o83 P)) .nil)) (.node (o27 P) (.node (o43 P) (lf (o75 P)) (lf (o107 P))) (.node (o59 P) (lf (o91 P)) .nil)))) (.node (boot_o_5 P) (.node (boot_o_9 P) (.node (o17 P) (.node (o33 P) (lf (o65 P)) (lf (o97 P))) (.node (o49 P) (lf (o81 P)) .nil)) (.node (o25 P) (.node (o41 P) (lf (o73 P)) (lf (o105 P))) (.node (o57 P) (lf (o89 P)) .nil))) (.node (o13 P) (.node (o21 P) (.node (o37 P) (lf (o69 P)) (lf (o101 P))) (.node (o53 P) (lf (o85 P)) .nil)) (.node (o29 P) (.node (o45 P) (lf (o77 P)) .nil) (.node (o61 P) (lf (o93 P)) .nil))))) (.node (boot_o_2 P) (.node (boot_o_4 P) (.node (boot_o_8 P) (.node (o16 P) (.node (o32 P) (lf (o64 P)) (lf (o96 P))) (.node (o48 P) (lf (o80 P)) .nil)) (.node (o24 P) (.node (o40 P) (lf (o72 P)) (lf (o104 P))) (.node (o56 P) (lf (o88 P)) .nil))) (.node (o12v2 P) (.node (o20 P) (.node (o36 P) (lf (o68 P)) (lf (o100 P))) (.node (o52 P) (lf (o84 P)) .nil)) (.node (o28 P) (.node (o44 P) (lf (o76 P)) (lf (o108 P))) (.node (o60 P) (lf (o92 P)) .nil)))) (.node (boot_o_6 P) (.node (boot_o_10 P) (.node (o18 P) (.node (o34 P) (lf (o66 P)) (lf (o98 P))) (.node (o50 P) (lf (o82 P)) .nil)) (.node (o26 P) (.node (o42 P) (lf (o74 P)) (lf (o106 P))) (.node (o58 P) (lf (o90 P)) .nil))) (.node (o14 P) (.node (o22 P) (.node (o38 P) (lf (o70 P)) (lf (o102 P))) (.node (o54 P) (lf (o86 P)) .nil)) (.node (o30 P) (.node (o46 P) (lf (o78 P)) .nil) (.node (o62 P) (lf (o94 P)) .nil))))))
noncomputable def t1S (P : Params) (os : OsState) : SharedT := ⟨t1 P, 109, (.mk [] [] [] 0 [] [] .false (List.toArray []) [] 0 .false .false .false 0 [2000, 10, 10] .false 0 .true [] [] 0 .false), ⟨[]⟩, (.mk 0 0 0 0), 313, os⟩
set_option maxRecDepth 100000 in
theorem pc1 (w : World) : (fun os => segRunT treeTable pw w 11 annH 1 193 (t0S (w).params os) (piecesOf (((behindTheImports pw).drop 12).take 7) envH cE ((.mk 31 0 36 12) : Pos) [topFrame qH])) = fun os => some (.next, t1S (w).params os, cE, ((.mk 61 0 61 8) : Pos)) := by
  unfold piecesOf; rw [PySem.W.Fast.te10110043849684766642, PySem.W.Fast.te14364793385576792824, PySem.W.Fast.te12563942051412417395]; kernel_rfl!
noncomputable def o3v2 (P : Params) : Obj := (PySem.Obj.mk (.type "dict") .none (.dict (List.toArray [(.mk (PySem.PyData.keyHash P (Str.ofString "__name__")) (.str (Str.ofString "__name__") 165) (.str (Str.ofString "law_ui0509_07") 402)), (.mk (PySem.PyData.keyHash P (Str.ofString "__doc__")) (.str (Str.ofString "__doc__") 166) .none), (.mk (PySem.PyData.keyHash P (Str.ofString "__package__")) (.str (Str.ofString "__package__") 167) .none), (.mk (PySem.PyData.keyHash P (Str.ofString "__loader__")) (.str (Str.ofString "__loader__") 168) (.builtin "__main__.__loader__#opaque")), (.mk (PySem.PyData.keyHash P (Str.ofString "__spec__")) (.str (Str.ofString "__spec__") 169) .none), (.mk (PySem.PyData.keyHash P (Str.ofString "__annotations__")) (.str (Str.ofString "__annotations__") 170) (.ref 6)), (.mk (PySem.PyData.keyHash P (Str.ofString "__builtins__")) (.str (Str.ofString "__builtins__") 171) (.ref 4)), (.mk (PySem.PyData.keyHash P (Str.ofString "__file__")) (.str (Str.ofString "__file__") 173) (.str (Str.ofString "/claim/cut.py") 172)), (.mk (PySem.PyData.keyHash P (Str.ofString "__cached__")) (.str (Str.ofString "__cached__") 174) .none), (.mk (PySem.PyData.keyHash P (Str.ofString "_wall")) (.str (Str.ofString "_wall") 193) (.ref 21)), (.mk (PySem.PyData.keyHash P (Str.ofString "HeatError")) (.str (Str.ofString "HeatError") 213) (.ref 31)), (.mk (PySem.PyData.keyHash P (Str.ofString "need_number")) (.str (Str.ofString "need_number") 223) (.ref 41)), (.mk (PySem.PyData.keyHash P (Str.ofString "shown")) (.str (Str.ofString "shown") 230) (.ref 48)), (.mk (PySem.PyData.keyHash P (Str.ofString "need_name")) (.str (Str.ofString "need_name") 240) (.ref 55)), (.mk (PySem.PyData.keyHash P (Str.ofString "FIGURES")) (.str (Str.ofString "FIGURES") 244) (.int 2000 243)), (.mk (PySem.PyData.keyHash P (Str.ofString "MOST")) (.str (Str.ofString "MOST") 247) (.int 100000000000000000000000000000000000000000000000000000000000000000000000000000000000000000000000000000000000000000000000000000000000000000000000000000000000000000000000000000000000000000000000000000000000000000000000000000000000000000000000000000000000000000000000000000000000000000000000000000000000000000000000000000000000000000000000000000000000000000000000000000000000000000000000000000000000000000000000000000000000000000000000000000000000000000000000000000000000000000000000000000000000000000000000000000000000000000000000000000000000000000000000000000000000000000000000000000000000000000000000000000000000000000000000000000000000000000000000000000000000000000000000000000000000000000000000000000000000000000000000000000000000000000000000000000000000000000000000000000000000000000000000000000000000000000000000000000000000000000000000000000000000000000000000000000000000000000000000000000000000000000000000000000000000000000000000000000000000000000000000000000000000000000000000000000000000000000000000000000000000000000000000000000000000000000000000000000000000000000000000000000000000000000000000000000000000000000000000000000000000000000000000000000000000000000000000000000000000000000000000000000000000000000000000000000000000000000000000000000000000000000000000000000000000000000000000000000000000000000000000000000000000000000000000000000000000000000000000000000000000000000000000000000000000000000000000000000000000000000000000000000000000000000000000000000000000000000000000000000000000000000000000000000000000000000000000000000000000000000000000000000000000000000000000000000000000000000000000000000000000000000000000000000000000000000000000000000000000000000000000000000000000000000000000000000000000000000000000000000000000000000000000000000000000000000000000000000000000000000000000000000000000000000000000000000000000000000000000000000000000000000000000000000000000000000000000000000000000000000000000000000000000000000000000000000000000000000000000000000000000000000000000000000000 246)), (.mk (PySem.PyData.keyHash P (Str.ofString "NOUGHT")) (.str (Str.ofString "NOUGHT") 250) (.ref 56)), (.mk (PySem.PyData.keyHash P (Str.ofString "ONE")) (.str (Str.ofString "ONE") 253) (.ref 57)), (.mk (PySem.PyData.keyHash P (Str.ofString "divisor")) (.str (Str.ofString "divisor") 261) (.ref 64)), (.mk (PySem.PyData.keyHash P (Str.ofString "frac")) (.str (Str.ofString "frac") 271) (.ref 72)), (.mk (PySem.PyData.keyHash P (Str.ofString "need")) (.str (Str.ofString "need") 279) (.ref 80)), (.mk (PySem.PyData.keyHash P (Str.ofString "plus")) (.str (Str.ofString "plus") 287) (.ref 87)), (.mk (PySem.PyData.keyHash P (Str.ofString "times")) (.str (Str.ofString "times") 295) (.ref 94)), (.mk (PySem.PyData.keyHash P (Str.ofString "less")) (.str (Str.ofString "less") 303) (.ref 101)), (.mk (PySem.PyData.keyHash P (Str.ofString "show")) (.str (Str.ofString "show") 310) (.ref 108)), (.mk (PySem.PyData.keyHash P (Str.ofString "Meter")) (.str (Str.ofString "Meter") 401) (.ref 161))]) 26) (List.toArray []))
noncomputable def o12v3 (P : Params) : Obj := (PySem.Obj.mk .none .none (.fields (List.toArray [(.int 1 0), (.int 0 0), (.ref 20), (.int 5 0), (.int 0 0), (.ref 27), (.int 7 0), (.int 0 0), (.ref 40), (.int 11 0), (.int 0 0), (.ref 47), (.int 17 0), (.int 0 0), (.ref 54), (.int 31 0), (.int 0 0), (.ref 63), (.int 37 0), (.int 0 0), (.ref 71), (.int 47 0), (.int 0 0), (.ref 79), (.int 53 0), (.int 0 0), (.ref 86), (.int 55 0), (.int 0 0), (.ref 93), (.int 57 0), (.int 0 0), (.ref 100), (.int 59 0), (.int 0 0), (.ref 107), (.int 62 0), (.int 0 0), (.ref 114)])) (List.toArray []))
noncomputable def o109 (P : Params) : Obj := (PySem.Obj.mk (.type "tuple") .none (.seq (List.toArray []) 0) (List.toArray []))
noncomputable def o110 (P : Params) : Obj := (PySem.Obj.mk (.type "builtin_function_or_method") .none (.fields (List.toArray [(.builtin "type.__prepare__"), (.type "type")])) (List.toArray []))
noncomputable def o111 (P : Params) : Obj := (PySem.Obj.mk (.type "dict") .none (.dict (List.toArray [(.mk (PySem.PyData.keyHash P (Str.ofString "__module__")) (.str (Str.ofString "__module__") 320) (.str (Str.ofString "heatnet.meters") 311)), (.mk (PySem.PyData.keyHash P (Str.ofString "__qualname__")) (.str (Str.ofString "__qualname__") 322) (.str (Str.ofString "Meter") 321)), (.mk (PySem.PyData.keyHash P (Str.ofString "__firstlineno__")) (.str (Str.ofString "__firstlineno__") 324) (.int 62 323)), (.mk (PySem.PyData.keyHash P (Str.ofString "__init__")) (.str (Str.ofString "__init__") 334) (.ref 123)), (.mk (PySem.PyData.keyHash P (Str.ofString "read")) (.str (Str.ofString "read") 343) (.ref 130)), (.mk (PySem.PyData.keyHash P (Str.ofString "exchange")) (.str (Str.ofString "exchange") 353) (.ref 137)), (.mk (PySem.PyData.keyHash P (Str.ofString "correct")) (.str (Str.ofString "correct") 362) (.ref 144)), (.mk (PySem.PyData.keyHash P (Str.ofString "steps")) (.str (Str.ofString "steps") 374) (.ref 151)), (.mk (PySem.PyData.keyHash P (Str.ofString "used")) (.str (Str.ofString "used") 388) (.ref 158)), (.mk (PySem.PyData.keyHash P (Str.ofString "__static_attributes__")) (.str (Str.ofString "__static_attributes__") 394) (.ref 159))]) 10) (List.toArray []))
noncomputable def o112 (P : Params) : Obj := (PySem.Obj.mk (.type "tuple") .none (.seq (List.toArray []) 0) (List.toArray []))
noncomputable def o113 (P : Params) : Obj := (PySem.Obj.mk .none .none (.fields (List.toArray [(.int 64 0), (.int 4 0), (.ref 122), (.int 73 0), (.int 4 0), (.ref 129), (.int 81 0), (.int 4 0), (.ref 136), (.int 86 0), (.int 4 0), (.ref 143), (.int 89 0), (.int 4 0), (.ref 150), (.int 97 0), (.int 4 0), (.ref 157)])) (List.toArray []))
noncomputable def o114 (P : Params) : Obj := (PySem.Obj.mk (.type "code") .none (.fields (List.toArray [(.str (Str.ofString "Meter") 315), (.str (Str.ofString "Meter") 316), (.str (Str.ofString "/claim/cut.py") 317), (.int 62 0), (.int 0 0), (.int 0 0), (.int 0 0), (.int 0 0), (.ref 112), (.bool .false), (.int 181 0), (.ref 113), .none, .none, .none, .none, (.int 318 0), (.int 62 0), (.str (Str.ofString "/claim/cut.py") 319)])) (List.toArray []))
noncomputable def o115 (P : Params) : Obj := (PySem.Obj.mk (.type "frame") .none .plain (List.toArray [(.some (.ref 114)), (.some (.ref 3)), (.some (.ref 111)), .none, (.some (.str (Str.ofString "heatnet.meters") 311)), .none, (.some (.ref 0))]))
noncomputable def o116 (P : Params) : Obj := (PySem.Obj.mk (.type "tuple") .none (.seq (List.toArray [(.ref 57)]) 0) (List.toArray []))
noncomputable def o117 (P : Params) : Obj := (PySem.Obj.mk (.type "tuple") .none (.seq (List.toArray []) 0) (List.toArray []))
noncomputable def o118 (P : Params) : Obj := (PySem.Obj.mk .none .none (.fields (List.toArray [])) (List.toArray []))
noncomputable def o119 (P : Params) : Obj := (PySem.Obj.mk (.type "tuple") .none (.seq (List.toArray [(.str (Str.ofString "self") 328), (.str (Str.ofString "name") 329), (.str (Str.ofString "turns") 330), (.str (Str.ofString "factor") 331)]) 0) (List.toArray []))
noncomputable def o120 (P : Params) : Obj := (PySem.Obj.mk (.type "tuple") .none (.seq (List.toArray []) 0) (List.toArray []))
noncomputable def o121 (P : Params) : Obj := (PySem.Obj.mk .none .none (.func (FuncData.mk (Str.ofString "__init__") (Str.ofString "Meter.__init__") fa19_0.1 (.stmts fb19_0.1) fs19_0.1 0 [] .none .none .none .none .none .none .none 0)) (List.toArray []))
noncomputable def o122 (P : Params) : Obj := (PySem.Obj.mk (.type "code") .none (.fields (List.toArray [(.str (Str.ofString "__init__") 325), (.str (Str.ofString "Meter.__init__") 326), (.str (Str.ofString "/claim/cut.py") 327), (.int 64 0), (.int 4 0), (.int 0 0), (.int 0 0), (.int 3 0), (.ref 117), (.bool .true), (.int 181 0), (.ref 118), .none, (.ref 119), (.ref 120), (.ref 121), (.int 332 0), (.int 64 0), (.str (Str.ofString "/claim/cut.py") 333)])) (List.toArray []))
noncomputable def o123 (P : Params) : Obj := (PySem.Obj.mk (.type "function") .none (.func (FuncData.mk (Str.ofString "__init__") (Str.ofString "Meter.__init__") fa19_0.1 (.stmts fb19_0.1) fs19_0.1 3 [] (.ref 116) .none .none (.str (Str.ofString "heatnet.meters") 311) .none (.ref 122) .none 0)) (List.toArray []))
noncomputable def o124 (P : Params) : Obj := (PySem.Obj.mk (.type "tuple") .none (.seq (List.toArray []) 0) (List.toArray []))
noncomputable def o125 (P : Params) : Obj := (PySem.Obj.mk .none .none (.fields (List.toArray [])) (List.toArray []))
noncomputable def o126 (P : Params) : Obj := (PySem.Obj.mk (.type "tuple") .none (.seq (List.toArray [(.str (Str.ofString "self") 338), (.str (Str.ofString "day") 339), (.str (Str.ofString "value") 340)]) 0) (List.toArray []))
noncomputable def o127 (P : Params) : Obj := (PySem.Obj.mk (.type "tuple") .none (.seq (List.toArray []) 0) (List.toArray []))
noncomputable def o128 (P : Params) : Obj := (PySem.Obj.mk .none .none (.func (FuncData.mk (Str.ofString "read") (Str.ofString "Meter.read") fa19_1.1 (.stmts fb19_1.1) fs19_1.1 0 [] .none .none .none .none .none .none .none 0)) (List.toArray []))
noncomputable def o129 (P : Params) : Obj := (PySem.Obj.mk (.type "code") .none (.fields (List.toArray [(.str (Str.ofString "read") 335), (.str (Str.ofString "Meter.read") 336), (.str (Str.ofString "/claim/cut.py") 337), (.int 73 0), (.int 3 0), (.int 0 0), (.int 0 0), (.int 3 0), (.ref 124), (.bool .true), (.int 181 0), (.ref 125), .none, (.ref 126), (.ref 127), (.ref 128), (.int 341 0), (.int 73 0), (.str (Str.ofString "/claim/cut.py") 342)])) (List.toArray []))
noncomputable def o130 (P : Params) : Obj := (PySem.Obj.mk (.type "function") .none (.func (FuncData.mk (Str.ofString "read") (Str.ofString "Meter.read") fa19_1.1 (.stmts fb19_1.1) fs19_1.1 3 [] .none .none .none (.str (Str.ofString "heatnet.meters") 311) .none (.ref 129) .none 0)) (List.toArray []))
noncomputable def o131 (P : Params) : Obj := (PySem.Obj.mk (.type "tuple") .none (.seq (List.toArray []) 0) (List.toArray []))
noncomputable def o132 (P : Params) : Obj := (PySem.Obj.mk .none .none (.fields (List.toArray [])) (List.toArray []))
noncomputable def o133 (P : Params) : Obj := (PySem.Obj.mk (.type "tuple") .none (.seq (List.toArray [(.str (Str.ofString "self") 347), (.str (Str.ofString "day") 348), (.str (Str.ofString "old") 349), (.str (Str.ofString "new") 350)]) 0) (List.toArray []))
noncomputable def o134 (P : Params) : Obj := (PySem.Obj.mk (.type "tuple") .none (.seq (List.toArray []) 0) (List.toArray []))
noncomputable def o135 (P : Params) : Obj := (PySem.Obj.mk .none .none (.func (FuncData.mk (Str.ofString "exchange") (Str.ofString "Meter.exchange") fa19_2.1 (.stmts fb19_2.1) fs19_2.1 0 [] .none .none .none .none .none .none .none 0)) (List.toArray []))
noncomputable def o136 (P : Params) : Obj := (PySem.Obj.mk (.type "code") .none (.fields (List.toArray [(.str (Str.ofString "exchange") 344), (.str (Str.ofString "Meter.exchange") 345), (.str (Str.ofString "/claim/cut.py") 346), (.int 81 0), (.int 4 0), (.int 0 0), (.int 0 0), (.int 3 0), (.ref 131), (.bool .true), (.int 181 0), (.ref 132), .none, (.ref 133), (.ref 134), (.ref 135), (.int 351 0), (.int 81 0), (.str (Str.ofString "/claim/cut.py") 352)])) (List.toArray []))
noncomputable def o137 (P : Params) : Obj := (PySem.Obj.mk (.type "function") .none (.func (FuncData.mk (Str.ofString "exchange") (Str.ofString "Meter.exchange") fa19_2.1 (.stmts fb19_2.1) fs19_2.1 3 [] .none .none .none (.str (Str.ofString "heatnet.meters") 311) .none (.ref 136) .none 0)) (List.toArray []))
noncomputable def o138 (P : Params) : Obj := (PySem.Obj.mk (.type "tuple") .none (.seq (List.toArray []) 0) (List.toArray []))
noncomputable def o139 (P : Params) : Obj := (PySem.Obj.mk .none .none (.fields (List.toArray [])) (List.toArray []))
noncomputable def o140 (P : Params) : Obj := (PySem.Obj.mk (.type "tuple") .none (.seq (List.toArray [(.str (Str.ofString "self") 357), (.str (Str.ofString "day") 358), (.str (Str.ofString "value") 359)]) 0) (List.toArray []))
noncomputable def o141 (P : Params) : Obj := (PySem.Obj.mk (.type "tuple") .none (.seq (List.toArray []) 0) (List.toArray []))
noncomputable def o142 (P : Params) : Obj := (PySem.Obj.mk .none .none (.func (FuncData.mk (Str.ofString "correct") (Str.ofString "Meter.correct") fa19_3.1 (.stmts fb19_3.1) fs19_3.1 0 [] .none .none .none .none .none .none .none 0)) (List.toArray []))
noncomputable def o143 (P : Params) : Obj := (PySem.Obj.mk (.type "code") .none (.fields (List.toArray [(.str (Str.ofString "correct") 354), (.str (Str.ofString "Meter.correct") 355), (.str (Str.ofString "/claim/cut.py") 356), (.int 86 0), (.int 3 0), (.int 0 0), (.int 0 0), (.int 3 0), (.ref 138), (.bool .true), (.int 181 0), (.ref 139), .none, (.ref 140), (.ref 141), (.ref 142), (.int 360 0), (.int 86 0), (.str (Str.ofString "/claim/cut.py") 361)])) (List.toArray []))
noncomputable def o144 (P : Params) : Obj := (PySem.Obj.mk (.type "function") .none (.func (FuncData.mk (Str.ofString "correct") (Str.ofString "Meter.correct") fa19_3.1 (.stmts fb19_3.1) fs19_3.1 3 [] .none .none .none (.str (Str.ofString "heatnet.meters") 311) .none (.ref 143) .none 0)) (List.toArray []))
noncomputable def o145 (P : Params) : Obj := (PySem.Obj.mk (.type "tuple") .none (.seq (List.toArray []) 0) (List.toArray []))
noncomputable def o146 (P : Params) : Obj := (PySem.Obj.mk .none .none (.fields (List.toArray [])) (List.toArray []))
noncomputable def o147 (P : Params) : Obj := (PySem.Obj.mk (.type "tuple") .none (.seq (List.toArray [(.str (Str.ofString "self") 366), (.str (Str.ofString "out") 367), (.str (Str.ofString "k") 368), (.str (Str.ofString "one") 369), (.str (Str.ofString "two") 370), (.str (Str.ofString "start") 371)]) 0) (List.toArray []))
noncomputable def o148 (P : Params) : Obj := (PySem.Obj.mk (.type "tuple") .none (.seq (List.toArray []) 0) (List.toArray []))
noncomputable def o149 (P : Params) : Obj := (PySem.Obj.mk .none .none (.func (FuncData.mk (Str.ofString "steps") (Str.ofString "Meter.steps") fa19_4.1 (.stmts fb19_4.1) fs19_4.1 0 [] .none .none .none .none .none .none .none 0)) (List.toArray []))
noncomputable def o150 (P : Params) : Obj := (PySem.Obj.mk (.type "code") .none (.fields (List.toArray [(.str (Str.ofString "steps") 363), (.str (Str.ofString "Meter.steps") 364), (.str (Str.ofString "/claim/cut.py") 365), (.int 89 0), (.int 1 0), (.int 0 0), (.int 0 0), (.int 3 0), (.ref 145), (.bool .true), (.int 181 0), (.ref 146), .none, (.ref 147), (.ref 148), (.ref 149), (.int 372 0), (.int 89 0), (.str (Str.ofString "/claim/cut.py") 373)])) (List.toArray []))
noncomputable def o151 (P : Params) : Obj := (PySem.Obj.mk (.type "function") .none (.func (FuncData.mk (Str.ofString "steps") (Str.ofString "Meter.steps") fa19_4.1 (.stmts fb19_4.1) fs19_4.1 3 [] .none .none .none (.str (Str.ofString "heatnet.meters") 311) .none (.ref 150) .none 0)) (List.toArray []))
noncomputable def o152 (P : Params) : Obj := (PySem.Obj.mk (.type "tuple") .none (.seq (List.toArray []) 0) (List.toArray []))
noncomputable def o153 (P : Params) : Obj := (PySem.Obj.mk .none .none (.fields (List.toArray [])) (List.toArray []))
noncomputable def o154 (P : Params) : Obj := (PySem.Obj.mk (.type "tuple") .none (.seq (List.toArray [(.str (Str.ofString "self") 378), (.str (Str.ofString "start") 379), (.str (Str.ofString "end") 380), (.str (Str.ofString "out") 381), (.str (Str.ofString "one") 382), (.str (Str.ofString "two") 383), (.str (Str.ofString "units") 384), (.str (Str.ofString "days") 385)]) 0) (List.toArray []))
noncomputable def o155 (P : Params) : Obj := (PySem.Obj.mk (.type "tuple") .none (.seq (List.toArray []) 0) (List.toArray []))
noncomputable def o156 (P : Params) : Obj := (PySem.Obj.mk .none .none (.func (FuncData.mk (Str.ofString "used") (Str.ofString "Meter.used") fa19_5.1 (.stmts fb19_5.1) fs19_5.1 0 [] .none .none .none .none .none .none .none 0)) (List.toArray []))
noncomputable def o157 (P : Params) : Obj := (PySem.Obj.mk (.type "code") .none (.fields (List.toArray [(.str (Str.ofString "used") 375), (.str (Str.ofString "Meter.used") 376), (.str (Str.ofString "/claim/cut.py") 377), (.int 97 0), (.int 3 0), (.int 0 0), (.int 0 0), (.int 3 0), (.ref 152), (.bool .true), (.int 181 0), (.ref 153), .none, (.ref 154), (.ref 155), (.ref 156), (.int 386 0), (.int 97 0), (.str (Str.ofString "/claim/cut.py") 387)])) (List.toArray []))
noncomputable def o158 (P : Params) : Obj := (PySem.Obj.mk (.type "function") .none (.func (FuncData.mk (Str.ofString "used") (Str.ofString "Meter.used") fa19_5.1 (.stmts fb19_5.1) fs19_5.1 3 [] .none .none .none (.str (Str.ofString "heatnet.meters") 311) .none (.ref 157) .none 0)) (List.toArray []))
noncomputable def o159 (P : Params) : Obj := (PySem.Obj.mk (.type "tuple") .none (.seq (List.toArray [(.str (Str.ofString "factor") 389), (.str (Str.ofString "name") 390), (.str (Str.ofString "rest") 391), (.str (Str.ofString "rows") 392), (.str (Str.ofString "turns") 393)]) 0) (List.toArray []))
noncomputable def o160 (P : Params) : Obj := (PySem.Obj.mk (.type "dict") .none (.dict (List.toArray [(.mk (PySem.PyData.keyHash P (Str.ofString "__module__")) (.str (Str.ofString "__module__") 320) (.str (Str.ofString "heatnet.meters") 311)), (.mk (PySem.PyData.keyHash P (Str.ofString "__firstlineno__")) (.str (Str.ofString "__firstlineno__") 324) (.int 62 323)), (.mk (PySem.PyData.keyHash P (Str.ofString "__init__")) (.str (Str.ofString "__init__") 334) (.ref 123)), (.mk (PySem.PyData.keyHash P (Str.ofString "read")) (.str (Str.ofString "read") 343) (.ref 130)), (.mk (PySem.PyData.keyHash P (Str.ofString "exchange")) (.str (Str.ofString "exchange") 353) (.ref 137)), (.mk (PySem.PyData.keyHash P (Str.ofString "correct")) (.str (Str.ofString "correct") 362) (.ref 144)), (.mk (PySem.PyData.keyHash P (Str.ofString "steps")) (.str (Str.ofString "steps") 374) (.ref 151)), (.mk (PySem.PyData.keyHash P (Str.ofString "used")) (.str (Str.ofString "used") 388) (.ref 158)), (.mk (PySem.PyData.keyHash P (Str.ofString "__static_attributes__")) (.str (Str.ofString "__static_attributes__") 394) (.ref 159)), (.mk (PySem.PyData.keyHash P (Str.ofString "__dict__")) (.str (Str.ofString "__dict__") 396) (.ref 162)), (.mk (PySem.PyData.keyHash P (Str.ofString "__weakref__")) (.str (Str.ofString "__weakref__") 398) (.ref 163)), (.mk (PySem.PyData.keyHash P (Str.ofString "__doc__")) (.str (Str.ofString "__doc__") 399) .none)]) 4) (List.toArray []))
noncomputable def o161 (P : Params) : Obj := (PySem.Obj.mk (.type "type") .none (.cls (.mk (Str.ofString "Meter") [(.type "object")] [(.ref 161), (.type "object")] 160 (Str.ofString "Meter") .true [] [] .false .none .false)) (List.toArray [.none, .none, (.some (.str (Str.ofString "Meter") 313)), (.some (.str (Str.ofString "Meter") 321)), (.some (.builtin "object.__new__")), (.some (.bool .true))]))
noncomputable def o162 (P : Params) : Obj := (PySem.Obj.mk (.type "getset_descriptor") .none (.fields (List.toArray [(.str (Str.ofString "__dict__") 395), (.ref 161), (.builtin "function.__dict__"), (.builtin "function.__dict__#set")])) (List.toArray []))
noncomputable def o163 (P : Params) : Obj := (PySem.Obj.mk (.type "getset_descriptor") .none (.fields (List.toArray [(.str (Str.ofString "__weakref__") 397), (.ref 161), (.builtin "ExceptionGroup.__weakref__"), .none])) (List.toArray []))
noncomputable def o164 (P : Params) : Obj := (PySem.Obj.mk (.type "super") .none (.fields (List.toArray [(.ref 161), (.ref 161), (.ref 161)])) (List.toArray []))
noncomputable def o165 (P : Params) : Obj := (PySem.Obj.mk (.type "builtin_function_or_method") .none (.fields (List.toArray [(.builtin "object.__init_subclass__"), (.ref 161)])) (List.toArray []))
noncomputable def t2 (P : Params) : BT := (.node (boot_o_0 P) (.node (boot_o_1 P) (.node (o3v2 P) (.node (boot_o_7 P) (.node (o15 P) (.node (o31 P) (.node (o63 P) (lf (o127 P)) .nil) (.node (o95 P) (lf (o159 P)) .nil)) (.node (o47 P) (.node (o79 P) (lf (o143 P)) .nil) (lf (o111 P)))) (.node (o23 P) (.node (o39 P) (.node (o71 P) (lf (o135 P)) .nil) (lf (o103 P))) (.node (o55 P) (.node (o87 P) (lf (o151 P)) .nil) (lf (o119 P))))) (.node (o11 P) (.node (o19 P) (.node (o35 P) (.node (o67 P) (lf (o131 P)) .nil) (.node (o99 P) (lf (o163 P)) .nil)) (.node (o51 P) (.node (o83 P) (lf (o147 P)) .nil) (lf (o115 P)))) (.node (o27 P) (.node (o43 P) (.node (o75 P) (lf (o139 P)) .nil) (lf (o107 P))) (.node (o59 P) (.node (o91 P) (lf (o155 P)) .nil) (lf (o123 P)))))) (.node (boot_o_5 P) (.node (boot_o_9 P) (.node (o17 P) (.node (o33 P) (.node (o65 P) (lf (o129 P)) .nil) (.node (o97 P) (lf (o161 P)) .nil)) (.node (o49 P) (.node (o81 P) (lf (o145 P)) .nil) (lf (o113 P)))) (.node (o25 P) (.node (o41 P) (.node (o73 P) (lf (o137 P)) .nil) (lf (o105 P))) (.node (o57 P) (.node (o89 P) (lf (o153 P)) .nil) (lf (o121 P))))) (.node (o13 P) (.node (o21 P) (.node (o37 P) (.node (o69 P) (lf (o133 P)) .nil) (.node (o101 P) (lf (o165 P)) .nil)) (.node (o53 P) (.node (o85 P) (lf (o149 P)) .nil) (lf (o117 P)))) (.node (o29 P) (.node (o45 P) (.node (o77 P) (lf (o141 P)) .nil) (lf (o109 P))) (.node (o61 P) (.node (o93 P) (lf (o157 P)) .nil) (lf (o125 P))))))) (.node (boot_o_2 P) (.node (boot_o_4 P) (.node (boot_o_8 P) (.node (o16 P) (.node (o32 P) (.node (o64 P) (lf (o128 P)) .nil) (.node (o96 P) (lf (o160 P)) .nil)) (.node (o48 P) (.node (o80 P) (lf (o144 P)) .nil) (lf (o112 P)))) (.node (o24 P) (.node (o40 P) (.node (o72 P) (lf (o136 P)) .nil) (lf (o104 P))) (.node (o56 P) (.node (o88 P) (lf (o152 P)) .nil) (lf (o120 P))))) (.node (o12v3 P) (.node (o20 P) (.node (o36 P) (.node (o68 P) (lf (o132 P)) .nil) (.node (o100 P) (lf (o164 P)) .nil)) (.node (o52 P) (.node (o84 P) (lf (o148 P)) .nil) (lf (o116 P)))) (.node (o28 P) (.node (o44 P) (.node (o76 P) (lf (o140 P)) .nil) (lf (o108 P))) (.node (o60 P) (.node (o92 P) (lf (o156 P)) .nil) (lf (o124 P)))))) (.node (boot_o_6 P) (.node (boot_o_10 P) (.node (o18 P) (.node (o34 P) (.node (o66 P) (lf (o130 P)) .nil) (.node (o98 P) (lf (o162 P)) .nil)) (.node (o50 P) (.node (o82 P) (lf (o146 P)) .nil) (lf (o114 P)))) (.node (o26 P) (.node (o42 P) (.node (o74 P) (lf (o138 P)) .nil) (lf (o106 P))) (.node (o58 P) (.node (o90 P) (lf (o154 P)) .nil) (lf (o122 P))))) (.node (o14 P) (.node (o22 P) (.node (o38 P) (.node (o70 P) (lf (o134 P)) .nil) (lf (o102 P))) (.node (o54 P) (.node (o86 P) (lf (o150 P)) .nil) (lf (o118 P)))) (.node (o30 P) (.node (o46 P) (.node (o78 P) (lf (o142 P)) .nil) (lf (o110 P))) (.node (o62 P) (.node (o94 P) (lf (o158 P)) .nil) (lf (o126 P))))))))
noncomputable def t2S (P : Params) (os : OsState) : SharedT := ⟨t2 P, 166, (.mk [] [] [] 0 [] [] .false (List.toArray []) [] 0 .false .false .false 0 [2000, 10, 10] .false 0 .true [] [] 0 .false), ⟨[]⟩, (.mk 0 0 0 0), 404, os⟩
set_option maxRecDepth 100000 in
theorem pc2 (w : World) : (fun os => segRunT treeTable pw w 11 annH 1 417 (t1S (w).params os) (piecesOf (((behindTheImports pw).drop 19).take 2) envH cE ((.mk 61 0 61 8) : Pos) [topFrame qH])) = fun os => some (.next, t2S (w).params os, cE, ((.mk 107 0 107 8) : Pos)) := by
  unfold piecesOf; rw [PySem.W.Fast.te10110043849684766642, PySem.W.Fast.te14364793385576792824, PySem.W.Fast.te12563942051412417395]; kernel_rfl!
noncomputable def o3v3 (P : Params) : Obj := (PySem.Obj.mk (.type "dict") .none (.dict (List.toArray [(.mk (PySem.PyData.keyHash P (Str.ofString "__name__")) (.str (Str.ofString "__name__") 165) (.str (Str.ofString "law_ui0509_07") 402)), (.mk (PySem.PyData.keyHash P (Str.ofString "__doc__")) (.str (Str.ofString "__doc__") 166) .none), (.mk (PySem.PyData.keyHash P (Str.ofString "__package__")) (.str (Str.ofString "__package__") 167) .none), (.mk (PySem.PyData.keyHash P (Str.ofString "__loader__")) (.str (Str.ofString "__loader__") 168) (.builtin "__main__.__loader__#opaque")), (.mk (PySem.PyData.keyHash P (Str.ofString "__spec__")) (.str (Str.ofString "__spec__") 169) .none), (.mk (PySem.PyData.keyHash P (Str.ofString "__annotations__")) (.str (Str.ofString "__annotations__") 170) (.ref 6)), (.mk (PySem.PyData.keyHash P (Str.ofString "__builtins__")) (.str (Str.ofString "__builtins__") 171) (.ref 4)), (.mk (PySem.PyData.keyHash P (Str.ofString "__file__")) (.str (Str.ofString "__file__") 173) (.str (Str.ofString "/claim/cut.py") 172)), (.mk (PySem.PyData.keyHash P (Str.ofString "__cached__")) (.str (Str.ofString "__cached__") 174) .none), (.mk (PySem.PyData.keyHash P (Str.ofString "_wall")) (.str (Str.ofString "_wall") 193) (.ref 21)), (.mk (PySem.PyData.keyHash P (Str.ofString "HeatError")) (.str (Str.ofString "HeatError") 213) (.ref 31)), (.mk (PySem.PyData.keyHash P (Str.ofString "need_number")) (.str (Str.ofString "need_number") 223) (.ref 41)), (.mk (PySem.PyData.keyHash P (Str.ofString "shown")) (.str (Str.ofString "shown") 230) (.ref 48)), (.mk (PySem.PyData.keyHash P (Str.ofString "need_name")) (.str (Str.ofString "need_name") 240) (.ref 55)), (.mk (PySem.PyData.keyHash P (Str.ofString "FIGURES")) (.str (Str.ofString "FIGURES") 244) (.int 2000 243)), (.mk (PySem.PyData.keyHash P (Str.ofString "MOST")) (.str (Str.ofString "MOST") 247) (.int 100000000000000000000000000000000000000000000000000000000000000000000000000000000000000000000000000000000000000000000000000000000000000000000000000000000000000000000000000000000000000000000000000000000000000000000000000000000000000000000000000000000000000000000000000000000000000000000000000000000000000000000000000000000000000000000000000000000000000000000000000000000000000000000000000000000000000000000000000000000000000000000000000000000000000000000000000000000000000000000000000000000000000000000000000000000000000000000000000000000000000000000000000000000000000000000000000000000000000000000000000000000000000000000000000000000000000000000000000000000000000000000000000000000000000000000000000000000000000000000000000000000000000000000000000000000000000000000000000000000000000000000000000000000000000000000000000000000000000000000000000000000000000000000000000000000000000000000000000000000000000000000000000000000000000000000000000000000000000000000000000000000000000000000000000000000000000000000000000000000000000000000000000000000000000000000000000000000000000000000000000000000000000000000000000000000000000000000000000000000000000000000000000000000000000000000000000000000000000000000000000000000000000000000000000000000000000000000000000000000000000000000000000000000000000000000000000000000000000000000000000000000000000000000000000000000000000000000000000000000000000000000000000000000000000000000000000000000000000000000000000000000000000000000000000000000000000000000000000000000000000000000000000000000000000000000000000000000000000000000000000000000000000000000000000000000000000000000000000000000000000000000000000000000000000000000000000000000000000000000000000000000000000000000000000000000000000000000000000000000000000000000000000000000000000000000000000000000000000000000000000000000000000000000000000000000000000000000000000000000000000000000000000000000000000000000000000000000000000000000000000000000000000000000000000000000000000000000000000000000000000000000000000000000 246)), (.mk (PySem.PyData.keyHash P (Str.ofString "NOUGHT")) (.str (Str.ofString "NOUGHT") 250) (.ref 56)), (.mk (PySem.PyData.keyHash P (Str.ofString "ONE")) (.str (Str.ofString "ONE") 253) (.ref 57)), (.mk (PySem.PyData.keyHash P (Str.ofString "divisor")) (.str (Str.ofString "divisor") 261) (.ref 64)), (.mk (PySem.PyData.keyHash P (Str.ofString "frac")) (.str (Str.ofString "frac") 271) (.ref 72)), (.mk (PySem.PyData.keyHash P (Str.ofString "need")) (.str (Str.ofString "need") 279) (.ref 80)), (.mk (PySem.PyData.keyHash P (Str.ofString "plus")) (.str (Str.ofString "plus") 287) (.ref 87)), (.mk (PySem.PyData.keyHash P (Str.ofString "times")) (.str (Str.ofString "times") 295) (.ref 94)), (.mk (PySem.PyData.keyHash P (Str.ofString "less")) (.str (Str.ofString "less") 303) (.ref 101)), (.mk (PySem.PyData.keyHash P (Str.ofString "show")) (.str (Str.ofString "show") 310) (.ref 108)), (.mk (PySem.PyData.keyHash P (Str.ofString "Meter")) (.str (Str.ofString "Meter") 401) (.ref 161)), (.mk (PySem.PyData.keyHash P (Str.ofString "law")) (.str (Str.ofString "law") 422) (.ref 172))]) 27) (List.toArray []))
noncomputable def o12v4 (P : Params) : Obj := (PySem.Obj.mk .none .none (.fields (List.toArray ((.int 1 0) :: (.int 0 0) :: (.ref 20) :: (.int 5 0) :: (.int 0 0) :: (.ref 27) :: (.int 7 0) :: (.int 0 0) :: (.ref 40) :: (.int 11 0) :: (.int 0 0) :: (.ref 47) :: (.int 17 0) :: (.int 0 0) :: (.ref 54) :: (.int 31 0) :: (.int 0 0) :: (.ref 63) :: (.int 37 0) :: (.int 0 0) :: (.ref 71) :: (.int 47 0) :: (.int 0 0) :: (.ref 79) :: (.int 53 0) :: (.int 0 0) :: (.ref 86) :: (.int 55 0) :: (.int 0 0) :: (.ref 93) :: (.int 57 0) :: (.int 0 0) :: (.ref 100) :: (.int 59 0) :: (.int 0 0) :: (.ref 107) :: (.int 62 0) :: (.int 0 0) :: (.ref 114) :: (.int 108 0) :: (.int 0 0) :: (.ref 171) :: []))) (List.toArray []))
noncomputable def o166 (P : Params) : Obj := (PySem.Obj.mk (.type "tuple") .none (.seq (List.toArray []) 0) (List.toArray []))
noncomputable def o167 (P : Params) : Obj := (PySem.Obj.mk .none .none (.fields (List.toArray [])) (List.toArray []))
noncomputable def o168 (P : Params) : Obj := (PySem.Obj.mk (.type "tuple") .none (.seq (List.toArray [(.str (Str.ofString "script") 407), (.str (Str.ofString "meter") 408), (.str (Str.ofString "steps") 409), (.str (Str.ofString "days") 410), (.str (Str.ofString "before") 411), (.str (Str.ofString "total") 412), (.str (Str.ofString "cell") 413), (.str (Str.ofString "day") 414), (.str (Str.ofString "value") 415), (.str (Str.ofString "new") 416), (.str (Str.ofString "units") 417), (.str (Str.ofString "told") 418), (.str (Str.ofString "error") 419)]) 0) (List.toArray []))
noncomputable def o169 (P : Params) : Obj := (PySem.Obj.mk (.type "tuple") .none (.seq (List.toArray []) 0) (List.toArray []))
noncomputable def o170 (P : Params) : Obj := (PySem.Obj.mk .none .none (.func (FuncData.mk (Str.ofString "law") (Str.ofString "law") fa21.1 (.stmts fb21.1) fs21.1 0 [] .none .none .none .none .none .none .none 0)) (List.toArray []))
noncomputable def o171 (P : Params) : Obj := (PySem.Obj.mk (.type "code") .none (.fields (List.toArray [(.str (Str.ofString "law") 404), (.str (Str.ofString "law") 405), (.str (Str.ofString "/claim/cut.py") 406), (.int 108 0), (.int 1 0), (.int 0 0), (.int 0 0), (.int 3 0), (.ref 166), (.bool .true), (.int 181 0), (.ref 167), .none, (.ref 168), (.ref 169), (.ref 170), (.int 420 0), (.int 108 0), (.str (Str.ofString "/claim/cut.py") 421)])) (List.toArray []))
noncomputable def o172 (P : Params) : Obj := (PySem.Obj.mk (.type "function") .none (.func (FuncData.mk (Str.ofString "law") (Str.ofString "law") fa21.1 (.stmts fb21.1) fs21.1 3 [] .none .none .none (.str (Str.ofString "law_ui0509_07") 402) .none (.ref 171) .none 0)) (List.toArray []))
noncomputable def t3 (P : Params) : BT := (.node (boot_o_0 P) (.node (boot_o_1 P) (.node (o3v3 P) (.node (boot_o_7 P) (.node (o15 P) (.node (o31 P) (.node (o63 P) (lf (o127 P)) .nil) (.node (o95 P) (lf (o159 P)) .nil)) (.node (o47 P) (.node (o79 P) (lf (o143 P)) .nil) (lf (o111 P)))) (.node (o23 P) (.node (o39 P) (.node (o71 P) (lf (o135 P)) .nil) (.node (o103 P) (lf (o167 P)) .nil)) (.node (o55 P) (.node (o87 P) (lf (o151 P)) .nil) (lf (o119 P))))) (.node (o11 P) (.node (o19 P) (.node (o35 P) (.node (o67 P) (lf (o131 P)) .nil) (.node (o99 P) (lf (o163 P)) .nil)) (.node (o51 P) (.node (o83 P) (lf (o147 P)) .nil) (lf (o115 P)))) (.node (o27 P) (.node (o43 P) (.node (o75 P) (lf (o139 P)) .nil) (.node (o107 P) (lf (o171 P)) .nil)) (.node (o59 P) (.node (o91 P) (lf (o155 P)) .nil) (lf (o123 P)))))) (.node (boot_o_5 P) (.node (boot_o_9 P) (.node (o17 P) (.node (o33 P) (.node (o65 P) (lf (o129 P)) .nil) (.node (o97 P) (lf (o161 P)) .nil)) (.node (o49 P) (.node (o81 P) (lf (o145 P)) .nil) (lf (o113 P)))) (.node (o25 P) (.node (o41 P) (.node (o73 P) (lf (o137 P)) .nil) (.node (o105 P) (lf (o169 P)) .nil)) (.node (o57 P) (.node (o89 P) (lf (o153 P)) .nil) (lf (o121 P))))) (.node (o13 P) (.node (o21 P) (.node (o37 P) (.node (o69 P) (lf (o133 P)) .nil) (.node (o101 P) (lf (o165 P)) .nil)) (.node (o53 P) (.node (o85 P) (lf (o149 P)) .nil) (lf (o117 P)))) (.node (o29 P) (.node (o45 P) (.node (o77 P) (lf (o141 P)) .nil) (lf (o109 P))) (.node (o61 P) (.node (o93 P) (lf (o157 P)) .nil) (lf (o125 P))))))) (.node (boot_o_2 P) (.node (boot_o_4 P) (.node (boot_o_8 P) (.node (o16 P) (.node (o32 P) (.node (o64 P) (lf (o128 P)) .nil) (.node (o96 P) (lf (o160 P)) .nil)) (.node (o48 P) (.node (o80 P) (lf (o144 P)) .nil) (lf (o112 P)))) (.node (o24 P) (.node (o40 P) (.node (o72 P) (lf (o136 P)) .nil) (.node (o104 P) (lf (o168 P)) .nil)) (.node (o56 P) (.node (o88 P) (lf (o152 P)) .nil) (lf (o120 P))))) (.node (o12v4 P) (.node (o20 P) (.node (o36 P) (.node (o68 P) (lf (o132 P)) .nil) (.node (o100 P) (lf (o164 P)) .nil)) (.node (o52 P) (.node (o84 P) (lf (o148 P)) .nil) (lf (o116 P)))) (.node (o28 P) (.node (o44 P) (.node (o76 P) (lf (o140 P)) .nil) (.node (o108 P) (lf (o172 P)) .nil)) (.node (o60 P) (.node (o92 P) (lf (o156 P)) .nil) (lf (o124 P)))))) (.node (boot_o_6 P) (.node (boot_o_10 P) (.node (o18 P) (.node (o34 P) (.node (o66 P) (lf (o130 P)) .nil) (.node (o98 P) (lf (o162 P)) .nil)) (.node (o50 P) (.node (o82 P) (lf (o146 P)) .nil) (lf (o114 P)))) (.node (o26 P) (.node (o42 P) (.node (o74 P) (lf (o138 P)) .nil) (.node (o106 P) (lf (o170 P)) .nil)) (.node (o58 P) (.node (o90 P) (lf (o154 P)) .nil) (lf (o122 P))))) (.node (o14 P) (.node (o22 P) (.node (o38 P) (.node (o70 P) (lf (o134 P)) .nil) (.node (o102 P) (lf (o166 P)) .nil)) (.node (o54 P) (.node (o86 P) (lf (o150 P)) .nil) (lf (o118 P)))) (.node (o30 P) (.node (o46 P) (.node (o78 P) (lf (o142 P)) .nil) (lf (o110 P))) (.node (o62 P) (.node (o94 P) (lf (o158 P)) .nil) (lf (o126 P))))))))
noncomputable def t3S (P : Params) (os : OsState) : SharedT := ⟨t3 P, 173, (.mk [] [] [] 0 [] [] .false (List.toArray []) [] 0 .false .false .false 0 [2000, 10, 10] .false 0 .true [] [] 0 .false), ⟨[]⟩, (.mk 0 0 0 0), 423, os⟩
set_option maxRecDepth 100000 in
theorem pc3 (w : World) : (fun os => segRunT treeTable pw w 11 annH 1 42 (t2S (w).params os) (piecesOf (((behindTheImports pw).drop 21).take 1) envH cE ((.mk 107 0 107 8) : Pos) [topFrame qH])) = fun os => some (.next, t3S (w).params os, cE, ((.mk 108 0 141 68) : Pos)) := by
  unfold piecesOf; rw [PySem.W.Fast.te10110043849684766642, PySem.W.Fast.te14364793385576792824, PySem.W.Fast.te12563942051412417395]; kernel_rfl!
noncomputable def tF (P : Params) : BT := (.node (boot_o_0 P) (.node (boot_o_1 P) (.node (o3v3 P) (.node (boot_o_7 P) (.node (o15 P) (.node (o31 P) (.node (o63 P) (lf (o127 P)) .nil) (.node (o95 P) (lf (o159 P)) .nil)) (.node (o47 P) (.node (o79 P) (lf (o143 P)) .nil) (lf (o111 P)))) (.node (o23 P) (.node (o39 P) (.node (o71 P) (lf (o135 P)) .nil) (.node (o103 P) (lf (o167 P)) .nil)) (.node (o55 P) (.node (o87 P) (lf (o151 P)) .nil) (lf (o119 P))))) (.node (o11 P) (.node (o19 P) (.node (o35 P) (.node (o67 P) (lf (o131 P)) .nil) (.node (o99 P) (lf (o163 P)) .nil)) (.node (o51 P) (.node (o83 P) (lf (o147 P)) .nil) (lf (o115 P)))) (.node (o27 P) (.node (o43 P) (.node (o75 P) (lf (o139 P)) .nil) (.node (o107 P) (lf (o171 P)) .nil)) (.node (o59 P) (.node (o91 P) (lf (o155 P)) .nil) (lf (o123 P)))))) (.node (boot_o_5 P) (.node (boot_o_9 P) (.node (o17 P) (.node (o33 P) (.node (o65 P) (lf (o129 P)) .nil) (.node (o97 P) (lf (o161 P)) .nil)) (.node (o49 P) (.node (o81 P) (lf (o145 P)) .nil) (lf (o113 P)))) (.node (o25 P) (.node (o41 P) (.node (o73 P) (lf (o137 P)) .nil) (.node (o105 P) (lf (o169 P)) .nil)) (.node (o57 P) (.node (o89 P) (lf (o153 P)) .nil) (lf (o121 P))))) (.node (o13 P) (.node (o21 P) (.node (o37 P) (.node (o69 P) (lf (o133 P)) .nil) (.node (o101 P) (lf (o165 P)) .nil)) (.node (o53 P) (.node (o85 P) (lf (o149 P)) .nil) (lf (o117 P)))) (.node (o29 P) (.node (o45 P) (.node (o77 P) (lf (o141 P)) .nil) (lf (o109 P))) (.node (o61 P) (.node (o93 P) (lf (o157 P)) .nil) (lf (o125 P))))))) (.node (boot_o_2 P) (.node (boot_o_4 P) (.node (boot_o_8 P) (.node (o16 P) (.node (o32 P) (.node (o64 P) (lf (o128 P)) .nil) (.node (o96 P) (lf (o160 P)) .nil)) (.node (o48 P) (.node (o80 P) (lf (o144 P)) .nil) (lf (o112 P)))) (.node (o24 P) (.node (o40 P) (.node (o72 P) (lf (o136 P)) .nil) (.node (o104 P) (lf (o168 P)) .nil)) (.node (o56 P) (.node (o88 P) (lf (o152 P)) .nil) (lf (o120 P))))) (.node (o12v4 P) (.node (o20 P) (.node (o36 P) (.node (o68 P) (lf (o132 P)) .nil) (.node (o100 P) (lf (o164 P)) .nil)) (.node (o52 P) (.node (o84 P) (lf (o148 P)) .nil) (lf (o116 P)))) (.node (o28 P) (.node (o44 P) (.node (o76 P) (lf (o140 P)) .nil) (.node (o108 P) (lf (o172 P)) .nil)) (.node (o60 P) (.node (o92 P) (lf (o156 P)) .nil) (lf (o124 P)))))) (.node (boot_o_6 P) (.node (boot_o_10 P) (.node (o18 P) (.node (o34 P) (.node (o66 P) (lf (o130 P)) .nil) (.node (o98 P) (lf (o162 P)) .nil)) (.node (o50 P) (.node (o82 P) (lf (o146 P)) .nil) (lf (o114 P)))) (.node (o26 P) (.node (o42 P) (.node (o74 P) (lf (o138 P)) .nil) (.node (o106 P) (lf (o170 P)) .nil)) (.node (o58 P) (.node (o90 P) (lf (o154 P)) .nil) (lf (o122 P))))) (.node (o14 P) (.node (o22 P) (.node (o38 P) (.node (o70 P) (lf (o134 P)) .nil) (.node (o102 P) (lf (o166 P)) .nil)) (.node (o54 P) (.node (o86 P) (lf (o150 P)) .nil) (lf (o118 P)))) (.node (o30 P) (.node (o46 P) (.node (o78 P) (lf (o142 P)) .nil) (lf (o110 P))) (.node (o62 P) (.node (o94 P) (lf (o158 P)) .nil) (lf (o126 P))))))))
noncomputable def tFS (P : Params) (os : OsState) : SharedT := ⟨tF P, 173, (.mk [] [] [] 0 [] [] .false (List.toArray []) [] 0 .false .false .false 0 [2000, 10, 10] .false 0 .true [] [] 0 .false), ⟨[]⟩, (.mk 0 0 0 0), 423, os⟩
theorem finH (w : World) : (fun os => topRun treeTable pw w 11 annH 2 (t3S w.params os).abs ⟨doneF .next, cE, ((.mk 108 0 141 68) : Pos), [topFrame qH]⟩) = fun os => some (tFS w.params os).abs := by
  rw [PySem.W.Fast.te14082659384304107361, PySem.W.Fast.te14364793385576792824]; kernel_rfl!
theorem step_pc {tb : String → Option Builtin} {p : Program} {w : World} {n₀ : Nat} {ann : Option Value} {env : Env} {q : Pos} {n N : Nat} {s s' : SharedT} {r : Shared} {c : Code} {pos p' : Pos} (b : List Stmt) (a k : Nat) (h : segRunT tb p w n₀ ann 1 n s (piecesOf ((b.drop a).take k) env c pos [topFrame q]) = some (.next, s', c, p'))
    (kk : topRun tb p w n₀ ann N s'.abs (PySem.W.restOf (b.drop (a + k)) env c p' [topFrame q]) = some r) : topRun tb p w n₀ ann (n + N) s.abs (PySem.W.restOf (b.drop a) env c pos [topFrame q]) = some r := by
  have e : (b.drop a).take k ++ b.drop (a + k) = b.drop a := by rw [← List.drop_drop, List.take_append_drop]
  have h2 := piece_app (segRun_of h) kk
  rw [e] at h2; exact h2
theorem runH (w : World) (os : OsState) : topRun treeTable pw w 11 annH 1073 (s0H w.params os) (topStub pw) = some (tFS w.params os).abs :=
  go_top (N := 1061) (congrFun (preH w) os) (piece_block (N := 1060) (segRun_of (congrFun (blockH w) os)) (step_pc (behindTheImports pw) 0 12 (congrFun (pc0 w) os) (step_pc (behindTheImports pw) 12 7 (congrFun (pc1 w) os) (step_pc (behindTheImports pw) 19 2 (congrFun (pc2 w) os) (step_pc (behindTheImports pw) 21 1 (congrFun (pc3 w) os) (congrFun (finH w) os))))))
noncomputable def vq : Program := view pw [0, 2, 3, 4, 5, 7, 8, 9, 10, 11, 14, 15, 16, 17, 19, 21]
noncomputable def K : Params → Frag := fun P => (nat_lit 2, boot_o_2 P) :: (nat_lit 3, o3v3 P) :: (nat_lit 15, o15 P) :: (nat_lit 17, o17 P) :: (nat_lit 18, o18 P) :: (nat_lit 20, o20 P) :: (nat_lit 21, o21 P) :: (nat_lit 22, o22 P) :: (nat_lit 29, o29 P) :: (nat_lit 30, o30 P) :: (nat_lit 31, o31 P) :: (nat_lit 32, o32 P) :: (nat_lit 35, o35 P) :: (nat_lit 37, o37 P) :: (nat_lit 38, o38 P) :: (nat_lit 40, o40 P) :: (nat_lit 41, o41 P) :: (nat_lit 42, o42 P) :: (nat_lit 44, o44 P) :: (nat_lit 45, o45 P) :: (nat_lit 47, o47 P) :: (nat_lit 48, o48 P) :: (nat_lit 49, o49 P) :: (nat_lit 51, o51 P) :: (nat_lit 52, o52 P) :: (nat_lit 54, o54 P) :: (nat_lit 55, o55 P) :: (nat_lit 56, o56 P) :: (nat_lit 57, o57 P) :: (nat_lit 58, o58 P) :: (nat_lit 60, o60 P) :: (nat_lit 61, o61 P) :: (nat_lit 63, o63 P) :: (nat_lit 64, o64 P) :: (nat_lit 65, o65 P) :: (nat_lit 66, o66 P) :: (nat_lit 68, o68 P) :: (nat_lit 69, o69 P) :: (nat_lit 71, o71 P) :: (nat_lit 72, o72 P) :: (nat_lit 73, o73 P) :: (nat_lit 74, o74 P) :: (nat_lit 76, o76 P) :: (nat_lit 77, o77 P) :: (nat_lit 79, o79 P) :: (nat_lit 80, o80 P) :: (nat_lit 81, o81 P) :: (nat_lit 83, o83 P) :: (nat_lit 84, o84 P) :: (nat_lit 86, o86 P) :: (nat_lit 87, o87 P) :: (nat_lit 88, o88 P) :: (nat_lit 90, o90 P) :: (nat_lit 91, o91 P) :: (nat_lit 93, o93 P) :: (nat_lit 94, o94 P) :: (nat_lit 95, o95 P) :: (nat_lit 97, o97 P) :: (nat_lit 98, o98 P) :: (nat_lit 100, o100 P) :: (nat_lit 101, o101 P) :: (nat_lit 102, o102 P) :: (nat_lit 104, o104 P) :: (nat_lit 105, o105 P) :: (nat_lit 107, o107 P) :: (nat_lit 108, o108 P) :: (nat_lit 116, o116 P) :: (nat_lit 117, o117 P) :: (nat_lit 119, o119 P) :: (nat_lit 120, o120 P) :: (nat_lit 122, o122 P) :: (nat_lit 123, o123 P) :: (nat_lit 124, o124 P) :: (nat_lit 126, o126 P) :: (nat_lit 127, o127 P) :: (nat_lit 129, o129 P) :: (nat_lit 130, o130 P) :: (nat_lit 131, o131 P) :: (nat_lit 133, o133 P) :: (nat_lit 134, o134 P) :: (nat_lit 136, o136 P) :: (nat_lit 137, o137 P) :: (nat_lit 138, o138 P) :: (nat_lit 140, o140 P) :: (nat_lit 141, o141 P) :: (nat_lit 143, o143 P) :: (nat_lit 144, o144 P) :: (nat_lit 145, o145 P) :: (nat_lit 147, o147 P) :: (nat_lit 148, o148 P) :: (nat_lit 150, o150 P) :: (nat_lit 151, o151 P) :: (nat_lit 152, o152 P) :: (nat_lit 154, o154 P) :: (nat_lit 155, o155 P) :: (nat_lit 157, o157 P) :: (nat_lit 158, o158 P) :: (nat_lit 159, o159 P) :: (nat_lit 160, o160 P) :: (nat_lit 161, o161 P) :: (nat_lit 162, o162 P) :: (nat_lit 163, o163 P) :: (nat_lit 166, o166 P) :: (nat_lit 168, o168 P) :: (nat_lit 169, o169 P) :: (nat_lit 171, o171 P) :: (nat_lit 172, o172 P) :: []
theorem hkH : ∀ P, (((nat_lit 2) :: (nat_lit 3) :: (nat_lit 15) :: (nat_lit 17) :: (nat_lit 18) :: (nat_lit 20) :: (nat_lit 21) :: (nat_lit 22) :: (nat_lit 29) :: (nat_lit 30) :: (nat_lit 31) :: (nat_lit 32) :: (nat_lit 35) :: (nat_lit 37) :: (nat_lit 38) :: (nat_lit 40) :: (nat_lit 41) :: (nat_lit 42) :: (nat_lit 44) :: (nat_lit 45) :: (nat_lit 47) :: (nat_lit 48) :: (nat_lit 49) :: (nat_lit 51) :: (nat_lit 52) :: (nat_lit 54) :: (nat_lit 55) :: (nat_lit 56) :: (nat_lit 57) :: (nat_lit 58) :: (nat_lit 60) :: (nat_lit 61) :: (nat_lit 63) :: (nat_lit 64) :: (nat_lit 65) :: (nat_lit 66) :: (nat_lit 68) :: (nat_lit 69) :: (nat_lit 71) :: (nat_lit 72) :: (nat_lit 73) :: (nat_lit 74) :: (nat_lit 76) :: (nat_lit 77) :: (nat_lit 79) :: (nat_lit 80) :: (nat_lit 81) :: (nat_lit 83) :: (nat_lit 84) :: (nat_lit 86) :: (nat_lit 87) :: (nat_lit 88) :: (nat_lit 90) :: (nat_lit 91) :: (nat_lit 93) :: (nat_lit 94) :: (nat_lit 95) :: (nat_lit 97) :: (nat_lit 98) :: (nat_lit 100) :: (nat_lit 101) :: (nat_lit 102) :: (nat_lit 104) :: (nat_lit 105) :: (nat_lit 107) :: (nat_lit 108) :: (nat_lit 116) :: (nat_lit 117) :: (nat_lit 119) :: (nat_lit 120) :: (nat_lit 122) :: (nat_lit 123) :: (nat_lit 124) :: (nat_lit 126) :: (nat_lit 127) :: (nat_lit 129) :: (nat_lit 130) :: (nat_lit 131) :: (nat_lit 133) :: (nat_lit 134) :: (nat_lit 136) :: (nat_lit 137) :: (nat_lit 138) :: (nat_lit 140) :: (nat_lit 141) :: (nat_lit 143) :: (nat_lit 144) :: (nat_lit 145) :: (nat_lit 147) :: (nat_lit 148) :: (nat_lit 150) :: (nat_lit 151) :: (nat_lit 152) :: (nat_lit 154) :: (nat_lit 155) :: (nat_lit 157) :: (nat_lit 158) :: (nat_lit 159) :: (nat_lit 160) :: (nat_lit 161) :: (nat_lit 162) :: (nat_lit 163) :: (nat_lit 166) :: (nat_lit 168) :: (nat_lit 169) :: (nat_lit 171) :: (nat_lit 172) :: []) : List Addr) = (K P).map (·.1) := fun _ => by kernel_rfl!
@[reducible] noncomputable def dH : DefRec := ⟨Str.ofString "law", fa21.1, fb21.1, fs21.1, (.mk 108 0 141 68)⟩
theorem openH : ∀ w : World, (fencedOpening treeTable pw w 2234).map (fun s => (s.heap, s.gens, s.drawn, s.toks)) = some (boot_heap w.params, Array.mk [], boot_drawn, boot_toks) :=
  boot_open (by kernel_rfl!) (by decide) (fun s => by kernel_rfl!)
theorem sizeH : ∀ w : World, ((boot_heap w.params).isNs mainGlobals && (Array.mk [] : Array GenState).size == 0, (boot_heap w.params).objs.size, (boot_heap w.params).nsMap mainGlobals "__annotations__") = (true, 11, annH) := fun w => by kernel_rfl!
theorem looksH (w : World) : (fun os => ((staticsOk (importedModules pw.main.body) (boot_heap w.params) (tFS w.params os).abs.heap && namesBound pw (tFS w.params os).abs.heap && gensDone (tFS w.params os).abs && laidKept (boot_heap w.params) (tFS w.params os).abs.heap),
    openSeen vq [Str.ofString "MOST", Str.ofString "frac", Str.ofString "need", Str.ofString "Meter"] (importedModules pw.main.body) (fun s => xlAt vq ([(Str.ofString "MOST", (.int 100000000000000000000000000000000000000000000000000000000000000000000000000000000000000000000000000000000000000000000000000000000000000000000000000000000000000000000000000000000000000000000000000000000000000000000000000000000000000000000000000000000000000000000000000000000000000000000000000000000000000000000000000000000000000000000000000000000000000000000000000000000000000000000000000000000000000000000000000000000000000000000000000000000000000000000000000000000000000000000000000000000000000000000000000000000000000000000000000000000000000000000000000000000000000000000000000000000000000000000000000000000000000000000000000000000000000000000000000000000000000000000000000000000000000000000000000000000000000000000000000000000000000000000000000000000000000000000000000000000000000000000000000000000000000000000000000000000000000000000000000000000000000000000000000000000000000000000000000000000000000000000000000000000000000000000000000000000000000000000000000000000000000000000000000000000000000000000000000000000000000000000000000000000000000000000000000000000000000000000000000000000000000000000000000000000000000000000000000000000000000000000000000000000000000000000000000000000000000000000000000000000000000000000000000000000000000000000000000000000000000000000000000000000000000000000000000000000000000000000000000000000000000000000000000000000000000000000000000000000000000000000000000000000000000000000000000000000000000000000000000000000000000000000000000000000000000000000000000000000000000000000000000000000000000000000000000000000000000000000000000000000000000000000000000000000000000000000000000000000000000000000000000000000000000000000000000000000000000000000000000000000000000000000000000000000000000000000000000000000000000000000000000000000000000000000000000000000000000000000000000000000000000000000000000000000000000000000000000000000000000000000000000000000000000000000000000000000000000000000000000000000000000000000000000000000000000000000000000000000000000000000000000000000))] : List (Str × WData)) s && recOk (RowW.records (OpenRow.toRowW (OpenLaw.row PySem.Challenge.rw_ui0509_07))) s) true (tFS w.params os).abs, Hook.obs (kHook K ((nat_lit 2) :: (nat_lit 3) :: (nat_lit 15) :: (nat_lit 17) :: (nat_lit 18) :: (nat_lit 20) :: (nat_lit 21) :: (nat_lit 22) :: (nat_lit 29) :: (nat_lit 30) :: (nat_lit 31) :: (nat_lit 32) :: (nat_lit 35) :: (nat_lit 37) :: (nat_lit 38) :: (nat_lit 40) :: (nat_lit 41) :: (nat_lit 42) :: (nat_lit 44) :: (nat_lit 45) :: (nat_lit 47) :: (nat_lit 48) :: (nat_lit 49) :: (nat_lit 51) :: (nat_lit 52) :: (nat_lit 54) :: (nat_lit 55) :: (nat_lit 56) :: (nat_lit 57) :: (nat_lit 58) :: (nat_lit 60) :: (nat_lit 61) :: (nat_lit 63) :: (nat_lit 64) :: (nat_lit 65) :: (nat_lit 66) :: (nat_lit 68) :: (nat_lit 69) :: (nat_lit 71) :: (nat_lit 72) :: (nat_lit 73) :: (nat_lit 74) :: (nat_lit 76) :: (nat_lit 77) :: (nat_lit 79) :: (nat_lit 80) :: (nat_lit 81) :: (nat_lit 83) :: (nat_lit 84) :: (nat_lit 86) :: (nat_lit 87) :: (nat_lit 88) :: (nat_lit 90) :: (nat_lit 91) :: (nat_lit 93) :: (nat_lit 94) :: (nat_lit 95) :: (nat_lit 97) :: (nat_lit 98) :: (nat_lit 100) :: (nat_lit 101) :: (nat_lit 102) :: (nat_lit 104) :: (nat_lit 105) :: (nat_lit 107) :: (nat_lit 108) :: (nat_lit 116) :: (nat_lit 117) :: (nat_lit 119) :: (nat_lit 120) :: (nat_lit 122) :: (nat_lit 123) :: (nat_lit 124) :: (nat_lit 126) :: (nat_lit 127) :: (nat_lit 129) :: (nat_lit 130) :: (nat_lit 131) :: (nat_lit 133) :: (nat_lit 134) :: (nat_lit 136) :: (nat_lit 137) :: (nat_lit 138) :: (nat_lit 140) :: (nat_lit 141) :: (nat_lit 143) :: (nat_lit 144) :: (nat_lit 145) :: (nat_lit 147) :: (nat_lit 148) :: (nat_lit 150) :: (nat_lit 151) :: (nat_lit 152) :: (nat_lit 154) :: (nat_lit 155) :: (nat_lit 157) :: (nat_lit 158) :: (nat_lit 159) :: (nat_lit 160) :: (nat_lit 161) :: (nat_lit 162) :: (nat_lit 163) :: (nat_lit 166) :: (nat_lit 168) :: (nat_lit 169) :: (nat_lit 171) :: (nat_lit 172) :: []) hkH) (tFS w.params os).abs)) = fun _ => (true, openGood vq [Str.ofString "MOST", Str.ofString "frac", Str.ofString "need", Str.ofString "Meter"], Hook.val (kHook K ((nat_lit 2) :: (nat_lit 3) :: (nat_lit 15) :: (nat_lit 17) :: (nat_lit 18) :: (nat_lit 20) :: (nat_lit 21) :: (nat_lit 22) :: (nat_lit 29) :: (nat_lit 30) :: (nat_lit 31) :: (nat_lit 32) :: (nat_lit 35) :: (nat_lit 37) :: (nat_lit 38) :: (nat_lit 40) :: (nat_lit 41) :: (nat_lit 42) :: (nat_lit 44) :: (nat_lit 45) :: (nat_lit 47) :: (nat_lit 48) :: (nat_lit 49) :: (nat_lit 51) :: (nat_lit 52) :: (nat_lit 54) :: (nat_lit 55) :: (nat_lit 56) :: (nat_lit 57) :: (nat_lit 58) :: (nat_lit 60) :: (nat_lit 61) :: (nat_lit 63) :: (nat_lit 64) :: (nat_lit 65) :: (nat_lit 66) :: (nat_lit 68) :: (nat_lit 69) :: (nat_lit 71) :: (nat_lit 72) :: (nat_lit 73) :: (nat_lit 74) :: (nat_lit 76) :: (nat_lit 77) :: (nat_lit 79) :: (nat_lit 80) :: (nat_lit 81) :: (nat_lit 83) :: (nat_lit 84) :: (nat_lit 86) :: (nat_lit 87) :: (nat_lit 88) :: (nat_lit 90) :: (nat_lit 91) :: (nat_lit 93) :: (nat_lit 94) :: (nat_lit 95) :: (nat_lit 97) :: (nat_lit 98) :: (nat_lit 100) :: (nat_lit 101) :: (nat_lit 102) :: (nat_lit 104) :: (nat_lit 105) :: (nat_lit 107) :: (nat_lit 108) :: (nat_lit 116) :: (nat_lit 117) :: (nat_lit 119) :: (nat_lit 120) :: (nat_lit 122) :: (nat_lit 123) :: (nat_lit 124) :: (nat_lit 126) :: (nat_lit 127) :: (nat_lit 129) :: (nat_lit 130) :: (nat_lit 131) :: (nat_lit 133) :: (nat_lit 134) :: (nat_lit 136) :: (nat_lit 137) :: (nat_lit 138) :: (nat_lit 140) :: (nat_lit 141) :: (nat_lit 143) :: (nat_lit 144) :: (nat_lit 145) :: (nat_lit 147) :: (nat_lit 148) :: (nat_lit 150) :: (nat_lit 151) :: (nat_lit 152) :: (nat_lit 154) :: (nat_lit 155) :: (nat_lit 157) :: (nat_lit 158) :: (nat_lit 159) :: (nat_lit 160) :: (nat_lit 161) :: (nat_lit 162) :: (nat_lit 163) :: (nat_lit 166) :: (nat_lit 168) :: (nat_lit 169) :: (nat_lit 171) :: (nat_lit 172) :: []) hkH) w) := by
  rw [PySem.W.Fast.te4187177175401517315, PySem.W.Fast.te5923862056798008813]; kernel_rfl!
theorem leftH : LeftO pw vq [Str.ofString "MOST", Str.ofString "frac", Str.ofString "need", Str.ofString "Meter"] (fun s => xlAt vq ([(Str.ofString "MOST", (.int 100000000000000000000000000000000000000000000000000000000000000000000000000000000000000000000000000000000000000000000000000000000000000000000000000000000000000000000000000000000000000000000000000000000000000000000000000000000000000000000000000000000000000000000000000000000000000000000000000000000000000000000000000000000000000000000000000000000000000000000000000000000000000000000000000000000000000000000000000000000000000000000000000000000000000000000000000000000000000000000000000000000000000000000000000000000000000000000000000000000000000000000000000000000000000000000000000000000000000000000000000000000000000000000000000000000000000000000000000000000000000000000000000000000000000000000000000000000000000000000000000000000000000000000000000000000000000000000000000000000000000000000000000000000000000000000000000000000000000000000000000000000000000000000000000000000000000000000000000000000000000000000000000000000000000000000000000000000000000000000000000000000000000000000000000000000000000000000000000000000000000000000000000000000000000000000000000000000000000000000000000000000000000000000000000000000000000000000000000000000000000000000000000000000000000000000000000000000000000000000000000000000000000000000000000000000000000000000000000000000000000000000000000000000000000000000000000000000000000000000000000000000000000000000000000000000000000000000000000000000000000000000000000000000000000000000000000000000000000000000000000000000000000000000000000000000000000000000000000000000000000000000000000000000000000000000000000000000000000000000000000000000000000000000000000000000000000000000000000000000000000000000000000000000000000000000000000000000000000000000000000000000000000000000000000000000000000000000000000000000000000000000000000000000000000000000000000000000000000000000000000000000000000000000000000000000000000000000000000000000000000000000000000000000000000000000000000000000000000000000000000000000000000000000000000000000000000000000000000000000000000000000000000000000))] : List (Str × WData)) s && recOk (RowW.records (OpenRow.toRowW (OpenLaw.row PySem.Challenge.rw_ui0509_07))) s) (Hook.obs (kHook K ((nat_lit 2) :: (nat_lit 3) :: (nat_lit 15) :: (nat_lit 17) :: (nat_lit 18) :: (nat_lit 20) :: (nat_lit 21) :: (nat_lit 22) :: (nat_lit 29) :: (nat_lit 30) :: (nat_lit 31) :: (nat_lit 32) :: (nat_lit 35) :: (nat_lit 37) :: (nat_lit 38) :: (nat_lit 40) :: (nat_lit 41) :: (nat_lit 42) :: (nat_lit 44) :: (nat_lit 45) :: (nat_lit 47) :: (nat_lit 48) :: (nat_lit 49) :: (nat_lit 51) :: (nat_lit 52) :: (nat_lit 54) :: (nat_lit 55) :: (nat_lit 56) :: (nat_lit 57) :: (nat_lit 58) :: (nat_lit 60) :: (nat_lit 61) :: (nat_lit 63) :: (nat_lit 64) :: (nat_lit 65) :: (nat_lit 66) :: (nat_lit 68) :: (nat_lit 69) :: (nat_lit 71) :: (nat_lit 72) :: (nat_lit 73) :: (nat_lit 74) :: (nat_lit 76) :: (nat_lit 77) :: (nat_lit 79) :: (nat_lit 80) :: (nat_lit 81) :: (nat_lit 83) :: (nat_lit 84) :: (nat_lit 86) :: (nat_lit 87) :: (nat_lit 88) :: (nat_lit 90) :: (nat_lit 91) :: (nat_lit 93) :: (nat_lit 94) :: (nat_lit 95) :: (nat_lit 97) :: (nat_lit 98) :: (nat_lit 100) :: (nat_lit 101) :: (nat_lit 102) :: (nat_lit 104) :: (nat_lit 105) :: (nat_lit 107) :: (nat_lit 108) :: (nat_lit 116) :: (nat_lit 117) :: (nat_lit 119) :: (nat_lit 120) :: (nat_lit 122) :: (nat_lit 123) :: (nat_lit 124) :: (nat_lit 126) :: (nat_lit 127) :: (nat_lit 129) :: (nat_lit 130) :: (nat_lit 131) :: (nat_lit 133) :: (nat_lit 134) :: (nat_lit 136) :: (nat_lit 137) :: (nat_lit 138) :: (nat_lit 140) :: (nat_lit 141) :: (nat_lit 143) :: (nat_lit 144) :: (nat_lit 145) :: (nat_lit 147) :: (nat_lit 148) :: (nat_lit 150) :: (nat_lit 151) :: (nat_lit 152) :: (nat_lit 154) :: (nat_lit 155) :: (nat_lit 157) :: (nat_lit 158) :: (nat_lit 159) :: (nat_lit 160) :: (nat_lit 161) :: (nat_lit 162) :: (nat_lit 163) :: (nat_lit 166) :: (nat_lit 168) :: (nat_lit 169) :: (nat_lit 171) :: (nat_lit 172) :: []) hkH)) (Hook.val (kHook K ((nat_lit 2) :: (nat_lit 3) :: (nat_lit 15) :: (nat_lit 17) :: (nat_lit 18) :: (nat_lit 20) :: (nat_lit 21) :: (nat_lit 22) :: (nat_lit 29) :: (nat_lit 30) :: (nat_lit 31) :: (nat_lit 32) :: (nat_lit 35) :: (nat_lit 37) :: (nat_lit 38) :: (nat_lit 40) :: (nat_lit 41) :: (nat_lit 42) :: (nat_lit 44) :: (nat_lit 45) :: (nat_lit 47) :: (nat_lit 48) :: (nat_lit 49) :: (nat_lit 51) :: (nat_lit 52) :: (nat_lit 54) :: (nat_lit 55) :: (nat_lit 56) :: (nat_lit 57) :: (nat_lit 58) :: (nat_lit 60) :: (nat_lit 61) :: (nat_lit 63) :: (nat_lit 64) :: (nat_lit 65) :: (nat_lit 66) :: (nat_lit 68) :: (nat_lit 69) :: (nat_lit 71) :: (nat_lit 72) :: (nat_lit 73) :: (nat_lit 74) :: (nat_lit 76) :: (nat_lit 77) :: (nat_lit 79) :: (nat_lit 80) :: (nat_lit 81) :: (nat_lit 83) :: (nat_lit 84) :: (nat_lit 86) :: (nat_lit 87) :: (nat_lit 88) :: (nat_lit 90) :: (nat_lit 91) :: (nat_lit 93) :: (nat_lit 94) :: (nat_lit 95) :: (nat_lit 97) :: (nat_lit 98) :: (nat_lit 100) :: (nat_lit 101) :: (nat_lit 102) :: (nat_lit 104) :: (nat_lit 105) :: (nat_lit 107) :: (nat_lit 108) :: (nat_lit 116) :: (nat_lit 117) :: (nat_lit 119) :: (nat_lit 120) :: (nat_lit 122) :: (nat_lit 123) :: (nat_lit 124) :: (nat_lit 126) :: (nat_lit 127) :: (nat_lit 129) :: (nat_lit 130) :: (nat_lit 131) :: (nat_lit 133) :: (nat_lit 134) :: (nat_lit 136) :: (nat_lit 137) :: (nat_lit 138) :: (nat_lit 140) :: (nat_lit 141) :: (nat_lit 143) :: (nat_lit 144) :: (nat_lit 145) :: (nat_lit 147) :: (nat_lit 148) :: (nat_lit 150) :: (nat_lit 151) :: (nat_lit 152) :: (nat_lit 154) :: (nat_lit 155) :: (nat_lit 157) :: (nat_lit 158) :: (nat_lit 159) :: (nat_lit 160) :: (nat_lit 161) :: (nat_lit 162) :: (nat_lit 163) :: (nat_lit 166) :: (nat_lit 168) :: (nat_lit 169) :: (nat_lit 171) :: (nat_lit 172) :: []) hkH)) 2234 :=
  LeftO.of_pieces (M := 1073) (H₁ := fun P => absHeap (tF P) 173 (.mk [] [] [] 0 [] [] .false (List.toArray []) [] 0 .false .false .false 0 [2000, 10, 10] .false 0 .true [] [] 0 .false)) (gs₁ := ⟨[]⟩) (d₁ := (.mk 0 0 0 0)) (k₁ := 423) openH sizeH runH (by decide) looksH
theorem saidH : OpenLaw.wellSaid PySem.Challenge.rw_ui0509_07 = true := by rw [PySem.W.Fast.te9446332074065402090]; kernel_rfl!
theorem okH : (chainsOk vq && opensWell pw && (frees (OpenRow.toRowW (OpenLaw.row PySem.Challenge.rw_ui0509_07)) && (RowW.within (OpenRow.toRowW (OpenLaw.row PySem.Challenge.rw_ui0509_07))).isEmpty)) = true := by kernel_rfl!
theorem hd (walk : WalkO vq [Str.ofString "MOST", Str.ofString "frac", Str.ofString "need", Str.ofString "Meter"] (XL vq ([(Str.ofString "MOST", (.int 100000000000000000000000000000000000000000000000000000000000000000000000000000000000000000000000000000000000000000000000000000000000000000000000000000000000000000000000000000000000000000000000000000000000000000000000000000000000000000000000000000000000000000000000000000000000000000000000000000000000000000000000000000000000000000000000000000000000000000000000000000000000000000000000000000000000000000000000000000000000000000000000000000000000000000000000000000000000000000000000000000000000000000000000000000000000000000000000000000000000000000000000000000000000000000000000000000000000000000000000000000000000000000000000000000000000000000000000000000000000000000000000000000000000000000000000000000000000000000000000000000000000000000000000000000000000000000000000000000000000000000000000000000000000000000000000000000000000000000000000000000000000000000000000000000000000000000000000000000000000000000000000000000000000000000000000000000000000000000000000000000000000000000000000000000000000000000000000000000000000000000000000000000000000000000000000000000000000000000000000000000000000000000000000000000000000000000000000000000000000000000000000000000000000000000000000000000000000000000000000000000000000000000000000000000000000000000000000000000000000000000000000000000000000000000000000000000000000000000000000000000000000000000000000000000000000000000000000000000000000000000000000000000000000000000000000000000000000000000000000000000000000000000000000000000000000000000000000000000000000000000000000000000000000000000000000000000000000000000000000000000000000000000000000000000000000000000000000000000000000000000000000000000000000000000000000000000000000000000000000000000000000000000000000000000000000000000000000000000000000000000000000000000000000000000000000000000000000000000000000000000000000000000000000000000000000000000000000000000000000000000000000000000000000000000000000000000000000000000000000000000000000000000000000000000000000000000000000000000000000000000000000000000000))] : List (Str × WData))) (kHook K ((nat_lit 2) :: (nat_lit 3) :: (nat_lit 15) :: (nat_lit 17) :: (nat_lit 18) :: (nat_lit 20) :: (nat_lit 21) :: (nat_lit 22) :: (nat_lit 29) :: (nat_lit 30) :: (nat_lit 31) :: (nat_lit 32) :: (nat_lit 35) :: (nat_lit 37) :: (nat_lit 38) :: (nat_lit 40) :: (nat_lit 41) :: (nat_lit 42) :: (nat_lit 44) :: (nat_lit 45) :: (nat_lit 47) :: (nat_lit 48) :: (nat_lit 49) :: (nat_lit 51) :: (nat_lit 52) :: (nat_lit 54) :: (nat_lit 55) :: (nat_lit 56) :: (nat_lit 57) :: (nat_lit 58) :: (nat_lit 60) :: (nat_lit 61) :: (nat_lit 63) :: (nat_lit 64) :: (nat_lit 65) :: (nat_lit 66) :: (nat_lit 68) :: (nat_lit 69) :: (nat_lit 71) :: (nat_lit 72) :: (nat_lit 73) :: (nat_lit 74) :: (nat_lit 76) :: (nat_lit 77) :: (nat_lit 79) :: (nat_lit 80) :: (nat_lit 81) :: (nat_lit 83) :: (nat_lit 84) :: (nat_lit 86) :: (nat_lit 87) :: (nat_lit 88) :: (nat_lit 90) :: (nat_lit 91) :: (nat_lit 93) :: (nat_lit 94) :: (nat_lit 95) :: (nat_lit 97) :: (nat_lit 98) :: (nat_lit 100) :: (nat_lit 101) :: (nat_lit 102) :: (nat_lit 104) :: (nat_lit 105) :: (nat_lit 107) :: (nat_lit 108) :: (nat_lit 116) :: (nat_lit 117) :: (nat_lit 119) :: (nat_lit 120) :: (nat_lit 122) :: (nat_lit 123) :: (nat_lit 124) :: (nat_lit 126) :: (nat_lit 127) :: (nat_lit 129) :: (nat_lit 130) :: (nat_lit 131) :: (nat_lit 133) :: (nat_lit 134) :: (nat_lit 136) :: (nat_lit 137) :: (nat_lit 138) :: (nat_lit 140) :: (nat_lit 141) :: (nat_lit 143) :: (nat_lit 144) :: (nat_lit 145) :: (nat_lit 147) :: (nat_lit 148) :: (nat_lit 150) :: (nat_lit 151) :: (nat_lit 152) :: (nat_lit 154) :: (nat_lit 155) :: (nat_lit 157) :: (nat_lit 158) :: (nat_lit 159) :: (nat_lit 160) :: (nat_lit 161) :: (nat_lit 162) :: (nat_lit 163) :: (nat_lit 166) :: (nat_lit 168) :: (nat_lit 169) :: (nat_lit 171) :: (nat_lit 172) :: []) hkH).says (OpenRow.toRowW (OpenLaw.row PySem.Challenge.rw_ui0509_07)) dH [] fun f vs => PySem.call f vs) : PySem.Challenge.rw_ui0509_07.Holds := by
  refine holds_law saidH fun said => holds_open (r := OpenLaw.row PySem.Challenge.rw_ui0509_07) (q := vq) (loose := [Str.ofString "MOST", Str.ofString "frac", Str.ofString "need", Str.ofString "Meter"]) (Xt := (fun s => xlAt vq ([(Str.ofString "MOST", (.int 100000000000000000000000000000000000000000000000000000000000000000000000000000000000000000000000000000000000000000000000000000000000000000000000000000000000000000000000000000000000000000000000000000000000000000000000000000000000000000000000000000000000000000000000000000000000000000000000000000000000000000000000000000000000000000000000000000000000000000000000000000000000000000000000000000000000000000000000000000000000000000000000000000000000000000000000000000000000000000000000000000000000000000000000000000000000000000000000000000000000000000000000000000000000000000000000000000000000000000000000000000000000000000000000000000000000000000000000000000000000000000000000000000000000000000000000000000000000000000000000000000000000000000000000000000000000000000000000000000000000000000000000000000000000000000000000000000000000000000000000000000000000000000000000000000000000000000000000000000000000000000000000000000000000000000000000000000000000000000000000000000000000000000000000000000000000000000000000000000000000000000000000000000000000000000000000000000000000000000000000000000000000000000000000000000000000000000000000000000000000000000000000000000000000000000000000000000000000000000000000000000000000000000000000000000000000000000000000000000000000000000000000000000000000000000000000000000000000000000000000000000000000000000000000000000000000000000000000000000000000000000000000000000000000000000000000000000000000000000000000000000000000000000000000000000000000000000000000000000000000000000000000000000000000000000000000000000000000000000000000000000000000000000000000000000000000000000000000000000000000000000000000000000000000000000000000000000000000000000000000000000000000000000000000000000000000000000000000000000000000000000000000000000000000000000000000000000000000000000000000000000000000000000000000000000000000000000000000000000000000000000000000000000000000000000000000000000000000000000000000000000000000000000000000000000000000000000000000000000000000000000000000000000000))] : List (Str × WData)) s && recOk (RowW.records (OpenRow.toRowW (OpenLaw.row PySem.Challenge.rw_ui0509_07))) s)) (XP := XL vq ([(Str.ofString "MOST", (.int 100000000000000000000000000000000000000000000000000000000000000000000000000000000000000000000000000000000000000000000000000000000000000000000000000000000000000000000000000000000000000000000000000000000000000000000000000000000000000000000000000000000000000000000000000000000000000000000000000000000000000000000000000000000000000000000000000000000000000000000000000000000000000000000000000000000000000000000000000000000000000000000000000000000000000000000000000000000000000000000000000000000000000000000000000000000000000000000000000000000000000000000000000000000000000000000000000000000000000000000000000000000000000000000000000000000000000000000000000000000000000000000000000000000000000000000000000000000000000000000000000000000000000000000000000000000000000000000000000000000000000000000000000000000000000000000000000000000000000000000000000000000000000000000000000000000000000000000000000000000000000000000000000000000000000000000000000000000000000000000000000000000000000000000000000000000000000000000000000000000000000000000000000000000000000000000000000000000000000000000000000000000000000000000000000000000000000000000000000000000000000000000000000000000000000000000000000000000000000000000000000000000000000000000000000000000000000000000000000000000000000000000000000000000000000000000000000000000000000000000000000000000000000000000000000000000000000000000000000000000000000000000000000000000000000000000000000000000000000000000000000000000000000000000000000000000000000000000000000000000000000000000000000000000000000000000000000000000000000000000000000000000000000000000000000000000000000000000000000000000000000000000000000000000000000000000000000000000000000000000000000000000000000000000000000000000000000000000000000000000000000000000000000000000000000000000000000000000000000000000000000000000000000000000000000000000000000000000000000000000000000000000000000000000000000000000000000000000000000000000000000000000000000000000000000000000000000000000000000000000000000000000000000000000))] : List (Str × WData))) (Yf := Hook.obs (kHook K ((nat_lit 2) :: (nat_lit 3) :: (nat_lit 15) :: (nat_lit 17) :: (nat_lit 18) :: (nat_lit 20) :: (nat_lit 21) :: (nat_lit 22) :: (nat_lit 29) :: (nat_lit 30) :: (nat_lit 31) :: (nat_lit 32) :: (nat_lit 35) :: (nat_lit 37) :: (nat_lit 38) :: (nat_lit 40) :: (nat_lit 41) :: (nat_lit 42) :: (nat_lit 44) :: (nat_lit 45) :: (nat_lit 47) :: (nat_lit 48) :: (nat_lit 49) :: (nat_lit 51) :: (nat_lit 52) :: (nat_lit 54) :: (nat_lit 55) :: (nat_lit 56) :: (nat_lit 57) :: (nat_lit 58) :: (nat_lit 60) :: (nat_lit 61) :: (nat_lit 63) :: (nat_lit 64) :: (nat_lit 65) :: (nat_lit 66) :: (nat_lit 68) :: (nat_lit 69) :: (nat_lit 71) :: (nat_lit 72) :: (nat_lit 73) :: (nat_lit 74) :: (nat_lit 76) :: (nat_lit 77) :: (nat_lit 79) :: (nat_lit 80) :: (nat_lit 81) :: (nat_lit 83) :: (nat_lit 84) :: (nat_lit 86) :: (nat_lit 87) :: (nat_lit 88) :: (nat_lit 90) :: (nat_lit 91) :: (nat_lit 93) :: (nat_lit 94) :: (nat_lit 95) :: (nat_lit 97) :: (nat_lit 98) :: (nat_lit 100) :: (nat_lit 101) :: (nat_lit 102) :: (nat_lit 104) :: (nat_lit 105) :: (nat_lit 107) :: (nat_lit 108) :: (nat_lit 116) :: (nat_lit 117) :: (nat_lit 119) :: (nat_lit 120) :: (nat_lit 122) :: (nat_lit 123) :: (nat_lit 124) :: (nat_lit 126) :: (nat_lit 127) :: (nat_lit 129) :: (nat_lit 130) :: (nat_lit 131) :: (nat_lit 133) :: (nat_lit 134) :: (nat_lit 136) :: (nat_lit 137) :: (nat_lit 138) :: (nat_lit 140) :: (nat_lit 141) :: (nat_lit 143) :: (nat_lit 144) :: (nat_lit 145) :: (nat_lit 147) :: (nat_lit 148) :: (nat_lit 150) :: (nat_lit 151) :: (nat_lit 152) :: (nat_lit 154) :: (nat_lit 155) :: (nat_lit 157) :: (nat_lit 158) :: (nat_lit 159) :: (nat_lit 160) :: (nat_lit 161) :: (nat_lit 162) :: (nat_lit 163) :: (nat_lit 166) :: (nat_lit 168) :: (nat_lit 169) :: (nat_lit 171) :: (nat_lit 172) :: []) hkH)) (Ya := Hook.val (kHook K ((nat_lit 2) :: (nat_lit 3) :: (nat_lit 15) :: (nat_lit 17) :: (nat_lit 18) :: (nat_lit 20) :: (nat_lit 21) :: (nat_lit 22) :: (nat_lit 29) :: (nat_lit 30) :: (nat_lit 31) :: (nat_lit 32) :: (nat_lit 35) :: (nat_lit 37) :: (nat_lit 38) :: (nat_lit 40) :: (nat_lit 41) :: (nat_lit 42) :: (nat_lit 44) :: (nat_lit 45) :: (nat_lit 47) :: (nat_lit 48) :: (nat_lit 49) :: (nat_lit 51) :: (nat_lit 52) :: (nat_lit 54) :: (nat_lit 55) :: (nat_lit 56) :: (nat_lit 57) :: (nat_lit 58) :: (nat_lit 60) :: (nat_lit 61) :: (nat_lit 63) :: (nat_lit 64) :: (nat_lit 65) :: (nat_lit 66) :: (nat_lit 68) :: (nat_lit 69) :: (nat_lit 71) :: (nat_lit 72) :: (nat_lit 73) :: (nat_lit 74) :: (nat_lit 76) :: (nat_lit 77) :: (nat_lit 79) :: (nat_lit 80) :: (nat_lit 81) :: (nat_lit 83) :: (nat_lit 84) :: (nat_lit 86) :: (nat_lit 87) :: (nat_lit 88) :: (nat_lit 90) :: (nat_lit 91) :: (nat_lit 93) :: (nat_lit 94) :: (nat_lit 95) :: (nat_lit 97) :: (nat_lit 98) :: (nat_lit 100) :: (nat_lit 101) :: (nat_lit 102) :: (nat_lit 104) :: (nat_lit 105) :: (nat_lit 107) :: (nat_lit 108) :: (nat_lit 116) :: (nat_lit 117) :: (nat_lit 119) :: (nat_lit 120) :: (nat_lit 122) :: (nat_lit 123) :: (nat_lit 124) :: (nat_lit 126) :: (nat_lit 127) :: (nat_lit 129) :: (nat_lit 130) :: (nat_lit 131) :: (nat_lit 133) :: (nat_lit 134) :: (nat_lit 136) :: (nat_lit 137) :: (nat_lit 138) :: (nat_lit 140) :: (nat_lit 141) :: (nat_lit 143) :: (nat_lit 144) :: (nat_lit 145) :: (nat_lit 147) :: (nat_lit 148) :: (nat_lit 150) :: (nat_lit 151) :: (nat_lit 152) :: (nat_lit 154) :: (nat_lit 155) :: (nat_lit 157) :: (nat_lit 158) :: (nat_lit 159) :: (nat_lit 160) :: (nat_lit 161) :: (nat_lit 162) :: (nat_lit 163) :: (nat_lit 166) :: (nat_lit 168) :: (nat_lit 169) :: (nat_lit 171) :: (nat_lit 172) :: []) hkH)) (YP := Hook.says (kHook K ((nat_lit 2) :: (nat_lit 3) :: (nat_lit 15) :: (nat_lit 17) :: (nat_lit 18) :: (nat_lit 20) :: (nat_lit 21) :: (nat_lit 22) :: (nat_lit 29) :: (nat_lit 30) :: (nat_lit 31) :: (nat_lit 32) :: (nat_lit 35) :: (nat_lit 37) :: (nat_lit 38) :: (nat_lit 40) :: (nat_lit 41) :: (nat_lit 42) :: (nat_lit 44) :: (nat_lit 45) :: (nat_lit 47) :: (nat_lit 48) :: (nat_lit 49) :: (nat_lit 51) :: (nat_lit 52) :: (nat_lit 54) :: (nat_lit 55) :: (nat_lit 56) :: (nat_lit 57) :: (nat_lit 58) :: (nat_lit 60) :: (nat_lit 61) :: (nat_lit 63) :: (nat_lit 64) :: (nat_lit 65) :: (nat_lit 66) :: (nat_lit 68) :: (nat_lit 69) :: (nat_lit 71) :: (nat_lit 72) :: (nat_lit 73) :: (nat_lit 74) :: (nat_lit 76) :: (nat_lit 77) :: (nat_lit 79) :: (nat_lit 80) :: (nat_lit 81) :: (nat_lit 83) :: (nat_lit 84) :: (nat_lit 86) :: (nat_lit 87) :: (nat_lit 88) :: (nat_lit 90) :: (nat_lit 91) :: (nat_lit 93) :: (nat_lit 94) :: (nat_lit 95) :: (nat_lit 97) :: (nat_lit 98) :: (nat_lit 100) :: (nat_lit 101) :: (nat_lit 102) :: (nat_lit 104) :: (nat_lit 105) :: (nat_lit 107) :: (nat_lit 108) :: (nat_lit 116) :: (nat_lit 117) :: (nat_lit 119) :: (nat_lit 120) :: (nat_lit 122) :: (nat_lit 123) :: (nat_lit 124) :: (nat_lit 126) :: (nat_lit 127) :: (nat_lit 129) :: (nat_lit 130) :: (nat_lit 131) :: (nat_lit 133) :: (nat_lit 134) :: (nat_lit 136) :: (nat_lit 137) :: (nat_lit 138) :: (nat_lit 140) :: (nat_lit 141) :: (nat_lit 143) :: (nat_lit 144) :: (nat_lit 145) :: (nat_lit 147) :: (nat_lit 148) :: (nat_lit 150) :: (nat_lit 151) :: (nat_lit 152) :: (nat_lit 154) :: (nat_lit 155) :: (nat_lit 157) :: (nat_lit 158) :: (nat_lit 159) :: (nat_lit 160) :: (nat_lit 161) :: (nat_lit 162) :: (nat_lit 163) :: (nat_lit 166) :: (nat_lit 168) :: (nat_lit 169) :: (nat_lit 171) :: (nat_lit 172) :: []) hkH)) (N := 2234) (d := dH) (kwd := []) leftH (Hook.of (kHook K ((nat_lit 2) :: (nat_lit 3) :: (nat_lit 15) :: (nat_lit 17) :: (nat_lit 18) :: (nat_lit 20) :: (nat_lit 21) :: (nat_lit 22) :: (nat_lit 29) :: (nat_lit 30) :: (nat_lit 31) :: (nat_lit 32) :: (nat_lit 35) :: (nat_lit 37) :: (nat_lit 38) :: (nat_lit 40) :: (nat_lit 41) :: (nat_lit 42) :: (nat_lit 44) :: (nat_lit 45) :: (nat_lit 47) :: (nat_lit 48) :: (nat_lit 49) :: (nat_lit 51) :: (nat_lit 52) :: (nat_lit 54) :: (nat_lit 55) :: (nat_lit 56) :: (nat_lit 57) :: (nat_lit 58) :: (nat_lit 60) :: (nat_lit 61) :: (nat_lit 63) :: (nat_lit 64) :: (nat_lit 65) :: (nat_lit 66) :: (nat_lit 68) :: (nat_lit 69) :: (nat_lit 71) :: (nat_lit 72) :: (nat_lit 73) :: (nat_lit 74) :: (nat_lit 76) :: (nat_lit 77) :: (nat_lit 79) :: (nat_lit 80) :: (nat_lit 81) :: (nat_lit 83) :: (nat_lit 84) :: (nat_lit 86) :: (nat_lit 87) :: (nat_lit 88) :: (nat_lit 90) :: (nat_lit 91) :: (nat_lit 93) :: (nat_lit 94) :: (nat_lit 95) :: (nat_lit 97) :: (nat_lit 98) :: (nat_lit 100) :: (nat_lit 101) :: (nat_lit 102) :: (nat_lit 104) :: (nat_lit 105) :: (nat_lit 107) :: (nat_lit 108) :: (nat_lit 116) :: (nat_lit 117) :: (nat_lit 119) :: (nat_lit 120) :: (nat_lit 122) :: (nat_lit 123) :: (nat_lit 124) :: (nat_lit 126) :: (nat_lit 127) :: (nat_lit 129) :: (nat_lit 130) :: (nat_lit 131) :: (nat_lit 133) :: (nat_lit 134) :: (nat_lit 136) :: (nat_lit 137) :: (nat_lit 138) :: (nat_lit 140) :: (nat_lit 141) :: (nat_lit 143) :: (nat_lit 144) :: (nat_lit 145) :: (nat_lit 147) :: (nat_lit 148) :: (nat_lit 150) :: (nat_lit 151) :: (nat_lit 152) :: (nat_lit 154) :: (nat_lit 155) :: (nat_lit 157) :: (nat_lit 158) :: (nat_lit 159) :: (nat_lit 160) :: (nat_lit 161) :: (nat_lit 162) :: (nat_lit 163) :: (nat_lit 166) :: (nat_lit 168) :: (nat_lit 169) :: (nat_lit 171) :: (nat_lit 172) :: []) hkH)) (Hook.keeps (kHook K ((nat_lit 2) :: (nat_lit 3) :: (nat_lit 15) :: (nat_lit 17) :: (nat_lit 18) :: (nat_lit 20) :: (nat_lit 21) :: (nat_lit 22) :: (nat_lit 29) :: (nat_lit 30) :: (nat_lit 31) :: (nat_lit 32) :: (nat_lit 35) :: (nat_lit 37) :: (nat_lit 38) :: (nat_lit 40) :: (nat_lit 41) :: (nat_lit 42) :: (nat_lit 44) :: (nat_lit 45) :: (nat_lit 47) :: (nat_lit 48) :: (nat_lit 49) :: (nat_lit 51) :: (nat_lit 52) :: (nat_lit 54) :: (nat_lit 55) :: (nat_lit 56) :: (nat_lit 57) :: (nat_lit 58) :: (nat_lit 60) :: (nat_lit 61) :: (nat_lit 63) :: (nat_lit 64) :: (nat_lit 65) :: (nat_lit 66) :: (nat_lit 68) :: (nat_lit 69) :: (nat_lit 71) :: (nat_lit 72) :: (nat_lit 73) :: (nat_lit 74) :: (nat_lit 76) :: (nat_lit 77) :: (nat_lit 79) :: (nat_lit 80) :: (nat_lit 81) :: (nat_lit 83) :: (nat_lit 84) :: (nat_lit 86) :: (nat_lit 87) :: (nat_lit 88) :: (nat_lit 90) :: (nat_lit 91) :: (nat_lit 93) :: (nat_lit 94) :: (nat_lit 95) :: (nat_lit 97) :: (nat_lit 98) :: (nat_lit 100) :: (nat_lit 101) :: (nat_lit 102) :: (nat_lit 104) :: (nat_lit 105) :: (nat_lit 107) :: (nat_lit 108) :: (nat_lit 116) :: (nat_lit 117) :: (nat_lit 119) :: (nat_lit 120) :: (nat_lit 122) :: (nat_lit 123) :: (nat_lit 124) :: (nat_lit 126) :: (nat_lit 127) :: (nat_lit 129) :: (nat_lit 130) :: (nat_lit 131) :: (nat_lit 133) :: (nat_lit 134) :: (nat_lit 136) :: (nat_lit 137) :: (nat_lit 138) :: (nat_lit 140) :: (nat_lit 141) :: (nat_lit 143) :: (nat_lit 144) :: (nat_lit 145) :: (nat_lit 147) :: (nat_lit 148) :: (nat_lit 150) :: (nat_lit 151) :: (nat_lit 152) :: (nat_lit 154) :: (nat_lit 155) :: (nat_lit 157) :: (nat_lit 158) :: (nat_lit 159) :: (nat_lit 160) :: (nat_lit 161) :: (nat_lit 162) :: (nat_lit 163) :: (nat_lit 166) :: (nat_lit 168) :: (nat_lit 169) :: (nat_lit 171) :: (nat_lit 172) :: []) hkH)) (fun s e => xl_of s (Bool.and_eq_true_iff.mp e).1) XL.keeps ?hdef ?hp ?hk (fun s e => recFacts_of (Bool.and_eq_true_iff.mp e).2) ?wr said okH ⟨rfl, rfl, rfl, rfl, rfl, by decide +kernel⟩ ?hw walk
  case hdef => kernel_rfl!
  case hp => kernel_rfl!
  case hk => kernel_rfl!
  case wr => rfl
  case hw => w_witness2
end HD

namespace Mine
-- a call over a part of the ledger: the callee walks over NEED alone; the rest of the ledger is kept by its ground
theorem in_of {K : Frag} {h₀ h : Heap} {L : Addr} {m : Str → Option Value} (F : Fr h₀ L h m) (X : K.In h₀) : K.In h := X.keeps F.keep
def restOf (news need : List (Addr × Obj)) : List (Addr × Obj) := news.filter fun p => !(need.map (·.1)).contains p.1
theorem mem_rest {news need : List (Addr × Obj)} {p : Addr × Obj} (h : p ∈ news) (hn : p.1 ∉ need.map (·.1)) : p ∈ restOf news need :=
  List.mem_filter.mpr ⟨h, by simpa [List.contains_iff_mem] using hn⟩
theorem rest_mem {news need : List (Addr × Obj)} {p : Addr × Obj} (h : p ∈ restOf news need) : p ∈ news ∧ p.1 ∉ need.map (·.1) := by
  obtain ⟨h1, h2⟩ := List.mem_filter.mp h
  exact ⟨h1, by simpa [List.contains_iff_mem] using h2⟩
theorem mem_rest0 {news : List (Addr × Obj)} {p : Addr × Obj} (h : p ∈ news) : p ∈ restOf news [] := mem_rest h (by simp)
def LeaveN (h₀ : Heap) (L : Addr) (m : Str → Option Value) (g : Heap) (news need : List (Addr × Obj)) (R : Result → Shared → Prop) (v : Value) (s' : Shared) : Prop :=
  ∃ L' m' news', Fr g L' s'.heap m' ∧ News g L' s'.heap news' ∧ (Fr h₀ L s'.heap m → News h₀ L s'.heap news' → News h₀ L s'.heap (restOf news need) → (∀ p ∈ restOf news need, ∀ q ∈ news', p.1 ≠ q.1) → R (.ok (.ret v)) s')
theorem leaveN_ {h₀ g : Heap} {L L' : Addr} {m m' : Str → Option Value} {news need news' : List (Addr × Obj)} {R : Result → Shared → Prop} {v : Value} {s' : Shared} (F' : Fr g L' s'.heap m') (N' : News g L' s'.heap news')
    (k : Fr h₀ L s'.heap m → News h₀ L s'.heap news' → News h₀ L s'.heap (restOf news need) → (∀ p ∈ restOf news need, ∀ q ∈ news', p.1 ≠ q.1) → R (.ok (.ret v)) s') : LeaveN h₀ L m g news need R v s' := ⟨L', m', news', F', N', k⟩
theorem leaveN_K {h₀ h g : Heap} {L : Addr} {m : Str → Option Value} {news need : List (Addr × Obj)} {R : Result → Shared → Prop} {v : Value} {s' : Shared} (N : News h₀ L h news) (hg : g = hideAll h (need.map (·.1)))
    (hl : LeaveN h₀ L m g news need R v s') : LeaveK h₀ L m g R v s' := by
  obtain ⟨L', m', news', F', N', k⟩ := hl
  have keep : ∀ p ∈ restOf news need, g.get? p.1 = some p.2 := fun p hp => by
    obtain ⟨h1, h2⟩ := rest_mem hp
    rw [hg]
    exact hideAll_get _ (N p h1).1 h2
  refine ⟨L', m', news', F', N', fun a b => k a b (fun p hp => ⟨F'.keep _ _ (keep p hp), (N p (rest_mem hp).1).2⟩) fun p hp q hq e => ?_⟩
  have h1 := keep p hp
  rw [e, (N' q hq).2.2] at h1
  cases h1
theorem news_all {h₀ h' : Heap} {L : Addr} {news : List (Addr × Obj)} (N2 : News h₀ L h' (restOf news [])) : News h₀ L h' news := fun p hp => N2 p (mem_rest0 hp)
theorem news_cons {h₀ h' : Heap} {L : Addr} {news : List (Addr × Obj)} {p : Addr × Obj} {full : List (Addr × Obj)} (N1 : News h₀ L h' full) (hp : p ∈ full) (N : News h₀ L h' news) : News h₀ L h' (p :: news) := by
  intro q hq
  rcases List.mem_cons.mp hq with rfl | hq
  · exact N1 _ hp
  · exact N q hq
theorem rest_two {news : List (Addr × Obj)} {x d : Addr} {ox od : Obj} (l0 : ∀ p ∈ news, p.1 < d) (l00 : d < x) {p : Addr × Obj} (hp : p ∈ news) : p ∈ restOf ((x, ox) :: (d, od) :: news) [(x, ox), (d, od)] := by
  refine mem_rest (List.mem_cons_of_mem _ (List.mem_cons_of_mem _ hp)) ?_
  have h1 := l0 p hp
  simp only [List.map_cons, List.map_nil, List.mem_cons, List.not_mem_nil, or_false, not_or]
  exact ⟨Nat.ne_of_lt (Nat.lt_trans h1 l00), Nat.ne_of_lt h1⟩
theorem ne_all {news full : List (Addr × Obj)} {q : Addr × Obj} (hd : ∀ p ∈ restOf news [], ∀ q ∈ full, p.1 ≠ q.1) (hq : q ∈ full) : ∀ p ∈ news, p.1 ≠ q.1 := fun p hp => hd p (mem_rest0 hp) q hq
def AllNe (d : Nat) : List (Addr × Obj) → Prop
  | [] => True
  | p :: r => (@Ne Nat p.1 d) ∧ AllNe d r
theorem allNe_of {d : Addr} : ∀ {l : List (Addr × Obj)}, (∀ p ∈ l, p.1 ≠ d) → AllNe d l
  | [], _ => trivial
  | p :: _, h => ⟨h p (.head _), allNe_of fun q hq => h q (.tail _ hq)⟩
section
variable {prog : Program} {w : World} {A A₀ : Around} {s : Shared} {K : Frag} {L : Addr} {h₀ base : Heap} {m mg mb : Str → Option Value} {news : List (Addr × Obj)} {p : Program} {loose : List Str} {mean : ExcName → Option Value}
theorem code_need (need : List (Addr × Obj)) {env : Env} {outer : List Env} {R : Result → Shared → Prop} {name qual : Str} {params : Arguments} {body : List Stmt} {scope : Scope} {dV kV doc pm cdv ct oc : Value} {an od : Option Addr} {osl : Array (Option Value)} {f : Addr} {args : Args} {binds : List (Str × Value)}
    (B : Below A₀ base outer h₀) (F : Fr h₀ L s.heap m) (X₀ : K.In h₀) (N : News h₀ L s.heap news) (T : Top p loose mean mg mb h₀) (hA : A.frames = some (env :: outer)) (hf : env.frame = some L) (hke : env.scope.kind = .function)
    (ho : K.lookup f = some ⟨oc, od, .func (fnOf name qual params body scope dV kV doc pm an cdv ct), osl⟩) (hcd : codeIn K cdv qual = true) (hroom : A.depth < recursionLimit)
    (hbind : BindsTo s (fnOf name qual params body scope dV kV doc pm an cdv ct) args binds) (hloc : ∀ y ∈ binds, scope.names.lookup y.1 = some .local) (hn : ∀ p ∈ need, p ∈ news)
    (h : ∀ g L' h₁ tk, Fr h₀ L g m → Fr g L' h₁ (fun y => binds.reverse.lookup y) → News g L' h₁ need → Below A base (env :: outer) g → K.In g → Top p loose mean mg mb g → (∀ b o, s.heap.get? b = some o → b ∉ need.map (·.1) → g.get? b = some o) →
      wpAny (model prog w) (A.deeper (envOf qual scope L' f cdv)) (execs body (envOf qual scope L' f cdv))
        (fun fl s' => LeaveN h₀ L m g news need R (match fl with | .ret v => v | _ => .none) s')
        (fun e s' => wpAny (model prog w) (A.deeper (envOf qual scope L' f cdv)) (leaving (envOf qual scope L' f cdv) e) (fun _ s'' => R (.error e) s'') (fun e' s'' => R (.error e') s'') s')
        { s with heap := h₁, toks := tk })
    (hco : scope.isCoroutine = false) (hgen : scope.isGenerator = false) (hk : scope.kind = .function)
    (hcell : ∀ x ∈ scope.names, x.2 ≠ .cell) : codeAny (model prog w) A (.call (.ref f) args) R s := by
  have N0 : News h₀ L s.heap need := fun p hp => N p (hn p hp)
  obtain ⟨FG, BG, st, lv⟩ := groundX (R := R) B F N0 hA hf hke
  refine codeAny_call_def (fd := fnOf name qual params body scope dV kV doc pm an cdv ct) (body := body) (binds := binds) hroom ((X₀.keeps F.keep) _ _ ho) rfl (T.nolimit.keeps F.keep) (codeRec_of (X₀.keeps F.keep) hcd) rfl hbind hcell hloc (fun h₁ hns hk₁ => ?_) hco hgen hk
  exact wpAny_mono (h _ s.heap.objs.size h₁ _ FG ⟨hns, fun b o e => hk₁ b o (of_hideAll _ e), Nat.le_of_eq (hideAll_size _ _)⟩
    (fun p hp => ⟨hk₁ _ _ (N0 p hp).1, Nat.ne_of_lt (Heap.lt_size (N0 p hp).1), hideAll_none _ (List.mem_map_of_mem hp)⟩) BG (X₀.keeps st) (T.keeps st) (fun b o e n => hideAll_get _ e n)) (fun fl s' hl => lv _ _ (leaveN_K N rfl hl)) fun _ _ y => y
end
theorem news_upd2 {h₀ h h' : Heap} {L x d l : Addr} {ox od od' ol ol' : Obj} {news news1 full : List (Addr × Obj)} {g1 : Obj → List (Addr × Obj)} (N : News h₀ L h news) (ex : (x, ox) ∈ news) (U2 : Upd d od od' news news1) (U1 : UpdF l ol news1 g1)
    (N1 : News h₀ L h' full) (fx : (x, ox) ∈ full) (fd : (d, od') ∈ full) (fl : (l, ol') ∈ full) (kR : News h₀ L h' (restOf news [(x, ox), (d, od), (l, ol)])) : News h₀ L h' (g1 ol') := by
  obtain ⟨p1, q1, e1, e1', a1, b1⟩ := U2.split
  obtain ⟨p2, q2, e2, e2', a2, b2⟩ := U1.split
  intro p hp
  rw [e2'] at hp
  have main : p = (l, ol') ∨ (p ∈ news1 ∧ p.1 ≠ l) := by
    rcases List.mem_append.mp hp with h | h
    · exact .inr ⟨by rw [e2]; exact List.mem_append.mpr (.inl h), a2 p h⟩
    · rcases List.mem_cons.mp h with h | h
      · exact .inl h
      · exact .inr ⟨by rw [e2]; exact List.mem_append.mpr (.inr (List.mem_cons_of_mem _ h)), b2 p h⟩
  rcases main with rfl | ⟨hp, hl⟩
  · exact N1 _ fl
  rw [e1'] at hp
  have main2 : p = (d, od') ∨ (p ∈ news ∧ p.1 ≠ d) := by
    rcases List.mem_append.mp hp with h | h
    · exact .inr ⟨by rw [e1]; exact List.mem_append.mpr (.inl h), a1 p h⟩
    · rcases List.mem_cons.mp h with h | h
      · exact .inl h
      · exact .inr ⟨by rw [e1]; exact List.mem_append.mpr (.inr (List.mem_cons_of_mem _ h)), b1 p h⟩
  rcases main2 with rfl | ⟨hp, hd⟩
  · exact N1 _ fd
  by_cases hx : p.1 = x
  · have h1 := (N p hp).1
    have h2 := (N _ ex).1
    rw [hx, h2] at h1
    have : p = (x, ox) := Prod.ext hx (Option.some.inj h1).symm
    rw [this]
    exact N1 _ fx
  · exact kR p (mem_rest hp (by simp only [List.map_cons, List.map_nil, List.mem_cons, List.not_mem_nil, or_false, not_or]; exact ⟨hx, hd, hl⟩))
theorem ne_three {news full : List (Addr × Obj)} {x d l : Addr} {ox od ol : Obj} {q : Addr × Obj} (kD : ∀ p ∈ restOf news [(x, ox), (d, od), (l, ol)], ∀ q ∈ full, p.1 ≠ q.1) (hq : q ∈ full) (hx : x ≠ q.1) (hd : d ≠ q.1) (hl : l ≠ q.1) : ∀ p ∈ news, p.1 ≠ q.1 := by
  intro p hp
  by_cases h1 : p.1 = x
  · rw [h1]; exact hx
  by_cases h2 : p.1 = d
  · rw [h2]; exact hd
  by_cases h3 : p.1 = l
  · rw [h3]; exact hl
  exact kD p (mem_rest hp (by simp only [List.map_cons, List.map_nil, List.mem_cons, List.not_mem_nil, or_false, not_or]; exact ⟨h1, h2, h3⟩)) q hq
theorem three_in {news : List (Addr × Obj)} {a b c : Addr × Obj} (h1 : a ∈ news) (h2 : b ∈ news) (h3 : c ∈ news) : ∀ p ∈ [a, b, c], p ∈ news :=
  List.forall_mem_cons.mpr ⟨h1, List.forall_mem_cons.mpr ⟨h2, List.forall_mem_cons.mpr ⟨h3, List.forall_mem_nil _⟩⟩⟩
theorem Upd.mem {d : Addr} {o o' : Obj} {l l' : List (Addr × Obj)} (U : Upd d o o' l l') : (d, o) ∈ l := by
  obtain ⟨p, q, e, _, _, _⟩ := U.split; rw [e]; exact List.mem_append.mpr (.inr (.head _))
theorem Upd.other {d : Addr} {o o' : Obj} {l l' : List (Addr × Obj)} (U : Upd d o o' l l') {p : Addr × Obj} (h : p ∈ l') (hd : p.1 ≠ d) : p ∈ l := by
  obtain ⟨p1, q1, e1, e1', _, _⟩ := U.split
  rw [e1'] at h; rw [e1]
  rcases List.mem_append.mp h with h | h
  · exact List.mem_append.mpr (.inl h)
  · rcases List.mem_cons.mp h with h | h
    · rw [h] at hd; exact absurd rfl hd
    · exact List.mem_append.mpr (.inr (List.mem_cons_of_mem _ h))
theorem UpdF.mem {d : Addr} {o : Obj} {l : List (Addr × Obj)} {g : Obj → List (Addr × Obj)} (U : UpdF d o l g) : (d, o) ∈ l := by
  obtain ⟨p, q, e, _, _, _⟩ := U.split; rw [e]; exact List.mem_append.mpr (.inr (.head _))
theorem UpdF.other {d : Addr} {o o' : Obj} {l : List (Addr × Obj)} {g : Obj → List (Addr × Obj)} (U : UpdF d o l g) {p : Addr × Obj} (h : p ∈ g o') : p = (d, o') ∨ (p ∈ l ∧ p.1 ≠ d) := by
  obtain ⟨p1, q1, e1, e1', a, b⟩ := U.split
  rw [e1'] at h; rw [e1]
  rcases List.mem_append.mp h with h | h
  · exact .inr ⟨List.mem_append.mpr (.inl h), a p h⟩
  · rcases List.mem_cons.mp h with h | h
    · exact .inl h
    · exact .inr ⟨List.mem_append.mpr (.inr (List.mem_cons_of_mem _ h)), b p h⟩
local macro_rules | `(tactic| k_in) => `(tactic| (refine' in_of ?fF ?fX; (case fF => k_asm); (case fX => k_asm)))
-- the gcd loop, as plain numbers
theorem gcd_turn {a b : Int} (hb : 0 < b) : Int.gcd b (a.fmod b) = Int.gcd a b := by
  rw [Int.fmod_eq_emod_of_nonneg _ (by omega), Int.gcd_comm a b]
  conv => rhs; rw [← Int.mul_ediv_add_emod a b]
  rw [Int.gcd_mul_left_add_right]
theorem dv_turn {a b : Int} {g : Nat} (hb : b > 0) (h : Int.gcd a b = g) : 0 ≤ b ∧ 0 ≤ a.fmod b ∧ Int.gcd b (a.fmod b) = g :=
  ⟨by omega, by rw [Int.fmod_eq_emod_of_nonneg _ (by omega)]; exact Int.emod_nonneg _ (by omega), by rw [gcd_turn hb]; exact h⟩
theorem dv_less {a b : Int} (hb : b > 0) : (a.fmod b).toNat < b.toNat := by
  have h1 : a.fmod b = a % b := Int.fmod_eq_emod_of_nonneg _ (by omega)
  have h2 := Int.emod_nonneg a (show b ≠ 0 by omega)
  have h3 := Int.emod_lt_of_pos a (show 0 < b by omega)
  omega
theorem dv_end {x y a b : Int} (ha : 0 ≤ a) (hb : 0 ≤ b) (hn : ¬ b > 0) (h : Int.gcd a b = Int.gcd (if x < 0 then -x else x) (if y < 0 then -y else y)) : a = ((Int.gcd x y : Nat) : Int) := by
  have e : b = 0 := by omega
  subst e
  rw [Int.gcd_zero] at h
  have h1 : Int.gcd (if x < 0 then -x else x) (if y < 0 then -y else y) = Int.gcd x y := by
    split <;> split <;> simp
  omega
-- fractions as rationals
theorem num_p {x y g : Int} (h : ¬ y < 0) (h0 : y ≠ 0) (e : g = ((Int.gcd x y : Nat) : Int)) : x.fdiv g = (Rat.divInt x y).num := by
  rw [e, Rat.num_divInt, Int.sign_eq_one_of_pos (by omega), Int.one_mul, Int.gcd_comm, Int.fdiv_eq_ediv_of_nonneg _ (by omega)]
theorem den_p {x y g : Int} (h : ¬ y < 0) (h0 : y ≠ 0) (e : g = ((Int.gcd x y : Nat) : Int)) : y.fdiv g = ((Rat.divInt x y).den : Int) := by
  rw [e, Rat.den_divInt, if_neg (by omega), Int.gcd_comm, Int.fdiv_eq_ediv_of_nonneg _ (by omega), Int.natCast_ediv]
  congr 1
  omega
theorem num_n {x y g : Int} (h : y < 0) (e : g = ((Int.gcd (-x) (-y) : Nat) : Int)) : (-x).fdiv g = (Rat.divInt x y).num := by
  rw [← Rat.neg_divInt_neg]; exact num_p (by omega) (by omega) e
theorem den_n {x y g : Int} (h : y < 0) (e : g = ((Int.gcd (-x) (-y) : Nat) : Int)) : (-y).fdiv g = ((Rat.divInt x y).den : Int) := by
  rw [← Rat.neg_divInt_neg]; exact den_p (by omega) (by omega) e
theorem num_le (u l : Int) : (Rat.divInt u l).num.natAbs ≤ u.natAbs := by
  rw [Rat.num_divInt]
  refine Nat.le_trans (Int.natAbs_ediv_le_natAbs _ _) ?_
  rcases Int.lt_trichotomy l 0 with h | h | h
  · rw [Int.sign_eq_neg_one_of_neg h]; omega
  · subst h; simp
  · rw [Int.sign_eq_one_of_pos h]; omega
theorem den_le {u l : Int} (h : l ≠ 0) : (Rat.divInt u l).den ≤ l.natAbs := by
  rw [Rat.den_divInt, if_neg h]
  exact Nat.div_le_self _ _
theorem r_plus (r q : Rat) : Rat.divInt (r.num * q.den + q.num * r.den) (r.den * q.den) = r + q := by
  rw [Rat.add_def', ← Rat.divInt_ofNat]; rfl
theorem r_times (r q : Rat) : Rat.divInt (r.num * q.num) (r.den * q.den) = r * q := by
  rw [Rat.mul_def', ← Rat.divInt_ofNat]; rfl
theorem r_int (n : Int) : Rat.divInt n 1 = (n : Rat) := by
  rw [Rat.divInt_eq_div]; grind
theorem nzmul {a b : Int} (ha : a ≠ 0) (hb : b ≠ 0) : a * b ≠ 0 := Int.mul_ne_zero ha hb
theorem nzden (r : Rat) : (r.den : Int) ≠ 0 := by have := r.den_nz; omega
-- sizes
def Fits (x : Int) : Prop := x.natAbs < 10 ^ 2000
theorem Fits.no {x g M : Int} (h : Fits x) (hg : 0 < g) (hb : x.fdiv g ≥ M) (hM : M = 10 ^ 2000) : False := by
  have h1 : (x.fdiv g).natAbs ≤ x.natAbs := by
    rw [Int.fdiv_eq_ediv_of_nonneg _ (by omega)]
    exact Int.natAbs_ediv_le_natAbs _ _
  have h2 : ((10 ^ 2000 : Nat) : Int) = M := by rw [hM]; simp
  unfold Fits at h
  generalize (10 : Nat) ^ 2000 = P at h h2
  omega
theorem Fits.noA {x g M : Int} (h : Fits x) (hg : 0 < g) (hb : (if x.fdiv g < 0 then -(x.fdiv g) else x.fdiv g) ≥ M) (hM : M = 10 ^ 2000) : False := by
  have h1 : (x.fdiv g).natAbs ≤ x.natAbs := by
    rw [Int.fdiv_eq_ediv_of_nonneg _ (by omega)]
    exact Int.natAbs_ediv_le_natAbs _ _
  have h2 : ((10 ^ 2000 : Nat) : Int) = M := by rw [hM]; simp
  unfold Fits at h
  generalize (10 : Nat) ^ 2000 = P at h h2
  omega
theorem Fits.neg {x : Int} (h : Fits x) : Fits (-x) := by unfold Fits at *; omega
theorem ten_two : (10 : Nat) ^ 2000 < 2 ^ 9000 := by decide +kernel
theorem two_ten : (2 : Nat) ^ 6643 < 10 ^ 2000 := by decide +kernel
theorem Fits.log {x : Int} {n : Nat} (h : Fits x) (h0 : 0 < n) (hn : n ≤ x.natAbs) : (n : Int).natAbs.log2 < 9000 := by
  have e : (n : Int).natAbs = n := by omega
  rw [e]
  refine (Nat.log2_lt (by omega)).mpr ?_
  unfold Fits at h
  have := ten_two
  generalize (10 : Nat) ^ 2000 = P at *
  generalize (2 : Nat) ^ 9000 = R at *
  omega
theorem Fits.of {x : Int} {n : Nat} (h : Builtin.Int.intBits x ≤ n) (hn : n ≤ 6643) : Fits x := by
  have h1 := natAbs_lt_pow_bits x
  have h2 : (2 : Nat) ^ Builtin.Int.intBits x ≤ 2 ^ 6643 := Nat.pow_le_pow_right (by decide) (by omega)
  have h3 := two_ten
  unfold Fits
  generalize (10 : Nat) ^ 2000 = P at *
  generalize (2 : Nat) ^ 6643 = R at *
  omega
theorem bits_num {u l : Int} {n : Nat} (h : Builtin.Int.intBits u ≤ n) : Builtin.Int.intBits (Rat.divInt u l).num ≤ n := bits_of_natAbs_le (num_le u l) h
theorem bits_den {u l : Int} {n : Nat} (h0 : l ≠ 0) (h : Builtin.Int.intBits l ≤ n) : Builtin.Int.intBits ((Rat.divInt u l).den : Int) ≤ n := bits_of_natAbs_le (by have := den_le (u := u) h0; omega) h

-- the calls
abbrev RatO (r : Rat) (t t' : Tok) (c : Nat) : Obj := { cls := .type "tuple", data := .seq #[.int r.num t, .int (r.den : Int) t'] c }
theorem div_c {w : World} {p : Program} {loose : List Str} {mean : ExcName → Option Value} {mg mb : Str → Option Value} (dp un : Nat) (gd : Option (List Code)) (cn : Str) (cs : Scope) (a : Addr) (ccd : Value) (cl : List (Str × Addr)) (outer : List Env) (A₀ : Around) (base h₀ : Heap) (L : Addr) (m : Str → Option Value) (news : List (Addr × Obj)) (s : Shared) (Q E : Value → Shared → Prop) (x y : Int) (t1 t2 : Tok)
    (B : Below A₀ base outer h₀) (F : Fr h₀ L s.heap m) (X : (HD.K w.params).In h₀) (N : News h₀ L s.heap news) (T : Top p loose mean mg mb h₀) (hk : cs.kind = .function)
    (hd : dp + 1 < recursionLimit) (hu : un + 8 < cLine)
    (hret : ∀ (t : Tok) (h' : Heap) (tk' : Nat), Fr h₀ L h' m → News h₀ L h' news → Q (.int ((Int.gcd x y : Nat) : Int) t) { s with heap := h', toks := tk' }) :
      wpAny (model PySem.Challenge.rw_ui0509_07.row.prog w) (ktrTop dp un gd cn cs L a ccd cl outer) (call (.ref 64) [.int x t1, .int y t2]) Q E s := by
  revert X; k_fill; intro X
  refine wpAny_call ?_
  k_dflt ktr_enter
  (k_with "exec While Compare cons nil" => k_while_given ["a!", "b!"] (fun a₀ b₀ _ a b => 0 ≤ a ∧ 0 ≤ b ∧ Int.gcd a b = Int.gcd a₀ b₀) (fun _ _ _ _ b => b.toNat) "a" "b")
  (k_with "state" => exact dv_turn (by assumption) (by assumption))
  (k_with "measure" => exact dv_less (by assumption))
  k_steps
  all_goals exact cb_retI hret (dv_end (by assumption) (by assumption) (by assumption) (by assumption)) (by k_asm) (by k_asm)
theorem div_use {w : World} {p : Program} {loose : List Str} {mean : ExcName → Option Value} {mg mb : Str → Option Value} (dp un : Nat) (gd : Option (List Code)) (cn : Str) (cs : Scope) (a : Addr) (ccd : Value) (cl : List (Str × Addr)) (outer : List Env) (A₀ : Around) (base h₀ : Heap) (L : Addr) (m : Str → Option Value) (news : List (Addr × Obj)) (s : Shared) (Q E : Value → Shared → Prop) (x y : Int) (t1 t2 : Tok)
    (B : Below A₀ base outer h₀) (F : Fr h₀ L s.heap m) (X : (HD.K w.params).In h₀) (N : News h₀ L s.heap news) (T : Top p loose mean mg mb h₀) (hk : cs.kind = .function)
    (hd : dp + 1 < recursionLimit) (hu : un + 8 < cLine) (hy : y ≠ 0) (hf : Fits y)
    (hret : ∀ (g : Int) (t : Tok) (h' : Heap) (tk' : Nat), 0 < g → g = ((Int.gcd x y : Nat) : Int) → g.natAbs.log2 < 9000 → Fr h₀ L h' m → News h₀ L h' news → Q (.int g t) { s with heap := h', toks := tk' }) :
      wpAny (model PySem.Challenge.rw_ui0509_07.row.prog w) (ktrTop dp un gd cn cs L a ccd cl outer) (call (.ref 64) [.int x t1, .int y t2]) Q E s :=
  div_c dp un gd cn cs a ccd cl outer A₀ base h₀ L m news s Q E x y t1 t2 B F X N T hk hd hu (fun t h' tk' F' N' => hret _ t h' tk' (by have := Int.gcd_pos_of_ne_zero_right x hy; omega) rfl (Fits.log hf (Int.gcd_pos_of_ne_zero_right x hy) (Int.gcd_le_natAbs_right x hy)) F' N')
theorem fr_end {h₀ h' : Heap} {L D : Addr} {m : Str → Option Value} {news : List (Addr × Obj)} {s : Shared} {Q : Value → Shared → Prop} {x y a b : Int} {t t' : Tok} {c tk' : Nat}
    (hret : ∀ (r : Rat) (D : Addr) (t t' : Tok) (c : Nat) (h' : Heap) (tk' : Nat), r = Rat.divInt x y → Fr h₀ L h' m → News h₀ L h' ((D, RatO r t t' c) :: news) → (∀ p ∈ news, p.1 < D) → Q (.ref D) { s with heap := h', toks := tk' })
    (e1 : a = (Rat.divInt x y).num) (e2 : b = ((Rat.divInt x y).den : Int)) (F : Fr h₀ L h' m) (N : News h₀ L h' ((D, ({ cls := .type "tuple", data := .seq #[.int a t, .int b t'] c } : Obj)) :: news)) (hl : ∀ p ∈ news, p.1 < D) : Q (.ref D) { s with heap := h', toks := tk' } := by
  subst e1; subst e2
  exact hret _ D t t' c h' tk' rfl F N hl
local macro_rules | `(tactic| walk_at "call ref") => `(tactic| (k_here; (with_reducible show wpAny _ _ (call (Value.ref 64) [Value.int _ _, Value.int _ _]) _ _ _); k_dflt (refine' div_use _ _ _ _ _ _ _ _ _ _ _ _ _ _ _ _ _ _ _ _ _ _ ?k1 ?k2 ?k3 ?k4 ?k5 ?k6 ?k7 ?k8 ?k9 ?k10 ?_; (case k1 => k_asm); (case k2 => k_asm); (case k3 => k_asm); (case k4 => k_asm); (case k5 => k_asm); (case k6 => first | exact rfl | assumption); (case k7 => ktr_room); (case k8 => ktr_units); (case k9 => omega); (case k10 => first | assumption | exact Fits.neg (by assumption) | exact Fits.of (n := 64) (PySem.intBits_le_64 (by omega) (by omega)) (by decide)); k_whole); intro g' t' h' tk' g0' gE' gL' F' N'; (try k_sweep)))
local macro_rules | `(tactic| walk_at "binaryOp FloorDiv int int") => `(tactic| (with_reducible refine floordiv_int ?ne ?_ (Or.inl (PyProof.noPylong_of_log2 ?lg)); (case lg => with_reducible assumption); (case ne => omega)))
theorem frac_c {w : World} {p : Program} {loose : List Str} {mean : ExcName → Option Value} {mg mb : Str → Option Value} (dp un : Nat) (gd : Option (List Code)) (cn : Str) (cs : Scope) (a : Addr) (ccd : Value) (cl : List (Str × Addr)) (outer : List Env) (A₀ : Around) (base h₀ : Heap) (L : Addr) (m : Str → Option Value) (news : List (Addr × Obj)) (s : Shared) (Q E : Value → Shared → Prop) (x y : Int) (t1 t2 : Tok)
    (B : Below A₀ base outer h₀) (F : Fr h₀ L s.heap m) (X : (HD.K w.params).In h₀) (N : News h₀ L s.heap news) (T : Top p loose mean mg mb h₀) (hk : cs.kind = .function)
    (hd : dp + 2 < recursionLimit) (hu : un + 16 < cLine) (hy : y ≠ 0) (hx1 : Fits x) (hy1 : Fits y)
    (hret : ∀ (r : Rat) (D : Addr) (t t' : Tok) (c : Nat) (h' : Heap) (tk' : Nat), r = Rat.divInt x y → Fr h₀ L h' m → News h₀ L h' ((D, RatO r t t' c) :: news) → (∀ p ∈ news, p.1 < D) → Q (.ref D) { s with heap := h', toks := tk' }) :
      wpAny (model PySem.Challenge.rw_ui0509_07.row.prog w) (ktrTop dp un gd cn cs L a ccd cl outer) (call (.ref 72) [.int x t1, .int y t2]) Q E s := by
  revert X; k_fill; intro X
  refine wpAny_call ?_
  k_dflt (refine' code_def ?k1 ?k2 ?k3 ?k4 ?k5 ?kA ?kF ?kK ?k6 ?k7 ?k8 ?k9 ?kB ?_ ?c2 ?c3 ?c4 ?c5; (case kA => exact rfl); (case kF => exact rfl); (case kK => assumption); (case k1 => k_asm); (case k2 => k_asm); (case k3 => k_asm); (case k4 => k_asm); (case k5 => k_asm); (case k6 => k_is); (case k7 => k_is); (case k8 => ktr_room); (case k9 => first | exact BindsTo.of_eq rfl | exact binds_K (by k_in) rfl (by k_is) rfl rfl rfl); (case c5 => decide); (case kB => exact locs rfl); (case c2 => exact rfl); (case c3 => exact rfl); (case c4 => exact rfl); k_whole; intro g' L' h' FG' F' N' B' X' T'; (try dsimp only); (try k_fold))
  k_steps
  all_goals first
    | exact absurd (by assumption) hy
    | exact fr_end hret (num_p (by assumption) hy (by assumption)) (den_p (by assumption) hy (by assumption)) (by k_asm) (by k_asm) (by assumption)
    | exact fr_end hret (num_n (by assumption) (by assumption)) (den_n (by assumption) (by assumption)) (by k_asm) (by k_asm) (by assumption)
    | exact (Fits.no hy1 (by assumption) (by assumption) (by decide +kernel)).elim
    | exact (Fits.no (Fits.neg hy1) (by assumption) (by assumption) (by decide +kernel)).elim
    | exact (Fits.noA hx1 (by assumption) (by assumption) (by decide +kernel)).elim
    | exact (Fits.noA (Fits.neg hx1) (by assumption) (by assumption) (by decide +kernel)).elim
theorem fits_one : Fits 1 := Fits.of (n := 64) (PySem.intBits_le_64 (by omega) (by omega)) (by decide)
theorem fd_end {h₀ h' : Heap} {L D : Addr} {m : Str → Option Value} {news : List (Addr × Obj)} {s : Shared} {Q : Value → Shared → Prop} {x g : Int} {t t' : Tok} {c tk' : Nat}
    (hret : ∀ (D : Addr) (t t' : Tok) (c : Nat) (h' : Heap) (tk' : Nat), Fr h₀ L h' m → News h₀ L h' ((D, ({ cls := .type "tuple", data := .seq #[.int x t, .int 1 t'] c } : Obj)) :: news) → (∀ p ∈ news, p.1 < D) → Q (.ref D) { s with heap := h', toks := tk' })
    (e : g = ((Int.gcd x 1 : Nat) : Int)) (F : Fr h₀ L h' m) (N : News h₀ L h' ((D, ({ cls := .type "tuple", data := .seq #[.int (x.fdiv g) t, .int (Int.fdiv 1 g) t'] c } : Obj)) :: news)) (hl : ∀ p ∈ news, p.1 < D) : Q (.ref D) { s with heap := h', toks := tk' } := by
  have e1 : g = 1 := by rw [e, Int.gcd_one]; rfl
  subst e1
  rw [Int.fdiv_one, Int.fdiv_one] at N
  exact hret D t t' c h' tk' F N hl
theorem frac_d {w : World} {p : Program} {loose : List Str} {mean : ExcName → Option Value} {mg mb : Str → Option Value} (dp un : Nat) (gd : Option (List Code)) (cn : Str) (cs : Scope) (a : Addr) (ccd : Value) (cl : List (Str × Addr)) (outer : List Env) (A₀ : Around) (base h₀ : Heap) (L : Addr) (m : Str → Option Value) (news : List (Addr × Obj)) (s : Shared) (Q E : Value → Shared → Prop) (x : Int) (t1 : Tok)
    (B : Below A₀ base outer h₀) (F : Fr h₀ L s.heap m) (X : (HD.K w.params).In h₀) (N : News h₀ L s.heap news) (T : Top p loose mean mg mb h₀) (hk : cs.kind = .function)
    (hd : dp + 2 < recursionLimit) (hu : un + 16 < cLine) (hx1 : Fits x)
    (hret : ∀ (D : Addr) (t t' : Tok) (c : Nat) (h' : Heap) (tk' : Nat), Fr h₀ L h' m → News h₀ L h' ((D, ({ cls := .type "tuple", data := .seq #[.int x t, .int 1 t'] c } : Obj)) :: news) → (∀ p ∈ news, p.1 < D) → Q (.ref D) { s with heap := h', toks := tk' }) :
      wpAny (model PySem.Challenge.rw_ui0509_07.row.prog w) (ktrTop dp un gd cn cs L a ccd cl outer) (call (.ref 72) [.int x t1]) Q E s := by
  revert X; k_fill; intro X
  refine wpAny_call ?_
  k_dflt (refine' code_def ?k1 ?k2 ?k3 ?k4 ?k5 ?kA ?kF ?kK ?k6 ?k7 ?k8 ?k9 ?kB ?_ ?c2 ?c3 ?c4 ?c5; (case kA => exact rfl); (case kF => exact rfl); (case kK => assumption); (case k1 => k_asm); (case k2 => k_asm); (case k3 => k_asm); (case k4 => k_asm); (case k5 => k_asm); (case k6 => k_is); (case k7 => k_is); (case k8 => ktr_room); (case k9 => first | exact BindsTo.of_eq rfl | exact binds_K (by k_in) rfl (by k_is) rfl rfl rfl); (case c5 => decide); (case kB => exact locs rfl); (case c2 => exact rfl); (case c3 => exact rfl); (case c4 => exact rfl); k_whole; intro g' L' h' FG' F' N' B' X' T'; (try dsimp only); (try k_fold))
  k_steps
  all_goals first
    | exact fd_end hret (by assumption) (by k_asm) (by k_asm) (by assumption)
    | exact (Fits.no fits_one (by assumption) (by assumption) (by decide +kernel)).elim
    | exact (Fits.noA hx1 (by assumption) (by assumption) (by decide +kernel)).elim
theorem frac_use {w : World} {p : Program} {loose : List Str} {mean : ExcName → Option Value} {mg mb : Str → Option Value} {dp un : Nat} {gd : Option (List Code)} {cn : Str} {cs : Scope} {a : Addr} {ccd : Value} {cl : List (Str × Addr)} {outer : List Env} {A₀ : Around} {base h₀ : Heap} {L : Addr} {m : Str → Option Value} {news : List (Addr × Obj)} {s : Shared} {Q E : Value → Shared → Prop} {x y : Int} {t1 t2 : Tok} {nx ny : Nat}
    (B : Below A₀ base outer h₀) (F : Fr h₀ L s.heap m) (X : (HD.K w.params).In h₀) (N : News h₀ L s.heap news) (T : Top p loose mean mg mb h₀) (hk : cs.kind = .function)
    (hd : dp + 2 < recursionLimit) (hu : un + 16 < cLine) (hy : y ≠ 0) (hx1 : Builtin.Int.intBits x ≤ nx) (hy1 : Builtin.Int.intBits y ≤ ny) (hnx : nx ≤ 6643) (hny : ny ≤ 6643)
    (hret : ∀ (r : Rat) (D : Addr) (t t' : Tok) (c : Nat) (h' : Heap) (tk' : Nat), r = Rat.divInt x y → Builtin.Int.intBits r.num ≤ nx → Builtin.Int.intBits (r.den : Int) ≤ ny → Fr h₀ L h' m → News h₀ L h' ((D, RatO r t t' c) :: news) → (∀ p ∈ news, p.1 < D) → Q (.ref D) { s with heap := h', toks := tk' }) :
      wpAny (model PySem.Challenge.rw_ui0509_07.row.prog w) (ktrTop dp un gd cn cs L a ccd cl outer) (call (.ref 72) [.int x t1, .int y t2]) Q E s :=
  frac_c dp un gd cn cs a ccd cl outer A₀ base h₀ L m news s Q E x y t1 t2 B F X N T hk hd hu hy (Fits.of hx1 hnx) (Fits.of hy1 hny) fun r D t t' c h' tk' e F' N' l => hret r D t t' c h' tk' e (e ▸ bits_num hx1) (e ▸ bits_den hy hy1) F' N' l
theorem r_one_num (x : Int) : (Rat.divInt x 1).num = x := by rw [r_int]; rfl
theorem r_one_den (x : Int) : (Rat.divInt x 1).den = 1 := by rw [r_int]; rfl
theorem frac_one {w : World} {p : Program} {loose : List Str} {mean : ExcName → Option Value} {mg mb : Str → Option Value} {dp un : Nat} {gd : Option (List Code)} {cn : Str} {cs : Scope} {a : Addr} {ccd : Value} {cl : List (Str × Addr)} {outer : List Env} {A₀ : Around} {base h₀ : Heap} {L : Addr} {m : Str → Option Value} {news : List (Addr × Obj)} {s : Shared} {Q E : Value → Shared → Prop} {x : Int} {t1 t2 : Tok} {nx : Nat}
    (B : Below A₀ base outer h₀) (F : Fr h₀ L s.heap m) (X : (HD.K w.params).In h₀) (N : News h₀ L s.heap news) (T : Top p loose mean mg mb h₀) (hk : cs.kind = .function)
    (hd : dp + 2 < recursionLimit) (hu : un + 16 < cLine) (hx1 : Builtin.Int.intBits x ≤ nx) (hnx : nx ≤ 6643)
    (hret : ∀ (D : Addr) (t t' : Tok) (c : Nat) (h' : Heap) (tk' : Nat), Fr h₀ L h' m → News h₀ L h' ((D, ({ cls := .type "tuple", data := .seq #[.int x t, .int 1 t'] c } : Obj)) :: news) → (∀ p ∈ news, p.1 < D) → Q (.ref D) { s with heap := h', toks := tk' }) :
      wpAny (model PySem.Challenge.rw_ui0509_07.row.prog w) (ktrTop dp un gd cn cs L a ccd cl outer) (call (.ref 72) [.int x t1, .int 1 t2]) Q E s :=
  frac_c dp un gd cn cs a ccd cl outer A₀ base h₀ L m news s Q E x 1 t1 t2 B F X N T hk hd hu (by decide) (Fits.of hx1 hnx) (Fits.of (n := 64) (PySem.intBits_le_64 (by omega) (by omega)) (by decide)) fun r D t t' c h' tk' e F' N' l => hret D t t' c h' tk' F' (by
    subst e
    unfold RatO at N'
    rw [r_one_num, r_one_den] at N'
    exact N') l
theorem frac_dflt {w : World} {p : Program} {loose : List Str} {mean : ExcName → Option Value} {mg mb : Str → Option Value} {dp un : Nat} {gd : Option (List Code)} {cn : Str} {cs : Scope} {a : Addr} {ccd : Value} {cl : List (Str × Addr)} {outer : List Env} {A₀ : Around} {base h₀ : Heap} {L : Addr} {m : Str → Option Value} {news : List (Addr × Obj)} {s : Shared} {Q E : Value → Shared → Prop} {x : Int} {t1 : Tok} {nx : Nat}
    (B : Below A₀ base outer h₀) (F : Fr h₀ L s.heap m) (X : (HD.K w.params).In h₀) (N : News h₀ L s.heap news) (T : Top p loose mean mg mb h₀) (hk : cs.kind = .function)
    (hd : dp + 2 < recursionLimit) (hu : un + 16 < cLine) (hx1 : Builtin.Int.intBits x ≤ nx) (hnx : nx ≤ 6643)
    (hret : ∀ (D : Addr) (t t' : Tok) (c : Nat) (h' : Heap) (tk' : Nat), Fr h₀ L h' m → News h₀ L h' ((D, ({ cls := .type "tuple", data := .seq #[.int x t, .int 1 t'] c } : Obj)) :: news) → (∀ p ∈ news, p.1 < D) → Q (.ref D) { s with heap := h', toks := tk' }) :
      wpAny (model PySem.Challenge.rw_ui0509_07.row.prog w) (ktrTop dp un gd cn cs L a ccd cl outer) (call (.ref 72) [.int x t1]) Q E s :=
  frac_d dp un gd cn cs a ccd cl outer A₀ base h₀ L m news s Q E x t1 B F X N T hk hd hu (Fits.of hx1 hnx) hret
abbrev T2 (x y : Int) (t t' : Tok) (c : Nat) : Obj := { cls := .type "tuple", data := .seq #[.int x t, .int y t'] c }
theorem tup_g {prog : Program} {w : World} {A : Around} {E : Value → Shared → Prop} {s : Shared} {h₀ : Heap} {L D : Addr} {m : Str → Option Value} {lo : Obj} {value slice : Expr} {l : List Value} {n : Nat} {k : Int} {u : Tok} {j : Nat} {x : Value} {Q : Value → Shared → Prop}
    (F : Fr h₀ L s.heap m) (e : h₀.get? D = some lo) (hc : lo.cls = .type "tuple") (hd : lo.data = .seq l.toArray n) (hlo : -(2 ^ 63) ≤ k) (hhi : k < 2 ^ 63) (hj : seqIndex? k l.length = some j) (hx : l[j]? = some x) (h : Q x s)
    (hs : subscripted slice false (.ref D) (.int k u) = operate [.ref D, .int k u] (getItem (.ref D) (.int k u))) (hg : ∀ r, letTemporaryGo value (.ref D) r = pure ()) :
    wpAny (model prog w) A (subscriptTail value slice (.ref D) (.int k u)) Q E s := item_tupleL ⟨lo, F.keep _ _ e, hc, n, hd⟩ hlo hhi hj hx h hs hg
theorem bits_one : Builtin.Int.intBits 1 ≤ 1 := by decide
local macro_rules | `(tactic| walk_at "call ref") => `(tactic| (k_here; (with_reducible show wpAny _ _ (call (Value.ref 72) [Value.int _ _, Value.int _ _]) _ _ _); k_dflt (refine' frac_c _ _ _ _ _ _ _ _ _ _ _ _ _ _ _ _ _ _ _ _ _ _ ?k1 ?k2 ?k3 ?k4 ?k5 ?k6 ?k7 ?k8 ?k9 ?k10 ?k11 ?_; (case k1 => k_asm); (case k2 => k_asm); (case k3 => k_asm); (case k4 => k_asm); (case k5 => k_asm); (case k6 => first | exact rfl | assumption); (case k7 => ktr_room); (case k8 => ktr_units); (case k9 => assumption); (case k10 => assumption); (case k11 => assumption); k_whole); intro r' D' t' u' c' h' tk' rE' F' N' l1; (try k_sweep)))
local macro_rules | `(tactic| walk_at "binaryOp Mult int int") => `(tactic| (with_reducible refine mul_int ?_ ?mo; (case mo => assumption)))
local macro_rules | `(tactic| walk_at "subscriptTail") => `(tactic| (k_here; (with_reducible show wpAny _ _ (subscriptTail _ _ (Value.ref _) (Value.int _ _)) _ _ _); k_dflt (refine' tup_g ?k1 ?k2 ?k3 ?k4 ?k5 ?k6 ?k7 ?k8 ?_ ?k9 ?k10; (case k1 => k_asm); (case k2 => with_reducible assumption); (case k3 => exact rfl); (case k4 => exact rfl); (case k5 => decide); (case k6 => decide); (case k7 => exact rfl); (case k8 => exact rfl); (case k9 => with_unfolding_all rfl); (case k10 => (intro _; with_unfolding_all rfl)); k_whole)))
theorem plus_c {w : World} {p : Program} {loose : List Str} {mean : ExcName → Option Value} {mg mb : Str → Option Value} {dp un : Nat} {gd : Option (List Code)} {cn : Str} {cs : Scope} {a : Addr} {ccd : Value} {cl : List (Str × Addr)} {outer : List Env} {A₀ : Around} {base h₀ : Heap} {L : Addr} {m : Str → Option Value} {news : List (Addr × Obj)} {s : Shared} {Q E : Value → Shared → Prop} {D1 D2 : Addr} {x1 y1 x2 y2 : Int} {t1 t1' t2 t2' : Tok} {c1 c2 : Nat}
    (B : Below A₀ base outer h₀) (F : Fr h₀ L s.heap m) (X : (HD.K w.params).In h₀) (N : News h₀ L s.heap news) (T : Top p loose mean mg mb h₀) (hk : cs.kind = .function) (e1 : s.heap.get? D1 = some (T2 x1 y1 t1 t1' c1)) (e2 : s.heap.get? D2 = some (T2 x2 y2 t2 t2' c2))
    (hd : dp + 3 < recursionLimit) (hu : un + 24 < cLine) (nz : y1 * y2 ≠ 0) (m0 : IntMulOk x1 y2) (m1 : IntMulOk x2 y1) (m2 : IntMulOk y1 y2) (f1 : Fits (x1 * y2 + x2 * y1)) (f2 : Fits (y1 * y2))
    (hret : ∀ (r : Rat) (D : Addr) (t t' : Tok) (c : Nat) (h' : Heap) (tk' : Nat), r = Rat.divInt (x1 * y2 + x2 * y1) (y1 * y2) → Fr h₀ L h' m → News h₀ L h' ((D, RatO r t t' c) :: news) → (∀ p ∈ news, p.1 ≠ D) → Q (.ref D) { s with heap := h', toks := tk' }) :
    wpAny (model PySem.Challenge.rw_ui0509_07.row.prog w) (ktrTop dp un gd cn cs L a ccd cl outer) (call (.ref 87) [.ref D1, .ref D2]) Q E s := by
  w_top off
  revert X; k_fill; intro X
  refine wpAny_call ?_
  k_dflt (refine' code_need [] ?k1 ?k2 ?k3 ?k4 ?k5 ?kA ?kF ?kK ?k6 ?k7 ?k8 ?k9 ?kB ?kN ?_ ?c2 ?c3 ?c4 ?c5; (case kA => exact rfl); (case kF => exact rfl); (case kK => assumption); (case k1 => k_asm); (case k2 => k_asm); (case k3 => k_asm); (case k4 => k_asm); (case k5 => k_asm); (case k6 => k_is); (case k7 => k_is); (case k8 => ktr_room); (case k9 => first | exact BindsTo.of_eq rfl | exact binds_K (by k_in) rfl (by k_is) rfl rfl rfl); (case c5 => decide); (case kB => exact locs rfl); (case kN => exact fun _ h => nomatch h); (case c2 => exact rfl); (case c3 => exact rfl); (case c4 => exact rfl); k_whole; intro g' L' h' tk0 FG' F' N' B' X' T' hG'; (try dsimp only); (try k_fold))
  replace e1 := hG' _ _ e1 (by simp)
  replace e2 := hG' _ _ e2 (by simp)
  k_steps
  all_goals first | (refine leaveN_ (by k_asm) (by k_asm) ?_; intro kF kN kR kD; (try dsimp only); exact hret _ _ _ _ _ _ _ (by assumption) kF (news_cons kN (by k_mem) (news_all kR)) (ne_all kD (List.mem_cons_self ..)))
theorem times_c {w : World} {p : Program} {loose : List Str} {mean : ExcName → Option Value} {mg mb : Str → Option Value} {dp un : Nat} {gd : Option (List Code)} {cn : Str} {cs : Scope} {a : Addr} {ccd : Value} {cl : List (Str × Addr)} {outer : List Env} {A₀ : Around} {base h₀ : Heap} {L : Addr} {m : Str → Option Value} {news : List (Addr × Obj)} {s : Shared} {Q E : Value → Shared → Prop} {D1 D2 : Addr} {x1 y1 x2 y2 : Int} {t1 t1' t2 t2' : Tok} {c1 c2 : Nat}
    (B : Below A₀ base outer h₀) (F : Fr h₀ L s.heap m) (X : (HD.K w.params).In h₀) (N : News h₀ L s.heap news) (T : Top p loose mean mg mb h₀) (hk : cs.kind = .function) (e1 : s.heap.get? D1 = some (T2 x1 y1 t1 t1' c1)) (e2 : s.heap.get? D2 = some (T2 x2 y2 t2 t2' c2))
    (hd : dp + 3 < recursionLimit) (hu : un + 24 < cLine) (nz : y1 * y2 ≠ 0) (m0 : IntMulOk x1 x2) (m1 : IntMulOk y1 y2) (f1 : Fits (x1 * x2)) (f2 : Fits (y1 * y2))
    (hret : ∀ (r : Rat) (D : Addr) (t t' : Tok) (c : Nat) (h' : Heap) (tk' : Nat), r = Rat.divInt (x1 * x2) (y1 * y2) → Fr h₀ L h' m → News h₀ L h' ((D, RatO r t t' c) :: news) → (∀ p ∈ news, p.1 ≠ D) → Q (.ref D) { s with heap := h', toks := tk' }) :
    wpAny (model PySem.Challenge.rw_ui0509_07.row.prog w) (ktrTop dp un gd cn cs L a ccd cl outer) (call (.ref 94) [.ref D1, .ref D2]) Q E s := by
  w_top off
  revert X; k_fill; intro X
  refine wpAny_call ?_
  k_dflt (refine' code_need [] ?k1 ?k2 ?k3 ?k4 ?k5 ?kA ?kF ?kK ?k6 ?k7 ?k8 ?k9 ?kB ?kN ?_ ?c2 ?c3 ?c4 ?c5; (case kA => exact rfl); (case kF => exact rfl); (case kK => assumption); (case k1 => k_asm); (case k2 => k_asm); (case k3 => k_asm); (case k4 => k_asm); (case k5 => k_asm); (case k6 => k_is); (case k7 => k_is); (case k8 => ktr_room); (case k9 => first | exact BindsTo.of_eq rfl | exact binds_K (by k_in) rfl (by k_is) rfl rfl rfl); (case c5 => decide); (case kB => exact locs rfl); (case kN => exact fun _ h => nomatch h); (case c2 => exact rfl); (case c3 => exact rfl); (case c4 => exact rfl); k_whole; intro g' L' h' tk0 FG' F' N' B' X' T' hG'; (try dsimp only); (try k_fold))
  replace e1 := hG' _ _ e1 (by simp)
  replace e2 := hG' _ _ e2 (by simp)
  k_steps
  all_goals first | (refine leaveN_ (by k_asm) (by k_asm) ?_; intro kF kN kR kD; (try dsimp only); exact hret _ _ _ _ _ _ _ (by assumption) kF (news_cons kN (by k_mem) (news_all kR)) (ne_all kD (List.mem_cons_self ..)))
theorem less_c {w : World} {p : Program} {loose : List Str} {mean : ExcName → Option Value} {mg mb : Str → Option Value} {dp un : Nat} {gd : Option (List Code)} {cn : Str} {cs : Scope} {a : Addr} {ccd : Value} {cl : List (Str × Addr)} {outer : List Env} {A₀ : Around} {base h₀ : Heap} {L : Addr} {m : Str → Option Value} {news : List (Addr × Obj)} {s : Shared} {Q E : Value → Shared → Prop} {D1 D2 : Addr} {x1 y1 x2 y2 : Int} {t1 t1' t2 t2' : Tok} {c1 c2 : Nat}
    (B : Below A₀ base outer h₀) (F : Fr h₀ L s.heap m) (X : (HD.K w.params).In h₀) (N : News h₀ L s.heap news) (T : Top p loose mean mg mb h₀) (hk : cs.kind = .function) (e1 : s.heap.get? D1 = some (T2 x1 y1 t1 t1' c1)) (e2 : s.heap.get? D2 = some (T2 x2 y2 t2 t2' c2))
    (hd : dp + 3 < recursionLimit) (hu : un + 24 < cLine) (m0 : IntMulOk x1 y2) (m1 : IntMulOk x2 y1)
    (hret : ∀ (h' : Heap) (tk' : Nat), Fr h₀ L h' m → News h₀ L h' news → Q (.bool (decide (x1 * y2 < x2 * y1))) { s with heap := h', toks := tk' }) :
    wpAny (model PySem.Challenge.rw_ui0509_07.row.prog w) (ktrTop dp un gd cn cs L a ccd cl outer) (call (.ref 101) [.ref D1, .ref D2]) Q E s := by
  w_top off
  revert X; k_fill; intro X
  refine wpAny_call ?_
  k_dflt (refine' code_need [] ?k1 ?k2 ?k3 ?k4 ?k5 ?kA ?kF ?kK ?k6 ?k7 ?k8 ?k9 ?kB ?kN ?_ ?c2 ?c3 ?c4 ?c5; (case kA => exact rfl); (case kF => exact rfl); (case kK => assumption); (case k1 => k_asm); (case k2 => k_asm); (case k3 => k_asm); (case k4 => k_asm); (case k5 => k_asm); (case k6 => k_is); (case k7 => k_is); (case k8 => ktr_room); (case k9 => first | exact BindsTo.of_eq rfl | exact binds_K (by k_in) rfl (by k_is) rfl rfl rfl); (case c5 => decide); (case kB => exact locs rfl); (case kN => exact fun _ h => nomatch h); (case c2 => exact rfl); (case c3 => exact rfl); (case c4 => exact rfl); k_whole; intro g' L' h' tk0 FG' F' N' B' X' T' hG'; (try dsimp only); (try k_fold))
  replace e1 := hG' _ _ e1 (by simp)
  replace e2 := hG' _ _ e2 (by simp)
  k_steps
  all_goals (refine leaveN_ (by k_asm) (by k_asm) ?_; intro kF kN kR kD; (try dsimp only); exact hret _ _ kF (news_all kR))
theorem plus_u {w : World} {p : Program} {loose : List Str} {mean : ExcName → Option Value} {mg mb : Str → Option Value} {dp un : Nat} {gd : Option (List Code)} {cn : Str} {cs : Scope} {a : Addr} {ccd : Value} {cl : List (Str × Addr)} {outer : List Env} {A₀ : Around} {base h₀ : Heap} {L : Addr} {m : Str → Option Value} {news : List (Addr × Obj)} {s : Shared} {Q E : Value → Shared → Prop} {D1 D2 : Addr} {x1 y1 x2 y2 : Int} {t1 t1' t2 t2' : Tok} {c1 c2 : Nat} {n1 k1 n2 k2 : Nat}
    (B : Below A₀ base outer h₀) (F : Fr h₀ L s.heap m) (X : (HD.K w.params).In h₀) (N : News h₀ L s.heap news) (T : Top p loose mean mg mb h₀) (hk : cs.kind = .function) (e1 : s.heap.get? D1 = some (T2 x1 y1 t1 t1' c1)) (e2 : s.heap.get? D2 = some (T2 x2 y2 t2 t2' c2))
    (hd : dp + 3 < recursionLimit) (hu : un + 24 < cLine) (hy : y1 ≠ 0) (hz : y2 ≠ 0) (b1 : Builtin.Int.intBits x1 ≤ n1) (b2 : Builtin.Int.intBits y1 ≤ k1) (b3 : Builtin.Int.intBits x2 ≤ n2) (b4 : Builtin.Int.intBits y2 ≤ k2) (hbu : max (n1 + k2) (n2 + k1) + 1 ≤ 6643) (hbl : k1 + k2 ≤ 6643)
    (hret : ∀ (r : Rat) (D : Addr) (t t' : Tok) (c : Nat) (h' : Heap) (tk' : Nat), r = Rat.divInt (x1 * y2 + x2 * y1) (y1 * y2) → Builtin.Int.intBits r.num ≤ max (n1 + k2) (n2 + k1) + 1 → Builtin.Int.intBits (r.den : Int) ≤ k1 + k2 → Fr h₀ L h' m → News h₀ L h' ((D, RatO r t t' c) :: news) → (∀ p ∈ news, p.1 ≠ D) → Q (.ref D) { s with heap := h', toks := tk' }) :
    wpAny (model PySem.Challenge.rw_ui0509_07.row.prog w) (ktrTop dp un gd cn cs L a ccd cl outer) (call (.ref 87) [.ref D1, .ref D2]) Q E s :=
  plus_c B F X N T hk e1 e2 hd hu (nzmul hy hz) (mulOk_of_bits b1 b4 (by omega)) (mulOk_of_bits b3 b2 (by omega)) (mulOk_of_bits b2 b4 (by omega)) (Fits.of (bits_add (bits_mul b1 b4) (bits_mul b3 b2)) hbu) (Fits.of (bits_mul b2 b4) hbl) fun r D t t' c h' tk' e F' N' l => hret r D t t' c h' tk' e (e ▸ bits_num (bits_add (bits_mul b1 b4) (bits_mul b3 b2))) (e ▸ bits_den (nzmul hy hz) (bits_mul b2 b4)) F' N' l
theorem times_u {w : World} {p : Program} {loose : List Str} {mean : ExcName → Option Value} {mg mb : Str → Option Value} {dp un : Nat} {gd : Option (List Code)} {cn : Str} {cs : Scope} {a : Addr} {ccd : Value} {cl : List (Str × Addr)} {outer : List Env} {A₀ : Around} {base h₀ : Heap} {L : Addr} {m : Str → Option Value} {news : List (Addr × Obj)} {s : Shared} {Q E : Value → Shared → Prop} {D1 D2 : Addr} {x1 y1 x2 y2 : Int} {t1 t1' t2 t2' : Tok} {c1 c2 : Nat} {n1 k1 n2 k2 : Nat}
    (B : Below A₀ base outer h₀) (F : Fr h₀ L s.heap m) (X : (HD.K w.params).In h₀) (N : News h₀ L s.heap news) (T : Top p loose mean mg mb h₀) (hk : cs.kind = .function) (e1 : s.heap.get? D1 = some (T2 x1 y1 t1 t1' c1)) (e2 : s.heap.get? D2 = some (T2 x2 y2 t2 t2' c2))
    (hd : dp + 3 < recursionLimit) (hu : un + 24 < cLine) (hy : y1 ≠ 0) (hz : y2 ≠ 0) (b1 : Builtin.Int.intBits x1 ≤ n1) (b2 : Builtin.Int.intBits y1 ≤ k1) (b3 : Builtin.Int.intBits x2 ≤ n2) (b4 : Builtin.Int.intBits y2 ≤ k2) (hbu : n1 + n2 ≤ 6643) (hbl : k1 + k2 ≤ 6643)
    (hret : ∀ (r : Rat) (D : Addr) (t t' : Tok) (c : Nat) (h' : Heap) (tk' : Nat), r = Rat.divInt (x1 * x2) (y1 * y2) → Builtin.Int.intBits r.num ≤ n1 + n2 → Builtin.Int.intBits (r.den : Int) ≤ k1 + k2 → Fr h₀ L h' m → News h₀ L h' ((D, RatO r t t' c) :: news) → (∀ p ∈ news, p.1 ≠ D) → Q (.ref D) { s with heap := h', toks := tk' }) :
    wpAny (model PySem.Challenge.rw_ui0509_07.row.prog w) (ktrTop dp un gd cn cs L a ccd cl outer) (call (.ref 94) [.ref D1, .ref D2]) Q E s :=
  times_c B F X N T hk e1 e2 hd hu (nzmul hy hz) (mulOk_of_bits b1 b3 (by omega)) (mulOk_of_bits b2 b4 (by omega)) (Fits.of (bits_mul b1 b3) hbu) (Fits.of (bits_mul b2 b4) hbl) fun r D t t' c h' tk' e F' N' l => hret r D t t' c h' tk' e (e ▸ bits_num (bits_mul b1 b3)) (e ▸ bits_den (nzmul hy hz) (bits_mul b2 b4)) F' N' l
theorem frac_sf {w : World} {p : Program} {loose : List Str} {mean : ExcName → Option Value} {mg mb : Str → Option Value} {dp un : Nat} {gd : Option (List Code)} {cn : Str} {cs : Scope} {a : Addr} {ccd : Value} {cl : List (Str × Addr)} {outer : List Env} {A₀ : Around} {base h₀ : Heap} {L : Addr} {m : Str → Option Value} {news : List (Addr × Obj)} {s : Shared} {Q E : Value → Shared → Prop} {r : Rat} {t1 t2 : Tok}
    (B : Below A₀ base outer h₀) (F : Fr h₀ L s.heap m) (X : (HD.K w.params).In h₀) (N : News h₀ L s.heap news) (T : Top p loose mean mg mb h₀) (hk : cs.kind = .function)
    (hd : dp + 2 < recursionLimit) (hu : un + 16 < cLine) (hx1 : Fits r.num) (hy1 : Fits (r.den : Int))
    (hret : ∀ (D : Addr) (t t' : Tok) (c : Nat) (h' : Heap) (tk' : Nat), Fr h₀ L h' m → News h₀ L h' ((D, RatO r t t' c) :: news) → (∀ p ∈ news, p.1 < D) → Q (.ref D) { s with heap := h', toks := tk' }) :
    wpAny (model PySem.Challenge.rw_ui0509_07.row.prog w) (ktrTop dp un gd cn cs L a ccd cl outer) (call (.ref 72) [.int r.num t1, .int (r.den : Int) t2]) Q E s :=
  frac_c dp un gd cn cs a ccd cl outer A₀ base h₀ L m news s Q E r.num r.den t1 t2 B F X N T hk hd hu (nzden r) hx1 hy1 fun r' D t t' c h' tk' e F' N' l => hret D t t' c h' tk' F' (by
    rw [Rat.num_divInt_den] at e
    subst e
    exact N') l
theorem ne_T2h {prog : Program} {w : World} {A : Around} {E : Value → Shared → Prop} {s : Shared} {D1 D2 : Addr} {x1 y1 x2 y2 : Int} {t1 t1' t2 t2' : Tok} {c1 c2 : Nat} {Q : Value → Shared → Prop}
    (e1 : s.heap.get? D1 = some (T2 x1 y1 t1 t1' c1)) (e2 : s.heap.get? D2 = some (T2 x2 y2 t2 t2' c2)) (hu : A.units + 64 < cLine) (h : Q (.bool (!(x1 == x2 && y1 == y2))) s) : wpAny (model prog w) A (compareOp .NotEq (.ref D1) (.ref D2)) Q E s := by
  refine ne_dataH (reads_tuple_at e1 rfl rfl (ReadsAll.cons (Reads.int _ _) (ReadsAll.cons (Reads.int _ _) ReadsAll.nil))) (reads_tuple_at e2 rfl rfl (ReadsAll.cons (Reads.int _ _) (ReadsAll.cons (Reads.int _ _) ReadsAll.nil))) (by ke_shaped) (by ke_shaped) hu ?_
  ke_norm
  exact h
local macro_rules | `(tactic| walk_at "call type:type") => `(tactic| (k_here; (with_reducible show wpAny _ _ (call (Value.type "type") [Value.ref _]) _ _ _); k_dflt (refine' kto_cont (T := "tuple") ?c ?n ?_; (case c => exact ⟨_, Fr.keep (by k_asm) _ _ (by assumption), rfl⟩); (case n => decide +kernel); k_whole)))
local macro_rules | `(tactic| walk_at "call builtin:len") => `(tactic| (k_here; (with_reducible show wpAny _ _ (call (Value.builtin "len") [Value.ref _]) _ _ _); k_dflt (refine' kun_lenT (k := 2) ?k1 ?k2 ?k3 ?_; (case k1 => exact ⟨_, Fr.keep (by k_asm) _ _ (by assumption), rfl, _, rfl⟩); (case k2 => exact rfl); (case k3 => decide); k_whole)))
local macro_rules | `(tactic| walk_at "call ref") => `(tactic| (k_here; (with_reducible show wpAny _ _ (call (Value.ref 72) [Value.int _ _, Value.int _ _]) _ _ _); k_dflt (refine' frac_sf ?k1 ?k2 ?k3 ?k4 ?k5 ?k6 ?k7 ?k8 ?k10 ?k11 ?_; (case k1 => k_asm); (case k2 => k_asm); (case k3 => k_asm); (case k4 => k_asm); (case k5 => k_asm); (case k6 => first | exact rfl | assumption); (case k7 => ktr_room); (case k8 => ktr_units); (case k10 => assumption); (case k11 => assumption); k_whole); intro D' t' u' c' h' tk' F' N' l1; (try k_sweep)))
local macro_rules | `(tactic| walk_at "call ref") => `(tactic| (k_here; (with_reducible show wpAny _ _ (call (Value.ref 101) [Value.ref _, Value.ref _]) _ _ _); k_dflt (refine' less_c ?k1 ?k2 ?k3 ?k4 ?k5 ?k6 ?m1 ?m2 ?k7 ?k8 ?k10 ?k11 ?_; (case k1 => k_asm); (case k2 => k_asm); (case k3 => k_asm); (case k4 => k_asm); (case k5 => k_asm); (case k6 => first | exact rfl | assumption); (case m1 => exact Fr.keep (by k_asm) _ _ (by with_reducible assumption)); (case m2 => exact Fr.keep (by k_asm) _ _ (by with_reducible assumption)); (case k7 => ktr_room); (case k8 => ktr_units); (case k10 => assumption); (case k11 => assumption); k_whole); intro h' tk' F' N'; (try k_sweep)))
local macro_rules | `(tactic| walk_at "compareOp NotEq ref ref") => `(tactic| (k_here; (with_reducible show wpAny _ _ (compareOp CmpOp.NotEq (Value.ref _) (Value.ref _)) _ _ _); k_dflt (refine' ne_T2h ?k2 ?k3 ?k4 ?_; (case k2 => first | exact Fr.keep (by k_asm) _ _ (by with_reducible assumption) | exact News.get (by k_asm) (by k_mem)); (case k3 => first | exact Fr.keep (by k_asm) _ _ (by with_reducible assumption) | exact News.get (by k_asm) (by k_mem)); (case k4 => first | exact Nat.le_of_ble_eq_true rfl | ktr_units)); (try simp only [beq_self_eq_true, Bool.and_true, Bool.true_and, Bool.not_true, Bool.not_false])))
theorem need_c {w : World} {p : Program} {loose : List Str} {mean : ExcName → Option Value} {mg mb : Str → Option Value} {dp un : Nat} {gd : Option (List Code)} {cn : Str} {cs : Scope} {a : Addr} {ccd : Value} {cl : List (Str × Addr)} {outer : List Env} {A₀ : Around} {base h₀ : Heap} {L : Addr} {m : Str → Option Value} {news : List (Addr × Obj)} {s : Shared} {Q E : Value → Shared → Prop} {D1 : Addr} {r : Rat} {t1 t1' : Tok} {c1 : Nat}
    (B : Below A₀ base outer h₀) (F : Fr h₀ L s.heap m) (X : (HD.K w.params).In h₀) (N : News h₀ L s.heap news) (T : Top p loose mean mg mb h₀) (hk : cs.kind = .function) (e1 : s.heap.get? D1 = some (RatO r t1 t1' c1))
    (hd : dp + 4 < recursionLimit) (hu : un + 100 < cLine) (hx1 : Fits r.num) (hy1 : Fits (r.den : Int))
    (hret : ∀ (h' : Heap) (tk' : Nat), Fr h₀ L h' m → News h₀ L h' news → Q (.ref D1) { s with heap := h', toks := tk' }) :
    wpAny (model PySem.Challenge.rw_ui0509_07.row.prog w) (ktrTop dp un gd cn cs L a ccd cl outer) (call (.ref 80) [.ref D1]) Q E s := by
  w_top off
  revert X; k_fill; intro X
  refine wpAny_call ?_
  k_dflt (refine' code_need [] ?k1 ?k2 ?k3 ?k4 ?k5 ?kA ?kF ?kK ?k6 ?k7 ?k8 ?k9 ?kB ?kN ?_ ?c2 ?c3 ?c4 ?c5; (case kA => exact rfl); (case kF => exact rfl); (case kK => assumption); (case k1 => k_asm); (case k2 => k_asm); (case k3 => k_asm); (case k4 => k_asm); (case k5 => k_asm); (case k6 => k_is); (case k7 => k_is); (case k8 => ktr_room); (case k9 => first | exact BindsTo.of_eq rfl | exact binds_K (by k_in) rfl (by k_is) rfl rfl rfl); (case c5 => decide); (case kB => exact locs rfl); (case kN => exact fun _ h => nomatch h); (case c2 => exact rfl); (case c3 => exact rfl); (case c4 => exact rfl); k_whole; intro g' L' h' tk0 FG' F' N' B' X' T' hG'; (try dsimp only); (try k_fold))
  replace e1 := hG' _ _ e1 (by simp)
  k_steps
  all_goals (refine leaveN_ (by k_asm) (by k_asm) ?_; intro kF kN kR kD; (try dsimp only); exact hret _ _ kF (news_all kR))
theorem need_cz {w : World} {p : Program} {loose : List Str} {mean : ExcName → Option Value} {mg mb : Str → Option Value} {dp un : Nat} {gd : Option (List Code)} {cn : Str} {cs : Scope} {a : Addr} {ccd : Value} {cl : List (Str × Addr)} {outer : List Env} {A₀ : Around} {base h₀ : Heap} {L : Addr} {m : Str → Option Value} {news : List (Addr × Obj)} {s : Shared} {Q E : Value → Shared → Prop} {D1 : Addr} {x1 : Int} {t1 t1' : Tok} {c1 : Nat} {nx : Nat}
    (B : Below A₀ base outer h₀) (F : Fr h₀ L s.heap m) (X : (HD.K w.params).In h₀) (N : News h₀ L s.heap news) (T : Top p loose mean mg mb h₀) (hk : cs.kind = .function) (e1 : s.heap.get? D1 = some (T2 x1 1 t1 t1' c1))
    (hd : dp + 4 < recursionLimit) (hu : un + 100 < cLine) (b1 : Builtin.Int.intBits x1 ≤ nx) (hnx : nx ≤ 6643)
    (hret : ∀ (h' : Heap) (tk' : Nat), Fr h₀ L h' m → News h₀ L h' news → Q (.ref D1) { s with heap := h', toks := tk' }) :
    wpAny (model PySem.Challenge.rw_ui0509_07.row.prog w) (ktrTop dp un gd cn cs L a ccd cl outer) (call (.ref 80) [.ref D1]) Q E s :=
  need_c (r := (x1 : Rat)) (t1 := t1) (t1' := t1') (c1 := c1) B F X N T hk e1 hd hu (Fits.of b1 hnx) fits_one hret
structure Bd (n : Nat) (r : Rat) : Prop where
  num : Builtin.Int.intBits r.num ≤ n
  den : Builtin.Int.intBits (r.den : Int) ≤ n
theorem Bd.mono {n k : Nat} {r : Rat} (h : Bd n r) (hk : n ≤ k) : Bd k r := ⟨Nat.le_trans h.num hk, Nat.le_trans h.den hk⟩
theorem Bd.int {n : Nat} {x : Int} (h : Builtin.Int.intBits x ≤ n) (h1 : 1 ≤ n) : Bd n (x : Rat) := ⟨h, Nat.le_trans bits_one h1⟩
theorem bits_zero : Builtin.Int.intBits 0 ≤ 1 := by decide
theorem Bd.zero {n : Nat} (h : 1 ≤ n) : Bd n (0 : Rat) := Bd.int (x := 0) (Nat.le_trans bits_zero h) h
theorem plus_r {w : World} {p : Program} {loose : List Str} {mean : ExcName → Option Value} {mg mb : Str → Option Value} {dp un : Nat} {gd : Option (List Code)} {cn : Str} {cs : Scope} {a : Addr} {ccd : Value} {cl : List (Str × Addr)} {outer : List Env} {A₀ : Around} {base h₀ : Heap} {L : Addr} {m : Str → Option Value} {news : List (Addr × Obj)} {s : Shared} {Q E : Value → Shared → Prop} {D1 D2 : Addr} {r1 r2 : Rat} {t1 t1' t2 t2' : Tok} {c1 c2 n k : Nat}
    (B : Below A₀ base outer h₀) (F : Fr h₀ L s.heap m) (X : (HD.K w.params).In h₀) (N : News h₀ L s.heap news) (T : Top p loose mean mg mb h₀) (hk : cs.kind = .function) (e1 : s.heap.get? D1 = some (RatO r1 t1 t1' c1)) (e2 : s.heap.get? D2 = some (RatO r2 t2 t2' c2))
    (hd : dp + 3 < recursionLimit) (hu : un + 24 < cLine) (b1 : Bd n r1) (b2 : Bd k r2) (hb : n + k + 1 ≤ 6643)
    (hret : ∀ (D : Addr) (t t' : Tok) (c : Nat) (h' : Heap) (tk' : Nat), Bd (n + k + 1) (r1 + r2) → Fr h₀ L h' m → News h₀ L h' ((D, RatO (r1 + r2) t t' c) :: news) → (∀ p ∈ news, p.1 ≠ D) → Q (.ref D) { s with heap := h', toks := tk' }) :
    wpAny (model PySem.Challenge.rw_ui0509_07.row.prog w) (ktrTop dp un gd cn cs L a ccd cl outer) (call (.ref 87) [.ref D1, .ref D2]) Q E s :=
  plus_u B F X N T hk e1 e2 hd hu (nzden r1) (nzden r2) b1.num b1.den b2.num b2.den (by omega) (by omega) fun r D t t' c h' tk' e bn bd F' N' l => by
    have e' : r = r1 + r2 := e.trans (r_plus r1 r2)
    subst e'
    exact hret D t t' c h' tk' ⟨Nat.le_trans bn (by omega), Nat.le_trans bd (by omega)⟩ F' N' l
theorem times_r {w : World} {p : Program} {loose : List Str} {mean : ExcName → Option Value} {mg mb : Str → Option Value} {dp un : Nat} {gd : Option (List Code)} {cn : Str} {cs : Scope} {a : Addr} {ccd : Value} {cl : List (Str × Addr)} {outer : List Env} {A₀ : Around} {base h₀ : Heap} {L : Addr} {m : Str → Option Value} {news : List (Addr × Obj)} {s : Shared} {Q E : Value → Shared → Prop} {D1 D2 : Addr} {r1 r2 : Rat} {t1 t1' t2 t2' : Tok} {c1 c2 n k : Nat}
    (B : Below A₀ base outer h₀) (F : Fr h₀ L s.heap m) (X : (HD.K w.params).In h₀) (N : News h₀ L s.heap news) (T : Top p loose mean mg mb h₀) (hk : cs.kind = .function) (e1 : s.heap.get? D1 = some (RatO r1 t1 t1' c1)) (e2 : s.heap.get? D2 = some (RatO r2 t2 t2' c2))
    (hd : dp + 3 < recursionLimit) (hu : un + 24 < cLine) (b1 : Bd n r1) (b2 : Bd k r2) (hb : n + k ≤ 6643)
    (hret : ∀ (D : Addr) (t t' : Tok) (c : Nat) (h' : Heap) (tk' : Nat), Bd (n + k) (r1 * r2) → Fr h₀ L h' m → News h₀ L h' ((D, RatO (r1 * r2) t t' c) :: news) → (∀ p ∈ news, p.1 ≠ D) → Q (.ref D) { s with heap := h', toks := tk' }) :
    wpAny (model PySem.Challenge.rw_ui0509_07.row.prog w) (ktrTop dp un gd cn cs L a ccd cl outer) (call (.ref 94) [.ref D1, .ref D2]) Q E s :=
  times_u B F X N T hk e1 e2 hd hu (nzden r1) (nzden r2) b1.num b1.den b2.num b2.den (by omega) (by omega) fun r D t t' c h' tk' e bn bd F' N' l => by
    have e' : r = r1 * r2 := e.trans (r_times r1 r2)
    subst e'
    exact hret D t t' c h' tk' ⟨Nat.le_trans bn (by omega), Nat.le_trans bd (by omega)⟩ F' N' l
-- pairs of lists
inductive All2 {α β : Type} (R : α → β → Prop) : List α → List β → Prop
  | nil : All2 R [] []
  | cons {a : α} {b : β} {as : List α} {bs : List β} : R a b → All2 R as bs → All2 R (a :: as) (b :: bs)
section
variable {α β : Type} {R S : α → β → Prop} {as cs : List α} {bs ds : List β} {a : α} {b : β}
theorem All2.length (h : All2 R as bs) : as.length = bs.length := by
  induction h with
  | nil => rfl
  | cons _ _ ih => rw [List.length_cons, List.length_cons, ih]
theorem All2.mono (hs : ∀ a b, R a b → S a b) (h : All2 R as bs) : All2 S as bs := by
  induction h with
  | nil => exact .nil
  | cons h _ ih => exact .cons (hs _ _ h) ih
theorem All2.append (h : All2 R as bs) (k : All2 R cs ds) : All2 R (as ++ cs) (bs ++ ds) := by
  induction h with
  | nil => exact k
  | cons h _ ih => exact .cons h ih
theorem All2.snoc (h : All2 R as bs) (k : R a b) : All2 R (as ++ [a]) (bs ++ [b]) := h.append (.cons k .nil)
theorem All2.get (h : All2 R as bs) {i : Nat} (ha : as[i]? = some a) : ∃ b, bs[i]? = some b ∧ R a b := by
  induction h generalizing i with
  | nil => simp at ha
  | cons h _ ih =>
    cases i with
    | zero => exact ⟨_, rfl, by simp at ha; rw [← ha]; exact h⟩
    | succ i => exact ih (by simpa using ha)
theorem All2.at (h : All2 R as bs) {i : Nat} (hb : bs[i]? = some b) : ∃ a, as[i]? = some a ∧ R a b := by
  induction h generalizing i with
  | nil => simp at hb
  | cons h _ ih =>
    cases i with
    | zero => exact ⟨_, rfl, by simp at hb; rw [← hb]; exact h⟩
    | succ i => exact ih (by simpa using hb)
end
-- a loop's turns by an invariant (over the ItemsRest of KE.KTurns)
section
variable {prog : Program} {w : World} {A : Around} {E : Value → Shared → Prop} {s : Shared} {env : Env} {h₀ : Heap} {target : Expr} {body : List Stmt} {Q : Flow → Shared → Prop}
theorem items_ind {I : Addr} {cl : String} {keep : List (Addr × Obj)} {xs : List Itm} (J : Nat → (Str → Option Value) → List (Addr × Obj) → Prop)
    (turn : ∀ i a v m news h tk (o : Obj), xs[i]? = some a → SubL keep news → (∀ p ∈ news, p.1 ≠ I) → J i m news → a.Is v h → Fr h₀ env.locals h m → o.cls = .type cl → News h₀ env.locals h ((I, o) :: news) →
      wpAny (model prog w) A (assign target env v) (fun _ s₂ => wpAny (model prog w) A (execs body env) (UnrPostW h₀ env.locals { s with heap := h, toks := tk } [(I, o)] (fun m' n' => SubL keep n' ∧ J (i + 1) m' n') Q) E s₂) E { s with heap := h, toks := tk })
    (done : ∀ m news h tk, J xs.length m news → Fr h₀ env.locals h m → News h₀ env.locals h news → Q .next { s with heap := h, toks := tk }) :
    ∀ (ys : List Itm) (i : Nat) (m : Str → Option Value) (news : List (Addr × Obj)), xs.drop i = ys → i ≤ xs.length → SubL keep news → (∀ p ∈ news, p.1 ≠ I) → J i m news → ItemsRest prog w A E h₀ env target body Q s [(I, cl)] keep ys m news := by
  intro ys
  induction ys with
  | nil =>
    intro i m news hd hi _ _ hJ h tk F N
    have : i = xs.length := by
      have := congrArg List.length hd
      rw [List.length_drop, List.length_nil] at this
      omega
    subst this
    exact done m news h tk hJ F N
  | cons a ys ih =>
    intro i m news hd hi hk hI hJ v h tk hv F
    refine AllObj.cons fun o ho => AllObj.nil fun N => ?_
    have hlt : i < xs.length := by
      have := congrArg List.length hd
      rw [List.length_drop, List.length_cons] at this
      omega
    have ha : xs[i]? = some a := by
      have := congrArg (fun l => l[0]?) hd
      simpa [List.getElem?_drop] using this
    have hd' : xs.drop (i + 1) = ys := by
      have := congrArg List.tail hd
      simpa [List.tail_drop] using this
    have fin : ∀ s₃, UnrEndW h₀ env.locals { s with heap := h, toks := tk } [(I, o)] (fun m' n' => SubL keep n' ∧ J (i + 1) m' n') s₃ →
        UnrEndW h₀ env.locals { s with heap := h, toks := tk } [(I, o)] (fun m' n' => SubL keep n' ∧ ItemsRest prog w A E h₀ env target body Q s [(I, cl)] keep ys m' n') s₃ := by
      rintro s₃ ⟨h', tk', m', news', e, F', N', ho', hk', hJ'⟩
      exact ⟨h', tk', m', news', e, F', N', ho', hk', ih (i + 1) m' news' hd' hlt hk' (fun p hp => ho' p hp (I, o) (List.mem_cons_self ..)) hJ'⟩
    refine wpAny_mono (turn i a v m news h tk o ha hk hI hJ hv F ho N) (fun _ s₂ h₂ => wpAny_mono h₂ (fun f s₃ p => ?_) fun _ _ e => e) fun _ _ e => e
    cases f with
    | ret v => exact p
    | brk => exact p
    | next => exact fin _ p
    | cont => exact fin _ p
theorem unr_end {L I : Addr} {o : Obj} {rest : (Str → Option Value) → List (Addr × Obj) → Prop} {s₁ : Shared} {h' : Heap} {tk : Nat} {m' : Str → Option Value} {all : List (Addr × Obj)} (news' : List (Addr × Obj)) (F : Fr h₀ L h' m') (N : News h₀ L h' all)
    (hI : (I, o) ∈ all) (hs : ∀ p ∈ news', p ∈ all) (hne : ∀ p ∈ news', p.1 ≠ I) (r : rest m' news') : UnrEndW h₀ L s₁ [(I, o)] rest { s₁ with heap := h', toks := tk } :=
  ⟨h', tk, m', news', rfl, F, fun p hp => by
    rcases List.mem_append.mp hp with hp | hp
    · rw [List.mem_singleton.mp hp]; exact N _ hI
    · exact N p (hs p hp), fun p hp q hq => by rw [List.mem_singleton.mp hq]; exact hne p hp, r⟩
theorem iter_baseTurns {ax : Addr} {lo : Obj} {vs : List Value} {n : Nat} {m₀ : Str → Option Value} {news : List (Addr × Obj)}
    (hh : A.handled = none) (F : Fr h₀ env.locals s.heap m₀) (N : News h₀ env.locals s.heap news) (hg : h₀.get? ax = some lo) (hc : lo.cls = .type "list") (hd : lo.data = .seq vs.toArray n)
    (rest₀ : ∀ I : Addr, (∀ p ∈ news, p.1 < I) → ItemsRest prog w A E h₀ env target body Q s [(I, "list_iterator")] [] (vs.map .val) m₀ news) :
    wpAny (model prog w) A (pyIter (.ref ax)) (fun it s₂ => TurnsAt prog w A h₀ env target body Q E it s₂) E s := by
  have hax : s.heap.get? ax = some lo := F.keep _ _ hg
  have hl : s.heap.IsList ax vs.toArray := ⟨lo, hax, hc, n, hd⟩
  have hne : ax ≠ s.heap.objs.size := Nat.ne_of_lt (Heap.lt_size hax)
  refine wpAny_pyIter_list hl ?_
  refine ktg_core (tk0 := s.toks) (keep := []) (KTurns.ofWalks (Walks.list hh s.heap.objs.size ax hne vs.toArray) fun i v s Q E st q => letGo_listiter st.1 q) (by simp) (fun i v h hp => ⟨.val v, ?_, rfl⟩) (fun i h st => ?_) (fun b hb => ?_) (fun b hb => by simpa using hb) (fun b hb => ?_) ?_ (fun p hp hI => ?_) ?_ (F.push _) (fun p hp => ⟨Heap.get?_push_of_some _ (N p hp).1, (N p hp).2⟩) trivial (rest₀ _ fun p hp => Heap.lt_size (N p hp).1)
  · have hp' : vs.toArray[i]? = some v := hp
    simpa using hp'
  · obtain ⟨it, hit, hic, _⟩ := st.1
    exact ⟨[(s.heap.objs.size, it)], ⟨⟨rfl, hic⟩, trivial⟩, fun p hp => by rw [List.mem_singleton.mp hp]; exact hit⟩
  · have hb' : b = s.heap.objs.size := by simpa using hb
    rw [hb']
    exact ⟨List.mem_cons_self .., next_is_new F⟩
  · have hb' : b = s.heap.objs.size ∨ b = ax := by simpa using hb
    rcases hb' with e | e
    · exact .inl (by simp [e])
    · exact .inr (.inr ⟨lo, by rw [e]; exact hg⟩)
  · intro hI
    rcases List.mem_cons.mp hI with e | hI
    · exact absurd F.ns.lt (e ▸ Nat.lt_irrefl _)
    · have e : env.locals = ax := List.mem_singleton.mp hI
      exact absurd (Heap.lt_size hg) (Nat.not_lt.mpr (e ▸ F.above))
  · exact absurd (Heap.lt_size (N p hp).1) ((List.mem_singleton.mp hI) ▸ Nat.lt_irrefl _)
  · exact ⟨⟨_, Heap.get?_push_size _ rfl, rfl, rfl⟩, hl.at fun o e => Heap.get?_push_of_some _ e⟩
def rangeItems (a : Int) (n : Nat) : List Itm := (List.range n).map fun (i : Nat) => Itm.tok fun t => Value.int (a + (i : Int)) t
theorem rangeItems_length (a : Int) (n : Nat) : (rangeItems a n).length = n := by simp [rangeItems]
theorem rangeItems_get {a : Int} {n i : Nat} {x : Itm} (h : (rangeItems a n)[i]? = some x) : i < n ∧ x = .tok fun t => .int (a + (i : Int)) t := by
  unfold rangeItems at h
  rw [List.getElem?_map] at h
  obtain ⟨j, hj, e⟩ := Option.map_eq_some_iff.mp h
  obtain ⟨h1, h2⟩ := List.getElem?_eq_some_iff.mp hj
  rw [List.getElem_range] at h2
  subst h2
  exact ⟨by simpa using h1, e.symm⟩
theorem iter_rangeTurns {x : Str} {px : Pos} {r : Addr} {a₀ b₀ : Int} {t₀ u₀ v₀ : Tok} {n : Nat} {m₀ : Str → Option Value} {news : List (Addr × Obj)}
    (hh : A.handled = none) (hr : IsRange s.heap r a₀ b₀ 1 t₀ u₀ v₀) (hsmall : Builtin.Range.small a₀ b₀ 1 = true) (hn : Builtin.Range.rangeSize a₀ b₀ 1 = (n : Int)) (F : Fr h₀ env.locals s.heap m₀) (N : News h₀ env.locals s.heap news)
    (rest₀ : ∀ I : Addr, (∀ p ∈ news, p.1 < I) → ItemsRest prog w A E h₀ env (.Name x px) body Q s [(I, "range_iterator")] [] (rangeItems a₀ n) m₀ news) :
    wpAny (model prog w) A (pyIter (.ref r)) (fun it s₂ => TurnsAt prog w A h₀ env (.Name x px) body Q E it s₂) E s := by
  refine wpAny_pyIter_range hr hsmall ?_
  have W : Walks prog w A s.heap.objs.size [s.heap.objs.size] [s.heap.objs.size] n (fun i v => i < n ∧ ∃ t, v = .int (a₀ + i * 1) t)
      (fun i h => IsRangeIter h s.heap.objs.size (a₀ + (i : Nat) * 1) ((n : Int) - (i : Nat)) 1) := (Walks.range hh _ a₀ 1 n).bound
  refine ktg_core (tk0 := s.toks) (keep := []) (KTurns.ofWalks W fun i v s Q E st q => wpAny_pure q) (rangeItems_length a₀ n).symm (fun i v h hp => ?_) (fun i h st => ?_) (fun b hb => ?_) (fun b hb => by simpa using hb) (fun b hb => .inl (by simpa using hb)) ?_ (fun p hp hI => ?_) ?_ (F.push _) (fun p hp => ⟨Heap.get?_push_of_some _ (N p hp).1, (N p hp).2⟩) trivial (rest₀ _ fun p hp => Heap.lt_size (N p hp).1)
  · obtain ⟨hi, t, rfl⟩ := hp
    refine ⟨.tok fun t => .int (a₀ + (i : Int)) t, ?_, t, by rw [Int.mul_one]⟩
    unfold rangeItems
    rw [List.getElem?_map, List.getElem?_range hi]
    rfl
  · exact ⟨[(s.heap.objs.size, _)], ⟨⟨rfl, rfl⟩, trivial⟩, fun p hp => by rw [List.mem_singleton.mp hp]; exact st⟩
  · have hb' : b = s.heap.objs.size := by simpa using hb
    rw [hb']
    exact ⟨List.mem_cons_self .., next_is_new F⟩
  · intro hI
    exact absurd F.ns.lt ((List.mem_singleton.mp hI) ▸ Nat.lt_irrefl _)
  · exact absurd (Heap.lt_size (N p hp).1) ((List.mem_singleton.mp hI) ▸ Nat.lt_irrefl _)
  · show IsRangeIter _ _ _ _ _
    rw [hn]
    simpa using Heap.get?_push_size _ rfl
end
def Hold (P : Prop) : Prop := P
theorem Hold.out {P : Prop} (h : Hold P) : P := h
-- a rational in the heap
def RatH (h : Heap) (v : Value) (r : Rat) : Prop := ∃ D t t' c, v = .ref D ∧ h.get? D = some (RatO r t t' c)
theorem RatH.keeps {h g : Heap} {v : Value} {r : Rat} (hk : ∀ b o, h.get? b = some o → g.get? b = some o) (x : RatH h v r) : RatH g v r := let ⟨D, t, t', c, e, hd⟩ := x; ⟨D, t, t', c, e, hk _ _ hd⟩
theorem val_get {vs : List Value} {i : Nat} {a : Itm} {v : Value} {h : Heap} (ha : (vs.map Itm.val)[i]? = some a) (hv : a.Is v h) : vs[i]? = some v := by
  rw [List.getElem?_map] at ha
  obtain ⟨x, hx, e⟩ := Option.map_eq_some_iff.mp ha
  subst e
  have : v = x := hv
  rw [this]; exact hx
-- what a frame keeps track of: an object of the ledger, or of the ground
def Tk (h₀ : Heap) (nx : List (Addr × Obj)) (a : Addr) (o : Obj) : Prop := (a, o) ∈ nx ∨ h₀.get? a = some o
theorem Tk.mono {h₀ : Heap} {nx ny : List (Addr × Obj)} {a : Addr} {o : Obj} (e : Tk h₀ nx a o) (hs : ∀ p ∈ nx, p ∈ ny) : Tk h₀ ny a o := e.imp (hs _) id
theorem Tk.get {h₀ h : Heap} {L : Addr} {m : Str → Option Value} {nx led : List (Addr × Obj)} {a : Addr} {o : Obj} (F : Fr h₀ L h m) (N : News h₀ L h led) (e : Tk h₀ nx a o) (hs : ∀ p ∈ nx, p ∈ led) : h.get? a = some o :=
  e.elim (fun h1 => (N _ (hs _ h1)).1) fun h1 => F.keep _ _ h1
abbrev pairO (v1 v2 : Value) (c : Nat) : Obj := { cls := .type "tuple", data := .seq #[v1, v2] c }
abbrev PT (P : Addr → Obj → Prop) (tl : List (Addr × Obj)) (a : Addr) (o : Obj) : Prop := P a o ∨ (a, o) ∈ tl
theorem PT.mono {P : Addr → Obj → Prop} {tl tm : List (Addr × Obj)} (hs : ∀ p ∈ tl, p ∈ tm) : ∀ a o, PT P tl a o → PT P tm a o := fun _ _ e => e.imp id (hs _)
def RatN (P : Addr → Obj → Prop) (v : Value) (r : Rat) : Prop := ∃ D t t' c, v = .ref D ∧ P D (RatO r t t' c)
def LayN (P : Addr → Obj → Prop) (v : Value) (l : Rat × Rat) : Prop := ∃ D v1 v2 c, v = .ref D ∧ P D (pairO v1 v2 c) ∧ RatN P v1 l.1 ∧ RatN P v2 l.2
def LstN {β : Type} (R : Value → β → Prop) (P : Addr → Obj → Prop) (v : Value) (bs : List β) : Prop := ∃ l vs n, v = .ref l ∧ P l (listOf vs.toArray n) ∧ All2 R vs bs
abbrev LaysN (P : Addr → Obj → Prop) (v : Value) (ls : List (Rat × Rat)) : Prop := LstN (LayN P) P v ls
abbrev RatsN (P : Addr → Obj → Prop) (v : Value) (rs : List Rat) : Prop := LstN (RatN P) P v rs
section
variable {P P' : Addr → Obj → Prop} {v : Value}
theorem RatN.mono {r : Rat} (hs : ∀ a o, P a o → P' a o) (x : RatN P v r) : RatN P' v r := let ⟨D, t, t', c, e, k⟩ := x; ⟨D, t, t', c, e, hs _ _ k⟩
theorem LayN.mono {l : Rat × Rat} (hs : ∀ a o, P a o → P' a o) (x : LayN P v l) : LayN P' v l := let ⟨D, v1, v2, c, e, k, a, b⟩ := x; ⟨D, v1, v2, c, e, hs _ _ k, a.mono hs, b.mono hs⟩
theorem LaysN.mono {ls : List (Rat × Rat)} (hs : ∀ a o, P a o → P' a o) (x : LaysN P v ls) : LaysN P' v ls := let ⟨l, vs, n, e, k, a⟩ := x; ⟨l, vs, n, e, hs _ _ k, a.mono fun _ _ y => y.mono hs⟩
theorem RatsN.mono {rs : List Rat} (hs : ∀ a o, P a o → P' a o) (x : RatsN P v rs) : RatsN P' v rs := let ⟨l, vs, n, e, k, a⟩ := x; ⟨l, vs, n, e, hs _ _ k, a.mono fun _ _ y => y.mono hs⟩
end
theorem ground_of {P : Addr → Obj → Prop} {h g : Heap} (hP : ∀ a o, P a o → h.get? a = some o) (hG : ∀ b o, h.get? b = some o → b ∉ List.map (·.1) ([] : List (Addr × Obj)) → g.get? b = some o) (tl : List (Addr × Obj)) :
    ∀ a o, PT P tl a o → Tk g tl a o := fun a o e => e.elim (fun h => .inr (hG _ _ (hP _ _ h) (by simp))) .inl
theorem tracked {h₀ h : Heap} {L : Addr} {m : Str → Option Value} {led : List (Addr × Obj)} (F : Fr h₀ L h m) (N : News h₀ L h led) : ∀ a o, Tk h₀ led a o → h.get? a = some o := fun _ _ e => e.get F N fun _ hp => hp
-- steps on such objects
section
variable {prog : Program} {w : World} {A : Around} {E : Value → Shared → Prop} {s : Shared} {h₀ : Heap} {L D : Addr} {m : Str → Option Value} {nx led : List (Addr × Obj)} {lo : Obj} {env : Env}
theorem tup_t {value slice : Expr} {l : List Value} {n : Nat} {k : Int} {u : Tok} {j : Nat} {x : Value} {Q : Value → Shared → Prop}
    (F : Fr h₀ L s.heap m) (N : News h₀ L s.heap led) (e : Tk h₀ nx D lo) (hsub : ∀ p ∈ nx, p ∈ led) (hc : lo.cls = .type "tuple") (hd : lo.data = .seq l.toArray n) (hlo : -(2 ^ 63) ≤ k) (hhi : k < 2 ^ 63) (hj : seqIndex? k l.length = some j) (hx : l[j]? = some x) (h : Q x s)
    (hs : subscripted slice false (.ref D) (.int k u) = operate [.ref D, .int k u] (getItem (.ref D) (.int k u))) (hg : ∀ r, letTemporaryGo value (.ref D) r = pure ()) :
    wpAny (model prog w) A (subscriptTail value slice (.ref D) (.int k u)) Q E s := item_tupleL ⟨lo, e.get F N hsub, hc, n, hd⟩ hlo hhi hj hx h hs hg
theorem unpack_t {elts : List Expr} {k : Nat} {pos : Pos} {items : Array Value} {n : Nat} {Q : Unit → Shared → Prop} (F : Fr h₀ L s.heap m) (N : News h₀ L s.heap led) (e : Tk h₀ nx D lo) (hsub : ∀ p ∈ nx, p ∈ led) (hc : lo.cls = .type "tuple") (hd : lo.data = .seq items n)
    (hh : A.handled = none) (hn : (assignEach elts env).length = items.size) (hstar : (assignEach elts env).findIdx? (·.1) = none)
    (h : ∀ h', Fr h₀ L h' m → News h₀ L h' led → wpAny (model prog w) A (assignInOrder ((assignEach elts env).map (·.2)) items.toList) Q E { s with heap := h' }) :
    wpAny (model prog w) A (assign (.Tuple elts k pos) env (.ref D)) Q E s := unpackN_ F N ⟨lo, e.get F N hsub, hc, n, hd⟩ hh hn hstar h
end
theorem allNe_mem {d : Nat} : ∀ {l : List (Addr × Obj)}, AllNe d l → ∀ p ∈ l, p.1 ≠ d
  | [], _, _, h => nomatch h
  | _ :: _, x, p, h => by
    rcases List.mem_cons.mp h with rfl | h
    · exact x.1
    · exact allNe_mem x.2 p h
theorem allLt_mem {d : Nat} : ∀ {l : List (Addr × Obj)}, AllLt d l → ∀ p ∈ l, p.1 ≠ d
  | [], _, _, h => nomatch h
  | _ :: _, x, p, h => by
    rcases List.mem_cons.mp h with rfl | h
    · exact Nat.ne_of_lt x.1
    · exact allLt_mem x.2 p h
theorem news_app {h₀ h' : Heap} {L : Addr} {news tl : List (Addr × Obj)} {p : Addr × Obj} (N1 : News h₀ L h' (p :: tl)) (N : News h₀ L h' news) : News h₀ L h' (p :: (news ++ tl)) := by
  intro q hq
  rcases List.mem_cons.mp hq with rfl | hq
  · exact N1 _ (List.mem_cons_self ..)
  · rcases List.mem_append.mp hq with hq | hq
    · exact N q hq
    · exact N1 q (List.mem_cons_of_mem _ hq)
-- the ledger at a turn's end: what is told of by name, and all the rest but the iterator
def strip (bad : List Addr) (all : List (Addr × Obj)) : List (Addr × Obj) := all.filter fun p => !bad.contains p.1
theorem mem_strip {bad : List Addr} {all : List (Addr × Obj)} {p : Addr × Obj} (h : p ∈ all) (hn : p.1 ∉ bad) : p ∈ strip bad all := List.mem_filter.mpr ⟨h, by simpa [List.contains_iff_mem] using hn⟩
theorem strip_mem {bad : List Addr} {all : List (Addr × Obj)} {p : Addr × Obj} (h : p ∈ strip bad all) : p ∈ all ∧ p.1 ∉ bad := by
  obtain ⟨h1, h2⟩ := List.mem_filter.mp h
  exact ⟨h1, by simpa [List.contains_iff_mem] using h2⟩
theorem unr_mut {h₀ h' : Heap} {L I : Addr} {o : Obj} {rest : (Str → Option Value) → List (Addr × Obj) → Prop} {s₁ : Shared} {tk : Nat} {m' : Str → Option Value} {all : List (Addr × Obj)} (muts : List (Addr × Obj)) (F : Fr h₀ L h' m') (N : News h₀ L h' all)
    (hI : (I, o) ∈ all) (hm : ∀ p ∈ muts, p ∈ all) (hn : ∀ p ∈ muts, p.1 ≠ I) (r : rest m' (muts ++ strip (I :: muts.map (·.1)) all)) : UnrEndW h₀ L s₁ [(I, o)] rest { s₁ with heap := h', toks := tk } := by
  refine unr_end _ F N hI (fun p hp => ?_) (fun p hp => ?_) r
  · rcases List.mem_append.mp hp with hp | hp
    · exact hm p hp
    · exact (strip_mem hp).1
  · rcases List.mem_append.mp hp with hp | hp
    · exact hn p hp
    · exact fun e => (strip_mem hp).2 (e ▸ List.mem_cons_self ..)
theorem one_of {P : Addr × Obj → Prop} {a : Addr × Obj} (ha : P a) : ∀ p ∈ [a], P p := List.forall_mem_cons.mpr ⟨ha, List.forall_mem_nil _⟩
theorem not_in2 {a x y : Addr} (h1 : a ≠ x) (h2 : a ≠ y) : a ∉ [x, y] := by
  simp only [List.mem_cons, List.not_mem_nil, or_false, not_or]; exact ⟨h1, h2⟩
-- cutting layers
abbrev Lay := Rat × Rat
theorem unr_mut1 {h₀ h' : Heap} {L I d1 : Addr} {o o1 : Obj} {rest : (Str → Option Value) → List (Addr × Obj) → Prop} {s₁ : Shared} {tk : Nat} {m' : Str → Option Value} {all : List (Addr × Obj)} (F : Fr h₀ L h' m') (N : News h₀ L h' all)
    (hI : (I, o) ∈ all) (h1 : (d1, o1) ∈ all) (n1 : d1 ≠ I) (r : rest m' ([(d1, o1)] ++ strip [I, d1] all)) : UnrEndW h₀ L s₁ [(I, o)] rest { s₁ with heap := h', toks := tk } :=
  unr_mut [(d1, o1)] F N hI (one_of h1) (one_of n1) r
theorem sub_strip2 {h₀ h' : Heap} {L x y : Addr} {all tl : List (Addr × Obj)} (_N : News h₀ L h' all) (hm : ∀ p ∈ tl, p ∈ all) (a : ∀ p ∈ tl, p.1 ≠ x) (b : ∀ p ∈ tl, p.1 ≠ y) : ∀ p ∈ tl, p ∈ strip [x, y] all :=
  fun p hp => mem_strip (hm p hp) (not_in2 (a p hp) (b p hp))
theorem lst_len {prog : Program} {w : World} {A : Around} {E : Value → Shared → Prop} {s : Shared} {h₀ : Heap} {L l : Addr} {news : List (Addr × Obj)} {vs : List Value} {n : Nat} {Q : Value → Shared → Prop} (N : News h₀ L s.heap news) (hm : (l, listOf vs.toArray n) ∈ news) (hf : vs.length < 1000000) (h : ∀ tk, Q (.int (vs.length : Int) tk) { s with toks := tk + 1 }) :
    wpAny (model prog w) A (call (.builtin "len") [.ref l]) Q E s := by
  refine len_list ⟨_, N.get hm, rfl, n, rfl⟩ (by rw [List.size_toArray]; omega) ?_
  rw [List.size_toArray]
  exact h _
theorem lst_lenT {prog : Program} {w : World} {A : Around} {E : Value → Shared → Prop} {s : Shared} {h₀ : Heap} {L l : Addr} {m : Str → Option Value} {nx led : List (Addr × Obj)} {vs : List Value} {n : Nat} {Q : Value → Shared → Prop} (F : Fr h₀ L s.heap m) (N : News h₀ L s.heap led) (e : Tk h₀ nx l (listOf vs.toArray n)) (hs : ∀ p ∈ nx, p ∈ led) (hf : vs.length < 1000000) (h : ∀ tk, Q (.int (vs.length : Int) tk) { s with toks := tk + 1 }) :
    wpAny (model prog w) A (call (.builtin "len") [.ref l]) Q E s := by
  refine len_list ⟨_, e.get F N hs, rfl, n, rfl⟩ (by rw [List.size_toArray]; omega) ?_
  rw [List.size_toArray]
  exact h _
-- items of tracked lists; data read from the heap and compared
section
variable {prog : Program} {w : World} {A : Around} {E : Value → Shared → Prop} {s : Shared} {h₀ : Heap} {L D : Addr} {m : Str → Option Value} {nx led : List (Addr × Obj)} {lo : Obj} {value slice : Expr} {l : List Value} {n : Nat} {k : Int} {u : Tok} {x : Value} {Q : Value → Shared → Prop}
theorem list_t (F : Fr h₀ L s.heap m) (N : News h₀ L s.heap led) (e : Tk h₀ nx D lo) (hsub : ∀ p ∈ nx, p ∈ led) (hc : lo.cls = .type "list") (hd : lo.data = .seq l.toArray n) (h0 : 0 ≤ k) (hfit : k < 2 ^ 63) (hx : l[k.toNat]? = some x) (h : Q x s)
    (hs : subscripted slice false (.ref D) (.int k u) = operate [.ref D, .int k u] (getItem (.ref D) (.int k u))) (hg : ∀ r, letTemporaryGo value (.ref D) r = pure ()) :
    wpAny (model prog w) A (subscriptTail value slice (.ref D) (.int k u)) Q E s := item_listL ⟨lo, e.get F N hsub, hc, n, hd⟩ h0 hfit hx h hs hg
theorem back_t (F : Fr h₀ L s.heap m) (N : News h₀ L s.heap led) (e : Tk h₀ nx D lo) (hsub : ∀ p ∈ nx, p ∈ led) (hc : lo.cls = .type "list") (hd : lo.data = .seq l.toArray n) (h0 : k < 0) (h1 : -(l.length : Int) ≤ k) (hfit : -(2 ^ 63) ≤ k) (hx : l[(k + (l.length : Int)).toNat]? = some x) (h : Q x s)
    (hs : subscripted slice false (.ref D) (.int k u) = operate [.ref D, .int k u] (getItem (.ref D) (.int k u))) (hg : ∀ r, letTemporaryGo value (.ref D) r = pure ()) :
    wpAny (model prog w) A (subscriptTail value slice (.ref D) (.int k u)) Q E s := by
  have hl : s.heap.IsList D l.toArray := ⟨lo, e.get F N hsub, hc, n, hd⟩
  exact subscriptTail_builtin hl.typeIs slot_list_getitem.lookup (wpAny_getItem_list_neg hl h0 (by rw [List.size_toArray]; exact h1) hfit (by rw [List.size_toArray]; simpa using hx) h) hs hg
end
theorem at_of {α : Type} {l : List α} {k : Int} {i : Nat} {x : α} (h : l[i]? = some x) (e : k = (i : Int)) : l[k.toNat]? = some x := by
  have : k.toNat = i := by omega
  rw [this]; exact h
def Rd (h : Heap) (v : Value) (d : PyData) : Prop := ∃ as, Reads h v d as
theorem rdAll {h : Heap} {vs : List Value} {ds : List PyData} (hv : All2 (Rd h) vs ds) : ∃ as, ReadsAll h vs ds as := by
  induction hv with
  | nil => exact ⟨_, .nil⟩
  | cons a _ ih => obtain ⟨as, ra⟩ := a; obtain ⟨bs, rb⟩ := ih; exact ⟨_, .cons ra rb⟩
theorem Rd.int {h : Heap} {i : Int} {t : Tok} : Rd h (.int i t) (.int i) := ⟨_, .int i t⟩
theorem Rd.none {h : Heap} : Rd h .none .none := ⟨_, .none⟩
theorem Rd.bool {h : Heap} {b : Bool} : Rd h (.bool b) (.bool b) := ⟨_, .bool b⟩
theorem Rd.tuple {h : Heap} {D : Addr} {vs : List Value} {c : Nat} {ds : List PyData} (e : h.get? D = some { cls := .type "tuple", data := .seq vs.toArray c }) (hv : All2 (Rd h) vs ds) : Rd h (.ref D) (.tuple ds) :=
  let ⟨as, ra⟩ := rdAll hv; ⟨as, .tuple e rfl rfl (by simpa using ra)⟩
theorem Rd.list {h : Heap} {D : Addr} {vs : List Value} {c : Nat} {ds : List PyData} (e : h.get? D = some (listOf vs.toArray c)) (hv : All2 (Rd h) vs ds) : Rd h (.ref D) (.list ds) :=
  let ⟨as, ra⟩ := rdAll hv; ⟨D :: as, .list e rfl rfl (by simpa using ra)⟩
theorem Rd.keeps {h g : Heap} {v : Value} {d : PyData} (hk : ∀ b o, h.get? b = some o → g.get? b = some o) (x : Rd h v d) : Rd g v d := let ⟨as, r⟩ := x; ⟨as, PyProof.Rows.Reads.keeps hk r⟩
def ratP (r : Rat) : PyData := .tuple [.int r.num, .int (r.den : Int)]
def layP (l : Lay) : PyData := .tuple [ratP l.1, ratP l.2]
theorem RatO_rd {h : Heap} {D : Addr} {r : Rat} {t t' : Tok} {c : Nat} (e : h.get? D = some (RatO r t t' c)) : Rd h (.ref D) (ratP r) := Rd.tuple (vs := [_, _]) e (.cons .int (.cons .int .nil))
theorem T2_rd {h : Heap} {D : Addr} {x y : Int} {t t' : Tok} {c : Nat} (e : h.get? D = some (T2 x y t t' c)) : Rd h (.ref D) (.tuple [.int x, .int y]) := Rd.tuple (vs := [_, _]) e (.cons .int (.cons .int .nil))
section
variable {P : Addr → Obj → Prop} {h : Heap} {v : Value}
theorem RatN.rd {r : Rat} (hP : ∀ a o, P a o → h.get? a = some o) (x : RatN P v r) : Rd h v (ratP r) := by
  obtain ⟨D, t, t', c, rfl, k⟩ := x; exact RatO_rd (hP _ _ k)
theorem LayN.rd {l : Lay} (hP : ∀ a o, P a o → h.get? a = some o) (x : LayN P v l) : Rd h v (layP l) := by
  obtain ⟨D, v1, v2, c, rfl, k, a, b⟩ := x; exact Rd.tuple (vs := [v1, v2]) (hP _ _ k) (.cons (a.rd hP) (.cons (b.rd hP) .nil))
theorem All2.map_r {α β γ : Type} {R : α → β → Prop} {S : α → γ → Prop} {f : β → γ} {as : List α} {bs : List β} (hs : ∀ a b, R a b → S a (f b)) (x : All2 R as bs) : All2 S as (bs.map f) := by
  induction x with
  | nil => exact .nil
  | cons a _ ih => exact .cons (hs _ _ a) ih
theorem LaysN.rd {ls : List Lay} (hP : ∀ a o, P a o → h.get? a = some o) (x : LaysN P v ls) : Rd h v (.list (ls.map layP)) := by
  obtain ⟨l, vs, n, rfl, k, a⟩ := x; exact Rd.list (hP _ _ k) (a.map_r fun _ _ y => y.rd hP)
theorem RatsN.rd {rs : List Rat} (hP : ∀ a o, P a o → h.get? a = some o) (x : RatsN P v rs) : Rd h v (.list (rs.map ratP)) := by
  obtain ⟨l, vs, n, rfl, k, a⟩ := x; exact Rd.list (hP _ _ k) (a.map_r fun _ _ y => y.rd hP)
end
section
variable {prog : Program} {w : World} {A : Around} {E : Value → Shared → Prop} {s : Shared} {a b : Value} {d : PyData} {Q : Value → Shared → Prop}
theorem eq_rd (ra : Rd s.heap a d) (rb : Rd s.heap b d) (hs : SeqAt.shaped d = true) (hu : A.units + 64 < cLine) (h : Q (.bool true) s) : wpAny (model prog w) A (compareOp .Eq a b) Q E s := by
  obtain ⟨as, ra⟩ := ra; obtain ⟨bs, rb⟩ := rb
  exact eq_dataH ra rb hs hs hu (by rw [SeqAt.eqv_refl d (SeqAt.canLay_of_shaped hs)]; exact h)
theorem ne_rd (ra : Rd s.heap a d) (rb : Rd s.heap b d) (hs : SeqAt.shaped d = true) (hu : A.units + 64 < cLine) (h : Q (.bool false) s) : wpAny (model prog w) A (compareOp .NotEq a b) Q E s := by
  obtain ⟨as, ra⟩ := ra; obtain ⟨bs, rb⟩ := rb
  exact ne_dataH ra rb hs hs hu (by rw [SeqAt.eqv_refl d (SeqAt.canLay_of_shaped hs)]; exact h)
end
theorem mod_gen {prog : Program} {w : World} {A : Around} {E : Value → Shared → Prop} {s : Shared} {a n : Int} {t u : Tok} {Q : Value → Shared → Prop} (hn : 0 < n)
    (h : ∀ v : Int, 0 ≤ v → v < n → v = a.fmod n → Q (.int v s.toks) { s with toks := s.toks + 1 }) : wpAny (model prog w) A (binaryOp .Mod (.int a t) (.int n u)) Q E s := by
  have e : a.fmod n = a % n := Int.fmod_eq_emod_of_nonneg a (by omega)
  exact mod_int' (by omega) (h _ (by rw [e]; exact Int.emod_nonneg a (by omega)) (by rw [e]; exact Int.emod_lt_of_pos a hn) rfl)
theorem idx_no {n : Nat} {k : Int} (h : k < -((n : Nat) : Int) ∨ (n : Int) ≤ k) (h0 : 0 ≤ k) (h1 : k < n) : False := by omega
theorem need_number_c {w : World} {p : Program} {loose : List Str} {mean : ExcName → Option Value} {mg mb : Str → Option Value} {dp un : Nat} {gd : Option (List Code)} {cn : Str} {cs : Scope} {a : Addr} {ccd : Value} {cl : List (Str × Addr)} {outer : List Env} {A₀ : Around} {base h₀ : Heap} {L : Addr} {m : Str → Option Value} {news : List (Addr × Obj)} {s : Shared} {Q E : Value → Shared → Prop} {v lo hi : Int} {t1 t2 t3 t4 : Tok} {what : Str}
    (B : Below A₀ base outer h₀) (F : Fr h₀ L s.heap m) (X : (HD.K w.params).In h₀) (N : News h₀ L s.heap news) (T : Top p loose mean mg mb h₀) (hk : cs.kind = .function) (h1 : lo ≤ v) (h2 : v ≤ hi)
    (hd : dp + 2 < recursionLimit)
    (hret : ∀ (h' : Heap) (tk' : Nat), Fr h₀ L h' m → News h₀ L h' news → Q (.int v t1) { s with heap := h', toks := tk' }) :
    wpAny (model PySem.Challenge.rw_ui0509_07.row.prog w) (ktrTop dp un gd cn cs L a ccd cl outer) (call (.ref 41) [.int v t1, .int lo t2, .int hi t3, .str what t4]) Q E s := by
  w_top off
  revert X; k_fill; intro X
  refine wpAny_call ?_
  k_dflt (refine' code_need [] ?k1 ?k2 ?k3 ?k4 ?k5 ?kA ?kF ?kK ?k6 ?k7 ?k8 ?k9 ?kB ?kN ?_ ?c2 ?c3 ?c4 ?c5; (case kA => exact rfl); (case kF => exact rfl); (case kK => assumption); (case k1 => k_asm); (case k2 => k_asm); (case k3 => k_asm); (case k4 => k_asm); (case k5 => k_asm); (case k6 => k_is); (case k7 => k_is); (case k8 => ktr_room); (case k9 => first | exact BindsTo.of_eq rfl | exact binds_K (by k_in) rfl (by k_is) rfl rfl rfl); (case c5 => decide); (case kB => exact locs rfl); (case kN => exact fun _ h => nomatch h); (case c2 => exact rfl); (case c3 => exact rfl); (case c4 => exact rfl); k_whole; intro g' L' h' tk0 FG' F' N' B' X' T' hG'; (try dsimp only); (try k_fold))
  k_steps
  all_goals (refine leaveN_ (by k_asm) (by k_asm) ?_; intro kF kN kR kD; (try dsimp only); exact hret _ _ kF (news_all kR))
theorem need_name_m {w : World} {p : Program} {loose : List Str} {mean : ExcName → Option Value} {mg mb : Str → Option Value} {dp un : Nat} {gd : Option (List Code)} {cn : Str} {cs : Scope} {a : Addr} {ccd : Value} {cl : List (Str × Addr)} {outer : List Env} {A₀ : Around} {base h₀ : Heap} {L : Addr} {m : Str → Option Value} {news : List (Addr × Obj)} {s : Shared} {Q E : Value → Shared → Prop} {t1 : Tok}
    (B : Below A₀ base outer h₀) (F : Fr h₀ L s.heap m) (X : (HD.K w.params).In h₀) (N : News h₀ L s.heap news) (T : Top p loose mean mg mb h₀) (hk : cs.kind = .function)
    (hd : dp + 2 < recursionLimit)
    (hret : ∀ (h' : Heap) (tk' : Nat), Fr h₀ L h' m → News h₀ L h' news → Q (.str (Str.ofString "m") t1) { s with heap := h', toks := tk' }) :
    wpAny (model PySem.Challenge.rw_ui0509_07.row.prog w) (ktrTop dp un gd cn cs L a ccd cl outer) (call (.ref 55) [.str (Str.ofString "m") t1]) Q E s := by
  w_top off
  revert X; k_fill; intro X
  refine wpAny_call ?_
  k_dflt (refine' code_need [] ?k1 ?k2 ?k3 ?k4 ?k5 ?kA ?kF ?kK ?k6 ?k7 ?k8 ?k9 ?kB ?kN ?_ ?c2 ?c3 ?c4 ?c5; (case kA => exact rfl); (case kF => exact rfl); (case kK => assumption); (case k1 => k_asm); (case k2 => k_asm); (case k3 => k_asm); (case k4 => k_asm); (case k5 => k_asm); (case k6 => k_is); (case k7 => k_is); (case k8 => ktr_room); (case k9 => first | exact BindsTo.of_eq rfl | exact binds_K (by k_in) rfl (by k_is) rfl rfl rfl); (case c5 => decide); (case kB => exact locs rfl); (case kN => exact fun _ h => nomatch h); (case c2 => exact rfl); (case c3 => exact rfl); (case c4 => exact rfl); k_whole; intro g' L' h' tk0 FG' F' N' B' X' T' hG'; (try dsimp only); (try k_fold))
  k_steps
  all_goals (try dsimp only)
  all_goals first | exact (idx_no (by assumption) (by decide) (by decide +kernel)).elim | (refine leaveN_ (by k_asm) (by k_asm) ?_; intro kF kN kR kD; (try dsimp only); exact hret _ _ kF (news_all kR))
abbrev meterD (P : Params) (k1 k2 k3 k4 k5 : Tok) (nm tu fa ro re : Value) : Obj :=
  dictOf [⟨PyData.keyHash P (Str.ofString "name"), .str (Str.ofString "name") k1, nm⟩, ⟨PyData.keyHash P (Str.ofString "turns"), .str (Str.ofString "turns") k2, tu⟩, ⟨PyData.keyHash P (Str.ofString "factor"), .str (Str.ofString "factor") k3, fa⟩, ⟨PyData.keyHash P (Str.ofString "rows"), .str (Str.ofString "rows") k4, ro⟩, ⟨PyData.keyHash P (Str.ofString "rest"), .str (Str.ofString "rest") k5, re⟩] 5
abbrev Row (d v : Int) (t t' : Tok) (u : Value) (c : Nat) : Obj := { cls := .type "tuple", data := .seq #[.int d t, .int v t', u] c }
local macro_rules | `(tactic| walk_at "hat9") => `(tactic| (first | exact News.get (by k_asm) (by k_mem) | exact Fr.keep (by k_asm) _ _ (by with_reducible assumption) | exact Tk.get (by k_asm) (by k_asm) (by with_reducible assumption) (by intro p9 hp9; first | exact hp9 | exact absurd hp9 List.not_mem_nil | (repeat (first | exact hp9 | refine List.mem_cons_of_mem _ ?_))) | exact Frag.In.keeps (by k_asm) (Fr.keep (by k_asm)) _ _ (by k_is)))
local macro_rules | `(tactic| bits_by_make) => `(tactic| with_reducible assumption)
local macro_rules | `(tactic| ktr_units) => `(tactic| (have hcL9 := cLine_is; (try simp only [units_under_make, units_in1, units_deeper, Around.mark_units, units_caller]); (try dsimp only [ktrTop]); omega))
local macro_rules | `(tactic| walk_at "call ref") => `(tactic| (k_here; (with_reducible show wpAny _ _ (call (Value.ref 80) [Value.ref _]) _ _ _); k_dflt (refine' need_cz ?k1 ?k2 ?k3 ?k4 ?k5 ?k6 ?m1 ?k7 ?k8 ?b1 ?z1 ?_; (case k1 => k_asm); (case k2 => k_asm); (case k3 => k_asm); (case k4 => k_asm); (case k5 => k_asm); (case k6 => first | exact rfl | assumption); (case k7 => first | exact Nat.le_of_ble_eq_true rfl | ktr_room); (case k8 => first | exact Nat.le_of_ble_eq_true rfl | ktr_units); (case m1 => (walk_at "hat9")); (case b1 => bits_by_make); (case z1 => first | assumption | decide | omega); k_whole); intro h' tk' F' N'; (try k_sweep)))
local macro_rules | `(tactic| walk_at "call ref") => `(tactic| (k_here; (with_reducible show wpAny _ _ (call (Value.ref 41) [Value.int _ _, Value.int _ _, Value.int _ _, Value.str _ _]) _ _ _); k_dflt (refine' need_number_c ?k1 ?k2 ?k3 ?k4 ?k5 ?k6 ?h1 ?h2 ?k7 ?_; (case k1 => k_asm); (case k2 => k_asm); (case k3 => k_asm); (case k4 => k_asm); (case k5 => k_asm); (case k6 => first | exact rfl | assumption); (case k7 => first | exact Nat.le_of_ble_eq_true rfl | ktr_room); (case h1 => first | decide | assumption | omega); (case h2 => first | decide | assumption | omega); k_whole); intro h' tk' F' N'; (try k_sweep)))
local macro_rules | `(tactic| walk_at "call ref") => `(tactic| (k_here; (with_reducible show wpAny _ _ (call (Value.ref 55) [Value.str (PySem.Str.ofString "m") _]) _ _ _); k_dflt (refine' need_name_m ?k1 ?k2 ?k3 ?k4 ?k5 ?k6 ?k7 ?_; (case k1 => k_asm); (case k2 => k_asm); (case k3 => k_asm); (case k4 => k_asm); (case k5 => k_asm); (case k6 => first | exact rfl | assumption); (case k7 => first | exact Nat.le_of_ble_eq_true rfl | ktr_room); k_whole); intro h' tk' F' N'; (try k_sweep)))
theorem bits_1 : Builtin.Int.intBits 1 ≤ 1 := by decide
theorem meter_new1_m {w : World} {p : Program} {loose : List Str} {mean : ExcName → Option Value} {mg mb : Str → Option Value} {dp un : Nat} {gd : Option (List Code)} {cn : Str} {cs : Scope} {a : Addr} {ccd : Value} {cl : List (Str × Addr)} {outer : List Env} {A₀ : Around} {base h₀ : Heap} {L : Addr} {m : Str → Option Value} {news : List (Addr × Obj)} {s : Shared} {Q E : Value → Shared → Prop} {tu : Int} {t2 t3 : Tok}
    (B : Below A₀ base outer h₀) (F : Fr h₀ L s.heap m) (X : (HD.K w.params).In h₀) (N : News h₀ L s.heap news) (T : Top p loose mean mg mb h₀) (hk : cs.kind = .function)
    (hd : dp + 8 < recursionLimit) (hu : un + 200 < cLine) (hT : 10 ≤ tu) (hT2 : tu ≤ 1000000000000)
    (hret : ∀ (x d l : Addr) (k1 k2 k3 k4 k5 : Tok) (n : Nat) (h' : Heap) (tk' : Nat), Fr h₀ L h' m → News h₀ L h' ((x, instObj 161 d) :: (d, meterD w.params k1 k2 k3 k4 k5 (.str (Str.ofString "m") t2) (.int tu t3) (.ref 57) (.ref l) (.ref 56)) :: (l, listOf #[] n) :: news) → d ≠ x → l ≠ x → l ≠ d → (∀ p ∈ news, p.1 ≠ x) → (∀ p ∈ news, p.1 ≠ d) → (∀ p ∈ news, p.1 ≠ l) → Q (.ref x) { s with heap := h', toks := tk' }) :
    wpAny (model PySem.Challenge.rw_ui0509_07.row.prog w) (ktrTop dp un gd cn cs L a ccd cl outer) (call (.ref 161) [.str (Str.ofString "m") t2, .int tu t3]) Q E s := by
  w_top off
  revert X; k_fill; intro X
  k_dflt (refine' call_cls ?k1 ?k2 ?k3 ?k4 ?k5 ?k6 ?_; (case k1 => k_asm); (case k2 => k_asm); (case k3 => k_asm); (case k4 => k_is); (case k5 => k_is); (case k6 => k_is); k_whole; intro x0 d0 h0 F0 N0 l0 l00)
  k_dflt (refine' code_need [(x0, instObj 161 d0), (d0, dictOf [] 0)] ?k1 ?k2 ?k3 ?k4 ?k5 ?kA ?kF ?kK ?k6 ?k7 ?k8 ?k9 ?kB ?kN ?_ ?c2 ?c3 ?c4 ?c5; (case kA => exact rfl); (case kF => exact rfl); (case kK => assumption); (case k1 => k_asm); (case k2 => k_asm); (case k3 => k_asm); (case k4 => k_asm); (case k5 => k_asm); (case k6 => k_is); (case k7 => k_is); (case k8 => ktr_room); (case k9 => first | exact BindsTo.of_eq rfl | exact binds_K (by k_in) rfl (by k_is) rfl rfl rfl); (case c5 => decide); (case kB => exact locs rfl); (case kN => exact List.forall_mem_cons.mpr ⟨List.mem_cons_self .., List.forall_mem_cons.mpr ⟨List.mem_cons_of_mem _ (List.mem_cons_self ..), List.forall_mem_nil _⟩⟩); (case c2 => exact rfl); (case c3 => exact rfl); (case c4 => exact rfl); k_whole; intro g' L' h' tk0 FG' F' N' B' X' T' hG'; (try dsimp only); (try k_fold))
  replace l00 := ltN l00
  have hb1 := bits_1
  k_steps
  all_goals (refine leaveN_ (by k_asm) (by k_asm) ?_; intro kF kN kR kD; dsimp only [InitBack]; refine ⟨rfl, ?_⟩; exact hret _ _ _ _ _ _ _ _ _ _ _ kF (news_cons kN (by k_mem) (news_cons kN (by k_mem) (news_cons kN (by k_mem) fun p hp => kR p (rest_two l0 l00 hp)))) (neN (by omega)) (neN (by omega)) (neN (by omega)) (fun p hp => kD p (rest_two l0 l00 hp) _ (by k_mem : (_, instObj _ _) ∈ _)) (fun p hp => kD p (rest_two l0 l00 hp) _ (by k_mem : (_, meterD ..) ∈ _)) (fun p hp => kD p (rest_two l0 l00 hp) (_, listOf #[] _) (by k_mem)))
theorem last_at {vs : List Value} {v : Value} : (vs ++ [v])[(-1 + ((vs ++ [v]).length : Int)).toNat]? = some v := by
  have : (-1 + ((vs ++ [v]).length : Int)).toNat = vs.length := by simp; omega
  rw [this]; simp
local macro_rules | `(tactic| walk_at "subscriptTail") => `(tactic| (k_here; (with_reducible show wpAny _ _ (subscriptTail _ _ (Value.ref _) (Value.int _ _)) _ _ _); k_dflt (refine' kim_back ?k1 ?k2 ?k3 ?k4 ?k5 ?k6 ?k7 ?k8 ?_ ?k9 ?k10; (case k1 => k_asm); (case k2 => k_mem); (case k3 => exact rfl); (case k4 => exact rfl); (case k5 => decide); (case k6 => (simp only [List.length_append, List.length_cons, List.length_nil]; omega)); (case k7 => decide); (case k8 => exact last_at); (case k9 => with_unfolding_all rfl); (case k10 => (intro _; with_unfolding_all rfl)); k_whole)))
local macro_rules | `(tactic| walk_at "call builtin:len") => `(tactic| (k_here; (with_reducible show wpAny _ _ (call (Value.builtin "len") [Value.ref _]) _ _ _); k_dflt (refine' lst_len ?k1 ?k2 ?k3 ?_; (case k1 => k_asm); (case k2 => k_mem); (case k3 => (simp only [List.length_append, List.length_cons, List.length_nil]; omega)); k_whole); intro tk9; (try simp only [List.length_append, List.length_cons, List.length_nil])))
local macro_rules | `(tactic| size_fits) => `(tactic| ((try simp only [List.size_toArray, List.length_append, List.length_cons, List.length_nil]); rw [sizeLine_eq]; omega))
theorem read_nil {w : World} {p : Program} {loose : List Str} {mean : ExcName → Option Value} {mg mb : Str → Option Value} {dp un : Nat} {gd : Option (List Code)} {cn : Str} {cs : Scope} {a : Addr} {ccd : Value} {cl : List (Str × Addr)} {outer : List Env} {A₀ : Around} {base h₀ : Heap} {L : Addr} {m : Str → Option Value} {news : List (Addr × Obj)} {s : Shared} {Q E : Value → Shared → Prop} {x d l : Addr} {k1 k2 k3 k4 k5 : Tok} {nm fa re : Value} {tu day val : Int} {t3 t4 t5 : Tok} {n : Nat} {news1 : List (Addr × Obj)} {g1 : Obj → List (Addr × Obj)}
    (B : Below A₀ base outer h₀) (F : Fr h₀ L s.heap m) (X : (HD.K w.params).In h₀) (N : News h₀ L s.heap news) (T : Top p loose mean mg mb h₀) (hk : cs.kind = .function) (ex : (x, instObj 161 d) ∈ news) (U2 : Upd d (meterD w.params k1 k2 k3 k4 k5 nm (.int tu t3) fa (.ref l) re) (meterD w.params k1 k2 k3 k4 k5 nm (.int tu t3) fa (.ref l) (.ref 56)) news news1) (U1 : UpdF l (listOf ([] : List Value).toArray n) news1 g1) (ndx : d ≠ x) (nlx : l ≠ x) (nld : l ≠ d)
    (hd : dp + 8 < recursionLimit) (h1 : 1 ≤ day) (h2 : day ≤ 10000000) (h3 : 0 ≤ val) (h4 : val < tu)
    (hret : ∀ (D : Addr) (c n' : Nat) (h' : Heap) (tk' : Nat), Fr h₀ L h' m → News h₀ L h' ((D, Row day val t4 t5 .none c) :: g1 (listOf (([] : List Value) ++ [Value.ref D]).toArray n')) → (∀ p ∈ news, p.1 ≠ D) → Q .none { s with heap := h', toks := tk' }) :
    wpAny (model PySem.Challenge.rw_ui0509_07.row.prog w) (ktrTop dp un gd cn cs L a ccd cl outer) (call (.ref 130) [.ref x, .int day t4, .int val t5]) Q E s := by
  replace ndx := neN ndx; replace nlx := neN nlx; replace nld := neN nld
  w_top off
  revert X; k_fill; intro X
  refine wpAny_call ?_
  k_dflt (refine' code_need [(x, instObj 161 d), (d, meterD w.params k1 k2 k3 k4 k5 nm (.int tu t3) fa (.ref l) re), (l, listOf ([] : List Value).toArray n)] ?k1 ?k2 ?k3 ?k4 ?k5 ?kA ?kF ?kK ?k6 ?k7 ?k8 ?k9 ?kB ?kN ?_ ?c2 ?c3 ?c4 ?c5; (case kA => exact rfl); (case kF => exact rfl); (case kK => assumption); (case k1 => k_asm); (case k2 => k_asm); (case k3 => k_asm); (case k4 => k_asm); (case k5 => k_asm); (case k6 => k_is); (case k7 => k_is); (case k8 => ktr_room); (case k9 => first | exact BindsTo.of_eq rfl | exact binds_K (by k_in) rfl (by k_is) rfl rfl rfl); (case c5 => decide); (case kB => exact locs rfl); (case kN => exact three_in ex (Upd.mem U2) (Upd.other U2 (UpdF.mem U1) nld)); (case c2 => exact rfl); (case c3 => exact rfl); (case c4 => exact rfl); k_whole; intro g' L' h' tk0 FG' F' N' B' X' T' hG'; (try dsimp only); (try k_fold))
  k_steps
  all_goals (refine leaveN_ (by k_asm) (by k_asm) ?_; intro kF kN kR kD; (try dsimp only); simp only [List.push_toArray] at kN; exact hret _ _ _ _ _ kF (news_cons kN (List.mem_cons_self ..) (news_upd2 N ex U2 U1 kN (by k_mem) (by k_mem) (by k_mem) kR)) (ne_three kD (List.mem_cons_self ..) (neN (by omega)) (neN (by omega)) (neN (by omega))))
theorem read_snoc {w : World} {p : Program} {loose : List Str} {mean : ExcName → Option Value} {mg mb : Str → Option Value} {dp un : Nat} {gd : Option (List Code)} {cn : Str} {cs : Scope} {a : Addr} {ccd : Value} {cl : List (Str × Addr)} {outer : List Env} {A₀ : Around} {base h₀ : Heap} {L : Addr} {m : Str → Option Value} {news : List (Addr × Obj)} {s : Shared} {Q E : Value → Shared → Prop} {x d l : Addr} {k1 k2 k3 k4 k5 : Tok} {nm fa re : Value} {tu day val : Int} {t3 t4 t5 : Tok} {n : Nat} {news1 : List (Addr × Obj)} {g1 : Obj → List (Addr × Obj)} {vs : List Value} {D0 : Addr} {day0 val0 : Int} {t6 t7 : Tok} {u0 : Value} {c0 : Nat}
    (B : Below A₀ base outer h₀) (F : Fr h₀ L s.heap m) (X : (HD.K w.params).In h₀) (N : News h₀ L s.heap news) (T : Top p loose mean mg mb h₀) (hk : cs.kind = .function) (ex : (x, instObj 161 d) ∈ news) (U2 : Upd d (meterD w.params k1 k2 k3 k4 k5 nm (.int tu t3) fa (.ref l) re) (meterD w.params k1 k2 k3 k4 k5 nm (.int tu t3) fa (.ref l) (.ref 56)) news news1) (U1 : UpdF l (listOf (vs ++ [Value.ref D0]).toArray n) news1 g1) (ndx : d ≠ x) (nlx : l ≠ x) (nld : l ≠ d) (e0 : s.heap.get? D0 = some (Row day0 val0 t6 t7 u0 c0)) (n0 : D0 ≠ x ∧ D0 ≠ d ∧ D0 ≠ l) (hlen : vs.length < 100000) (h5 : day0 < day)
    (hd : dp + 8 < recursionLimit) (h1 : 1 ≤ day) (h2 : day ≤ 10000000) (h3 : 0 ≤ val) (h4 : val < tu)
    (hret : ∀ (D : Addr) (c n' : Nat) (h' : Heap) (tk' : Nat), Fr h₀ L h' m → News h₀ L h' ((D, Row day val t4 t5 .none c) :: g1 (listOf ((vs ++ [Value.ref D0]) ++ [Value.ref D]).toArray n')) → (∀ p ∈ news, p.1 ≠ D) → Q .none { s with heap := h', toks := tk' }) :
    wpAny (model PySem.Challenge.rw_ui0509_07.row.prog w) (ktrTop dp un gd cn cs L a ccd cl outer) (call (.ref 130) [.ref x, .int day t4, .int val t5]) Q E s := by
  replace ndx := neN ndx; replace nlx := neN nlx; replace nld := neN nld
  w_top off
  revert X; k_fill; intro X
  refine wpAny_call ?_
  k_dflt (refine' code_need [(x, instObj 161 d), (d, meterD w.params k1 k2 k3 k4 k5 nm (.int tu t3) fa (.ref l) re), (l, listOf (vs ++ [Value.ref D0]).toArray n)] ?k1 ?k2 ?k3 ?k4 ?k5 ?kA ?kF ?kK ?k6 ?k7 ?k8 ?k9 ?kB ?kN ?_ ?c2 ?c3 ?c4 ?c5; (case kA => exact rfl); (case kF => exact rfl); (case kK => assumption); (case k1 => k_asm); (case k2 => k_asm); (case k3 => k_asm); (case k4 => k_asm); (case k5 => k_asm); (case k6 => k_is); (case k7 => k_is); (case k8 => ktr_room); (case k9 => first | exact BindsTo.of_eq rfl | exact binds_K (by k_in) rfl (by k_is) rfl rfl rfl); (case c5 => decide); (case kB => exact locs rfl); (case kN => exact three_in ex (Upd.mem U2) (Upd.other U2 (UpdF.mem U1) nld)); (case c2 => exact rfl); (case c3 => exact rfl); (case c4 => exact rfl); k_whole; intro g' L' h' tk0 FG' F' N' B' X' T' hG'; (try dsimp only); (try k_fold))
  replace e0 := hG' _ _ e0 (by simp only [List.map_cons, List.map_nil, List.mem_cons, List.not_mem_nil, or_false, not_or]; exact n0)
  k_steps
  all_goals (refine leaveN_ (by k_asm) (by k_asm) ?_; intro kF kN kR kD; (try dsimp only); simp only [List.push_toArray] at kN; exact hret _ _ _ _ _ kF (news_cons kN (List.mem_cons_self ..) (news_upd2 N ex U2 U1 kN (by k_mem) (by k_mem) (by k_mem) kR)) (ne_three kD (List.mem_cons_self ..) (neN (by omega)) (neN (by omega)) (neN (by omega))))
theorem raisedK_mono {base : Heap} {l : List Env} {e : Addr} {cls : Value} {t : Addr} {vs : List Value} {news news' : List (Addr × Obj)} {h : Heap} (k : ∀ p ∈ news', p ∈ news) (R : RaisedK base l e cls t vs news h) : RaisedK base l e cls t vs news' h := by
  obtain ⟨⟨B, a, b, c, d⟩, f⟩ := R
  exact ⟨⟨B, a, fun q hq => b q (k q hq), c, d⟩, f⟩
theorem shown_1000 {w : World} {p : Program} {loose : List Str} {mean : ExcName → Option Value} {mg mb : Str → Option Value} {dp un : Nat} {gd : Option (List Code)} {cn : Str} {cs : Scope} {a : Addr} {ccd : Value} {cl : List (Str × Addr)} {outer : List Env} {A₀ : Around} {base h₀ : Heap} {L : Addr} {m : Str → Option Value} {news : List (Addr × Obj)} {s : Shared} {Q E : Value → Shared → Prop} {t4 : Tok}
    (B : Below A₀ base outer h₀) (F : Fr h₀ L s.heap m) (X : (HD.K w.params).In h₀) (N : News h₀ L s.heap news) (T : Top p loose mean mg mb h₀) (hk : cs.kind = .function) (hd : dp + 4 < recursionLimit) (hu : un + 100 < cLine)
    (hret : ∀ (u : Tok) (h' : Heap) (tk' : Nat), Fr h₀ L h' m → News h₀ L h' news → Q (.str (Str.ofString "1000") u) { s with heap := h', toks := tk' }) :
    wpAny (model PySem.Challenge.rw_ui0509_07.row.prog w) (ktrTop dp un gd cn cs L a ccd cl outer) (call (.ref 48) [.int 1000 t4]) Q E s := by
  w_top off
  revert X; k_fill; intro X
  refine wpAny_call ?_
  k_dflt (refine' code_need [] ?k1 ?k2 ?k3 ?k4 ?k5 ?kA ?kF ?kK ?k6 ?k7 ?k8 ?k9 ?kB ?kN ?_ ?c2 ?c3 ?c4 ?c5; (case kA => exact rfl); (case kF => exact rfl); (case kK => assumption); (case k1 => k_asm); (case k2 => k_asm); (case k3 => k_asm); (case k4 => k_asm); (case k5 => k_asm); (case k6 => k_is); (case k7 => k_is); (case k8 => ktr_room); (case k9 => first | exact BindsTo.of_eq rfl | exact binds_K (by k_in) rfl (by k_is) rfl rfl rfl); (case c5 => decide); (case kB => exact locs rfl); (case kN => exact fun _ h => nomatch h); (case c2 => exact rfl); (case c3 => exact rfl); (case c4 => exact rfl); k_whole; intro g' L' h' tk0 FG' F' N' B' X' T' hG'; (try dsimp only); (try k_fold))
  k_steps
  all_goals (refine leaveN_ (by k_asm) (by k_asm) ?_; intro kF kN kR kD; (try dsimp only); exact hret _ _ _ kF (news_all kR))
theorem shown_m1 {w : World} {p : Program} {loose : List Str} {mean : ExcName → Option Value} {mg mb : Str → Option Value} {dp un : Nat} {gd : Option (List Code)} {cn : Str} {cs : Scope} {a : Addr} {ccd : Value} {cl : List (Str × Addr)} {outer : List Env} {A₀ : Around} {base h₀ : Heap} {L : Addr} {m : Str → Option Value} {news : List (Addr × Obj)} {s : Shared} {Q E : Value → Shared → Prop} {t4 : Tok}
    (B : Below A₀ base outer h₀) (F : Fr h₀ L s.heap m) (X : (HD.K w.params).In h₀) (N : News h₀ L s.heap news) (T : Top p loose mean mg mb h₀) (hk : cs.kind = .function) (hd : dp + 4 < recursionLimit) (hu : un + 100 < cLine)
    (hret : ∀ (u : Tok) (h' : Heap) (tk' : Nat), Fr h₀ L h' m → News h₀ L h' news → Q (.str (Str.ofString "-1") u) { s with heap := h', toks := tk' }) :
    wpAny (model PySem.Challenge.rw_ui0509_07.row.prog w) (ktrTop dp un gd cn cs L a ccd cl outer) (call (.ref 48) [.int (-1) t4]) Q E s := by
  w_top off
  revert X; k_fill; intro X
  refine wpAny_call ?_
  k_dflt (refine' code_need [] ?k1 ?k2 ?k3 ?k4 ?k5 ?kA ?kF ?kK ?k6 ?k7 ?k8 ?k9 ?kB ?kN ?_ ?c2 ?c3 ?c4 ?c5; (case kA => exact rfl); (case kF => exact rfl); (case kK => assumption); (case k1 => k_asm); (case k2 => k_asm); (case k3 => k_asm); (case k4 => k_asm); (case k5 => k_asm); (case k6 => k_is); (case k7 => k_is); (case k8 => ktr_room); (case k9 => first | exact BindsTo.of_eq rfl | exact binds_K (by k_in) rfl (by k_is) rfl rfl rfl); (case c5 => decide); (case kB => exact locs rfl); (case kN => exact fun _ h => nomatch h); (case c2 => exact rfl); (case c3 => exact rfl); (case c4 => exact rfl); k_whole; intro g' L' h' tk0 FG' F' N' B' X' T' hG'; (try dsimp only); (try k_fold))
  k_steps
  all_goals (refine leaveN_ (by k_asm) (by k_asm) ?_; intro kF kN kR kD; (try dsimp only); exact hret _ _ _ kF (news_all kR))
theorem shown_0 {w : World} {p : Program} {loose : List Str} {mean : ExcName → Option Value} {mg mb : Str → Option Value} {dp un : Nat} {gd : Option (List Code)} {cn : Str} {cs : Scope} {a : Addr} {ccd : Value} {cl : List (Str × Addr)} {outer : List Env} {A₀ : Around} {base h₀ : Heap} {L : Addr} {m : Str → Option Value} {news : List (Addr × Obj)} {s : Shared} {Q E : Value → Shared → Prop} {t4 : Tok}
    (B : Below A₀ base outer h₀) (F : Fr h₀ L s.heap m) (X : (HD.K w.params).In h₀) (N : News h₀ L s.heap news) (T : Top p loose mean mg mb h₀) (hk : cs.kind = .function) (hd : dp + 4 < recursionLimit) (hu : un + 100 < cLine)
    (hret : ∀ (u : Tok) (h' : Heap) (tk' : Nat), Fr h₀ L h' m → News h₀ L h' news → Q (.str (Str.ofString "0") u) { s with heap := h', toks := tk' }) :
    wpAny (model PySem.Challenge.rw_ui0509_07.row.prog w) (ktrTop dp un gd cn cs L a ccd cl outer) (call (.ref 48) [.int 0 t4]) Q E s := by
  w_top off
  revert X; k_fill; intro X
  refine wpAny_call ?_
  k_dflt (refine' code_need [] ?k1 ?k2 ?k3 ?k4 ?k5 ?kA ?kF ?kK ?k6 ?k7 ?k8 ?k9 ?kB ?kN ?_ ?c2 ?c3 ?c4 ?c5; (case kA => exact rfl); (case kF => exact rfl); (case kK => assumption); (case k1 => k_asm); (case k2 => k_asm); (case k3 => k_asm); (case k4 => k_asm); (case k5 => k_asm); (case k6 => k_is); (case k7 => k_is); (case k8 => ktr_room); (case k9 => first | exact BindsTo.of_eq rfl | exact binds_K (by k_in) rfl (by k_is) rfl rfl rfl); (case c5 => decide); (case kB => exact locs rfl); (case kN => exact fun _ h => nomatch h); (case c2 => exact rfl); (case c3 => exact rfl); (case c4 => exact rfl); k_whole; intro g' L' h' tk0 FG' F' N' B' X' T' hG'; (try dsimp only); (try k_fold))
  k_steps
  all_goals (refine leaveN_ (by k_asm) (by k_asm) ?_; intro kF kN kR kD; (try dsimp only); exact hret _ _ _ kF (news_all kR))
local macro_rules | `(tactic| walk_at "call ref") => `(tactic| (k_here; (with_reducible show wpAny _ _ (call (Value.ref 48) [Value.int 1000 _]) _ _ _); k_dflt (refine' shown_1000 ?k1 ?k2 ?k3 ?k4 ?k5 ?k6 ?k7 ?k8 ?_; (case k1 => k_asm); (case k2 => k_asm); (case k3 => k_asm); (case k4 => k_asm); (case k5 => k_asm); (case k6 => first | exact rfl | assumption); (case k7 => first | exact Nat.le_of_ble_eq_true rfl | ktr_room); (case k8 => first | exact Nat.le_of_ble_eq_true rfl | ktr_units); k_whole); intro u' h' tk' F' N'; (try k_sweep)))
local macro_rules | `(tactic| walk_at "call ref") => `(tactic| (k_here; (with_reducible show wpAny _ _ (call (Value.ref 48) [Value.int (-1) _]) _ _ _); k_dflt (refine' shown_m1 ?k1 ?k2 ?k3 ?k4 ?k5 ?k6 ?k7 ?k8 ?_; (case k1 => k_asm); (case k2 => k_asm); (case k3 => k_asm); (case k4 => k_asm); (case k5 => k_asm); (case k6 => first | exact rfl | assumption); (case k7 => first | exact Nat.le_of_ble_eq_true rfl | ktr_room); (case k8 => first | exact Nat.le_of_ble_eq_true rfl | ktr_units); k_whole); intro u' h' tk' F' N'; (try k_sweep)))
local macro_rules | `(tactic| walk_at "call ref") => `(tactic| (k_here; (with_reducible show wpAny _ _ (call (Value.ref 48) [Value.int 0 _]) _ _ _); k_dflt (refine' shown_0 ?k1 ?k2 ?k3 ?k4 ?k5 ?k6 ?k7 ?k8 ?_; (case k1 => k_asm); (case k2 => k_asm); (case k3 => k_asm); (case k4 => k_asm); (case k5 => k_asm); (case k6 => first | exact rfl | assumption); (case k7 => first | exact Nat.le_of_ble_eq_true rfl | ktr_room); (case k8 => first | exact Nat.le_of_ble_eq_true rfl | ktr_units); k_whole); intro u' h' tk' F' N'; (try k_sweep)))
theorem num_r1000 {w : World} {p : Program} {loose : List Str} {mean : ExcName → Option Value} {mg mb : Str → Option Value} {dp un : Nat} {gd : Option (List Code)} {cn : Str} {cs : Scope} {a : Addr} {ccd : Value} {cl : List (Str × Addr)} {outer : List Env} {A₀ : Around} {base h₀ : Heap} {L : Addr} {m : Str → Option Value} {news : List (Addr × Obj)} {s : Shared} {Q E : Value → Shared → Prop} {lo hi : Int} {t4 t5 t6 t7 : Tok}
    (B : Below A₀ base outer h₀) (F : Fr h₀ L s.heap m) (X : (HD.K w.params).In h₀) (N : News h₀ L s.heap news) (T : Top p loose mean mg mb h₀) (hk : cs.kind = .function) (h : hi < 1000) (hd : dp + 8 < recursionLimit) (hu : un + 150 < cLine)
    (hE : ∀ (g : Heap) (e t : Addr) (u : Tok) (h' : Heap) (tk' : Nat), Fr h₀ L g m → g.UpToSlots h' → RaisedK base (envX cn cs L a ccd cl :: outer) e (.ref 31) t [.str (Str.ofString "no reading: 1000") u] news h' → E (.ref e) { s with heap := h', toks := tk' }) :
    wpAny (model PySem.Challenge.rw_ui0509_07.row.prog w) (ktrTop dp un gd cn cs L a ccd cl outer) (call (.ref 41) [.int 1000 t4, .int lo t5, .int hi t6, .str (Str.ofString "reading") t7]) Q E s := by
  w_top off
  revert X; k_fill; intro X
  refine wpAny_call ?_
  k_dflt (refine' code_need news ?k1 ?k2 ?k3 ?k4 ?k5 ?kA ?kF ?kK ?k6 ?k7 ?k8 ?k9 ?kB ?kN ?_ ?c2 ?c3 ?c4 ?c5; (case kA => exact rfl); (case kF => exact rfl); (case kK => assumption); (case k1 => k_asm); (case k2 => k_asm); (case k3 => k_asm); (case k4 => k_asm); (case k5 => k_asm); (case k6 => k_is); (case k7 => k_is); (case k8 => ktr_room); (case k9 => first | exact BindsTo.of_eq rfl | exact binds_K (by k_in) rfl (by k_is) rfl rfl rfl); (case c5 => decide); (case kB => exact locs rfl); (case kN => exact fun _ h => h); (case c2 => exact rfl); (case c3 => exact rfl); (case c4 => exact rfl); k_whole; intro g' L' h' tk0 FG' F' N' B' X' T' hG'; (try dsimp only); (try k_fold))
  k_steps
  all_goals exact hE _ _ _ _ _ _ (by assumption) (by assumption) (by assumption)
theorem num_rm1 {w : World} {p : Program} {loose : List Str} {mean : ExcName → Option Value} {mg mb : Str → Option Value} {dp un : Nat} {gd : Option (List Code)} {cn : Str} {cs : Scope} {a : Addr} {ccd : Value} {cl : List (Str × Addr)} {outer : List Env} {A₀ : Around} {base h₀ : Heap} {L : Addr} {m : Str → Option Value} {news : List (Addr × Obj)} {s : Shared} {Q E : Value → Shared → Prop} {lo hi : Int} {t4 t5 t6 t7 : Tok}
    (B : Below A₀ base outer h₀) (F : Fr h₀ L s.heap m) (X : (HD.K w.params).In h₀) (N : News h₀ L s.heap news) (T : Top p loose mean mg mb h₀) (hk : cs.kind = .function) (h : -1 < lo) (hd : dp + 8 < recursionLimit) (hu : un + 150 < cLine)
    (hE : ∀ (g : Heap) (e t : Addr) (u : Tok) (h' : Heap) (tk' : Nat), Fr h₀ L g m → g.UpToSlots h' → RaisedK base (envX cn cs L a ccd cl :: outer) e (.ref 31) t [.str (Str.ofString "no reading: -1") u] news h' → E (.ref e) { s with heap := h', toks := tk' }) :
    wpAny (model PySem.Challenge.rw_ui0509_07.row.prog w) (ktrTop dp un gd cn cs L a ccd cl outer) (call (.ref 41) [.int (-1) t4, .int lo t5, .int hi t6, .str (Str.ofString "reading") t7]) Q E s := by
  w_top off
  revert X; k_fill; intro X
  refine wpAny_call ?_
  k_dflt (refine' code_need news ?k1 ?k2 ?k3 ?k4 ?k5 ?kA ?kF ?kK ?k6 ?k7 ?k8 ?k9 ?kB ?kN ?_ ?c2 ?c3 ?c4 ?c5; (case kA => exact rfl); (case kF => exact rfl); (case kK => assumption); (case k1 => k_asm); (case k2 => k_asm); (case k3 => k_asm); (case k4 => k_asm); (case k5 => k_asm); (case k6 => k_is); (case k7 => k_is); (case k8 => ktr_room); (case k9 => first | exact BindsTo.of_eq rfl | exact binds_K (by k_in) rfl (by k_is) rfl rfl rfl); (case c5 => decide); (case kB => exact locs rfl); (case kN => exact fun _ h => h); (case c2 => exact rfl); (case c3 => exact rfl); (case c4 => exact rfl); k_whole; intro g' L' h' tk0 FG' F' N' B' X' T' hG'; (try dsimp only); (try k_fold))
  k_steps
  all_goals exact hE _ _ _ _ _ _ (by assumption) (by assumption) (by assumption)
theorem num_d0 {w : World} {p : Program} {loose : List Str} {mean : ExcName → Option Value} {mg mb : Str → Option Value} {dp un : Nat} {gd : Option (List Code)} {cn : Str} {cs : Scope} {a : Addr} {ccd : Value} {cl : List (Str × Addr)} {outer : List Env} {A₀ : Around} {base h₀ : Heap} {L : Addr} {m : Str → Option Value} {news : List (Addr × Obj)} {s : Shared} {Q E : Value → Shared → Prop} {lo hi : Int} {t4 t5 t6 t7 : Tok}
    (B : Below A₀ base outer h₀) (F : Fr h₀ L s.heap m) (X : (HD.K w.params).In h₀) (N : News h₀ L s.heap news) (T : Top p loose mean mg mb h₀) (hk : cs.kind = .function) (h : 0 < lo) (hd : dp + 8 < recursionLimit) (hu : un + 150 < cLine)
    (hE : ∀ (g : Heap) (e t : Addr) (u : Tok) (h' : Heap) (tk' : Nat), Fr h₀ L g m → g.UpToSlots h' → RaisedK base (envX cn cs L a ccd cl :: outer) e (.ref 31) t [.str (Str.ofString "no day: 0") u] news h' → E (.ref e) { s with heap := h', toks := tk' }) :
    wpAny (model PySem.Challenge.rw_ui0509_07.row.prog w) (ktrTop dp un gd cn cs L a ccd cl outer) (call (.ref 41) [.int 0 t4, .int lo t5, .int hi t6, .str (Str.ofString "day") t7]) Q E s := by
  w_top off
  revert X; k_fill; intro X
  refine wpAny_call ?_
  k_dflt (refine' code_need news ?k1 ?k2 ?k3 ?k4 ?k5 ?kA ?kF ?kK ?k6 ?k7 ?k8 ?k9 ?kB ?kN ?_ ?c2 ?c3 ?c4 ?c5; (case kA => exact rfl); (case kF => exact rfl); (case kK => assumption); (case k1 => k_asm); (case k2 => k_asm); (case k3 => k_asm); (case k4 => k_asm); (case k5 => k_asm); (case k6 => k_is); (case k7 => k_is); (case k8 => ktr_room); (case k9 => first | exact BindsTo.of_eq rfl | exact binds_K (by k_in) rfl (by k_is) rfl rfl rfl); (case c5 => decide); (case kB => exact locs rfl); (case kN => exact fun _ h => h); (case c2 => exact rfl); (case c3 => exact rfl); (case c4 => exact rfl); k_whole; intro g' L' h' tk0 FG' F' N' B' X' T' hG'; (try dsimp only); (try k_fold))
  k_steps
  all_goals exact hE _ _ _ _ _ _ (by assumption) (by assumption) (by assumption)
theorem num_dm1 {w : World} {p : Program} {loose : List Str} {mean : ExcName → Option Value} {mg mb : Str → Option Value} {dp un : Nat} {gd : Option (List Code)} {cn : Str} {cs : Scope} {a : Addr} {ccd : Value} {cl : List (Str × Addr)} {outer : List Env} {A₀ : Around} {base h₀ : Heap} {L : Addr} {m : Str → Option Value} {news : List (Addr × Obj)} {s : Shared} {Q E : Value → Shared → Prop} {lo hi : Int} {t4 t5 t6 t7 : Tok}
    (B : Below A₀ base outer h₀) (F : Fr h₀ L s.heap m) (X : (HD.K w.params).In h₀) (N : News h₀ L s.heap news) (T : Top p loose mean mg mb h₀) (hk : cs.kind = .function) (h : -1 < lo) (hd : dp + 8 < recursionLimit) (hu : un + 150 < cLine)
    (hE : ∀ (g : Heap) (e t : Addr) (u : Tok) (h' : Heap) (tk' : Nat), Fr h₀ L g m → g.UpToSlots h' → RaisedK base (envX cn cs L a ccd cl :: outer) e (.ref 31) t [.str (Str.ofString "no day: -1") u] news h' → E (.ref e) { s with heap := h', toks := tk' }) :
    wpAny (model PySem.Challenge.rw_ui0509_07.row.prog w) (ktrTop dp un gd cn cs L a ccd cl outer) (call (.ref 41) [.int (-1) t4, .int lo t5, .int hi t6, .str (Str.ofString "day") t7]) Q E s := by
  w_top off
  revert X; k_fill; intro X
  refine wpAny_call ?_
  k_dflt (refine' code_need news ?k1 ?k2 ?k3 ?k4 ?k5 ?kA ?kF ?kK ?k6 ?k7 ?k8 ?k9 ?kB ?kN ?_ ?c2 ?c3 ?c4 ?c5; (case kA => exact rfl); (case kF => exact rfl); (case kK => assumption); (case k1 => k_asm); (case k2 => k_asm); (case k3 => k_asm); (case k4 => k_asm); (case k5 => k_asm); (case k6 => k_is); (case k7 => k_is); (case k8 => ktr_room); (case k9 => first | exact BindsTo.of_eq rfl | exact binds_K (by k_in) rfl (by k_is) rfl rfl rfl); (case c5 => decide); (case kB => exact locs rfl); (case kN => exact fun _ h => h); (case c2 => exact rfl); (case c3 => exact rfl); (case c4 => exact rfl); k_whole; intro g' L' h' tk0 FG' F' N' B' X' T' hG'; (try dsimp only); (try k_fold))
  k_steps
  all_goals exact hE _ _ _ _ _ _ (by assumption) (by assumption) (by assumption)
local macro_rules | `(tactic| walk_at "call builtin:len") => `(tactic| (k_here; (with_reducible show wpAny _ _ (call (Value.builtin "len") [Value.ref _]) _ _ _); k_dflt (refine' lst_len ?k1 ?k2 ?k3 ?_; (case k1 => k_asm); (case k2 => k_mem); (case k3 => ((try simp only [List.length_append, List.length_cons, List.length_nil]); omega)); k_whole); intro tk9; (try simp only [List.length_append, List.length_cons, List.length_nil])))
local macro_rules | `(tactic| walk_at "call ref") => `(tactic| (k_here; (with_reducible show wpAny _ _ (call (Value.ref 41) [Value.int 1000 _, Value.int _ _, Value.int _ _, Value.str (PySem.Str.ofString "reading") _]) _ _ _); k_dflt (refine' num_r1000 ?k1 ?k2 ?k3 ?k4 ?k5 ?k6 ?h1 ?k7 ?k8 ?_; (case k1 => k_asm); (case k2 => k_asm); (case k3 => k_asm); (case k4 => k_asm); (case k5 => k_asm); (case k6 => first | exact rfl | assumption); (case k7 => first | exact Nat.le_of_ble_eq_true rfl | ktr_room); (case k8 => first | exact Nat.le_of_ble_eq_true rfl | ktr_units); (case h1 => first | decide | omega); k_whole); intro g' e' t' u' h' tk' F' U' R'))
local macro_rules | `(tactic| walk_at "call ref") => `(tactic| (k_here; (with_reducible show wpAny _ _ (call (Value.ref 41) [Value.int (-1) _, Value.int _ _, Value.int _ _, Value.str (PySem.Str.ofString "reading") _]) _ _ _); k_dflt (refine' num_rm1 ?k1 ?k2 ?k3 ?k4 ?k5 ?k6 ?h1 ?k7 ?k8 ?_; (case k1 => k_asm); (case k2 => k_asm); (case k3 => k_asm); (case k4 => k_asm); (case k5 => k_asm); (case k6 => first | exact rfl | assumption); (case k7 => first | exact Nat.le_of_ble_eq_true rfl | ktr_room); (case k8 => first | exact Nat.le_of_ble_eq_true rfl | ktr_units); (case h1 => first | decide | omega); k_whole); intro g' e' t' u' h' tk' F' U' R'))
local macro_rules | `(tactic| walk_at "call ref") => `(tactic| (k_here; (with_reducible show wpAny _ _ (call (Value.ref 41) [Value.int 0 _, Value.int _ _, Value.int _ _, Value.str (PySem.Str.ofString "day") _]) _ _ _); k_dflt (refine' num_d0 ?k1 ?k2 ?k3 ?k4 ?k5 ?k6 ?h1 ?k7 ?k8 ?_; (case k1 => k_asm); (case k2 => k_asm); (case k3 => k_asm); (case k4 => k_asm); (case k5 => k_asm); (case k6 => first | exact rfl | assumption); (case k7 => first | exact Nat.le_of_ble_eq_true rfl | ktr_room); (case k8 => first | exact Nat.le_of_ble_eq_true rfl | ktr_units); (case h1 => first | decide | omega); k_whole); intro g' e' t' u' h' tk' F' U' R'))
local macro_rules | `(tactic| walk_at "call ref") => `(tactic| (k_here; (with_reducible show wpAny _ _ (call (Value.ref 41) [Value.int (-1) _, Value.int _ _, Value.int _ _, Value.str (PySem.Str.ofString "day") _]) _ _ _); k_dflt (refine' num_dm1 ?k1 ?k2 ?k3 ?k4 ?k5 ?k6 ?h1 ?k7 ?k8 ?_; (case k1 => k_asm); (case k2 => k_asm); (case k3 => k_asm); (case k4 => k_asm); (case k5 => k_asm); (case k6 => first | exact rfl | assumption); (case k7 => first | exact Nat.le_of_ble_eq_true rfl | ktr_room); (case k8 => first | exact Nat.le_of_ble_eq_true rfl | ktr_units); (case h1 => first | decide | omega); k_whole); intro g' e' t' u' h' tk' F' U' R'))
theorem read_late {w : World} {p : Program} {loose : List Str} {mean : ExcName → Option Value} {mg mb : Str → Option Value} {dp un : Nat} {gd : Option (List Code)} {cn : Str} {cs : Scope} {a : Addr} {ccd : Value} {cl : List (Str × Addr)} {outer : List Env} {A₀ : Around} {base h₀ : Heap} {L : Addr} {m : Str → Option Value} {s : Shared} {Q E : Value → Shared → Prop} {x d l : Addr} {k1 k2 k3 k4 k5 ta tb t4 t5 : Tok} {fa re : Value} {tl : List (Addr × Obj)} {vs : List Value} {D0 : Addr} {day day0 val val0 : Int} {t6 t7 : Tok} {u0 : Value} {c0 n : Nat}
    (B : Below A₀ base outer h₀) (F : Fr h₀ L s.heap m) (X : (HD.K w.params).In h₀) (N : News h₀ L s.heap ((x, instObj 161 d) :: (d, meterD w.params k1 k2 k3 k4 k5 (.str (Str.ofString "m") ta) (.int 1000 tb) fa (.ref l) re) :: (l, listOf (vs ++ [Value.ref D0]).toArray n) :: (D0, Row day0 val0 t6 t7 u0 c0) :: tl)) (T : Top p loose mean mg mb h₀) (hk : cs.kind = .function)
    (h1 : 1 ≤ day) (h2 : day ≤ 10000000) (h3 : 0 ≤ val) (h4 : val < 1000) (h5 : day ≤ day0) (hlen : vs.length ≤ 1000) (hd : dp + 12 < recursionLimit) (hu : un + 200 < cLine)
    (hE : ∀ (g : Heap) (e t : Addr) (u : Tok) (h' : Heap) (tk' : Nat), Fr h₀ L g m → g.UpToSlots h' → RaisedK base (envX cn cs L a ccd cl :: outer) e (.ref 31) t [.str (Str.ofString "a reading that is not later: m") u] ((x, instObj 161 d) :: (d, meterD w.params k1 k2 k3 k4 k5 (.str (Str.ofString "m") ta) (.int 1000 tb) fa (.ref l) re) :: (l, listOf (vs ++ [Value.ref D0]).toArray n) :: (D0, Row day0 val0 t6 t7 u0 c0) :: tl) h' → E (.ref e) { s with heap := h', toks := tk' }) :
    wpAny (model PySem.Challenge.rw_ui0509_07.row.prog w) (ktrTop dp un gd cn cs L a ccd cl outer) (call (.ref 130) [.ref x, .int day t4, .int val t5]) Q E s := by
  w_top off
  revert X; k_fill; intro X
  refine wpAny_call ?_
  k_dflt (refine' code_need ((x, instObj 161 d) :: (d, meterD w.params k1 k2 k3 k4 k5 (.str (Str.ofString "m") ta) (.int 1000 tb) fa (.ref l) re) :: (l, listOf (vs ++ [Value.ref D0]).toArray n) :: (D0, Row day0 val0 t6 t7 u0 c0) :: tl) ?k1 ?k2 ?k3 ?k4 ?k5 ?kA ?kF ?kK ?k6 ?k7 ?k8 ?k9 ?kB ?kN ?_ ?c2 ?c3 ?c4 ?c5; (case kA => exact rfl); (case kF => exact rfl); (case kK => assumption); (case k1 => k_asm); (case k2 => k_asm); (case k3 => k_asm); (case k4 => k_asm); (case k5 => k_asm); (case k6 => k_is); (case k7 => k_is); (case k8 => ktr_room); (case k9 => first | exact BindsTo.of_eq rfl | exact binds_K (by k_in) rfl (by k_is) rfl rfl rfl); (case c5 => decide); (case kB => exact locs rfl); (case kN => exact fun _ h => h); (case c2 => exact rfl); (case c3 => exact rfl); (case c4 => exact rfl); k_whole; intro g' L' h' tk0 FG' F' N' B' X' T' hG'; (try dsimp only); (try k_fold))
  k_steps
  all_goals exact hE _ _ _ _ _ _ (by assumption) (by assumption) (by assumption)
theorem read_v1 {w : World} {p : Program} {loose : List Str} {mean : ExcName → Option Value} {mg mb : Str → Option Value} {dp un : Nat} {gd : Option (List Code)} {cn : Str} {cs : Scope} {a : Addr} {ccd : Value} {cl : List (Str × Addr)} {outer : List Env} {A₀ : Around} {base h₀ : Heap} {L : Addr} {m : Str → Option Value} {s : Shared} {Q E : Value → Shared → Prop} {x d l : Addr} {k1 k2 k3 k4 k5 ta tb t4 t5 : Tok} {fa re : Value} {tl : List (Addr × Obj)} {day : Int}
    (B : Below A₀ base outer h₀) (F : Fr h₀ L s.heap m) (X : (HD.K w.params).In h₀) (N : News h₀ L s.heap ((x, instObj 161 d) :: (d, meterD w.params k1 k2 k3 k4 k5 (.str (Str.ofString "m") ta) (.int 1000 tb) fa (.ref l) re) :: tl)) (T : Top p loose mean mg mb h₀) (hk : cs.kind = .function)
    (h1 : 1 ≤ day) (h2 : day ≤ 10000000) (hd : dp + 12 < recursionLimit) (hu : un + 200 < cLine)
    (hE : ∀ (g : Heap) (e t : Addr) (u : Tok) (h' : Heap) (tk' : Nat), Fr h₀ L g m → g.UpToSlots h' → RaisedK base (envX cn cs L a ccd cl :: outer) e (.ref 31) t [.str (Str.ofString "no reading: 1000") u] ((x, instObj 161 d) :: (d, meterD w.params k1 k2 k3 k4 k5 (.str (Str.ofString "m") ta) (.int 1000 tb) fa (.ref l) re) :: tl) h' → E (.ref e) { s with heap := h', toks := tk' }) :
    wpAny (model PySem.Challenge.rw_ui0509_07.row.prog w) (ktrTop dp un gd cn cs L a ccd cl outer) (call (.ref 130) [.ref x, .int day t4, .int 1000 t5]) Q E s := by
  w_top off
  revert X; k_fill; intro X
  refine wpAny_call ?_
  k_dflt (refine' code_need ((x, instObj 161 d) :: (d, meterD w.params k1 k2 k3 k4 k5 (.str (Str.ofString "m") ta) (.int 1000 tb) fa (.ref l) re) :: tl) ?k1 ?k2 ?k3 ?k4 ?k5 ?kA ?kF ?kK ?k6 ?k7 ?k8 ?k9 ?kB ?kN ?_ ?c2 ?c3 ?c4 ?c5; (case kA => exact rfl); (case kF => exact rfl); (case kK => assumption); (case k1 => k_asm); (case k2 => k_asm); (case k3 => k_asm); (case k4 => k_asm); (case k5 => k_asm); (case k6 => k_is); (case k7 => k_is); (case k8 => ktr_room); (case k9 => first | exact BindsTo.of_eq rfl | exact binds_K (by k_in) rfl (by k_is) rfl rfl rfl); (case c5 => decide); (case kB => exact locs rfl); (case kN => exact fun _ h => h); (case c2 => exact rfl); (case c3 => exact rfl); (case c4 => exact rfl); k_whole; intro g' L' h' tk0 FG' F' N' B' X' T' hG'; (try dsimp only); (try k_fold))
  k_steps
  all_goals exact hE _ _ _ _ _ _ (by assumption) (by assumption) (by assumption)
theorem read_v2 {w : World} {p : Program} {loose : List Str} {mean : ExcName → Option Value} {mg mb : Str → Option Value} {dp un : Nat} {gd : Option (List Code)} {cn : Str} {cs : Scope} {a : Addr} {ccd : Value} {cl : List (Str × Addr)} {outer : List Env} {A₀ : Around} {base h₀ : Heap} {L : Addr} {m : Str → Option Value} {s : Shared} {Q E : Value → Shared → Prop} {x d l : Addr} {k1 k2 k3 k4 k5 ta tb t4 t5 : Tok} {fa re : Value} {tl : List (Addr × Obj)} {day : Int}
    (B : Below A₀ base outer h₀) (F : Fr h₀ L s.heap m) (X : (HD.K w.params).In h₀) (N : News h₀ L s.heap ((x, instObj 161 d) :: (d, meterD w.params k1 k2 k3 k4 k5 (.str (Str.ofString "m") ta) (.int 1000 tb) fa (.ref l) re) :: tl)) (T : Top p loose mean mg mb h₀) (hk : cs.kind = .function)
    (h1 : 1 ≤ day) (h2 : day ≤ 10000000) (hd : dp + 12 < recursionLimit) (hu : un + 200 < cLine)
    (hE : ∀ (g : Heap) (e t : Addr) (u : Tok) (h' : Heap) (tk' : Nat), Fr h₀ L g m → g.UpToSlots h' → RaisedK base (envX cn cs L a ccd cl :: outer) e (.ref 31) t [.str (Str.ofString "no reading: -1") u] ((x, instObj 161 d) :: (d, meterD w.params k1 k2 k3 k4 k5 (.str (Str.ofString "m") ta) (.int 1000 tb) fa (.ref l) re) :: tl) h' → E (.ref e) { s with heap := h', toks := tk' }) :
    wpAny (model PySem.Challenge.rw_ui0509_07.row.prog w) (ktrTop dp un gd cn cs L a ccd cl outer) (call (.ref 130) [.ref x, .int day t4, .int (-1) t5]) Q E s := by
  w_top off
  revert X; k_fill; intro X
  refine wpAny_call ?_
  k_dflt (refine' code_need ((x, instObj 161 d) :: (d, meterD w.params k1 k2 k3 k4 k5 (.str (Str.ofString "m") ta) (.int 1000 tb) fa (.ref l) re) :: tl) ?k1 ?k2 ?k3 ?k4 ?k5 ?kA ?kF ?kK ?k6 ?k7 ?k8 ?k9 ?kB ?kN ?_ ?c2 ?c3 ?c4 ?c5; (case kA => exact rfl); (case kF => exact rfl); (case kK => assumption); (case k1 => k_asm); (case k2 => k_asm); (case k3 => k_asm); (case k4 => k_asm); (case k5 => k_asm); (case k6 => k_is); (case k7 => k_is); (case k8 => ktr_room); (case k9 => first | exact BindsTo.of_eq rfl | exact binds_K (by k_in) rfl (by k_is) rfl rfl rfl); (case c5 => decide); (case kB => exact locs rfl); (case kN => exact fun _ h => h); (case c2 => exact rfl); (case c3 => exact rfl); (case c4 => exact rfl); k_whole; intro g' L' h' tk0 FG' F' N' B' X' T' hG'; (try dsimp only); (try k_fold))
  k_steps
  all_goals exact hE _ _ _ _ _ _ (by assumption) (by assumption) (by assumption)
theorem read_d0 {w : World} {p : Program} {loose : List Str} {mean : ExcName → Option Value} {mg mb : Str → Option Value} {dp un : Nat} {gd : Option (List Code)} {cn : Str} {cs : Scope} {a : Addr} {ccd : Value} {cl : List (Str × Addr)} {outer : List Env} {A₀ : Around} {base h₀ : Heap} {L : Addr} {m : Str → Option Value} {s : Shared} {Q E : Value → Shared → Prop} {x d l : Addr} {k1 k2 k3 k4 k5 ta tb t4 t5 : Tok} {fa re : Value} {tl : List (Addr × Obj)} {val : Int}
    (B : Below A₀ base outer h₀) (F : Fr h₀ L s.heap m) (X : (HD.K w.params).In h₀) (N : News h₀ L s.heap ((x, instObj 161 d) :: (d, meterD w.params k1 k2 k3 k4 k5 (.str (Str.ofString "m") ta) (.int 1000 tb) fa (.ref l) re) :: tl)) (T : Top p loose mean mg mb h₀) (hk : cs.kind = .function)
     (hd : dp + 12 < recursionLimit) (hu : un + 200 < cLine)
    (hE : ∀ (g : Heap) (e t : Addr) (u : Tok) (h' : Heap) (tk' : Nat), Fr h₀ L g m → g.UpToSlots h' → RaisedK base (envX cn cs L a ccd cl :: outer) e (.ref 31) t [.str (Str.ofString "no day: 0") u] ((x, instObj 161 d) :: (d, meterD w.params k1 k2 k3 k4 k5 (.str (Str.ofString "m") ta) (.int 1000 tb) fa (.ref l) re) :: tl) h' → E (.ref e) { s with heap := h', toks := tk' }) :
    wpAny (model PySem.Challenge.rw_ui0509_07.row.prog w) (ktrTop dp un gd cn cs L a ccd cl outer) (call (.ref 130) [.ref x, .int 0 t4, .int val t5]) Q E s := by
  w_top off
  revert X; k_fill; intro X
  refine wpAny_call ?_
  k_dflt (refine' code_need ((x, instObj 161 d) :: (d, meterD w.params k1 k2 k3 k4 k5 (.str (Str.ofString "m") ta) (.int 1000 tb) fa (.ref l) re) :: tl) ?k1 ?k2 ?k3 ?k4 ?k5 ?kA ?kF ?kK ?k6 ?k7 ?k8 ?k9 ?kB ?kN ?_ ?c2 ?c3 ?c4 ?c5; (case kA => exact rfl); (case kF => exact rfl); (case kK => assumption); (case k1 => k_asm); (case k2 => k_asm); (case k3 => k_asm); (case k4 => k_asm); (case k5 => k_asm); (case k6 => k_is); (case k7 => k_is); (case k8 => ktr_room); (case k9 => first | exact BindsTo.of_eq rfl | exact binds_K (by k_in) rfl (by k_is) rfl rfl rfl); (case c5 => decide); (case kB => exact locs rfl); (case kN => exact fun _ h => h); (case c2 => exact rfl); (case c3 => exact rfl); (case c4 => exact rfl); k_whole; intro g' L' h' tk0 FG' F' N' B' X' T' hG'; (try dsimp only); (try k_fold))
  k_steps
  all_goals exact hE _ _ _ _ _ _ (by assumption) (by assumption) (by assumption)
theorem read_d1 {w : World} {p : Program} {loose : List Str} {mean : ExcName → Option Value} {mg mb : Str → Option Value} {dp un : Nat} {gd : Option (List Code)} {cn : Str} {cs : Scope} {a : Addr} {ccd : Value} {cl : List (Str × Addr)} {outer : List Env} {A₀ : Around} {base h₀ : Heap} {L : Addr} {m : Str → Option Value} {s : Shared} {Q E : Value → Shared → Prop} {x d l : Addr} {k1 k2 k3 k4 k5 ta tb t4 t5 : Tok} {fa re : Value} {tl : List (Addr × Obj)} {val : Int}
    (B : Below A₀ base outer h₀) (F : Fr h₀ L s.heap m) (X : (HD.K w.params).In h₀) (N : News h₀ L s.heap ((x, instObj 161 d) :: (d, meterD w.params k1 k2 k3 k4 k5 (.str (Str.ofString "m") ta) (.int 1000 tb) fa (.ref l) re) :: tl)) (T : Top p loose mean mg mb h₀) (hk : cs.kind = .function)
     (hd : dp + 12 < recursionLimit) (hu : un + 200 < cLine)
    (hE : ∀ (g : Heap) (e t : Addr) (u : Tok) (h' : Heap) (tk' : Nat), Fr h₀ L g m → g.UpToSlots h' → RaisedK base (envX cn cs L a ccd cl :: outer) e (.ref 31) t [.str (Str.ofString "no day: -1") u] ((x, instObj 161 d) :: (d, meterD w.params k1 k2 k3 k4 k5 (.str (Str.ofString "m") ta) (.int 1000 tb) fa (.ref l) re) :: tl) h' → E (.ref e) { s with heap := h', toks := tk' }) :
    wpAny (model PySem.Challenge.rw_ui0509_07.row.prog w) (ktrTop dp un gd cn cs L a ccd cl outer) (call (.ref 130) [.ref x, .int (-1) t4, .int val t5]) Q E s := by
  w_top off
  revert X; k_fill; intro X
  refine wpAny_call ?_
  k_dflt (refine' code_need ((x, instObj 161 d) :: (d, meterD w.params k1 k2 k3 k4 k5 (.str (Str.ofString "m") ta) (.int 1000 tb) fa (.ref l) re) :: tl) ?k1 ?k2 ?k3 ?k4 ?k5 ?kA ?kF ?kK ?k6 ?k7 ?k8 ?k9 ?kB ?kN ?_ ?c2 ?c3 ?c4 ?c5; (case kA => exact rfl); (case kF => exact rfl); (case kK => assumption); (case k1 => k_asm); (case k2 => k_asm); (case k3 => k_asm); (case k4 => k_asm); (case k5 => k_asm); (case k6 => k_is); (case k7 => k_is); (case k8 => ktr_room); (case k9 => first | exact BindsTo.of_eq rfl | exact binds_K (by k_in) rfl (by k_is) rfl rfl rfl); (case c5 => decide); (case kB => exact locs rfl); (case kN => exact fun _ h => h); (case c2 => exact rfl); (case c3 => exact rfl); (case c4 => exact rfl); k_whole; intro g' L' h' tk0 FG' F' N' B' X' T' hG'; (try dsimp only); (try k_fold))
  k_steps
  all_goals exact hE _ _ _ _ _ _ (by assumption) (by assumption) (by assumption)
theorem read_lateN {w : World} {p : Program} {loose : List Str} {mean : ExcName → Option Value} {mg mb : Str → Option Value} {dp un : Nat} {gd : Option (List Code)} {cn : Str} {cs : Scope} {a : Addr} {ccd : Value} {cl : List (Str × Addr)} {outer : List Env} {A₀ : Around} {base h₀ : Heap} {L : Addr} {m : Str → Option Value} {news : List (Addr × Obj)} {s : Shared} {Q E : Value → Shared → Prop} {x d l : Addr} {k1 k2 k3 k4 k5 ta tb t4 t5 : Tok} {fa re : Value} {vs : List Value} {D0 : Addr} {day day0 val val0 : Int} {t6 t7 : Tok} {u0 : Value} {c0 n : Nat}
    (B : Below A₀ base outer h₀) (F : Fr h₀ L s.heap m) (X : (HD.K w.params).In h₀) (N : News h₀ L s.heap news) (T : Top p loose mean mg mb h₀) (hk : cs.kind = .function) (hx : (x, instObj 161 d) ∈ news) (hdd : (d, meterD w.params k1 k2 k3 k4 k5 (.str (Str.ofString "m") ta) (.int 1000 tb) fa (.ref l) re) ∈ news) (hl : (l, listOf (vs ++ [Value.ref D0]).toArray n) ∈ news) (h0 : (D0, Row day0 val0 t6 t7 u0 c0) ∈ news)
    (h1 : 1 ≤ day) (h2 : day ≤ 10000000) (h3 : 0 ≤ val) (h4 : val < 1000) (h5 : day ≤ day0) (hlen : vs.length ≤ 1000) (hd : dp + 12 < recursionLimit) (hu : un + 200 < cLine)
    (hE : ∀ (g : Heap) (e t : Addr) (u : Tok) (h' : Heap) (tk' : Nat), Fr h₀ L g m → g.UpToSlots h' → RaisedK base (envX cn cs L a ccd cl :: outer) e (.ref 31) t [.str (Str.ofString "a reading that is not later: m") u] (news) h' → E (.ref e) { s with heap := h', toks := tk' }) :
    wpAny (model PySem.Challenge.rw_ui0509_07.row.prog w) (ktrTop dp un gd cn cs L a ccd cl outer) (call (.ref 130) [.ref x, .int day t4, .int val t5]) Q E s :=
  read_late B F X (news_cons N hx (news_cons N hdd (news_cons N hl (news_cons N h0 N)))) T hk h1 h2 h3 h4 h5 hlen hd hu fun g e t u h' tk' a b c => hE g e t u h' tk' a b (raisedK_mono (fun p hp => List.mem_cons_of_mem _ (List.mem_cons_of_mem _ (List.mem_cons_of_mem _ (List.mem_cons_of_mem _ (hp))))) c)
theorem read_v1N {w : World} {p : Program} {loose : List Str} {mean : ExcName → Option Value} {mg mb : Str → Option Value} {dp un : Nat} {gd : Option (List Code)} {cn : Str} {cs : Scope} {a : Addr} {ccd : Value} {cl : List (Str × Addr)} {outer : List Env} {A₀ : Around} {base h₀ : Heap} {L : Addr} {m : Str → Option Value} {news : List (Addr × Obj)} {s : Shared} {Q E : Value → Shared → Prop} {x d l : Addr} {k1 k2 k3 k4 k5 ta tb t4 t5 : Tok} {fa re : Value} {day : Int}
    (B : Below A₀ base outer h₀) (F : Fr h₀ L s.heap m) (X : (HD.K w.params).In h₀) (N : News h₀ L s.heap news) (T : Top p loose mean mg mb h₀) (hk : cs.kind = .function) (hx : (x, instObj 161 d) ∈ news) (hdd : (d, meterD w.params k1 k2 k3 k4 k5 (.str (Str.ofString "m") ta) (.int 1000 tb) fa (.ref l) re) ∈ news)
    (h1 : 1 ≤ day) (h2 : day ≤ 10000000) (hd : dp + 12 < recursionLimit) (hu : un + 200 < cLine)
    (hE : ∀ (g : Heap) (e t : Addr) (u : Tok) (h' : Heap) (tk' : Nat), Fr h₀ L g m → g.UpToSlots h' → RaisedK base (envX cn cs L a ccd cl :: outer) e (.ref 31) t [.str (Str.ofString "no reading: 1000") u] (news) h' → E (.ref e) { s with heap := h', toks := tk' }) :
    wpAny (model PySem.Challenge.rw_ui0509_07.row.prog w) (ktrTop dp un gd cn cs L a ccd cl outer) (call (.ref 130) [.ref x, .int day t4, .int 1000 t5]) Q E s :=
  read_v1 B F X (news_cons N hx (news_cons N hdd N)) T hk h1 h2 hd hu fun g e t u h' tk' a b c => hE g e t u h' tk' a b (raisedK_mono (fun p hp => List.mem_cons_of_mem _ (List.mem_cons_of_mem _ (hp))) c)
theorem read_v2N {w : World} {p : Program} {loose : List Str} {mean : ExcName → Option Value} {mg mb : Str → Option Value} {dp un : Nat} {gd : Option (List Code)} {cn : Str} {cs : Scope} {a : Addr} {ccd : Value} {cl : List (Str × Addr)} {outer : List Env} {A₀ : Around} {base h₀ : Heap} {L : Addr} {m : Str → Option Value} {news : List (Addr × Obj)} {s : Shared} {Q E : Value → Shared → Prop} {x d l : Addr} {k1 k2 k3 k4 k5 ta tb t4 t5 : Tok} {fa re : Value} {day : Int}
    (B : Below A₀ base outer h₀) (F : Fr h₀ L s.heap m) (X : (HD.K w.params).In h₀) (N : News h₀ L s.heap news) (T : Top p loose mean mg mb h₀) (hk : cs.kind = .function) (hx : (x, instObj 161 d) ∈ news) (hdd : (d, meterD w.params k1 k2 k3 k4 k5 (.str (Str.ofString "m") ta) (.int 1000 tb) fa (.ref l) re) ∈ news)
    (h1 : 1 ≤ day) (h2 : day ≤ 10000000) (hd : dp + 12 < recursionLimit) (hu : un + 200 < cLine)
    (hE : ∀ (g : Heap) (e t : Addr) (u : Tok) (h' : Heap) (tk' : Nat), Fr h₀ L g m → g.UpToSlots h' → RaisedK base (envX cn cs L a ccd cl :: outer) e (.ref 31) t [.str (Str.ofString "no reading: -1") u] (news) h' → E (.ref e) { s with heap := h', toks := tk' }) :
    wpAny (model PySem.Challenge.rw_ui0509_07.row.prog w) (ktrTop dp un gd cn cs L a ccd cl outer) (call (.ref 130) [.ref x, .int day t4, .int (-1) t5]) Q E s :=
  read_v2 B F X (news_cons N hx (news_cons N hdd N)) T hk h1 h2 hd hu fun g e t u h' tk' a b c => hE g e t u h' tk' a b (raisedK_mono (fun p hp => List.mem_cons_of_mem _ (List.mem_cons_of_mem _ (hp))) c)
theorem read_d0N {w : World} {p : Program} {loose : List Str} {mean : ExcName → Option Value} {mg mb : Str → Option Value} {dp un : Nat} {gd : Option (List Code)} {cn : Str} {cs : Scope} {a : Addr} {ccd : Value} {cl : List (Str × Addr)} {outer : List Env} {A₀ : Around} {base h₀ : Heap} {L : Addr} {m : Str → Option Value} {news : List (Addr × Obj)} {s : Shared} {Q E : Value → Shared → Prop} {x d l : Addr} {k1 k2 k3 k4 k5 ta tb t4 t5 : Tok} {fa re : Value} {val : Int}
    (B : Below A₀ base outer h₀) (F : Fr h₀ L s.heap m) (X : (HD.K w.params).In h₀) (N : News h₀ L s.heap news) (T : Top p loose mean mg mb h₀) (hk : cs.kind = .function) (hx : (x, instObj 161 d) ∈ news) (hdd : (d, meterD w.params k1 k2 k3 k4 k5 (.str (Str.ofString "m") ta) (.int 1000 tb) fa (.ref l) re) ∈ news)
     (hd : dp + 12 < recursionLimit) (hu : un + 200 < cLine)
    (hE : ∀ (g : Heap) (e t : Addr) (u : Tok) (h' : Heap) (tk' : Nat), Fr h₀ L g m → g.UpToSlots h' → RaisedK base (envX cn cs L a ccd cl :: outer) e (.ref 31) t [.str (Str.ofString "no day: 0") u] (news) h' → E (.ref e) { s with heap := h', toks := tk' }) :
    wpAny (model PySem.Challenge.rw_ui0509_07.row.prog w) (ktrTop dp un gd cn cs L a ccd cl outer) (call (.ref 130) [.ref x, .int 0 t4, .int val t5]) Q E s :=
  read_d0 B F X (news_cons N hx (news_cons N hdd N)) T hk  hd hu fun g e t u h' tk' a b c => hE g e t u h' tk' a b (raisedK_mono (fun p hp => List.mem_cons_of_mem _ (List.mem_cons_of_mem _ (hp))) c)
theorem read_d1N {w : World} {p : Program} {loose : List Str} {mean : ExcName → Option Value} {mg mb : Str → Option Value} {dp un : Nat} {gd : Option (List Code)} {cn : Str} {cs : Scope} {a : Addr} {ccd : Value} {cl : List (Str × Addr)} {outer : List Env} {A₀ : Around} {base h₀ : Heap} {L : Addr} {m : Str → Option Value} {news : List (Addr × Obj)} {s : Shared} {Q E : Value → Shared → Prop} {x d l : Addr} {k1 k2 k3 k4 k5 ta tb t4 t5 : Tok} {fa re : Value} {val : Int}
    (B : Below A₀ base outer h₀) (F : Fr h₀ L s.heap m) (X : (HD.K w.params).In h₀) (N : News h₀ L s.heap news) (T : Top p loose mean mg mb h₀) (hk : cs.kind = .function) (hx : (x, instObj 161 d) ∈ news) (hdd : (d, meterD w.params k1 k2 k3 k4 k5 (.str (Str.ofString "m") ta) (.int 1000 tb) fa (.ref l) re) ∈ news)
     (hd : dp + 12 < recursionLimit) (hu : un + 200 < cLine)
    (hE : ∀ (g : Heap) (e t : Addr) (u : Tok) (h' : Heap) (tk' : Nat), Fr h₀ L g m → g.UpToSlots h' → RaisedK base (envX cn cs L a ccd cl :: outer) e (.ref 31) t [.str (Str.ofString "no day: -1") u] (news) h' → E (.ref e) { s with heap := h', toks := tk' }) :
    wpAny (model PySem.Challenge.rw_ui0509_07.row.prog w) (ktrTop dp un gd cn cs L a ccd cl outer) (call (.ref 130) [.ref x, .int (-1) t4, .int val t5]) Q E s :=
  read_d1 B F X (news_cons N hx (news_cons N hdd N)) T hk  hd hu fun g e t u h' tk' a b c => hE g e t u h' tk' a b (raisedK_mono (fun p hp => List.mem_cons_of_mem _ (List.mem_cons_of_mem _ (hp))) c)
theorem read_bothN {w : World} {p : Program} {loose : List Str} {mean : ExcName → Option Value} {mg mb : Str → Option Value} {dp un : Nat} {gd : Option (List Code)} {cn : Str} {cs : Scope} {a : Addr} {ccd : Value} {cl : List (Str × Addr)} {outer : List Env} {A₀ : Around} {base h₀ : Heap} {L : Addr} {m : Str → Option Value} {news : List (Addr × Obj)} {s : Shared} {Q E : Value → Shared → Prop} {x d l : Addr} {k1 k2 k3 k4 k5 ta tb t4 t5 : Tok} {fa re : Value} {vs : List Value} {D0 : Addr} {day day0 val val0 : Int} {t6 t7 : Tok} {u0 : Value} {c0 n : Nat}
    (B : Below A₀ base outer h₀) (F : Fr h₀ L s.heap m) (X : (HD.K w.params).In h₀) (N : News h₀ L s.heap news) (T : Top p loose mean mg mb h₀) (hk : cs.kind = .function) (hx : (x, instObj 161 d) ∈ news) (hdd : (d, meterD w.params k1 k2 k3 k4 k5 (.str (Str.ofString "m") ta) (.int 1000 tb) fa (.ref l) re) ∈ news) (hl : (l, listOf (vs ++ [Value.ref D0]).toArray n) ∈ news) (h0 : (D0, Row day0 val0 t6 t7 u0 c0) ∈ news)
    (h1 : 1 ≤ day0) (h2 : day0 ≤ 10000000) (h3 : 0 ≤ val) (h4 : val < 1000) (h5 : day = day0 - 1) (hlen : vs.length ≤ 1000) (hd : dp + 12 < recursionLimit) (hu : un + 200 < cLine)
    (hE : ∀ (g : Heap) (e t : Addr) (u : Tok) (h' : Heap) (tk' : Nat), Fr h₀ L g m → g.UpToSlots h' → RaisedK base (envX cn cs L a ccd cl :: outer) e (.ref 31) t [.str (if 1 < day0 then Str.ofString "a reading that is not later: m" else Str.ofString "no day: 0") u] (news) h' → E (.ref e) { s with heap := h', toks := tk' }) :
    wpAny (model PySem.Challenge.rw_ui0509_07.row.prog w) (ktrTop dp un gd cn cs L a ccd cl outer) (call (.ref 130) [.ref x, .int day t4, .int val t5]) Q E s := by
  by_cases h : 1 < day0
  · exact read_lateN B F X N T hk hx hdd hl h0 (by omega) (by omega) h3 h4 (by omega) hlen hd hu fun g e t u h' tk' a b c => hE g e t u h' tk' a b (by rw [if_pos h]; exact c)
  · obtain rfl : day = 0 := by omega
    exact read_d0N B F X N T hk hx hdd hd hu fun g e t u h' tk' a b c => hE g e t u h' tk' a b (by rw [if_neg h]; exact c)
theorem ite_late {p : Prop} [Decidable p] {x y : Str} (h : (x == x) = true) (h' : (y == x) = false) : ((if p then x else y) == x) = decide p := by
  by_cases q : p
  · rw [if_pos q, h, decide_eq_true q]
  · rw [if_neg q, h', decide_eq_false q]
theorem eq_late {prog : Program} {w : World} {A : Around} {E : Value → Shared → Prop} {s : Shared} {p : Prop} [Decidable p] {x y : Str} {t u : Tok} {Q : Value → Shared → Prop} (h : (x == x) = true) (h' : (y == x) = false) (hq : Q (.bool (decide p)) s) :
    wpAny (model prog w) A (compareOp .Eq (.str (if p then x else y) t) (.str x u)) Q E s := PyProof.Rows.eq_str (by rw [ite_late h h']; exact hq)
theorem set_last {prog : Program} {w : World} {A : Around} {E : Value → Shared → Prop} {s : Shared} {h₀ : Heap} {L D : Addr} {m : Str → Option Value} {news news' : List (Addr × Obj)} {vs : List Value} {n : Nat} {t : Tok} {v0 v : Value} {Q : Unit → Shared → Prop}
    (F : Fr h₀ L s.heap m) (N : News h₀ L s.heap news) (U : Upd D (listOf (vs ++ [v0]).toArray n) (listOf (vs ++ [v]).toArray n) news news')
    (h : ∀ h', Fr h₀ L h' m → News h₀ L h' news' → Q () { s with heap := h' }) :
    wpAny (model prog w) A (setItem (.ref D) (.int (-1) t) v) Q E s := by
  obtain ⟨pre, post, rfl, rfl, a, b⟩ := U.split
  have z := N (D, listOf (vs ++ [v0]).toArray n) (List.mem_append.mpr (.inr (.head _)))
  have hs : (vs ++ [v0]).toArray.size = vs.length + 1 := by simp
  have hk : (-1 + ((vs ++ [v0]).toArray.size : Int)).toNat = vs.length := by rw [hs]; omega
  refine ki_setBack z.1 (by decide) (by rw [hs]; omega) (by decide) (h _ (F.change (Heap.SameBut.update ..) z.2.1 z.2.2) (ki_turn _ N a b ?_ ?_))
  · show (vs ++ [v0]).toArray.setIfInBounds _ v = (vs ++ [v]).toArray
    rw [hk]
    apply Array.toList_inj.mp
    simp
  · simp
local macro_rules | `(tactic| walk_at "call ref") => `(tactic| (k_here; (with_reducible show wpAny _ _ (call (Value.ref 130) [Value.ref _, Value.int _ _, Value.int _ _]) _ _ _); k_dflt (refine' read_nil ?k1 ?k2 ?k3 ?k4 ?k5 ?k6 ?ex ?U2 ?U1 ?n1 ?n2 ?n3 ?k7 ?h1 ?h2 ?h3 ?h4 ?_; (case k1 => k_asm); (case k2 => k_asm); (case k3 => k_asm); (case k4 => k_asm); (case k5 => k_asm); (case k6 => first | exact rfl | assumption); (case k7 => first | exact Nat.le_of_ble_eq_true rfl | ktr_room); (case ex => k_mem); (case U2 => k_upd); (case U1 => k_updF); (case n1 => k_ne); (case n2 => k_ne); (case n3 => k_ne); (case h1 => first | decide | assumption | omega); (case h2 => first | decide | assumption | omega); (case h3 => first | decide | assumption | omega); (case h4 => first | decide | assumption | omega); k_whole); intro D' c' n' h' tk' F' N' l1'; (try simp only [List.nil_append, List.cons_append] at N'); (replace l1' := allNe_of l1'; simp only [AllNe, and_true] at l1'); (try k_sweep)))
local macro_rules | `(tactic| walk_at "call ref") => `(tactic| (k_here; (with_reducible show wpAny _ _ (call (Value.ref 130) [Value.ref _, Value.int _ _, Value.int _ _]) _ _ _); k_dflt (refine' read_snoc ?k1 ?k2 ?k3 ?k4 ?k5 ?k6 ?ex ?U2 ?U1 ?n1 ?n2 ?n3 ?e0 ?n0 ?hl ?h5 ?k7 ?h1 ?h2 ?h3 ?h4 ?_; (case k1 => k_asm); (case k2 => k_asm); (case k3 => k_asm); (case k4 => k_asm); (case k5 => k_asm); (case k6 => first | exact rfl | assumption); (case k7 => first | exact Nat.le_of_ble_eq_true rfl | ktr_room); (case ex => k_mem); (case U2 => k_upd); (case U1 => k_updF); (case n1 => k_ne); (case n2 => k_ne); (case n3 => k_ne); (case e0 => (walk_at "hat9")); (case n0 => (exact ⟨neN (by omega), neN (by omega), neN (by omega)⟩)); (case hl => first | decide | assumption | omega); (case h5 => first | decide | assumption | omega); (case h1 => first | decide | assumption | omega); (case h2 => first | decide | assumption | omega); (case h3 => first | decide | assumption | omega); (case h4 => first | decide | assumption | omega); k_whole); intro D' c' n' h' tk' F' N' l1'; (try simp only [List.nil_append, List.cons_append] at N'); (replace l1' := allNe_of l1'; simp only [AllNe, and_true] at l1'); (try k_sweep)))
local macro_rules | `(tactic| walk_at "setItem ref int") => `(tactic| (k_here; (with_reducible show wpAny _ _ (setItem (Value.ref _) (Value.int _ _) _) _ _ _); k_dflt (refine' set_last ?F ?N ?U ?_; (case F => k_asm); (case N => k_asm); (case U => k_upd); k_whole); intro h' F' N'; (try dsimp only [List.nil_append, List.cons_append] at N'); (try k_sweep)))
theorem exch_nil {w : World} {p : Program} {loose : List Str} {mean : ExcName → Option Value} {mg mb : Str → Option Value} {dp un : Nat} {gd : Option (List Code)} {cn : Str} {cs : Scope} {a : Addr} {ccd : Value} {cl : List (Str × Addr)} {outer : List Env} {A₀ : Around} {base h₀ : Heap} {L : Addr} {m : Str → Option Value} {news : List (Addr × Obj)} {s : Shared} {Q E : Value → Shared → Prop} {x d l : Addr} {k1 k2 k3 k4 k5 : Tok} {nm fa re : Value} {tu day val : Int} {t3 t4 t5 : Tok} {n : Nat} {news1 : List (Addr × Obj)} {g1 : Obj → List (Addr × Obj)} {nw : Int} {t8 : Tok}
    (B : Below A₀ base outer h₀) (F : Fr h₀ L s.heap m) (X : (HD.K w.params).In h₀) (N : News h₀ L s.heap news) (T : Top p loose mean mg mb h₀) (hk : cs.kind = .function) (ex : (x, instObj 161 d) ∈ news) (U2 : Upd d (meterD w.params k1 k2 k3 k4 k5 nm (.int tu t3) fa (.ref l) re) (meterD w.params k1 k2 k3 k4 k5 nm (.int tu t3) fa (.ref l) (.ref 56)) news news1) (U1 : UpdF l (listOf ([] : List Value).toArray n) news1 g1) (ndx : d ≠ x) (nlx : l ≠ x) (nld : l ≠ d)
    (hd : dp + 12 < recursionLimit) (h1 : 1 ≤ day) (h2 : day ≤ 10000000) (h3 : 0 ≤ val) (h4 : val < tu) (h6 : 0 ≤ nw) (h7 : nw < tu)
    (hret : ∀ (D : Addr) (c n' : Nat) (h' : Heap) (tk' : Nat), Fr h₀ L h' m → News h₀ L h' ((D, Row day val t4 t5 (.int nw t8) c) :: g1 (listOf (([] : List Value) ++ [Value.ref D]).toArray n')) → (∀ p ∈ news, p.1 ≠ D) → Q .none { s with heap := h', toks := tk' }) :
    wpAny (model PySem.Challenge.rw_ui0509_07.row.prog w) (ktrTop dp un gd cn cs L a ccd cl outer) (call (.ref 137) [.ref x, .int day t4, .int val t5, .int nw t8]) Q E s := by
  replace ndx := neN ndx; replace nlx := neN nlx; replace nld := neN nld
  w_top off
  revert X; k_fill; intro X
  refine wpAny_call ?_
  k_dflt (refine' code_need [(x, instObj 161 d), (d, meterD w.params k1 k2 k3 k4 k5 nm (.int tu t3) fa (.ref l) re), (l, listOf ([] : List Value).toArray n)] ?k1 ?k2 ?k3 ?k4 ?k5 ?kA ?kF ?kK ?k6 ?k7 ?k8 ?k9 ?kB ?kN ?_ ?c2 ?c3 ?c4 ?c5; (case kA => exact rfl); (case kF => exact rfl); (case kK => assumption); (case k1 => k_asm); (case k2 => k_asm); (case k3 => k_asm); (case k4 => k_asm); (case k5 => k_asm); (case k6 => k_is); (case k7 => k_is); (case k8 => ktr_room); (case k9 => first | exact BindsTo.of_eq rfl | exact binds_K (by k_in) rfl (by k_is) rfl rfl rfl); (case c5 => decide); (case kB => exact locs rfl); (case kN => exact three_in ex (Upd.mem U2) (Upd.other U2 (UpdF.mem U1) nld)); (case c2 => exact rfl); (case c3 => exact rfl); (case c4 => exact rfl); k_whole; intro g' L' h' tk0 FG' F' N' B' X' T' hG'; (try dsimp only); (try k_fold))
  k_steps
  all_goals (refine leaveN_ (by k_asm) (by k_asm) ?_; intro kF kN kR kD; (try dsimp only); exact hret _ _ _ _ _ kF (news_cons kN (by k_mem) (news_upd2 N ex U2 U1 kN (by k_mem) (by k_mem) (by k_mem) kR)) (ne_three kD (by k_mem : (_, Row _ _ _ _ (.int _ _) _) ∈ _) (neN (by omega)) (neN (by omega)) (neN (by omega))))
theorem exch_snoc {w : World} {p : Program} {loose : List Str} {mean : ExcName → Option Value} {mg mb : Str → Option Value} {dp un : Nat} {gd : Option (List Code)} {cn : Str} {cs : Scope} {a : Addr} {ccd : Value} {cl : List (Str × Addr)} {outer : List Env} {A₀ : Around} {base h₀ : Heap} {L : Addr} {m : Str → Option Value} {news : List (Addr × Obj)} {s : Shared} {Q E : Value → Shared → Prop} {x d l : Addr} {k1 k2 k3 k4 k5 : Tok} {nm fa re : Value} {tu day val : Int} {t3 t4 t5 : Tok} {n : Nat} {news1 : List (Addr × Obj)} {g1 : Obj → List (Addr × Obj)} {nw : Int} {t8 : Tok} {vs : List Value} {D0 : Addr} {day0 val0 : Int} {t6 t7 : Tok} {u0 : Value} {c0 : Nat}
    (B : Below A₀ base outer h₀) (F : Fr h₀ L s.heap m) (X : (HD.K w.params).In h₀) (N : News h₀ L s.heap news) (T : Top p loose mean mg mb h₀) (hk : cs.kind = .function) (ex : (x, instObj 161 d) ∈ news) (U2 : Upd d (meterD w.params k1 k2 k3 k4 k5 nm (.int tu t3) fa (.ref l) re) (meterD w.params k1 k2 k3 k4 k5 nm (.int tu t3) fa (.ref l) (.ref 56)) news news1) (U1 : UpdF l (listOf (vs ++ [Value.ref D0]).toArray n) news1 g1) (ndx : d ≠ x) (nlx : l ≠ x) (nld : l ≠ d) (e0 : s.heap.get? D0 = some (Row day0 val0 t6 t7 u0 c0)) (n0 : D0 ≠ x ∧ D0 ≠ d ∧ D0 ≠ l) (hlen : vs.length < 100000) (h5 : day0 < day)
    (hd : dp + 12 < recursionLimit) (h1 : 1 ≤ day) (h2 : day ≤ 10000000) (h3 : 0 ≤ val) (h4 : val < tu) (h6 : 0 ≤ nw) (h7 : nw < tu)
    (hret : ∀ (D : Addr) (c n' : Nat) (h' : Heap) (tk' : Nat), Fr h₀ L h' m → News h₀ L h' ((D, Row day val t4 t5 (.int nw t8) c) :: g1 (listOf ((vs ++ [Value.ref D0]) ++ [Value.ref D]).toArray n')) → (∀ p ∈ news, p.1 ≠ D) → Q .none { s with heap := h', toks := tk' }) :
    wpAny (model PySem.Challenge.rw_ui0509_07.row.prog w) (ktrTop dp un gd cn cs L a ccd cl outer) (call (.ref 137) [.ref x, .int day t4, .int val t5, .int nw t8]) Q E s := by
  replace ndx := neN ndx; replace nlx := neN nlx; replace nld := neN nld
  have n0x := neN n0.1; have n0d := neN n0.2.1; have n0l := neN n0.2.2
  w_top off
  revert X; k_fill; intro X
  refine wpAny_call ?_
  k_dflt (refine' code_need [(x, instObj 161 d), (d, meterD w.params k1 k2 k3 k4 k5 nm (.int tu t3) fa (.ref l) re), (l, listOf (vs ++ [Value.ref D0]).toArray n)] ?k1 ?k2 ?k3 ?k4 ?k5 ?kA ?kF ?kK ?k6 ?k7 ?k8 ?k9 ?kB ?kN ?_ ?c2 ?c3 ?c4 ?c5; (case kA => exact rfl); (case kF => exact rfl); (case kK => assumption); (case k1 => k_asm); (case k2 => k_asm); (case k3 => k_asm); (case k4 => k_asm); (case k5 => k_asm); (case k6 => k_is); (case k7 => k_is); (case k8 => ktr_room); (case k9 => first | exact BindsTo.of_eq rfl | exact binds_K (by k_in) rfl (by k_is) rfl rfl rfl); (case c5 => decide); (case kB => exact locs rfl); (case kN => exact three_in ex (Upd.mem U2) (Upd.other U2 (UpdF.mem U1) nld)); (case c2 => exact rfl); (case c3 => exact rfl); (case c4 => exact rfl); k_whole; intro g' L' h' tk0 FG' F' N' B' X' T' hG'; (try dsimp only); (try k_fold))
  replace e0 := hG' _ _ e0 (by simp only [List.map_cons, List.map_nil, List.mem_cons, List.not_mem_nil, or_false, not_or]; exact n0)
  k_steps
  all_goals (refine leaveN_ (by k_asm) (by k_asm) ?_; intro kF kN kR kD; (try dsimp only); exact hret _ _ _ _ _ kF (news_cons kN (by k_mem) (news_upd2 N ex U2 U1 kN (by k_mem) (by k_mem) (by k_mem) kR)) (ne_three kD (by k_mem : (_, Row _ _ _ _ (.int _ _) _) ∈ _) (neN (by omega)) (neN (by omega)) (neN (by omega))))
theorem inst_b {h₀ h : Heap} {L x C dx : Addr} {m : Str → Option Value} {od : Obj} (F : Fr h₀ L h m) (h1 : h₀.get? x = some (instObj C dx)) (h2 : h₀.get? dx = some od) : InstAt h x (instObj C dx) C (some od) := ⟨F.keep _ _ h1, rfl, rfl, F.keep _ _ h2⟩
-- readings: (day, value, the new counter's start or none); steps between readings
abbrev MRow := Int × Int × Option Int
abbrev MStep := Int × Int × Int
def OptV (u : Value) (o : Option Int) : Prop := match o with
  | none => u = .none
  | some n => ∃ t, u = .int n t
def RowN (P : Addr → Obj → Prop) (v : Value) (r : MRow) : Prop := ∃ D t t' u c, v = .ref D ∧ P D (Row r.1 r.2.1 t t' u c) ∧ OptV u r.2.2
def StepN (P : Addr → Obj → Prop) (v : Value) (q : MStep) : Prop := ∃ D t t' t'' c, v = .ref D ∧ P D (Row q.1 q.2.1 t t' (.int q.2.2 t'') c)
def StepsN (P : Addr → Obj → Prop) (v : Value) (qs : List MStep) : Prop := LstN (StepN P) P v qs
theorem RowN.mono {P P' : Addr → Obj → Prop} {v : Value} {r : MRow} (hs : ∀ a o, P a o → P' a o) (x : RowN P v r) : RowN P' v r := let ⟨D, t, t', u, c, e, k, o⟩ := x; ⟨D, t, t', u, c, e, hs _ _ k, o⟩
theorem StepN.mono {P P' : Addr → Obj → Prop} {v : Value} {r : MStep} (hs : ∀ a o, P a o → P' a o) (x : StepN P v r) : StepN P' v r := let ⟨D, t, t', u, c, e, k⟩ := x; ⟨D, t, t', u, c, e, hs _ _ k⟩
theorem StepsN.mono {P P' : Addr → Obj → Prop} {v : Value} {qs : List MStep} (hs : ∀ a o, P a o → P' a o) (x : StepsN P v qs) : StepsN P' v qs := let ⟨l, vs, n, e, k, a⟩ := x; ⟨l, vs, n, e, hs _ _ k, a.mono fun _ _ y => y.mono hs⟩
theorem step_new {P : Addr → Obj → Prop} {D : Addr} {a b u : Int} {t t' t'' : Tok} {c : Nat} (h : P D (Row a b t t' (.int u t'') c)) : StepN P (.ref D) (a, b, u) := ⟨D, t, t', t'', c, rfl, h⟩
theorem row_new {P : Addr → Obj → Prop} {D : Addr} {a b : Int} {t t' : Tok} {c : Nat} (h : P D (Row a b t t' .none c)) : RowN P (.ref D) (a, b, none) := ⟨D, t, t', .none, c, rfl, h, rfl⟩
theorem row_newE {P : Addr → Obj → Prop} {D : Addr} {a b u : Int} {t t' t'' : Tok} {c : Nat} (h : P D (Row a b t t' (.int u t'') c)) : RowN P (.ref D) (a, b, some u) := ⟨D, t, t', _, c, rfl, h, t'', rfl⟩
def startOf (r : MRow) : Int := match r.2.2 with
  | none => r.2.1
  | some n => n
def stepOf (tu : Int) (a b : MRow) : MStep := (a.1, b.1, (b.2.1 - startOf a).fmod tu)
def stepsF (tu : Int) (rs : List MRow) : List MStep := List.zipWith (stepOf tu) rs rs.tail
theorem stepsF_len {tu : Int} {rs : List MRow} : (stepsF tu rs).length = rs.length - 1 := by simp [stepsF]
theorem stepsF_at {tu : Int} {rs : List MRow} {i : Nat} {a b : MRow} (ha : rs[i]? = some a) (hb : rs[i + 1]? = some b) : (stepsF tu rs)[i]? = some (stepOf tu a b) := by
  have hb' : rs.tail[i]? = some b := by rw [List.getElem?_tail]; exact hb
  rw [stepsF, List.getElem?_zipWith, ha, hb']
theorem stepsF_snoc {tu : Int} {rs : List MRow} {a b : MRow} : stepsF tu (rs ++ [a] ++ [b]) = stepsF tu (rs ++ [a]) ++ [stepOf tu a b] := by
  induction rs with
  | nil => rfl
  | cons r rs ih =>
    cases rs with
    | nil => rfl
    | cons q rs =>
      have e1 : stepsF tu (r :: q :: rs ++ [a] ++ [b]) = stepOf tu r q :: stepsF tu (q :: rs ++ [a] ++ [b]) := rfl
      have e2 : stepsF tu (r :: q :: rs ++ [a]) = stepOf tu r q :: stepsF tu (q :: rs ++ [a]) := rfl
      rw [e1, e2, ih]; rfl
theorem rsizeT {a b : Int} {n : Nat} (h : n = (b - a).toNat) : Builtin.Range.rangeSize a b 1 = (n : Int) := by
  unfold Builtin.Range.rangeSize
  rw [if_pos (by decide)]
  split <;> omega
local macro_rules | `(tactic| walk_at "subscriptTail") => `(tactic| (k_here; (with_reducible show wpAny _ _ (subscriptTail _ _ (Value.ref _) (Value.int _ _)) _ _ _); k_dflt (refine' tup_t ?k1 ?k0 ?k2 ?kS ?k3 ?k4 ?k5 ?k6 ?k7 ?k8 ?_ ?k9 ?k10; (case k1 => k_asm); (case k0 => k_asm); (case k2 => with_reducible assumption); (case kS => exact (by intro p9 hp9; first | exact hp9 | exact absurd hp9 List.not_mem_nil | (repeat (first | exact hp9 | refine List.mem_cons_of_mem _ ?_)))); (case k3 => exact rfl); (case k4 => exact rfl); (case k5 => decide); (case k6 => decide); (case k7 => exact rfl); (case k8 => exact rfl); (case k9 => with_unfolding_all rfl); (case k10 => (intro _; with_unfolding_all rfl)); k_whole)))
local macro_rules | `(tactic| walk_at "assign Tuple") => `(tactic| (k_here; (with_reducible show wpAny _ _ (assign (Expr.Tuple _ _ _) _ (Value.ref _)) _ _ _); k_dflt (refine' unpack_t ?F ?N ?k ?kS ?c ?d ?k1 ?k2 ?k3 ?_; (case F => k_asm); (case N => k_asm); (case k => with_reducible assumption); (case kS => exact (by intro p9 hp9; first | exact hp9 | exact absurd hp9 List.not_mem_nil | (repeat (first | exact hp9 | refine List.mem_cons_of_mem _ ?_)))); (case c => exact rfl); (case d => exact rfl); (case k1 => exact rfl); (case k2 => exact rfl); (case k3 => exact rfl)); intro h' F' N'; (try k_sweep)))
local macro_rules | `(tactic| k_all) => `(tactic| with_reducible assumption)
local macro_rules | `(tactic| size_fits) => `(tactic| ((simp only [List.size_toArray]); rw [sizeLine_eq]; omega))
local macro_rules | `(tactic| walk_at "eval Name") => `(tactic| (k_here; k_dflt (refine' ld ?k1 ?k2 ?_; (case k1 => k_asm); (case k2 => first | exact rfl | assumption); k_whole)))
local macro_rules | `(tactic| walk_at "exec For") => `(tactic| (k_here; (rename Fr _ _ _ _ => lF'); (with_unfolding_all refine' For_turns lF' ?_; k_whole)))
local macro_rules | `(tactic| walk_at "exec For Name Name cons nil") => `(tactic| (k_here; (rename Fr _ _ _ _ => lF'); (with_unfolding_all refine' For_turns lF' ?_; k_whole)))
local macro_rules | `(tactic| walk_at "exec For Name Call cons nil") => `(tactic| (k_here; (rename Fr _ _ _ _ => lF'); (with_unfolding_all refine' For_turns lF' ?_; k_whole)))
local macro_rules | `(tactic| walk_at "exec For Tuple Name cons nil") => `(tactic| (k_here; (rename Fr _ _ _ _ => lF'); (with_unfolding_all refine' For_turns lF' ?_; k_whole)))
local macro_rules | `(tactic| walk_at "exec For Tuple Call cons nil") => `(tactic| (k_here; (rename Fr _ _ _ _ => lF'); (with_unfolding_all refine' For_turns lF' ?_; k_whole)))
local macro_rules | `(tactic| walk_at "exec For Name Attribute cons nil") => `(tactic| (k_here; (rename Fr _ _ _ _ => lF'); (with_unfolding_all refine' For_turns lF' ?_; k_whole)))
local macro_rules | `(tactic| walk_at "exec For Tuple Attribute cons nil") => `(tactic| (k_here; (rename Fr _ _ _ _ => lF'); (with_unfolding_all refine' For_turns lF' ?_; k_whole)))
local macro_rules | `(tactic| walk_at "exec For Tuple Subscript cons nil") => `(tactic| (k_here; (rename Fr _ _ _ _ => lF'); (with_unfolding_all refine' For_turns lF' ?_; k_whole)))
local macro_rules | `(tactic| walk_at "pyIter ref") => `(tactic| ((with_reducible show wpAny _ _ (pyIter (Value.ref _)) (fun it s₂ => TurnsAt _ _ _ _ _ _ _ _ _ it s₂) _ _); refine Hold.out ?_))
local macro_rules | `(tactic| walk_at "UnrPostW") => `(tactic| (dsimp only [UnrPostW]))
local macro_rules | `(tactic| walk_at "UnrEndW") => `(tactic| (refine Hold.out ?_))
local macro_rules | `(tactic| walk_at "getAttr ref") => `(tactic| (k_here; k_dflt (refine' get_own ?k1 ?k2 ?k3 ?k4 ?k5 ?k6 ?k7 ?k8 ?k9 ?_; (case k1 => k_asm); (case k2 => k_asm); (case k3 => exact inst_b (by k_asm) (by with_reducible assumption) (by with_reducible assumption)); (case k4 => k_is); (case k5 => k_is); (case k6 => k_is); (case k7 => k_is); (case k8 => k_get); (case k9 => k_handed); k_whole)))
local macro_rules | `(tactic| walk_at "call builtin:len") => `(tactic| (k_here; (with_reducible show wpAny _ _ (call (Value.builtin "len") [Value.ref _]) _ _ _); k_dflt (refine' lst_lenT ?k1 ?k0 ?k2 ?kS ?k3 ?_; (case k1 => k_asm); (case k0 => k_asm); (case k2 => with_reducible assumption); (case kS => exact (by intro p9 hp9; first | exact hp9 | exact absurd hp9 List.not_mem_nil | (repeat (first | exact hp9 | refine List.mem_cons_of_mem _ ?_)))); (case k3 => ((try simp only [List.length_append, List.length_cons, List.length_nil]); omega)); k_whole); intro tk9; (try simp only [List.length_append, List.length_cons, List.length_nil])))
local macro_rules | `(tactic| walk_at "subscriptTail") => `(tactic| (k_here; (with_reducible show wpAny _ _ (subscriptTail _ _ (Value.ref _) (Value.int _ _)) _ _ _); k_dflt (refine' list_t ?k1 ?k0 ?k2 ?kS ?k3 ?k4 ?k5 ?k6 ?k8 ?_ ?k9 ?k10; (case k1 => k_asm); (case k0 => k_asm); (case k2 => with_reducible assumption); (case kS => exact (by intro p9 hp9; first | exact hp9 | exact absurd hp9 List.not_mem_nil | (repeat (first | exact hp9 | refine List.mem_cons_of_mem _ ?_)))); (case k3 => exact rfl); (case k4 => exact rfl); (case k5 => first | decide | omega); (case k6 => first | decide | omega); (case k8 => with_reducible assumption); (case k9 => with_unfolding_all rfl); (case k10 => (intro _; with_unfolding_all rfl)); k_whole)))
local macro_rules | `(tactic| size_fits) => `(tactic| ((simp only [List.size_toArray, List.length_append, List.length_cons, List.length_nil]); rw [sizeLine_eq]; omega))
local macro_rules | `(tactic| walk_at "binaryOp Mod int int") => `(tactic| (k_here; (with_reducible refine mod_gen ?mp ?_); (case mp => first | decide | assumption); intro v' v0' v1' vE'))
theorem steps_c {w : World} {p : Program} {loose : List Str} {mean : ExcName → Option Value} {mg mb : Str → Option Value} {dp un : Nat} {gd : Option (List Code)} {cn : Str} {cs : Scope} {a : Addr} {ccd : Value} {cl : List (Str × Addr)} {outer : List Env} {A₀ : Around} {base h₀ : Heap} {L : Addr} {m : Str → Option Value} {news : List (Addr × Obj)} {s : Shared} {Q E : Value → Shared → Prop} {P : Addr → Obj → Prop} {x d l0 : Addr} {k1 k2 k3 k4 k5 : Tok} {nm fa re : Value} {tu : Int} {t3 : Tok} {vs : List Value} {rows : List MRow} {n0 : Nat}
    (B : Below A₀ base outer h₀) (F : Fr h₀ L s.heap m) (X : (HD.K w.params).In h₀) (N : News h₀ L s.heap news) (T : Top p loose mean mg mb h₀) (hk : cs.kind = .function) (hgx : s.heap.get? x = some (instObj 161 d)) (hgd : s.heap.get? d = some (meterD w.params k1 k2 k3 k4 k5 nm (.int tu t3) fa (.ref l0) re)) (hP : ∀ a o, P a o → s.heap.get? a = some o) (el : P l0 (listOf vs.toArray n0)) (hv : All2 (RowN P) vs rows) (htu : 0 < tu) (hll : rows.length ≤ 1000)
    (hd : dp + 8 < recursionLimit) (hu : un + 200 < cLine)
    (hret : ∀ (D : Addr) (vo : List Value) (no : Nat) (tl : List (Addr × Obj)) (h' : Heap) (tk' : Nat), Fr h₀ L h' m → News h₀ L h' ((D, listOf vo.toArray no) :: (news ++ tl)) → (∀ p ∈ news, p.1 ≠ D) → (∀ q ∈ tl, q.1 ≠ D) → (∀ p ∈ news, ∀ q ∈ tl, p.1 ≠ q.1) → All2 (StepN (PT P tl)) vo (stepsF tu rows) → Q (.ref D) { s with heap := h', toks := tk' }) :
    wpAny (model PySem.Challenge.rw_ui0509_07.row.prog w) (ktrTop dp un gd cn cs L a ccd cl outer) (call (.ref 151) [.ref x]) Q E s := by
  w_top off
  revert X; k_fill; intro X
  refine wpAny_call ?_
  k_dflt (refine' code_need [] ?k1 ?k2 ?k3 ?k4 ?k5 ?kA ?kF ?kK ?k6 ?k7 ?k8 ?k9 ?kB ?kN ?_ ?c2 ?c3 ?c4 ?c5; (case kA => exact rfl); (case kF => exact rfl); (case kK => assumption); (case k1 => k_asm); (case k2 => k_asm); (case k3 => k_asm); (case k4 => k_asm); (case k5 => k_asm); (case k6 => k_is); (case k7 => k_is); (case k8 => ktr_room); (case k9 => first | exact BindsTo.of_eq rfl | exact binds_K (by k_in) rfl (by k_is) rfl rfl rfl); (case c5 => decide); (case kB => exact locs rfl); (case kN => exact fun _ h => nomatch h); (case c2 => exact rfl); (case c3 => exact rfl); (case c4 => exact rfl); k_whole; intro g' L' h' tk0 FG' F' N' B' X' T' hG'; (try dsimp only); (try k_fold))
  have hT := ground_of hP hG'
  have elT := hT [] _ _ (.inl el)
  replace hgx := hG' _ _ hgx (by simp)
  replace hgd := hG' _ _ hgd (by simp)
  have hvl := hv.length
  k_steps
  unfold Hold
  refine iter_rangeTurns (n := rows.length - 1) rfl (by assumption) (small_one (by omega) (by omega) (by omega) (by omega)) (rsizeT (by omega)) (by k_asm) (by k_asm) (fun I lI => ?_)
  refine items_ind (fun i m nx => ∃ (d1 : Addr) (vo : List Value) (no : Nat) (tl : List (Addr × Obj)), nx = [(d1, listOf vo.toArray no)] ++ tl ∧ (∀ p ∈ tl, p.1 ≠ d1) ∧
    m (Str.ofString "out") = some (.ref d1) ∧ m (Str.ofString "self") = some (.ref x) ∧ All2 (StepN (PT P tl)) vo ((stepsF tu rows).take i)) ?turn ?done _ 0 _ _ rfl (Nat.zero_le _) trivial (fun p hp => Nat.ne_of_lt (lI p hp)) ?init
  case init => exact ⟨_, [], 0, [], rfl, (fun _ h => nomatch h), rfl, rfl, .nil⟩
  case turn =>
    intro i a v m nx h tk o ha _ hI hJ hav Fm ho Nn
    obtain ⟨d1, vo, no, tl, rfl, hd1, hm1, hm2, ho'⟩ := hJ
    obtain ⟨hi, rfl⟩ := rangeItems_get ha
    obtain ⟨t9, rfl⟩ := hav
    have elT := hT tl _ _ (.inl el)
    obtain ⟨⟨da, va, oa⟩, hla⟩ : ∃ la, rows[i]? = some la := ⟨rows[i]'(by omega), List.getElem?_eq_getElem (by omega)⟩
    obtain ⟨⟨db, vb, ob⟩, hlb⟩ : ∃ lb, rows[i + 1]? = some lb := ⟨rows[i + 1]'(by omega), List.getElem?_eq_getElem (by omega)⟩
    obtain ⟨_, hva, Ta, a1, a2, ua, ca, rfl, eA, oA⟩ := hv.at hla
    obtain ⟨_, hvb, Tb, b1, b2, ub, cb, rfl, eB, oB⟩ := hv.at hlb
    have eA' := hT tl _ _ (.inl eA)
    have eB' := hT tl _ _ (.inl eB)
    have hx1 : vs[(1 + (i : Int) - 1).toNat]? = some (Value.ref Ta) := at_of hva (by omega)
    have hx2 : vs[(1 + (i : Int)).toNat]? = some (Value.ref Tb) := at_of hvb (by omega)
    have hlo := ho'.length
    rw [List.length_take] at hlo
    simp only [List.cons_append, List.nil_append] at Nn hI
    have nI1 : d1 ≠ I := hI _ (List.mem_cons_self ..)
    replace nI1 := neN nI1
    have htI : ∀ p ∈ tl, p.1 ≠ I := fun p hp => hI p (List.mem_cons_of_mem _ hp)
    clear hI
    dsimp only at eA' eB' oA
    cases oa with
    | none =>
      have oA' : ua = .none := oA
      subst oA'
      have hstep : (stepsF tu rows).take (i + 1) = (stepsF tu rows).take i ++ [(da, db, (vb - va).fmod tu)] := by rw [List.take_add_one, stepsF_at hla hlb]; rfl
      k_steps
      unfold Hold
      (rename News _ _ _ _ => NN)
      (rename _ = Int.fmod _ _ => vE); subst vE
      (try simp only [List.push_toArray] at NN)
      refine unr_mut1 (d1 := d1) (by k_asm) NN (by k_mem) (by k_mem) nI1 ⟨trivial, ?_⟩
      rw [hstep]
      have hs := sub_strip2 NN (by intro p9 hp9; first | exact hp9 | exact absurd hp9 List.not_mem_nil | (repeat (first | exact hp9 | refine List.mem_cons_of_mem _ ?_))) htI hd1
      have hsub := PT.mono (P := P) hs
      exact ⟨d1, _, _, _, rfl, fun p hp e => (strip_mem hp).2 (by rw [e]; simp), by first | rfl | assumption, by first | rfl | assumption, (ho'.mono fun _ _ y => y.mono hsub).snoc (step_new (Or.inr (mem_strip (by k_mem) (not_in2 (neN (by omega)) (neN (by omega))))))⟩
    | some na =>
      obtain ⟨tn, rfl⟩ : ∃ t, ua = .int na t := oA
      have hstep : (stepsF tu rows).take (i + 1) = (stepsF tu rows).take i ++ [(da, db, (vb - na).fmod tu)] := by rw [List.take_add_one, stepsF_at hla hlb]; rfl
      k_steps
      unfold Hold
      (rename News _ _ _ _ => NN)
      (rename _ = Int.fmod _ _ => vE); subst vE
      (try simp only [List.push_toArray] at NN)
      refine unr_mut1 (d1 := d1) (by k_asm) NN (by k_mem) (by k_mem) nI1 ⟨trivial, ?_⟩
      rw [hstep]
      have hs := sub_strip2 NN (by intro p9 hp9; first | exact hp9 | exact absurd hp9 List.not_mem_nil | (repeat (first | exact hp9 | refine List.mem_cons_of_mem _ ?_))) htI hd1
      have hsub := PT.mono (P := P) hs
      exact ⟨d1, _, _, _, rfl, fun p hp e => (strip_mem hp).2 (by rw [e]; simp), by first | rfl | assumption, by first | rfl | assumption, (ho'.mono fun _ _ y => y.mono hsub).snoc (step_new (Or.inr (mem_strip (by k_mem) (not_in2 (neN (by omega)) (neN (by omega))))))⟩
  case done =>
    intro m nx h tk hJ Fm Nn
    rw [List.length_map, List.length_range, ← stepsF_len (tu := tu), List.take_length] at hJ
    obtain ⟨d1, vo, no, tl, rfl, hd1, hm1, hm2, ho'⟩ := hJ
    simp only [List.cons_append, List.nil_append] at Nn
    k_steps
    try dsimp only
    refine leaveN_ (by k_asm) (by k_asm) ?_; intro kF kN kR kD; (try dsimp only); exact hret d1 vo no tl _ _ kF (news_app kN (news_all kR)) (ne_all kD (List.mem_cons_self ..)) hd1 (fun p hp q hq => kD p (mem_rest0 hp) q (List.mem_cons_of_mem _ hq)) ho'
def usum (qs : List MStep) : Int := qs.foldl (fun a q => a + q.2.2) 0
theorem usum_snoc (qs : List MStep) (q : MStep) : usum (qs ++ [q]) = usum qs + q.2.2 := by rw [usum, List.foldl_append]; rfl
theorem usum_take {qs : List MStep} {i : Nat} {q : MStep} (h : qs[i]? = some q) : usum (qs.take (i + 1)) = usum (qs.take i) + q.2.2 := by
  rw [List.take_add_one, h]; exact usum_snoc _ _
def InUse (lo hi : Int) (q : MStep) : Prop := lo ≤ q.1 ∧ q.1 < q.2.1 ∧ q.2.1 ≤ hi ∧ 0 ≤ q.2.2 ∧ q.2.2 < 1000000000000
theorem usum_bd {qs : List MStep} {lo hi : Int} (h : ∀ q ∈ qs, InUse lo hi q) (i : Nat) : 0 ≤ usum (qs.take i) ∧ usum (qs.take i) ≤ i * 1000000000000 := by
  induction i with
  | zero => simp [usum]
  | succ i ih =>
    cases e : qs[i]? with
    | none =>
      have : qs.take (i + 1) = qs.take i := by rw [List.take_add_one, e]; simp
      rw [this]; omega
    | some q =>
      have := (h q (List.mem_of_getElem? e)).2.2.2
      rw [usum_take e]; omega
def RVal (r : MRow) : Prop := 0 ≤ r.2.1 ∧ r.2.1 < 1000 ∧ 0 ≤ startOf r ∧ startOf r < 1000
inductive RowsOk : List MRow → Nat → Prop
  | nil : RowsOk [] 0
  | one {r : MRow} : 1 ≤ r.1 → r.1 ≤ 9 → RVal r → RowsOk [r] 1
  | snoc {rs : List MRow} {a b : MRow} {n : Nat} : RowsOk (rs ++ [a]) n → a.1 < b.1 → b.1 ≤ a.1 + 9 → RVal b → RowsOk (rs ++ [a] ++ [b]) (n + 1)
theorem RowsOk.split {rows : List MRow} {i : Nat} (h : RowsOk rows i) : (rows = [] ∧ i = 0) ∨ ∃ rs a, rows = rs ++ [a] := by
  cases h with
  | nil => exact .inl ⟨rfl, rfl⟩
  | one _ _ _ => exact .inr ⟨[], _, rfl⟩
  | snoc _ _ _ _ => exact .inr ⟨_, _, rfl⟩
theorem RowsOk.len {rows : List MRow} {i : Nat} (h : RowsOk rows i) : rows.length = i := by
  induction h with
  | nil => rfl
  | one _ _ _ => rfl
  | snoc _ _ _ _ ih => rw [List.length_append, ih]; rfl
theorem snoc_inj {α : Type} {rs qs : List α} {a b : α} (h : rs ++ [a] = qs ++ [b]) : rs = qs ∧ a = b := by simpa using h
theorem RowsOk.facts {rows : List MRow} {i : Nat} (h : RowsOk rows i) : ∀ rs a, rows = rs ++ [a] → 1 ≤ a.1 ∧ a.1 ≤ 9 * (i : Int) ∧ RVal a ∧ ∃ f, rows[0]? = some f ∧ 1 ≤ f.1 ∧ f.1 ≤ a.1 ∧ ∀ q ∈ stepsF 1000 rows, InUse f.1 a.1 q := by
  induction h with
  | nil => intro rs a e; simp at e
  | @one r h1 h2 h3 =>
    intro rs a e
    obtain ⟨rfl, rfl⟩ := snoc_inj (rs := []) e
    exact ⟨h1, by omega, h3, r, rfl, h1, by omega, fun q hq => by simp [stepsF] at hq⟩
  | @snoc rs a b n hh h1 h2 h3 ih =>
    intro rs' b' e
    obtain ⟨rfl, rfl⟩ := snoc_inj e
    obtain ⟨k1, k2, k3, f, k4, k5, k6, k7⟩ := ih rs a rfl
    refine ⟨by omega, by omega, h3, f, ?_, k5, by omega, fun q hq => ?_⟩
    · rw [List.getElem?_append_left (by simp)]; exact k4
    · rw [stepsF_snoc] at hq
      rcases List.mem_append.mp hq with hq | hq
      · have := k7 q hq
        unfold InUse at *
        omega
      · rw [List.mem_singleton.mp hq]
        have := h3.1; have := h3.2.1; have := k3.2.2
        unfold InUse stepOf
        dsimp only
        have e : (b.2.1 - startOf a).fmod 1000 = (b.2.1 - startOf a) % 1000 := Int.fmod_eq_emod_of_nonneg _ (by decide)
        rw [e]
        omega
theorem units_neg {v b : Int} (h1 : 0 ≤ v) (h2 : b < 1000) (h : v - b < 0) : (v - b).fmod 1000 = v - b + 1000 := by
  rw [Int.fmod_eq_emod_of_nonneg _ (by decide)]; omega
theorem units_pos {v b : Int} (h1 : v < 1000) (h2 : 0 ≤ b) (h : ¬ v - b < 0) : (v - b).fmod 1000 = v - b := by
  rw [Int.fmod_eq_emod_of_nonneg _ (by decide)]; omega
theorem RowsOk.snoc' {rs : List MRow} {a : MRow} {i : Nat} (h : RowsOk (rs ++ [a]) i) {d v : Int} {o : Option Int} (h1 : a.1 < d) (h2 : d ≤ a.1 + 9) (hv : RVal (d, v, o)) : RowsOk (rs ++ [a] ++ [(d, v, o)]) (i + 1) := .snoc h h1 h2 hv
theorem subs_of {h₀ h' : Heap} {L : Addr} {all TL : List (Addr × Obj)} (_N : News h₀ L h' all) (hs : ∀ p ∈ TL, p ∈ all) : ∀ p ∈ TL, p ∈ all := hs
local macro_rules | `(tactic| walk_at "getMethod ref") => `(tactic| (k_here; k_dflt (refine' method_inst ?k1 ?k2 ?k3 ?k4 ?k5 ?k6 ?k7 ?_; (case k1 => k_asm); (case k2 => k_asm); (case k3 => exact inst_b (by k_asm) (by with_reducible assumption) (by with_reducible assumption)); (case k4 => k_is); (case k5 => k_is); (case k6 => k_is); (case k7 => k_get); k_whole)))
local macro_rules | `(tactic| walk_at "subscriptTail") => `(tactic| (k_here; (with_reducible show wpAny _ _ (subscriptTail _ _ (Value.ref _) (Value.int _ _)) _ _ _); k_dflt (refine' back_t ?k1 ?k0 ?k2 ?kS ?k3 ?k4 ?k5 ?k6 ?k7 ?k8 ?_ ?k9 ?k10; (case k1 => k_asm); (case k0 => k_asm); (case k2 => with_reducible assumption); (case kS => exact (by intro p9 hp9; first | exact hp9 | exact absurd hp9 List.not_mem_nil | (repeat (first | exact hp9 | refine List.mem_cons_of_mem _ ?_)))); (case k3 => exact rfl); (case k4 => exact rfl); (case k5 => decide); (case k6 => omega); (case k7 => decide); (case k8 => with_reducible assumption); (case k9 => with_unfolding_all rfl); (case k10 => (intro _; with_unfolding_all rfl)); k_whole)))
local macro_rules | `(tactic| walk_at "call ref") => `(tactic| (k_here; (with_reducible show wpAny _ _ (call (Value.ref 72) [Value.int _ _, Value.int _ _]) _ _ _); k_dflt (refine' frac_use ?k1 ?k2 ?k3 ?k4 ?k5 ?k6 ?k7 ?k8 ?k9 ?k10 ?k11 ?k12 ?k13 ?_; (case k1 => k_asm); (case k2 => k_asm); (case k3 => k_asm); (case k4 => k_asm); (case k5 => k_asm); (case k6 => first | exact rfl | assumption); (case k7 => first | exact Nat.le_of_ble_eq_true rfl | ktr_room); (case k8 => first | exact Nat.le_of_ble_eq_true rfl | ktr_units); (case k10 => bits_by_make); (case k11 => bits_by_make); (case k12 => decide); (case k13 => decide); (case k9 => first | exact nzden _ | omega | ((try k_fmods); omega) | (refine nzmul ?_ ?_ <;> first | exact nzden _ | omega)); k_whole); intro r' D' t' u' c' h' tk' rE' rN' rD' F' N' l1; (try k_lt l1); (try k_sweep)))
local macro_rules | `(tactic| walk_at "call ref") => `(tactic| (k_here; (with_reducible show wpAny _ _ (call (Value.ref 72) [Value.int _ _, Value.int 1 _]) _ _ _); k_dflt (refine' frac_one ?k1 ?k2 ?k3 ?k4 ?k5 ?k6 ?k7 ?k8 ?k10 ?k12 ?_; (case k1 => k_asm); (case k2 => k_asm); (case k3 => k_asm); (case k4 => k_asm); (case k5 => k_asm); (case k6 => first | exact rfl | assumption); (case k7 => first | exact Nat.le_of_ble_eq_true rfl | ktr_room); (case k8 => first | exact Nat.le_of_ble_eq_true rfl | ktr_units); (case k10 => bits_by_make); (case k12 => decide); k_whole); intro D' t' u' c' h' tk' F' N' l1; (try k_lt l1); (try k_sweep)))
local macro_rules | `(tactic| walk_at "call ref") => `(tactic| (k_here; (with_reducible show wpAny _ _ (call (Value.ref 72) [Value.int _ _]) _ _ _); k_dflt (refine' frac_dflt ?k1 ?k2 ?k3 ?k4 ?k5 ?k6 ?k7 ?k8 ?k10 ?k12 ?_; (case k1 => k_asm); (case k2 => k_asm); (case k3 => k_asm); (case k4 => k_asm); (case k5 => k_asm); (case k6 => first | exact rfl | assumption); (case k7 => first | exact Nat.le_of_ble_eq_true rfl | ktr_room); (case k8 => first | exact Nat.le_of_ble_eq_true rfl | ktr_units); (case k10 => bits_by_make); (case k12 => decide); k_whole); intro D' t' u' c' h' tk' F' N' l1; (try k_lt l1); (try k_sweep)))
local macro_rules | `(tactic| walk_at "call ref") => `(tactic| (k_here; (with_reducible show wpAny _ _ (call (Value.ref 151) _ _) _ _ _); refine Hold.out ?_))
local macro_rules | `(tactic| walk_at "call ref") => `(tactic| (k_here; (with_reducible show wpAny _ _ (call (Value.ref 87) _ _) _ _ _); refine Hold.out ?_))
local macro_rules | `(tactic| walk_at "call ref") => `(tactic| (k_here; (with_reducible show wpAny _ _ (call (Value.ref 94) _ _) _ _ _); refine Hold.out ?_))
theorem used_c {w : World} {p : Program} {loose : List Str} {mean : ExcName → Option Value} {mg mb : Str → Option Value} {dp un : Nat} {gd : Option (List Code)} {cn : Str} {cs : Scope} {a : Addr} {ccd : Value} {cl : List (Str × Addr)} {outer : List Env} {A₀ : Around} {base h₀ : Heap} {L : Addr} {m : Str → Option Value} {news : List (Addr × Obj)} {s : Shared} {Q E : Value → Shared → Prop} {P : Addr → Obj → Prop} {x d l0 : Addr} {k1 k2 k3 k4 k5 : Tok} {nm fa re : Value} {tu : Int} {t3 : Tok} {vs : List Value} {rows : List MRow} {n0 : Nat} {st en : Int} {ts te : Tok} {Df : Addr} {f : Rat} {tf tf' : Tok} {cf bf : Nat} {ra rf : MRow}
    (B : Below A₀ base outer h₀) (F : Fr h₀ L s.heap m) (X : (HD.K w.params).In h₀) (N : News h₀ L s.heap news) (T : Top p loose mean mg mb h₀) (hk : cs.kind = .function) (hgx : s.heap.get? x = some (instObj 161 d)) (hgd : s.heap.get? d = some (meterD w.params k1 k2 k3 k4 k5 nm (.int tu t3) (.ref Df) (.ref l0) re)) (hP : ∀ a o, P a o → s.heap.get? a = some o) (el : P l0 (listOf vs.toArray n0)) (hv : All2 (RowN P) vs rows) (htu : 0 < tu) (hll : rows.length ≤ 1000) (h0 : rows[0]? = some rf) (hz : rows[rows.length - 1]? = some ra) (est : st = rf.1) (een : en = ra.1) (hs0 : 0 ≤ st) (hse : st ≤ en) (hen : en ≤ 10000000) (hq : ∀ q ∈ stepsF tu rows, InUse st en q)
    (hf : s.heap.get? Df = some (RatO f tf tf' cf)) (hbf : Bd bf f) (hbf2 : bf ≤ 6000)
    (hd : dp + 14 < recursionLimit) (hu : un + 500 < cLine)
    (hret : ∀ (D : Addr) (t t' : Tok) (c : Nat) (h' : Heap) (tk' : Nat), Bd (64 + bf) (((usum (stepsF tu rows) : Int) : Rat) * f) → Fr h₀ L h' m → News h₀ L h' ((D, RatO (((usum (stepsF tu rows) : Int) : Rat) * f) t t' c) :: news) → (∀ p ∈ news, p.1 ≠ D) → Q (.ref D) { s with heap := h', toks := tk' }) :
    wpAny (model PySem.Challenge.rw_ui0509_07.row.prog w) (ktrTop dp un gd cn cs L a ccd cl outer) (call (.ref 158) [.ref x, .int st ts, .int en te]) Q E s := by
  w_top off
  revert X; k_fill; intro X
  refine wpAny_call ?_
  k_dflt (refine' code_need [] ?k1 ?k2 ?k3 ?k4 ?k5 ?kA ?kF ?kK ?k6 ?k7 ?k8 ?k9 ?kB ?kN ?_ ?c2 ?c3 ?c4 ?c5; (case kA => exact rfl); (case kF => exact rfl); (case kK => assumption); (case k1 => k_asm); (case k2 => k_asm); (case k3 => k_asm); (case k4 => k_asm); (case k5 => k_asm); (case k6 => k_is); (case k7 => k_is); (case k8 => ktr_room); (case k9 => first | exact BindsTo.of_eq rfl | exact binds_K (by k_in) rfl (by k_is) rfl rfl rfl); (case c5 => decide); (case kB => exact locs rfl); (case kN => exact fun _ h => nomatch h); (case c2 => exact rfl); (case c3 => exact rfl); (case c4 => exact rfl); k_whole; intro g' L' h' tk0 FG' F' N' B' X' T' hG'; (try dsimp only); (try k_fold))
  have hT := ground_of hP hG'
  have elT := hT [] _ _ (.inl el)
  replace hgx := hG' _ _ hgx (by simp)
  replace hgd := hG' _ _ hgd (by simp)
  replace hf := hG' _ _ hf (by simp)
  have hvl := hv.length
  have hpl : 0 < rows.length := (List.getElem?_eq_some_iff.mp h0).1
  obtain ⟨_, hva, Ta, a1, a2, ua, ca, rfl, eA, oA⟩ := hv.at h0
  obtain ⟨_, hvb, Tb, b1, b2, ub, cb, rfl, eB, oB⟩ := hv.at hz
  have eA' := hT [] _ _ (.inl eA)
  have eB' := hT [] _ _ (.inl eB)
  have hx1 : vs[(0 : Int).toNat]? = some (Value.ref Ta) := hva
  have hx2 : vs[(-1 + (vs.length : Int)).toNat]? = some (Value.ref Tb) := at_of hvb (by omega)
  k_steps
  all_goals try (exfalso; omega)
  unfold Hold
  k_dflt (refine' steps_c (P := P) (rows := rows) (tu := tu) ?k1 ?k2 ?k3 ?k4 ?k5 ?k6 ?gx ?gd ?hP ?el ?hv ?htu ?hll ?k7 ?k8 ?_)
  case k1 => k_asm
  case k2 => k_asm
  case k3 => k_asm
  case k4 => k_asm
  case k5 => k_asm
  case k6 => first | exact rfl | assumption
  case k7 => ktr_room
  case k8 => ktr_units
  case gx => exact Fr.keep (by k_asm) _ _ hgx
  case gd => exact Fr.keep (by k_asm) _ _ hgd
  case hP => exact fun a o e => (hT [] a o (.inl e)).get (by k_asm) (by k_asm) fun _ h => nomatch h
  case el => exact el
  case hv => exact hv
  case htu => exact htu
  case hll => exact hll

  intro d1 ws nw tl h5 tk5 F5 N5 n51 n52 n53 hws
  simp only [List.nil_append] at N5
  k_steps
  unfold Hold
  refine iter_listTurns rfl (by k_asm) (by k_asm) (List.mem_cons_self ..) rfl rfl (fun I lI => ?_)
  refine items_ind (fun i m nx => ∃ v, m (Str.ofString "out") = some v ∧ m (Str.ofString "self") = some (.ref x) ∧ m (Str.ofString "start") = some (.int st ts) ∧ m (Str.ofString "end") = some (.int en te) ∧ ((i = 0 ∧ v = .ref 56 ∧ nx = (d1, listOf ws.toArray nw) :: tl) ∨ (0 < i ∧ ∃ D t t' c, v = .ref D ∧ (@Ne Nat D d1) ∧ (∀ q ∈ tl, q.1 ≠ D) ∧ nx = (D, RatO ((usum ((stepsF tu rows).take i) : Int) : Rat) t t' c) :: (d1, listOf ws.toArray nw) :: tl))) ?turn ?done _ 0 _ _ rfl (Nat.zero_le _) ⟨List.mem_cons_self .., trivial⟩ (fun p hp => Nat.ne_of_lt (lI p hp)) ⟨_, rfl, rfl, rfl, rfl, .inl ⟨rfl, rfl, rfl⟩⟩
  case turn =>
    intro i a v m nx h tk o ha _ hI hJ hav Fm ho Nn
    obtain ⟨⟨qa, qb, qu⟩, hr, D1, t1, t1', t1'', c1, rfl, e1⟩ := hws.get (val_get ha hav)
    have e1' := hT tl _ _ e1
    have hil : i < (stepsF tu rows).length := (List.getElem?_eq_some_iff.mp hr).1
    rw [stepsF_len] at hil
    obtain ⟨q1, q2, q3, q4, q5⟩ := hq _ (List.mem_of_getElem? hr)
    have hus := usum_bd hq i
    dsimp only at e1' q1 q2 q3 q4 q5
    have hmn : (if en < qb then en else qb) = qb := if_neg (by omega)
    have hmx : (if st > qa then st else qa) = qa := if_neg (by omega)
    have hb1 : Builtin.Int.intBits (qu * ((if en < qb then en else qb) - if st > qa then st else qa)) ≤ 64 + 64 := by
      rw [hmn, hmx]; exact bits_mul (PySem.intBits_le_64 (by omega) (by omega)) (PySem.intBits_le_64 (by omega) (by omega))
    have hb2 : Builtin.Int.intBits (qb - qa) ≤ 64 := PySem.intBits_le_64 (by omega) (by omega)
    obtain ⟨vo, hm, hm2, hm3, hm4, ⟨rfl, rfl, rfl⟩ | ⟨hpos, D, t, t', c, rfl, nD1, nDt, rfl⟩⟩ := hJ
    · have htot : usum ((stepsF tu rows).take (0 + 1)) = qu := by rw [usum_take hr]; simp [usum]
      have nI1 : d1 ≠ I := hI _ (List.mem_cons_self ..)
      have htI : ∀ p ∈ tl, p.1 ≠ I := fun p hp => hI p (List.mem_cons_of_mem _ hp)
      replace nI1 := neN nI1
      k_steps
      unfold Hold
      rename_i r9 D9 t9 u9 c9 h9 tk9 rE rN rD F9 N9 l9
      have er : r9 = ((qu : Int) : Rat) := by
        rw [rE, hmn, hmx]
        have := Rat.divInt_mul_right (n := qu) (d := 1) (a := qb - qa) (by omega)
        rw [Int.one_mul] at this
        rw [this, r_int]
      subst er
      k_dflt (refine' plus_r (D1 := 56) (D2 := D9) (r1 := 0) (r2 := ((qu : Int) : Rat)) (n := 1) (k := 64) ?k1 ?k2 ?k3 ?k4 ?k5 ?k6 ?e1 ?e2 ?k7 ?k8 ?b1 ?b2 ?hbq ?_)
      case k1 => k_asm
      case k2 => k_asm
      case k3 => k_asm
      case k4 => k_asm
      case k5 => k_asm
      case k6 => first | exact rfl | assumption
      case k7 => ktr_room
      case k8 => ktr_units
      case e1 => exact Frag.In.keeps (by k_asm) (Fr.keep (by k_asm)) _ _ (by k_is)
      case e2 => exact N9.get (by k_mem)
      case b1 => exact Bd.zero (by decide)
      case b2 => exact Bd.int (PySem.intBits_le_64 (by omega) (by omega)) (by decide)
      case hbq => first | decide | omega

      intro D8 t8 u8 c8 h8 tk8 b8 F8 N8 l8
      have ez : 0 + ((qu : Int) : Rat) = ((usum ((stepsF tu rows).take (0 + 1)) : Int) : Rat) := by rw [htot]; rw [show (0 : Rat) = ((0 : Int) : Rat) from rfl, ← Rat.intCast_add]; congr 1; omega
      rw [ez] at N8
      have l8t : ∀ q ∈ tl, q.1 ≠ D8 := fun q hq => l8 q ((subs_of N9 (by intro p9 hp9; simp only [List.mem_cons, List.mem_append]; simp only [hp9, true_or, or_true]) : ∀ p ∈ tl, p ∈ _) q hq)
      replace l8 := allNe_of l8; simp only [AllNe, and_true] at l8
      k_steps
      unfold Hold
      (rename News _ _ _ _ => NN)
      exact unr_end ((D8, RatO ((usum ((stepsF tu rows).take (0 + 1)) : Int) : Rat) t8 u8 c8) :: (d1, listOf ws.toArray nw) :: tl) (by k_asm) NN (by k_mem) (List.forall_mem_cons.mpr ⟨by k_mem, List.forall_mem_cons.mpr ⟨by k_mem, (by intro p9 hp9; simp only [List.mem_cons, List.mem_append]; simp only [hp9, true_or, or_true])⟩⟩) (List.forall_mem_cons.mpr ⟨neN (by omega), List.forall_mem_cons.mpr ⟨nI1, htI⟩⟩)
        ⟨⟨List.mem_cons_of_mem _ (List.mem_cons_self ..), trivial⟩, _, rfl, by first | rfl | assumption, by first | rfl | assumption, by first | rfl | assumption, .inr ⟨Nat.succ_pos _, D8, t8, u8, c8, rfl, neN (by omega), l8t, rfl⟩⟩
    · have htot := usum_take hr
      have nI1 : d1 ≠ I := hI _ (List.mem_cons_of_mem _ (List.mem_cons_self ..))
      have htI : ∀ p ∈ tl, p.1 ≠ I := fun p hp => hI p (List.mem_cons_of_mem _ (List.mem_cons_of_mem _ hp))
      replace nI1 := neN nI1
      have nID := neN (hI _ (List.mem_cons_self ..))
      k_steps
      unfold Hold
      rename_i r9 D9 t9 u9 c9 h9 tk9 rE rN rD F9 N9 l9
      have er : r9 = ((qu : Int) : Rat) := by
        rw [rE, hmn, hmx]
        have := Rat.divInt_mul_right (n := qu) (d := 1) (a := qb - qa) (by omega)
        rw [Int.one_mul] at this
        rw [this, r_int]
      subst er
      k_dflt (refine' plus_r (D1 := D) (D2 := D9) (r1 := ((usum ((stepsF tu rows).take i) : Int) : Rat)) (r2 := ((qu : Int) : Rat)) (n := 64) (k := 64) ?k1 ?k2 ?k3 ?k4 ?k5 ?k6 ?e1 ?e2 ?k7 ?k8 ?b1 ?b2 ?hbq ?_)
      case k1 => k_asm
      case k2 => k_asm
      case k3 => k_asm
      case k4 => k_asm
      case k5 => k_asm
      case k6 => first | exact rfl | assumption
      case k7 => ktr_room
      case k8 => ktr_units
      case e1 => exact N9.get (by k_mem)
      case e2 => exact N9.get (by k_mem)
      case b1 => exact Bd.int (PySem.intBits_le_64 (by omega) (by omega)) (by decide)
      case b2 => exact Bd.int (PySem.intBits_le_64 (by omega) (by omega)) (by decide)
      case hbq => first | decide | omega

      intro D8 t8 u8 c8 h8 tk8 b8 F8 N8 l8
      have ez : ((usum ((stepsF tu rows).take i) : Int) : Rat) + ((qu : Int) : Rat) = ((usum ((stepsF tu rows).take (i + 1)) : Int) : Rat) := by rw [htot]; rw [Rat.intCast_add]
      rw [ez] at N8
      have l8t : ∀ q ∈ tl, q.1 ≠ D8 := fun q hq => l8 q ((subs_of N9 (by intro p9 hp9; simp only [List.mem_cons, List.mem_append]; simp only [hp9, true_or, or_true]) : ∀ p ∈ tl, p ∈ _) q hq)
      replace l8 := allNe_of l8; simp only [AllNe, and_true] at l8
      k_steps
      unfold Hold
      (rename News _ _ _ _ => NN)
      exact unr_end ((D8, RatO ((usum ((stepsF tu rows).take (i + 1)) : Int) : Rat) t8 u8 c8) :: (d1, listOf ws.toArray nw) :: tl) (by k_asm) NN (by k_mem) (List.forall_mem_cons.mpr ⟨by k_mem, List.forall_mem_cons.mpr ⟨by k_mem, (by intro p9 hp9; simp only [List.mem_cons, List.mem_append]; simp only [hp9, true_or, or_true])⟩⟩) (List.forall_mem_cons.mpr ⟨neN (by omega), List.forall_mem_cons.mpr ⟨nI1, htI⟩⟩)
        ⟨⟨List.mem_cons_of_mem _ (List.mem_cons_self ..), trivial⟩, _, rfl, by first | rfl | assumption, by first | rfl | assumption, by first | rfl | assumption, .inr ⟨Nat.succ_pos _, D8, t8, u8, c8, rfl, neN (by omega), l8t, rfl⟩⟩
  case done =>
    intro m nx h tk hJ Fm Nn
    rw [List.length_map, hws.length, List.take_length] at hJ
    obtain ⟨vo, hm, hm2, hm3, hm4, ⟨h00, rfl, rfl⟩ | ⟨hpos, D, t, t', c, rfl, nD1, nDt, rfl⟩⟩ := hJ
    · have hz0 : stepsF tu rows = [] := List.length_eq_zero_iff.mp h00
      k_steps
      unfold Hold
      k_dflt (refine' times_r (D1 := 56) (D2 := Df) (r1 := 0) (r2 := f) (n := 1) (k := bf) ?k1 ?k2 ?k3 ?k4 ?k5 ?k6 ?e1 ?e2 ?k7 ?k8 ?b1 ?b2 ?hbq ?_)
      case k1 => k_asm
      case k2 => k_asm
      case k3 => k_asm
      case k4 => k_asm
      case k5 => k_asm
      case k6 => first | exact rfl | assumption
      case k7 => ktr_room
      case k8 => ktr_units
      case e1 => exact Frag.In.keeps (by k_asm) (Fr.keep (by k_asm)) _ _ (by k_is)
      case e2 => exact Fr.keep (by k_asm) _ _ hf
      case b1 => exact Bd.zero (by decide)
      case b2 => exact hbf
      case hbq => first | decide | omega

      intro D8 t8 u8 c8 h8 tk8 b8 F8 N8 l8
      have ez : (0 : Rat) = ((usum (stepsF tu rows) : Int) : Rat) := by rw [hz0]; rfl
      rw [ez] at N8 b8
      k_steps
      try dsimp only
      refine leaveN_ (by k_asm) (by k_asm) ?_; intro kF kN kR kD; (try dsimp only); exact hret _ _ _ _ _ _ (b8.mono (by omega)) kF (news_cons kN (by k_mem) (news_all kR)) (ne_all kD (by k_mem : (D8, _) ∈ _))
    · have hus := usum_bd hq (stepsF tu rows).length
      rw [List.take_length] at hus
      have hsl := stepsF_len (tu := tu) (rs := rows)
      k_steps
      unfold Hold
      k_dflt (refine' times_r (D1 := D) (D2 := Df) (r1 := ((usum (stepsF tu rows) : Int) : Rat)) (r2 := f) (n := 64) (k := bf) ?k1 ?k2 ?k3 ?k4 ?k5 ?k6 ?e1 ?e2 ?k7 ?k8 ?b1 ?b2 ?hbq ?_)
      case k1 => k_asm
      case k2 => k_asm
      case k3 => k_asm
      case k4 => k_asm
      case k5 => k_asm
      case k6 => first | exact rfl | assumption
      case k7 => ktr_room
      case k8 => ktr_units
      case e1 => exact News.get (by k_asm) (by k_mem)
      case e2 => exact Fr.keep (by k_asm) _ _ hf
      case b1 => exact Bd.int (PySem.intBits_le_64 (by omega) (by omega)) (by decide)
      case b2 => exact hbf
      case hbq => first | decide | omega

      intro D8 t8 u8 c8 h8 tk8 b8 F8 N8 l8
      k_steps
      try dsimp only
      refine leaveN_ (by k_asm) (by k_asm) ?_; intro kF kN kR kD; (try dsimp only); exact hret _ _ _ _ _ _ (b8.mono (by omega)) kF (news_cons kN (by k_mem) (news_all kR)) (ne_all kD (by k_mem : (D8, _) ∈ _))
section
variable {prog : Program} {w : World} {A : Around} {E : Value → Shared → Prop} {s : Shared} {K : Frag} {e t C : Addr} {oe ot : Obj} {ws : Array Value} {nt : Nat} {m : Str} {u : Tok} {Q : Value → Shared → Prop}
theorem own_type {M : Model} (he : s.heap.get? e = some oe) (hc : oe.cls = .ref C) : Looks M s.heap (typeOf (.ref e)) (.ref C) := by
  refine (Looks.ld (part := none) he).andThen ?_
  rw [hc]
  exact .now
open PySem.Builtin PySem.Builtin.Str PySem.Builtin.BaseException PySem.Builtin.Exceptions in
theorem own_args {M : Model} {Q : Value × List Value → Shared → Prop} (he : s.heap.get? e = some oe) (hd : oe.data = .fields ws) (h0 : ws[0]? = some (.ref t)) (ht : s.heap.get? t = some ot) (htd : ot.data = .seq [Value.str m u].toArray nt) (hq : Q (.ref t, [.str m u]) s) :
    wpAny M A (bexcArgs (.ref e)) Q E s := by
  unfold bexcArgs
  refine wpAny_bind (wpAny_field he hd h0 (wpAny_bind (wpAny_seqItems ht htd ?_)))
  exact wpAny_pure hq
open PySem.Builtin PySem.Builtin.Str PySem.Builtin.BaseException PySem.Builtin.Exceptions in
theorem own_str_entry {Q : Fin → Shared → Prop} (he : s.heap.get? e = some oe) (hd : oe.data = .fields ws) (h0 : ws[0]? = some (.ref t)) (ht : s.heap.get? t = some ot) (htd : ot.data = .seq [Value.str m u].toArray nt) (hq : Q (.done (.ret (.str m u))) s) :
    wpAny (model prog w) A (Builtin.«BaseException.__str__» ⟨[.ref e], []⟩) Q E s := by
  unfold Builtin.«BaseException.__str__»
  repeat (first | with_reducible refine own_args he hd h0 ht htd ?_ | wp_step)
  exact hq
theorem own_special {M : Model} {name : Str} {id : String} {args : List Value} {Q : Option Value → Shared → Prop} (X : K.In s.heap) (he : s.heap.get? e = some oe) (hc : oe.cls = .ref C) (hs : findIn K (.ref C) name = some (some (.builtin id)))
    (hb : ∀ self, bindSpecial (.builtin id) self = pure (.builtin id, [self])) (h : wpAny M A (call (.builtin id) (.ref e :: args)) (fun v => Q (some v)) E s) : wpAny M A (callSpecial? (.ref e) name args) Q E s :=
  wpAny_bind (wpAny_bind ((own_type he hc).here ((looks_findIn X hs).here (wpAny_holding (wpAny_bind ((Looks.of_pure (hb _)).here (wpAny_bind (wpAny_mono h (fun _ _ z => wpAny_pure z) fun _ _ z => z))))))))
open PySem.Builtin PySem.Builtin.Str PySem.Builtin.BaseException PySem.Builtin.Exceptions in
theorem str_own (hu : A.in1.in1.units < cLine) (X : K.In s.heap) (he : s.heap.get? e = some oe) (hc : oe.cls = .ref C) (hd : oe.data = .fields ws) (h0 : ws[0]? = some (.ref t)) (ht : s.heap.get? t = some ot) (htd : ot.data = .seq [Value.str m u].toArray nt)
    (hs : findIn K (.ref C) "__str__" = some (some (.builtin "BaseException.__str__"))) (hm : mroIn K C (.type "BaseException") = some true) (h : Q (.str m u) s) : wpAny (model prog w) A (call (.type "str") [.ref e]) Q E s := by
  refine callType_codes (T := "str") (Bi := Builtin.«object.__init__») (Q₁ := fun r s₁ => ∃ y u, r = .str y u ∧ Q r s₁) PySem.F.called_str (PySem.F.typeCall_str_1 _) PySem.F.entry_object_init ?_ ?_
  · refine codeAny_of_tree ?_
    show wpAny _ A.in1.in1 (do checkBuiltinCall "str.__new__" ⟨[.type "str", .ref e], []⟩; again (.builtin "str.__new__" ⟨[.type "str", .ref e], []⟩)) _ _ s
    refine wpAny_bind (wpAny_of_eq (PySem.F.newCall_str_1 _) (wpAny_pure ⟨plainId_quiet (by decide +kernel) _, codeAny_builtin PySem.F.entry_str_new ?_⟩))
    rw [Around.under_plainId (by decide +kernel) _]
    rw [str_new_tree]
    refine wpAny_bind (wpAny_pure ?_)
    refine wpAny_bind (wpAny_of_eq isSubtype_str_str ?_)
    have key : wpAny (model prog w) A.in1.in1 (PySem.Builtin.Str.strOf (.ref e)) (fun r s₁ => ∃ y u, r = .str y u ∧ Q r s₁) E s := by
      unfold PySem.Builtin.Str.strOf
      rw [show isExactStr (.ref e) = false from rfl]
      refine wpAny_bind (m := cRoomFor _ _) (wpAny_cRoomFor hu ?_)
      refine wpAny_bind (m := callSpecial? (.ref e) (Str.ofString "__str__")) (own_special X he hc hs PySem.F.excStr_ValueError.str.bind ?_)
      refine wpAny_call (codeAny_call_builtin PySem.F.excStr_ValueError.str.plain PySem.F.entry_bexc_str (check_slot (i := "BaseException.__str__") (owner := "BaseException") (n := "__str__") (by decide +kernel) (by decide +kernel) ((own_type he hc).andThen (looks_mroIn X hm)) (PySem.F.args_bexc_str _) ?_))
      refine own_str_entry he hd h0 ht htd ?_
      exact wpAny_pure ⟨_, _, rfl, h⟩
    exact wpAny_bind (wpAny_mono key (fun r s₁ hr => wpAny_pure hr) fun _ _ y => y)
  · rintro obj s₁ ⟨y, u, rfl, hq⟩
    exact ⟨typeIs_str _ _ _, PySem.F.args_object_init_2 _ _, object_init_meets PySem.F.called_str.init.lookup PySem.F.called_str.made (by decide) prog w A.in1 _ s₁ ⟨typeIs_str _ _ _, rfl, hq⟩⟩
end
theorem str_gotC {prog : Program} {w : World} {A : Around} {E : Value → Shared → Prop} {K : Frag} {h₀ : Heap} {L e t C : Addr} {mm : Str → Option Value} {news : List (Addr × Obj)} {m : Str} {u : Tok} {s : Shared} {Q : Value → Shared → Prop} (hu : A.units + 2 < cLine) (F : Fr h₀ L s.heap mm) (X : K.In h₀) (N : News h₀ L s.heap news) (G : Got news e t (.ref C) [.str m u])
    (hs : findIn K (.ref C) "__str__" = some (some (.builtin "BaseException.__str__"))) (hm : mroIn K C (.type "BaseException") = some true) (h : Q (.str m u) s) : wpAny (model prog w) A (call (.type "str") [.ref e]) Q E s := by
  obtain ⟨oe, ot, ws, nt, h1, h2, hc, hd, h0, htc, htd⟩ := G
  exact str_own (show A.units + 1 + 1 < cLine from hu) (X.keeps F.keep) (N.get h1) hc hd h0 (N.get h2) htd hs hm h
inductive Final : Prop where
  | mk : Final
theorem good_true {cl : Str → Option Addr} {mean : ExcName → Option Value} {ns : List Int} {s₁ s' : Shared} {L : Addr} {m : Str → Option Value} (F : Fr s₁.heap L s'.heap m) (hg : s'.gens = #[]) (hos : s'.os = s₁.os) :
    GoodW PySem.Challenge.rw_ui0509_07.row.claim cl mean [ofPy (PyData.list (ns.map PyData.int))] s₁ (.ok (.ret (.bool true))) s' := by
  refine goodW_bool F hg (fun _ => rfl) (postW_of rfl ?_ rfl) hos
  first | (with_unfolding_all exact w_eq_bool (w_res rfl) w_lit) | rfl | simp [WTm.value] | wtm_val
-- the ledger as what is told
abbrev Led (led : List (Addr × Obj)) (a : Addr) (o : Obj) : Prop := (a, o) ∈ led
theorem ratR {led : List (Addr × Obj)} {D : Addr} {r : Rat} {t t' : Tok} {c : Nat} (h : (D, RatO r t t' c) ∈ led) : RatN (Led led) (.ref D) r := ⟨D, t, t', c, rfl, h⟩
theorem ledG {h₀ h : Heap} {L : Addr} {led all : List (Addr × Obj)} (N : News h₀ L h all) (hs : ∀ p ∈ led, p ∈ all) : ∀ a o, Led led a o → h.get? a = some o := fun _ _ e => N.get (hs _ e)
theorem ptG {h₀ h : Heap} {L : Addr} {led tl all : List (Addr × Obj)} (N : News h₀ L h all) (x : ∀ p ∈ led, p ∈ all) (y : ∀ p ∈ tl, p ∈ all) : ∀ a o, PT (Led led) tl a o → h.get? a = some o := fun _ _ e => e.elim (fun h => N.get (x _ h)) fun h => N.get (y _ h)
theorem RatN.rd' {P : Addr → Obj → Prop} {h : Heap} {v : Value} {r : Rat} {x : Int} (hP : ∀ a o, P a o → h.get? a = some o) (y : RatN P v r) (e : r = (x : Rat)) : Rd h v (.tuple [.int x, .int 1]) := by subst e; exact y.rd hP
theorem take_snoc {α β : Type} {R : α → β → Prop} {vs : List α} {bs : List β} {i : Nat} {b : β} (h : All2 R vs (bs.take (i + 1))) (hb : bs[i]? = some b) : ∃ vs' v, vs = vs' ++ [v] ∧ All2 R vs' (bs.take i) ∧ R v b := by
  rw [List.take_add_one, hb] at h
  have hlen := h.length
  simp at hlen
  rcases List.eq_nil_or_concat vs with e | ⟨vs', v, e⟩
  · rw [e] at hlen; simp at hlen
  · rw [List.concat_eq_append] at e
    subst e
    refine ⟨vs', v, rfl, ?_⟩
    have h1 : ∀ (as : List α) (cs : List β), All2 R (as ++ [v]) (cs ++ [b]) → All2 R as cs ∧ R v b := by
      intro as
      induction as with
      | nil =>
        intro cs h
        cases cs with
        | nil => cases h with | cons h r => exact ⟨.nil, h⟩
        | cons c cs => cases h with | cons h r => have := r.length; simp at this
      | cons a as ih =>
        intro cs h
        cases cs with
        | nil => cases h with | cons h r => have := r.length; simp at this
        | cons c cs => cases h with | cons h r => obtain ⟨x, y⟩ := ih cs r; exact ⟨.cons h x, y⟩
    exact h1 _ _ h
def stepP (q : MStep) : PyData := .tuple [.int q.1, .int q.2.1, .int q.2.2]
theorem StepN.rd {P : Addr → Obj → Prop} {h : Heap} {v : Value} {q : MStep} (hP : ∀ a o, P a o → h.get? a = some o) (x : StepN P v q) : Rd h v (stepP q) := by
  obtain ⟨D, t, t', t'', c, rfl, k⟩ := x
  exact Rd.tuple (vs := [_, _, _]) (hP _ _ k) (.cons .int (.cons .int (.cons .int .nil)))
theorem shaped_list {ds : List PyData} (h : ∀ d ∈ ds, d.canLay0 = true ∧ d.depth ≤ 8) : SeqAt.shaped (.list ds) = true := by
  have h : PyData.canLayAll0 ds = true ∧ PyData.depthAll ds ≤ 8 := by
    induction ds with
    | nil => exact ⟨rfl, by decide⟩
    | cons l ls ih =>
      have h1 := h l (List.mem_cons_self ..)
      have h2 := ih fun d hd => h d (List.mem_cons_of_mem _ hd)
      simp only [PyData.canLayAll0, PyData.depthAll, h2.1, h1.1, Bool.and_true]
      have := h1.2; have := h2.2
      exact ⟨by first | trivial | rfl, by omega⟩
  unfold SeqAt.shaped
  simp only [PyData.canLay0, PyData.depth, h.1, Bool.true_and]
  have := h.2
  exact decide_eq_true (by omega)
theorem shaped_map {β : Type} {f : β → PyData} (hf : ∀ b, (f b).canLay0 = true ∧ (f b).depth ≤ 8) (bs : List β) : SeqAt.shaped (.list (bs.map f)) = true := shaped_list fun d hd => by
  obtain ⟨b, _, rfl⟩ := List.mem_map.mp hd
  exact hf b
theorem stepP_sh (q : MStep) : (stepP q).canLay0 = true ∧ (stepP q).depth ≤ 8 := ⟨rfl, by simp [stepP, PyData.depth, PyData.depthAll]⟩
theorem intP_sh (q : Int) : (PyData.int q).canLay0 = true ∧ (PyData.int q).depth ≤ 8 := ⟨rfl, by simp [PyData.depth]⟩
section
variable {prog : Program} {w : World} {A : Around} {E : Value → Shared → Prop} {s : Shared} {a b : Value} {d d' : PyData} {Q : Value → Shared → Prop}
theorem neF_rd (ra : Rd s.heap a d) (rb : Rd s.heap b d') (hs : SeqAt.shaped d = true) (hs' : SeqAt.shaped d' = true) (hu : A.units + 64 < cLine) (he : PyData.eqv d d' = false) (h : Q (.bool true) s) : wpAny (model prog w) A (compareOp .NotEq a b) Q E s := by
  obtain ⟨as, ra⟩ := ra; obtain ⟨bs, rb⟩ := rb
  exact ne_dataH ra rb hs hs' hu (by rw [he]; exact h)
theorem eqF_rd (ra : Rd s.heap a d) (rb : Rd s.heap b d') (hs : SeqAt.shaped d = true) (hs' : SeqAt.shaped d' = true) (hu : A.units + 64 < cLine) (he : PyData.eqv d d' = false) (h : Q (.bool false) s) : wpAny (model prog w) A (compareOp .Eq a b) Q E s := by
  obtain ⟨as, ra⟩ := ra; obtain ⟨bs, rb⟩ := rb
  exact eq_dataH ra rb hs hs' hu (by rw [he]; exact h)
end
theorem eqv_snoc {β : Type} {f : β → PyData} {bs : List β} (h : bs ≠ []) : PyData.eqv (.list (bs.map f)) (.list []) = false := by
  cases bs with
  | nil => exact absurd rfl h
  | cons b bs => rfl
def IntV (v : Value) (d : Int) : Prop := ∃ t, v = .int d t
theorem ints_rd {h : Heap} {vs : List Value} {ds : List Int} (x : All2 IntV vs ds) : All2 (Rd h) vs (ds.map PyData.int) := x.map_r fun _ _ y => by
  obtain ⟨t, rfl⟩ := y
  exact Rd.int
theorem All2.unsnoc {α β : Type} {R : α → β → Prop} {vs : List α} {bs : List β} {b : β} (h : All2 R vs (bs ++ [b])) : ∃ vs' v, vs = vs' ++ [v] ∧ All2 R vs' bs ∧ R v b := by
  have h' : All2 R vs ((bs ++ [b]).take (bs.length + 1)) := by rw [List.take_of_length_le (by simp)]; exact h
  obtain ⟨vs', v, e, h1, h2⟩ := take_snoc h' (show (bs ++ [b])[bs.length]? = some b by simp)
  rw [List.take_left'  rfl] at h1
  exact ⟨vs', v, e, h1, h2⟩
def befOf (rows : List MRow) : Int := match rows.getLast? with
  | none => 0
  | some r => startOf r
theorem befOf_snoc {rs : List MRow} {a : MRow} : befOf (rs ++ [a]) = startOf a := by simp [befOf]
section
variable {prog : Program} {w : World} {A : Around} {E : Value → Shared → Prop} {s : Shared} {h₀ : Heap} {L l : Addr} {m : Str → Option Value} {news : List (Addr × Obj)} {value slice : PySem.Expr} {vs : List Value} {v : Value} {n : Nat} {u : Tok} {Q : Value → Shared → Prop}
theorem pick_last : kms_pick (vs ++ [v]).toArray.toList (some (-1)) none = [v] := by
  have e1 : kms_lo (some (-1)) (vs ++ [v]).toArray.toList.length = vs.length := by
    simp [kms_lo]; try omega
  have e2 : kms_hi none (vs ++ [v]).toArray.toList.length = vs.length + 1 := by
    simp [kms_hi]; try omega
  unfold kms_pick
  rw [e1, e2]
  simp
theorem last_cut (F : Fr h₀ L s.heap m) (N : News h₀ L s.heap news) (hl : (l, listOf (vs ++ [v]).toArray n) ∈ news) (hz : vs.length ≤ 1000)
    (h : ∀ D h', Fr h₀ L h' m → News h₀ L h' ((D, listOf [v].toArray 0) :: news) → (∀ p ∈ news, p.1 < D) → Q (.ref D) { s with heap := h' })
    (hs : subscripted slice false (.ref l) (.ref s.heap.objs.size) = operate [.ref s.heap.objs.size, .ref l] (getItem (.ref l) (.ref s.heap.objs.size))) (ht : ∀ r, letTemporaryGo value (.ref l) r = pure ()) :
    wpAny (model prog w) A (subscriptTail value slice (.ref l) (.ref s.heap.objs.size)) Q E { s with heap := s.heap.push { cls := .type "slice", data := .fields #[.int (-1) u, .none, .none] } } :=
  kms_slice_lit (its := (vs ++ [v]).toArray) F N ⟨_, N.get hl, rfl, n, rfl⟩ (IsPart.int _ _) .none pick_last h hs ht (by rw [sizeLine_eq]; simp; omega)
end
abbrev M07 (P : Params) (k1 k2 k3 k4 k5 ta tb : Tok) (l : Addr) : Obj := meterD P k1 k2 k3 k4 k5 (.str (Str.ofString "m") ta) (.int 1000 tb) (.ref 57) (.ref l) (.ref 56)
structure F07 (x d l S Y : Addr) (i : Nat) (m : Str → Option Value) (vs ws ds : List Value) (rows : List MRow) (tl : List (Addr × Obj)) : Prop where
  mm : m (Str.ofString "meter") = some (.ref x)
  ms : m (Str.ofString "steps") = some (.ref S)
  md : m (Str.ofString "days") = some (.ref Y)
  mb : ∃ t, m (Str.ofString "before") = some (.int (befOf rows) t)
  mt : ∃ t, m (Str.ofString "total") = some (.int (usum (stepsF 1000 rows)) t)
  ok : RowsOk rows i
  hr : All2 (RowN (Led tl)) vs rows
  hs : All2 (StepN (Led tl)) ws (stepsF 1000 rows)
  hd : All2 IntV ds (rows.map (·.1))
  tx : ∀ p ∈ tl, p.1 ≠ x
  td : ∀ p ∈ tl, p.1 ≠ d
  tl' : ∀ p ∈ tl, p.1 ≠ l
  tS : ∀ p ∈ tl, p.1 ≠ S
  tY : ∀ p ∈ tl, p.1 ≠ Y
def J07 (P : Params) (x d l S Y : Addr) (k1 k2 k3 k4 k5 ta tb : Tok) (i : Nat) (m : Str → Option Value) (nx : List (Addr × Obj)) : Prop :=
  ∃ vs ws ds n1 n2 n3 rows tl, nx = [(Y, listOf (List.toArray ds) n3), (S, listOf (List.toArray ws) n2), (x, instObj 161 d), (d, M07 P k1 k2 k3 k4 k5 ta tb l), (l, listOf (List.toArray vs) n1)] ++ tl ∧ F07 x d l S Y i m vs ws ds rows tl
theorem All2.nil_r {α β : Type} {R : α → β → Prop} {vs : List α} (h : All2 R vs []) : vs = [] := by cases h; rfl
theorem tkOf {h₀ h : Heap} {L : Addr} {m : Str → Option Value} {tl : List (Addr × Obj)} {D : Addr} {o : Obj} (_F : Fr h₀ L h m) (e : (D, o) ∈ tl) : Tk h₀ tl D o := .inl e
theorem five_of {P : Addr × Obj → Prop} {a b c d e : Addr × Obj} (h1 : P a) (h2 : P b) (h3 : P c) (h4 : P d) (h5 : P e) : ∀ p ∈ [a, b, c, d, e], P p := List.forall_mem_cons.mpr ⟨h1, List.forall_mem_cons.mpr ⟨h2, List.forall_mem_cons.mpr ⟨h3, List.forall_mem_cons.mpr ⟨h4, List.forall_mem_cons.mpr ⟨h5, List.forall_mem_nil _⟩⟩⟩⟩⟩
theorem not_in6 {a x y z u v w : Addr} (h1 : a ≠ x) (h2 : a ≠ y) (h3 : a ≠ z) (h4 : a ≠ u) (h5 : a ≠ v) (h6 : a ≠ w) : a ∉ [x, y, z, u, v, w] := by
  simp only [List.mem_cons, List.not_mem_nil, or_false, not_or]; exact ⟨h1, h2, h3, h4, h5, h6⟩
theorem rval_n {d v : Int} (h : 0 ≤ v) (h' : v < 1000) : RVal (d, v, none) := ⟨h, h', h, h'⟩
theorem rval_s {d v n : Int} (h : 0 ≤ v) (h' : v < 1000) (k : 0 ≤ n) (k' : n < 1000) : RVal (d, v, some n) := ⟨h, h', k, k'⟩
theorem apL {d : Nat} {l : List (Addr × Obj)} {a : Addr} {o : Obj} (h : AllNe d l) (hm : (a, o) ∈ l) : @Ne Nat a d := allNe_mem h _ hm
theorem last_le {vs : List Value} {v : Value} : -((vs ++ [v]).length : Int) ≤ -1 := by rw [List.length_append]; simp; omega
theorem size_a {vs : List Value} {a b : Value} (h : vs.length ≤ 1000) : (vs ++ [a] ++ [b]).toArray.size ≤ sizeLine := by rw [sizeLine_eq]; simp; omega
theorem size_b {vs : List Value} {a : Value} (h : vs.length ≤ 1000) : (vs ++ [a]).toArray.size ≤ sizeLine := by rw [sizeLine_eq]; simp; omega
theorem size_c {vs : List Value} (h : vs.length ≤ 1000) : vs.toArray.size ≤ sizeLine := by rw [sizeLine_eq]; simp; omega
theorem size_d {vs : List Value} {a : Value} (h : vs.length ≤ 1000) : (vs.toArray.push a).size ≤ sizeLine := by rw [sizeLine_eq]; simp; omega
theorem len_a {vs : List Value} {a b : Value} (h : vs.length ≤ 1000) : (vs ++ [a] ++ [b]).length < 1000000 := by simp; omega
theorem len_b {vs : List Value} {a : Value} (h : vs.length ≤ 1000) : (vs ++ [a]).length < 1000000 := by simp; omega
theorem len_c {vs : List Value} (h : vs.length ≤ 1000) : vs.length < 1000000 := by omega
inductive Mark7 : Prop where
  | mk : Mark7
theorem unr_head {h₀ h' : Heap} {L I : Addr} {o : Obj} {rest : (Str → Option Value) → List (Addr × Obj) → Prop} {s₁ : Shared} {tk : Nat} {m' : Str → Option Value} {news' : List (Addr × Obj)} (F : Fr h₀ L h' m') (N : News h₀ L h' ((I, o) :: news')) (hne : ∀ p ∈ news', p.1 ≠ I) (r : rest m' news') :
    UnrEndW h₀ L s₁ [(I, o)] rest { s₁ with heap := h', toks := tk } :=
  unr_end news' F N (List.mem_cons_self ..) (fun _ hp => List.mem_cons_of_mem _ hp) hne r
inductive Mark8 : Prop where
  | mk : Mark8
theorem subs_N {h₀ h' : Heap} {L : Addr} {all TL : List (Addr × Obj)} (_N : News h₀ L h' all) (hs : ∀ p ∈ TL, p ∈ all) : ∀ p ∈ TL, p ∈ all := hs
theorem inst_n {h₀ h : Heap} {L x C dx : Addr} {od : Obj} {led : List (Addr × Obj)} (N : News h₀ L h led) (h1 : (x, instObj C dx) ∈ led) (h2 : (dx, od) ∈ led) : InstAt h x (instObj C dx) C (some od) := ⟨N.get h1, rfl, rfl, N.get h2⟩
end Mine
open Mine
local macro_rules | `(tactic| k_in) => `(tactic| (refine' in_of ?fF ?fX; (case fF => k_asm); (case fX => k_asm)))
local macro_rules | `(tactic| kc_close) => `(tactic| ((fail_if_success (rename Final => fin')); (with_reducible show GoodW _ _ _ _ _ _ _); refine Hold.out ?_))
local macro_rules | `(tactic| wrow_close) => `(tactic| ((fail_if_success (rename Final => fin')); (with_reducible show GoodW _ _ _ _ _ _ _); refine Hold.out ?_))
local macro_rules | `(tactic| walk_at "hat9") => `(tactic| (first | exact News.get (by k_asm) (by k_mem) | exact Fr.keep (by k_asm) _ _ (by with_reducible assumption) | exact Tk.get (by k_asm) (by k_asm) (by with_reducible assumption) (by intro p9 hp9; first | exact hp9 | exact absurd hp9 List.not_mem_nil | (repeat (first | exact hp9 | refine List.mem_cons_of_mem _ ?_))) | exact Frag.In.keeps (by k_asm) (Fr.keep (by k_asm)) _ _ (by k_is)))
local macro_rules | `(tactic| bits_by_make) => `(tactic| with_reducible assumption)
local macro_rules | `(tactic| ktr_units) => `(tactic| (have hcL9 := cLine_is; (try simp only [units_under_make, units_in1, units_deeper, Around.mark_units, units_caller]); (try dsimp only [ktrTop]); omega))
local macro_rules | `(tactic| walk_at "binaryOp Mod int int") => `(tactic| (k_here; (with_reducible refine mod_gen ?mp ?_); (case mp => decide); intro v' v0' v1' vE'))
local macro_rules | `(tactic| walk_at "call ref") => `(tactic| (k_here; (with_reducible show wpAny _ _ (call (Value.ref 161) [Value.str (PySem.Str.ofString "m") _, Value.int _ _]) _ _ _); k_dflt (refine' meter_new1_m ?k1 ?k2 ?k3 ?k4 ?k5 ?k6 ?k7 ?k8 ?h2 ?h3 ?_; (case k1 => k_asm); (case k2 => k_asm); (case k3 => k_asm); (case k4 => k_asm); (case k5 => k_asm); (case k6 => first | exact rfl | assumption); (case k7 => first | exact Nat.le_of_ble_eq_true rfl | ktr_room); (case k8 => first | exact Nat.le_of_ble_eq_true rfl | ktr_units); (case h2 => first | decide | assumption | omega); (case h3 => first | decide | assumption | omega); k_whole); intro x' d' l' q1' q2' q3' q4' q5' n' h' tk' F' N' n1' n2' n3' l1' l2' l3'; (replace n1' := neN n1'; replace n2' := neN n2'; replace n3' := neN n3'); (replace l1' := allNe_of l1'); (replace l2' := allNe_of l2'); (replace l3' := allNe_of l3'); (try k_sweep)))
local macro_rules | `(tactic| walk_at "call ref") => `(tactic| ((fail_if_success (rename Mark8 => mk9)); k_here; (with_reducible show wpAny _ _ (call (Value.ref 130) [Value.ref _, Value.int _ _, Value.int _ _]) _ _ _); k_dflt (refine' read_nil ?k1 ?k2 ?k3 ?k4 ?k5 ?k6 ?ex ?U2 ?U1 ?n1 ?n2 ?n3 ?k7 ?h1 ?h2 ?h3 ?h4 ?_; (case k1 => k_asm); (case k2 => k_asm); (case k3 => k_asm); (case k4 => k_asm); (case k5 => k_asm); (case k6 => first | exact rfl | assumption); (case k7 => first | exact Nat.le_of_ble_eq_true rfl | ktr_room); (case ex => k_mem); (case U2 => k_upd); (case U1 => k_updF); (case n1 => k_ne); (case n2 => k_ne); (case n3 => k_ne); (case h1 => first | decide | assumption | omega); (case h2 => first | decide | assumption | omega); (case h3 => first | decide | assumption | omega); (case h4 => first | decide | assumption | omega); k_whole); intro D' c' n' h' tk' F' N' l1'; (try simp only [List.nil_append, List.cons_append] at N'); (replace l1' := allNe_of l1'); (try k_sweep)))
local macro_rules | `(tactic| walk_at "call ref") => `(tactic| ((fail_if_success (rename Mark8 => mk9)); k_here; (with_reducible show wpAny _ _ (call (Value.ref 130) [Value.ref _, Value.int _ _, Value.int _ _]) _ _ _); k_dflt (refine' read_snoc ?k1 ?k2 ?k3 ?k4 ?k5 ?k6 ?ex ?U2 ?U1 ?n1 ?n2 ?n3 ?e0 ?n0 ?hl ?h5 ?k7 ?h1 ?h2 ?h3 ?h4 ?_; (case k1 => k_asm); (case k2 => k_asm); (case k3 => k_asm); (case k4 => k_asm); (case k5 => k_asm); (case k6 => first | exact rfl | assumption); (case k7 => first | exact Nat.le_of_ble_eq_true rfl | ktr_room); (case ex => k_mem); (case U2 => k_upd); (case U1 => k_updF); (case n1 => k_ne); (case n2 => k_ne); (case n3 => k_ne); (case e0 => (walk_at "hat9")); (case n0 => (exact ⟨neN (by omega), neN (by omega), neN (by omega)⟩)); (case hl => first | decide | assumption | omega); (case h5 => first | decide | assumption | omega); (case h1 => first | decide | assumption | omega); (case h2 => first | decide | assumption | omega); (case h3 => first | decide | assumption | omega); (case h4 => first | decide | assumption | omega); k_whole); intro D' c' n' h' tk' F' N' l1'; (try simp only [List.nil_append, List.cons_append] at N'); (replace l1' := allNe_of l1'); (try k_sweep)))
local macro_rules | `(tactic| walk_at "call ref") => `(tactic| ((fail_if_success (rename Mark8 => mk9)); k_here; (with_reducible show wpAny _ _ (call (Value.ref 137) [Value.ref _, Value.int _ _, Value.int _ _, Value.int _ _]) _ _ _); k_dflt (refine' exch_nil ?k1 ?k2 ?k3 ?k4 ?k5 ?k6 ?ex ?U2 ?U1 ?n1 ?n2 ?n3 ?k7 ?h1 ?h2 ?h3 ?h4 ?h6 ?h7 ?_; (case k1 => k_asm); (case k2 => k_asm); (case k3 => k_asm); (case k4 => k_asm); (case k5 => k_asm); (case k6 => first | exact rfl | assumption); (case k7 => first | exact Nat.le_of_ble_eq_true rfl | ktr_room); (case ex => k_mem); (case U2 => k_upd); (case U1 => k_updF); (case n1 => k_ne); (case n2 => k_ne); (case n3 => k_ne); (case h1 => first | decide | assumption | omega); (case h2 => first | decide | assumption | omega); (case h3 => first | decide | assumption | omega); (case h6 => first | decide | assumption | omega); (case h7 => first | decide | assumption | omega); (case h4 => first | decide | assumption | omega); k_whole); intro D' c' n' h' tk' F' N' l1'; (try simp only [List.nil_append, List.cons_append] at N'); (replace l1' := allNe_of l1'); (try k_sweep)))
local macro_rules | `(tactic| walk_at "call ref") => `(tactic| ((fail_if_success (rename Mark8 => mk9)); k_here; (with_reducible show wpAny _ _ (call (Value.ref 137) [Value.ref _, Value.int _ _, Value.int _ _, Value.int _ _]) _ _ _); k_dflt (refine' exch_snoc ?k1 ?k2 ?k3 ?k4 ?k5 ?k6 ?ex ?U2 ?U1 ?n1 ?n2 ?n3 ?e0 ?n0 ?hl ?h5 ?k7 ?h1 ?h2 ?h3 ?h4 ?h6 ?h7 ?_; (case k1 => k_asm); (case k2 => k_asm); (case k3 => k_asm); (case k4 => k_asm); (case k5 => k_asm); (case k6 => first | exact rfl | assumption); (case k7 => first | exact Nat.le_of_ble_eq_true rfl | ktr_room); (case ex => k_mem); (case U2 => k_upd); (case U1 => k_updF); (case n1 => k_ne); (case n2 => k_ne); (case n3 => k_ne); (case e0 => (walk_at "hat9")); (case n0 => (exact ⟨neN (by omega), neN (by omega), neN (by omega)⟩)); (case hl => first | decide | assumption | omega); (case h5 => first | decide | assumption | omega); (case h1 => first | decide | assumption | omega); (case h2 => first | decide | assumption | omega); (case h3 => first | decide | assumption | omega); (case h6 => first | decide | assumption | omega); (case h7 => first | decide | assumption | omega); (case h4 => first | decide | assumption | omega); k_whole); intro D' c' n' h' tk' F' N' l1'; (try simp only [List.nil_append, List.cons_append] at N'); (replace l1' := allNe_of l1'); (try k_sweep)))
local macro_rules | `(tactic| k_all) => `(tactic| with_reducible assumption)
local macro_rules | `(tactic| walk_at "exec For Name Name cons nil") => `(tactic| (k_here; (rename Fr _ _ _ _ => lF'); (with_unfolding_all refine' For_turns lF' ?_; k_whole)))
local macro_rules | `(tactic| walk_at "pyIter ref") => `(tactic| ((fail_if_success (rename Mark7 => mk9)); (with_reducible show wpAny _ _ (pyIter (Value.ref _)) (fun it s₂ => TurnsAt _ _ _ _ _ _ _ _ _ it s₂) _ _); refine Hold.out ?_))
local macro_rules | `(tactic| walk_at "eval Name") => `(tactic| (k_here; k_dflt (refine' ld ?k1 ?k2 ?_; (case k1 => k_asm); (case k2 => first | exact rfl | assumption); k_whole)))
local macro_rules | `(tactic| walk_at "UnrPostW") => `(tactic| ((fail_if_success (rename Mark7 => mk9)); (dsimp only [UnrPostW])))
local macro_rules | `(tactic| walk_at "UnrEndW") => `(tactic| ((fail_if_success (rename Mark7 => mk9)); (refine Hold.out ?_)))
local macro_rules | `(tactic| walk_at "subscriptTail") => `(tactic| (k_here; (with_reducible show wpAny _ _ (subscriptTail _ _ (Value.ref _) (Value.int _ _)) _ _ _); k_dflt (refine' kim_back ?k1 ?k2 ?k3 ?k4 ?k5 ?k6 ?k7 ?k8 ?_ ?k9 ?k10; (case k1 => k_asm); (case k2 => k_mem); (case k3 => exact rfl); (case k4 => exact rfl); (case k5 => decide); (case k6 => exact last_le); (case k7 => decide); (case k8 => exact last_at); (case k9 => with_unfolding_all rfl); (case k10 => (intro _; with_unfolding_all rfl)); k_whole)))
local macro_rules | `(tactic| walk_at "call builtin:len") => `(tactic| (k_here; (with_reducible show wpAny _ _ (call (Value.builtin "len") [Value.ref _]) _ _ _); k_dflt (refine' lst_len ?k1 ?k2 ?k3 ?_; (case k1 => k_asm); (case k2 => k_mem); (case k3 => first | exact len_a (by with_reducible assumption) | exact len_b (by with_reducible assumption) | exact len_c (by with_reducible assumption) | exact (by decide : ([] : List Value).length < 1000000)); k_whole); intro tk9; (try simp only [List.length_append, List.length_cons, List.length_nil])))
local macro_rules | `(tactic| k_ne) => `(tactic| (refine neN ?_; (try dsimp only); first | exact apL (by with_reducible assumption) (by k_mem) | exact (apL (by with_reducible assumption) (by k_mem)).symm))
local macro_rules | `(tactic| size_fits) => `(tactic| first | exact size_a (by with_reducible assumption) | exact size_b (by with_reducible assumption) | exact size_c (by with_reducible assumption) | exact size_d (by with_reducible assumption) | ((try simp only [List.size_toArray, List.length_append, List.length_cons, List.length_nil]); rw [sizeLine_eq]; decide))
local macro_rules | `(tactic| walk_at "subscriptTail Name Slice ref ref") => `(tactic| (k_here; (with_reducible show wpAny _ _ (subscriptTail _ (PySem.Expr.Slice _ _ none _) (Value.ref _) (Value.ref _)) _ _ _); k_dflt (refine' last_cut ?F ?N ?l ?z ?_ ?s ?t; (case F => k_asm); (case N => k_asm); (case l => k_mem); (case z => omega); (case s => with_unfolding_all rfl); (case t => kmk_pure)); intro D' h' F' N' l1; (try k_lt l1); (try k_sweep)))
local macro_rules | `(tactic| walk_at "call ref") => `(tactic| (k_here; (with_reducible show wpAny _ _ (call (Value.ref 151) _ _) _ _ _); refine Hold.out ?_))
local macro_rules | `(tactic| walk_at "call ref") => `(tactic| (k_here; (with_reducible show wpAny _ _ (call (Value.ref 158) _ _) _ _ _); refine Hold.out ?_))
local macro_rules | `(tactic| walk_at "compareOp Eq ref ref") => `(tactic| (k_here; (with_reducible show wpAny _ _ (compareOp CmpOp.Eq (Value.ref _) (Value.ref _)) _ _ _); refine Hold.out ?_))
local macro_rules | `(tactic| walk_at "compareOp NotEq ref ref") => `(tactic| (k_here; (with_reducible show wpAny _ _ (compareOp CmpOp.NotEq (Value.ref _) (Value.ref _)) _ _ _); refine Hold.out ?_))
local macro_rules | `(tactic| walk_at "getMethod ref") => `(tactic| (k_here; (with_reducible show wpAny _ _ (getMethod (Value.ref _) (PySem.Str.ofString "append") _) _ _ _); k_dflt (refine' getMethod_append_N ?N ?m ?_ ?hc ?hd; (case N => k_asm); (case m => k_mem); (case hc => exact rfl); (case hd => exact rfl); k_whole)))
local macro_rules | `(tactic| walk_at "call type:str") => `(tactic| (k_here; (with_reducible show wpAny _ _ (call (Value.type "str") [Value.ref _]) _ _ _); k_dflt (refine' str_gotC ?U ?F ?X ?N ?G ?hs ?hm ?_; (case G => assumption); (case N => assumption); (case F => k_asm); (case X => k_asm); (case hs => k_is); (case hm => k_is); (case U => first | units_room | k_room | ktr_units); k_whole)))
local macro_rules | `(tactic| walk_at "subscriptTail") => `(tactic| (k_here; (with_reducible show wpAny _ _ (subscriptTail _ _ (Value.ref _) (Value.int 0 _)) _ _ _); k_dflt (refine' kim_list ?k1 ?k2 ?k3 ?k4 ?k5 ?k6 ?k7 ?_ ?k8 ?k9; (case k1 => k_asm); (case k2 => k_mem); (case k3 => exact rfl); (case k4 => exact rfl); (case k5 => decide); (case k6 => decide); (case k7 => with_reducible assumption); (case k8 => with_unfolding_all rfl); (case k9 => (intro _; with_unfolding_all rfl)); k_whole)))
local macro_rules | `(tactic| walk_at "getMethod ref") => `(tactic| (k_here; (with_reducible show wpAny _ _ (getMethod (Value.ref _) (PySem.Str.ofString "steps") _) _ _ _); k_dflt (refine' method_inst ?k1 ?k2 ?k3 ?k4 ?k5 ?k6 ?k7 ?_; (case k1 => k_asm); (case k2 => k_asm); (case k3 => exact inst_n (by k_asm) (by k_mem) (by k_mem)); (case k4 => k_is); (case k5 => k_is); (case k6 => k_is); (case k7 => k_get); k_whole)))
local macro_rules | `(tactic| walk_at "call ref") => `(tactic| ((rename Mark8 => mk8); k_here; (with_reducible show wpAny _ _ (call (Value.ref 130) [Value.ref _, Value.int _ _, Value.int _ _]) _ _ _); k_dflt (refine' read_v2N ?k1 ?k2 ?k3 ?k4 ?k5 ?k6 ?hx ?hdd ?h1 ?h2 ?k7 ?k8 ?_; (case k1 => k_asm); (case k2 => k_asm); (case k3 => k_asm); (case k4 => k_asm); (case k5 => k_asm); (case k6 => first | exact rfl | assumption); (case k7 => first | exact Nat.le_of_ble_eq_true rfl | ktr_room); (case k8 => first | exact Nat.le_of_ble_eq_true rfl | ktr_units); (case hx => k_mem); (case hdd => k_mem); (case h1 => first | decide | with_reducible assumption | omega); (case h2 => first | decide | with_reducible assumption | omega); k_whole); intro g' e' t' u' h' tk' F' U' R'))
local macro_rules | `(tactic| walk_at "call ref") => `(tactic| ((rename Mark8 => mk8); k_here; (with_reducible show wpAny _ _ (call (Value.ref 130) [Value.ref _, Value.int _ _, Value.int _ _]) _ _ _); k_dflt (refine' read_v1N ?k1 ?k2 ?k3 ?k4 ?k5 ?k6 ?hx ?hdd ?h1 ?h2 ?k7 ?k8 ?_; (case k1 => k_asm); (case k2 => k_asm); (case k3 => k_asm); (case k4 => k_asm); (case k5 => k_asm); (case k6 => first | exact rfl | assumption); (case k7 => first | exact Nat.le_of_ble_eq_true rfl | ktr_room); (case k8 => first | exact Nat.le_of_ble_eq_true rfl | ktr_units); (case hx => k_mem); (case hdd => k_mem); (case h1 => first | decide | with_reducible assumption | omega); (case h2 => first | decide | with_reducible assumption | omega); k_whole); intro g' e' t' u' h' tk' F' U' R'))
local macro_rules | `(tactic| walk_at "call ref") => `(tactic| ((rename Mark8 => mk8); k_here; (with_reducible show wpAny _ _ (call (Value.ref 130) [Value.ref _, Value.int _ _, Value.int _ _]) _ _ _); k_dflt (refine' read_lateN ?k1 ?k2 ?k3 ?k4 ?k5 ?k6 ?hx ?hdd ?hl ?h0 ?h1 ?h2 ?h3 ?h4 ?h5 ?hlen ?k7 ?k8 ?_; (case k1 => k_asm); (case k2 => k_asm); (case k3 => k_asm); (case k4 => k_asm); (case k5 => k_asm); (case k6 => first | exact rfl | assumption); (case k7 => first | exact Nat.le_of_ble_eq_true rfl | ktr_room); (case k8 => first | exact Nat.le_of_ble_eq_true rfl | ktr_units); (case hx => k_mem); (case hdd => k_mem); (case hl => k_mem); (case h0 => k_mem); (case h1 => first | decide | with_reducible assumption | omega); (case h2 => first | decide | with_reducible assumption | omega); (case h3 => first | decide | with_reducible assumption | omega); (case h4 => first | decide | with_reducible assumption | omega); (case h5 => first | decide | with_reducible assumption | omega); (case hlen => first | decide | with_reducible assumption | omega); k_whole); intro g' e' t' u' h' tk' F' U' R'))
local macro_rules | `(tactic| walk_at "call ref") => `(tactic| ((rename Mark8 => mk8); k_here; (with_reducible show wpAny _ _ (call (Value.ref 130) [Value.ref _, Value.int _ _, Value.int _ _]) _ _ _); k_dflt (refine' read_d1N ?k1 ?k2 ?k3 ?k4 ?k5 ?k6 ?hx ?hdd ?k7 ?k8 ?_; (case k1 => k_asm); (case k2 => k_asm); (case k3 => k_asm); (case k4 => k_asm); (case k5 => k_asm); (case k6 => first | exact rfl | assumption); (case k7 => first | exact Nat.le_of_ble_eq_true rfl | ktr_room); (case k8 => first | exact Nat.le_of_ble_eq_true rfl | ktr_units); (case hx => k_mem); (case hdd => k_mem); k_whole); intro g' e' t' u' h' tk' F' U' R'))
local macro_rules | `(tactic| walk_at "call ref") => `(tactic| ((rename Mark8 => mk8); k_here; (with_reducible show wpAny _ _ (call (Value.ref 130) [Value.ref _, Value.int _ _, Value.int _ _]) _ _ _); k_dflt (refine' read_d0N ?k1 ?k2 ?k3 ?k4 ?k5 ?k6 ?hx ?hdd ?k7 ?k8 ?_; (case k1 => k_asm); (case k2 => k_asm); (case k3 => k_asm); (case k4 => k_asm); (case k5 => k_asm); (case k6 => first | exact rfl | assumption); (case k7 => first | exact Nat.le_of_ble_eq_true rfl | ktr_room); (case k8 => first | exact Nat.le_of_ble_eq_true rfl | ktr_units); (case hx => k_mem); (case hdd => k_mem); k_whole); intro g' e' t' u' h' tk' F' U' R'))
local macro_rules | `(tactic| walk_at "call ref") => `(tactic| ((rename Mark8 => mk8); k_here; (with_reducible show wpAny _ _ (call (Value.ref 130) [Value.ref _, Value.int _ _, Value.int _ _]) _ _ _); k_dflt (refine' read_bothN ?k1 ?k2 ?k3 ?k4 ?k5 ?k6 ?hx ?hdd ?hl ?h0 ?h1 ?h2 ?h3 ?h4 ?h5 ?hlen ?k7 ?k8 ?_; (case k1 => k_asm); (case k2 => k_asm); (case k3 => k_asm); (case k4 => k_asm); (case k5 => k_asm); (case k6 => first | exact rfl | assumption); (case k7 => first | exact Nat.le_of_ble_eq_true rfl | ktr_room); (case k8 => first | exact Nat.le_of_ble_eq_true rfl | ktr_units); (case hx => k_mem); (case hdd => k_mem); (case hl => k_mem); (case h0 => k_mem); (case h1 => first | decide | with_reducible assumption | omega); (case h2 => first | decide | with_reducible assumption | omega); (case h3 => first | decide | with_reducible assumption | omega); (case h4 => first | decide | with_reducible assumption | omega); (case h5 => first | decide | with_reducible assumption | omega); (case hlen => first | decide | with_reducible assumption | omega); k_whole); intro g' e' t' u' h' tk' F' U' R'))
local macro_rules | `(tactic| walk_at "compareOp Eq str str") => `(tactic| (k_here; (with_reducible show wpAny _ _ (compareOp CmpOp.Eq (Value.str (ite _ _ _) _) (Value.str _ _)) _ _ _); k_dflt (refine' eq_late (by decide +kernel) (by decide +kernel) ?_); k_whole))
set_option maxRecDepth 100000 in
set_option maxHeartbeats 8000000 in
theorem PySem.Challenge.cw_ui0509_07_holds : PySem.Challenge.rw_ui0509_07.Holds :=
  HD.hd (by
  k_go0; (all_goals try k_fold); k_steps
  all_goals (try unfold Hold)
  all_goals (try dsimp only)
  all_goals try (with_reducible show GoodW _ _ _ _ _ (Except.ok (Flow.ret (Value.bool true))) _; exact good_true (by assumption) (by assumption) rfl)
  rename_i x d l k1 k2 k3 k4 k5 nR h1 tk1 ndx nlx nld tr1 tr2 tr3 h2 tk2 S h3 ltS h4 tk4 Y h5 ltY h6 h7 h8 lF N0
  (rename World => w0)
  (rename Heap.IsList _ _ _ => hLs)
  (rename IntsAre _ _ => hInts)
  obtain ⟨lo, hlo, hlc, ln, hld⟩ := hLs
  obtain ⟨ta, tb, N0⟩ : ∃ ta tb, News _ _ _ [(Y, W.listOf #[] 0), (S, W.listOf #[] 0), (x, instObj 161 d), (d, M07 w0.params k1 k2 k3 k4 k5 ta tb l), (l, W.listOf #[] nR)] := ⟨_, _, N0⟩
  clear tr1 tr2 tr3
  refine iter_baseTurns rfl lF N0 hlo hlc hld (fun I lI => ?_)
  refine items_ind (J07 w0.params x d l S Y k1 k2 k3 k4 k5 ta tb) ?turn ?done _ 0 _ _ rfl (Nat.zero_le _) trivial (fun p hp => Nat.ne_of_lt (lI p hp)) ?init
  case init => exact ⟨[], [], [], nR, 0, 0, [], [], rfl, rfl, rfl, rfl, ⟨_, rfl⟩, ⟨_, rfl⟩, .nil, .nil, .nil, .nil, (fun _ h => nomatch h), (fun _ h => nomatch h), (fun _ h => nomatch h), (fun _ h => nomatch h), (fun _ h => nomatch h)⟩
  case turn =>
    intro i a v m nx h tk o ha _ hI hJ hav Fm ho Nn
    obtain ⟨vs, ws, ds, n1, n2, n3, rows, tl, rfl, hF⟩ := hJ
    obtain ⟨mm, ms, md, ⟨t1, mb⟩, ⟨t2, mt⟩, ok, hr, hs, hd, ntx, ntd, ntl, ntS, ntY⟩ := hF
    obtain ⟨c, tc, rfl, hc⟩ := hInts.at i v (val_get ha hav)
    have hil : i < _ := (List.getElem?_eq_some_iff.mp hc).1
    have htI : ∀ p ∈ tl, p.1 ≠ I := fun p hp => hI p (List.mem_append_right _ hp)
    simp only [List.cons_append, List.nil_append] at Nn hI
    have jY : @LT.lt Nat _ Y I := ltN (lI _ (List.mem_cons_self ..))
    have jS : @LT.lt Nat _ S I := ltN (lI _ (List.mem_cons_of_mem _ (List.mem_cons_self ..)))
    have jx : @LT.lt Nat _ x I := ltN (lI _ (List.mem_cons_of_mem _ (List.mem_cons_of_mem _ (List.mem_cons_self ..))))
    have jd : @LT.lt Nat _ d I := ltN (lI _ (List.mem_cons_of_mem _ (List.mem_cons_of_mem _ (List.mem_cons_of_mem _ (List.mem_cons_self ..)))))
    have jl : @LT.lt Nat _ l I := ltN (lI _ (List.mem_cons_of_mem _ (List.mem_cons_of_mem _ (List.mem_cons_of_mem _ (List.mem_cons_of_mem _ (List.mem_cons_self ..))))))
    clear hI lF N0 lI
    rcases ok.split with ⟨rfl, rfl⟩ | ⟨rs, ra, rfl⟩
    · obtain rfl := hr.nil_r
      obtain rfl := hs.nil_r
      obtain rfl := hd.nil_r
      k_steps
      · unfold Hold
        (rename News _ _ _ _ => N4)
        refine ne_rd (d := .list []) (Rd.list (vs := []) (N4.get (by k_mem)) .nil) (Rd.list (vs := []) (N4.get (by k_mem)) .nil) (by rfl) ?hu ?_
        case hu => ktr_units
        k_steps
        rename_i v1 y1 y1' ye1 E0 hq1 lq1 hq2 tq2 tt3 hq3 tq3 v2 y2 y2' ye2 hq4 hq5 v3 y3 y3' ye3 a3 tq4 v4 y4 y4' ye4 hq6 Dn cn nn hq7 tq7 lDn El hq8 lEl tq8 hq9 hq10 FF NN0
        unfold Hold
        (rename News _ _ _ _ => NN)
        (try simp only [List.push_toArray] at NN)
        skip
        have hsb : ∀ p ∈ tl, p ∈ strip [I, Y, S, x, d, l] _ := fun p hp => mem_strip (subs_of NN (by intro p9 hp9; simp only [List.mem_cons, List.mem_append]; simp only [hp9, true_or, or_true]) p hp) (not_in6 (htI p hp) (ntY p hp) (ntS p hp) (ntx p hp) (ntd p hp) (ntl p hp))
        refine unr_mut [(Y, _), (S, _), (x, _), (d, _), (l, _)] (by k_asm) NN (by k_mem) (five_of (by k_mem) (by k_mem) (by k_mem) (by k_mem) (by k_mem)) (five_of (neN (Nat.ne_of_lt jY)) (neN (Nat.ne_of_lt jS)) (neN (Nat.ne_of_lt jx)) (neN (Nat.ne_of_lt jd)) (neN (Nat.ne_of_lt jl))) ⟨trivial, ?_⟩
        refine ⟨[_], [], [_], _, _, _, [(1 + v1 + 0, v2, some v4)], _, rfl, ?mm, ?ms, ?md, ?mb, ?mt, ?ok, ?hr, ?hs, ?hd, fun p hp e => (strip_mem hp).2 (by rw [e]; simp), fun p hp e => (strip_mem hp).2 (by rw [e]; simp), fun p hp e => (strip_mem hp).2 (by rw [e]; simp), fun p hp e => (strip_mem hp).2 (by rw [e]; simp), fun p hp e => (strip_mem hp).2 (by rw [e]; simp)⟩
        case mm => first | rfl | assumption
        case ms => first | rfl | assumption
        case md => first | rfl | assumption
        case mb => exact ⟨_, rfl⟩
        case mt => exact ⟨_, mt⟩
        case ok => exact .one (by show 1 ≤ 1 + v1 + 0; omega) (by show 1 + v1 + 0 ≤ 9; omega) (rval_s y2 y2' y4 y4')
        case hr => exact .cons (row_newE (mem_strip (by k_mem) (not_in6 (neN (apL lDn (by k_mem)).symm) (neN (apL lDn (by k_mem)).symm) (neN (apL lDn (by k_mem)).symm) (neN (apL lDn (by k_mem)).symm) (neN (apL lDn (by k_mem)).symm) (neN (apL lDn (by k_mem)).symm)))) .nil
        case hs => exact .nil
        case hd => exact .cons ⟨_, rfl⟩ .nil
      · unfold Hold
        (rename News _ _ _ _ => N4)
        refine ne_rd (d := .list []) (Rd.list (vs := []) (N4.get (by k_mem)) .nil) (Rd.list (vs := []) (N4.get (by k_mem)) .nil) (by rfl) ?hu ?_
        case hu => ktr_units
        k_steps
        rename_i v1 y1 y1' ye1 E0 hq1 lq1 hq2 tq2 tt3 hq3 tq3 v2 y2 y2' ye2 hq4 hq5 v3 y3 y3' ye3 a3 tq4 Dn cn nn hq7 tq7 lDn El hq8 lEl tq8 hq9 hq10 FF NN0
        unfold Hold
        (rename News _ _ _ _ => NN)
        (try simp only [List.push_toArray] at NN)
        skip
        have hsb : ∀ p ∈ tl, p ∈ strip [I, Y, S, x, d, l] _ := fun p hp => mem_strip (subs_of NN (by intro p9 hp9; simp only [List.mem_cons, List.mem_append]; simp only [hp9, true_or, or_true]) p hp) (not_in6 (htI p hp) (ntY p hp) (ntS p hp) (ntx p hp) (ntd p hp) (ntl p hp))
        refine unr_mut [(Y, _), (S, _), (x, _), (d, _), (l, _)] (by k_asm) NN (by k_mem) (five_of (by k_mem) (by k_mem) (by k_mem) (by k_mem) (by k_mem)) (five_of (neN (Nat.ne_of_lt jY)) (neN (Nat.ne_of_lt jS)) (neN (Nat.ne_of_lt jx)) (neN (Nat.ne_of_lt jd)) (neN (Nat.ne_of_lt jl))) ⟨trivial, ?_⟩
        refine ⟨[_], [], [_], _, _, _, [(1 + v1 + 0, v2, none)], _, rfl, ?mm, ?ms, ?md, ?mb, ?mt, ?ok, ?hr, ?hs, ?hd, fun p hp e => (strip_mem hp).2 (by rw [e]; simp), fun p hp e => (strip_mem hp).2 (by rw [e]; simp), fun p hp e => (strip_mem hp).2 (by rw [e]; simp), fun p hp e => (strip_mem hp).2 (by rw [e]; simp), fun p hp e => (strip_mem hp).2 (by rw [e]; simp)⟩
        case mm => first | rfl | assumption
        case ms => first | rfl | assumption
        case md => first | rfl | assumption
        case mb => exact ⟨_, rfl⟩
        case mt => exact ⟨_, mt⟩
        case ok => exact .one (by show 1 ≤ 1 + v1 + 0; omega) (by show 1 + v1 + 0 ≤ 9; omega) (rval_n y2 y2')
        case hr => exact .cons (row_new (mem_strip (by k_mem) (not_in6 (neN (apL lDn (by k_mem)).symm) (neN (apL lDn (by k_mem)).symm) (neN (apL lDn (by k_mem)).symm) (neN (apL lDn (by k_mem)).symm) (neN (apL lDn (by k_mem)).symm) (neN (apL lDn (by k_mem)).symm)))) .nil
        case hs => exact .nil
        case hd => exact .cons ⟨_, rfl⟩ .nil
    · obtain ⟨da, va, oa⟩ := ra
      obtain ⟨f1, f2, f3, rf, g0, g1, g2, g3⟩ := ok.facts rs (da, va, oa) rfl
      have hrl := hr.length
      have hsl := hs.length
      have hdl := hd.length
      have hol := ok.len
      rw [stepsF_len] at hsl
      rw [List.length_map] at hdl
      have hr0 := hr
      have hd0 := hd
      obtain ⟨vs', v9, rfl, hr', ⟨D0, t6, t7, u0, c0, rfl, e0, ou⟩⟩ := hr.unsnoc
      rw [List.map_append] at hd
      obtain ⟨ds', v8, rfl, hd', hI9⟩ := All2.unsnoc hd
      obtain ⟨td0, rfl⟩ : ∃ t, v8 = .int da t := hI9
      rw [befOf_snoc] at mb
      have e0' := tkOf Fm e0
      dsimp only at f1 f2 e0' g2
      simp only [List.length_append, List.length_cons, List.length_nil] at hrl hsl hdl hol
      have nD0x := neN (ntx _ e0)
      have nD0d := neN (ntd _ e0)
      have nD0l := neN (ntl _ e0)
      obtain ⟨rv1, rv2, rv3, rv4⟩ := f3
      have hz1 : vs'.length ≤ 1000 := by omega
      have hz2 : ds'.length ≤ 1000 := by omega
      have hz3 : ws.length ≤ 1000 := by omega
      generalize hbf : startOf (da, va, oa) = bf at mb rv3 rv4
      k_steps
      · unfold Hold
        (rename News _ _ _ _ => N4)
        refine neF_rd (d := .list (List.map PyData.int (List.map (·.1) (rs ++ [(da, va, oa)])))) (d' := .list []) (Rd.list (N4.get (by k_mem)) (ints_rd hd0)) (Rd.list (vs := []) (N4.get (by k_mem)) .nil) (shaped_map intP_sh _) (by rfl) ?hu (eqv_snoc (by simp)) ?_
        case hu => ktr_units
        repeat (rename _ = Int.fmod _ _ => q9; clear q9)
        w_top off
        k_steps
        · rename_i v1 y1 y1' E0 hq1 lq1 hq2 tq2 tt3 hq3 tq3 v2 y2 y2' hq4 hq5 v3 y3 y3' a3 tq4 v4 y4 y4' hq6 Dn cn nn hq7 tq7 lDn El hq8 lEl tq8 hq9 aN tq9 hq10 Dt hq11 lDt hq12 tq12 hq13 hq14 hq15 FF NN0
          unfold Hold
          (rename News _ _ _ _ => NN)
          (try simp only [List.push_toArray] at NN)
          have hstp : stepOf 1000 (da, va, oa) (1 + v1 + (da + 0), v2, some v4) = (da, 1 + v1 + (da + 0), v2 - bf + 1000) := by
            show (da, _, (v2 - startOf (da, va, oa)).fmod 1000) = _
            rw [hbf, units_neg y2 rv4 aN]
          have hsb : ∀ p ∈ tl, p ∈ strip [I, Y, S, x, d, l] _ := fun p hp => mem_strip (subs_of NN (by intro p9 hp9; simp only [List.mem_cons, List.mem_append]; simp only [hp9, true_or, or_true]) p hp) (not_in6 (htI p hp) (ntY p hp) (ntS p hp) (ntx p hp) (ntd p hp) (ntl p hp))
          refine unr_mut [(Y, _), (S, _), (x, _), (d, _), (l, _)] (by k_asm) NN (by k_mem) (five_of (by k_mem) (by k_mem) (by k_mem) (by k_mem) (by k_mem)) (five_of (neN (Nat.ne_of_lt jY)) (neN (Nat.ne_of_lt jS)) (neN (Nat.ne_of_lt jx)) (neN (Nat.ne_of_lt jd)) (neN (Nat.ne_of_lt jl))) ⟨trivial, ?_⟩
          refine ⟨vs' ++ [Value.ref D0] ++ [_], ws ++ [_], ds' ++ [Value.int da td0] ++ [_], _, _, _, rs ++ [(da, va, oa)] ++ [(1 + v1 + (da + 0), v2, some v4)], _, rfl, ?mm, ?ms, ?md, ?mb, ?mt, ?ok, ?hr, ?hs, ?hd, fun p hp e => (strip_mem hp).2 (by rw [e]; simp), fun p hp e => (strip_mem hp).2 (by rw [e]; simp), fun p hp e => (strip_mem hp).2 (by rw [e]; simp), fun p hp e => (strip_mem hp).2 (by rw [e]; simp), fun p hp e => (strip_mem hp).2 (by rw [e]; simp)⟩
          case mm => first | rfl | assumption
          case ms => first | rfl | assumption
          case md => first | rfl | assumption
          case mb => rw [befOf_snoc]; exact ⟨_, rfl⟩
          case mt => rw [stepsF_snoc, usum_snoc, hstp]; exact ⟨_, rfl⟩
          case ok => exact ok.snoc' (by show da < 1 + v1 + (da + 0); omega) (by show 1 + v1 + (da + 0) ≤ da + 9; omega) (rval_s y2 y2' y4 y4')
          case hr => exact (hr0.mono fun _ _ y => y.mono fun _ _ e => hsb _ e).snoc (row_newE (mem_strip (by k_mem) (not_in6 (neN (apL lDn (by k_mem)).symm) (neN (apL lDn (by k_mem)).symm) (neN (apL lDn (by k_mem)).symm) (neN (apL lDn (by k_mem)).symm) (neN (apL lDn (by k_mem)).symm) (neN (apL lDn (by k_mem)).symm))))
          case hs => rw [stepsF_snoc, hstp]; exact (hs.mono fun _ _ y => y.mono fun _ _ e => hsb _ e).snoc (step_new (mem_strip (by k_mem) (not_in6 (neN (by (try dsimp only); omega)) (neN (by (try dsimp only); omega)) (neN (by (try dsimp only); omega)) (neN (by (try dsimp only); omega)) (neN (by (try dsimp only); omega)) (neN (by (try dsimp only); omega)))))
          case hd => rw [List.map_append]; exact hd0.snoc ⟨_, rfl⟩
        · rename_i v1 y1 y1' E0 hq1 lq1 hq2 tq2 tt3 hq3 tq3 v2 y2 y2' hq4 hq5 v3 y3 y3' a3 tq4 v4 y4 y4' hq6 Dn cn nn hq7 tq7 lDn El hq8 lEl tq8 hq9 aN tq9 Dt hq11 lDt hq12 tq12 hq13 hq14 hq15 FF NN0
          unfold Hold
          (rename News _ _ _ _ => NN)
          (try simp only [List.push_toArray] at NN)
          have hstp : stepOf 1000 (da, va, oa) (1 + v1 + (da + 0), v2, some v4) = (da, 1 + v1 + (da + 0), v2 - bf) := by
            show (da, _, (v2 - startOf (da, va, oa)).fmod 1000) = _
            rw [hbf, units_pos y2' rv3 aN]
          have hsb : ∀ p ∈ tl, p ∈ strip [I, Y, S, x, d, l] _ := fun p hp => mem_strip (subs_of NN (by intro p9 hp9; simp only [List.mem_cons, List.mem_append]; simp only [hp9, true_or, or_true]) p hp) (not_in6 (htI p hp) (ntY p hp) (ntS p hp) (ntx p hp) (ntd p hp) (ntl p hp))
          refine unr_mut [(Y, _), (S, _), (x, _), (d, _), (l, _)] (by k_asm) NN (by k_mem) (five_of (by k_mem) (by k_mem) (by k_mem) (by k_mem) (by k_mem)) (five_of (neN (Nat.ne_of_lt jY)) (neN (Nat.ne_of_lt jS)) (neN (Nat.ne_of_lt jx)) (neN (Nat.ne_of_lt jd)) (neN (Nat.ne_of_lt jl))) ⟨trivial, ?_⟩
          refine ⟨vs' ++ [Value.ref D0] ++ [_], ws ++ [_], ds' ++ [Value.int da td0] ++ [_], _, _, _, rs ++ [(da, va, oa)] ++ [(1 + v1 + (da + 0), v2, some v4)], _, rfl, ?mm, ?ms, ?md, ?mb, ?mt, ?ok, ?hr, ?hs, ?hd, fun p hp e => (strip_mem hp).2 (by rw [e]; simp), fun p hp e => (strip_mem hp).2 (by rw [e]; simp), fun p hp e => (strip_mem hp).2 (by rw [e]; simp), fun p hp e => (strip_mem hp).2 (by rw [e]; simp), fun p hp e => (strip_mem hp).2 (by rw [e]; simp)⟩
          case mm => first | rfl | assumption
          case ms => first | rfl | assumption
          case md => first | rfl | assumption
          case mb => rw [befOf_snoc]; exact ⟨_, rfl⟩
          case mt => rw [stepsF_snoc, usum_snoc, hstp]; exact ⟨_, rfl⟩
          case ok => exact ok.snoc' (by show da < 1 + v1 + (da + 0); omega) (by show 1 + v1 + (da + 0) ≤ da + 9; omega) (rval_s y2 y2' y4 y4')
          case hr => exact (hr0.mono fun _ _ y => y.mono fun _ _ e => hsb _ e).snoc (row_newE (mem_strip (by k_mem) (not_in6 (neN (apL lDn (by k_mem)).symm) (neN (apL lDn (by k_mem)).symm) (neN (apL lDn (by k_mem)).symm) (neN (apL lDn (by k_mem)).symm) (neN (apL lDn (by k_mem)).symm) (neN (apL lDn (by k_mem)).symm))))
          case hs => rw [stepsF_snoc, hstp]; exact (hs.mono fun _ _ y => y.mono fun _ _ e => hsb _ e).snoc (step_new (mem_strip (by k_mem) (not_in6 (neN (by (try dsimp only); omega)) (neN (by (try dsimp only); omega)) (neN (by (try dsimp only); omega)) (neN (by (try dsimp only); omega)) (neN (by (try dsimp only); omega)) (neN (by (try dsimp only); omega)))))
          case hd => rw [List.map_append]; exact hd0.snoc ⟨_, rfl⟩
      · unfold Hold
        (rename News _ _ _ _ => N4)
        refine neF_rd (d := .list (List.map PyData.int (List.map (·.1) (rs ++ [(da, va, oa)])))) (d' := .list []) (Rd.list (N4.get (by k_mem)) (ints_rd hd0)) (Rd.list (vs := []) (N4.get (by k_mem)) .nil) (shaped_map intP_sh _) (by rfl) ?hu (eqv_snoc (by simp)) ?_
        case hu => ktr_units
        repeat (rename _ = Int.fmod _ _ => q9; clear q9)
        w_top off
        k_steps
        · rename_i v1 y1 y1' E0 hq1 lq1 hq2 tq2 tt3 hq3 tq3 v2 y2 y2' hq4 hq5 v3 y3 y3' a3 tq4 Dn cn nn hq7 tq7 lDn El hq8 lEl tq8 hq9 aN tq9 hq10 Dt hq11 lDt hq12 tq12 hq13 hq14 hq15 FF NN0
          unfold Hold
          (rename News _ _ _ _ => NN)
          (try simp only [List.push_toArray] at NN)
          have hstp : stepOf 1000 (da, va, oa) (1 + v1 + (da + 0), v2, none) = (da, 1 + v1 + (da + 0), v2 - bf + 1000) := by
            show (da, _, (v2 - startOf (da, va, oa)).fmod 1000) = _
            rw [hbf, units_neg y2 rv4 aN]
          have hsb : ∀ p ∈ tl, p ∈ strip [I, Y, S, x, d, l] _ := fun p hp => mem_strip (subs_of NN (by intro p9 hp9; simp only [List.mem_cons, List.mem_append]; simp only [hp9, true_or, or_true]) p hp) (not_in6 (htI p hp) (ntY p hp) (ntS p hp) (ntx p hp) (ntd p hp) (ntl p hp))
          refine unr_mut [(Y, _), (S, _), (x, _), (d, _), (l, _)] (by k_asm) NN (by k_mem) (five_of (by k_mem) (by k_mem) (by k_mem) (by k_mem) (by k_mem)) (five_of (neN (Nat.ne_of_lt jY)) (neN (Nat.ne_of_lt jS)) (neN (Nat.ne_of_lt jx)) (neN (Nat.ne_of_lt jd)) (neN (Nat.ne_of_lt jl))) ⟨trivial, ?_⟩
          refine ⟨vs' ++ [Value.ref D0] ++ [_], ws ++ [_], ds' ++ [Value.int da td0] ++ [_], _, _, _, rs ++ [(da, va, oa)] ++ [(1 + v1 + (da + 0), v2, none)], _, rfl, ?mm, ?ms, ?md, ?mb, ?mt, ?ok, ?hr, ?hs, ?hd, fun p hp e => (strip_mem hp).2 (by rw [e]; simp), fun p hp e => (strip_mem hp).2 (by rw [e]; simp), fun p hp e => (strip_mem hp).2 (by rw [e]; simp), fun p hp e => (strip_mem hp).2 (by rw [e]; simp), fun p hp e => (strip_mem hp).2 (by rw [e]; simp)⟩
          case mm => first | rfl | assumption
          case ms => first | rfl | assumption
          case md => first | rfl | assumption
          case mb => rw [befOf_snoc]; exact ⟨_, rfl⟩
          case mt => rw [stepsF_snoc, usum_snoc, hstp]; exact ⟨_, rfl⟩
          case ok => exact ok.snoc' (by show da < 1 + v1 + (da + 0); omega) (by show 1 + v1 + (da + 0) ≤ da + 9; omega) (rval_n y2 y2')
          case hr => exact (hr0.mono fun _ _ y => y.mono fun _ _ e => hsb _ e).snoc (row_new (mem_strip (by k_mem) (not_in6 (neN (apL lDn (by k_mem)).symm) (neN (apL lDn (by k_mem)).symm) (neN (apL lDn (by k_mem)).symm) (neN (apL lDn (by k_mem)).symm) (neN (apL lDn (by k_mem)).symm) (neN (apL lDn (by k_mem)).symm))))
          case hs => rw [stepsF_snoc, hstp]; exact (hs.mono fun _ _ y => y.mono fun _ _ e => hsb _ e).snoc (step_new (mem_strip (by k_mem) (not_in6 (neN (by (try dsimp only); omega)) (neN (by (try dsimp only); omega)) (neN (by (try dsimp only); omega)) (neN (by (try dsimp only); omega)) (neN (by (try dsimp only); omega)) (neN (by (try dsimp only); omega)))))
          case hd => rw [List.map_append]; exact hd0.snoc ⟨_, rfl⟩
        · rename_i v1 y1 y1' E0 hq1 lq1 hq2 tq2 tt3 hq3 tq3 v2 y2 y2' hq4 hq5 v3 y3 y3' a3 tq4 Dn cn nn hq7 tq7 lDn El hq8 lEl tq8 hq9 aN tq9 Dt hq11 lDt hq12 tq12 hq13 hq14 hq15 FF NN0
          unfold Hold
          (rename News _ _ _ _ => NN)
          (try simp only [List.push_toArray] at NN)
          have hstp : stepOf 1000 (da, va, oa) (1 + v1 + (da + 0), v2, none) = (da, 1 + v1 + (da + 0), v2 - bf) := by
            show (da, _, (v2 - startOf (da, va, oa)).fmod 1000) = _
            rw [hbf, units_pos y2' rv3 aN]
          have hsb : ∀ p ∈ tl, p ∈ strip [I, Y, S, x, d, l] _ := fun p hp => mem_strip (subs_of NN (by intro p9 hp9; simp only [List.mem_cons, List.mem_append]; simp only [hp9, true_or, or_true]) p hp) (not_in6 (htI p hp) (ntY p hp) (ntS p hp) (ntx p hp) (ntd p hp) (ntl p hp))
          refine unr_mut [(Y, _), (S, _), (x, _), (d, _), (l, _)] (by k_asm) NN (by k_mem) (five_of (by k_mem) (by k_mem) (by k_mem) (by k_mem) (by k_mem)) (five_of (neN (Nat.ne_of_lt jY)) (neN (Nat.ne_of_lt jS)) (neN (Nat.ne_of_lt jx)) (neN (Nat.ne_of_lt jd)) (neN (Nat.ne_of_lt jl))) ⟨trivial, ?_⟩
          refine ⟨vs' ++ [Value.ref D0] ++ [_], ws ++ [_], ds' ++ [Value.int da td0] ++ [_], _, _, _, rs ++ [(da, va, oa)] ++ [(1 + v1 + (da + 0), v2, none)], _, rfl, ?mm, ?ms, ?md, ?mb, ?mt, ?ok, ?hr, ?hs, ?hd, fun p hp e => (strip_mem hp).2 (by rw [e]; simp), fun p hp e => (strip_mem hp).2 (by rw [e]; simp), fun p hp e => (strip_mem hp).2 (by rw [e]; simp), fun p hp e => (strip_mem hp).2 (by rw [e]; simp), fun p hp e => (strip_mem hp).2 (by rw [e]; simp)⟩
          case mm => first | rfl | assumption
          case ms => first | rfl | assumption
          case md => first | rfl | assumption
          case mb => rw [befOf_snoc]; exact ⟨_, rfl⟩
          case mt => rw [stepsF_snoc, usum_snoc, hstp]; exact ⟨_, rfl⟩
          case ok => exact ok.snoc' (by show da < 1 + v1 + (da + 0); omega) (by show 1 + v1 + (da + 0) ≤ da + 9; omega) (rval_n y2 y2')
          case hr => exact (hr0.mono fun _ _ y => y.mono fun _ _ e => hsb _ e).snoc (row_new (mem_strip (by k_mem) (not_in6 (neN (apL lDn (by k_mem)).symm) (neN (apL lDn (by k_mem)).symm) (neN (apL lDn (by k_mem)).symm) (neN (apL lDn (by k_mem)).symm) (neN (apL lDn (by k_mem)).symm) (neN (apL lDn (by k_mem)).symm))))
          case hs => rw [stepsF_snoc, hstp]; exact (hs.mono fun _ _ y => y.mono fun _ _ e => hsb _ e).snoc (step_new (mem_strip (by k_mem) (not_in6 (neN (by (try dsimp only); omega)) (neN (by (try dsimp only); omega)) (neN (by (try dsimp only); omega)) (neN (by (try dsimp only); omega)) (neN (by (try dsimp only); omega)) (neN (by (try dsimp only); omega)))))
          case hd => rw [List.map_append]; exact hd0.snoc ⟨_, rfl⟩
  case done =>
    intro m nx h tk hJ Fm Nn
    rw [List.length_map, hInts.length] at hJ
    obtain ⟨vs, ws, ds, n1, n2, n3, rows, tl, rfl, hF⟩ := hJ
    obtain ⟨mm, ms, md, ⟨t1, mb⟩, ⟨t2, mt⟩, ok, hr, hs, hd, ntx, ntd, ntl, ntS, ntY⟩ := hF
    simp only [List.cons_append, List.nil_append] at Nn
    clear lF N0 lI
    have mk8 : Mark8 := .mk
    rcases ok.split with ⟨rfl, h00⟩ | ⟨rs, ra, rfl⟩
    · obtain rfl := hr.nil_r
      obtain rfl := hs.nil_r
      obtain rfl := hd.nil_r
      k_steps
      unfold Hold
      refine iter_tupTurns rfl (by k_asm) (by k_asm) (by k_mem) rfl rfl ?_
      intro J9 lJ
      have lJ' := allLt_of lJ
      k_lt lJ
      k_steps
      unfold Hold
      (rename News _ _ _ _ => NN)
      refine unr_head (by k_asm) NN (allLt_mem lJ') ⟨⟨by k_mem, trivial⟩, ?_⟩
      clear NN
      k_steps
      unfold Hold
      (rename News _ _ _ _ => NN)
      refine unr_head (by k_asm) NN (allLt_mem lJ') ⟨⟨by k_mem, trivial⟩, ?_⟩
      clear NN
      k_steps
      unfold Hold
      (rename News _ _ _ _ => NN)
      refine unr_head (by k_asm) NN (allLt_mem lJ') ⟨⟨by k_mem, trivial⟩, ?_⟩
      clear NN
      k_steps
      unfold Hold
      (rename News _ _ _ _ => NN)
      refine unr_head (by k_asm) NN (allLt_mem lJ') ⟨⟨by k_mem, trivial⟩, ?_⟩
      clear NN
      k_steps
      unfold Hold
      (rename News _ _ _ _ => N4)
      refine ne_rd (d := .list []) (Rd.list (vs := []) (N4.get (by k_mem)) .nil) (Rd.list (vs := []) (N4.get (by k_mem)) .nil) (by rfl) ?hu ?_
      case hu => ktr_units
      k_steps
      unfold Hold
      (rename News _ _ _ _ => N4)
      refine ne_rd (d := .list []) (Rd.list (vs := []) (N4.get (by k_mem)) .nil) (Rd.list (vs := []) (N4.get (by k_mem)) .nil) (by rfl) ?hu ?_
      case hu => ktr_units
      k_steps
      unfold Hold
      (rename News _ _ _ _ => N4)
      refine ne_rd (d := .list [.bool false, .bool false, .bool false, .bool false]) (Rd.list (vs := [_, _, _, _]) (N4.get (by k_mem)) (.cons .bool (.cons .bool (.cons .bool (.cons .bool .nil))))) (Rd.list (vs := [_, _, _, _]) (N4.get (by k_mem)) (.cons .bool (.cons .bool (.cons .bool (.cons .bool .nil))))) (by rfl) ?hu ?_
      case hu => ktr_units
      k_steps
      unfold Hold
      (rename News _ _ _ _ => N5)
      have hG5 := ledG (led := [(l, W.listOf ([] : List Value).toArray n1)]) N5 (List.forall_mem_cons.mpr ⟨by k_mem, List.forall_mem_nil _⟩)
      k_dflt (refine' steps_c (P := Led [(l, W.listOf ([] : List Value).toArray n1)]) (rows := []) (tu := 1000) ?k1_u1 ?k2_u1 ?k3_u1 ?k4_u1 ?k5_u1 ?k6_u1 ?gx_u1 ?gd_u1 ?hP_u1 ?el_u1 ?hv_u1 ?htu_u1 ?hll_u1 ?k7_u1 ?k8_u1 ?_)
      case k1_u1 => k_asm
      case k2_u1 => k_asm
      case k3_u1 => k_asm
      case k4_u1 => k_asm
      case k5_u1 => k_asm
      case k6_u1 => first | exact rfl | assumption
      case k7_u1 => ktr_room
      case k8_u1 => ktr_units
      case gx_u1 => exact News.get (by k_asm) (by k_mem)
      case gd_u1 => exact News.get (by k_asm) (by k_mem)
      case hP_u1 => exact hG5
      case el_u1 => exact List.mem_cons_self ..
      case hv_u1 => exact .nil
      case htu_u1 => decide
      case hll_u1 => exact Nat.zero_le _

      intro Ds vo no tl9 h9 tk9 F9 N9 n91 n92 n93 hvo
      obtain rfl := hvo.nil_r
      simp only [List.cons_append, List.nil_append] at N9
      k_steps
      unfold Hold
      (rename News _ _ _ _ => N6)
      refine ne_rd (d := .list []) (Rd.list (vs := []) (N6.get (by k_mem)) .nil) (Rd.list (vs := []) (N6.get (by k_mem)) .nil) (by rfl) ?hu ?_
      case hu => ktr_units
      k_steps
      unfold Hold
      (rename News _ _ _ _ => N7)
      refine eq_rd (d := .list []) (Rd.list (vs := []) (N7.get (by k_mem)) .nil) (Rd.list (vs := []) (N7.get (by k_mem)) .nil) (by rfl) ?hu ?_
      case hu => ktr_units
      k_steps
      all_goals (try unfold Hold)
      all_goals (try dsimp only)
      exact good_true (by assumption) (by assumption) rfl
    · obtain ⟨da, va, oa⟩ := ra
      obtain ⟨f1, f2, f3, rf, g0, g1, g2, g3⟩ := ok.facts rs (da, va, oa) rfl
      have hrl := hr.length
      have hsl := hs.length
      have hdl := hd.length
      have hol := ok.len
      rw [stepsF_len] at hsl
      rw [List.length_map] at hdl
      have hr0 := hr
      have hd0 := hd
      obtain ⟨vs', v9, rfl, hr', ⟨D0, t6, t7, u0, c0, rfl, e0, ou⟩⟩ := hr.unsnoc
      rw [List.map_append] at hd
      obtain ⟨ds', v8, rfl, hd', hI9⟩ := All2.unsnoc hd
      obtain ⟨td0, rfl⟩ : ∃ t, v8 = .int da t := hI9
      dsimp only at f1 f2 g2 e0
      simp only [List.length_append, List.length_cons, List.length_nil, List.length_map] at hrl hsl hdl hol f2
      have N1 := news_cons Nn ((subs_N Nn (by intro p9 hp9; simp only [List.mem_cons, List.mem_append]; simp only [hp9, true_or, or_true]) : ∀ p ∈ tl, p ∈ _) _ e0) Nn
      clear Nn
      have hz1 : vs'.length ≤ 1000 := by omega
      have hz2 : ds'.length ≤ 1000 := by omega
      have hz3 : ws.length ≤ 1000 := by omega
      obtain ⟨_, hx0, ⟨tf0, rfl⟩⟩ := hd0.at (i := 0) (b := rf.1) (by rw [List.getElem?_map, g0]; rfl)
      have hx0' : (ds' ++ [Value.int da td0])[(0 : Int).toNat]? = some (Value.int rf.1 tf0) := hx0
      have hzl : (rs ++ [(da, va, oa)])[(rs ++ [(da, va, oa)]).length - 1]? = some (da, va, oa) := by simp
      clear hx0
      skip
      · k_steps
        unfold Hold
        refine iter_tupTurns rfl (by k_asm) (by k_asm) (by k_mem) rfl rfl ?_
        intro J9 lJ
        have lJ' := allLt_of lJ
        k_lt lJ
        k_steps
        unfold Hold
        (rename News _ _ _ _ => NN)
        refine unr_head (by k_asm) NN (allLt_mem lJ') ⟨⟨by k_mem, trivial⟩, ?_⟩
        clear NN
        k_steps
        unfold Hold
        (rename News _ _ _ _ => NN)
        refine unr_head (by k_asm) NN (allLt_mem lJ') ⟨⟨by k_mem, trivial⟩, ?_⟩
        clear NN
        k_steps
        unfold Hold
        (rename News _ _ _ _ => NN)
        refine unr_head (by k_asm) NN (allLt_mem lJ') ⟨⟨by k_mem, trivial⟩, ?_⟩
        clear NN
        k_steps
        unfold Hold
        (rename News _ _ _ _ => NN)
        refine unr_head (by k_asm) NN (allLt_mem lJ') ⟨⟨by k_mem, trivial⟩, ?_⟩
        clear NN
        k_steps
        unfold Hold
        (rename News _ _ _ _ => N4)
        refine neF_rd (d := .list (List.map PyData.int (List.map (·.1) (rs ++ [(da, va, oa)])))) (d' := .list []) (Rd.list (N4.get (by k_mem)) (ints_rd hd0)) (Rd.list (vs := []) (N4.get (by k_mem)) .nil) (shaped_map intP_sh _) (by rfl) ?hu (eqv_snoc (by simp)) ?_
        case hu => ktr_units
        k_steps
        unfold Hold
        (rename News _ _ _ _ => N4)
        refine neF_rd (d := .list (List.map PyData.int (List.map (·.1) (rs ++ [(da, va, oa)])))) (d' := .list []) (Rd.list (N4.get (by k_mem)) (ints_rd hd0)) (Rd.list (vs := []) (N4.get (by k_mem)) .nil) (shaped_map intP_sh _) (by rfl) ?hu (eqv_snoc (by simp)) ?_
        case hu => ktr_units
        k_steps
        unfold Hold
        (rename News _ _ _ _ => N4)
        refine ne_rd (d := .list [.bool true, .bool (decide ((1 : Int) < da)), .bool false, .bool false]) (Rd.list (vs := [_, _, _, _]) (N4.get (by k_mem)) (.cons .bool (.cons .bool (.cons .bool (.cons .bool .nil))))) (Rd.list (vs := [_, _, _, _]) (N4.get (by k_mem)) (.cons .bool (.cons .bool (.cons .bool (.cons .bool .nil))))) (by rfl) ?hu ?_
        case hu => ktr_units
        k_steps
        all_goals (try unfold Hold)
        all_goals try (with_reducible show GoodW _ _ _ _ _ _ _; exfalso; omega)
        (rename News _ _ _ _ => N5)
        have hG5 := ledG (led := (l, W.listOf (vs' ++ [Value.ref D0]).toArray n1) :: tl) N5 (List.forall_mem_cons.mpr ⟨by k_mem, (by intro p9 hp9; simp only [List.mem_cons, List.mem_append]; simp only [hp9, true_or, or_true])⟩)
        k_dflt (refine' steps_c (P := Led ((l, W.listOf (vs' ++ [Value.ref D0]).toArray n1) :: tl)) (rows := rs ++ [(da, va, oa)]) (tu := 1000) ?k1_u2b ?k2_u2b ?k3_u2b ?k4_u2b ?k5_u2b ?k6_u2b ?gx_u2b ?gd_u2b ?hP_u2b ?el_u2b ?hv_u2b ?htu_u2b ?hll_u2b ?k7_u2b ?k8_u2b ?_)
        case k1_u2b => k_asm
        case k2_u2b => k_asm
        case k3_u2b => k_asm
        case k4_u2b => k_asm
        case k5_u2b => k_asm
        case k6_u2b => first | exact rfl | assumption
        case k7_u2b => ktr_room
        case k8_u2b => ktr_units
        case gx_u2b => exact News.get (by k_asm) (by k_mem)
        case gd_u2b => exact News.get (by k_asm) (by k_mem)
        case hP_u2b => exact hG5
        case el_u2b => exact List.mem_cons_self ..
        case hv_u2b => exact hr0.mono fun _ _ y => y.mono fun _ _ e => List.mem_cons_of_mem _ e
        case htu_u2b => decide
        case hll_u2b => rw [List.length_append]; simp; omega

        intro Ds vo no tl9 h9 tk9 F9 N9 n91 n92 n93 hvo
        simp only [List.cons_append, List.nil_append] at N9
        k_steps
        unfold Hold
        (rename News _ _ _ _ => N6)
        refine ne_rd (d := .list (List.map stepP (stepsF 1000 (rs ++ [(da, va, oa)])))) (Rd.list (N6.get (by k_mem)) (hvo.map_r fun _ _ y => y.rd (ptG N6 (List.forall_mem_cons.mpr ⟨by k_mem, (by intro p9 hp9; simp only [List.mem_cons, List.mem_append]; simp only [hp9, true_or, or_true])⟩) (by intro p9 hp9; simp only [List.mem_cons, List.mem_append]; simp only [hp9, true_or, or_true])))) (Rd.list (N6.get (by k_mem)) (hs.map_r fun _ _ y => y.rd (ledG N6 (by intro p9 hp9; simp only [List.mem_cons, List.mem_append]; simp only [hp9, true_or, or_true])))) (shaped_map stepP_sh _) ?hu ?_
        case hu => ktr_units
        k_steps
        unfold Hold
        (rename News _ _ _ _ => N7)
        refine eqF_rd (d := .list (List.map PyData.int (List.map (·.1) (rs ++ [(da, va, oa)])))) (d' := .list []) (Rd.list (N7.get (by k_mem)) (ints_rd hd0)) (Rd.list (vs := []) (N7.get (by k_mem)) .nil) (shaped_map intP_sh _) (by rfl) ?hu (eqv_snoc (by simp)) ?_
        case hu => ktr_units
        k_steps
        unfold Hold
        (rename News _ _ _ _ => N8)
        have hG8 := ledG (led := (l, W.listOf (vs' ++ [Value.ref D0]).toArray n1) :: tl) N8 (List.forall_mem_cons.mpr ⟨by k_mem, (by intro p9 hp9; simp only [List.mem_cons, List.mem_append]; simp only [hp9, true_or, or_true])⟩)
        k_dflt (refine' used_c (fa := Value.none) (P := Led ((l, W.listOf (vs' ++ [Value.ref D0]).toArray n1) :: tl)) (rows := rs ++ [(da, va, oa)]) (tu := 1000) (ra := (da, va, oa)) (rf := rf) (f := 1) (bf := 1) ?k1_u3b ?k2_u3b ?k3_u3b ?k4_u3b ?k5_u3b ?k6_u3b ?gx_u3b ?gd_u3b ?hP_u3b ?el_u3b ?hv_u3b ?htu_u3b ?hll_u3b ?h0_u3b ?hz_u3b ?est_u3b ?een_u3b ?hs0_u3b ?hse_u3b ?hen_u3b ?hq_u3b ?hf_u3b ?hbf_u3b ?hbf2_u3b ?k7_u3b ?k8_u3b ?_)
        case k1_u3b => k_asm
        case k2_u3b => k_asm
        case k3_u3b => k_asm
        case k4_u3b => k_asm
        case k5_u3b => k_asm
        case k6_u3b => first | exact rfl | assumption
        case k7_u3b => ktr_room
        case k8_u3b => ktr_units
        case gx_u3b => exact News.get (by k_asm) (by k_mem)
        case gd_u3b => exact News.get (by k_asm) (by k_mem)
        case hP_u3b => exact hG8
        case el_u3b => exact List.mem_cons_self ..
        case hv_u3b => exact hr0.mono fun _ _ y => y.mono fun _ _ e => List.mem_cons_of_mem _ e
        case htu_u3b => decide
        case hll_u3b => rw [List.length_append]; simp; omega
        case h0_u3b => exact g0
        case hz_u3b => exact hzl
        case est_u3b => rfl
        case een_u3b => rfl
        case hs0_u3b => omega
        case hse_u3b => exact g2
        case hen_u3b => omega
        case hq_u3b => exact g3
        case hf_u3b => exact Frag.In.keeps (by k_asm) (Fr.keep (by k_asm)) _ _ (by k_is)
        case hbf_u3b => exact Bd.int (x := 1) (by decide) (by decide)
        case hbf2_u3b => decide

        intro D5 t5 u5 c5 h5 tk5 b5 F5 N5' l5
        replace l5 := allNe_of l5
        k_steps
        unfold Hold
        (rename News _ _ _ _ => N10)
        refine eq_rd (d := .tuple [.int (usum (stepsF 1000 (rs ++ [(da, va, oa)]))), .int 1]) (RatN.rd' (P := Led _) (ledG N10 fun _ h => h) (ratR (by k_mem)) (Rat.mul_one _)) (T2_rd (N10.get (by k_mem))) (by rfl) ?hu ?_
        case hu => ktr_units
        k_steps
        all_goals (try unfold Hold)
        all_goals (try dsimp only)
        exact good_true (by assumption) (by assumption) rfl)

