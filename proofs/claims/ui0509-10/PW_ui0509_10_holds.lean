import PyProof.Rows.All
import Wide.All
import OpenK.AllK
import Wide.FinOn
import PySem.Challenge.RW_ui0509_10
open PySem PySem.W PyProof.Rows PySem.Spec PySem.Calls
set_option Elab.async false
set_option maxRecDepth 100000
set_option maxHeartbeats 8000000
set_option rowWalk.seconds 1500
set_option compiler.extract_closed false
set_option linter.all false
namespace HD
open PySem PySem.W PyProof.Rows PySem.Spec PySem.Calls
abbrev pw : Program := PySem.Challenge.pw_ui0509_10
def nth : List Stmt → Nat → Stmt
  | [], _ => .Pass ⟨0, 0, 0, 0⟩
  | x :: _, 0 => x
  | _ :: r, n + 1 => nth r n
def bodyS : Stmt → List Stmt
  | .FunctionDef _ _ b .. => b
  | .ClassDef _ _ _ b .. => b
  | .If _ b .. => b
  | _ => []
def argsS : Stmt → Arguments
  | .FunctionDef _ a .. => a
  | _ => ⟨[], [], none, [], [], none, []⟩
def scopeS : Stmt → Scope
  | .FunctionDef _ _ _ _ _ _ s .. => s
  | _ => ⟨.function, [], false, false, []⟩
abbrev lf (o : Obj) : BT := .node o .nil .nil
@[reducible] noncomputable def fa6 : {x : Arguments // x = argsS (nth pw.main.body 6)} := ⟨_, by conv => (rhs; whnf)⟩
@[reducible] noncomputable def fb6 : {x : List Stmt // x = bodyS (nth pw.main.body 6)} := ⟨_, by conv => (rhs; whnf)⟩
@[reducible] noncomputable def fs6 : {x : Scope // x = scopeS (nth pw.main.body 6)} := ⟨_, by conv => (rhs; whnf)⟩
@[reducible] noncomputable def fa7 : {x : Arguments // x = argsS (nth pw.main.body 7)} := ⟨_, by conv => (rhs; whnf)⟩
@[reducible] noncomputable def fb7 : {x : List Stmt // x = bodyS (nth pw.main.body 7)} := ⟨_, by conv => (rhs; whnf)⟩
@[reducible] noncomputable def fs7 : {x : Scope // x = scopeS (nth pw.main.body 7)} := ⟨_, by conv => (rhs; whnf)⟩
@[reducible] noncomputable def fa8 : {x : Arguments // x = argsS (nth pw.main.body 8)} := ⟨_, by conv => (rhs; whnf)⟩
@[reducible] noncomputable def fb8 : {x : List Stmt // x = bodyS (nth pw.main.body 8)} := ⟨_, by conv => (rhs; whnf)⟩
@[reducible] noncomputable def fs8 : {x : Scope // x = scopeS (nth pw.main.body 8)} := ⟨_, by conv => (rhs; whnf)⟩
@[reducible] noncomputable def fa9 : {x : Arguments // x = argsS (nth pw.main.body 9)} := ⟨_, by conv => (rhs; whnf)⟩
@[reducible] noncomputable def fb9 : {x : List Stmt // x = bodyS (nth pw.main.body 9)} := ⟨_, by conv => (rhs; whnf)⟩
@[reducible] noncomputable def fs9 : {x : Scope // x = scopeS (nth pw.main.body 9)} := ⟨_, by conv => (rhs; whnf)⟩
@[reducible] noncomputable def fa10 : {x : Arguments // x = argsS (nth pw.main.body 10)} := ⟨_, by conv => (rhs; whnf)⟩
@[reducible] noncomputable def fb10 : {x : List Stmt // x = bodyS (nth pw.main.body 10)} := ⟨_, by conv => (rhs; whnf)⟩
@[reducible] noncomputable def fs10 : {x : Scope // x = scopeS (nth pw.main.body 10)} := ⟨_, by conv => (rhs; whnf)⟩
@[reducible] noncomputable def fa11 : {x : Arguments // x = argsS (nth pw.main.body 11)} := ⟨_, by conv => (rhs; whnf)⟩
@[reducible] noncomputable def fb11 : {x : List Stmt // x = bodyS (nth pw.main.body 11)} := ⟨_, by conv => (rhs; whnf)⟩
@[reducible] noncomputable def fs11 : {x : Scope // x = scopeS (nth pw.main.body 11)} := ⟨_, by conv => (rhs; whnf)⟩
@[reducible] noncomputable def fa12 : {x : Arguments // x = argsS (nth pw.main.body 12)} := ⟨_, by conv => (rhs; whnf)⟩
@[reducible] noncomputable def fb12 : {x : List Stmt // x = bodyS (nth pw.main.body 12)} := ⟨_, by conv => (rhs; whnf)⟩
@[reducible] noncomputable def fs12 : {x : Scope // x = scopeS (nth pw.main.body 12)} := ⟨_, by conv => (rhs; whnf)⟩
@[reducible] noncomputable def fa13 : {x : Arguments // x = argsS (nth pw.main.body 13)} := ⟨_, by conv => (rhs; whnf)⟩
@[reducible] noncomputable def fb13 : {x : List Stmt // x = bodyS (nth pw.main.body 13)} := ⟨_, by conv => (rhs; whnf)⟩
@[reducible] noncomputable def fs13 : {x : Scope // x = scopeS (nth pw.main.body 13)} := ⟨_, by conv => (rhs; whnf)⟩
@[reducible] noncomputable def fa14 : {x : Arguments // x = argsS (nth pw.main.body 14)} := ⟨_, by conv => (rhs; whnf)⟩
@[reducible] noncomputable def fb14 : {x : List Stmt // x = bodyS (nth pw.main.body 14)} := ⟨_, by conv => (rhs; whnf)⟩
@[reducible] noncomputable def fs14 : {x : Scope // x = scopeS (nth pw.main.body 14)} := ⟨_, by conv => (rhs; whnf)⟩
@[reducible] noncomputable def fa15 : {x : Arguments // x = argsS (nth pw.main.body 15)} := ⟨_, by conv => (rhs; whnf)⟩
@[reducible] noncomputable def fb15 : {x : List Stmt // x = bodyS (nth pw.main.body 15)} := ⟨_, by conv => (rhs; whnf)⟩
@[reducible] noncomputable def fs15 : {x : Scope // x = scopeS (nth pw.main.body 15)} := ⟨_, by conv => (rhs; whnf)⟩
@[reducible] noncomputable def fa16 : {x : Arguments // x = argsS (nth pw.main.body 16)} := ⟨_, by conv => (rhs; whnf)⟩
@[reducible] noncomputable def fb16 : {x : List Stmt // x = bodyS (nth pw.main.body 16)} := ⟨_, by conv => (rhs; whnf)⟩
@[reducible] noncomputable def fs16 : {x : Scope // x = scopeS (nth pw.main.body 16)} := ⟨_, by conv => (rhs; whnf)⟩
@[reducible] noncomputable def fa18 : {x : Arguments // x = argsS (nth pw.main.body 18)} := ⟨_, by conv => (rhs; whnf)⟩
@[reducible] noncomputable def fb18 : {x : List Stmt // x = bodyS (nth pw.main.body 18)} := ⟨_, by conv => (rhs; whnf)⟩
@[reducible] noncomputable def fs18 : {x : Scope // x = scopeS (nth pw.main.body 18)} := ⟨_, by conv => (rhs; whnf)⟩
@[reducible] noncomputable def fa20_0 : {x : Arguments // x = argsS (nth (bodyS (nth pw.main.body 20)) 0)} := ⟨_, by conv => (rhs; whnf)⟩
@[reducible] noncomputable def fb20_0 : {x : List Stmt // x = bodyS (nth (bodyS (nth pw.main.body 20)) 0)} := ⟨_, by conv => (rhs; whnf)⟩
@[reducible] noncomputable def fs20_0 : {x : Scope // x = scopeS (nth (bodyS (nth pw.main.body 20)) 0)} := ⟨_, by conv => (rhs; whnf)⟩
@[reducible] noncomputable def fa20_1 : {x : Arguments // x = argsS (nth (bodyS (nth pw.main.body 20)) 1)} := ⟨_, by conv => (rhs; whnf)⟩
@[reducible] noncomputable def fb20_1 : {x : List Stmt // x = bodyS (nth (bodyS (nth pw.main.body 20)) 1)} := ⟨_, by conv => (rhs; whnf)⟩
@[reducible] noncomputable def fs20_1 : {x : Scope // x = scopeS (nth (bodyS (nth pw.main.body 20)) 1)} := ⟨_, by conv => (rhs; whnf)⟩
@[reducible] noncomputable def fa20_2 : {x : Arguments // x = argsS (nth (bodyS (nth pw.main.body 20)) 2)} := ⟨_, by conv => (rhs; whnf)⟩
@[reducible] noncomputable def fb20_2 : {x : List Stmt // x = bodyS (nth (bodyS (nth pw.main.body 20)) 2)} := ⟨_, by conv => (rhs; whnf)⟩
@[reducible] noncomputable def fs20_2 : {x : Scope // x = scopeS (nth (bodyS (nth pw.main.body 20)) 2)} := ⟨_, by conv => (rhs; whnf)⟩
@[reducible] noncomputable def fa20_3 : {x : Arguments // x = argsS (nth (bodyS (nth pw.main.body 20)) 3)} := ⟨_, by conv => (rhs; whnf)⟩
@[reducible] noncomputable def fb20_3 : {x : List Stmt // x = bodyS (nth (bodyS (nth pw.main.body 20)) 3)} := ⟨_, by conv => (rhs; whnf)⟩
@[reducible] noncomputable def fs20_3 : {x : Scope // x = scopeS (nth (bodyS (nth pw.main.body 20)) 3)} := ⟨_, by conv => (rhs; whnf)⟩
@[reducible] noncomputable def fa20_4 : {x : Arguments // x = argsS (nth (bodyS (nth pw.main.body 20)) 4)} := ⟨_, by conv => (rhs; whnf)⟩
@[reducible] noncomputable def fb20_4 : {x : List Stmt // x = bodyS (nth (bodyS (nth pw.main.body 20)) 4)} := ⟨_, by conv => (rhs; whnf)⟩
@[reducible] noncomputable def fs20_4 : {x : Scope // x = scopeS (nth (bodyS (nth pw.main.body 20)) 4)} := ⟨_, by conv => (rhs; whnf)⟩
@[reducible] noncomputable def fa20_5 : {x : Arguments // x = argsS (nth (bodyS (nth pw.main.body 20)) 5)} := ⟨_, by conv => (rhs; whnf)⟩
@[reducible] noncomputable def fb20_5 : {x : List Stmt // x = bodyS (nth (bodyS (nth pw.main.body 20)) 5)} := ⟨_, by conv => (rhs; whnf)⟩
@[reducible] noncomputable def fs20_5 : {x : Scope // x = scopeS (nth (bodyS (nth pw.main.body 20)) 5)} := ⟨_, by conv => (rhs; whnf)⟩
@[reducible] noncomputable def fa20_6 : {x : Arguments // x = argsS (nth (bodyS (nth pw.main.body 20)) 6)} := ⟨_, by conv => (rhs; whnf)⟩
@[reducible] noncomputable def fb20_6 : {x : List Stmt // x = bodyS (nth (bodyS (nth pw.main.body 20)) 6)} := ⟨_, by conv => (rhs; whnf)⟩
@[reducible] noncomputable def fs20_6 : {x : Scope // x = scopeS (nth (bodyS (nth pw.main.body 20)) 6)} := ⟨_, by conv => (rhs; whnf)⟩
@[reducible] noncomputable def fa20_7 : {x : Arguments // x = argsS (nth (bodyS (nth pw.main.body 20)) 7)} := ⟨_, by conv => (rhs; whnf)⟩
@[reducible] noncomputable def fb20_7 : {x : List Stmt // x = bodyS (nth (bodyS (nth pw.main.body 20)) 7)} := ⟨_, by conv => (rhs; whnf)⟩
@[reducible] noncomputable def fs20_7 : {x : Scope // x = scopeS (nth (bodyS (nth pw.main.body 20)) 7)} := ⟨_, by conv => (rhs; whnf)⟩
@[reducible] noncomputable def fa21 : {x : Arguments // x = argsS (nth pw.main.body 21)} := ⟨_, by conv => (rhs; whnf)⟩
@[reducible] noncomputable def fb21 : {x : List Stmt // x = bodyS (nth pw.main.body 21)} := ⟨_, by conv => (rhs; whnf)⟩
@[reducible] noncomputable def fs21 : {x : Scope // x = scopeS (nth pw.main.body 21)} := ⟨_, by conv => (rhs; whnf)⟩
@[reducible] noncomputable def fa22 : {x : Arguments // x = argsS (nth pw.main.body 22)} := ⟨_, by conv => (rhs; whnf)⟩
@[reducible] noncomputable def fb22 : {x : List Stmt // x = bodyS (nth pw.main.body 22)} := ⟨_, by conv => (rhs; whnf)⟩
@[reducible] noncomputable def fs22 : {x : Scope // x = scopeS (nth pw.main.body 22)} := ⟨_, by conv => (rhs; whnf)⟩
@[reducible] noncomputable def fa23 : {x : Arguments // x = argsS (nth pw.main.body 23)} := ⟨_, by conv => (rhs; whnf)⟩
@[reducible] noncomputable def fb23 : {x : List Stmt // x = bodyS (nth pw.main.body 23)} := ⟨_, by conv => (rhs; whnf)⟩
@[reducible] noncomputable def fs23 : {x : Scope // x = scopeS (nth pw.main.body 23)} := ⟨_, by conv => (rhs; whnf)⟩
@[reducible] noncomputable def fa25 : {x : Arguments // x = argsS (nth pw.main.body 25)} := ⟨_, by conv => (rhs; whnf)⟩
@[reducible] noncomputable def fb25 : {x : List Stmt // x = bodyS (nth pw.main.body 25)} := ⟨_, by conv => (rhs; whnf)⟩
@[reducible] noncomputable def fs25 : {x : Scope // x = scopeS (nth pw.main.body 25)} := ⟨_, by conv => (rhs; whnf)⟩
@[reducible] noncomputable def fa26 : {x : Arguments // x = argsS (nth pw.main.body 26)} := ⟨_, by conv => (rhs; whnf)⟩
@[reducible] noncomputable def fb26 : {x : List Stmt // x = bodyS (nth pw.main.body 26)} := ⟨_, by conv => (rhs; whnf)⟩
@[reducible] noncomputable def fs26 : {x : Scope // x = scopeS (nth pw.main.body 26)} := ⟨_, by conv => (rhs; whnf)⟩
@[reducible] noncomputable def fa28 : {x : Arguments // x = argsS (nth pw.main.body 28)} := ⟨_, by conv => (rhs; whnf)⟩
@[reducible] noncomputable def fb28 : {x : List Stmt // x = bodyS (nth pw.main.body 28)} := ⟨_, by conv => (rhs; whnf)⟩
@[reducible] noncomputable def fs28 : {x : Scope // x = scopeS (nth pw.main.body 28)} := ⟨_, by conv => (rhs; whnf)⟩
@[reducible] noncomputable def fa29 : {x : Arguments // x = argsS (nth pw.main.body 29)} := ⟨_, by conv => (rhs; whnf)⟩
@[reducible] noncomputable def fb29 : {x : List Stmt // x = bodyS (nth pw.main.body 29)} := ⟨_, by conv => (rhs; whnf)⟩
@[reducible] noncomputable def fs29 : {x : Scope // x = scopeS (nth pw.main.body 29)} := ⟨_, by conv => (rhs; whnf)⟩
noncomputable def envH : Env := { scope := pw.main.scope, locals := mainNs, globals := mainNs, cells := [], code := (.ref 13), frame := some 14 }
noncomputable def cE : Code := Code.body (behindTheImports pw) envH
abbrev qH : Pos := (.mk 0 0 0 0)
abbrev annH : Option Value := (.some (.ref 6))
noncomputable def s0H (P : Params) (os : OsState) : Shared := ⟨boot_heap P, ⟨[]⟩, boot_drawn, boot_toks, os⟩
noncomputable def o11 (P : Params) : Obj := (PySem.Obj.mk (.type "tuple") .none (.seq (List.toArray []) 0) (List.toArray []))
noncomputable def o12 (P : Params) : Obj := (PySem.Obj.mk .none .none (.fields (List.toArray [])) (List.toArray []))
noncomputable def o13 (P : Params) : Obj := (PySem.Obj.mk (.type "code") .none (.fields (List.toArray [(.str (Str.ofString "<module>") 182), (.str (Str.ofString "<module>") 183), (.str (Str.ofString "/claim/cut.py") 184), (.int 1 0), (.int 0 0), (.int 0 0), (.int 0 0), (.int 0 0), (.ref 11), (.bool .false), (.int 181 0), (.ref 12), .none, .none, .none, .none, (.int 185 0), (.int 1 0), (.str (Str.ofString "/claim/cut.py") 186)])) (List.toArray []))
noncomputable def o14 (P : Params) : Obj := (PySem.Obj.mk (.type "frame") .none .plain (List.toArray [(.some (.ref 13)), (.some (.ref 3)), (.some (.ref 3)), .none, (.some (.str (Str.ofString "__main__") 164)), .none, (.some (.ref 0))]))
noncomputable def tA (P : Params) : BT := (.node (boot_o_0 P) (.node (boot_o_1 P) (.node (boot_o_3 P) (lf (boot_o_7 P)) (lf (o11 P))) (.node (boot_o_5 P) (lf (boot_o_9 P)) (lf (o13 P)))) (.node (boot_o_2 P) (.node (boot_o_4 P) (lf (boot_o_8 P)) (lf (o12 P))) (.node (boot_o_6 P) (lf (boot_o_10 P)) (lf (o14 P)))))
noncomputable def tAS (P : Params) (os : OsState) : SharedT := ⟨tA P, 15, (.mk [] [] [] 0 [] [] .false (List.toArray []) [] 0 .false .false .false 0 [2000, 10, 10] .false 0 .true [] [] 0 .false), ⟨[]⟩, (.mk 0 0 0 0), 187, os⟩
theorem preH (w : World) : (fun os => topGo treeTable pw w 11 annH 12 (s0H w.params os) (topStub pw)) = fun os => some ((tAS w.params os).abs, ⟨denote treeTable cE, cE, ((.mk 0 0 0 0) : Pos), [topFrame qH]⟩) := by
  rw [PySem.W.Fast.te15667345088766844465, PySem.W.Fast.te14364793385576792824, PySem.W.Fast.te11892475500146522536]; kernel_rfl!
noncomputable def tB (P : Params) : BT := (.node (boot_o_0 P) (.node (boot_o_1 P) (.node (boot_o_3 P) (lf (boot_o_7 P)) (lf (o11 P))) (.node (boot_o_5 P) (lf (boot_o_9 P)) (lf (o13 P)))) (.node (boot_o_2 P) (.node (boot_o_4 P) (lf (boot_o_8 P)) (lf (o12 P))) (.node (boot_o_6 P) (lf (boot_o_10 P)) (lf (o14 P)))))
noncomputable def tBS (P : Params) (os : OsState) : SharedT := ⟨tB P, 15, (.mk [] [] [] 0 [] [] .false (List.toArray []) [] 0 .false .false .false 0 [2000, 10, 10] .false 0 .true [] [] 0 .false), ⟨[]⟩, (.mk 0 0 0 0), 187, os⟩
theorem blockH (w : World) : (fun os => segRunT treeTable pw w 11 annH 1 1 (tAS w.params os) (blockOf (behindTheImports pw) envH cE ((.mk 0 0 0 0) : Pos) [topFrame qH])) = fun os => some (.next, tBS w.params os, cE, ((.mk 0 0 0 0) : Pos)) := by
  unfold blockOf; rw [PySem.W.Fast.te10110043849684766642, PySem.W.Fast.te14364793385576792824, PySem.W.Fast.te1066825118222455980]; kernel_rfl!
noncomputable def o3 (P : Params) : Obj := (PySem.Obj.mk (.type "dict") .none (.dict (List.toArray [(.mk (PySem.PyData.keyHash P (Str.ofString "__name__")) (.str (Str.ofString "__name__") 165) (.str (Str.ofString "heatnet.exact") 207)), (.mk (PySem.PyData.keyHash P (Str.ofString "__doc__")) (.str (Str.ofString "__doc__") 166) .none), (.mk (PySem.PyData.keyHash P (Str.ofString "__package__")) (.str (Str.ofString "__package__") 167) .none), (.mk (PySem.PyData.keyHash P (Str.ofString "__loader__")) (.str (Str.ofString "__loader__") 168) (.builtin "__main__.__loader__#opaque")), (.mk (PySem.PyData.keyHash P (Str.ofString "__spec__")) (.str (Str.ofString "__spec__") 169) .none), (.mk (PySem.PyData.keyHash P (Str.ofString "__annotations__")) (.str (Str.ofString "__annotations__") 170) (.ref 6)), (.mk (PySem.PyData.keyHash P (Str.ofString "__builtins__")) (.str (Str.ofString "__builtins__") 171) (.ref 4)), (.mk (PySem.PyData.keyHash P (Str.ofString "__file__")) (.str (Str.ofString "__file__") 173) (.str (Str.ofString "/claim/cut.py") 172)), (.mk (PySem.PyData.keyHash P (Str.ofString "__cached__")) (.str (Str.ofString "__cached__") 174) .none), (.mk (PySem.PyData.keyHash P (Str.ofString "HeatError")) (.str (Str.ofString "HeatError") 206) (.ref 24)), (.mk (PySem.PyData.keyHash P (Str.ofString "FIGURES")) (.str (Str.ofString "FIGURES") 210) (.int 2000 209)), (.mk (PySem.PyData.keyHash P (Str.ofString "MOST")) (.str (Str.ofString "MOST") 213) (.int 100000000000000000000000000000000000000000000000000000000000000000000000000000000000000000000000000000000000000000000000000000000000000000000000000000000000000000000000000000000000000000000000000000000000000000000000000000000000000000000000000000000000000000000000000000000000000000000000000000000000000000000000000000000000000000000000000000000000000000000000000000000000000000000000000000000000000000000000000000000000000000000000000000000000000000000000000000000000000000000000000000000000000000000000000000000000000000000000000000000000000000000000000000000000000000000000000000000000000000000000000000000000000000000000000000000000000000000000000000000000000000000000000000000000000000000000000000000000000000000000000000000000000000000000000000000000000000000000000000000000000000000000000000000000000000000000000000000000000000000000000000000000000000000000000000000000000000000000000000000000000000000000000000000000000000000000000000000000000000000000000000000000000000000000000000000000000000000000000000000000000000000000000000000000000000000000000000000000000000000000000000000000000000000000000000000000000000000000000000000000000000000000000000000000000000000000000000000000000000000000000000000000000000000000000000000000000000000000000000000000000000000000000000000000000000000000000000000000000000000000000000000000000000000000000000000000000000000000000000000000000000000000000000000000000000000000000000000000000000000000000000000000000000000000000000000000000000000000000000000000000000000000000000000000000000000000000000000000000000000000000000000000000000000000000000000000000000000000000000000000000000000000000000000000000000000000000000000000000000000000000000000000000000000000000000000000000000000000000000000000000000000000000000000000000000000000000000000000000000000000000000000000000000000000000000000000000000000000000000000000000000000000000000000000000000000000000000000000000000000000000000000000000000000000000000000000000000000000000000000000000000000000000000000 212)), (.mk (PySem.PyData.keyHash P (Str.ofString "NOUGHT")) (.str (Str.ofString "NOUGHT") 216) (.ref 28)), (.mk (PySem.PyData.keyHash P (Str.ofString "divisor")) (.str (Str.ofString "divisor") 224) (.ref 35)), (.mk (PySem.PyData.keyHash P (Str.ofString "frac")) (.str (Str.ofString "frac") 234) (.ref 43)), (.mk (PySem.PyData.keyHash P (Str.ofString "need")) (.str (Str.ofString "need") 242) (.ref 51)), (.mk (PySem.PyData.keyHash P (Str.ofString "plus")) (.str (Str.ofString "plus") 250) (.ref 58)), (.mk (PySem.PyData.keyHash P (Str.ofString "minus")) (.str (Str.ofString "minus") 258) (.ref 65))]) 18) (List.toArray []))
noncomputable def o12v1 (P : Params) : Obj := (PySem.Obj.mk .none .none (.fields (List.toArray [(.int 2 0), (.int 0 0), (.ref 20), (.int 8 0), (.int 0 0), (.ref 34), (.int 14 0), (.int 0 0), (.ref 42), (.int 24 0), (.int 0 0), (.ref 50), (.int 30 0), (.int 0 0), (.ref 57), (.int 32 0), (.int 0 0), (.ref 64)])) (List.toArray []))
noncomputable def o15 (P : Params) : Obj := (PySem.Obj.mk (.type "tuple") .none (.seq (List.toArray [(.type "ValueError")]) 0) (List.toArray []))
noncomputable def o16 (P : Params) : Obj := (PySem.Obj.mk (.type "builtin_function_or_method") .none (.fields (List.toArray [(.builtin "type.__prepare__"), (.type "type")])) (List.toArray []))
noncomputable def o17 (P : Params) : Obj := (PySem.Obj.mk (.type "dict") .none (.dict (List.toArray [(.mk (PySem.PyData.keyHash P (Str.ofString "__module__")) (.str (Str.ofString "__module__") 196) (.str (Str.ofString "heatnet.errors") 187)), (.mk (PySem.PyData.keyHash P (Str.ofString "__qualname__")) (.str (Str.ofString "__qualname__") 198) (.str (Str.ofString "HeatError") 197)), (.mk (PySem.PyData.keyHash P (Str.ofString "__firstlineno__")) (.str (Str.ofString "__firstlineno__") 200) (.int 2 199)), (.mk (PySem.PyData.keyHash P (Str.ofString "__static_attributes__")) (.str (Str.ofString "__static_attributes__") 201) (.ref 22))]) 4) (List.toArray []))
noncomputable def o18 (P : Params) : Obj := (PySem.Obj.mk (.type "tuple") .none (.seq (List.toArray []) 0) (List.toArray []))
noncomputable def o19 (P : Params) : Obj := (PySem.Obj.mk .none .none (.fields (List.toArray [])) (List.toArray []))
noncomputable def o20 (P : Params) : Obj := (PySem.Obj.mk (.type "code") .none (.fields (List.toArray [(.str (Str.ofString "HeatError") 191), (.str (Str.ofString "HeatError") 192), (.str (Str.ofString "/claim/cut.py") 193), (.int 2 0), (.int 0 0), (.int 0 0), (.int 0 0), (.int 0 0), (.ref 18), (.bool .false), (.int 181 0), (.ref 19), .none, .none, .none, .none, (.int 194 0), (.int 2 0), (.str (Str.ofString "/claim/cut.py") 195)])) (List.toArray []))
noncomputable def o21 (P : Params) : Obj := (PySem.Obj.mk (.type "frame") .none .plain (List.toArray [(.some (.ref 20)), (.some (.ref 3)), (.some (.ref 17)), .none, (.some (.str (Str.ofString "heatnet.errors") 187)), .none, (.some (.ref 0))]))
noncomputable def o22 (P : Params) : Obj := (PySem.Obj.mk (.type "tuple") .none (.seq (List.toArray []) 0) (List.toArray []))
noncomputable def o23 (P : Params) : Obj := (PySem.Obj.mk (.type "dict") .none (.dict (List.toArray [(.mk (PySem.PyData.keyHash P (Str.ofString "__module__")) (.str (Str.ofString "__module__") 196) (.str (Str.ofString "heatnet.errors") 187)), (.mk (PySem.PyData.keyHash P (Str.ofString "__firstlineno__")) (.str (Str.ofString "__firstlineno__") 200) (.int 2 199)), (.mk (PySem.PyData.keyHash P (Str.ofString "__static_attributes__")) (.str (Str.ofString "__static_attributes__") 201) (.ref 22)), (.mk (PySem.PyData.keyHash P (Str.ofString "__weakref__")) (.str (Str.ofString "__weakref__") 203) (.ref 25)), (.mk (PySem.PyData.keyHash P (Str.ofString "__doc__")) (.str (Str.ofString "__doc__") 204) .none)]) 3) (List.toArray []))
noncomputable def o24 (P : Params) : Obj := (PySem.Obj.mk (.type "type") .none (.cls (.mk (Str.ofString "HeatError") [(.type "ValueError")] [(.ref 24), (.type "ValueError"), (.type "Exception"), (.type "BaseException"), (.type "object")] 23 (Str.ofString "HeatError") .true [] [] .false .none .false)) (List.toArray [(.some (.ref 15)), .none, (.some (.str (Str.ofString "HeatError") 189)), (.some (.str (Str.ofString "HeatError") 197)), (.some (.builtin "ValueError.__new__")), (.some (.bool .true))]))
noncomputable def o25 (P : Params) : Obj := (PySem.Obj.mk (.type "getset_descriptor") .none (.fields (List.toArray [(.str (Str.ofString "__weakref__") 202), (.ref 24), (.builtin "ExceptionGroup.__weakref__"), .none])) (List.toArray []))
noncomputable def o26 (P : Params) : Obj := (PySem.Obj.mk (.type "super") .none (.fields (List.toArray [(.ref 24), (.ref 24), (.ref 24)])) (List.toArray []))
noncomputable def o27 (P : Params) : Obj := (PySem.Obj.mk (.type "builtin_function_or_method") .none (.fields (List.toArray [(.builtin "object.__init_subclass__"), (.ref 24)])) (List.toArray []))
noncomputable def o28 (P : Params) : Obj := (PySem.Obj.mk (.type "tuple") .none (.seq (List.toArray [(.int 0 214), (.int 1 215)]) 0) (List.toArray []))
noncomputable def o29 (P : Params) : Obj := (PySem.Obj.mk (.type "tuple") .none (.seq (List.toArray []) 0) (List.toArray []))
noncomputable def o30 (P : Params) : Obj := (PySem.Obj.mk .none .none (.fields (List.toArray [])) (List.toArray []))
noncomputable def o31 (P : Params) : Obj := (PySem.Obj.mk (.type "tuple") .none (.seq (List.toArray [(.str (Str.ofString "a") 220), (.str (Str.ofString "b") 221)]) 0) (List.toArray []))
noncomputable def o32 (P : Params) : Obj := (PySem.Obj.mk (.type "tuple") .none (.seq (List.toArray []) 0) (List.toArray []))
noncomputable def o33 (P : Params) : Obj := (PySem.Obj.mk .none .none (.func (FuncData.mk (Str.ofString "divisor") (Str.ofString "divisor") fa6.1 (.stmts fb6.1) fs6.1 0 [] .none .none .none .none .none .none .none 0)) (List.toArray []))
noncomputable def o34 (P : Params) : Obj := (PySem.Obj.mk (.type "code") .none (.fields (List.toArray [(.str (Str.ofString "divisor") 217), (.str (Str.ofString "divisor") 218), (.str (Str.ofString "/claim/cut.py") 219), (.int 8 0), (.int 2 0), (.int 0 0), (.int 0 0), (.int 3 0), (.ref 29), (.bool .true), (.int 181 0), (.ref 30), .none, (.ref 31), (.ref 32), (.ref 33), (.int 222 0), (.int 8 0), (.str (Str.ofString "/claim/cut.py") 223)])) (List.toArray []))
noncomputable def o35 (P : Params) : Obj := (PySem.Obj.mk (.type "function") .none (.func (FuncData.mk (Str.ofString "divisor") (Str.ofString "divisor") fa6.1 (.stmts fb6.1) fs6.1 3 [] .none .none .none (.str (Str.ofString "heatnet.exact") 207) .none (.ref 34) .none 0)) (List.toArray []))
noncomputable def o36 (P : Params) : Obj := (PySem.Obj.mk (.type "tuple") .none (.seq (List.toArray [(.int 1 225)]) 0) (List.toArray []))
noncomputable def o37 (P : Params) : Obj := (PySem.Obj.mk (.type "tuple") .none (.seq (List.toArray []) 0) (List.toArray []))
noncomputable def o38 (P : Params) : Obj := (PySem.Obj.mk .none .none (.fields (List.toArray [])) (List.toArray []))
noncomputable def o39 (P : Params) : Obj := (PySem.Obj.mk (.type "tuple") .none (.seq (List.toArray [(.str (Str.ofString "upper") 229), (.str (Str.ofString "lower") 230), (.str (Str.ofString "by") 231)]) 0) (List.toArray []))
noncomputable def o40 (P : Params) : Obj := (PySem.Obj.mk (.type "tuple") .none (.seq (List.toArray []) 0) (List.toArray []))
noncomputable def o41 (P : Params) : Obj := (PySem.Obj.mk .none .none (.func (FuncData.mk (Str.ofString "frac") (Str.ofString "frac") fa7.1 (.stmts fb7.1) fs7.1 0 [] .none .none .none .none .none .none .none 0)) (List.toArray []))
noncomputable def o42 (P : Params) : Obj := (PySem.Obj.mk (.type "code") .none (.fields (List.toArray [(.str (Str.ofString "frac") 226), (.str (Str.ofString "frac") 227), (.str (Str.ofString "/claim/cut.py") 228), (.int 14 0), (.int 2 0), (.int 0 0), (.int 0 0), (.int 3 0), (.ref 37), (.bool .true), (.int 181 0), (.ref 38), .none, (.ref 39), (.ref 40), (.ref 41), (.int 232 0), (.int 14 0), (.str (Str.ofString "/claim/cut.py") 233)])) (List.toArray []))
noncomputable def o43 (P : Params) : Obj := (PySem.Obj.mk (.type "function") .none (.func (FuncData.mk (Str.ofString "frac") (Str.ofString "frac") fa7.1 (.stmts fb7.1) fs7.1 3 [] (.ref 36) .none .none (.str (Str.ofString "heatnet.exact") 207) .none (.ref 42) .none 0)) (List.toArray []))
noncomputable def o44 (P : Params) : Obj := (PySem.Obj.mk (.type "tuple") .none (.seq (List.toArray [.none]) 0) (List.toArray []))
noncomputable def o45 (P : Params) : Obj := (PySem.Obj.mk (.type "tuple") .none (.seq (List.toArray []) 0) (List.toArray []))
noncomputable def o46 (P : Params) : Obj := (PySem.Obj.mk .none .none (.fields (List.toArray [])) (List.toArray []))
noncomputable def o47 (P : Params) : Obj := (PySem.Obj.mk (.type "tuple") .none (.seq (List.toArray [(.str (Str.ofString "a") 238), (.str (Str.ofString "least") 239)]) 0) (List.toArray []))
noncomputable def o48 (P : Params) : Obj := (PySem.Obj.mk (.type "tuple") .none (.seq (List.toArray []) 0) (List.toArray []))
noncomputable def o49 (P : Params) : Obj := (PySem.Obj.mk .none .none (.func (FuncData.mk (Str.ofString "need") (Str.ofString "need") fa8.1 (.stmts fb8.1) fs8.1 0 [] .none .none .none .none .none .none .none 0)) (List.toArray []))
noncomputable def o50 (P : Params) : Obj := (PySem.Obj.mk (.type "code") .none (.fields (List.toArray [(.str (Str.ofString "need") 235), (.str (Str.ofString "need") 236), (.str (Str.ofString "/claim/cut.py") 237), (.int 24 0), (.int 2 0), (.int 0 0), (.int 0 0), (.int 3 0), (.ref 45), (.bool .true), (.int 181 0), (.ref 46), .none, (.ref 47), (.ref 48), (.ref 49), (.int 240 0), (.int 24 0), (.str (Str.ofString "/claim/cut.py") 241)])) (List.toArray []))
noncomputable def o51 (P : Params) : Obj := (PySem.Obj.mk (.type "function") .none (.func (FuncData.mk (Str.ofString "need") (Str.ofString "need") fa8.1 (.stmts fb8.1) fs8.1 3 [] (.ref 44) .none .none (.str (Str.ofString "heatnet.exact") 207) .none (.ref 50) .none 0)) (List.toArray []))
noncomputable def o52 (P : Params) : Obj := (PySem.Obj.mk (.type "tuple") .none (.seq (List.toArray []) 0) (List.toArray []))
noncomputable def o53 (P : Params) : Obj := (PySem.Obj.mk .none .none (.fields (List.toArray [])) (List.toArray []))
noncomputable def o54 (P : Params) : Obj := (PySem.Obj.mk (.type "tuple") .none (.seq (List.toArray [(.str (Str.ofString "a") 246), (.str (Str.ofString "b") 247)]) 0) (List.toArray []))
noncomputable def o55 (P : Params) : Obj := (PySem.Obj.mk (.type "tuple") .none (.seq (List.toArray []) 0) (List.toArray []))
noncomputable def o56 (P : Params) : Obj := (PySem.Obj.mk .none .none (.func (FuncData.mk (Str.ofString "plus") (Str.ofString "plus") fa9.1 (.stmts fb9.1) fs9.1 0 [] .none .none .none .none .none .none .none 0)) (List.toArray []))
noncomputable def o57 (P : Params) : Obj := (PySem.Obj.mk (.type "code") .none (.fields (List.toArray [(.str (Str.ofString "plus") 243), (.str (Str.ofString "plus") 244), (.str (Str.ofString "/claim/cut.py") 245), (.int 30 0), (.int 2 0), (.int 0 0), (.int 0 0), (.int 3 0), (.ref 52), (.bool .true), (.int 181 0), (.ref 53), .none, (.ref 54), (.ref 55), (.ref 56), (.int 248 0), (.int 30 0), (.str (Str.ofString "/claim/cut.py") 249)])) (List.toArray []))
noncomputable def o58 (P : Params) : Obj := (PySem.Obj.mk (.type "function") .none (.func (FuncData.mk (Str.ofString "plus") (Str.ofString "plus") fa9.1 (.stmts fb9.1) fs9.1 3 [] .none .none .none (.str (Str.ofString "heatnet.exact") 207) .none (.ref 57) .none 0)) (List.toArray []))
noncomputable def o59 (P : Params) : Obj := (PySem.Obj.mk (.type "tuple") .none (.seq (List.toArray []) 0) (List.toArray []))
noncomputable def o60 (P : Params) : Obj := (PySem.Obj.mk .none .none (.fields (List.toArray [])) (List.toArray []))
noncomputable def o61 (P : Params) : Obj := (PySem.Obj.mk (.type "tuple") .none (.seq (List.toArray [(.str (Str.ofString "a") 254), (.str (Str.ofString "b") 255)]) 0) (List.toArray []))
noncomputable def o62 (P : Params) : Obj := (PySem.Obj.mk (.type "tuple") .none (.seq (List.toArray []) 0) (List.toArray []))
noncomputable def o63 (P : Params) : Obj := (PySem.Obj.mk .none .none (.func (FuncData.mk (Str.ofString "minus") (Str.ofString "minus") fa10.1 (.stmts fb10.1) fs10.1 0 [] .none .none .none .none .none .none .none 0)) (List.toArray []))
noncomputable def o64 (P : Params) : Obj := (PySem.Obj.mk (.type "code") .none (.fields (List.toArray [(.str (Str.ofString "minus") 251), (.str (Str.ofString "minus") 252), (.str (Str.ofString "/claim/cut.py") 253), (.int 32 0), (.int 2 0), (.int 0 0), (.int 0 0), (.int 3 0), (.ref 59), (.bool .true), (.int 181 0), (.ref 60), .none, (.ref 61), (.ref 62), (.ref 63), (.int 256 0), (.int 32 0), (.str (Str.ofString "/claim/cut.py") 257)])) (List.toArray []))
noncomputable def o65 (P : Params) : Obj := (PySem.Obj.mk (.type "function") .none (.func (FuncData.mk (Str.ofString "minus") (Str.ofString "minus") fa10.1 (.stmts fb10.1) fs10.1 3 [] .none .none .none (.str (Str.ofString "heatnet.exact") 207) .none (.ref 64) .none 0)) (List.toArray []))
noncomputable def t0 (P : Params) : BT := (.node (boot_o_0 P) (.node (boot_o_1 P) (.node (o3 P) (.node (boot_o_7 P) (.node (o15 P) (.node (o31 P) (lf (o63 P)) .nil) (lf (o47 P))) (.node (o23 P) (lf (o39 P)) (lf (o55 P)))) (.node (o11 P) (.node (o19 P) (lf (o35 P)) (lf (o51 P))) (.node (o27 P) (lf (o43 P)) (lf (o59 P))))) (.node (boot_o_5 P) (.node (boot_o_9 P) (.node (o17 P) (.node (o33 P) (lf (o65 P)) .nil) (lf (o49 P))) (.node (o25 P) (lf (o41 P)) (lf (o57 P)))) (.node (o13 P) (.node (o21 P) (lf (o37 P)) (lf (o53 P))) (.node (o29 P) (lf (o45 P)) (lf (o61 P)))))) (.node (boot_o_2 P) (.node (boot_o_4 P) (.node (boot_o_8 P) (.node (o16 P) (.node (o32 P) (lf (o64 P)) .nil) (lf (o48 P))) (.node (o24 P) (lf (o40 P)) (lf (o56 P)))) (.node (o12v1 P) (.node (o20 P) (lf (o36 P)) (lf (o52 P))) (.node (o28 P) (lf (o44 P)) (lf (o60 P))))) (.node (boot_o_6 P) (.node (boot_o_10 P) (.node (o18 P) (lf (o34 P)) (lf (o50 P))) (.node (o26 P) (lf (o42 P)) (lf (o58 P)))) (.node (o14 P) (.node (o22 P) (lf (o38 P)) (lf (o54 P))) (.node (o30 P) (lf (o46 P)) (lf (o62 P)))))))
noncomputable def t0S (P : Params) (os : OsState) : SharedT := ⟨t0 P, 66, (.mk [] [] [] 0 [] [] .false (List.toArray []) [] 0 .false .false .false 0 [2000, 10, 10] .false 0 .true [] [] 0 .false), ⟨[]⟩, (.mk 0 0 0 0), 259, os⟩
set_option maxRecDepth 100000 in
theorem pc0 (w : World) : (fun os => segRunT treeTable pw w 11 annH 1 396 (tBS (w).params os) (piecesOf (((behindTheImports pw).drop 0).take 11) envH cE ((.mk 0 0 0 0) : Pos) [topFrame qH])) = fun os => some (.next, t0S (w).params os, cE, ((.mk 32 0 33 55) : Pos)) := by
  unfold piecesOf; rw [PySem.W.Fast.te10110043849684766642, PySem.W.Fast.te14364793385576792824, PySem.W.Fast.te12563942051412417395]; kernel_rfl!
noncomputable def o3v1 (P : Params) : Obj := (PySem.Obj.mk (.type "dict") .none (.dict (List.toArray [(.mk (PySem.PyData.keyHash P (Str.ofString "__name__")) (.str (Str.ofString "__name__") 165) (.str (Str.ofString "heatnet.tanks") 315)), (.mk (PySem.PyData.keyHash P (Str.ofString "__doc__")) (.str (Str.ofString "__doc__") 166) .none), (.mk (PySem.PyData.keyHash P (Str.ofString "__package__")) (.str (Str.ofString "__package__") 167) .none), (.mk (PySem.PyData.keyHash P (Str.ofString "__loader__")) (.str (Str.ofString "__loader__") 168) (.builtin "__main__.__loader__#opaque")), (.mk (PySem.PyData.keyHash P (Str.ofString "__spec__")) (.str (Str.ofString "__spec__") 169) .none), (.mk (PySem.PyData.keyHash P (Str.ofString "__annotations__")) (.str (Str.ofString "__annotations__") 170) (.ref 6)), (.mk (PySem.PyData.keyHash P (Str.ofString "__builtins__")) (.str (Str.ofString "__builtins__") 171) (.ref 4)), (.mk (PySem.PyData.keyHash P (Str.ofString "__file__")) (.str (Str.ofString "__file__") 173) (.str (Str.ofString "/claim/cut.py") 172)), (.mk (PySem.PyData.keyHash P (Str.ofString "__cached__")) (.str (Str.ofString "__cached__") 174) .none), (.mk (PySem.PyData.keyHash P (Str.ofString "HeatError")) (.str (Str.ofString "HeatError") 206) (.ref 24)), (.mk (PySem.PyData.keyHash P (Str.ofString "FIGURES")) (.str (Str.ofString "FIGURES") 210) (.int 2000 209)), (.mk (PySem.PyData.keyHash P (Str.ofString "MOST")) (.str (Str.ofString "MOST") 213) (.int 100000000000000000000000000000000000000000000000000000000000000000000000000000000000000000000000000000000000000000000000000000000000000000000000000000000000000000000000000000000000000000000000000000000000000000000000000000000000000000000000000000000000000000000000000000000000000000000000000000000000000000000000000000000000000000000000000000000000000000000000000000000000000000000000000000000000000000000000000000000000000000000000000000000000000000000000000000000000000000000000000000000000000000000000000000000000000000000000000000000000000000000000000000000000000000000000000000000000000000000000000000000000000000000000000000000000000000000000000000000000000000000000000000000000000000000000000000000000000000000000000000000000000000000000000000000000000000000000000000000000000000000000000000000000000000000000000000000000000000000000000000000000000000000000000000000000000000000000000000000000000000000000000000000000000000000000000000000000000000000000000000000000000000000000000000000000000000000000000000000000000000000000000000000000000000000000000000000000000000000000000000000000000000000000000000000000000000000000000000000000000000000000000000000000000000000000000000000000000000000000000000000000000000000000000000000000000000000000000000000000000000000000000000000000000000000000000000000000000000000000000000000000000000000000000000000000000000000000000000000000000000000000000000000000000000000000000000000000000000000000000000000000000000000000000000000000000000000000000000000000000000000000000000000000000000000000000000000000000000000000000000000000000000000000000000000000000000000000000000000000000000000000000000000000000000000000000000000000000000000000000000000000000000000000000000000000000000000000000000000000000000000000000000000000000000000000000000000000000000000000000000000000000000000000000000000000000000000000000000000000000000000000000000000000000000000000000000000000000000000000000000000000000000000000000000000000000000000000000000000000000000000000000000000 212)), (.mk (PySem.PyData.keyHash P (Str.ofString "NOUGHT")) (.str (Str.ofString "NOUGHT") 216) (.ref 28)), (.mk (PySem.PyData.keyHash P (Str.ofString "divisor")) (.str (Str.ofString "divisor") 224) (.ref 35)), (.mk (PySem.PyData.keyHash P (Str.ofString "frac")) (.str (Str.ofString "frac") 234) (.ref 43)), (.mk (PySem.PyData.keyHash P (Str.ofString "need")) (.str (Str.ofString "need") 242) (.ref 51)), (.mk (PySem.PyData.keyHash P (Str.ofString "plus")) (.str (Str.ofString "plus") 250) (.ref 58)), (.mk (PySem.PyData.keyHash P (Str.ofString "minus")) (.str (Str.ofString "minus") 258) (.ref 65)), (.mk (PySem.PyData.keyHash P (Str.ofString "times")) (.str (Str.ofString "times") 266) (.ref 72)), (.mk (PySem.PyData.keyHash P (Str.ofString "over")) (.str (Str.ofString "over") 274) (.ref 79)), (.mk (PySem.PyData.keyHash P (Str.ofString "less")) (.str (Str.ofString "less") 282) (.ref 86)), (.mk (PySem.PyData.keyHash P (Str.ofString "least")) (.str (Str.ofString "least") 290) (.ref 93)), (.mk (PySem.PyData.keyHash P (Str.ofString "total")) (.str (Str.ofString "total") 299) (.ref 100)), (.mk (PySem.PyData.keyHash P (Str.ofString "show")) (.str (Str.ofString "show") 306) (.ref 107)), (.mk (PySem.PyData.keyHash P (Str.ofString "mixed")) (.str (Str.ofString "mixed") 314) (.ref 112))]) 25) (List.toArray []))
noncomputable def o12v2 (P : Params) : Obj := (PySem.Obj.mk .none .none (.fields (List.toArray [(.int 2 0), (.int 0 0), (.ref 20), (.int 8 0), (.int 0 0), (.ref 34), (.int 14 0), (.int 0 0), (.ref 42), (.int 24 0), (.int 0 0), (.ref 50), (.int 30 0), (.int 0 0), (.ref 57), (.int 32 0), (.int 0 0), (.ref 64), (.int 34 0), (.int 0 0), (.ref 71), (.int 36 0), (.int 0 0), (.ref 78), (.int 40 0), (.int 0 0), (.ref 85), (.int 42 0), (.int 0 0), (.ref 92), (.int 44 0), (.int 0 0), (.ref 99), (.int 49 0), (.int 0 0), (.ref 106), (.int 52 0), (.int 0 0), (.ref 111)])) (List.toArray []))
noncomputable def o66 (P : Params) : Obj := (PySem.Obj.mk (.type "tuple") .none (.seq (List.toArray []) 0) (List.toArray []))
noncomputable def o67 (P : Params) : Obj := (PySem.Obj.mk .none .none (.fields (List.toArray [])) (List.toArray []))
noncomputable def o68 (P : Params) : Obj := (PySem.Obj.mk (.type "tuple") .none (.seq (List.toArray [(.str (Str.ofString "a") 262), (.str (Str.ofString "b") 263)]) 0) (List.toArray []))
noncomputable def o69 (P : Params) : Obj := (PySem.Obj.mk (.type "tuple") .none (.seq (List.toArray []) 0) (List.toArray []))
noncomputable def o70 (P : Params) : Obj := (PySem.Obj.mk .none .none (.func (FuncData.mk (Str.ofString "times") (Str.ofString "times") fa11.1 (.stmts fb11.1) fs11.1 0 [] .none .none .none .none .none .none .none 0)) (List.toArray []))
noncomputable def o71 (P : Params) : Obj := (PySem.Obj.mk (.type "code") .none (.fields (List.toArray [(.str (Str.ofString "times") 259), (.str (Str.ofString "times") 260), (.str (Str.ofString "/claim/cut.py") 261), (.int 34 0), (.int 2 0), (.int 0 0), (.int 0 0), (.int 3 0), (.ref 66), (.bool .true), (.int 181 0), (.ref 67), .none, (.ref 68), (.ref 69), (.ref 70), (.int 264 0), (.int 34 0), (.str (Str.ofString "/claim/cut.py") 265)])) (List.toArray []))
noncomputable def o72 (P : Params) : Obj := (PySem.Obj.mk (.type "function") .none (.func (FuncData.mk (Str.ofString "times") (Str.ofString "times") fa11.1 (.stmts fb11.1) fs11.1 3 [] .none .none .none (.str (Str.ofString "heatnet.exact") 207) .none (.ref 71) .none 0)) (List.toArray []))
noncomputable def o73 (P : Params) : Obj := (PySem.Obj.mk (.type "tuple") .none (.seq (List.toArray []) 0) (List.toArray []))
noncomputable def o74 (P : Params) : Obj := (PySem.Obj.mk .none .none (.fields (List.toArray [])) (List.toArray []))
noncomputable def o75 (P : Params) : Obj := (PySem.Obj.mk (.type "tuple") .none (.seq (List.toArray [(.str (Str.ofString "a") 270), (.str (Str.ofString "b") 271)]) 0) (List.toArray []))
noncomputable def o76 (P : Params) : Obj := (PySem.Obj.mk (.type "tuple") .none (.seq (List.toArray []) 0) (List.toArray []))
noncomputable def o77 (P : Params) : Obj := (PySem.Obj.mk .none .none (.func (FuncData.mk (Str.ofString "over") (Str.ofString "over") fa12.1 (.stmts fb12.1) fs12.1 0 [] .none .none .none .none .none .none .none 0)) (List.toArray []))
noncomputable def o78 (P : Params) : Obj := (PySem.Obj.mk (.type "code") .none (.fields (List.toArray [(.str (Str.ofString "over") 267), (.str (Str.ofString "over") 268), (.str (Str.ofString "/claim/cut.py") 269), (.int 36 0), (.int 2 0), (.int 0 0), (.int 0 0), (.int 3 0), (.ref 73), (.bool .true), (.int 181 0), (.ref 74), .none, (.ref 75), (.ref 76), (.ref 77), (.int 272 0), (.int 36 0), (.str (Str.ofString "/claim/cut.py") 273)])) (List.toArray []))
noncomputable def o79 (P : Params) : Obj := (PySem.Obj.mk (.type "function") .none (.func (FuncData.mk (Str.ofString "over") (Str.ofString "over") fa12.1 (.stmts fb12.1) fs12.1 3 [] .none .none .none (.str (Str.ofString "heatnet.exact") 207) .none (.ref 78) .none 0)) (List.toArray []))
noncomputable def o80 (P : Params) : Obj := (PySem.Obj.mk (.type "tuple") .none (.seq (List.toArray []) 0) (List.toArray []))
noncomputable def o81 (P : Params) : Obj := (PySem.Obj.mk .none .none (.fields (List.toArray [])) (List.toArray []))
noncomputable def o82 (P : Params) : Obj := (PySem.Obj.mk (.type "tuple") .none (.seq (List.toArray [(.str (Str.ofString "a") 278), (.str (Str.ofString "b") 279)]) 0) (List.toArray []))
noncomputable def o83 (P : Params) : Obj := (PySem.Obj.mk (.type "tuple") .none (.seq (List.toArray []) 0) (List.toArray []))
noncomputable def o84 (P : Params) : Obj := (PySem.Obj.mk .none .none (.func (FuncData.mk (Str.ofString "less") (Str.ofString "less") fa13.1 (.stmts fb13.1) fs13.1 0 [] .none .none .none .none .none .none .none 0)) (List.toArray []))
noncomputable def o85 (P : Params) : Obj := (PySem.Obj.mk (.type "code") .none (.fields (List.toArray [(.str (Str.ofString "less") 275), (.str (Str.ofString "less") 276), (.str (Str.ofString "/claim/cut.py") 277), (.int 40 0), (.int 2 0), (.int 0 0), (.int 0 0), (.int 3 0), (.ref 80), (.bool .true), (.int 181 0), (.ref 81), .none, (.ref 82), (.ref 83), (.ref 84), (.int 280 0), (.int 40 0), (.str (Str.ofString "/claim/cut.py") 281)])) (List.toArray []))
noncomputable def o86 (P : Params) : Obj := (PySem.Obj.mk (.type "function") .none (.func (FuncData.mk (Str.ofString "less") (Str.ofString "less") fa13.1 (.stmts fb13.1) fs13.1 3 [] .none .none .none (.str (Str.ofString "heatnet.exact") 207) .none (.ref 85) .none 0)) (List.toArray []))
noncomputable def o87 (P : Params) : Obj := (PySem.Obj.mk (.type "tuple") .none (.seq (List.toArray []) 0) (List.toArray []))
noncomputable def o88 (P : Params) : Obj := (PySem.Obj.mk .none .none (.fields (List.toArray [])) (List.toArray []))
noncomputable def o89 (P : Params) : Obj := (PySem.Obj.mk (.type "tuple") .none (.seq (List.toArray [(.str (Str.ofString "a") 286), (.str (Str.ofString "b") 287)]) 0) (List.toArray []))
noncomputable def o90 (P : Params) : Obj := (PySem.Obj.mk (.type "tuple") .none (.seq (List.toArray []) 0) (List.toArray []))
noncomputable def o91 (P : Params) : Obj := (PySem.Obj.mk .none .none (.func (FuncData.mk (Str.ofString "least") (Str.ofString "least") fa14.1 (.stmts fb14.1) fs14.1 0 [] .none .none .none .none .none .none .none 0)) (List.toArray []))
noncomputable def o92 (P : Params) : Obj := (PySem.Obj.mk (.type "code") .none (.fields (List.toArray [(.str (Str.ofString "least") 283), (.str (Str.ofString "least") 284), (.str (Str.ofString "/claim/cut.py") 285), (.int 42 0), (.int 2 0), (.int 0 0), (.int 0 0), (.int 3 0), (.ref 87), (.bool .true), (.int 181 0), (.ref 88), .none, (.ref 89), (.ref 90), (.ref 91), (.int 288 0), (.int 42 0), (.str (Str.ofString "/claim/cut.py") 289)])) (List.toArray []))
noncomputable def o93 (P : Params) : Obj := (PySem.Obj.mk (.type "function") .none (.func (FuncData.mk (Str.ofString "least") (Str.ofString "least") fa14.1 (.stmts fb14.1) fs14.1 3 [] .none .none .none (.str (Str.ofString "heatnet.exact") 207) .none (.ref 92) .none 0)) (List.toArray []))
noncomputable def o94 (P : Params) : Obj := (PySem.Obj.mk (.type "tuple") .none (.seq (List.toArray []) 0) (List.toArray []))
noncomputable def o95 (P : Params) : Obj := (PySem.Obj.mk .none .none (.fields (List.toArray [])) (List.toArray []))
noncomputable def o96 (P : Params) : Obj := (PySem.Obj.mk (.type "tuple") .none (.seq (List.toArray [(.str (Str.ofString "row") 294), (.str (Str.ofString "out") 295), (.str (Str.ofString "one") 296)]) 0) (List.toArray []))
noncomputable def o97 (P : Params) : Obj := (PySem.Obj.mk (.type "tuple") .none (.seq (List.toArray []) 0) (List.toArray []))
noncomputable def o98 (P : Params) : Obj := (PySem.Obj.mk .none .none (.func (FuncData.mk (Str.ofString "total") (Str.ofString "total") fa15.1 (.stmts fb15.1) fs15.1 0 [] .none .none .none .none .none .none .none 0)) (List.toArray []))
noncomputable def o99 (P : Params) : Obj := (PySem.Obj.mk (.type "code") .none (.fields (List.toArray [(.str (Str.ofString "total") 291), (.str (Str.ofString "total") 292), (.str (Str.ofString "/claim/cut.py") 293), (.int 44 0), (.int 1 0), (.int 0 0), (.int 0 0), (.int 3 0), (.ref 94), (.bool .true), (.int 181 0), (.ref 95), .none, (.ref 96), (.ref 97), (.ref 98), (.int 297 0), (.int 44 0), (.str (Str.ofString "/claim/cut.py") 298)])) (List.toArray []))
noncomputable def o100 (P : Params) : Obj := (PySem.Obj.mk (.type "function") .none (.func (FuncData.mk (Str.ofString "total") (Str.ofString "total") fa15.1 (.stmts fb15.1) fs15.1 3 [] .none .none .none (.str (Str.ofString "heatnet.exact") 207) .none (.ref 99) .none 0)) (List.toArray []))
noncomputable def o101 (P : Params) : Obj := (PySem.Obj.mk (.type "tuple") .none (.seq (List.toArray []) 0) (List.toArray []))
noncomputable def o102 (P : Params) : Obj := (PySem.Obj.mk .none .none (.fields (List.toArray [])) (List.toArray []))
noncomputable def o103 (P : Params) : Obj := (PySem.Obj.mk (.type "tuple") .none (.seq (List.toArray [(.str (Str.ofString "a") 303)]) 0) (List.toArray []))
noncomputable def o104 (P : Params) : Obj := (PySem.Obj.mk (.type "tuple") .none (.seq (List.toArray []) 0) (List.toArray []))
noncomputable def o105 (P : Params) : Obj := (PySem.Obj.mk .none .none (.func (FuncData.mk (Str.ofString "show") (Str.ofString "show") fa16.1 (.stmts fb16.1) fs16.1 0 [] .none .none .none .none .none .none .none 0)) (List.toArray []))
noncomputable def o106 (P : Params) : Obj := (PySem.Obj.mk (.type "code") .none (.fields (List.toArray [(.str (Str.ofString "show") 300), (.str (Str.ofString "show") 301), (.str (Str.ofString "/claim/cut.py") 302), (.int 49 0), (.int 1 0), (.int 0 0), (.int 0 0), (.int 3 0), (.ref 101), (.bool .true), (.int 181 0), (.ref 102), .none, (.ref 103), (.ref 104), (.ref 105), (.int 304 0), (.int 49 0), (.str (Str.ofString "/claim/cut.py") 305)])) (List.toArray []))
noncomputable def o107 (P : Params) : Obj := (PySem.Obj.mk (.type "function") .none (.func (FuncData.mk (Str.ofString "show") (Str.ofString "show") fa16.1 (.stmts fb16.1) fs16.1 3 [] .none .none .none (.str (Str.ofString "heatnet.exact") 207) .none (.ref 106) .none 0)) (List.toArray []))
noncomputable def o108 (P : Params) : Obj := (PySem.Obj.mk (.type "tuple") .none (.seq (List.toArray []) 0) (List.toArray []))
noncomputable def o109 (P : Params) : Obj := (PySem.Obj.mk .none .none (.fields (List.toArray [])) (List.toArray []))
noncomputable def o110 (P : Params) : Obj := (PySem.Obj.mk .none .none (.func (FuncData.mk (Str.ofString "mixed") (Str.ofString "mixed") fa18.1 (.stmts fb18.1) fs18.1 0 [] .none .none .none .none .none .none .none 0)) (List.toArray []))
noncomputable def o111 (P : Params) : Obj := (PySem.Obj.mk (.type "code") .none (.fields (List.toArray [(.str (Str.ofString "mixed") 309), (.str (Str.ofString "mixed") 310), (.str (Str.ofString "/claim/cut.py") 311), (.int 52 0), (.int 1 0), (.int 0 0), (.int 0 0), (.int 3 0), (.ref 108), (.bool .true), (.int 181 0), (.ref 109), .none, .none, .none, (.ref 110), (.int 312 0), (.int 52 0), (.str (Str.ofString "/claim/cut.py") 313)])) (List.toArray []))
noncomputable def o112 (P : Params) : Obj := (PySem.Obj.mk (.type "function") .none (.func (FuncData.mk (Str.ofString "mixed") (Str.ofString "mixed") fa18.1 (.stmts fb18.1) fs18.1 3 [] .none .none .none (.str (Str.ofString "heatnet.warmth") 307) .none (.ref 111) .none 0)) (List.toArray []))
noncomputable def t1 (P : Params) : BT := (.node (boot_o_0 P) (.node (boot_o_1 P) (.node (o3v1 P) (.node (boot_o_7 P) (.node (o15 P) (.node (o31 P) (lf (o63 P)) (lf (o95 P))) (.node (o47 P) (lf (o79 P)) (lf (o111 P)))) (.node (o23 P) (.node (o39 P) (lf (o71 P)) (lf (o103 P))) (.node (o55 P) (lf (o87 P)) .nil))) (.node (o11 P) (.node (o19 P) (.node (o35 P) (lf (o67 P)) (lf (o99 P))) (.node (o51 P) (lf (o83 P)) .nil)) (.node (o27 P) (.node (o43 P) (lf (o75 P)) (lf (o107 P))) (.node (o59 P) (lf (o91 P)) .nil)))) (.node (boot_o_5 P) (.node (boot_o_9 P) (.node (o17 P) (.node (o33 P) (lf (o65 P)) (lf (o97 P))) (.node (o49 P) (lf (o81 P)) .nil)) (.node (o25 P) (.node (o41 P) (lf (o73 P)) (lf (o105 P))) (.node (o57 P) (lf (o89 P)) .nil))) (.node (o13 P) (.node (o21 P) (.node (o37 P) (lf (o69 P)) (lf (o101 P))) (.node (o53 P) (lf (o85 P)) .nil)) (.node (o29 P) (.node (o45 P) (lf (o77 P)) (lf (o109 P))) (.node (o61 P) (lf (o93 P)) .nil))))) (.node (boot_o_2 P) (.node (boot_o_4 P) (.node (boot_o_8 P) (.node (o16 P) (.node (o32 P) (lf (o64 P)) (lf (o96 P))) (.node (o48 P) (lf (o80 P)) (lf (o112 P)))) (.node (o24 P) (.node (o40 P) (lf (o72 P)) (lf (o104 P))) (.node (o56 P) (lf (o88 P)) .nil))) (.node (o12v2 P) (.node (o20 P) (.node (o36 P) (lf (o68 P)) (lf (o100 P))) (.node (o52 P) (lf (o84 P)) .nil)) (.node (o28 P) (.node (o44 P) (lf (o76 P)) (lf (o108 P))) (.node (o60 P) (lf (o92 P)) .nil)))) (.node (boot_o_6 P) (.node (boot_o_10 P) (.node (o18 P) (.node (o34 P) (lf (o66 P)) (lf (o98 P))) (.node (o50 P) (lf (o82 P)) .nil)) (.node (o26 P) (.node (o42 P) (lf (o74 P)) (lf (o106 P))) (.node (o58 P) (lf (o90 P)) .nil))) (.node (o14 P) (.node (o22 P) (.node (o38 P) (lf (o70 P)) (lf (o102 P))) (.node (o54 P) (lf (o86 P)) .nil)) (.node (o30 P) (.node (o46 P) (lf (o78 P)) (lf (o110 P))) (.node (o62 P) (lf (o94 P)) .nil))))))
noncomputable def t1S (P : Params) (os : OsState) : SharedT := ⟨t1 P, 113, (.mk [] [] [] 0 [] [] .false (List.toArray []) [] 0 .false .false .false 0 [2000, 10, 10] .false 0 .true [] [] 0 .false), ⟨[]⟩, (.mk 0 0 0 0), 317, os⟩
set_option maxRecDepth 100000 in
theorem pc1 (w : World) : (fun os => segRunT treeTable pw w 11 annH 1 225 (t0S (w).params os) (piecesOf (((behindTheImports pw).drop 11).take 9) envH cE ((.mk 32 0 33 55) : Pos) [topFrame qH])) = fun os => some (.next, t1S (w).params os, cE, ((.mk 57 0 57 8) : Pos)) := by
  unfold piecesOf; rw [PySem.W.Fast.te10110043849684766642, PySem.W.Fast.te14364793385576792824, PySem.W.Fast.te12563942051412417395]; kernel_rfl!
noncomputable def o3v2 (P : Params) : Obj := (PySem.Obj.mk (.type "dict") .none (.dict (List.toArray [(.mk (PySem.PyData.keyHash P (Str.ofString "__name__")) (.str (Str.ofString "__name__") 165) (.str (Str.ofString "heatnet.tanks") 315)), (.mk (PySem.PyData.keyHash P (Str.ofString "__doc__")) (.str (Str.ofString "__doc__") 166) .none), (.mk (PySem.PyData.keyHash P (Str.ofString "__package__")) (.str (Str.ofString "__package__") 167) .none), (.mk (PySem.PyData.keyHash P (Str.ofString "__loader__")) (.str (Str.ofString "__loader__") 168) (.builtin "__main__.__loader__#opaque")), (.mk (PySem.PyData.keyHash P (Str.ofString "__spec__")) (.str (Str.ofString "__spec__") 169) .none), (.mk (PySem.PyData.keyHash P (Str.ofString "__annotations__")) (.str (Str.ofString "__annotations__") 170) (.ref 6)), (.mk (PySem.PyData.keyHash P (Str.ofString "__builtins__")) (.str (Str.ofString "__builtins__") 171) (.ref 4)), (.mk (PySem.PyData.keyHash P (Str.ofString "__file__")) (.str (Str.ofString "__file__") 173) (.str (Str.ofString "/claim/cut.py") 172)), (.mk (PySem.PyData.keyHash P (Str.ofString "__cached__")) (.str (Str.ofString "__cached__") 174) .none), (.mk (PySem.PyData.keyHash P (Str.ofString "HeatError")) (.str (Str.ofString "HeatError") 206) (.ref 24)), (.mk (PySem.PyData.keyHash P (Str.ofString "FIGURES")) (.str (Str.ofString "FIGURES") 210) (.int 2000 209)), (.mk (PySem.PyData.keyHash P (Str.ofString "MOST")) (.str (Str.ofString "MOST") 213) (.int 100000000000000000000000000000000000000000000000000000000000000000000000000000000000000000000000000000000000000000000000000000000000000000000000000000000000000000000000000000000000000000000000000000000000000000000000000000000000000000000000000000000000000000000000000000000000000000000000000000000000000000000000000000000000000000000000000000000000000000000000000000000000000000000000000000000000000000000000000000000000000000000000000000000000000000000000000000000000000000000000000000000000000000000000000000000000000000000000000000000000000000000000000000000000000000000000000000000000000000000000000000000000000000000000000000000000000000000000000000000000000000000000000000000000000000000000000000000000000000000000000000000000000000000000000000000000000000000000000000000000000000000000000000000000000000000000000000000000000000000000000000000000000000000000000000000000000000000000000000000000000000000000000000000000000000000000000000000000000000000000000000000000000000000000000000000000000000000000000000000000000000000000000000000000000000000000000000000000000000000000000000000000000000000000000000000000000000000000000000000000000000000000000000000000000000000000000000000000000000000000000000000000000000000000000000000000000000000000000000000000000000000000000000000000000000000000000000000000000000000000000000000000000000000000000000000000000000000000000000000000000000000000000000000000000000000000000000000000000000000000000000000000000000000000000000000000000000000000000000000000000000000000000000000000000000000000000000000000000000000000000000000000000000000000000000000000000000000000000000000000000000000000000000000000000000000000000000000000000000000000000000000000000000000000000000000000000000000000000000000000000000000000000000000000000000000000000000000000000000000000000000000000000000000000000000000000000000000000000000000000000000000000000000000000000000000000000000000000000000000000000000000000000000000000000000000000000000000000000000000000000000000000000000000 212)), (.mk (PySem.PyData.keyHash P (Str.ofString "NOUGHT")) (.str (Str.ofString "NOUGHT") 216) (.ref 28)), (.mk (PySem.PyData.keyHash P (Str.ofString "divisor")) (.str (Str.ofString "divisor") 224) (.ref 35)), (.mk (PySem.PyData.keyHash P (Str.ofString "frac")) (.str (Str.ofString "frac") 234) (.ref 43)), (.mk (PySem.PyData.keyHash P (Str.ofString "need")) (.str (Str.ofString "need") 242) (.ref 51)), (.mk (PySem.PyData.keyHash P (Str.ofString "plus")) (.str (Str.ofString "plus") 250) (.ref 58)), (.mk (PySem.PyData.keyHash P (Str.ofString "minus")) (.str (Str.ofString "minus") 258) (.ref 65)), (.mk (PySem.PyData.keyHash P (Str.ofString "times")) (.str (Str.ofString "times") 266) (.ref 72)), (.mk (PySem.PyData.keyHash P (Str.ofString "over")) (.str (Str.ofString "over") 274) (.ref 79)), (.mk (PySem.PyData.keyHash P (Str.ofString "less")) (.str (Str.ofString "less") 282) (.ref 86)), (.mk (PySem.PyData.keyHash P (Str.ofString "least")) (.str (Str.ofString "least") 290) (.ref 93)), (.mk (PySem.PyData.keyHash P (Str.ofString "total")) (.str (Str.ofString "total") 299) (.ref 100)), (.mk (PySem.PyData.keyHash P (Str.ofString "show")) (.str (Str.ofString "show") 306) (.ref 107)), (.mk (PySem.PyData.keyHash P (Str.ofString "mixed")) (.str (Str.ofString "mixed") 314) (.ref 112)), (.mk (PySem.PyData.keyHash P (Str.ofString "Tank")) (.str (Str.ofString "Tank") 404) (.ref 174))]) 26) (List.toArray []))
noncomputable def o12v3 (P : Params) : Obj := (PySem.Obj.mk .none .none (.fields (List.toArray ((.int 2 0) :: (.int 0 0) :: (.ref 20) :: (.int 8 0) :: (.int 0 0) :: (.ref 34) :: (.int 14 0) :: (.int 0 0) :: (.ref 42) :: (.int 24 0) :: (.int 0 0) :: (.ref 50) :: (.int 30 0) :: (.int 0 0) :: (.ref 57) :: (.int 32 0) :: (.int 0 0) :: (.ref 64) :: (.int 34 0) :: (.int 0 0) :: (.ref 71) :: (.int 36 0) :: (.int 0 0) :: (.ref 78) :: (.int 40 0) :: (.int 0 0) :: (.ref 85) :: (.int 42 0) :: (.int 0 0) :: (.ref 92) :: (.int 44 0) :: (.int 0 0) :: (.ref 99) :: (.int 49 0) :: (.int 0 0) :: (.ref 106) :: (.int 52 0) :: (.int 0 0) :: (.ref 111) :: (.int 58 0) :: (.int 0 0) :: (.ref 118) :: []))) (List.toArray []))
noncomputable def o113 (P : Params) : Obj := (PySem.Obj.mk (.type "tuple") .none (.seq (List.toArray []) 0) (List.toArray []))
noncomputable def o114 (P : Params) : Obj := (PySem.Obj.mk (.type "builtin_function_or_method") .none (.fields (List.toArray [(.builtin "type.__prepare__"), (.type "type")])) (List.toArray []))
noncomputable def o115 (P : Params) : Obj := (PySem.Obj.mk (.type "dict") .none (.dict (List.toArray [(.mk (PySem.PyData.keyHash P (Str.ofString "__module__")) (.str (Str.ofString "__module__") 324) (.str (Str.ofString "heatnet.tanks") 315)), (.mk (PySem.PyData.keyHash P (Str.ofString "__qualname__")) (.str (Str.ofString "__qualname__") 326) (.str (Str.ofString "Tank") 325)), (.mk (PySem.PyData.keyHash P (Str.ofString "__firstlineno__")) (.str (Str.ofString "__firstlineno__") 328) (.int 58 327)), (.mk (PySem.PyData.keyHash P (Str.ofString "__init__")) (.str (Str.ofString "__init__") 339) (.ref 126)), (.mk (PySem.PyData.keyHash P (Str.ofString "litres")) (.str (Str.ofString "litres") 345) (.ref 131)), (.mk (PySem.PyData.keyHash P (Str.ofString "heat")) (.str (Str.ofString "heat") 351) (.ref 136)), (.mk (PySem.PyData.keyHash P (Str.ofString "top")) (.str (Str.ofString "top") 358) (.ref 143)), (.mk (PySem.PyData.keyHash P (Str.ofString "bottom")) (.str (Str.ofString "bottom") 365) (.ref 150)), (.mk (PySem.PyData.keyHash P (Str.ofString "charge")) (.str (Str.ofString "charge") 376) (.ref 157)), (.mk (PySem.PyData.keyHash P (Str.ofString "draw")) (.str (Str.ofString "draw") 387) (.ref 164)), (.mk (PySem.PyData.keyHash P (Str.ofString "_need")) (.str (Str.ofString "_need") 395) (.ref 171)), (.mk (PySem.PyData.keyHash P (Str.ofString "__static_attributes__")) (.str (Str.ofString "__static_attributes__") 397) (.ref 172))]) 12) (List.toArray []))
noncomputable def o116 (P : Params) : Obj := (PySem.Obj.mk (.type "tuple") .none (.seq (List.toArray []) 0) (List.toArray []))
noncomputable def o117 (P : Params) : Obj := (PySem.Obj.mk .none .none (.fields (List.toArray [(.int 60 0), (.int 4 0), (.ref 125), (.int 72 0), (.int 4 0), (.ref 130), (.int 75 0), (.int 4 0), (.ref 135), (.int 78 0), (.int 4 0), (.ref 142), (.int 81 0), (.int 4 0), (.ref 149), (.int 84 0), (.int 4 0), (.ref 156), (.int 91 0), (.int 4 0), (.ref 163), (.int 98 0), (.int 4 0), (.ref 170)])) (List.toArray []))
noncomputable def o118 (P : Params) : Obj := (PySem.Obj.mk (.type "code") .none (.fields (List.toArray [(.str (Str.ofString "Tank") 319), (.str (Str.ofString "Tank") 320), (.str (Str.ofString "/claim/cut.py") 321), (.int 58 0), (.int 0 0), (.int 0 0), (.int 0 0), (.int 0 0), (.ref 116), (.bool .false), (.int 181 0), (.ref 117), .none, .none, .none, .none, (.int 322 0), (.int 58 0), (.str (Str.ofString "/claim/cut.py") 323)])) (List.toArray []))
noncomputable def o119 (P : Params) : Obj := (PySem.Obj.mk (.type "frame") .none .plain (List.toArray [(.some (.ref 118)), (.some (.ref 3)), (.some (.ref 115)), .none, (.some (.str (Str.ofString "heatnet.tanks") 315)), .none, (.some (.ref 0))]))
noncomputable def o120 (P : Params) : Obj := (PySem.Obj.mk (.type "tuple") .none (.seq (List.toArray []) 0) (List.toArray []))
noncomputable def o121 (P : Params) : Obj := (PySem.Obj.mk .none .none (.fields (List.toArray [])) (List.toArray []))
noncomputable def o122 (P : Params) : Obj := (PySem.Obj.mk (.type "tuple") .none (.seq (List.toArray [(.str (Str.ofString "self") 332), (.str (Str.ofString "layers") 333), (.str (Str.ofString "litres") 334), (.str (Str.ofString "warm") 335), (.str (Str.ofString "k") 336)]) 0) (List.toArray []))
noncomputable def o123 (P : Params) : Obj := (PySem.Obj.mk (.type "tuple") .none (.seq (List.toArray []) 0) (List.toArray []))
noncomputable def o124 (P : Params) : Obj := (PySem.Obj.mk .none .none (.func (FuncData.mk (Str.ofString "__init__") (Str.ofString "Tank.__init__") fa20_0.1 (.stmts fb20_0.1) fs20_0.1 0 [] .none .none .none .none .none .none .none 0)) (List.toArray []))
noncomputable def o125 (P : Params) : Obj := (PySem.Obj.mk (.type "code") .none (.fields (List.toArray [(.str (Str.ofString "__init__") 329), (.str (Str.ofString "Tank.__init__") 330), (.str (Str.ofString "/claim/cut.py") 331), (.int 60 0), (.int 2 0), (.int 0 0), (.int 0 0), (.int 3 0), (.ref 120), (.bool .true), (.int 181 0), (.ref 121), .none, (.ref 122), (.ref 123), (.ref 124), (.int 337 0), (.int 60 0), (.str (Str.ofString "/claim/cut.py") 338)])) (List.toArray []))
noncomputable def o126 (P : Params) : Obj := (PySem.Obj.mk (.type "function") .none (.func (FuncData.mk (Str.ofString "__init__") (Str.ofString "Tank.__init__") fa20_0.1 (.stmts fb20_0.1) fs20_0.1 3 [] .none .none .none (.str (Str.ofString "heatnet.tanks") 315) .none (.ref 125) .none 0)) (List.toArray []))
noncomputable def o127 (P : Params) : Obj := (PySem.Obj.mk (.type "tuple") .none (.seq (List.toArray []) 0) (List.toArray []))
noncomputable def o128 (P : Params) : Obj := (PySem.Obj.mk .none .none (.fields (List.toArray [])) (List.toArray []))
noncomputable def o129 (P : Params) : Obj := (PySem.Obj.mk .none .none (.func (FuncData.mk (Str.ofString "litres") (Str.ofString "Tank.litres") fa20_1.1 (.stmts fb20_1.1) fs20_1.1 0 [] .none .none .none .none .none .none .none 0)) (List.toArray []))
noncomputable def o130 (P : Params) : Obj := (PySem.Obj.mk (.type "code") .none (.fields (List.toArray [(.str (Str.ofString "litres") 340), (.str (Str.ofString "Tank.litres") 341), (.str (Str.ofString "/claim/cut.py") 342), (.int 72 0), (.int 1 0), (.int 0 0), (.int 0 0), (.int 3 0), (.ref 127), (.bool .true), (.int 181 0), (.ref 128), .none, .none, .none, (.ref 129), (.int 343 0), (.int 72 0), (.str (Str.ofString "/claim/cut.py") 344)])) (List.toArray []))
noncomputable def o131 (P : Params) : Obj := (PySem.Obj.mk (.type "function") .none (.func (FuncData.mk (Str.ofString "litres") (Str.ofString "Tank.litres") fa20_1.1 (.stmts fb20_1.1) fs20_1.1 3 [] .none .none .none (.str (Str.ofString "heatnet.tanks") 315) .none (.ref 130) .none 0)) (List.toArray []))
noncomputable def o132 (P : Params) : Obj := (PySem.Obj.mk (.type "tuple") .none (.seq (List.toArray []) 0) (List.toArray []))
noncomputable def o133 (P : Params) : Obj := (PySem.Obj.mk .none .none (.fields (List.toArray [])) (List.toArray []))
noncomputable def o134 (P : Params) : Obj := (PySem.Obj.mk .none .none (.func (FuncData.mk (Str.ofString "heat") (Str.ofString "Tank.heat") fa20_2.1 (.stmts fb20_2.1) fs20_2.1 0 [] .none .none .none .none .none .none .none 0)) (List.toArray []))
noncomputable def o135 (P : Params) : Obj := (PySem.Obj.mk (.type "code") .none (.fields (List.toArray [(.str (Str.ofString "heat") 346), (.str (Str.ofString "Tank.heat") 347), (.str (Str.ofString "/claim/cut.py") 348), (.int 75 0), (.int 2 0), (.int 0 0), (.int 0 0), (.int 3 0), (.ref 132), (.bool .true), (.int 181 0), (.ref 133), .none, .none, .none, (.ref 134), (.int 349 0), (.int 75 0), (.str (Str.ofString "/claim/cut.py") 350)])) (List.toArray []))
noncomputable def o136 (P : Params) : Obj := (PySem.Obj.mk (.type "function") .none (.func (FuncData.mk (Str.ofString "heat") (Str.ofString "Tank.heat") fa20_2.1 (.stmts fb20_2.1) fs20_2.1 3 [] .none .none .none (.str (Str.ofString "heatnet.tanks") 315) .none (.ref 135) .none 0)) (List.toArray []))
noncomputable def o137 (P : Params) : Obj := (PySem.Obj.mk (.type "tuple") .none (.seq (List.toArray []) 0) (List.toArray []))
noncomputable def o138 (P : Params) : Obj := (PySem.Obj.mk .none .none (.fields (List.toArray [])) (List.toArray []))
noncomputable def o139 (P : Params) : Obj := (PySem.Obj.mk (.type "tuple") .none (.seq (List.toArray [(.str (Str.ofString "self") 355)]) 0) (List.toArray []))
noncomputable def o140 (P : Params) : Obj := (PySem.Obj.mk (.type "tuple") .none (.seq (List.toArray []) 0) (List.toArray []))
noncomputable def o141 (P : Params) : Obj := (PySem.Obj.mk .none .none (.func (FuncData.mk (Str.ofString "top") (Str.ofString "Tank.top") fa20_3.1 (.stmts fb20_3.1) fs20_3.1 0 [] .none .none .none .none .none .none .none 0)) (List.toArray []))
noncomputable def o142 (P : Params) : Obj := (PySem.Obj.mk (.type "code") .none (.fields (List.toArray [(.str (Str.ofString "top") 352), (.str (Str.ofString "Tank.top") 353), (.str (Str.ofString "/claim/cut.py") 354), (.int 78 0), (.int 1 0), (.int 0 0), (.int 0 0), (.int 3 0), (.ref 137), (.bool .true), (.int 181 0), (.ref 138), .none, (.ref 139), (.ref 140), (.ref 141), (.int 356 0), (.int 78 0), (.str (Str.ofString "/claim/cut.py") 357)])) (List.toArray []))
noncomputable def o143 (P : Params) : Obj := (PySem.Obj.mk (.type "function") .none (.func (FuncData.mk (Str.ofString "top") (Str.ofString "Tank.top") fa20_3.1 (.stmts fb20_3.1) fs20_3.1 3 [] .none .none .none (.str (Str.ofString "heatnet.tanks") 315) .none (.ref 142) .none 0)) (List.toArray []))
noncomputable def o144 (P : Params) : Obj := (PySem.Obj.mk (.type "tuple") .none (.seq (List.toArray []) 0) (List.toArray []))
noncomputable def o145 (P : Params) : Obj := (PySem.Obj.mk .none .none (.fields (List.toArray [])) (List.toArray []))
noncomputable def o146 (P : Params) : Obj := (PySem.Obj.mk (.type "tuple") .none (.seq (List.toArray [(.str (Str.ofString "self") 362)]) 0) (List.toArray []))
noncomputable def o147 (P : Params) : Obj := (PySem.Obj.mk (.type "tuple") .none (.seq (List.toArray []) 0) (List.toArray []))
noncomputable def o148 (P : Params) : Obj := (PySem.Obj.mk .none .none (.func (FuncData.mk (Str.ofString "bottom") (Str.ofString "Tank.bottom") fa20_4.1 (.stmts fb20_4.1) fs20_4.1 0 [] .none .none .none .none .none .none .none 0)) (List.toArray []))
noncomputable def o149 (P : Params) : Obj := (PySem.Obj.mk (.type "code") .none (.fields (List.toArray [(.str (Str.ofString "bottom") 359), (.str (Str.ofString "Tank.bottom") 360), (.str (Str.ofString "/claim/cut.py") 361), (.int 81 0), (.int 1 0), (.int 0 0), (.int 0 0), (.int 3 0), (.ref 144), (.bool .true), (.int 181 0), (.ref 145), .none, (.ref 146), (.ref 147), (.ref 148), (.int 363 0), (.int 81 0), (.str (Str.ofString "/claim/cut.py") 364)])) (List.toArray []))
noncomputable def o150 (P : Params) : Obj := (PySem.Obj.mk (.type "function") .none (.func (FuncData.mk (Str.ofString "bottom") (Str.ofString "Tank.bottom") fa20_4.1 (.stmts fb20_4.1) fs20_4.1 3 [] .none .none .none (.str (Str.ofString "heatnet.tanks") 315) .none (.ref 149) .none 0)) (List.toArray []))
noncomputable def o151 (P : Params) : Obj := (PySem.Obj.mk (.type "tuple") .none (.seq (List.toArray []) 0) (List.toArray []))
noncomputable def o152 (P : Params) : Obj := (PySem.Obj.mk .none .none (.fields (List.toArray [])) (List.toArray []))
noncomputable def o153 (P : Params) : Obj := (PySem.Obj.mk (.type "tuple") .none (.seq (List.toArray [(.str (Str.ofString "self") 369), (.str (Str.ofString "litres") 370), (.str (Str.ofString "warm") 371), (.str (Str.ofString "out") 372), (.str (Str.ofString "kept") 373)]) 0) (List.toArray []))
noncomputable def o154 (P : Params) : Obj := (PySem.Obj.mk (.type "tuple") .none (.seq (List.toArray []) 0) (List.toArray []))
noncomputable def o155 (P : Params) : Obj := (PySem.Obj.mk .none .none (.func (FuncData.mk (Str.ofString "charge") (Str.ofString "Tank.charge") fa20_5.1 (.stmts fb20_5.1) fs20_5.1 0 [] .none .none .none .none .none .none .none 0)) (List.toArray []))
noncomputable def o156 (P : Params) : Obj := (PySem.Obj.mk (.type "code") .none (.fields (List.toArray [(.str (Str.ofString "charge") 366), (.str (Str.ofString "Tank.charge") 367), (.str (Str.ofString "/claim/cut.py") 368), (.int 84 0), (.int 3 0), (.int 0 0), (.int 0 0), (.int 3 0), (.ref 151), (.bool .true), (.int 181 0), (.ref 152), .none, (.ref 153), (.ref 154), (.ref 155), (.int 374 0), (.int 84 0), (.str (Str.ofString "/claim/cut.py") 375)])) (List.toArray []))
noncomputable def o157 (P : Params) : Obj := (PySem.Obj.mk (.type "function") .none (.func (FuncData.mk (Str.ofString "charge") (Str.ofString "Tank.charge") fa20_5.1 (.stmts fb20_5.1) fs20_5.1 3 [] .none .none .none (.str (Str.ofString "heatnet.tanks") 315) .none (.ref 156) .none 0)) (List.toArray []))
noncomputable def o158 (P : Params) : Obj := (PySem.Obj.mk (.type "tuple") .none (.seq (List.toArray []) 0) (List.toArray []))
noncomputable def o159 (P : Params) : Obj := (PySem.Obj.mk .none .none (.fields (List.toArray [])) (List.toArray []))
noncomputable def o160 (P : Params) : Obj := (PySem.Obj.mk (.type "tuple") .none (.seq (List.toArray [(.str (Str.ofString "self") 380), (.str (Str.ofString "litres") 381), (.str (Str.ofString "warm") 382), (.str (Str.ofString "out") 383), (.str (Str.ofString "kept") 384)]) 0) (List.toArray []))
noncomputable def o161 (P : Params) : Obj := (PySem.Obj.mk (.type "tuple") .none (.seq (List.toArray []) 0) (List.toArray []))
noncomputable def o162 (P : Params) : Obj := (PySem.Obj.mk .none .none (.func (FuncData.mk (Str.ofString "draw") (Str.ofString "Tank.draw") fa20_6.1 (.stmts fb20_6.1) fs20_6.1 0 [] .none .none .none .none .none .none .none 0)) (List.toArray []))
noncomputable def o163 (P : Params) : Obj := (PySem.Obj.mk (.type "code") .none (.fields (List.toArray [(.str (Str.ofString "draw") 377), (.str (Str.ofString "Tank.draw") 378), (.str (Str.ofString "/claim/cut.py") 379), (.int 91 0), (.int 3 0), (.int 0 0), (.int 0 0), (.int 3 0), (.ref 158), (.bool .true), (.int 181 0), (.ref 159), .none, (.ref 160), (.ref 161), (.ref 162), (.int 385 0), (.int 91 0), (.str (Str.ofString "/claim/cut.py") 386)])) (List.toArray []))
noncomputable def o164 (P : Params) : Obj := (PySem.Obj.mk (.type "function") .none (.func (FuncData.mk (Str.ofString "draw") (Str.ofString "Tank.draw") fa20_6.1 (.stmts fb20_6.1) fs20_6.1 3 [] .none .none .none (.str (Str.ofString "heatnet.tanks") 315) .none (.ref 163) .none 0)) (List.toArray []))
noncomputable def o165 (P : Params) : Obj := (PySem.Obj.mk (.type "tuple") .none (.seq (List.toArray []) 0) (List.toArray []))
noncomputable def o166 (P : Params) : Obj := (PySem.Obj.mk .none .none (.fields (List.toArray [])) (List.toArray []))
noncomputable def o167 (P : Params) : Obj := (PySem.Obj.mk (.type "tuple") .none (.seq (List.toArray [(.str (Str.ofString "self") 391), (.str (Str.ofString "litres") 392)]) 0) (List.toArray []))
noncomputable def o168 (P : Params) : Obj := (PySem.Obj.mk (.type "tuple") .none (.seq (List.toArray []) 0) (List.toArray []))
noncomputable def o169 (P : Params) : Obj := (PySem.Obj.mk .none .none (.func (FuncData.mk (Str.ofString "_need") (Str.ofString "Tank._need") fa20_7.1 (.stmts fb20_7.1) fs20_7.1 0 [] .none .none .none .none .none .none .none 0)) (List.toArray []))
noncomputable def o170 (P : Params) : Obj := (PySem.Obj.mk (.type "code") .none (.fields (List.toArray [(.str (Str.ofString "_need") 388), (.str (Str.ofString "Tank._need") 389), (.str (Str.ofString "/claim/cut.py") 390), (.int 98 0), (.int 2 0), (.int 0 0), (.int 0 0), (.int 3 0), (.ref 165), (.bool .true), (.int 181 0), (.ref 166), .none, (.ref 167), (.ref 168), (.ref 169), (.int 393 0), (.int 98 0), (.str (Str.ofString "/claim/cut.py") 394)])) (List.toArray []))
noncomputable def o171 (P : Params) : Obj := (PySem.Obj.mk (.type "function") .none (.func (FuncData.mk (Str.ofString "_need") (Str.ofString "Tank._need") fa20_7.1 (.stmts fb20_7.1) fs20_7.1 3 [] .none .none .none (.str (Str.ofString "heatnet.tanks") 315) .none (.ref 170) .none 0)) (List.toArray []))
noncomputable def o172 (P : Params) : Obj := (PySem.Obj.mk (.type "tuple") .none (.seq (List.toArray [(.str (Str.ofString "layers") 396)]) 0) (List.toArray []))
noncomputable def o173 (P : Params) : Obj := (PySem.Obj.mk (.type "dict") .none (.dict (List.toArray [(.mk (PySem.PyData.keyHash P (Str.ofString "__module__")) (.str (Str.ofString "__module__") 324) (.str (Str.ofString "heatnet.tanks") 315)), (.mk (PySem.PyData.keyHash P (Str.ofString "__firstlineno__")) (.str (Str.ofString "__firstlineno__") 328) (.int 58 327)), (.mk (PySem.PyData.keyHash P (Str.ofString "__init__")) (.str (Str.ofString "__init__") 339) (.ref 126)), (.mk (PySem.PyData.keyHash P (Str.ofString "litres")) (.str (Str.ofString "litres") 345) (.ref 131)), (.mk (PySem.PyData.keyHash P (Str.ofString "heat")) (.str (Str.ofString "heat") 351) (.ref 136)), (.mk (PySem.PyData.keyHash P (Str.ofString "top")) (.str (Str.ofString "top") 358) (.ref 143)), (.mk (PySem.PyData.keyHash P (Str.ofString "bottom")) (.str (Str.ofString "bottom") 365) (.ref 150)), (.mk (PySem.PyData.keyHash P (Str.ofString "charge")) (.str (Str.ofString "charge") 376) (.ref 157)), (.mk (PySem.PyData.keyHash P (Str.ofString "draw")) (.str (Str.ofString "draw") 387) (.ref 164)), (.mk (PySem.PyData.keyHash P (Str.ofString "_need")) (.str (Str.ofString "_need") 395) (.ref 171)), (.mk (PySem.PyData.keyHash P (Str.ofString "__static_attributes__")) (.str (Str.ofString "__static_attributes__") 397) (.ref 172)), (.mk (PySem.PyData.keyHash P (Str.ofString "__dict__")) (.str (Str.ofString "__dict__") 399) (.ref 175)), (.mk (PySem.PyData.keyHash P (Str.ofString "__weakref__")) (.str (Str.ofString "__weakref__") 401) (.ref 176)), (.mk (PySem.PyData.keyHash P (Str.ofString "__doc__")) (.str (Str.ofString "__doc__") 402) .none)]) 4) (List.toArray []))
noncomputable def o174 (P : Params) : Obj := (PySem.Obj.mk (.type "type") .none (.cls (.mk (Str.ofString "Tank") [(.type "object")] [(.ref 174), (.type "object")] 173 (Str.ofString "Tank") .true [] [] .false .none .false)) (List.toArray [.none, .none, (.some (.str (Str.ofString "Tank") 317)), (.some (.str (Str.ofString "Tank") 325)), (.some (.builtin "object.__new__")), (.some (.bool .true))]))
noncomputable def o175 (P : Params) : Obj := (PySem.Obj.mk (.type "getset_descriptor") .none (.fields (List.toArray [(.str (Str.ofString "__dict__") 398), (.ref 174), (.builtin "function.__dict__"), (.builtin "function.__dict__#set")])) (List.toArray []))
noncomputable def o176 (P : Params) : Obj := (PySem.Obj.mk (.type "getset_descriptor") .none (.fields (List.toArray [(.str (Str.ofString "__weakref__") 400), (.ref 174), (.builtin "ExceptionGroup.__weakref__"), .none])) (List.toArray []))
noncomputable def o177 (P : Params) : Obj := (PySem.Obj.mk (.type "super") .none (.fields (List.toArray [(.ref 174), (.ref 174), (.ref 174)])) (List.toArray []))
noncomputable def o178 (P : Params) : Obj := (PySem.Obj.mk (.type "builtin_function_or_method") .none (.fields (List.toArray [(.builtin "object.__init_subclass__"), (.ref 174)])) (List.toArray []))
noncomputable def t2 (P : Params) : BT := (.node (boot_o_0 P) (.node (boot_o_1 P) (.node (o3v2 P) (.node (boot_o_7 P) (.node (o15 P) (.node (o31 P) (.node (o63 P) (lf (o127 P)) .nil) (.node (o95 P) (lf (o159 P)) .nil)) (.node (o47 P) (.node (o79 P) (lf (o143 P)) .nil) (.node (o111 P) (lf (o175 P)) .nil))) (.node (o23 P) (.node (o39 P) (.node (o71 P) (lf (o135 P)) .nil) (.node (o103 P) (lf (o167 P)) .nil)) (.node (o55 P) (.node (o87 P) (lf (o151 P)) .nil) (lf (o119 P))))) (.node (o11 P) (.node (o19 P) (.node (o35 P) (.node (o67 P) (lf (o131 P)) .nil) (.node (o99 P) (lf (o163 P)) .nil)) (.node (o51 P) (.node (o83 P) (lf (o147 P)) .nil) (lf (o115 P)))) (.node (o27 P) (.node (o43 P) (.node (o75 P) (lf (o139 P)) .nil) (.node (o107 P) (lf (o171 P)) .nil)) (.node (o59 P) (.node (o91 P) (lf (o155 P)) .nil) (lf (o123 P)))))) (.node (boot_o_5 P) (.node (boot_o_9 P) (.node (o17 P) (.node (o33 P) (.node (o65 P) (lf (o129 P)) .nil) (.node (o97 P) (lf (o161 P)) .nil)) (.node (o49 P) (.node (o81 P) (lf (o145 P)) .nil) (.node (o113 P) (lf (o177 P)) .nil))) (.node (o25 P) (.node (o41 P) (.node (o73 P) (lf (o137 P)) .nil) (.node (o105 P) (lf (o169 P)) .nil)) (.node (o57 P) (.node (o89 P) (lf (o153 P)) .nil) (lf (o121 P))))) (.node (o13 P) (.node (o21 P) (.node (o37 P) (.node (o69 P) (lf (o133 P)) .nil) (.node (o101 P) (lf (o165 P)) .nil)) (.node (o53 P) (.node (o85 P) (lf (o149 P)) .nil) (lf (o117 P)))) (.node (o29 P) (.node (o45 P) (.node (o77 P) (lf (o141 P)) .nil) (.node (o109 P) (lf (o173 P)) .nil)) (.node (o61 P) (.node (o93 P) (lf (o157 P)) .nil) (lf (o125 P))))))) (.node (boot_o_2 P) (.node (boot_o_4 P) (.node (boot_o_8 P) (.node (o16 P) (.node (o32 P) (.node (o64 P) (lf (o128 P)) .nil) (.node (o96 P) (lf (o160 P)) .nil)) (.node (o48 P) (.node (o80 P) (lf (o144 P)) .nil) (.node (o112 P) (lf (o176 P)) .nil))) (.node (o24 P) (.node (o40 P) (.node (o72 P) (lf (o136 P)) .nil) (.node (o104 P) (lf (o168 P)) .nil)) (.node (o56 P) (.node (o88 P) (lf (o152 P)) .nil) (lf (o120 P))))) (.node (o12v3 P) (.node (o20 P) (.node (o36 P) (.node (o68 P) (lf (o132 P)) .nil) (.node (o100 P) (lf (o164 P)) .nil)) (.node (o52 P) (.node (o84 P) (lf (o148 P)) .nil) (lf (o116 P)))) (.node (o28 P) (.node (o44 P) (.node (o76 P) (lf (o140 P)) .nil) (.node (o108 P) (lf (o172 P)) .nil)) (.node (o60 P) (.node (o92 P) (lf (o156 P)) .nil) (lf (o124 P)))))) (.node (boot_o_6 P) (.node (boot_o_10 P) (.node (o18 P) (.node (o34 P) (.node (o66 P) (lf (o130 P)) .nil) (.node (o98 P) (lf (o162 P)) .nil)) (.node (o50 P) (.node (o82 P) (lf (o146 P)) .nil) (.node (o114 P) (lf (o178 P)) .nil))) (.node (o26 P) (.node (o42 P) (.node (o74 P) (lf (o138 P)) .nil) (.node (o106 P) (lf (o170 P)) .nil)) (.node (o58 P) (.node (o90 P) (lf (o154 P)) .nil) (lf (o122 P))))) (.node (o14 P) (.node (o22 P) (.node (o38 P) (.node (o70 P) (lf (o134 P)) .nil) (.node (o102 P) (lf (o166 P)) .nil)) (.node (o54 P) (.node (o86 P) (lf (o150 P)) .nil) (lf (o118 P)))) (.node (o30 P) (.node (o46 P) (.node (o78 P) (lf (o142 P)) .nil) (.node (o110 P) (lf (o174 P)) .nil)) (.node (o62 P) (.node (o94 P) (lf (o158 P)) .nil) (lf (o126 P))))))))
noncomputable def t2S (P : Params) (os : OsState) : SharedT := ⟨t2 P, 179, (.mk [] [] [] 0 [] [] .false (List.toArray []) [] 0 .false .false .false 0 [2000, 10, 10] .false 0 .true [] [] 0 .false), ⟨[]⟩, (.mk 0 0 0 0), 405, os⟩
set_option maxRecDepth 100000 in
theorem pc2 (w : World) : (fun os => segRunT treeTable pw w 11 annH 1 446 (t1S (w).params os) (piecesOf (((behindTheImports pw).drop 20).take 1) envH cE ((.mk 57 0 57 8) : Pos) [topFrame qH])) = fun os => some (.next, t2S (w).params os, cE, ((.mk 58 0 101 55) : Pos)) := by
  unfold piecesOf; rw [PySem.W.Fast.te10110043849684766642, PySem.W.Fast.te14364793385576792824, PySem.W.Fast.te12563942051412417395]; kernel_rfl!
noncomputable def o3v3 (P : Params) : Obj := (PySem.Obj.mk (.type "dict") .none (.dict (List.toArray [(.mk (PySem.PyData.keyHash P (Str.ofString "__name__")) (.str (Str.ofString "__name__") 165) (.str (Str.ofString "law_ui0509_10") 472)), (.mk (PySem.PyData.keyHash P (Str.ofString "__doc__")) (.str (Str.ofString "__doc__") 166) .none), (.mk (PySem.PyData.keyHash P (Str.ofString "__package__")) (.str (Str.ofString "__package__") 167) .none), (.mk (PySem.PyData.keyHash P (Str.ofString "__loader__")) (.str (Str.ofString "__loader__") 168) (.builtin "__main__.__loader__#opaque")), (.mk (PySem.PyData.keyHash P (Str.ofString "__spec__")) (.str (Str.ofString "__spec__") 169) .none), (.mk (PySem.PyData.keyHash P (Str.ofString "__annotations__")) (.str (Str.ofString "__annotations__") 170) (.ref 6)), (.mk (PySem.PyData.keyHash P (Str.ofString "__builtins__")) (.str (Str.ofString "__builtins__") 171) (.ref 4)), (.mk (PySem.PyData.keyHash P (Str.ofString "__file__")) (.str (Str.ofString "__file__") 173) (.str (Str.ofString "/claim/cut.py") 172)), (.mk (PySem.PyData.keyHash P (Str.ofString "__cached__")) (.str (Str.ofString "__cached__") 174) .none), (.mk (PySem.PyData.keyHash P (Str.ofString "HeatError")) (.str (Str.ofString "HeatError") 206) (.ref 24)), (.mk (PySem.PyData.keyHash P (Str.ofString "FIGURES")) (.str (Str.ofString "FIGURES") 210) (.int 2000 209)), (.mk (PySem.PyData.keyHash P (Str.ofString "MOST")) (.str (Str.ofString "MOST") 213) (.int 100000000000000000000000000000000000000000000000000000000000000000000000000000000000000000000000000000000000000000000000000000000000000000000000000000000000000000000000000000000000000000000000000000000000000000000000000000000000000000000000000000000000000000000000000000000000000000000000000000000000000000000000000000000000000000000000000000000000000000000000000000000000000000000000000000000000000000000000000000000000000000000000000000000000000000000000000000000000000000000000000000000000000000000000000000000000000000000000000000000000000000000000000000000000000000000000000000000000000000000000000000000000000000000000000000000000000000000000000000000000000000000000000000000000000000000000000000000000000000000000000000000000000000000000000000000000000000000000000000000000000000000000000000000000000000000000000000000000000000000000000000000000000000000000000000000000000000000000000000000000000000000000000000000000000000000000000000000000000000000000000000000000000000000000000000000000000000000000000000000000000000000000000000000000000000000000000000000000000000000000000000000000000000000000000000000000000000000000000000000000000000000000000000000000000000000000000000000000000000000000000000000000000000000000000000000000000000000000000000000000000000000000000000000000000000000000000000000000000000000000000000000000000000000000000000000000000000000000000000000000000000000000000000000000000000000000000000000000000000000000000000000000000000000000000000000000000000000000000000000000000000000000000000000000000000000000000000000000000000000000000000000000000000000000000000000000000000000000000000000000000000000000000000000000000000000000000000000000000000000000000000000000000000000000000000000000000000000000000000000000000000000000000000000000000000000000000000000000000000000000000000000000000000000000000000000000000000000000000000000000000000000000000000000000000000000000000000000000000000000000000000000000000000000000000000000000000000000000000000000000000000000000000000000 212)), (.mk (PySem.PyData.keyHash P (Str.ofString "NOUGHT")) (.str (Str.ofString "NOUGHT") 216) (.ref 28)), (.mk (PySem.PyData.keyHash P (Str.ofString "divisor")) (.str (Str.ofString "divisor") 224) (.ref 35)), (.mk (PySem.PyData.keyHash P (Str.ofString "frac")) (.str (Str.ofString "frac") 234) (.ref 43)), (.mk (PySem.PyData.keyHash P (Str.ofString "need")) (.str (Str.ofString "need") 242) (.ref 51)), (.mk (PySem.PyData.keyHash P (Str.ofString "plus")) (.str (Str.ofString "plus") 250) (.ref 58)), (.mk (PySem.PyData.keyHash P (Str.ofString "minus")) (.str (Str.ofString "minus") 258) (.ref 65)), (.mk (PySem.PyData.keyHash P (Str.ofString "times")) (.str (Str.ofString "times") 266) (.ref 72)), (.mk (PySem.PyData.keyHash P (Str.ofString "over")) (.str (Str.ofString "over") 274) (.ref 79)), (.mk (PySem.PyData.keyHash P (Str.ofString "less")) (.str (Str.ofString "less") 282) (.ref 86)), (.mk (PySem.PyData.keyHash P (Str.ofString "least")) (.str (Str.ofString "least") 290) (.ref 93)), (.mk (PySem.PyData.keyHash P (Str.ofString "total")) (.str (Str.ofString "total") 299) (.ref 100)), (.mk (PySem.PyData.keyHash P (Str.ofString "show")) (.str (Str.ofString "show") 306) (.ref 107)), (.mk (PySem.PyData.keyHash P (Str.ofString "mixed")) (.str (Str.ofString "mixed") 314) (.ref 112)), (.mk (PySem.PyData.keyHash P (Str.ofString "Tank")) (.str (Str.ofString "Tank") 404) (.ref 174)), (.mk (PySem.PyData.keyHash P (Str.ofString "cut")) (.str (Str.ofString "cut") 418) (.ref 185)), (.mk (PySem.PyData.keyHash P (Str.ofString "joined")) (.str (Str.ofString "joined") 428) (.ref 192)), (.mk (PySem.PyData.keyHash P (Str.ofString "settle")) (.str (Str.ofString "settle") 439) (.ref 199)), (.mk (PySem.PyData.keyHash P (Str.ofString "draw_for")) (.str (Str.ofString "draw_for") 456) (.ref 206)), (.mk (PySem.PyData.keyHash P (Str.ofString "charge_with")) (.str (Str.ofString "charge_with") 471) (.ref 213)), (.mk (PySem.PyData.keyHash P (Str.ofString "_law_cell")) (.str (Str.ofString "_law_cell") 481) (.ref 220)), (.mk (PySem.PyData.keyHash P (Str.ofString "law")) (.str (Str.ofString "law") 487) (.ref 225))]) 33) (List.toArray []))
noncomputable def o12v4 (P : Params) : Obj := (PySem.Obj.mk .none .none (.fields (List.toArray ((.int 2 0) :: (.int 0 0) :: (.ref 20) :: (.int 8 0) :: (.int 0 0) :: (.ref 34) :: (.int 14 0) :: (.int 0 0) :: (.ref 42) :: (.int 24 0) :: (.int 0 0) :: (.ref 50) :: (.int 30 0) :: (.int 0 0) :: (.ref 57) :: (.int 32 0) :: (.int 0 0) :: (.ref 64) :: (.int 34 0) :: (.int 0 0) :: (.ref 71) :: (.int 36 0) :: (.int 0 0) :: (.ref 78) :: (.int 40 0) :: (.int 0 0) :: (.ref 85) :: (.int 42 0) :: (.int 0 0) :: (.ref 92) :: (.int 44 0) :: (.int 0 0) :: (.ref 99) :: (.int 49 0) :: (.int 0 0) :: (.ref 106) :: (.int 52 0) :: (.int 0 0) :: (.ref 111) :: (.int 58 0) :: (.int 0 0) :: (.ref 118) :: (.int 102 0) :: (.int 0 0) :: (.ref 184) :: (.int 114 0) :: (.int 0 0) :: (.ref 191) :: (.int 122 0) :: (.int 0 0) :: (.ref 198) :: (.int 132 0) :: (.int 0 0) :: (.ref 205) :: (.int 145 0) :: (.int 0 0) :: (.ref 212) :: (.int 159 0) :: (.int 0 0) :: (.ref 219) :: (.int 163 0) :: (.int 0 0) :: (.ref 224) :: []))) (List.toArray []))
noncomputable def o179 (P : Params) : Obj := (PySem.Obj.mk (.type "tuple") .none (.seq (List.toArray []) 0) (List.toArray []))
noncomputable def o180 (P : Params) : Obj := (PySem.Obj.mk .none .none (.fields (List.toArray [])) (List.toArray []))
noncomputable def o181 (P : Params) : Obj := (PySem.Obj.mk (.type "tuple") .none (.seq (List.toArray [(.str (Str.ofString "layers") 408), (.str (Str.ofString "litres") 409), (.str (Str.ofString "out") 410), (.str (Str.ofString "rest") 411), (.str (Str.ofString "left") 412), (.str (Str.ofString "size") 413), (.str (Str.ofString "warm") 414), (.str (Str.ofString "part") 415)]) 0) (List.toArray []))
noncomputable def o182 (P : Params) : Obj := (PySem.Obj.mk (.type "tuple") .none (.seq (List.toArray []) 0) (List.toArray []))
noncomputable def o183 (P : Params) : Obj := (PySem.Obj.mk .none .none (.func (FuncData.mk (Str.ofString "cut") (Str.ofString "cut") fa21.1 (.stmts fb21.1) fs21.1 0 [] .none .none .none .none .none .none .none 0)) (List.toArray []))
noncomputable def o184 (P : Params) : Obj := (PySem.Obj.mk (.type "code") .none (.fields (List.toArray [(.str (Str.ofString "cut") 405), (.str (Str.ofString "cut") 406), (.str (Str.ofString "/claim/cut.py") 407), (.int 102 0), (.int 2 0), (.int 0 0), (.int 0 0), (.int 3 0), (.ref 179), (.bool .true), (.int 181 0), (.ref 180), .none, (.ref 181), (.ref 182), (.ref 183), (.int 416 0), (.int 102 0), (.str (Str.ofString "/claim/cut.py") 417)])) (List.toArray []))
noncomputable def o185 (P : Params) : Obj := (PySem.Obj.mk (.type "function") .none (.func (FuncData.mk (Str.ofString "cut") (Str.ofString "cut") fa21.1 (.stmts fb21.1) fs21.1 3 [] .none .none .none (.str (Str.ofString "heatnet.tanks") 315) .none (.ref 184) .none 0)) (List.toArray []))
noncomputable def o186 (P : Params) : Obj := (PySem.Obj.mk (.type "tuple") .none (.seq (List.toArray []) 0) (List.toArray []))
noncomputable def o187 (P : Params) : Obj := (PySem.Obj.mk .none .none (.fields (List.toArray [])) (List.toArray []))
noncomputable def o188 (P : Params) : Obj := (PySem.Obj.mk (.type "tuple") .none (.seq (List.toArray [(.str (Str.ofString "layers") 422), (.str (Str.ofString "out") 423), (.str (Str.ofString "litres") 424), (.str (Str.ofString "warm") 425)]) 0) (List.toArray []))
noncomputable def o189 (P : Params) : Obj := (PySem.Obj.mk (.type "tuple") .none (.seq (List.toArray []) 0) (List.toArray []))
noncomputable def o190 (P : Params) : Obj := (PySem.Obj.mk .none .none (.func (FuncData.mk (Str.ofString "joined") (Str.ofString "joined") fa22.1 (.stmts fb22.1) fs22.1 0 [] .none .none .none .none .none .none .none 0)) (List.toArray []))
noncomputable def o191 (P : Params) : Obj := (PySem.Obj.mk (.type "code") .none (.fields (List.toArray [(.str (Str.ofString "joined") 419), (.str (Str.ofString "joined") 420), (.str (Str.ofString "/claim/cut.py") 421), (.int 114 0), (.int 1 0), (.int 0 0), (.int 0 0), (.int 3 0), (.ref 186), (.bool .true), (.int 181 0), (.ref 187), .none, (.ref 188), (.ref 189), (.ref 190), (.int 426 0), (.int 114 0), (.str (Str.ofString "/claim/cut.py") 427)])) (List.toArray []))
noncomputable def o192 (P : Params) : Obj := (PySem.Obj.mk (.type "function") .none (.func (FuncData.mk (Str.ofString "joined") (Str.ofString "joined") fa22.1 (.stmts fb22.1) fs22.1 3 [] .none .none .none (.str (Str.ofString "heatnet.tanks") 315) .none (.ref 191) .none 0)) (List.toArray []))
noncomputable def o193 (P : Params) : Obj := (PySem.Obj.mk (.type "tuple") .none (.seq (List.toArray []) 0) (List.toArray []))
noncomputable def o194 (P : Params) : Obj := (PySem.Obj.mk .none .none (.fields (List.toArray [])) (List.toArray []))
noncomputable def o195 (P : Params) : Obj := (PySem.Obj.mk (.type "tuple") .none (.seq (List.toArray [(.str (Str.ofString "layers") 432), (.str (Str.ofString "out") 433), (.str (Str.ofString "row") 434), (.str (Str.ofString "one") 435), (.str (Str.ofString "two") 436)]) 0) (List.toArray []))
noncomputable def o196 (P : Params) : Obj := (PySem.Obj.mk (.type "tuple") .none (.seq (List.toArray []) 0) (List.toArray []))
noncomputable def o197 (P : Params) : Obj := (PySem.Obj.mk .none .none (.func (FuncData.mk (Str.ofString "settle") (Str.ofString "settle") fa23.1 (.stmts fb23.1) fs23.1 0 [] .none .none .none .none .none .none .none 0)) (List.toArray []))
noncomputable def o198 (P : Params) : Obj := (PySem.Obj.mk (.type "code") .none (.fields (List.toArray [(.str (Str.ofString "settle") 429), (.str (Str.ofString "settle") 430), (.str (Str.ofString "/claim/cut.py") 431), (.int 122 0), (.int 1 0), (.int 0 0), (.int 0 0), (.int 3 0), (.ref 193), (.bool .true), (.int 181 0), (.ref 194), .none, (.ref 195), (.ref 196), (.ref 197), (.int 437 0), (.int 122 0), (.str (Str.ofString "/claim/cut.py") 438)])) (List.toArray []))
noncomputable def o199 (P : Params) : Obj := (PySem.Obj.mk (.type "function") .none (.func (FuncData.mk (Str.ofString "settle") (Str.ofString "settle") fa23.1 (.stmts fb23.1) fs23.1 3 [] .none .none .none (.str (Str.ofString "heatnet.tanks") 315) .none (.ref 198) .none 0)) (List.toArray []))
noncomputable def o200 (P : Params) : Obj := (PySem.Obj.mk (.type "tuple") .none (.seq (List.toArray []) 0) (List.toArray []))
noncomputable def o201 (P : Params) : Obj := (PySem.Obj.mk .none .none (.fields (List.toArray [])) (List.toArray []))
noncomputable def o202 (P : Params) : Obj := (PySem.Obj.mk (.type "tuple") .none (.seq (List.toArray [(.str (Str.ofString "tank") 445), (.str (Str.ofString "heat") 446), (.str (Str.ofString "back") 447), (.str (Str.ofString "litres") 448), (.str (Str.ofString "got") 449), (.str (Str.ofString "size") 450), (.str (Str.ofString "warm") 451), (.str (Str.ofString "gain") 452), (.str (Str.ofString "part") 453)]) 0) (List.toArray []))
noncomputable def o203 (P : Params) : Obj := (PySem.Obj.mk (.type "tuple") .none (.seq (List.toArray []) 0) (List.toArray []))
noncomputable def o204 (P : Params) : Obj := (PySem.Obj.mk .none .none (.func (FuncData.mk (Str.ofString "draw_for") (Str.ofString "draw_for") fa25.1 (.stmts fb25.1) fs25.1 0 [] .none .none .none .none .none .none .none 0)) (List.toArray []))
noncomputable def o205 (P : Params) : Obj := (PySem.Obj.mk (.type "code") .none (.fields (List.toArray [(.str (Str.ofString "draw_for") 442), (.str (Str.ofString "draw_for") 443), (.str (Str.ofString "/claim/cut.py") 444), (.int 132 0), (.int 3 0), (.int 0 0), (.int 0 0), (.int 3 0), (.ref 200), (.bool .true), (.int 181 0), (.ref 201), .none, (.ref 202), (.ref 203), (.ref 204), (.int 454 0), (.int 132 0), (.str (Str.ofString "/claim/cut.py") 455)])) (List.toArray []))
noncomputable def o206 (P : Params) : Obj := (PySem.Obj.mk (.type "function") .none (.func (FuncData.mk (Str.ofString "draw_for") (Str.ofString "draw_for") fa25.1 (.stmts fb25.1) fs25.1 3 [] .none .none .none (.str (Str.ofString "heatnet.plants") 440) .none (.ref 205) .none 0)) (List.toArray []))
noncomputable def o207 (P : Params) : Obj := (PySem.Obj.mk (.type "tuple") .none (.seq (List.toArray []) 0) (List.toArray []))
noncomputable def o208 (P : Params) : Obj := (PySem.Obj.mk .none .none (.fields (List.toArray [])) (List.toArray []))
noncomputable def o209 (P : Params) : Obj := (PySem.Obj.mk (.type "tuple") .none (.seq (List.toArray [(.str (Str.ofString "tank") 460), (.str (Str.ofString "heat") 461), (.str (Str.ofString "sent") 462), (.str (Str.ofString "litres") 463), (.str (Str.ofString "used") 464), (.str (Str.ofString "size") 465), (.str (Str.ofString "warm") 466), (.str (Str.ofString "want") 467), (.str (Str.ofString "part") 468)]) 0) (List.toArray []))
noncomputable def o210 (P : Params) : Obj := (PySem.Obj.mk (.type "tuple") .none (.seq (List.toArray []) 0) (List.toArray []))
noncomputable def o211 (P : Params) : Obj := (PySem.Obj.mk .none .none (.func (FuncData.mk (Str.ofString "charge_with") (Str.ofString "charge_with") fa26.1 (.stmts fb26.1) fs26.1 0 [] .none .none .none .none .none .none .none 0)) (List.toArray []))
noncomputable def o212 (P : Params) : Obj := (PySem.Obj.mk (.type "code") .none (.fields (List.toArray [(.str (Str.ofString "charge_with") 457), (.str (Str.ofString "charge_with") 458), (.str (Str.ofString "/claim/cut.py") 459), (.int 145 0), (.int 3 0), (.int 0 0), (.int 0 0), (.int 3 0), (.ref 207), (.bool .true), (.int 181 0), (.ref 208), .none, (.ref 209), (.ref 210), (.ref 211), (.int 469 0), (.int 145 0), (.str (Str.ofString "/claim/cut.py") 470)])) (List.toArray []))
noncomputable def o213 (P : Params) : Obj := (PySem.Obj.mk (.type "function") .none (.func (FuncData.mk (Str.ofString "charge_with") (Str.ofString "charge_with") fa26.1 (.stmts fb26.1) fs26.1 3 [] .none .none .none (.str (Str.ofString "heatnet.plants") 440) .none (.ref 212) .none 0)) (List.toArray []))
noncomputable def o214 (P : Params) : Obj := (PySem.Obj.mk (.type "tuple") .none (.seq (List.toArray []) 0) (List.toArray []))
noncomputable def o215 (P : Params) : Obj := (PySem.Obj.mk .none .none (.fields (List.toArray [])) (List.toArray []))
noncomputable def o216 (P : Params) : Obj := (PySem.Obj.mk (.type "tuple") .none (.seq (List.toArray [(.str (Str.ofString "script") 477), (.str (Str.ofString "k") 478)]) 0) (List.toArray []))
noncomputable def o217 (P : Params) : Obj := (PySem.Obj.mk (.type "tuple") .none (.seq (List.toArray []) 0) (List.toArray []))
noncomputable def o218 (P : Params) : Obj := (PySem.Obj.mk .none .none (.func (FuncData.mk (Str.ofString "_law_cell") (Str.ofString "_law_cell") fa28.1 (.stmts fb28.1) fs28.1 0 [] .none .none .none .none .none .none .none 0)) (List.toArray []))
noncomputable def o219 (P : Params) : Obj := (PySem.Obj.mk (.type "code") .none (.fields (List.toArray [(.str (Str.ofString "_law_cell") 474), (.str (Str.ofString "_law_cell") 475), (.str (Str.ofString "/claim/cut.py") 476), (.int 159 0), (.int 2 0), (.int 0 0), (.int 0 0), (.int 3 0), (.ref 214), (.bool .true), (.int 181 0), (.ref 215), .none, (.ref 216), (.ref 217), (.ref 218), (.int 479 0), (.int 159 0), (.str (Str.ofString "/claim/cut.py") 480)])) (List.toArray []))
noncomputable def o220 (P : Params) : Obj := (PySem.Obj.mk (.type "function") .none (.func (FuncData.mk (Str.ofString "_law_cell") (Str.ofString "_law_cell") fa28.1 (.stmts fb28.1) fs28.1 3 [] .none .none .none (.str (Str.ofString "law_ui0509_10") 472) .none (.ref 219) .none 0)) (List.toArray []))
noncomputable def o221 (P : Params) : Obj := (PySem.Obj.mk (.type "tuple") .none (.seq (List.toArray []) 0) (List.toArray []))
noncomputable def o222 (P : Params) : Obj := (PySem.Obj.mk .none .none (.fields (List.toArray [])) (List.toArray []))
noncomputable def o223 (P : Params) : Obj := (PySem.Obj.mk .none .none (.func (FuncData.mk (Str.ofString "law") (Str.ofString "law") fa29.1 (.stmts fb29.1) fs29.1 0 [] .none .none .none .none .none .none .none 0)) (List.toArray []))
noncomputable def o224 (P : Params) : Obj := (PySem.Obj.mk (.type "code") .none (.fields (List.toArray [(.str (Str.ofString "law") 482), (.str (Str.ofString "law") 483), (.str (Str.ofString "/claim/cut.py") 484), (.int 163 0), (.int 1 0), (.int 0 0), (.int 0 0), (.int 3 0), (.ref 221), (.bool .true), (.int 181 0), (.ref 222), .none, .none, .none, (.ref 223), (.int 485 0), (.int 163 0), (.str (Str.ofString "/claim/cut.py") 486)])) (List.toArray []))
noncomputable def o225 (P : Params) : Obj := (PySem.Obj.mk (.type "function") .none (.func (FuncData.mk (Str.ofString "law") (Str.ofString "law") fa29.1 (.stmts fb29.1) fs29.1 3 [] .none .none .none (.str (Str.ofString "law_ui0509_10") 472) .none (.ref 224) .none 0)) (List.toArray []))
noncomputable def t3 (P : Params) : BT := (.node (boot_o_0 P) (.node (boot_o_1 P) (.node (o3v3 P) (.node (boot_o_7 P) (.node (o15 P) (.node (o31 P) (.node (o63 P) (lf (o127 P)) (lf (o191 P))) (.node (o95 P) (lf (o159 P)) (lf (o223 P)))) (.node (o47 P) (.node (o79 P) (lf (o143 P)) (lf (o207 P))) (.node (o111 P) (lf (o175 P)) .nil))) (.node (o23 P) (.node (o39 P) (.node (o71 P) (lf (o135 P)) (lf (o199 P))) (.node (o103 P) (lf (o167 P)) .nil)) (.node (o55 P) (.node (o87 P) (lf (o151 P)) (lf (o215 P))) (.node (o119 P) (lf (o183 P)) .nil)))) (.node (o11 P) (.node (o19 P) (.node (o35 P) (.node (o67 P) (lf (o131 P)) (lf (o195 P))) (.node (o99 P) (lf (o163 P)) .nil)) (.node (o51 P) (.node (o83 P) (lf (o147 P)) (lf (o211 P))) (.node (o115 P) (lf (o179 P)) .nil))) (.node (o27 P) (.node (o43 P) (.node (o75 P) (lf (o139 P)) (lf (o203 P))) (.node (o107 P) (lf (o171 P)) .nil)) (.node (o59 P) (.node (o91 P) (lf (o155 P)) (lf (o219 P))) (.node (o123 P) (lf (o187 P)) .nil))))) (.node (boot_o_5 P) (.node (boot_o_9 P) (.node (o17 P) (.node (o33 P) (.node (o65 P) (lf (o129 P)) (lf (o193 P))) (.node (o97 P) (lf (o161 P)) (lf (o225 P)))) (.node (o49 P) (.node (o81 P) (lf (o145 P)) (lf (o209 P))) (.node (o113 P) (lf (o177 P)) .nil))) (.node (o25 P) (.node (o41 P) (.node (o73 P) (lf (o137 P)) (lf (o201 P))) (.node (o105 P) (lf (o169 P)) .nil)) (.node (o57 P) (.node (o89 P) (lf (o153 P)) (lf (o217 P))) (.node (o121 P) (lf (o185 P)) .nil)))) (.node (o13 P) (.node (o21 P) (.node (o37 P) (.node (o69 P) (lf (o133 P)) (lf (o197 P))) (.node (o101 P) (lf (o165 P)) .nil)) (.node (o53 P) (.node (o85 P) (lf (o149 P)) (lf (o213 P))) (.node (o117 P) (lf (o181 P)) .nil))) (.node (o29 P) (.node (o45 P) (.node (o77 P) (lf (o141 P)) (lf (o205 P))) (.node (o109 P) (lf (o173 P)) .nil)) (.node (o61 P) (.node (o93 P) (lf (o157 P)) (lf (o221 P))) (.node (o125 P) (lf (o189 P)) .nil)))))) (.node (boot_o_2 P) (.node (boot_o_4 P) (.node (boot_o_8 P) (.node (o16 P) (.node (o32 P) (.node (o64 P) (lf (o128 P)) (lf (o192 P))) (.node (o96 P) (lf (o160 P)) (lf (o224 P)))) (.node (o48 P) (.node (o80 P) (lf (o144 P)) (lf (o208 P))) (.node (o112 P) (lf (o176 P)) .nil))) (.node (o24 P) (.node (o40 P) (.node (o72 P) (lf (o136 P)) (lf (o200 P))) (.node (o104 P) (lf (o168 P)) .nil)) (.node (o56 P) (.node (o88 P) (lf (o152 P)) (lf (o216 P))) (.node (o120 P) (lf (o184 P)) .nil)))) (.node (o12v4 P) (.node (o20 P) (.node (o36 P) (.node (o68 P) (lf (o132 P)) (lf (o196 P))) (.node (o100 P) (lf (o164 P)) .nil)) (.node (o52 P) (.node (o84 P) (lf (o148 P)) (lf (o212 P))) (.node (o116 P) (lf (o180 P)) .nil))) (.node (o28 P) (.node (o44 P) (.node (o76 P) (lf (o140 P)) (lf (o204 P))) (.node (o108 P) (lf (o172 P)) .nil)) (.node (o60 P) (.node (o92 P) (lf (o156 P)) (lf (o220 P))) (.node (o124 P) (lf (o188 P)) .nil))))) (.node (boot_o_6 P) (.node (boot_o_10 P) (.node (o18 P) (.node (o34 P) (.node (o66 P) (lf (o130 P)) (lf (o194 P))) (.node (o98 P) (lf (o162 P)) .nil)) (.node (o50 P) (.node (o82 P) (lf (o146 P)) (lf (o210 P))) (.node (o114 P) (lf (o178 P)) .nil))) (.node (o26 P) (.node (o42 P) (.node (o74 P) (lf (o138 P)) (lf (o202 P))) (.node (o106 P) (lf (o170 P)) .nil)) (.node (o58 P) (.node (o90 P) (lf (o154 P)) (lf (o218 P))) (.node (o122 P) (lf (o186 P)) .nil)))) (.node (o14 P) (.node (o22 P) (.node (o38 P) (.node (o70 P) (lf (o134 P)) (lf (o198 P))) (.node (o102 P) (lf (o166 P)) .nil)) (.node (o54 P) (.node (o86 P) (lf (o150 P)) (lf (o214 P))) (.node (o118 P) (lf (o182 P)) .nil))) (.node (o30 P) (.node (o46 P) (.node (o78 P) (lf (o142 P)) (lf (o206 P))) (.node (o110 P) (lf (o174 P)) .nil)) (.node (o62 P) (.node (o94 P) (lf (o158 P)) (lf (o222 P))) (.node (o126 P) (lf (o190 P)) .nil)))))))
noncomputable def t3S (P : Params) (os : OsState) : SharedT := ⟨t3 P, 226, (.mk [] [] [] 0 [] [] .false (List.toArray []) [] 0 .false .false .false 0 [2000, 10, 10] .false 0 .true [] [] 0 .false), ⟨[]⟩, (.mk 0 0 0 0), 488, os⟩
set_option maxRecDepth 100000 in
theorem pc3 (w : World) : (fun os => segRunT treeTable pw w 11 annH 1 250 (t2S (w).params os) (piecesOf (((behindTheImports pw).drop 21).take 9) envH cE ((.mk 58 0 101 55) : Pos) [topFrame qH])) = fun os => some (.next, t3S (w).params os, cE, ((.mk 163 0 209 35) : Pos)) := by
  unfold piecesOf; rw [PySem.W.Fast.te10110043849684766642, PySem.W.Fast.te14364793385576792824, PySem.W.Fast.te12563942051412417395]; kernel_rfl!
noncomputable def tF (P : Params) : BT := (.node (boot_o_0 P) (.node (boot_o_1 P) (.node (o3v3 P) (.node (boot_o_7 P) (.node (o15 P) (.node (o31 P) (.node (o63 P) (lf (o127 P)) (lf (o191 P))) (.node (o95 P) (lf (o159 P)) (lf (o223 P)))) (.node (o47 P) (.node (o79 P) (lf (o143 P)) (lf (o207 P))) (.node (o111 P) (lf (o175 P)) .nil))) (.node (o23 P) (.node (o39 P) (.node (o71 P) (lf (o135 P)) (lf (o199 P))) (.node (o103 P) (lf (o167 P)) .nil)) (.node (o55 P) (.node (o87 P) (lf (o151 P)) (lf (o215 P))) (.node (o119 P) (lf (o183 P)) .nil)))) (.node (o11 P) (.node (o19 P) (.node (o35 P) (.node (o67 P) (lf (o131 P)) (lf (o195 P))) (.node (o99 P) (lf (o163 P)) .nil)) (.node (o51 P) (.node (o83 P) (lf (o147 P)) (lf (o211 P))) (.node (o115 P) (lf (o179 P)) .nil))) (.node (o27 P) (.node (o43 P) (.node (o75 P) (lf (o139 P)) (lf (o203 P))) (.node (o107 P) (lf (o171 P)) .nil)) (.node (o59 P) (.node (o91 P) (lf (o155 P)) (lf (o219 P))) (.node (o123 P) (lf (o187 P)) .nil))))) (.node (boot_o_5 P) (.node (boot_o_9 P) (.node (o17 P) (.node (o33 P) (.node (o65 P) (lf (o129 P)) (lf (o193 P))) (.node (o97 P) (lf (o161 P)) (lf (o225 P)))) (.node (o49 P) (.node (o81 P) (lf (o145 P)) (lf (o209 P))) (.node (o113 P) (lf (o177 P)) .nil))) (.node (o25 P) (.node (o41 P) (.node (o73 P) (lf (o137 P)) (lf (o201 P))) (.node (o105 P) (lf (o169 P)) .nil)) (.node (o57 P) (.node (o89 P) (lf (o153 P)) (lf (o217 P))) (.node (o121 P) (lf (o185 P)) .nil)))) (.node (o13 P) (.node (o21 P) (.node (o37 P) (.node (o69 P) (lf (o133 P)) (lf (o197 P))) (.node (o101 P) (lf (o165 P)) .nil)) (.node (o53 P) (.node (o85 P) (lf (o149 P)) (lf (o213 P))) (.node (o117 P) (lf (o181 P)) .nil))) (.node (o29 P) (.node (o45 P) (.node (o77 P) (lf (o141 P)) (lf (o205 P))) (.node (o109 P) (lf (o173 P)) .nil)) (.node (o61 P) (.node (o93 P) (lf (o157 P)) (lf (o221 P))) (.node (o125 P) (lf (o189 P)) .nil)))))) (.node (boot_o_2 P) (.node (boot_o_4 P) (.node (boot_o_8 P) (.node (o16 P) (.node (o32 P) (.node (o64 P) (lf (o128 P)) (lf (o192 P))) (.node (o96 P) (lf (o160 P)) (lf (o224 P)))) (.node (o48 P) (.node (o80 P) (lf (o144 P)) (lf (o208 P))) (.node (o112 P) (lf (o176 P)) .nil))) (.node (o24 P) (.node (o40 P) (.node (o72 P) (lf (o136 P)) (lf (o200 P))) (.node (o104 P) (lf (o168 P)) .nil)) (.node (o56 P) (.node (o88 P) (lf (o152 P)) (lf (o216 P))) (.node (o120 P) (lf (o184 P)) .nil)))) (.node (o12v4 P) (.node (o20 P) (.node (o36 P) (.node (o68 P) (lf (o132 P)) (lf (o196 P))) (.node (o100 P) (lf (o164 P)) .nil)) (.node (o52 P) (.node (o84 P) (lf (o148 P)) (lf (o212 P))) (.node (o116 P) (lf (o180 P)) .nil))) (.node (o28 P) (.node (o44 P) (.node (o76 P) (lf (o140 P)) (lf (o204 P))) (.node (o108 P) (lf (o172 P)) .nil)) (.node (o60 P) (.node (o92 P) (lf (o156 P)) (lf (o220 P))) (.node (o124 P) (lf (o188 P)) .nil))))) (.node (boot_o_6 P) (.node (boot_o_10 P) (.node (o18 P) (.node (o34 P) (.node (o66 P) (lf (o130 P)) (lf (o194 P))) (.node (o98 P) (lf (o162 P)) .nil)) (.node (o50 P) (.node (o82 P) (lf (o146 P)) (lf (o210 P))) (.node (o114 P) (lf (o178 P)) .nil))) (.node (o26 P) (.node (o42 P) (.node (o74 P) (lf (o138 P)) (lf (o202 P))) (.node (o106 P) (lf (o170 P)) .nil)) (.node (o58 P) (.node (o90 P) (lf (o154 P)) (lf (o218 P))) (.node (o122 P) (lf (o186 P)) .nil)))) (.node (o14 P) (.node (o22 P) (.node (o38 P) (.node (o70 P) (lf (o134 P)) (lf (o198 P))) (.node (o102 P) (lf (o166 P)) .nil)) (.node (o54 P) (.node (o86 P) (lf (o150 P)) (lf (o214 P))) (.node (o118 P) (lf (o182 P)) .nil))) (.node (o30 P) (.node (o46 P) (.node (o78 P) (lf (o142 P)) (lf (o206 P))) (.node (o110 P) (lf (o174 P)) .nil)) (.node (o62 P) (.node (o94 P) (lf (o158 P)) (lf (o222 P))) (.node (o126 P) (lf (o190 P)) .nil)))))))
noncomputable def tFS (P : Params) (os : OsState) : SharedT := ⟨tF P, 226, (.mk [] [] [] 0 [] [] .false (List.toArray []) [] 0 .false .false .false 0 [2000, 10, 10] .false 0 .true [] [] 0 .false), ⟨[]⟩, (.mk 0 0 0 0), 488, os⟩
theorem finH (w : World) : (fun os => topRun treeTable pw w 11 annH 2 (t3S w.params os).abs ⟨doneF .next, cE, ((.mk 163 0 209 35) : Pos), [topFrame qH]⟩) = fun os => some (tFS w.params os).abs := by
  rw [PySem.W.Fast.te14082659384304107361, PySem.W.Fast.te14364793385576792824]; kernel_rfl!
theorem step_pc {tb : String → Option Builtin} {p : Program} {w : World} {n₀ : Nat} {ann : Option Value} {env : Env} {q : Pos} {n N : Nat} {s s' : SharedT} {r : Shared} {c : Code} {pos p' : Pos} (b : List Stmt) (a k : Nat) (h : segRunT tb p w n₀ ann 1 n s (piecesOf ((b.drop a).take k) env c pos [topFrame q]) = some (.next, s', c, p'))
    (kk : topRun tb p w n₀ ann N s'.abs (PySem.W.restOf (b.drop (a + k)) env c p' [topFrame q]) = some r) : topRun tb p w n₀ ann (n + N) s.abs (PySem.W.restOf (b.drop a) env c pos [topFrame q]) = some r := by
  have e : (b.drop a).take k ++ b.drop (a + k) = b.drop a := by rw [← List.drop_drop, List.take_append_drop]
  have h2 := piece_app (segRun_of h) kk
  rw [e] at h2; exact h2
theorem runH (w : World) (os : OsState) : topRun treeTable pw w 11 annH 1332 (s0H w.params os) (topStub pw) = some (tFS w.params os).abs :=
  go_top (N := 1320) (congrFun (preH w) os) (piece_block (N := 1319) (segRun_of (congrFun (blockH w) os)) (step_pc (behindTheImports pw) 0 11 (congrFun (pc0 w) os) (step_pc (behindTheImports pw) 11 9 (congrFun (pc1 w) os) (step_pc (behindTheImports pw) 20 1 (congrFun (pc2 w) os) (step_pc (behindTheImports pw) 21 9 (congrFun (pc3 w) os) (congrFun (finH w) os))))))
noncomputable def vq : Program := view pw [1, 3, 4, 5, 6, 9, 10, 11, 12, 13, 14, 15, 16, 18, 20, 21, 22, 23, 25, 26, 28, 29]
noncomputable def K : Params → Frag := fun P => (nat_lit 2, boot_o_2 P) :: (nat_lit 3, o3v3 P) :: (nat_lit 15, o15 P) :: (nat_lit 22, o22 P) :: (nat_lit 23, o23 P) :: (nat_lit 24, o24 P) :: (nat_lit 25, o25 P) :: (nat_lit 28, o28 P) :: (nat_lit 29, o29 P) :: (nat_lit 31, o31 P) :: (nat_lit 32, o32 P) :: (nat_lit 34, o34 P) :: (nat_lit 35, o35 P) :: (nat_lit 36, o36 P) :: (nat_lit 37, o37 P) :: (nat_lit 39, o39 P) :: (nat_lit 40, o40 P) :: (nat_lit 42, o42 P) :: (nat_lit 43, o43 P) :: (nat_lit 44, o44 P) :: (nat_lit 45, o45 P) :: (nat_lit 47, o47 P) :: (nat_lit 48, o48 P) :: (nat_lit 50, o50 P) :: (nat_lit 51, o51 P) :: (nat_lit 52, o52 P) :: (nat_lit 54, o54 P) :: (nat_lit 55, o55 P) :: (nat_lit 57, o57 P) :: (nat_lit 58, o58 P) :: (nat_lit 59, o59 P) :: (nat_lit 61, o61 P) :: (nat_lit 62, o62 P) :: (nat_lit 64, o64 P) :: (nat_lit 65, o65 P) :: (nat_lit 66, o66 P) :: (nat_lit 68, o68 P) :: (nat_lit 69, o69 P) :: (nat_lit 71, o71 P) :: (nat_lit 72, o72 P) :: (nat_lit 73, o73 P) :: (nat_lit 75, o75 P) :: (nat_lit 76, o76 P) :: (nat_lit 78, o78 P) :: (nat_lit 79, o79 P) :: (nat_lit 80, o80 P) :: (nat_lit 82, o82 P) :: (nat_lit 83, o83 P) :: (nat_lit 85, o85 P) :: (nat_lit 86, o86 P) :: (nat_lit 87, o87 P) :: (nat_lit 89, o89 P) :: (nat_lit 90, o90 P) :: (nat_lit 92, o92 P) :: (nat_lit 93, o93 P) :: (nat_lit 94, o94 P) :: (nat_lit 96, o96 P) :: (nat_lit 97, o97 P) :: (nat_lit 99, o99 P) :: (nat_lit 100, o100 P) :: (nat_lit 101, o101 P) :: (nat_lit 103, o103 P) :: (nat_lit 104, o104 P) :: (nat_lit 106, o106 P) :: (nat_lit 107, o107 P) :: (nat_lit 108, o108 P) :: (nat_lit 111, o111 P) :: (nat_lit 112, o112 P) :: (nat_lit 120, o120 P) :: (nat_lit 122, o122 P) :: (nat_lit 123, o123 P) :: (nat_lit 125, o125 P) :: (nat_lit 126, o126 P) :: (nat_lit 127, o127 P) :: (nat_lit 130, o130 P) :: (nat_lit 131, o131 P) :: (nat_lit 132, o132 P) :: (nat_lit 135, o135 P) :: (nat_lit 136, o136 P) :: (nat_lit 137, o137 P) :: (nat_lit 139, o139 P) :: (nat_lit 140, o140 P) :: (nat_lit 142, o142 P) :: (nat_lit 143, o143 P) :: (nat_lit 144, o144 P) :: (nat_lit 146, o146 P) :: (nat_lit 147, o147 P) :: (nat_lit 149, o149 P) :: (nat_lit 150, o150 P) :: (nat_lit 151, o151 P) :: (nat_lit 153, o153 P) :: (nat_lit 154, o154 P) :: (nat_lit 156, o156 P) :: (nat_lit 157, o157 P) :: (nat_lit 158, o158 P) :: (nat_lit 160, o160 P) :: (nat_lit 161, o161 P) :: (nat_lit 163, o163 P) :: (nat_lit 164, o164 P) :: (nat_lit 165, o165 P) :: (nat_lit 167, o167 P) :: (nat_lit 168, o168 P) :: (nat_lit 170, o170 P) :: (nat_lit 171, o171 P) :: (nat_lit 172, o172 P) :: (nat_lit 173, o173 P) :: (nat_lit 174, o174 P) :: (nat_lit 175, o175 P) :: (nat_lit 176, o176 P) :: (nat_lit 179, o179 P) :: (nat_lit 181, o181 P) :: (nat_lit 182, o182 P) :: (nat_lit 184, o184 P) :: (nat_lit 185, o185 P) :: (nat_lit 186, o186 P) :: (nat_lit 188, o188 P) :: (nat_lit 189, o189 P) :: (nat_lit 191, o191 P) :: (nat_lit 192, o192 P) :: (nat_lit 193, o193 P) :: (nat_lit 195, o195 P) :: (nat_lit 196, o196 P) :: (nat_lit 198, o198 P) :: (nat_lit 199, o199 P) :: (nat_lit 200, o200 P) :: (nat_lit 202, o202 P) :: (nat_lit 203, o203 P) :: (nat_lit 205, o205 P) :: (nat_lit 206, o206 P) :: (nat_lit 207, o207 P) :: (nat_lit 209, o209 P) :: (nat_lit 210, o210 P) :: (nat_lit 212, o212 P) :: (nat_lit 213, o213 P) :: (nat_lit 214, o214 P) :: (nat_lit 216, o216 P) :: (nat_lit 217, o217 P) :: (nat_lit 219, o219 P) :: (nat_lit 220, o220 P) :: (nat_lit 221, o221 P) :: (nat_lit 224, o224 P) :: (nat_lit 225, o225 P) :: []
theorem hkH : ∀ P, (((nat_lit 2) :: (nat_lit 3) :: (nat_lit 15) :: (nat_lit 22) :: (nat_lit 23) :: (nat_lit 24) :: (nat_lit 25) :: (nat_lit 28) :: (nat_lit 29) :: (nat_lit 31) :: (nat_lit 32) :: (nat_lit 34) :: (nat_lit 35) :: (nat_lit 36) :: (nat_lit 37) :: (nat_lit 39) :: (nat_lit 40) :: (nat_lit 42) :: (nat_lit 43) :: (nat_lit 44) :: (nat_lit 45) :: (nat_lit 47) :: (nat_lit 48) :: (nat_lit 50) :: (nat_lit 51) :: (nat_lit 52) :: (nat_lit 54) :: (nat_lit 55) :: (nat_lit 57) :: (nat_lit 58) :: (nat_lit 59) :: (nat_lit 61) :: (nat_lit 62) :: (nat_lit 64) :: (nat_lit 65) :: (nat_lit 66) :: (nat_lit 68) :: (nat_lit 69) :: (nat_lit 71) :: (nat_lit 72) :: (nat_lit 73) :: (nat_lit 75) :: (nat_lit 76) :: (nat_lit 78) :: (nat_lit 79) :: (nat_lit 80) :: (nat_lit 82) :: (nat_lit 83) :: (nat_lit 85) :: (nat_lit 86) :: (nat_lit 87) :: (nat_lit 89) :: (nat_lit 90) :: (nat_lit 92) :: (nat_lit 93) :: (nat_lit 94) :: (nat_lit 96) :: (nat_lit 97) :: (nat_lit 99) :: (nat_lit 100) :: (nat_lit 101) :: (nat_lit 103) :: (nat_lit 104) :: (nat_lit 106) :: (nat_lit 107) :: (nat_lit 108) :: (nat_lit 111) :: (nat_lit 112) :: (nat_lit 120) :: (nat_lit 122) :: (nat_lit 123) :: (nat_lit 125) :: (nat_lit 126) :: (nat_lit 127) :: (nat_lit 130) :: (nat_lit 131) :: (nat_lit 132) :: (nat_lit 135) :: (nat_lit 136) :: (nat_lit 137) :: (nat_lit 139) :: (nat_lit 140) :: (nat_lit 142) :: (nat_lit 143) :: (nat_lit 144) :: (nat_lit 146) :: (nat_lit 147) :: (nat_lit 149) :: (nat_lit 150) :: (nat_lit 151) :: (nat_lit 153) :: (nat_lit 154) :: (nat_lit 156) :: (nat_lit 157) :: (nat_lit 158) :: (nat_lit 160) :: (nat_lit 161) :: (nat_lit 163) :: (nat_lit 164) :: (nat_lit 165) :: (nat_lit 167) :: (nat_lit 168) :: (nat_lit 170) :: (nat_lit 171) :: (nat_lit 172) :: (nat_lit 173) :: (nat_lit 174) :: (nat_lit 175) :: (nat_lit 176) :: (nat_lit 179) :: (nat_lit 181) :: (nat_lit 182) :: (nat_lit 184) :: (nat_lit 185) :: (nat_lit 186) :: (nat_lit 188) :: (nat_lit 189) :: (nat_lit 191) :: (nat_lit 192) :: (nat_lit 193) :: (nat_lit 195) :: (nat_lit 196) :: (nat_lit 198) :: (nat_lit 199) :: (nat_lit 200) :: (nat_lit 202) :: (nat_lit 203) :: (nat_lit 205) :: (nat_lit 206) :: (nat_lit 207) :: (nat_lit 209) :: (nat_lit 210) :: (nat_lit 212) :: (nat_lit 213) :: (nat_lit 214) :: (nat_lit 216) :: (nat_lit 217) :: (nat_lit 219) :: (nat_lit 220) :: (nat_lit 221) :: (nat_lit 224) :: (nat_lit 225) :: []) : List Addr) = (K P).map (·.1) := fun _ => by kernel_rfl!
@[reducible] noncomputable def dH : DefRec := ⟨Str.ofString "law", fa29.1, fb29.1, fs29.1, (.mk 163 0 209 35)⟩
theorem openH : ∀ w : World, (fencedOpening treeTable pw w 2752).map (fun s => (s.heap, s.gens, s.drawn, s.toks)) = some (boot_heap w.params, Array.mk [], boot_drawn, boot_toks) :=
  boot_open (by kernel_rfl!) (by decide) (fun s => by kernel_rfl!)
theorem sizeH : ∀ w : World, ((boot_heap w.params).isNs mainGlobals && (Array.mk [] : Array GenState).size == 0, (boot_heap w.params).objs.size, (boot_heap w.params).nsMap mainGlobals "__annotations__") = (true, 11, annH) := fun w => by kernel_rfl!
theorem looksH (w : World) : (fun os => ((staticsOk (importedModules pw.main.body) (boot_heap w.params) (tFS w.params os).abs.heap && namesBound pw (tFS w.params os).abs.heap && gensDone (tFS w.params os).abs && laidKept (boot_heap w.params) (tFS w.params os).abs.heap),
    openSeen vq [Str.ofString "MOST", Str.ofString "frac", Str.ofString "need"] (importedModules pw.main.body) (fun s => xlAt vq ([(Str.ofString "MOST", (.int 100000000000000000000000000000000000000000000000000000000000000000000000000000000000000000000000000000000000000000000000000000000000000000000000000000000000000000000000000000000000000000000000000000000000000000000000000000000000000000000000000000000000000000000000000000000000000000000000000000000000000000000000000000000000000000000000000000000000000000000000000000000000000000000000000000000000000000000000000000000000000000000000000000000000000000000000000000000000000000000000000000000000000000000000000000000000000000000000000000000000000000000000000000000000000000000000000000000000000000000000000000000000000000000000000000000000000000000000000000000000000000000000000000000000000000000000000000000000000000000000000000000000000000000000000000000000000000000000000000000000000000000000000000000000000000000000000000000000000000000000000000000000000000000000000000000000000000000000000000000000000000000000000000000000000000000000000000000000000000000000000000000000000000000000000000000000000000000000000000000000000000000000000000000000000000000000000000000000000000000000000000000000000000000000000000000000000000000000000000000000000000000000000000000000000000000000000000000000000000000000000000000000000000000000000000000000000000000000000000000000000000000000000000000000000000000000000000000000000000000000000000000000000000000000000000000000000000000000000000000000000000000000000000000000000000000000000000000000000000000000000000000000000000000000000000000000000000000000000000000000000000000000000000000000000000000000000000000000000000000000000000000000000000000000000000000000000000000000000000000000000000000000000000000000000000000000000000000000000000000000000000000000000000000000000000000000000000000000000000000000000000000000000000000000000000000000000000000000000000000000000000000000000000000000000000000000000000000000000000000000000000000000000000000000000000000000000000000000000000000000000000000000000000000000000000000000000000000000000000000000000000000000000000000))] : List (Str × WData)) s && recOk (RowW.records (OpenRow.toRowW (OpenLaw.row PySem.Challenge.rw_ui0509_10))) s) true (tFS w.params os).abs, Hook.obs (kHook K ((nat_lit 2) :: (nat_lit 3) :: (nat_lit 15) :: (nat_lit 22) :: (nat_lit 23) :: (nat_lit 24) :: (nat_lit 25) :: (nat_lit 28) :: (nat_lit 29) :: (nat_lit 31) :: (nat_lit 32) :: (nat_lit 34) :: (nat_lit 35) :: (nat_lit 36) :: (nat_lit 37) :: (nat_lit 39) :: (nat_lit 40) :: (nat_lit 42) :: (nat_lit 43) :: (nat_lit 44) :: (nat_lit 45) :: (nat_lit 47) :: (nat_lit 48) :: (nat_lit 50) :: (nat_lit 51) :: (nat_lit 52) :: (nat_lit 54) :: (nat_lit 55) :: (nat_lit 57) :: (nat_lit 58) :: (nat_lit 59) :: (nat_lit 61) :: (nat_lit 62) :: (nat_lit 64) :: (nat_lit 65) :: (nat_lit 66) :: (nat_lit 68) :: (nat_lit 69) :: (nat_lit 71) :: (nat_lit 72) :: (nat_lit 73) :: (nat_lit 75) :: (nat_lit 76) :: (nat_lit 78) :: (nat_lit 79) :: (nat_lit 80) :: (nat_lit 82) :: (nat_lit 83) :: (nat_lit 85) :: (nat_lit 86) :: (nat_lit 87) :: (nat_lit 89) :: (nat_lit 90) :: (nat_lit 92) :: (nat_lit 93) :: (nat_lit 94) :: (nat_lit 96) :: (nat_lit 97) :: (nat_lit 99) :: (nat_lit 100) :: (nat_lit 101) :: (nat_lit 103) :: (nat_lit 104) :: (nat_lit 106) :: (nat_lit 107) :: (nat_lit 108) :: (nat_lit 111) :: (nat_lit 112) :: (nat_lit 120) :: (nat_lit 122) :: (nat_lit 123) :: (nat_lit 125) :: (nat_lit 126) :: (nat_lit 127) :: (nat_lit 130) :: (nat_lit 131) :: (nat_lit 132) :: (nat_lit 135) :: (nat_lit 136) :: (nat_lit 137) :: (nat_lit 139) :: (nat_lit 140) :: (nat_lit 142) :: (nat_lit 143) :: (nat_lit 144) :: (nat_lit 146) :: (nat_lit 147) :: (nat_lit 149) :: (nat_lit 150) :: (nat_lit 151) :: (nat_lit 153) :: (nat_lit 154) :: (nat_lit 156) :: (nat_lit 157) :: (nat_lit 158) :: (nat_lit 160) :: (nat_lit 161) :: (nat_lit 163) :: (nat_lit 164) :: (nat_lit 165) :: (nat_lit 167) :: (nat_lit 168) :: (nat_lit 170) :: (nat_lit 171) :: (nat_lit 172) :: (nat_lit 173) :: (nat_lit 174) :: (nat_lit 175) :: (nat_lit 176) :: (nat_lit 179) :: (nat_lit 181) :: (nat_lit 182) :: (nat_lit 184) :: (nat_lit 185) :: (nat_lit 186) :: (nat_lit 188) :: (nat_lit 189) :: (nat_lit 191) :: (nat_lit 192) :: (nat_lit 193) :: (nat_lit 195) :: (nat_lit 196) :: (nat_lit 198) :: (nat_lit 199) :: (nat_lit 200) :: (nat_lit 202) :: (nat_lit 203) :: (nat_lit 205) :: (nat_lit 206) :: (nat_lit 207) :: (nat_lit 209) :: (nat_lit 210) :: (nat_lit 212) :: (nat_lit 213) :: (nat_lit 214) :: (nat_lit 216) :: (nat_lit 217) :: (nat_lit 219) :: (nat_lit 220) :: (nat_lit 221) :: (nat_lit 224) :: (nat_lit 225) :: []) hkH) (tFS w.params os).abs)) = fun _ => (true, openGood vq [Str.ofString "MOST", Str.ofString "frac", Str.ofString "need"], Hook.val (kHook K ((nat_lit 2) :: (nat_lit 3) :: (nat_lit 15) :: (nat_lit 22) :: (nat_lit 23) :: (nat_lit 24) :: (nat_lit 25) :: (nat_lit 28) :: (nat_lit 29) :: (nat_lit 31) :: (nat_lit 32) :: (nat_lit 34) :: (nat_lit 35) :: (nat_lit 36) :: (nat_lit 37) :: (nat_lit 39) :: (nat_lit 40) :: (nat_lit 42) :: (nat_lit 43) :: (nat_lit 44) :: (nat_lit 45) :: (nat_lit 47) :: (nat_lit 48) :: (nat_lit 50) :: (nat_lit 51) :: (nat_lit 52) :: (nat_lit 54) :: (nat_lit 55) :: (nat_lit 57) :: (nat_lit 58) :: (nat_lit 59) :: (nat_lit 61) :: (nat_lit 62) :: (nat_lit 64) :: (nat_lit 65) :: (nat_lit 66) :: (nat_lit 68) :: (nat_lit 69) :: (nat_lit 71) :: (nat_lit 72) :: (nat_lit 73) :: (nat_lit 75) :: (nat_lit 76) :: (nat_lit 78) :: (nat_lit 79) :: (nat_lit 80) :: (nat_lit 82) :: (nat_lit 83) :: (nat_lit 85) :: (nat_lit 86) :: (nat_lit 87) :: (nat_lit 89) :: (nat_lit 90) :: (nat_lit 92) :: (nat_lit 93) :: (nat_lit 94) :: (nat_lit 96) :: (nat_lit 97) :: (nat_lit 99) :: (nat_lit 100) :: (nat_lit 101) :: (nat_lit 103) :: (nat_lit 104) :: (nat_lit 106) :: (nat_lit 107) :: (nat_lit 108) :: (nat_lit 111) :: (nat_lit 112) :: (nat_lit 120) :: (nat_lit 122) :: (nat_lit 123) :: (nat_lit 125) :: (nat_lit 126) :: (nat_lit 127) :: (nat_lit 130) :: (nat_lit 131) :: (nat_lit 132) :: (nat_lit 135) :: (nat_lit 136) :: (nat_lit 137) :: (nat_lit 139) :: (nat_lit 140) :: (nat_lit 142) :: (nat_lit 143) :: (nat_lit 144) :: (nat_lit 146) :: (nat_lit 147) :: (nat_lit 149) :: (nat_lit 150) :: (nat_lit 151) :: (nat_lit 153) :: (nat_lit 154) :: (nat_lit 156) :: (nat_lit 157) :: (nat_lit 158) :: (nat_lit 160) :: (nat_lit 161) :: (nat_lit 163) :: (nat_lit 164) :: (nat_lit 165) :: (nat_lit 167) :: (nat_lit 168) :: (nat_lit 170) :: (nat_lit 171) :: (nat_lit 172) :: (nat_lit 173) :: (nat_lit 174) :: (nat_lit 175) :: (nat_lit 176) :: (nat_lit 179) :: (nat_lit 181) :: (nat_lit 182) :: (nat_lit 184) :: (nat_lit 185) :: (nat_lit 186) :: (nat_lit 188) :: (nat_lit 189) :: (nat_lit 191) :: (nat_lit 192) :: (nat_lit 193) :: (nat_lit 195) :: (nat_lit 196) :: (nat_lit 198) :: (nat_lit 199) :: (nat_lit 200) :: (nat_lit 202) :: (nat_lit 203) :: (nat_lit 205) :: (nat_lit 206) :: (nat_lit 207) :: (nat_lit 209) :: (nat_lit 210) :: (nat_lit 212) :: (nat_lit 213) :: (nat_lit 214) :: (nat_lit 216) :: (nat_lit 217) :: (nat_lit 219) :: (nat_lit 220) :: (nat_lit 221) :: (nat_lit 224) :: (nat_lit 225) :: []) hkH) w) := by
  rw [PySem.W.Fast.te4187177175401517315, PySem.W.Fast.te5923862056798008813]; kernel_rfl!
theorem leftH : LeftO pw vq [Str.ofString "MOST", Str.ofString "frac", Str.ofString "need"] (fun s => xlAt vq ([(Str.ofString "MOST", (.int 100000000000000000000000000000000000000000000000000000000000000000000000000000000000000000000000000000000000000000000000000000000000000000000000000000000000000000000000000000000000000000000000000000000000000000000000000000000000000000000000000000000000000000000000000000000000000000000000000000000000000000000000000000000000000000000000000000000000000000000000000000000000000000000000000000000000000000000000000000000000000000000000000000000000000000000000000000000000000000000000000000000000000000000000000000000000000000000000000000000000000000000000000000000000000000000000000000000000000000000000000000000000000000000000000000000000000000000000000000000000000000000000000000000000000000000000000000000000000000000000000000000000000000000000000000000000000000000000000000000000000000000000000000000000000000000000000000000000000000000000000000000000000000000000000000000000000000000000000000000000000000000000000000000000000000000000000000000000000000000000000000000000000000000000000000000000000000000000000000000000000000000000000000000000000000000000000000000000000000000000000000000000000000000000000000000000000000000000000000000000000000000000000000000000000000000000000000000000000000000000000000000000000000000000000000000000000000000000000000000000000000000000000000000000000000000000000000000000000000000000000000000000000000000000000000000000000000000000000000000000000000000000000000000000000000000000000000000000000000000000000000000000000000000000000000000000000000000000000000000000000000000000000000000000000000000000000000000000000000000000000000000000000000000000000000000000000000000000000000000000000000000000000000000000000000000000000000000000000000000000000000000000000000000000000000000000000000000000000000000000000000000000000000000000000000000000000000000000000000000000000000000000000000000000000000000000000000000000000000000000000000000000000000000000000000000000000000000000000000000000000000000000000000000000000000000000000000000000000000000000000000000000000000000))] : List (Str × WData)) s && recOk (RowW.records (OpenRow.toRowW (OpenLaw.row PySem.Challenge.rw_ui0509_10))) s) (Hook.obs (kHook K ((nat_lit 2) :: (nat_lit 3) :: (nat_lit 15) :: (nat_lit 22) :: (nat_lit 23) :: (nat_lit 24) :: (nat_lit 25) :: (nat_lit 28) :: (nat_lit 29) :: (nat_lit 31) :: (nat_lit 32) :: (nat_lit 34) :: (nat_lit 35) :: (nat_lit 36) :: (nat_lit 37) :: (nat_lit 39) :: (nat_lit 40) :: (nat_lit 42) :: (nat_lit 43) :: (nat_lit 44) :: (nat_lit 45) :: (nat_lit 47) :: (nat_lit 48) :: (nat_lit 50) :: (nat_lit 51) :: (nat_lit 52) :: (nat_lit 54) :: (nat_lit 55) :: (nat_lit 57) :: (nat_lit 58) :: (nat_lit 59) :: (nat_lit 61) :: (nat_lit 62) :: (nat_lit 64) :: (nat_lit 65) :: (nat_lit 66) :: (nat_lit 68) :: (nat_lit 69) :: (nat_lit 71) :: (nat_lit 72) :: (nat_lit 73) :: (nat_lit 75) :: (nat_lit 76) :: (nat_lit 78) :: (nat_lit 79) :: (nat_lit 80) :: (nat_lit 82) :: (nat_lit 83) :: (nat_lit 85) :: (nat_lit 86) :: (nat_lit 87) :: (nat_lit 89) :: (nat_lit 90) :: (nat_lit 92) :: (nat_lit 93) :: (nat_lit 94) :: (nat_lit 96) :: (nat_lit 97) :: (nat_lit 99) :: (nat_lit 100) :: (nat_lit 101) :: (nat_lit 103) :: (nat_lit 104) :: (nat_lit 106) :: (nat_lit 107) :: (nat_lit 108) :: (nat_lit 111) :: (nat_lit 112) :: (nat_lit 120) :: (nat_lit 122) :: (nat_lit 123) :: (nat_lit 125) :: (nat_lit 126) :: (nat_lit 127) :: (nat_lit 130) :: (nat_lit 131) :: (nat_lit 132) :: (nat_lit 135) :: (nat_lit 136) :: (nat_lit 137) :: (nat_lit 139) :: (nat_lit 140) :: (nat_lit 142) :: (nat_lit 143) :: (nat_lit 144) :: (nat_lit 146) :: (nat_lit 147) :: (nat_lit 149) :: (nat_lit 150) :: (nat_lit 151) :: (nat_lit 153) :: (nat_lit 154) :: (nat_lit 156) :: (nat_lit 157) :: (nat_lit 158) :: (nat_lit 160) :: (nat_lit 161) :: (nat_lit 163) :: (nat_lit 164) :: (nat_lit 165) :: (nat_lit 167) :: (nat_lit 168) :: (nat_lit 170) :: (nat_lit 171) :: (nat_lit 172) :: (nat_lit 173) :: (nat_lit 174) :: (nat_lit 175) :: (nat_lit 176) :: (nat_lit 179) :: (nat_lit 181) :: (nat_lit 182) :: (nat_lit 184) :: (nat_lit 185) :: (nat_lit 186) :: (nat_lit 188) :: (nat_lit 189) :: (nat_lit 191) :: (nat_lit 192) :: (nat_lit 193) :: (nat_lit 195) :: (nat_lit 196) :: (nat_lit 198) :: (nat_lit 199) :: (nat_lit 200) :: (nat_lit 202) :: (nat_lit 203) :: (nat_lit 205) :: (nat_lit 206) :: (nat_lit 207) :: (nat_lit 209) :: (nat_lit 210) :: (nat_lit 212) :: (nat_lit 213) :: (nat_lit 214) :: (nat_lit 216) :: (nat_lit 217) :: (nat_lit 219) :: (nat_lit 220) :: (nat_lit 221) :: (nat_lit 224) :: (nat_lit 225) :: []) hkH)) (Hook.val (kHook K ((nat_lit 2) :: (nat_lit 3) :: (nat_lit 15) :: (nat_lit 22) :: (nat_lit 23) :: (nat_lit 24) :: (nat_lit 25) :: (nat_lit 28) :: (nat_lit 29) :: (nat_lit 31) :: (nat_lit 32) :: (nat_lit 34) :: (nat_lit 35) :: (nat_lit 36) :: (nat_lit 37) :: (nat_lit 39) :: (nat_lit 40) :: (nat_lit 42) :: (nat_lit 43) :: (nat_lit 44) :: (nat_lit 45) :: (nat_lit 47) :: (nat_lit 48) :: (nat_lit 50) :: (nat_lit 51) :: (nat_lit 52) :: (nat_lit 54) :: (nat_lit 55) :: (nat_lit 57) :: (nat_lit 58) :: (nat_lit 59) :: (nat_lit 61) :: (nat_lit 62) :: (nat_lit 64) :: (nat_lit 65) :: (nat_lit 66) :: (nat_lit 68) :: (nat_lit 69) :: (nat_lit 71) :: (nat_lit 72) :: (nat_lit 73) :: (nat_lit 75) :: (nat_lit 76) :: (nat_lit 78) :: (nat_lit 79) :: (nat_lit 80) :: (nat_lit 82) :: (nat_lit 83) :: (nat_lit 85) :: (nat_lit 86) :: (nat_lit 87) :: (nat_lit 89) :: (nat_lit 90) :: (nat_lit 92) :: (nat_lit 93) :: (nat_lit 94) :: (nat_lit 96) :: (nat_lit 97) :: (nat_lit 99) :: (nat_lit 100) :: (nat_lit 101) :: (nat_lit 103) :: (nat_lit 104) :: (nat_lit 106) :: (nat_lit 107) :: (nat_lit 108) :: (nat_lit 111) :: (nat_lit 112) :: (nat_lit 120) :: (nat_lit 122) :: (nat_lit 123) :: (nat_lit 125) :: (nat_lit 126) :: (nat_lit 127) :: (nat_lit 130) :: (nat_lit 131) :: (nat_lit 132) :: (nat_lit 135) :: (nat_lit 136) :: (nat_lit 137) :: (nat_lit 139) :: (nat_lit 140) :: (nat_lit 142) :: (nat_lit 143) :: (nat_lit 144) :: (nat_lit 146) :: (nat_lit 147) :: (nat_lit 149) :: (nat_lit 150) :: (nat_lit 151) :: (nat_lit 153) :: (nat_lit 154) :: (nat_lit 156) :: (nat_lit 157) :: (nat_lit 158) :: (nat_lit 160) :: (nat_lit 161) :: (nat_lit 163) :: (nat_lit 164) :: (nat_lit 165) :: (nat_lit 167) :: (nat_lit 168) :: (nat_lit 170) :: (nat_lit 171) :: (nat_lit 172) :: (nat_lit 173) :: (nat_lit 174) :: (nat_lit 175) :: (nat_lit 176) :: (nat_lit 179) :: (nat_lit 181) :: (nat_lit 182) :: (nat_lit 184) :: (nat_lit 185) :: (nat_lit 186) :: (nat_lit 188) :: (nat_lit 189) :: (nat_lit 191) :: (nat_lit 192) :: (nat_lit 193) :: (nat_lit 195) :: (nat_lit 196) :: (nat_lit 198) :: (nat_lit 199) :: (nat_lit 200) :: (nat_lit 202) :: (nat_lit 203) :: (nat_lit 205) :: (nat_lit 206) :: (nat_lit 207) :: (nat_lit 209) :: (nat_lit 210) :: (nat_lit 212) :: (nat_lit 213) :: (nat_lit 214) :: (nat_lit 216) :: (nat_lit 217) :: (nat_lit 219) :: (nat_lit 220) :: (nat_lit 221) :: (nat_lit 224) :: (nat_lit 225) :: []) hkH)) 2752 :=
  LeftO.of_pieces (M := 1332) (H₁ := fun P => absHeap (tF P) 226 (.mk [] [] [] 0 [] [] .false (List.toArray []) [] 0 .false .false .false 0 [2000, 10, 10] .false 0 .true [] [] 0 .false)) (gs₁ := ⟨[]⟩) (d₁ := (.mk 0 0 0 0)) (k₁ := 488) openH sizeH runH (by decide) looksH
theorem saidH : OpenLaw.wellSaid PySem.Challenge.rw_ui0509_10 = true := by rw [PySem.W.Fast.te9446332074065402090]; kernel_rfl!
theorem okH : (chainsOk vq && opensWell pw && (frees (OpenRow.toRowW (OpenLaw.row PySem.Challenge.rw_ui0509_10)) && (RowW.within (OpenRow.toRowW (OpenLaw.row PySem.Challenge.rw_ui0509_10))).isEmpty)) = true := by kernel_rfl!
theorem hd (walk : WalkO vq [Str.ofString "MOST", Str.ofString "frac", Str.ofString "need"] (XL vq ([(Str.ofString "MOST", (.int 100000000000000000000000000000000000000000000000000000000000000000000000000000000000000000000000000000000000000000000000000000000000000000000000000000000000000000000000000000000000000000000000000000000000000000000000000000000000000000000000000000000000000000000000000000000000000000000000000000000000000000000000000000000000000000000000000000000000000000000000000000000000000000000000000000000000000000000000000000000000000000000000000000000000000000000000000000000000000000000000000000000000000000000000000000000000000000000000000000000000000000000000000000000000000000000000000000000000000000000000000000000000000000000000000000000000000000000000000000000000000000000000000000000000000000000000000000000000000000000000000000000000000000000000000000000000000000000000000000000000000000000000000000000000000000000000000000000000000000000000000000000000000000000000000000000000000000000000000000000000000000000000000000000000000000000000000000000000000000000000000000000000000000000000000000000000000000000000000000000000000000000000000000000000000000000000000000000000000000000000000000000000000000000000000000000000000000000000000000000000000000000000000000000000000000000000000000000000000000000000000000000000000000000000000000000000000000000000000000000000000000000000000000000000000000000000000000000000000000000000000000000000000000000000000000000000000000000000000000000000000000000000000000000000000000000000000000000000000000000000000000000000000000000000000000000000000000000000000000000000000000000000000000000000000000000000000000000000000000000000000000000000000000000000000000000000000000000000000000000000000000000000000000000000000000000000000000000000000000000000000000000000000000000000000000000000000000000000000000000000000000000000000000000000000000000000000000000000000000000000000000000000000000000000000000000000000000000000000000000000000000000000000000000000000000000000000000000000000000000000000000000000000000000000000000000000000000000000000000000000000000000000000000000))] : List (Str × WData))) (kHook K ((nat_lit 2) :: (nat_lit 3) :: (nat_lit 15) :: (nat_lit 22) :: (nat_lit 23) :: (nat_lit 24) :: (nat_lit 25) :: (nat_lit 28) :: (nat_lit 29) :: (nat_lit 31) :: (nat_lit 32) :: (nat_lit 34) :: (nat_lit 35) :: (nat_lit 36) :: (nat_lit 37) :: (nat_lit 39) :: (nat_lit 40) :: (nat_lit 42) :: (nat_lit 43) :: (nat_lit 44) :: (nat_lit 45) :: (nat_lit 47) :: (nat_lit 48) :: (nat_lit 50) :: (nat_lit 51) :: (nat_lit 52) :: (nat_lit 54) :: (nat_lit 55) :: (nat_lit 57) :: (nat_lit 58) :: (nat_lit 59) :: (nat_lit 61) :: (nat_lit 62) :: (nat_lit 64) :: (nat_lit 65) :: (nat_lit 66) :: (nat_lit 68) :: (nat_lit 69) :: (nat_lit 71) :: (nat_lit 72) :: (nat_lit 73) :: (nat_lit 75) :: (nat_lit 76) :: (nat_lit 78) :: (nat_lit 79) :: (nat_lit 80) :: (nat_lit 82) :: (nat_lit 83) :: (nat_lit 85) :: (nat_lit 86) :: (nat_lit 87) :: (nat_lit 89) :: (nat_lit 90) :: (nat_lit 92) :: (nat_lit 93) :: (nat_lit 94) :: (nat_lit 96) :: (nat_lit 97) :: (nat_lit 99) :: (nat_lit 100) :: (nat_lit 101) :: (nat_lit 103) :: (nat_lit 104) :: (nat_lit 106) :: (nat_lit 107) :: (nat_lit 108) :: (nat_lit 111) :: (nat_lit 112) :: (nat_lit 120) :: (nat_lit 122) :: (nat_lit 123) :: (nat_lit 125) :: (nat_lit 126) :: (nat_lit 127) :: (nat_lit 130) :: (nat_lit 131) :: (nat_lit 132) :: (nat_lit 135) :: (nat_lit 136) :: (nat_lit 137) :: (nat_lit 139) :: (nat_lit 140) :: (nat_lit 142) :: (nat_lit 143) :: (nat_lit 144) :: (nat_lit 146) :: (nat_lit 147) :: (nat_lit 149) :: (nat_lit 150) :: (nat_lit 151) :: (nat_lit 153) :: (nat_lit 154) :: (nat_lit 156) :: (nat_lit 157) :: (nat_lit 158) :: (nat_lit 160) :: (nat_lit 161) :: (nat_lit 163) :: (nat_lit 164) :: (nat_lit 165) :: (nat_lit 167) :: (nat_lit 168) :: (nat_lit 170) :: (nat_lit 171) :: (nat_lit 172) :: (nat_lit 173) :: (nat_lit 174) :: (nat_lit 175) :: (nat_lit 176) :: (nat_lit 179) :: (nat_lit 181) :: (nat_lit 182) :: (nat_lit 184) :: (nat_lit 185) :: (nat_lit 186) :: (nat_lit 188) :: (nat_lit 189) :: (nat_lit 191) :: (nat_lit 192) :: (nat_lit 193) :: (nat_lit 195) :: (nat_lit 196) :: (nat_lit 198) :: (nat_lit 199) :: (nat_lit 200) :: (nat_lit 202) :: (nat_lit 203) :: (nat_lit 205) :: (nat_lit 206) :: (nat_lit 207) :: (nat_lit 209) :: (nat_lit 210) :: (nat_lit 212) :: (nat_lit 213) :: (nat_lit 214) :: (nat_lit 216) :: (nat_lit 217) :: (nat_lit 219) :: (nat_lit 220) :: (nat_lit 221) :: (nat_lit 224) :: (nat_lit 225) :: []) hkH).says (OpenRow.toRowW (OpenLaw.row PySem.Challenge.rw_ui0509_10)) dH [] fun f vs => PySem.call f vs) : PySem.Challenge.rw_ui0509_10.Holds := by
  refine holds_law saidH fun said => holds_open (r := OpenLaw.row PySem.Challenge.rw_ui0509_10) (q := vq) (loose := [Str.ofString "MOST", Str.ofString "frac", Str.ofString "need"]) (Xt := (fun s => xlAt vq ([(Str.ofString "MOST", (.int 100000000000000000000000000000000000000000000000000000000000000000000000000000000000000000000000000000000000000000000000000000000000000000000000000000000000000000000000000000000000000000000000000000000000000000000000000000000000000000000000000000000000000000000000000000000000000000000000000000000000000000000000000000000000000000000000000000000000000000000000000000000000000000000000000000000000000000000000000000000000000000000000000000000000000000000000000000000000000000000000000000000000000000000000000000000000000000000000000000000000000000000000000000000000000000000000000000000000000000000000000000000000000000000000000000000000000000000000000000000000000000000000000000000000000000000000000000000000000000000000000000000000000000000000000000000000000000000000000000000000000000000000000000000000000000000000000000000000000000000000000000000000000000000000000000000000000000000000000000000000000000000000000000000000000000000000000000000000000000000000000000000000000000000000000000000000000000000000000000000000000000000000000000000000000000000000000000000000000000000000000000000000000000000000000000000000000000000000000000000000000000000000000000000000000000000000000000000000000000000000000000000000000000000000000000000000000000000000000000000000000000000000000000000000000000000000000000000000000000000000000000000000000000000000000000000000000000000000000000000000000000000000000000000000000000000000000000000000000000000000000000000000000000000000000000000000000000000000000000000000000000000000000000000000000000000000000000000000000000000000000000000000000000000000000000000000000000000000000000000000000000000000000000000000000000000000000000000000000000000000000000000000000000000000000000000000000000000000000000000000000000000000000000000000000000000000000000000000000000000000000000000000000000000000000000000000000000000000000000000000000000000000000000000000000000000000000000000000000000000000000000000000000000000000000000000000000000000000000000000000000000000000000000000))] : List (Str × WData)) s && recOk (RowW.records (OpenRow.toRowW (OpenLaw.row PySem.Challenge.rw_ui0509_10))) s)) (XP := XL vq ([(Str.ofString "MOST", (.int 100000000000000000000000000000000000000000000000000000000000000000000000000000000000000000000000000000000000000000000000000000000000000000000000000000000000000000000000000000000000000000000000000000000000000000000000000000000000000000000000000000000000000000000000000000000000000000000000000000000000000000000000000000000000000000000000000000000000000000000000000000000000000000000000000000000000000000000000000000000000000000000000000000000000000000000000000000000000000000000000000000000000000000000000000000000000000000000000000000000000000000000000000000000000000000000000000000000000000000000000000000000000000000000000000000000000000000000000000000000000000000000000000000000000000000000000000000000000000000000000000000000000000000000000000000000000000000000000000000000000000000000000000000000000000000000000000000000000000000000000000000000000000000000000000000000000000000000000000000000000000000000000000000000000000000000000000000000000000000000000000000000000000000000000000000000000000000000000000000000000000000000000000000000000000000000000000000000000000000000000000000000000000000000000000000000000000000000000000000000000000000000000000000000000000000000000000000000000000000000000000000000000000000000000000000000000000000000000000000000000000000000000000000000000000000000000000000000000000000000000000000000000000000000000000000000000000000000000000000000000000000000000000000000000000000000000000000000000000000000000000000000000000000000000000000000000000000000000000000000000000000000000000000000000000000000000000000000000000000000000000000000000000000000000000000000000000000000000000000000000000000000000000000000000000000000000000000000000000000000000000000000000000000000000000000000000000000000000000000000000000000000000000000000000000000000000000000000000000000000000000000000000000000000000000000000000000000000000000000000000000000000000000000000000000000000000000000000000000000000000000000000000000000000000000000000000000000000000000000000000000000000000000000000))] : List (Str × WData))) (Yf := Hook.obs (kHook K ((nat_lit 2) :: (nat_lit 3) :: (nat_lit 15) :: (nat_lit 22) :: (nat_lit 23) :: (nat_lit 24) :: (nat_lit 25) :: (nat_lit 28) :: (nat_lit 29) :: (nat_lit 31) :: (nat_lit 32) :: (nat_lit 34) :: (nat_lit 35) :: (nat_lit 36) :: (nat_lit 37) :: (nat_lit 39) :: (nat_lit 40) :: (nat_lit 42) :: (nat_lit 43) :: (nat_lit 44) :: (nat_lit 45) :: (nat_lit 47) :: (nat_lit 48) :: (nat_lit 50) :: (nat_lit 51) :: (nat_lit 52) :: (nat_lit 54) :: (nat_lit 55) :: (nat_lit 57) :: (nat_lit 58) :: (nat_lit 59) :: (nat_lit 61) :: (nat_lit 62) :: (nat_lit 64) :: (nat_lit 65) :: (nat_lit 66) :: (nat_lit 68) :: (nat_lit 69) :: (nat_lit 71) :: (nat_lit 72) :: (nat_lit 73) :: (nat_lit 75) :: (nat_lit 76) :: (nat_lit 78) :: (nat_lit 79) :: (nat_lit 80) :: (nat_lit 82) :: (nat_lit 83) :: (nat_lit 85) :: (nat_lit 86) :: (nat_lit 87) :: (nat_lit 89) :: (nat_lit 90) :: (nat_lit 92) :: (nat_lit 93) :: (nat_lit 94) :: (nat_lit 96) :: (nat_lit 97) :: (nat_lit 99) :: (nat_lit 100) :: (nat_lit 101) :: (nat_lit 103) :: (nat_lit 104) :: (nat_lit 106) :: (nat_lit 107) :: (nat_lit 108) :: (nat_lit 111) :: (nat_lit 112) :: (nat_lit 120) :: (nat_lit 122) :: (nat_lit 123) :: (nat_lit 125) :: (nat_lit 126) :: (nat_lit 127) :: (nat_lit 130) :: (nat_lit 131) :: (nat_lit 132) :: (nat_lit 135) :: (nat_lit 136) :: (nat_lit 137) :: (nat_lit 139) :: (nat_lit 140) :: (nat_lit 142) :: (nat_lit 143) :: (nat_lit 144) :: (nat_lit 146) :: (nat_lit 147) :: (nat_lit 149) :: (nat_lit 150) :: (nat_lit 151) :: (nat_lit 153) :: (nat_lit 154) :: (nat_lit 156) :: (nat_lit 157) :: (nat_lit 158) :: (nat_lit 160) :: (nat_lit 161) :: (nat_lit 163) :: (nat_lit 164) :: (nat_lit 165) :: (nat_lit 167) :: (nat_lit 168) :: (nat_lit 170) :: (nat_lit 171) :: (nat_lit 172) :: (nat_lit 173) :: (nat_lit 174) :: (nat_lit 175) :: (nat_lit 176) :: (nat_lit 179) :: (nat_lit 181) :: (nat_lit 182) :: (nat_lit 184) :: (nat_lit 185) :: (nat_lit 186) :: (nat_lit 188) :: (nat_lit 189) :: (nat_lit 191) :: (nat_lit 192) :: (nat_lit 193) :: (nat_lit 195) :: (nat_lit 196) :: (nat_lit 198) :: (nat_lit 199) :: (nat_lit 200) :: (nat_lit 202) :: (nat_lit 203) :: (nat_lit 205) :: (nat_lit 206) :: (nat_lit 207) :: (nat_lit 209) :: (nat_lit 210) :: (nat_lit 212) :: (nat_lit 213) :: (nat_lit 214) :: (nat_lit 216) :: (nat_lit 217) :: (nat_lit 219) :: (nat_lit 220) :: (nat_lit 221) :: (nat_lit 224) :: (nat_lit 225) :: []) hkH)) (Ya := Hook.val (kHook K ((nat_lit 2) :: (nat_lit 3) :: (nat_lit 15) :: (nat_lit 22) :: (nat_lit 23) :: (nat_lit 24) :: (nat_lit 25) :: (nat_lit 28) :: (nat_lit 29) :: (nat_lit 31) :: (nat_lit 32) :: (nat_lit 34) :: (nat_lit 35) :: (nat_lit 36) :: (nat_lit 37) :: (nat_lit 39) :: (nat_lit 40) :: (nat_lit 42) :: (nat_lit 43) :: (nat_lit 44) :: (nat_lit 45) :: (nat_lit 47) :: (nat_lit 48) :: (nat_lit 50) :: (nat_lit 51) :: (nat_lit 52) :: (nat_lit 54) :: (nat_lit 55) :: (nat_lit 57) :: (nat_lit 58) :: (nat_lit 59) :: (nat_lit 61) :: (nat_lit 62) :: (nat_lit 64) :: (nat_lit 65) :: (nat_lit 66) :: (nat_lit 68) :: (nat_lit 69) :: (nat_lit 71) :: (nat_lit 72) :: (nat_lit 73) :: (nat_lit 75) :: (nat_lit 76) :: (nat_lit 78) :: (nat_lit 79) :: (nat_lit 80) :: (nat_lit 82) :: (nat_lit 83) :: (nat_lit 85) :: (nat_lit 86) :: (nat_lit 87) :: (nat_lit 89) :: (nat_lit 90) :: (nat_lit 92) :: (nat_lit 93) :: (nat_lit 94) :: (nat_lit 96) :: (nat_lit 97) :: (nat_lit 99) :: (nat_lit 100) :: (nat_lit 101) :: (nat_lit 103) :: (nat_lit 104) :: (nat_lit 106) :: (nat_lit 107) :: (nat_lit 108) :: (nat_lit 111) :: (nat_lit 112) :: (nat_lit 120) :: (nat_lit 122) :: (nat_lit 123) :: (nat_lit 125) :: (nat_lit 126) :: (nat_lit 127) :: (nat_lit 130) :: (nat_lit 131) :: (nat_lit 132) :: (nat_lit 135) :: (nat_lit 136) :: (nat_lit 137) :: (nat_lit 139) :: (nat_lit 140) :: (nat_lit 142) :: (nat_lit 143) :: (nat_lit 144) :: (nat_lit 146) :: (nat_lit 147) :: (nat_lit 149) :: (nat_lit 150) :: (nat_lit 151) :: (nat_lit 153) :: (nat_lit 154) :: (nat_lit 156) :: (nat_lit 157) :: (nat_lit 158) :: (nat_lit 160) :: (nat_lit 161) :: (nat_lit 163) :: (nat_lit 164) :: (nat_lit 165) :: (nat_lit 167) :: (nat_lit 168) :: (nat_lit 170) :: (nat_lit 171) :: (nat_lit 172) :: (nat_lit 173) :: (nat_lit 174) :: (nat_lit 175) :: (nat_lit 176) :: (nat_lit 179) :: (nat_lit 181) :: (nat_lit 182) :: (nat_lit 184) :: (nat_lit 185) :: (nat_lit 186) :: (nat_lit 188) :: (nat_lit 189) :: (nat_lit 191) :: (nat_lit 192) :: (nat_lit 193) :: (nat_lit 195) :: (nat_lit 196) :: (nat_lit 198) :: (nat_lit 199) :: (nat_lit 200) :: (nat_lit 202) :: (nat_lit 203) :: (nat_lit 205) :: (nat_lit 206) :: (nat_lit 207) :: (nat_lit 209) :: (nat_lit 210) :: (nat_lit 212) :: (nat_lit 213) :: (nat_lit 214) :: (nat_lit 216) :: (nat_lit 217) :: (nat_lit 219) :: (nat_lit 220) :: (nat_lit 221) :: (nat_lit 224) :: (nat_lit 225) :: []) hkH)) (YP := Hook.says (kHook K ((nat_lit 2) :: (nat_lit 3) :: (nat_lit 15) :: (nat_lit 22) :: (nat_lit 23) :: (nat_lit 24) :: (nat_lit 25) :: (nat_lit 28) :: (nat_lit 29) :: (nat_lit 31) :: (nat_lit 32) :: (nat_lit 34) :: (nat_lit 35) :: (nat_lit 36) :: (nat_lit 37) :: (nat_lit 39) :: (nat_lit 40) :: (nat_lit 42) :: (nat_lit 43) :: (nat_lit 44) :: (nat_lit 45) :: (nat_lit 47) :: (nat_lit 48) :: (nat_lit 50) :: (nat_lit 51) :: (nat_lit 52) :: (nat_lit 54) :: (nat_lit 55) :: (nat_lit 57) :: (nat_lit 58) :: (nat_lit 59) :: (nat_lit 61) :: (nat_lit 62) :: (nat_lit 64) :: (nat_lit 65) :: (nat_lit 66) :: (nat_lit 68) :: (nat_lit 69) :: (nat_lit 71) :: (nat_lit 72) :: (nat_lit 73) :: (nat_lit 75) :: (nat_lit 76) :: (nat_lit 78) :: (nat_lit 79) :: (nat_lit 80) :: (nat_lit 82) :: (nat_lit 83) :: (nat_lit 85) :: (nat_lit 86) :: (nat_lit 87) :: (nat_lit 89) :: (nat_lit 90) :: (nat_lit 92) :: (nat_lit 93) :: (nat_lit 94) :: (nat_lit 96) :: (nat_lit 97) :: (nat_lit 99) :: (nat_lit 100) :: (nat_lit 101) :: (nat_lit 103) :: (nat_lit 104) :: (nat_lit 106) :: (nat_lit 107) :: (nat_lit 108) :: (nat_lit 111) :: (nat_lit 112) :: (nat_lit 120) :: (nat_lit 122) :: (nat_lit 123) :: (nat_lit 125) :: (nat_lit 126) :: (nat_lit 127) :: (nat_lit 130) :: (nat_lit 131) :: (nat_lit 132) :: (nat_lit 135) :: (nat_lit 136) :: (nat_lit 137) :: (nat_lit 139) :: (nat_lit 140) :: (nat_lit 142) :: (nat_lit 143) :: (nat_lit 144) :: (nat_lit 146) :: (nat_lit 147) :: (nat_lit 149) :: (nat_lit 150) :: (nat_lit 151) :: (nat_lit 153) :: (nat_lit 154) :: (nat_lit 156) :: (nat_lit 157) :: (nat_lit 158) :: (nat_lit 160) :: (nat_lit 161) :: (nat_lit 163) :: (nat_lit 164) :: (nat_lit 165) :: (nat_lit 167) :: (nat_lit 168) :: (nat_lit 170) :: (nat_lit 171) :: (nat_lit 172) :: (nat_lit 173) :: (nat_lit 174) :: (nat_lit 175) :: (nat_lit 176) :: (nat_lit 179) :: (nat_lit 181) :: (nat_lit 182) :: (nat_lit 184) :: (nat_lit 185) :: (nat_lit 186) :: (nat_lit 188) :: (nat_lit 189) :: (nat_lit 191) :: (nat_lit 192) :: (nat_lit 193) :: (nat_lit 195) :: (nat_lit 196) :: (nat_lit 198) :: (nat_lit 199) :: (nat_lit 200) :: (nat_lit 202) :: (nat_lit 203) :: (nat_lit 205) :: (nat_lit 206) :: (nat_lit 207) :: (nat_lit 209) :: (nat_lit 210) :: (nat_lit 212) :: (nat_lit 213) :: (nat_lit 214) :: (nat_lit 216) :: (nat_lit 217) :: (nat_lit 219) :: (nat_lit 220) :: (nat_lit 221) :: (nat_lit 224) :: (nat_lit 225) :: []) hkH)) (N := 2752) (d := dH) (kwd := []) leftH (Hook.of (kHook K ((nat_lit 2) :: (nat_lit 3) :: (nat_lit 15) :: (nat_lit 22) :: (nat_lit 23) :: (nat_lit 24) :: (nat_lit 25) :: (nat_lit 28) :: (nat_lit 29) :: (nat_lit 31) :: (nat_lit 32) :: (nat_lit 34) :: (nat_lit 35) :: (nat_lit 36) :: (nat_lit 37) :: (nat_lit 39) :: (nat_lit 40) :: (nat_lit 42) :: (nat_lit 43) :: (nat_lit 44) :: (nat_lit 45) :: (nat_lit 47) :: (nat_lit 48) :: (nat_lit 50) :: (nat_lit 51) :: (nat_lit 52) :: (nat_lit 54) :: (nat_lit 55) :: (nat_lit 57) :: (nat_lit 58) :: (nat_lit 59) :: (nat_lit 61) :: (nat_lit 62) :: (nat_lit 64) :: (nat_lit 65) :: (nat_lit 66) :: (nat_lit 68) :: (nat_lit 69) :: (nat_lit 71) :: (nat_lit 72) :: (nat_lit 73) :: (nat_lit 75) :: (nat_lit 76) :: (nat_lit 78) :: (nat_lit 79) :: (nat_lit 80) :: (nat_lit 82) :: (nat_lit 83) :: (nat_lit 85) :: (nat_lit 86) :: (nat_lit 87) :: (nat_lit 89) :: (nat_lit 90) :: (nat_lit 92) :: (nat_lit 93) :: (nat_lit 94) :: (nat_lit 96) :: (nat_lit 97) :: (nat_lit 99) :: (nat_lit 100) :: (nat_lit 101) :: (nat_lit 103) :: (nat_lit 104) :: (nat_lit 106) :: (nat_lit 107) :: (nat_lit 108) :: (nat_lit 111) :: (nat_lit 112) :: (nat_lit 120) :: (nat_lit 122) :: (nat_lit 123) :: (nat_lit 125) :: (nat_lit 126) :: (nat_lit 127) :: (nat_lit 130) :: (nat_lit 131) :: (nat_lit 132) :: (nat_lit 135) :: (nat_lit 136) :: (nat_lit 137) :: (nat_lit 139) :: (nat_lit 140) :: (nat_lit 142) :: (nat_lit 143) :: (nat_lit 144) :: (nat_lit 146) :: (nat_lit 147) :: (nat_lit 149) :: (nat_lit 150) :: (nat_lit 151) :: (nat_lit 153) :: (nat_lit 154) :: (nat_lit 156) :: (nat_lit 157) :: (nat_lit 158) :: (nat_lit 160) :: (nat_lit 161) :: (nat_lit 163) :: (nat_lit 164) :: (nat_lit 165) :: (nat_lit 167) :: (nat_lit 168) :: (nat_lit 170) :: (nat_lit 171) :: (nat_lit 172) :: (nat_lit 173) :: (nat_lit 174) :: (nat_lit 175) :: (nat_lit 176) :: (nat_lit 179) :: (nat_lit 181) :: (nat_lit 182) :: (nat_lit 184) :: (nat_lit 185) :: (nat_lit 186) :: (nat_lit 188) :: (nat_lit 189) :: (nat_lit 191) :: (nat_lit 192) :: (nat_lit 193) :: (nat_lit 195) :: (nat_lit 196) :: (nat_lit 198) :: (nat_lit 199) :: (nat_lit 200) :: (nat_lit 202) :: (nat_lit 203) :: (nat_lit 205) :: (nat_lit 206) :: (nat_lit 207) :: (nat_lit 209) :: (nat_lit 210) :: (nat_lit 212) :: (nat_lit 213) :: (nat_lit 214) :: (nat_lit 216) :: (nat_lit 217) :: (nat_lit 219) :: (nat_lit 220) :: (nat_lit 221) :: (nat_lit 224) :: (nat_lit 225) :: []) hkH)) (Hook.keeps (kHook K ((nat_lit 2) :: (nat_lit 3) :: (nat_lit 15) :: (nat_lit 22) :: (nat_lit 23) :: (nat_lit 24) :: (nat_lit 25) :: (nat_lit 28) :: (nat_lit 29) :: (nat_lit 31) :: (nat_lit 32) :: (nat_lit 34) :: (nat_lit 35) :: (nat_lit 36) :: (nat_lit 37) :: (nat_lit 39) :: (nat_lit 40) :: (nat_lit 42) :: (nat_lit 43) :: (nat_lit 44) :: (nat_lit 45) :: (nat_lit 47) :: (nat_lit 48) :: (nat_lit 50) :: (nat_lit 51) :: (nat_lit 52) :: (nat_lit 54) :: (nat_lit 55) :: (nat_lit 57) :: (nat_lit 58) :: (nat_lit 59) :: (nat_lit 61) :: (nat_lit 62) :: (nat_lit 64) :: (nat_lit 65) :: (nat_lit 66) :: (nat_lit 68) :: (nat_lit 69) :: (nat_lit 71) :: (nat_lit 72) :: (nat_lit 73) :: (nat_lit 75) :: (nat_lit 76) :: (nat_lit 78) :: (nat_lit 79) :: (nat_lit 80) :: (nat_lit 82) :: (nat_lit 83) :: (nat_lit 85) :: (nat_lit 86) :: (nat_lit 87) :: (nat_lit 89) :: (nat_lit 90) :: (nat_lit 92) :: (nat_lit 93) :: (nat_lit 94) :: (nat_lit 96) :: (nat_lit 97) :: (nat_lit 99) :: (nat_lit 100) :: (nat_lit 101) :: (nat_lit 103) :: (nat_lit 104) :: (nat_lit 106) :: (nat_lit 107) :: (nat_lit 108) :: (nat_lit 111) :: (nat_lit 112) :: (nat_lit 120) :: (nat_lit 122) :: (nat_lit 123) :: (nat_lit 125) :: (nat_lit 126) :: (nat_lit 127) :: (nat_lit 130) :: (nat_lit 131) :: (nat_lit 132) :: (nat_lit 135) :: (nat_lit 136) :: (nat_lit 137) :: (nat_lit 139) :: (nat_lit 140) :: (nat_lit 142) :: (nat_lit 143) :: (nat_lit 144) :: (nat_lit 146) :: (nat_lit 147) :: (nat_lit 149) :: (nat_lit 150) :: (nat_lit 151) :: (nat_lit 153) :: (nat_lit 154) :: (nat_lit 156) :: (nat_lit 157) :: (nat_lit 158) :: (nat_lit 160) :: (nat_lit 161) :: (nat_lit 163) :: (nat_lit 164) :: (nat_lit 165) :: (nat_lit 167) :: (nat_lit 168) :: (nat_lit 170) :: (nat_lit 171) :: (nat_lit 172) :: (nat_lit 173) :: (nat_lit 174) :: (nat_lit 175) :: (nat_lit 176) :: (nat_lit 179) :: (nat_lit 181) :: (nat_lit 182) :: (nat_lit 184) :: (nat_lit 185) :: (nat_lit 186) :: (nat_lit 188) :: (nat_lit 189) :: (nat_lit 191) :: (nat_lit 192) :: (nat_lit 193) :: (nat_lit 195) :: (nat_lit 196) :: (nat_lit 198) :: (nat_lit 199) :: (nat_lit 200) :: (nat_lit 202) :: (nat_lit 203) :: (nat_lit 205) :: (nat_lit 206) :: (nat_lit 207) :: (nat_lit 209) :: (nat_lit 210) :: (nat_lit 212) :: (nat_lit 213) :: (nat_lit 214) :: (nat_lit 216) :: (nat_lit 217) :: (nat_lit 219) :: (nat_lit 220) :: (nat_lit 221) :: (nat_lit 224) :: (nat_lit 225) :: []) hkH)) (fun s e => xl_of s (Bool.and_eq_true_iff.mp e).1) XL.keeps ?hdef ?hp ?hk (fun s e => recFacts_of (Bool.and_eq_true_iff.mp e).2) ?wr said okH ⟨rfl, rfl, rfl, rfl, rfl, by decide +kernel⟩ ?hw walk
  case hdef => kernel_rfl!
  case hp => kernel_rfl!
  case hk => kernel_rfl!
  case wr => rfl
  case hw => w_witness2
end HD

namespace Mine

theorem un1 {a b d e : Nat} (h : a + e < d) (hb : b ≤ e) : a + b < d := by omega
theorem un2 {a b c d e : Nat} (h : a + e < d) (hb : b + c ≤ e) : a + b + c < d := by omega
theorem un3 {a b c f d e : Nat} (h : a + e < d) (hb : b + c + f ≤ e) : a + b + c + f < d := by omega
-- a call over a part of the ledger: the callee walks over NEED alone; the rest of the ledger is kept by its ground
theorem in_of {K : Frag} {h₀ h : Heap} {L : Addr} {m : Str → Option Value} (F : Fr h₀ L h m) (X : K.In h₀) : K.In h := X.keeps F.keep
def restOf (news need : List (Addr × Obj)) : List (Addr × Obj) := news.filter fun p => !(need.map (·.1)).contains p.1
theorem mem_rest {news need : List (Addr × Obj)} {p : Addr × Obj} (h : p ∈ news) (hn : p.1 ∉ need.map (·.1)) : p ∈ restOf news need :=
  List.mem_filter.mpr ⟨h, by simpa [List.contains_iff_mem] using hn⟩
theorem rest_mem {news need : List (Addr × Obj)} {p : Addr × Obj} (h : p ∈ restOf news need) : p ∈ news ∧ p.1 ∉ need.map (·.1) := by
  obtain ⟨h1, h2⟩ := List.mem_filter.mp h
  exact ⟨h1, by simpa [List.contains_iff_mem] using h2⟩
theorem mem_rest0 {news : List (Addr × Obj)} {p : Addr × Obj} (h : p ∈ news) : p ∈ restOf news [] := mem_rest h (by simp)
def LeaveN (h₀ : Heap) (L : Addr) (m : Str → Option Value) (g : Heap) (news need : List (Addr × Obj)) (R : Result → Shared → Prop) (v : Value) (s' : Shared) : Prop :=
  ∃ L' m' news', Fr g L' s'.heap m' ∧ News g L' s'.heap news' ∧ (Fr h₀ L s'.heap m → News h₀ L s'.heap news' → News h₀ L s'.heap (restOf news need) → (∀ p ∈ restOf news need, ∀ q ∈ news', p.1 ≠ q.1) → R (.ok (.ret v)) s')
theorem leaveN_ {h₀ g : Heap} {L L' : Addr} {m m' : Str → Option Value} {news need news' : List (Addr × Obj)} {R : Result → Shared → Prop} {v : Value} {s' : Shared} (F' : Fr g L' s'.heap m') (N' : News g L' s'.heap news')
    (k : Fr h₀ L s'.heap m → News h₀ L s'.heap news' → News h₀ L s'.heap (restOf news need) → (∀ p ∈ restOf news need, ∀ q ∈ news', p.1 ≠ q.1) → R (.ok (.ret v)) s') : LeaveN h₀ L m g news need R v s' := ⟨L', m', news', F', N', k⟩
theorem leaveN_K {h₀ h g : Heap} {L : Addr} {m : Str → Option Value} {news need : List (Addr × Obj)} {R : Result → Shared → Prop} {v : Value} {s' : Shared} (N : News h₀ L h news) (hg : g = hideAll h (need.map (·.1)))
    (hl : LeaveN h₀ L m g news need R v s') : LeaveK h₀ L m g R v s' := by
  obtain ⟨L', m', news', F', N', k⟩ := hl
  have keep : ∀ p ∈ restOf news need, g.get? p.1 = some p.2 := fun p hp => by
    obtain ⟨h1, h2⟩ := rest_mem hp
    rw [hg]
    exact hideAll_get _ (N p h1).1 h2
  refine ⟨L', m', news', F', N', fun a b => k a b (fun p hp => ⟨F'.keep _ _ (keep p hp), (N p (rest_mem hp).1).2⟩) fun p hp q hq e => ?_⟩
  have h1 := keep p hp
  rw [e, (N' q hq).2.2] at h1
  cases h1
theorem news_back {h₀ h h' : Heap} {L : Addr} {news need full : List (Addr × Obj)} (N : News h₀ L h news) (hn : ∀ p ∈ need, p ∈ news) (N1 : News h₀ L h' full) (hf : ∀ p ∈ need, p ∈ full)
    (N2 : News h₀ L h' (restOf news need)) : News h₀ L h' news := by
  intro p hp
  by_cases q : p.1 ∈ need.map (·.1)
  · obtain ⟨p', hp', e⟩ := List.mem_map.mp q
    have h1 := (N p' (hn p' hp')).1
    have h2 := (N p hp).1
    rw [e, h2] at h1
    have : p = p' := Prod.ext e.symm (Option.some.inj h1)
    rw [this]
    exact N1 _ (hf _ hp')
  · exact N2 p (mem_rest hp q)
theorem news_all {h₀ h' : Heap} {L : Addr} {news : List (Addr × Obj)} (N2 : News h₀ L h' (restOf news [])) : News h₀ L h' news := fun p hp => N2 p (mem_rest0 hp)
theorem news_cons {h₀ h' : Heap} {L : Addr} {news : List (Addr × Obj)} {p : Addr × Obj} {full : List (Addr × Obj)} (N1 : News h₀ L h' full) (hp : p ∈ full) (N : News h₀ L h' news) : News h₀ L h' (p :: news) := by
  intro q hq
  rcases List.mem_cons.mp hq with rfl | hq
  · exact N1 _ hp
  · exact N q hq
theorem rest_two {news : List (Addr × Obj)} {x d : Addr} {ox od : Obj} (l0 : ∀ p ∈ news, p.1 < d) (l00 : d < x) {p : Addr × Obj} (hp : p ∈ news) : p ∈ restOf ((x, ox) :: (d, od) :: news) [(x, ox), (d, od)] := by
  refine mem_rest (List.mem_cons_of_mem _ (List.mem_cons_of_mem _ hp)) ?_
  have h1 := l0 p hp
  simp only [List.map_cons, List.map_nil, List.mem_cons, List.not_mem_nil, or_false, not_or]
  exact ⟨Nat.ne_of_lt (Nat.lt_trans h1 l00), Nat.ne_of_lt h1⟩
theorem ne_all {news full : List (Addr × Obj)} {q : Addr × Obj} (hd : ∀ p ∈ restOf news [], ∀ q ∈ full, p.1 ≠ q.1) (hq : q ∈ full) : ∀ p ∈ news, p.1 ≠ q.1 := fun p hp => hd p (mem_rest0 hp) q hq
def AllNe (d : Nat) : List (Addr × Obj) → Prop
  | [] => True
  | p :: r => (@Ne Nat p.1 d) ∧ AllNe d r
theorem allNe_of {d : Addr} : ∀ {l : List (Addr × Obj)}, (∀ p ∈ l, p.1 ≠ d) → AllNe d l
  | [], _ => trivial
  | p :: _, h => ⟨h p (.head _), allNe_of fun q hq => h q (.tail _ hq)⟩
section
variable {prog : Program} {w : World} {A A₀ : Around} {s : Shared} {K : Frag} {L : Addr} {h₀ base : Heap} {m mg mb : Str → Option Value} {news : List (Addr × Obj)} {p : Program} {loose : List Str} {mean : ExcName → Option Value}
theorem code_need (need : List (Addr × Obj)) {env : Env} {outer : List Env} {R : Result → Shared → Prop} {name qual : Str} {params : Arguments} {body : List Stmt} {scope : Scope} {dV kV doc pm cdv ct oc : Value} {an od : Option Addr} {osl : Array (Option Value)} {f : Addr} {args : Args} {binds : List (Str × Value)}
    (B : Below A₀ base outer h₀) (F : Fr h₀ L s.heap m) (X₀ : K.In h₀) (N : News h₀ L s.heap news) (T : Top p loose mean mg mb h₀) (hA : A.frames = some (env :: outer)) (hf : env.frame = some L) (hke : env.scope.kind = .function)
    (ho : K.lookup f = some ⟨oc, od, .func (fnOf name qual params body scope dV kV doc pm an cdv ct), osl⟩) (hcd : codeIn K cdv qual = true) (hroom : A.depth < recursionLimit)
    (hbind : BindsTo s (fnOf name qual params body scope dV kV doc pm an cdv ct) args binds) (hloc : ∀ y ∈ binds, scope.names.lookup y.1 = some .local) (hn : ∀ p ∈ need, p ∈ news)
    (h : ∀ g L' h₁ tk, Fr h₀ L g m → Fr g L' h₁ (fun y => binds.reverse.lookup y) → News g L' h₁ need → Below A base (env :: outer) g → K.In g → Top p loose mean mg mb g → (∀ b o, s.heap.get? b = some o → b ∉ need.map (·.1) → g.get? b = some o) →
      wpAny (model prog w) (A.deeper (envOf qual scope L' f cdv)) (execs body (envOf qual scope L' f cdv))
        (fun fl s' => LeaveN h₀ L m g news need R (match fl with | .ret v => v | _ => .none) s')
        (fun e s' => wpAny (model prog w) (A.deeper (envOf qual scope L' f cdv)) (leaving (envOf qual scope L' f cdv) e) (fun _ s'' => R (.error e) s'') (fun e' s'' => R (.error e') s'') s')
        { s with heap := h₁, toks := tk })
    (hco : scope.isCoroutine = false) (hgen : scope.isGenerator = false) (hk : scope.kind = .function)
    (hcell : ∀ x ∈ scope.names, x.2 ≠ .cell) : codeAny (model prog w) A (.call (.ref f) args) R s := by
  have N0 : News h₀ L s.heap need := fun p hp => N p (hn p hp)
  obtain ⟨FG, BG, st, lv⟩ := groundX (R := R) B F N0 hA hf hke
  refine codeAny_call_def (fd := fnOf name qual params body scope dV kV doc pm an cdv ct) (body := body) (binds := binds) hroom ((X₀.keeps F.keep) _ _ ho) rfl (T.nolimit.keeps F.keep) (codeRec_of (X₀.keeps F.keep) hcd) rfl hbind hcell hloc (fun h₁ hns hk₁ => ?_) hco hgen hk
  exact wpAny_mono (h _ s.heap.objs.size h₁ _ FG ⟨hns, fun b o e => hk₁ b o (of_hideAll _ e), Nat.le_of_eq (hideAll_size _ _)⟩
    (fun p hp => ⟨hk₁ _ _ (N0 p hp).1, Nat.ne_of_lt (Heap.lt_size (N0 p hp).1), hideAll_none _ (List.mem_map_of_mem hp)⟩) BG (X₀.keeps st) (T.keeps st) (fun b o e n => hideAll_get _ e n)) (fun fl s' hl => lv _ _ (leaveN_K N rfl hl)) fun _ _ y => y
theorem code_needC (need : List (Addr × Obj)) {env : Env} {outer : List Env} {R : Result → Shared → Prop} {name qual : Str} {params : Arguments} {body : List Stmt} {scope : Scope} {dV kV doc pm cdv ct oc : Value} {an od : Option Addr} {osl : Array (Option Value)} {f : Addr} {args : Args} {binds : List (Str × Value)}
    (B : Below A₀ base outer h₀) (F : Fr h₀ L s.heap m) (X₀ : K.In h₀) (N : News h₀ L s.heap news) (T : Top p loose mean mg mb h₀) (hA : A.frames = some (env :: outer)) (hf : env.frame = some L) (hke : env.scope.kind = .function)
    (ho : K.lookup f = some ⟨oc, od, .func (fnOf name qual params body scope dV kV doc pm an cdv ct), osl⟩) (hcd : codeIn K cdv qual = true) (hroom : A.depth < recursionLimit)
    (hbind : BindsTo s (fnOf name qual params body scope dV kV doc pm an cdv ct) args binds) (hkind : (binds.all fun y => scope.names.lookup y.1 == some .local || scope.names.lookup y.1 == some .cell) = true)
    (hnd : ((cellsFrom 0 scope.names []).map (·.1)).Nodup) (hn : ∀ p ∈ need, p ∈ news)
    (h : ∀ g L' h₁ tk cells, Fr h₀ L g m → Fr g L' h₁ (bindL (envOfC qual scope L' f cdv).kindOf binds fun _ => none) → News g L' h₁ (cells ++ need) →
      CellsAre (bindC (envOfC qual scope L' f cdv).kindOf binds fun _ => none) (cellsFrom (L' + 1) scope.names []) cells → Below A base (env :: outer) g → K.In g → Top p loose mean mg mb g → (∀ p ∈ need, p.1 < L') → (∀ b o, s.heap.get? b = some o → b ∉ need.map (·.1) → g.get? b = some o) →
      wpAny (model prog w) (A.deeper (envOfC qual scope L' f cdv)) (execs body (envOfC qual scope L' f cdv))
        (fun fl s' => LeaveN h₀ L m g news need R (match fl with | .ret v => v | _ => .none) s')
        (fun e s' => wpAny (model prog w) (A.deeper (envOfC qual scope L' f cdv)) (leaving (envOfC qual scope L' f cdv) e) (fun _ s'' => R (.error e) s'') (fun e' s'' => R (.error e') s'') s')
        { s with heap := h₁, toks := tk })
    (hco : scope.isCoroutine = false) (hgen : scope.isGenerator = false) (hk : scope.kind = .function) : codeAny (model prog w) A (.call (.ref f) args) R s := by
  have N0 : News h₀ L s.heap need := fun p hp => N p (hn p hp)
  obtain ⟨FG, BG, st, lv⟩ := groundX (R := R) B F N0 hA hf hke
  refine codeAny_call_function hroom ((X₀.keeps F.keep) _ _ ho) rfl hco hgen rfl (codeRec_of (X₀.keeps F.keep) hcd) (hbind _ _ _ _ ?_)
  refine wpAny_newFunctionEnv_cells hk (kindsX hkind _) fun env' he s' x => ?_
  subst he
  refine ⟨(T.nolimit.keeps F.keep).keeps x.toInCall.keep, codeAny_func ?_⟩
  obtain ⟨h₁, tk, rfl, _⟩ := x.done
  have hk₁ := x.toInCall.keep
  obtain ⟨cells, NC, Y⟩ := Cl.news (h₀ := s.heap) (Nat.le_refl _) fun n c hm => ⟨x.cell n c (lookup_of_mem_nodup (cellsFrom_names scope.names 0 (s.heap.objs.size + 1) [] [] rfl ▸ hnd) hm), x.above n c hm⟩
  refine wpAny_mono (h _ s.heap.objs.size h₁ tk cells FG ⟨x.toInCall.ns, fun b o e => hk₁ b o (of_hideAll _ e), Nat.le_of_eq (hideAll_size _ _)⟩ (fun p hp => ?_) Y BG (X₀.keeps st) (T.keeps st) (fun p hp => Heap.lt_size (N0 p hp).1) (fun b o e n => hideAll_get _ e n)) (fun fl s' hl => lv _ _ (leaveN_K N rfl hl)) fun _ _ y => y
  rcases List.mem_append.mp hp with hp | hp
  · refine ⟨(NC p hp).1, (NC p hp).2.1, ?_⟩
    cases q : (hideAll s.heap (need.map (·.1))).get? p.1 with
    | none => rfl
    | some o => have := of_hideAll _ q; rw [(NC p hp).2.2] at this; cases this
  · exact ⟨hk₁ _ _ (N0 p hp).1, Nat.ne_of_lt (Heap.lt_size (N0 p hp).1), hideAll_none _ (List.mem_map_of_mem hp)⟩
end
theorem Upd.mem {d : Addr} {o o' : Obj} {l l' : List (Addr × Obj)} (U : Upd d o o' l l') : (d, o) ∈ l := by
  obtain ⟨p, q, e, _, _, _⟩ := U.split; rw [e]; exact List.mem_append.mpr (.inr (.head _))
theorem Upd.other {d : Addr} {o o' : Obj} {l l' : List (Addr × Obj)} (U : Upd d o o' l l') {p : Addr × Obj} (h : p ∈ l') (hd : p.1 ≠ d) : p ∈ l := by
  obtain ⟨p1, q1, e1, e1', _, _⟩ := U.split
  rw [e1'] at h; rw [e1]
  rcases List.mem_append.mp h with h | h
  · exact List.mem_append.mpr (.inl h)
  · rcases List.mem_cons.mp h with h | h
    · rw [h] at hd; exact absurd rfl hd
    · exact List.mem_append.mpr (.inr (List.mem_cons_of_mem _ h))
theorem UpdF.mem {d : Addr} {o : Obj} {l : List (Addr × Obj)} {g : Obj → List (Addr × Obj)} (U : UpdF d o l g) : (d, o) ∈ l := by
  obtain ⟨p, q, e, _, _, _⟩ := U.split; rw [e]; exact List.mem_append.mpr (.inr (.head _))
theorem UpdF.other {d : Addr} {o o' : Obj} {l : List (Addr × Obj)} {g : Obj → List (Addr × Obj)} (U : UpdF d o l g) {p : Addr × Obj} (h : p ∈ g o') : p = (d, o') ∨ (p ∈ l ∧ p.1 ≠ d) := by
  obtain ⟨p1, q1, e1, e1', a, b⟩ := U.split
  rw [e1'] at h; rw [e1]
  rcases List.mem_append.mp h with h | h
  · exact .inr ⟨List.mem_append.mpr (.inl h), a p h⟩
  · rcases List.mem_cons.mp h with h | h
    · exact .inl h
    · exact .inr ⟨List.mem_append.mpr (.inr (List.mem_cons_of_mem _ h)), b p h⟩
theorem news_upd1 {h₀ h h' : Heap} {L x d : Addr} {ox od od' : Obj} {news full : List (Addr × Obj)} {g1 : Obj → List (Addr × Obj)} (N : News h₀ L h news) (ex : (x, ox) ∈ news) (U : UpdF d od news g1)
    (N1 : News h₀ L h' full) (fx : (x, ox) ∈ full) (fd : (d, od') ∈ full) (kR : News h₀ L h' (restOf news [(x, ox), (d, od)])) : News h₀ L h' (g1 od') := by
  intro p hp
  rcases UpdF.other U hp with rfl | ⟨hp, hd⟩
  · exact N1 _ fd
  by_cases hx : p.1 = x
  · have h1 := (N p hp).1
    have h2 := (N _ ex).1
    rw [hx, h2] at h1
    have : p = (x, ox) := Prod.ext hx (Option.some.inj h1).symm
    rw [this]
    exact N1 _ fx
  · exact kR p (mem_rest hp (by simp only [List.map_cons, List.map_nil, List.mem_cons, List.not_mem_nil, or_false, not_or]; exact ⟨hx, hd⟩))
theorem two_in {news : List (Addr × Obj)} {a b : Addr × Obj} (h1 : a ∈ news) (h2 : b ∈ news) : ∀ p ∈ [a, b], p ∈ news :=
  List.forall_mem_cons.mpr ⟨h1, List.forall_mem_cons.mpr ⟨h2, List.forall_mem_nil _⟩⟩
local macro_rules | `(tactic| walk_at "ne9") => `(tactic| first | with_reducible assumption | exact Ne.symm (by with_reducible assumption) | omega)
local macro_rules | `(tactic| k_in) => `(tactic| (refine' in_of ?fF ?fX; (case fF | fX => k_asm)))
-- the gcd loop, as plain numbers
theorem gcd_turn {a b : Int} (hb : 0 < b) : Int.gcd b (a.fmod b) = Int.gcd a b := by
  rw [Int.fmod_eq_emod_of_nonneg _ (by omega), Int.gcd_comm a b]
  conv => rhs; rw [← Int.mul_ediv_add_emod a b]
  rw [Int.gcd_mul_left_add_right]
theorem dv_turn {a b : Int} {g : Nat} (hb : b > 0) (h : Int.gcd a b = g) : 0 ≤ b ∧ 0 ≤ a.fmod b ∧ Int.gcd b (a.fmod b) = g :=
  ⟨by omega, by rw [Int.fmod_eq_emod_of_nonneg _ (by omega)]; exact Int.emod_nonneg _ (by omega), by rw [gcd_turn hb]; exact h⟩
theorem dv_less {a b : Int} (hb : b > 0) : (a.fmod b).toNat < b.toNat := by
  have h1 : a.fmod b = a % b := Int.fmod_eq_emod_of_nonneg _ (by omega)
  have h2 := Int.emod_nonneg a (show b ≠ 0 by omega)
  have h3 := Int.emod_lt_of_pos a (show 0 < b by omega)
  omega
theorem dv_end {x y a b : Int} (ha : 0 ≤ a) (hb : 0 ≤ b) (hn : ¬ b > 0) (h : Int.gcd a b = Int.gcd (if x < 0 then -x else x) (if y < 0 then -y else y)) : a = ((Int.gcd x y : Nat) : Int) := by
  have e : b = 0 := by omega
  subst e
  rw [Int.gcd_zero] at h
  have h1 : Int.gcd (if x < 0 then -x else x) (if y < 0 then -y else y) = Int.gcd x y := by
    split <;> split <;> simp
  omega
-- fractions as rationals
theorem num_p {x y g : Int} (h : ¬ y < 0) (h0 : y ≠ 0) (e : g = ((Int.gcd x y : Nat) : Int)) : x.fdiv g = (Rat.divInt x y).num := by
  rw [e, Rat.num_divInt, Int.sign_eq_one_of_pos (by omega), Int.one_mul, Int.gcd_comm, Int.fdiv_eq_ediv_of_nonneg _ (by omega)]
theorem den_p {x y g : Int} (h : ¬ y < 0) (h0 : y ≠ 0) (e : g = ((Int.gcd x y : Nat) : Int)) : y.fdiv g = ((Rat.divInt x y).den : Int) := by
  rw [e, Rat.den_divInt, if_neg (by omega), Int.gcd_comm, Int.fdiv_eq_ediv_of_nonneg _ (by omega), Int.natCast_ediv]
  congr 1
  omega
theorem num_n {x y g : Int} (h : y < 0) (e : g = ((Int.gcd (-x) (-y) : Nat) : Int)) : (-x).fdiv g = (Rat.divInt x y).num := by
  rw [← Rat.neg_divInt_neg]; exact num_p (by omega) (by omega) e
theorem den_n {x y g : Int} (h : y < 0) (e : g = ((Int.gcd (-x) (-y) : Nat) : Int)) : (-y).fdiv g = ((Rat.divInt x y).den : Int) := by
  rw [← Rat.neg_divInt_neg]; exact den_p (by omega) (by omega) e
theorem num_le (u l : Int) : (Rat.divInt u l).num.natAbs ≤ u.natAbs := by
  rw [Rat.num_divInt]
  refine Nat.le_trans (Int.natAbs_ediv_le_natAbs _ _) ?_
  rcases Int.lt_trichotomy l 0 with h | h | h
  · rw [Int.sign_eq_neg_one_of_neg h]; omega
  · subst h; simp
  · rw [Int.sign_eq_one_of_pos h]; omega
theorem den_le {u l : Int} (h : l ≠ 0) : (Rat.divInt u l).den ≤ l.natAbs := by
  rw [Rat.den_divInt, if_neg h]
  exact Nat.div_le_self _ _
theorem r_plus (r q : Rat) : Rat.divInt (r.num * q.den + q.num * r.den) (r.den * q.den) = r + q := by
  rw [Rat.add_def', ← Rat.divInt_ofNat]; rfl
theorem r_minus (r q : Rat) : Rat.divInt (r.num * q.den - q.num * r.den) (r.den * q.den) = r - q := by
  rw [Rat.sub_def', ← Rat.divInt_ofNat]; rfl
theorem r_times (r q : Rat) : Rat.divInt (r.num * q.num) (r.den * q.den) = r * q := by
  rw [Rat.mul_def', ← Rat.divInt_ofNat]; rfl
theorem r_over (r q : Rat) : Rat.divInt (r.num * q.den) (r.den * q.num) = r / q := by
  rw [Rat.div_def, Rat.inv_def]
  conv => rhs; rw [← Rat.num_divInt_den r]
  rw [Rat.divInt_mul_divInt]
theorem nzmul {a b : Int} (ha : a ≠ 0) (hb : b ≠ 0) : a * b ≠ 0 := Int.mul_ne_zero ha hb
theorem nzden (r : Rat) : (r.den : Int) ≠ 0 := by have := r.den_nz; omega
-- sizes
def Fits (x : Int) : Prop := x.natAbs < 10 ^ 2000
theorem Fits.no {x g M : Int} (h : Fits x) (hg : 0 < g) (hb : x.fdiv g ≥ M) (hM : M = 10 ^ 2000) : False := by
  have h1 : (x.fdiv g).natAbs ≤ x.natAbs := by
    rw [Int.fdiv_eq_ediv_of_nonneg _ (by omega)]
    exact Int.natAbs_ediv_le_natAbs _ _
  have h2 : ((10 ^ 2000 : Nat) : Int) = M := by rw [hM]; simp
  unfold Fits at h
  generalize (10 : Nat) ^ 2000 = P at h h2
  omega
theorem Fits.noA {x g M : Int} (h : Fits x) (hg : 0 < g) (hb : (if x.fdiv g < 0 then -(x.fdiv g) else x.fdiv g) ≥ M) (hM : M = 10 ^ 2000) : False := by
  have h1 : (x.fdiv g).natAbs ≤ x.natAbs := by
    rw [Int.fdiv_eq_ediv_of_nonneg _ (by omega)]
    exact Int.natAbs_ediv_le_natAbs _ _
  have h2 : ((10 ^ 2000 : Nat) : Int) = M := by rw [hM]; simp
  unfold Fits at h
  generalize (10 : Nat) ^ 2000 = P at h h2
  omega
theorem Fits.neg {x : Int} (h : Fits x) : Fits (-x) := by unfold Fits at *; omega
theorem ten_two : (10 : Nat) ^ 2000 < 2 ^ 9000 := by decide +kernel
theorem two_ten : (2 : Nat) ^ 6643 < 10 ^ 2000 := by decide +kernel
theorem Fits.log {x : Int} {n : Nat} (h : Fits x) (h0 : 0 < n) (hn : n ≤ x.natAbs) : (n : Int).natAbs.log2 < 9000 := by
  have e : (n : Int).natAbs = n := by omega
  rw [e]
  refine (Nat.log2_lt (by omega)).mpr ?_
  unfold Fits at h
  have := ten_two
  generalize (10 : Nat) ^ 2000 = P at *
  generalize (2 : Nat) ^ 9000 = R at *
  omega
theorem Fits.of {x : Int} {n : Nat} (h : Builtin.Int.intBits x ≤ n) (hn : n ≤ 6643) : Fits x := by
  have h1 := natAbs_lt_pow_bits x
  have h2 : (2 : Nat) ^ Builtin.Int.intBits x ≤ 2 ^ 6643 := Nat.pow_le_pow_right (by decide) (by omega)
  have h3 := two_ten
  unfold Fits
  generalize (10 : Nat) ^ 2000 = P at *
  generalize (2 : Nat) ^ 6643 = R at *
  omega
theorem bits_num {u l : Int} {n : Nat} (h : Builtin.Int.intBits u ≤ n) : Builtin.Int.intBits (Rat.divInt u l).num ≤ n := bits_of_natAbs_le (num_le u l) h
theorem bits_den {u l : Int} {n : Nat} (h0 : l ≠ 0) (h : Builtin.Int.intBits l ≤ n) : Builtin.Int.intBits ((Rat.divInt u l).den : Int) ≤ n := bits_of_natAbs_le (by have := den_le (u := u) h0; omega) h

-- the calls
abbrev RatO (r : Rat) (t t' : Tok) (c : Nat) : Obj := { cls := .type "tuple", data := .seq #[.int r.num t, .int (r.den : Int) t'] c }
theorem div_c {w : World} {p : Program} {loose : List Str} {mean : ExcName → Option Value} {mg mb : Str → Option Value} (dp un : Nat) (gd : Option (List Code)) (cn : Str) (cs : Scope) (a : Addr) (ccd : Value) (cl : List (Str × Addr)) (outer : List Env) (A₀ : Around) (base h₀ : Heap) (L : Addr) (m : Str → Option Value) (news : List (Addr × Obj)) (s : Shared) (Q E : Value → Shared → Prop) (x y : Int) (t1 t2 : Tok)
    (B : Below A₀ base outer h₀) (F : Fr h₀ L s.heap m) (X : (HD.K w.params).In h₀) (N : News h₀ L s.heap news) (T : Top p loose mean mg mb h₀) (hk : cs.kind = .function)
    (hd : dp + 1 < recursionLimit) (hu : un + 8 < cLine)
    (hret : ∀ (t : Tok) (h' : Heap) (tk' : Nat), Fr h₀ L h' m → News h₀ L h' news → Q (.int ((Int.gcd x y : Nat) : Int) t) { s with heap := h', toks := tk' }) :
      wpAny (model PySem.Challenge.rw_ui0509_10.row.prog w) (ktrTop dp un gd cn cs L a ccd cl outer) (call (.ref 35) [.int x t1, .int y t2]) Q E s := by
  revert X; k_fill; intro X
  refine wpAny_call ?_
  k_dflt ktr_enter
  (k_with "exec While Compare cons nil" => k_while_given ["a!", "b!"] (fun a₀ b₀ _ a b => 0 ≤ a ∧ 0 ≤ b ∧ Int.gcd a b = Int.gcd a₀ b₀) (fun _ _ _ _ b => b.toNat) "a" "b")
  (k_with "state" => exact dv_turn (by assumption) (by assumption))
  (k_with "measure" => exact dv_less (by assumption))
  k_steps
  all_goals exact cb_retI hret (dv_end (by assumption) (by assumption) (by assumption) (by assumption)) (by k_asm) (by k_asm)
theorem div_use {w : World} {p : Program} {loose : List Str} {mean : ExcName → Option Value} {mg mb : Str → Option Value} (dp un : Nat) (gd : Option (List Code)) (cn : Str) (cs : Scope) (a : Addr) (ccd : Value) (cl : List (Str × Addr)) (outer : List Env) (A₀ : Around) (base h₀ : Heap) (L : Addr) (m : Str → Option Value) (news : List (Addr × Obj)) (s : Shared) (Q E : Value → Shared → Prop) (x y : Int) (t1 t2 : Tok)
    (B : Below A₀ base outer h₀) (F : Fr h₀ L s.heap m) (X : (HD.K w.params).In h₀) (N : News h₀ L s.heap news) (T : Top p loose mean mg mb h₀) (hk : cs.kind = .function)
    (hd : dp + 1 < recursionLimit) (hu : un + 8 < cLine) (hy : y ≠ 0) (hf : Fits y)
    (hret : ∀ (g : Int) (t : Tok) (h' : Heap) (tk' : Nat), 0 < g → g = ((Int.gcd x y : Nat) : Int) → g.natAbs.log2 < 9000 → Fr h₀ L h' m → News h₀ L h' news → Q (.int g t) { s with heap := h', toks := tk' }) :
      wpAny (model PySem.Challenge.rw_ui0509_10.row.prog w) (ktrTop dp un gd cn cs L a ccd cl outer) (call (.ref 35) [.int x t1, .int y t2]) Q E s :=
  div_c dp un gd cn cs a ccd cl outer A₀ base h₀ L m news s Q E x y t1 t2 B F X N T hk hd hu (fun t h' tk' F' N' => hret _ t h' tk' (by have := Int.gcd_pos_of_ne_zero_right x hy; omega) rfl (Fits.log hf (Int.gcd_pos_of_ne_zero_right x hy) (Int.gcd_le_natAbs_right x hy)) F' N')
theorem fr_end {h₀ h' : Heap} {L D : Addr} {m : Str → Option Value} {news : List (Addr × Obj)} {s : Shared} {Q : Value → Shared → Prop} {x y a b : Int} {t t' : Tok} {c tk' : Nat}
    (hret : ∀ (r : Rat) (D : Addr) (t t' : Tok) (c : Nat) (h' : Heap) (tk' : Nat), r = Rat.divInt x y → Fr h₀ L h' m → News h₀ L h' ((D, RatO r t t' c) :: news) → (∀ p ∈ news, p.1 < D) → Q (.ref D) { s with heap := h', toks := tk' })
    (e1 : a = (Rat.divInt x y).num) (e2 : b = ((Rat.divInt x y).den : Int)) (F : Fr h₀ L h' m) (N : News h₀ L h' ((D, ({ cls := .type "tuple", data := .seq #[.int a t, .int b t'] c } : Obj)) :: news)) (hl : ∀ p ∈ news, p.1 < D) : Q (.ref D) { s with heap := h', toks := tk' } := by
  subst e1; subst e2
  exact hret _ D t t' c h' tk' rfl F N hl
local macro_rules | `(tactic| walk_at "t1") => `(tactic| (first | exact rfl | assumption))
local macro_rules | `(tactic| walk_at "call ref") => `(tactic| (k_here; (with_reducible show wpAny _ _ (call (Value.ref 35) [Value.int _ _, Value.int _ _]) _ _ _); k_dflt (refine' div_use _ _ _ _ _ _ _ _ _ _ _ _ _ _ _ _ _ _ _ _ _ _ ?k1 ?k2 ?k3 ?k4 ?k5 ?k6 ?k7 ?k8 ?k9 ?k10 ?_; (case k1 | k2 | k3 | k4 | k5 => k_asm); (case k6 => walk_at "t1"); (case k7 => ktr_room); (case k8 => ktr_units); (case k9 => omega); (case k10 => first | assumption | exact Fits.neg (by assumption) | exact Fits.of (n := 64) (PySem.intBits_le_64 (by omega) (by omega)) (by decide)); k_whole); intro g' t' h' tk' g0' gE' gL' F' N'; (try k_sweep)))
local macro_rules | `(tactic| walk_at "t0") => `(tactic| (with_reducible assumption))
local macro_rules | `(tactic| walk_at "binaryOp FloorDiv int int") => `(tactic| (with_reducible refine floordiv_int ?ne ?_ (Or.inl (PyProof.noPylong_of_log2 ?lg)); (case lg => walk_at "t0"); (case ne => omega)))
theorem frac_c {w : World} {p : Program} {loose : List Str} {mean : ExcName → Option Value} {mg mb : Str → Option Value} (dp un : Nat) (gd : Option (List Code)) (cn : Str) (cs : Scope) (a : Addr) (ccd : Value) (cl : List (Str × Addr)) (outer : List Env) (A₀ : Around) (base h₀ : Heap) (L : Addr) (m : Str → Option Value) (news : List (Addr × Obj)) (s : Shared) (Q E : Value → Shared → Prop) (x y : Int) (t1 t2 : Tok)
    (B : Below A₀ base outer h₀) (F : Fr h₀ L s.heap m) (X : (HD.K w.params).In h₀) (N : News h₀ L s.heap news) (T : Top p loose mean mg mb h₀) (hk : cs.kind = .function)
    (hd : dp + 2 < recursionLimit) (hu : un + 16 < cLine) (hy : y ≠ 0) (hx1 : Fits x) (hy1 : Fits y)
    (hret : ∀ (r : Rat) (D : Addr) (t t' : Tok) (c : Nat) (h' : Heap) (tk' : Nat), r = Rat.divInt x y → Fr h₀ L h' m → News h₀ L h' ((D, RatO r t t' c) :: news) → (∀ p ∈ news, p.1 < D) → Q (.ref D) { s with heap := h', toks := tk' }) :
      wpAny (model PySem.Challenge.rw_ui0509_10.row.prog w) (ktrTop dp un gd cn cs L a ccd cl outer) (call (.ref 43) [.int x t1, .int y t2]) Q E s := by
  revert X; k_fill; intro X
  refine wpAny_call ?_
  k_dflt (refine' code_def ?k1 ?k2 ?k3 ?k4 ?k5 ?kA ?kF ?kK ?k6 ?k7 ?k8 ?k9 ?kB ?_ ?c2 ?c3 ?c4 ?c5; (case kA => exact rfl); (case kF => exact rfl); (case kK => assumption); (case k1 => k_asm); (case k2 => k_asm); (case k3 => k_asm); (case k4 => k_asm); (case k5 => k_asm); (case k6 => k_is); (case k7 => k_is); (case k8 => ktr_room); (case k9 => first | exact BindsTo.of_eq rfl | exact binds_K (by k_in) rfl (by k_is) rfl rfl rfl); (case c5 => decide); (case kB => exact locs rfl); (case c2 => exact rfl); (case c3 => exact rfl); (case c4 => exact rfl); k_whole; intro g' L' h' FG' F' N' B' X' T'; (try dsimp only); (try k_fold))
  k_steps
  all_goals first
    | exact absurd (by assumption) hy
    | exact fr_end hret (num_p (by assumption) hy (by assumption)) (den_p (by assumption) hy (by assumption)) (by k_asm) (by k_asm) (by assumption)
    | exact fr_end hret (num_n (by assumption) (by assumption)) (den_n (by assumption) (by assumption)) (by k_asm) (by k_asm) (by assumption)
    | exact (Fits.no hy1 (by assumption) (by assumption) (by decide +kernel)).elim
    | exact (Fits.no (Fits.neg hy1) (by assumption) (by assumption) (by decide +kernel)).elim
    | exact (Fits.noA hx1 (by assumption) (by assumption) (by decide +kernel)).elim
    | exact (Fits.noA (Fits.neg hx1) (by assumption) (by assumption) (by decide +kernel)).elim
theorem fits_one : Fits 1 := Fits.of (n := 64) (PySem.intBits_le_64 (by omega) (by omega)) (by decide)
theorem fd_end {h₀ h' : Heap} {L D : Addr} {m : Str → Option Value} {news : List (Addr × Obj)} {s : Shared} {Q : Value → Shared → Prop} {x g : Int} {t t' : Tok} {c tk' : Nat}
    (hret : ∀ (D : Addr) (t t' : Tok) (c : Nat) (h' : Heap) (tk' : Nat), Fr h₀ L h' m → News h₀ L h' ((D, ({ cls := .type "tuple", data := .seq #[.int x t, .int 1 t'] c } : Obj)) :: news) → (∀ p ∈ news, p.1 < D) → Q (.ref D) { s with heap := h', toks := tk' })
    (e : g = ((Int.gcd x 1 : Nat) : Int)) (F : Fr h₀ L h' m) (N : News h₀ L h' ((D, ({ cls := .type "tuple", data := .seq #[.int (x.fdiv g) t, .int (Int.fdiv 1 g) t'] c } : Obj)) :: news)) (hl : ∀ p ∈ news, p.1 < D) : Q (.ref D) { s with heap := h', toks := tk' } := by
  have e1 : g = 1 := by rw [e, Int.gcd_one]; rfl
  subst e1
  rw [Int.fdiv_one, Int.fdiv_one] at N
  exact hret D t t' c h' tk' F N hl
theorem frac_d {w : World} {p : Program} {loose : List Str} {mean : ExcName → Option Value} {mg mb : Str → Option Value} (dp un : Nat) (gd : Option (List Code)) (cn : Str) (cs : Scope) (a : Addr) (ccd : Value) (cl : List (Str × Addr)) (outer : List Env) (A₀ : Around) (base h₀ : Heap) (L : Addr) (m : Str → Option Value) (news : List (Addr × Obj)) (s : Shared) (Q E : Value → Shared → Prop) (x : Int) (t1 : Tok)
    (B : Below A₀ base outer h₀) (F : Fr h₀ L s.heap m) (X : (HD.K w.params).In h₀) (N : News h₀ L s.heap news) (T : Top p loose mean mg mb h₀) (hk : cs.kind = .function)
    (hd : dp + 2 < recursionLimit) (hu : un + 16 < cLine) (hx1 : Fits x)
    (hret : ∀ (D : Addr) (t t' : Tok) (c : Nat) (h' : Heap) (tk' : Nat), Fr h₀ L h' m → News h₀ L h' ((D, ({ cls := .type "tuple", data := .seq #[.int x t, .int 1 t'] c } : Obj)) :: news) → (∀ p ∈ news, p.1 < D) → Q (.ref D) { s with heap := h', toks := tk' }) :
      wpAny (model PySem.Challenge.rw_ui0509_10.row.prog w) (ktrTop dp un gd cn cs L a ccd cl outer) (call (.ref 43) [.int x t1]) Q E s := by
  revert X; k_fill; intro X
  refine wpAny_call ?_
  k_dflt (refine' code_def ?k1 ?k2 ?k3 ?k4 ?k5 ?kA ?kF ?kK ?k6 ?k7 ?k8 ?k9 ?kB ?_ ?c2 ?c3 ?c4 ?c5; (case kA => exact rfl); (case kF => exact rfl); (case kK => assumption); (case k1 => k_asm); (case k2 => k_asm); (case k3 => k_asm); (case k4 => k_asm); (case k5 => k_asm); (case k6 => k_is); (case k7 => k_is); (case k8 => ktr_room); (case k9 => first | exact BindsTo.of_eq rfl | exact binds_K (by k_in) rfl (by k_is) rfl rfl rfl); (case c5 => decide); (case kB => exact locs rfl); (case c2 => exact rfl); (case c3 => exact rfl); (case c4 => exact rfl); k_whole; intro g' L' h' FG' F' N' B' X' T'; (try dsimp only); (try k_fold))
  k_steps
  all_goals first
    | exact fd_end hret (by assumption) (by k_asm) (by k_asm) (by assumption)
    | exact (Fits.no fits_one (by assumption) (by assumption) (by decide +kernel)).elim
    | exact (Fits.noA hx1 (by assumption) (by assumption) (by decide +kernel)).elim
theorem frac_use {w : World} {p : Program} {loose : List Str} {mean : ExcName → Option Value} {mg mb : Str → Option Value} {dp un : Nat} {gd : Option (List Code)} {cn : Str} {cs : Scope} {a : Addr} {ccd : Value} {cl : List (Str × Addr)} {outer : List Env} {A₀ : Around} {base h₀ : Heap} {L : Addr} {m : Str → Option Value} {news : List (Addr × Obj)} {s : Shared} {Q E : Value → Shared → Prop} {x y : Int} {t1 t2 : Tok} {nx ny : Nat}
    (B : Below A₀ base outer h₀) (F : Fr h₀ L s.heap m) (X : (HD.K w.params).In h₀) (N : News h₀ L s.heap news) (T : Top p loose mean mg mb h₀) (hk : cs.kind = .function)
    (hd : dp + 2 < recursionLimit) (hu : un + 16 < cLine) (hy : y ≠ 0) (hx1 : Builtin.Int.intBits x ≤ nx) (hy1 : Builtin.Int.intBits y ≤ ny) (hnx : nx ≤ 6643) (hny : ny ≤ 6643)
    (hret : ∀ (r : Rat) (D : Addr) (t t' : Tok) (c : Nat) (h' : Heap) (tk' : Nat), r = Rat.divInt x y → Builtin.Int.intBits r.num ≤ nx → Builtin.Int.intBits (r.den : Int) ≤ ny → Fr h₀ L h' m → News h₀ L h' ((D, RatO r t t' c) :: news) → (∀ p ∈ news, p.1 < D) → Q (.ref D) { s with heap := h', toks := tk' }) :
      wpAny (model PySem.Challenge.rw_ui0509_10.row.prog w) (ktrTop dp un gd cn cs L a ccd cl outer) (call (.ref 43) [.int x t1, .int y t2]) Q E s :=
  frac_c dp un gd cn cs a ccd cl outer A₀ base h₀ L m news s Q E x y t1 t2 B F X N T hk hd hu hy (Fits.of hx1 hnx) (Fits.of hy1 hny) fun r D t t' c h' tk' e F' N' l => hret r D t t' c h' tk' e (e ▸ bits_num hx1) (e ▸ bits_den hy hy1) F' N' l
theorem frac_dflt {w : World} {p : Program} {loose : List Str} {mean : ExcName → Option Value} {mg mb : Str → Option Value} {dp un : Nat} {gd : Option (List Code)} {cn : Str} {cs : Scope} {a : Addr} {ccd : Value} {cl : List (Str × Addr)} {outer : List Env} {A₀ : Around} {base h₀ : Heap} {L : Addr} {m : Str → Option Value} {news : List (Addr × Obj)} {s : Shared} {Q E : Value → Shared → Prop} {x : Int} {t1 : Tok} {nx : Nat}
    (B : Below A₀ base outer h₀) (F : Fr h₀ L s.heap m) (X : (HD.K w.params).In h₀) (N : News h₀ L s.heap news) (T : Top p loose mean mg mb h₀) (hk : cs.kind = .function)
    (hd : dp + 2 < recursionLimit) (hu : un + 16 < cLine) (hx1 : Builtin.Int.intBits x ≤ nx) (hnx : nx ≤ 6643)
    (hret : ∀ (D : Addr) (t t' : Tok) (c : Nat) (h' : Heap) (tk' : Nat), Fr h₀ L h' m → News h₀ L h' ((D, ({ cls := .type "tuple", data := .seq #[.int x t, .int 1 t'] c } : Obj)) :: news) → (∀ p ∈ news, p.1 < D) → Q (.ref D) { s with heap := h', toks := tk' }) :
      wpAny (model PySem.Challenge.rw_ui0509_10.row.prog w) (ktrTop dp un gd cn cs L a ccd cl outer) (call (.ref 43) [.int x t1]) Q E s :=
  frac_d dp un gd cn cs a ccd cl outer A₀ base h₀ L m news s Q E x t1 B F X N T hk hd hu (Fits.of hx1 hnx) hret
abbrev T2 (x y : Int) (t t' : Tok) (c : Nat) : Obj := { cls := .type "tuple", data := .seq #[.int x t, .int y t'] c }
theorem tup_g {prog : Program} {w : World} {A : Around} {E : Value → Shared → Prop} {s : Shared} {h₀ : Heap} {L D : Addr} {m : Str → Option Value} {lo : Obj} {value slice : Expr} {l : List Value} {n : Nat} {k : Int} {u : Tok} {j : Nat} {x : Value} {Q : Value → Shared → Prop}
    (F : Fr h₀ L s.heap m) (e : h₀.get? D = some lo) (hc : lo.cls = .type "tuple") (hd : lo.data = .seq l.toArray n) (hlo : -(2 ^ 63) ≤ k) (hhi : k < 2 ^ 63) (hj : seqIndex? k l.length = some j) (hx : l[j]? = some x) (h : Q x s)
    (hs : subscripted slice false (.ref D) (.int k u) = operate [.ref D, .int k u] (getItem (.ref D) (.int k u))) (hg : ∀ r, letTemporaryGo value (.ref D) r = pure ()) :
    wpAny (model prog w) A (subscriptTail value slice (.ref D) (.int k u)) Q E s := item_tupleL ⟨lo, F.keep _ _ e, hc, n, hd⟩ hlo hhi hj hx h hs hg
theorem bits_one : Builtin.Int.intBits 1 ≤ 1 := by decide
local macro_rules | `(tactic| walk_at "h2") => `(tactic| (k_here; (with_reducible show wpAny _ _ (call (Value.ref 43) [Value.int _ _, Value.int _ _]) _ _ _)))
local macro_rules | `(tactic| walk_at "call ref") => `(tactic| (walk_at "h2"; k_dflt (refine' frac_c _ _ _ _ _ _ _ _ _ _ _ _ _ _ _ _ _ _ _ _ _ _ ?k1 ?k2 ?k3 ?k4 ?k5 ?k6 ?k7 ?k8 ?k9 ?k10 ?k11 ?_; (case k1 | k2 | k3 | k4 | k5 => k_asm); (case k6 => walk_at "t1"); (case k7 => ktr_room); (case k8 => ktr_units); (case k9 | k10 | k11 => assumption); k_whole); intro r' D' t' u' c' h' tk' rE' F' N' l1; (try k_sweep)))
local macro_rules | `(tactic| walk_at "binaryOp Mult int int") => `(tactic| (with_reducible refine mul_int ?_ ?mo; (case mo => assumption)))
local macro_rules | `(tactic| walk_at "h0") => `(tactic| (k_here; (with_reducible show wpAny _ _ (subscriptTail _ _ (Value.ref _) (Value.int _ _)) _ _ _)))
local macro_rules | `(tactic| walk_at "t5") => `(tactic| (with_unfolding_all rfl))
local macro_rules | `(tactic| walk_at "t6") => `(tactic| ((intro _; with_unfolding_all rfl)))
local macro_rules | `(tactic| walk_at "subscriptTail") => `(tactic| (walk_at "h0"; k_dflt (refine' tup_g ?k1 ?k2 ?k3 ?k4 ?k5 ?k6 ?k7 ?k8 ?_ ?k9 ?k10; (case k1 => k_asm); (case k2 => walk_at "t0"); (case k3 | k4 => exact rfl); (case k5 | k6 => decide); (case k7 | k8 => exact rfl); (case k9 => walk_at "t5"); (case k10 => walk_at "t6"); k_whole)))
theorem plus_c {w : World} {p : Program} {loose : List Str} {mean : ExcName → Option Value} {mg mb : Str → Option Value} {dp un : Nat} {gd : Option (List Code)} {cn : Str} {cs : Scope} {a : Addr} {ccd : Value} {cl : List (Str × Addr)} {outer : List Env} {A₀ : Around} {base h₀ : Heap} {L : Addr} {m : Str → Option Value} {news : List (Addr × Obj)} {s : Shared} {Q E : Value → Shared → Prop} {D1 D2 : Addr} {x1 y1 x2 y2 : Int} {t1 t1' t2 t2' : Tok} {c1 c2 : Nat}
    (B : Below A₀ base outer h₀) (F : Fr h₀ L s.heap m) (X : (HD.K w.params).In h₀) (N : News h₀ L s.heap news) (T : Top p loose mean mg mb h₀) (hk : cs.kind = .function) (e1 : s.heap.get? D1 = some (T2 x1 y1 t1 t1' c1)) (e2 : s.heap.get? D2 = some (T2 x2 y2 t2 t2' c2))
    (hd : dp + 3 < recursionLimit) (hu : un + 24 < cLine) (nz : y1 * y2 ≠ 0) (m0 : IntMulOk x1 y2) (m1 : IntMulOk x2 y1) (m2 : IntMulOk y1 y2) (f1 : Fits (x1 * y2 + x2 * y1)) (f2 : Fits (y1 * y2))
    (hret : ∀ (r : Rat) (D : Addr) (t t' : Tok) (c : Nat) (h' : Heap) (tk' : Nat), r = Rat.divInt (x1 * y2 + x2 * y1) (y1 * y2) → Fr h₀ L h' m → News h₀ L h' ((D, RatO r t t' c) :: news) → (∀ p ∈ news, p.1 ≠ D) → Q (.ref D) { s with heap := h', toks := tk' }) :
    wpAny (model PySem.Challenge.rw_ui0509_10.row.prog w) (ktrTop dp un gd cn cs L a ccd cl outer) (call (.ref 58) [.ref D1, .ref D2]) Q E s := by
  w_top off
  revert X; k_fill; intro X
  refine wpAny_call ?_
  k_dflt (refine' code_need [] ?k1 ?k2 ?k3 ?k4 ?k5 ?kA ?kF ?kK ?k6 ?k7 ?k8 ?k9 ?kB ?kN ?_ ?c2 ?c3 ?c4 ?c5; (case kA => exact rfl); (case kF => exact rfl); (case kK => assumption); (case k1 => k_asm); (case k2 => k_asm); (case k3 => k_asm); (case k4 => k_asm); (case k5 => k_asm); (case k6 => k_is); (case k7 => k_is); (case k8 => ktr_room); (case k9 => first | exact BindsTo.of_eq rfl | exact binds_K (by k_in) rfl (by k_is) rfl rfl rfl); (case c5 => decide); (case kB => exact locs rfl); (case kN => exact fun _ h => nomatch h); (case c2 => exact rfl); (case c3 => exact rfl); (case c4 => exact rfl); k_whole; intro g' L' h' tk0 FG' F' N' B' X' T' hG'; (try dsimp only); (try k_fold))
  replace e1 := hG' _ _ e1 (by simp)
  replace e2 := hG' _ _ e2 (by simp)
  k_steps
  all_goals first | (refine leaveN_ (by k_asm) (by k_asm) ?_; intro kF kN kR kD; (try dsimp only); exact hret _ _ _ _ _ _ _ (by assumption) kF (news_cons kN (by k_mem) (news_all kR)) (ne_all kD (List.mem_cons_self ..)))
theorem minus_c {w : World} {p : Program} {loose : List Str} {mean : ExcName → Option Value} {mg mb : Str → Option Value} {dp un : Nat} {gd : Option (List Code)} {cn : Str} {cs : Scope} {a : Addr} {ccd : Value} {cl : List (Str × Addr)} {outer : List Env} {A₀ : Around} {base h₀ : Heap} {L : Addr} {m : Str → Option Value} {news : List (Addr × Obj)} {s : Shared} {Q E : Value → Shared → Prop} {D1 D2 : Addr} {x1 y1 x2 y2 : Int} {t1 t1' t2 t2' : Tok} {c1 c2 : Nat}
    (B : Below A₀ base outer h₀) (F : Fr h₀ L s.heap m) (X : (HD.K w.params).In h₀) (N : News h₀ L s.heap news) (T : Top p loose mean mg mb h₀) (hk : cs.kind = .function) (e1 : s.heap.get? D1 = some (T2 x1 y1 t1 t1' c1)) (e2 : s.heap.get? D2 = some (T2 x2 y2 t2 t2' c2))
    (hd : dp + 3 < recursionLimit) (hu : un + 24 < cLine) (nz : y1 * y2 ≠ 0) (m0 : IntMulOk x1 y2) (m1 : IntMulOk x2 y1) (m2 : IntMulOk y1 y2) (f1 : Fits (x1 * y2 - x2 * y1)) (f2 : Fits (y1 * y2))
    (hret : ∀ (r : Rat) (D : Addr) (t t' : Tok) (c : Nat) (h' : Heap) (tk' : Nat), r = Rat.divInt (x1 * y2 - x2 * y1) (y1 * y2) → Fr h₀ L h' m → News h₀ L h' ((D, RatO r t t' c) :: news) → (∀ p ∈ news, p.1 ≠ D) → Q (.ref D) { s with heap := h', toks := tk' }) :
    wpAny (model PySem.Challenge.rw_ui0509_10.row.prog w) (ktrTop dp un gd cn cs L a ccd cl outer) (call (.ref 65) [.ref D1, .ref D2]) Q E s := by
  w_top off
  revert X; k_fill; intro X
  refine wpAny_call ?_
  k_dflt (refine' code_need [] ?k1 ?k2 ?k3 ?k4 ?k5 ?kA ?kF ?kK ?k6 ?k7 ?k8 ?k9 ?kB ?kN ?_ ?c2 ?c3 ?c4 ?c5; (case kA => exact rfl); (case kF => exact rfl); (case kK => assumption); (case k1 => k_asm); (case k2 => k_asm); (case k3 => k_asm); (case k4 => k_asm); (case k5 => k_asm); (case k6 => k_is); (case k7 => k_is); (case k8 => ktr_room); (case k9 => first | exact BindsTo.of_eq rfl | exact binds_K (by k_in) rfl (by k_is) rfl rfl rfl); (case c5 => decide); (case kB => exact locs rfl); (case kN => exact fun _ h => nomatch h); (case c2 => exact rfl); (case c3 => exact rfl); (case c4 => exact rfl); k_whole; intro g' L' h' tk0 FG' F' N' B' X' T' hG'; (try dsimp only); (try k_fold))
  replace e1 := hG' _ _ e1 (by simp)
  replace e2 := hG' _ _ e2 (by simp)
  k_steps
  all_goals first | (refine leaveN_ (by k_asm) (by k_asm) ?_; intro kF kN kR kD; (try dsimp only); exact hret _ _ _ _ _ _ _ (by assumption) kF (news_cons kN (by k_mem) (news_all kR)) (ne_all kD (List.mem_cons_self ..)))
theorem times_c {w : World} {p : Program} {loose : List Str} {mean : ExcName → Option Value} {mg mb : Str → Option Value} {dp un : Nat} {gd : Option (List Code)} {cn : Str} {cs : Scope} {a : Addr} {ccd : Value} {cl : List (Str × Addr)} {outer : List Env} {A₀ : Around} {base h₀ : Heap} {L : Addr} {m : Str → Option Value} {news : List (Addr × Obj)} {s : Shared} {Q E : Value → Shared → Prop} {D1 D2 : Addr} {x1 y1 x2 y2 : Int} {t1 t1' t2 t2' : Tok} {c1 c2 : Nat}
    (B : Below A₀ base outer h₀) (F : Fr h₀ L s.heap m) (X : (HD.K w.params).In h₀) (N : News h₀ L s.heap news) (T : Top p loose mean mg mb h₀) (hk : cs.kind = .function) (e1 : s.heap.get? D1 = some (T2 x1 y1 t1 t1' c1)) (e2 : s.heap.get? D2 = some (T2 x2 y2 t2 t2' c2))
    (hd : dp + 3 < recursionLimit) (hu : un + 24 < cLine) (nz : y1 * y2 ≠ 0) (m0 : IntMulOk x1 x2) (m1 : IntMulOk y1 y2) (f1 : Fits (x1 * x2)) (f2 : Fits (y1 * y2))
    (hret : ∀ (r : Rat) (D : Addr) (t t' : Tok) (c : Nat) (h' : Heap) (tk' : Nat), r = Rat.divInt (x1 * x2) (y1 * y2) → Fr h₀ L h' m → News h₀ L h' ((D, RatO r t t' c) :: news) → (∀ p ∈ news, p.1 ≠ D) → Q (.ref D) { s with heap := h', toks := tk' }) :
    wpAny (model PySem.Challenge.rw_ui0509_10.row.prog w) (ktrTop dp un gd cn cs L a ccd cl outer) (call (.ref 72) [.ref D1, .ref D2]) Q E s := by
  w_top off
  revert X; k_fill; intro X
  refine wpAny_call ?_
  k_dflt (refine' code_need [] ?k1 ?k2 ?k3 ?k4 ?k5 ?kA ?kF ?kK ?k6 ?k7 ?k8 ?k9 ?kB ?kN ?_ ?c2 ?c3 ?c4 ?c5; (case kA => exact rfl); (case kF => exact rfl); (case kK => assumption); (case k1 => k_asm); (case k2 => k_asm); (case k3 => k_asm); (case k4 => k_asm); (case k5 => k_asm); (case k6 => k_is); (case k7 => k_is); (case k8 => ktr_room); (case k9 => first | exact BindsTo.of_eq rfl | exact binds_K (by k_in) rfl (by k_is) rfl rfl rfl); (case c5 => decide); (case kB => exact locs rfl); (case kN => exact fun _ h => nomatch h); (case c2 => exact rfl); (case c3 => exact rfl); (case c4 => exact rfl); k_whole; intro g' L' h' tk0 FG' F' N' B' X' T' hG'; (try dsimp only); (try k_fold))
  replace e1 := hG' _ _ e1 (by simp)
  replace e2 := hG' _ _ e2 (by simp)
  k_steps
  all_goals first | (refine leaveN_ (by k_asm) (by k_asm) ?_; intro kF kN kR kD; (try dsimp only); exact hret _ _ _ _ _ _ _ (by assumption) kF (news_cons kN (by k_mem) (news_all kR)) (ne_all kD (List.mem_cons_self ..)))
theorem over_c {w : World} {p : Program} {loose : List Str} {mean : ExcName → Option Value} {mg mb : Str → Option Value} {dp un : Nat} {gd : Option (List Code)} {cn : Str} {cs : Scope} {a : Addr} {ccd : Value} {cl : List (Str × Addr)} {outer : List Env} {A₀ : Around} {base h₀ : Heap} {L : Addr} {m : Str → Option Value} {news : List (Addr × Obj)} {s : Shared} {Q E : Value → Shared → Prop} {D1 D2 : Addr} {x1 y1 x2 y2 : Int} {t1 t1' t2 t2' : Tok} {c1 c2 : Nat}
    (B : Below A₀ base outer h₀) (F : Fr h₀ L s.heap m) (X : (HD.K w.params).In h₀) (N : News h₀ L s.heap news) (T : Top p loose mean mg mb h₀) (hk : cs.kind = .function) (e1 : s.heap.get? D1 = some (T2 x1 y1 t1 t1' c1)) (e2 : s.heap.get? D2 = some (T2 x2 y2 t2 t2' c2))
    (hd : dp + 3 < recursionLimit) (hu : un + 24 < cLine) (nz : y1 * x2 ≠ 0) (hz : x2 ≠ 0) (m0 : IntMulOk x1 y2) (m1 : IntMulOk y1 x2) (f1 : Fits (x1 * y2)) (f2 : Fits (y1 * x2))
    (hret : ∀ (r : Rat) (D : Addr) (t t' : Tok) (c : Nat) (h' : Heap) (tk' : Nat), r = Rat.divInt (x1 * y2) (y1 * x2) → Fr h₀ L h' m → News h₀ L h' ((D, RatO r t t' c) :: news) → (∀ p ∈ news, p.1 ≠ D) → Q (.ref D) { s with heap := h', toks := tk' }) :
    wpAny (model PySem.Challenge.rw_ui0509_10.row.prog w) (ktrTop dp un gd cn cs L a ccd cl outer) (call (.ref 79) [.ref D1, .ref D2]) Q E s := by
  w_top off
  revert X; k_fill; intro X
  refine wpAny_call ?_
  k_dflt (refine' code_need [] ?k1 ?k2 ?k3 ?k4 ?k5 ?kA ?kF ?kK ?k6 ?k7 ?k8 ?k9 ?kB ?kN ?_ ?c2 ?c3 ?c4 ?c5; (case kA => exact rfl); (case kF => exact rfl); (case kK => assumption); (case k1 => k_asm); (case k2 => k_asm); (case k3 => k_asm); (case k4 => k_asm); (case k5 => k_asm); (case k6 => k_is); (case k7 => k_is); (case k8 => ktr_room); (case k9 => first | exact BindsTo.of_eq rfl | exact binds_K (by k_in) rfl (by k_is) rfl rfl rfl); (case c5 => decide); (case kB => exact locs rfl); (case kN => exact fun _ h => nomatch h); (case c2 => exact rfl); (case c3 => exact rfl); (case c4 => exact rfl); k_whole; intro g' L' h' tk0 FG' F' N' B' X' T' hG'; (try dsimp only); (try k_fold))
  replace e1 := hG' _ _ e1 (by simp)
  replace e2 := hG' _ _ e2 (by simp)
  k_steps
  all_goals first | exact absurd (by assumption) hz | (refine leaveN_ (by k_asm) (by k_asm) ?_; intro kF kN kR kD; (try dsimp only); exact hret _ _ _ _ _ _ _ (by assumption) kF (news_cons kN (by k_mem) (news_all kR)) (ne_all kD (List.mem_cons_self ..)))
theorem less_c {w : World} {p : Program} {loose : List Str} {mean : ExcName → Option Value} {mg mb : Str → Option Value} {dp un : Nat} {gd : Option (List Code)} {cn : Str} {cs : Scope} {a : Addr} {ccd : Value} {cl : List (Str × Addr)} {outer : List Env} {A₀ : Around} {base h₀ : Heap} {L : Addr} {m : Str → Option Value} {news : List (Addr × Obj)} {s : Shared} {Q E : Value → Shared → Prop} {D1 D2 : Addr} {x1 y1 x2 y2 : Int} {t1 t1' t2 t2' : Tok} {c1 c2 : Nat}
    (B : Below A₀ base outer h₀) (F : Fr h₀ L s.heap m) (X : (HD.K w.params).In h₀) (N : News h₀ L s.heap news) (T : Top p loose mean mg mb h₀) (hk : cs.kind = .function) (e1 : s.heap.get? D1 = some (T2 x1 y1 t1 t1' c1)) (e2 : s.heap.get? D2 = some (T2 x2 y2 t2 t2' c2))
    (hd : dp + 3 < recursionLimit) (hu : un + 24 < cLine) (m0 : IntMulOk x1 y2) (m1 : IntMulOk x2 y1)
    (hret : ∀ (h' : Heap) (tk' : Nat), Fr h₀ L h' m → News h₀ L h' news → Q (.bool (decide (x1 * y2 < x2 * y1))) { s with heap := h', toks := tk' }) :
    wpAny (model PySem.Challenge.rw_ui0509_10.row.prog w) (ktrTop dp un gd cn cs L a ccd cl outer) (call (.ref 86) [.ref D1, .ref D2]) Q E s := by
  w_top off
  revert X; k_fill; intro X
  refine wpAny_call ?_
  k_dflt (refine' code_need [] ?k1 ?k2 ?k3 ?k4 ?k5 ?kA ?kF ?kK ?k6 ?k7 ?k8 ?k9 ?kB ?kN ?_ ?c2 ?c3 ?c4 ?c5; (case kA => exact rfl); (case kF => exact rfl); (case kK => assumption); (case k1 => k_asm); (case k2 => k_asm); (case k3 => k_asm); (case k4 => k_asm); (case k5 => k_asm); (case k6 => k_is); (case k7 => k_is); (case k8 => ktr_room); (case k9 => first | exact BindsTo.of_eq rfl | exact binds_K (by k_in) rfl (by k_is) rfl rfl rfl); (case c5 => decide); (case kB => exact locs rfl); (case kN => exact fun _ h => nomatch h); (case c2 => exact rfl); (case c3 => exact rfl); (case c4 => exact rfl); k_whole; intro g' L' h' tk0 FG' F' N' B' X' T' hG'; (try dsimp only); (try k_fold))
  replace e1 := hG' _ _ e1 (by simp)
  replace e2 := hG' _ _ e2 (by simp)
  k_steps
  all_goals (refine leaveN_ (by k_asm) (by k_asm) ?_; intro kF kN kR kD; (try dsimp only); exact hret _ _ kF (news_all kR))
theorem plus_u {w : World} {p : Program} {loose : List Str} {mean : ExcName → Option Value} {mg mb : Str → Option Value} {dp un : Nat} {gd : Option (List Code)} {cn : Str} {cs : Scope} {a : Addr} {ccd : Value} {cl : List (Str × Addr)} {outer : List Env} {A₀ : Around} {base h₀ : Heap} {L : Addr} {m : Str → Option Value} {news : List (Addr × Obj)} {s : Shared} {Q E : Value → Shared → Prop} {D1 D2 : Addr} {x1 y1 x2 y2 : Int} {t1 t1' t2 t2' : Tok} {c1 c2 : Nat} {n1 k1 n2 k2 : Nat}
    (B : Below A₀ base outer h₀) (F : Fr h₀ L s.heap m) (X : (HD.K w.params).In h₀) (N : News h₀ L s.heap news) (T : Top p loose mean mg mb h₀) (hk : cs.kind = .function) (e1 : s.heap.get? D1 = some (T2 x1 y1 t1 t1' c1)) (e2 : s.heap.get? D2 = some (T2 x2 y2 t2 t2' c2))
    (hd : dp + 3 < recursionLimit) (hu : un + 24 < cLine) (hy : y1 ≠ 0) (hz : y2 ≠ 0) (b1 : Builtin.Int.intBits x1 ≤ n1) (b2 : Builtin.Int.intBits y1 ≤ k1) (b3 : Builtin.Int.intBits x2 ≤ n2) (b4 : Builtin.Int.intBits y2 ≤ k2) (hbu : max (n1 + k2) (n2 + k1) + 1 ≤ 6643) (hbl : k1 + k2 ≤ 6643)
    (hret : ∀ (r : Rat) (D : Addr) (t t' : Tok) (c : Nat) (h' : Heap) (tk' : Nat), r = Rat.divInt (x1 * y2 + x2 * y1) (y1 * y2) → Builtin.Int.intBits r.num ≤ max (n1 + k2) (n2 + k1) + 1 → Builtin.Int.intBits (r.den : Int) ≤ k1 + k2 → Fr h₀ L h' m → News h₀ L h' ((D, RatO r t t' c) :: news) → (∀ p ∈ news, p.1 ≠ D) → Q (.ref D) { s with heap := h', toks := tk' }) :
    wpAny (model PySem.Challenge.rw_ui0509_10.row.prog w) (ktrTop dp un gd cn cs L a ccd cl outer) (call (.ref 58) [.ref D1, .ref D2]) Q E s :=
  plus_c B F X N T hk e1 e2 hd hu (nzmul hy hz) (mulOk_of_bits b1 b4 (by omega)) (mulOk_of_bits b3 b2 (by omega)) (mulOk_of_bits b2 b4 (by omega)) (Fits.of (bits_add (bits_mul b1 b4) (bits_mul b3 b2)) hbu) (Fits.of (bits_mul b2 b4) hbl) fun r D t t' c h' tk' e F' N' l => hret r D t t' c h' tk' e (e ▸ bits_num (bits_add (bits_mul b1 b4) (bits_mul b3 b2))) (e ▸ bits_den (nzmul hy hz) (bits_mul b2 b4)) F' N' l
theorem minus_u {w : World} {p : Program} {loose : List Str} {mean : ExcName → Option Value} {mg mb : Str → Option Value} {dp un : Nat} {gd : Option (List Code)} {cn : Str} {cs : Scope} {a : Addr} {ccd : Value} {cl : List (Str × Addr)} {outer : List Env} {A₀ : Around} {base h₀ : Heap} {L : Addr} {m : Str → Option Value} {news : List (Addr × Obj)} {s : Shared} {Q E : Value → Shared → Prop} {D1 D2 : Addr} {x1 y1 x2 y2 : Int} {t1 t1' t2 t2' : Tok} {c1 c2 : Nat} {n1 k1 n2 k2 : Nat}
    (B : Below A₀ base outer h₀) (F : Fr h₀ L s.heap m) (X : (HD.K w.params).In h₀) (N : News h₀ L s.heap news) (T : Top p loose mean mg mb h₀) (hk : cs.kind = .function) (e1 : s.heap.get? D1 = some (T2 x1 y1 t1 t1' c1)) (e2 : s.heap.get? D2 = some (T2 x2 y2 t2 t2' c2))
    (hd : dp + 3 < recursionLimit) (hu : un + 24 < cLine) (hy : y1 ≠ 0) (hz : y2 ≠ 0) (b1 : Builtin.Int.intBits x1 ≤ n1) (b2 : Builtin.Int.intBits y1 ≤ k1) (b3 : Builtin.Int.intBits x2 ≤ n2) (b4 : Builtin.Int.intBits y2 ≤ k2) (hbu : max (n1 + k2) (n2 + k1) + 1 ≤ 6643) (hbl : k1 + k2 ≤ 6643)
    (hret : ∀ (r : Rat) (D : Addr) (t t' : Tok) (c : Nat) (h' : Heap) (tk' : Nat), r = Rat.divInt (x1 * y2 - x2 * y1) (y1 * y2) → Builtin.Int.intBits r.num ≤ max (n1 + k2) (n2 + k1) + 1 → Builtin.Int.intBits (r.den : Int) ≤ k1 + k2 → Fr h₀ L h' m → News h₀ L h' ((D, RatO r t t' c) :: news) → (∀ p ∈ news, p.1 ≠ D) → Q (.ref D) { s with heap := h', toks := tk' }) :
    wpAny (model PySem.Challenge.rw_ui0509_10.row.prog w) (ktrTop dp un gd cn cs L a ccd cl outer) (call (.ref 65) [.ref D1, .ref D2]) Q E s :=
  minus_c B F X N T hk e1 e2 hd hu (nzmul hy hz) (mulOk_of_bits b1 b4 (by omega)) (mulOk_of_bits b3 b2 (by omega)) (mulOk_of_bits b2 b4 (by omega)) (Fits.of (bits_sub (bits_mul b1 b4) (bits_mul b3 b2)) hbu) (Fits.of (bits_mul b2 b4) hbl) fun r D t t' c h' tk' e F' N' l => hret r D t t' c h' tk' e (e ▸ bits_num (bits_sub (bits_mul b1 b4) (bits_mul b3 b2))) (e ▸ bits_den (nzmul hy hz) (bits_mul b2 b4)) F' N' l
theorem times_u {w : World} {p : Program} {loose : List Str} {mean : ExcName → Option Value} {mg mb : Str → Option Value} {dp un : Nat} {gd : Option (List Code)} {cn : Str} {cs : Scope} {a : Addr} {ccd : Value} {cl : List (Str × Addr)} {outer : List Env} {A₀ : Around} {base h₀ : Heap} {L : Addr} {m : Str → Option Value} {news : List (Addr × Obj)} {s : Shared} {Q E : Value → Shared → Prop} {D1 D2 : Addr} {x1 y1 x2 y2 : Int} {t1 t1' t2 t2' : Tok} {c1 c2 : Nat} {n1 k1 n2 k2 : Nat}
    (B : Below A₀ base outer h₀) (F : Fr h₀ L s.heap m) (X : (HD.K w.params).In h₀) (N : News h₀ L s.heap news) (T : Top p loose mean mg mb h₀) (hk : cs.kind = .function) (e1 : s.heap.get? D1 = some (T2 x1 y1 t1 t1' c1)) (e2 : s.heap.get? D2 = some (T2 x2 y2 t2 t2' c2))
    (hd : dp + 3 < recursionLimit) (hu : un + 24 < cLine) (hy : y1 ≠ 0) (hz : y2 ≠ 0) (b1 : Builtin.Int.intBits x1 ≤ n1) (b2 : Builtin.Int.intBits y1 ≤ k1) (b3 : Builtin.Int.intBits x2 ≤ n2) (b4 : Builtin.Int.intBits y2 ≤ k2) (hbu : n1 + n2 ≤ 6643) (hbl : k1 + k2 ≤ 6643)
    (hret : ∀ (r : Rat) (D : Addr) (t t' : Tok) (c : Nat) (h' : Heap) (tk' : Nat), r = Rat.divInt (x1 * x2) (y1 * y2) → Builtin.Int.intBits r.num ≤ n1 + n2 → Builtin.Int.intBits (r.den : Int) ≤ k1 + k2 → Fr h₀ L h' m → News h₀ L h' ((D, RatO r t t' c) :: news) → (∀ p ∈ news, p.1 ≠ D) → Q (.ref D) { s with heap := h', toks := tk' }) :
    wpAny (model PySem.Challenge.rw_ui0509_10.row.prog w) (ktrTop dp un gd cn cs L a ccd cl outer) (call (.ref 72) [.ref D1, .ref D2]) Q E s :=
  times_c B F X N T hk e1 e2 hd hu (nzmul hy hz) (mulOk_of_bits b1 b3 (by omega)) (mulOk_of_bits b2 b4 (by omega)) (Fits.of (bits_mul b1 b3) hbu) (Fits.of (bits_mul b2 b4) hbl) fun r D t t' c h' tk' e F' N' l => hret r D t t' c h' tk' e (e ▸ bits_num (bits_mul b1 b3)) (e ▸ bits_den (nzmul hy hz) (bits_mul b2 b4)) F' N' l
theorem over_u {w : World} {p : Program} {loose : List Str} {mean : ExcName → Option Value} {mg mb : Str → Option Value} {dp un : Nat} {gd : Option (List Code)} {cn : Str} {cs : Scope} {a : Addr} {ccd : Value} {cl : List (Str × Addr)} {outer : List Env} {A₀ : Around} {base h₀ : Heap} {L : Addr} {m : Str → Option Value} {news : List (Addr × Obj)} {s : Shared} {Q E : Value → Shared → Prop} {D1 D2 : Addr} {x1 y1 x2 y2 : Int} {t1 t1' t2 t2' : Tok} {c1 c2 : Nat} {n1 k1 n2 k2 : Nat}
    (B : Below A₀ base outer h₀) (F : Fr h₀ L s.heap m) (X : (HD.K w.params).In h₀) (N : News h₀ L s.heap news) (T : Top p loose mean mg mb h₀) (hk : cs.kind = .function) (e1 : s.heap.get? D1 = some (T2 x1 y1 t1 t1' c1)) (e2 : s.heap.get? D2 = some (T2 x2 y2 t2 t2' c2))
    (hd : dp + 3 < recursionLimit) (hu : un + 24 < cLine) (hy : y1 ≠ 0) (hz : x2 ≠ 0) (b1 : Builtin.Int.intBits x1 ≤ n1) (b2 : Builtin.Int.intBits y1 ≤ k1) (b3 : Builtin.Int.intBits x2 ≤ n2) (b4 : Builtin.Int.intBits y2 ≤ k2) (hbu : n1 + k2 ≤ 6643) (hbl : k1 + n2 ≤ 6643)
    (hret : ∀ (r : Rat) (D : Addr) (t t' : Tok) (c : Nat) (h' : Heap) (tk' : Nat), r = Rat.divInt (x1 * y2) (y1 * x2) → Builtin.Int.intBits r.num ≤ n1 + k2 → Builtin.Int.intBits (r.den : Int) ≤ k1 + n2 → Fr h₀ L h' m → News h₀ L h' ((D, RatO r t t' c) :: news) → (∀ p ∈ news, p.1 ≠ D) → Q (.ref D) { s with heap := h', toks := tk' }) :
    wpAny (model PySem.Challenge.rw_ui0509_10.row.prog w) (ktrTop dp un gd cn cs L a ccd cl outer) (call (.ref 79) [.ref D1, .ref D2]) Q E s :=
  over_c B F X N T hk e1 e2 hd hu (nzmul hy hz) hz (mulOk_of_bits b1 b4 (by omega)) (mulOk_of_bits b2 b3 (by omega)) (Fits.of (bits_mul b1 b4) hbu) (Fits.of (bits_mul b2 b3) hbl) fun r D t t' c h' tk' e F' N' l => hret r D t t' c h' tk' e (e ▸ bits_num (bits_mul b1 b4)) (e ▸ bits_den (nzmul hy hz) (bits_mul b2 b3)) F' N' l
theorem less_u {w : World} {p : Program} {loose : List Str} {mean : ExcName → Option Value} {mg mb : Str → Option Value} {dp un : Nat} {gd : Option (List Code)} {cn : Str} {cs : Scope} {a : Addr} {ccd : Value} {cl : List (Str × Addr)} {outer : List Env} {A₀ : Around} {base h₀ : Heap} {L : Addr} {m : Str → Option Value} {news : List (Addr × Obj)} {s : Shared} {Q E : Value → Shared → Prop} {D1 D2 : Addr} {x1 y1 x2 y2 : Int} {t1 t1' t2 t2' : Tok} {c1 c2 : Nat} {n1 k1 n2 k2 : Nat}
    (B : Below A₀ base outer h₀) (F : Fr h₀ L s.heap m) (X : (HD.K w.params).In h₀) (N : News h₀ L s.heap news) (T : Top p loose mean mg mb h₀) (hk : cs.kind = .function) (e1 : s.heap.get? D1 = some (T2 x1 y1 t1 t1' c1)) (e2 : s.heap.get? D2 = some (T2 x2 y2 t2 t2' c2))
    (hd : dp + 3 < recursionLimit) (hu : un + 24 < cLine) (b1 : Builtin.Int.intBits x1 ≤ n1) (b2 : Builtin.Int.intBits y1 ≤ k1) (b3 : Builtin.Int.intBits x2 ≤ n2) (b4 : Builtin.Int.intBits y2 ≤ k2) (hbu : n1 + k2 ≤ 100000) (hbl : n2 + k1 ≤ 100000)
    (hret : ∀ (h' : Heap) (tk' : Nat), Fr h₀ L h' m → News h₀ L h' news → Q (.bool (decide (x1 * y2 < x2 * y1))) { s with heap := h', toks := tk' }) :
    wpAny (model PySem.Challenge.rw_ui0509_10.row.prog w) (ktrTop dp un gd cn cs L a ccd cl outer) (call (.ref 86) [.ref D1, .ref D2]) Q E s :=
  less_c B F X N T hk e1 e2 hd hu (mulOk_of_bits b1 b4 (by omega)) (mulOk_of_bits b3 b2 (by omega)) hret
theorem frac_sf {w : World} {p : Program} {loose : List Str} {mean : ExcName → Option Value} {mg mb : Str → Option Value} {dp un : Nat} {gd : Option (List Code)} {cn : Str} {cs : Scope} {a : Addr} {ccd : Value} {cl : List (Str × Addr)} {outer : List Env} {A₀ : Around} {base h₀ : Heap} {L : Addr} {m : Str → Option Value} {news : List (Addr × Obj)} {s : Shared} {Q E : Value → Shared → Prop} {r : Rat} {t1 t2 : Tok}
    (B : Below A₀ base outer h₀) (F : Fr h₀ L s.heap m) (X : (HD.K w.params).In h₀) (N : News h₀ L s.heap news) (T : Top p loose mean mg mb h₀) (hk : cs.kind = .function)
    (hd : dp + 2 < recursionLimit) (hu : un + 16 < cLine) (hx1 : Fits r.num) (hy1 : Fits (r.den : Int))
    (hret : ∀ (D : Addr) (t t' : Tok) (c : Nat) (h' : Heap) (tk' : Nat), Fr h₀ L h' m → News h₀ L h' ((D, RatO r t t' c) :: news) → (∀ p ∈ news, p.1 < D) → Q (.ref D) { s with heap := h', toks := tk' }) :
    wpAny (model PySem.Challenge.rw_ui0509_10.row.prog w) (ktrTop dp un gd cn cs L a ccd cl outer) (call (.ref 43) [.int r.num t1, .int (r.den : Int) t2]) Q E s :=
  frac_c dp un gd cn cs a ccd cl outer A₀ base h₀ L m news s Q E r.num r.den t1 t2 B F X N T hk hd hu (nzden r) hx1 hy1 fun r' D t t' c h' tk' e F' N' l => hret D t t' c h' tk' F' (by
    rw [Rat.num_divInt_den] at e
    subst e
    exact N') l
theorem eq_T2h {prog : Program} {w : World} {A : Around} {E : Value → Shared → Prop} {s : Shared} {D1 D2 : Addr} {x1 y1 x2 y2 : Int} {t1 t1' t2 t2' : Tok} {c1 c2 : Nat} {Q : Value → Shared → Prop}
    (e1 : s.heap.get? D1 = some (T2 x1 y1 t1 t1' c1)) (e2 : s.heap.get? D2 = some (T2 x2 y2 t2 t2' c2)) (hu : A.units + 64 < cLine) (h : Q (.bool ((x1 == x2 && y1 == y2))) s) : wpAny (model prog w) A (compareOp .Eq (.ref D1) (.ref D2)) Q E s := by
  refine eq_dataH (reads_tuple_at e1 rfl rfl (ReadsAll.cons (Reads.int _ _) (ReadsAll.cons (Reads.int _ _) ReadsAll.nil))) (reads_tuple_at e2 rfl rfl (ReadsAll.cons (Reads.int _ _) (ReadsAll.cons (Reads.int _ _) ReadsAll.nil))) (by ke_shaped) (by ke_shaped) hu ?_
  ke_norm
  exact h
theorem ne_T2h {prog : Program} {w : World} {A : Around} {E : Value → Shared → Prop} {s : Shared} {D1 D2 : Addr} {x1 y1 x2 y2 : Int} {t1 t1' t2 t2' : Tok} {c1 c2 : Nat} {Q : Value → Shared → Prop}
    (e1 : s.heap.get? D1 = some (T2 x1 y1 t1 t1' c1)) (e2 : s.heap.get? D2 = some (T2 x2 y2 t2 t2' c2)) (hu : A.units + 64 < cLine) (h : Q (.bool (!(x1 == x2 && y1 == y2))) s) : wpAny (model prog w) A (compareOp .NotEq (.ref D1) (.ref D2)) Q E s := by
  refine ne_dataH (reads_tuple_at e1 rfl rfl (ReadsAll.cons (Reads.int _ _) (ReadsAll.cons (Reads.int _ _) ReadsAll.nil))) (reads_tuple_at e2 rfl rfl (ReadsAll.cons (Reads.int _ _) (ReadsAll.cons (Reads.int _ _) ReadsAll.nil))) (by ke_shaped) (by ke_shaped) hu ?_
  ke_norm
  exact h
local macro_rules | `(tactic| walk_at "call type:type") => `(tactic| (k_here; (with_reducible show wpAny _ _ (call (Value.type "type") [Value.ref _]) _ _ _); k_dflt (refine' kto_cont (T := "tuple") ?c ?n ?_; (case c => exact ⟨_, Fr.keep (by k_asm) _ _ (by assumption), rfl⟩); (case n => decide +kernel); k_whole)))
local macro_rules | `(tactic| walk_at "h1") => `(tactic| (k_here; (with_reducible show wpAny _ _ (call (Value.builtin "len") [Value.ref _]) _ _ _)))
local macro_rules | `(tactic| walk_at "call builtin:len") => `(tactic| (walk_at "h1"; k_dflt (refine' kun_lenT (k := 2) ?k1 ?k2 ?k3 ?_; (case k1 => exact ⟨_, Fr.keep (by k_asm) _ _ (by assumption), rfl, _, rfl⟩); (case k2 => exact rfl); (case k3 => decide); k_whole)))
local macro_rules | `(tactic| walk_at "call ref") => `(tactic| (walk_at "h2"; k_dflt (refine' frac_sf ?k1 ?k2 ?k3 ?k4 ?k5 ?k6 ?k7 ?k8 ?k10 ?k11 ?_; (case k1 | k2 | k3 | k4 | k5 => k_asm); (case k6 => walk_at "t1"); (case k7 => ktr_room); (case k8 => ktr_units); (case k10 | k11 => assumption); k_whole); intro D' t' u' c' h' tk' F' N' l1; (try k_sweep)))
local macro_rules | `(tactic| walk_at "h3") => `(tactic| (k_here; (with_reducible show wpAny _ _ (call (Value.ref 86) [Value.ref _, Value.ref _]) _ _ _)))
local macro_rules | `(tactic| walk_at "call ref") => `(tactic| (walk_at "h3"; k_dflt (refine' less_c ?k1 ?k2 ?k3 ?k4 ?k5 ?k6 ?m1 ?m2 ?k7 ?k8 ?k10 ?k11 ?_; (case k1 | k2 | k3 | k4 | k5 => k_asm); (case k6 => walk_at "t1"); (case m1 | m2 => exact Fr.keep (by k_asm) _ _ (by with_reducible assumption)); (case k7 => ktr_room); (case k8 => ktr_units); (case k10 | k11 => assumption); k_whole); intro h' tk' F' N'; (try k_sweep)))
local macro_rules | `(tactic| walk_at "t2") => `(tactic| (first | exact Nat.le_of_ble_eq_true rfl | ktr_units))
local macro_rules | `(tactic| walk_at "compareOp NotEq ref ref") => `(tactic| (k_here; (with_reducible show wpAny _ _ (compareOp CmpOp.NotEq (Value.ref _) (Value.ref _)) _ _ _); k_dflt (refine' ne_T2h ?k2 ?k3 ?k4 ?_; (case k2 | k3 => first | exact Fr.keep (by k_asm) _ _ (by with_reducible assumption) | exact News.get (by k_asm) (by k_mem)); (case k4 => walk_at "t2")); (try simp only [beq_self_eq_true, Bool.and_true, Bool.true_and, Bool.not_true, Bool.not_false])))
theorem need_c {w : World} {p : Program} {loose : List Str} {mean : ExcName → Option Value} {mg mb : Str → Option Value} {dp un : Nat} {gd : Option (List Code)} {cn : Str} {cs : Scope} {a : Addr} {ccd : Value} {cl : List (Str × Addr)} {outer : List Env} {A₀ : Around} {base h₀ : Heap} {L : Addr} {m : Str → Option Value} {news : List (Addr × Obj)} {s : Shared} {Q E : Value → Shared → Prop} {D1 : Addr} {r : Rat} {t1 t1' : Tok} {c1 : Nat}
    (B : Below A₀ base outer h₀) (F : Fr h₀ L s.heap m) (X : (HD.K w.params).In h₀) (N : News h₀ L s.heap news) (T : Top p loose mean mg mb h₀) (hk : cs.kind = .function) (e1 : s.heap.get? D1 = some (RatO r t1 t1' c1))
    (hd : dp + 4 < recursionLimit) (hu : un + 100 < cLine) (hx1 : Fits r.num) (hy1 : Fits (r.den : Int))
    (hret : ∀ (h' : Heap) (tk' : Nat), Fr h₀ L h' m → News h₀ L h' news → Q (.ref D1) { s with heap := h', toks := tk' }) :
    wpAny (model PySem.Challenge.rw_ui0509_10.row.prog w) (ktrTop dp un gd cn cs L a ccd cl outer) (call (.ref 51) [.ref D1]) Q E s := by
  w_top off
  revert X; k_fill; intro X
  refine wpAny_call ?_
  k_dflt (refine' code_need [] ?k1 ?k2 ?k3 ?k4 ?k5 ?kA ?kF ?kK ?k6 ?k7 ?k8 ?k9 ?kB ?kN ?_ ?c2 ?c3 ?c4 ?c5; (case kA => exact rfl); (case kF => exact rfl); (case kK => assumption); (case k1 => k_asm); (case k2 => k_asm); (case k3 => k_asm); (case k4 => k_asm); (case k5 => k_asm); (case k6 => k_is); (case k7 => k_is); (case k8 => ktr_room); (case k9 => first | exact BindsTo.of_eq rfl | exact binds_K (by k_in) rfl (by k_is) rfl rfl rfl); (case c5 => decide); (case kB => exact locs rfl); (case kN => exact fun _ h => nomatch h); (case c2 => exact rfl); (case c3 => exact rfl); (case c4 => exact rfl); k_whole; intro g' L' h' tk0 FG' F' N' B' X' T' hG'; (try dsimp only); (try k_fold))
  replace e1 := hG' _ _ e1 (by simp)
  k_steps
  all_goals (refine leaveN_ (by k_asm) (by k_asm) ?_; intro kF kN kR kD; (try dsimp only); exact hret _ _ kF (news_all kR))
theorem need_n {w : World} {p : Program} {loose : List Str} {mean : ExcName → Option Value} {mg mb : Str → Option Value} {dp un : Nat} {gd : Option (List Code)} {cn : Str} {cs : Scope} {a : Addr} {ccd : Value} {cl : List (Str × Addr)} {outer : List Env} {A₀ : Around} {base h₀ : Heap} {L : Addr} {m : Str → Option Value} {news : List (Addr × Obj)} {s : Shared} {Q E : Value → Shared → Prop} {D1 : Addr} {r : Rat} {t1 t1' : Tok} {c1 : Nat} {D2 : Addr} {x2 y2 : Int} {t2 t2' : Tok} {c2 : Nat}
    (B : Below A₀ base outer h₀) (F : Fr h₀ L s.heap m) (X : (HD.K w.params).In h₀) (N : News h₀ L s.heap news) (T : Top p loose mean mg mb h₀) (hk : cs.kind = .function) (e1 : s.heap.get? D1 = some (RatO r t1 t1' c1)) (e2 : s.heap.get? D2 = some (T2 x2 y2 t2 t2' c2)) (m0 : IntMulOk r.num y2) (m1 : IntMulOk x2 (r.den : Int)) (hl : ¬ (r.num * y2 < x2 * (r.den : Int)))
    (hd : dp + 4 < recursionLimit) (hu : un + 100 < cLine) (hx1 : Fits r.num) (hy1 : Fits (r.den : Int))
    (hret : ∀ (h' : Heap) (tk' : Nat), Fr h₀ L h' m → News h₀ L h' news → Q (.ref D1) { s with heap := h', toks := tk' }) :
    wpAny (model PySem.Challenge.rw_ui0509_10.row.prog w) (ktrTop dp un gd cn cs L a ccd cl outer) (call (.ref 51) [.ref D1, .ref D2]) Q E s := by
  w_top off
  revert X; k_fill; intro X
  refine wpAny_call ?_
  k_dflt (refine' code_need [] ?k1 ?k2 ?k3 ?k4 ?k5 ?kA ?kF ?kK ?k6 ?k7 ?k8 ?k9 ?kB ?kN ?_ ?c2 ?c3 ?c4 ?c5; (case kA => exact rfl); (case kF => exact rfl); (case kK => assumption); (case k1 => k_asm); (case k2 => k_asm); (case k3 => k_asm); (case k4 => k_asm); (case k5 => k_asm); (case k6 => k_is); (case k7 => k_is); (case k8 => ktr_room); (case k9 => first | exact BindsTo.of_eq rfl | exact binds_K (by k_in) rfl (by k_is) rfl rfl rfl); (case c5 => decide); (case kB => exact locs rfl); (case kN => exact fun _ h => nomatch h); (case c2 => exact rfl); (case c3 => exact rfl); (case c4 => exact rfl); k_whole; intro g' L' h' tk0 FG' F' N' B' X' T' hG'; (try dsimp only); (try k_fold))
  replace e1 := hG' _ _ e1 (by simp)
  replace e2 := hG' _ _ e2 (by simp)
  k_steps
  all_goals (refine leaveN_ (by k_asm) (by k_asm) ?_; intro kF kN kR kD; (try dsimp only); exact hret _ _ kF (news_all kR))
structure Bd (n : Nat) (r : Rat) : Prop where
  num : Builtin.Int.intBits r.num ≤ n
  den : Builtin.Int.intBits (r.den : Int) ≤ n
theorem Bd.mono {n k : Nat} {r : Rat} (h : Bd n r) (hk : n ≤ k) : Bd k r := ⟨Nat.le_trans h.num hk, Nat.le_trans h.den hk⟩
theorem Bd.int {n : Nat} {x : Int} (h : Builtin.Int.intBits x ≤ n) (h1 : 1 ≤ n) : Bd n (x : Rat) := ⟨h, Nat.le_trans bits_one h1⟩
theorem bits_zero : Builtin.Int.intBits 0 ≤ 1 := by decide
theorem Bd.zero {n : Nat} (h : 1 ≤ n) : Bd n (0 : Rat) := Bd.int (x := 0) (Nat.le_trans bits_zero h) h
theorem nznum {r : Rat} (h : r ≠ 0) : r.num ≠ 0 := fun e => h (Rat.num_eq_zero.mp e)
theorem Bd.fits {n : Nat} {r : Rat} (h : Bd n r) (hn : n ≤ 6643) : Fits r.num ∧ Fits (r.den : Int) := ⟨Fits.of h.num hn, Fits.of h.den hn⟩
theorem plus_r {w : World} {p : Program} {loose : List Str} {mean : ExcName → Option Value} {mg mb : Str → Option Value} {dp un : Nat} {gd : Option (List Code)} {cn : Str} {cs : Scope} {a : Addr} {ccd : Value} {cl : List (Str × Addr)} {outer : List Env} {A₀ : Around} {base h₀ : Heap} {L : Addr} {m : Str → Option Value} {news : List (Addr × Obj)} {s : Shared} {Q E : Value → Shared → Prop} {D1 D2 : Addr} {r1 r2 : Rat} {t1 t1' t2 t2' : Tok} {c1 c2 n k : Nat}
    (B : Below A₀ base outer h₀) (F : Fr h₀ L s.heap m) (X : (HD.K w.params).In h₀) (N : News h₀ L s.heap news) (T : Top p loose mean mg mb h₀) (hk : cs.kind = .function) (e1 : s.heap.get? D1 = some (RatO r1 t1 t1' c1)) (e2 : s.heap.get? D2 = some (RatO r2 t2 t2' c2))
    (hd : dp + 3 < recursionLimit) (hu : un + 24 < cLine) (b1 : Bd n r1) (b2 : Bd k r2) (hb : n + k + 1 ≤ 6643)
    (hret : ∀ (D : Addr) (t t' : Tok) (c : Nat) (h' : Heap) (tk' : Nat), Bd (n + k + 1) (r1 + r2) → Fr h₀ L h' m → News h₀ L h' ((D, RatO (r1 + r2) t t' c) :: news) → (∀ p ∈ news, p.1 ≠ D) → Q (.ref D) { s with heap := h', toks := tk' }) :
    wpAny (model PySem.Challenge.rw_ui0509_10.row.prog w) (ktrTop dp un gd cn cs L a ccd cl outer) (call (.ref 58) [.ref D1, .ref D2]) Q E s :=
  plus_u B F X N T hk e1 e2 hd hu (nzden r1) (nzden r2) b1.num b1.den b2.num b2.den (by omega) (by omega) fun r D t t' c h' tk' e bn bd F' N' l => by
    have e' : r = r1 + r2 := e.trans (r_plus r1 r2)
    subst e'
    exact hret D t t' c h' tk' ⟨Nat.le_trans bn (by omega), Nat.le_trans bd (by omega)⟩ F' N' l
theorem minus_r {w : World} {p : Program} {loose : List Str} {mean : ExcName → Option Value} {mg mb : Str → Option Value} {dp un : Nat} {gd : Option (List Code)} {cn : Str} {cs : Scope} {a : Addr} {ccd : Value} {cl : List (Str × Addr)} {outer : List Env} {A₀ : Around} {base h₀ : Heap} {L : Addr} {m : Str → Option Value} {news : List (Addr × Obj)} {s : Shared} {Q E : Value → Shared → Prop} {D1 D2 : Addr} {r1 r2 : Rat} {t1 t1' t2 t2' : Tok} {c1 c2 n k : Nat}
    (B : Below A₀ base outer h₀) (F : Fr h₀ L s.heap m) (X : (HD.K w.params).In h₀) (N : News h₀ L s.heap news) (T : Top p loose mean mg mb h₀) (hk : cs.kind = .function) (e1 : s.heap.get? D1 = some (RatO r1 t1 t1' c1)) (e2 : s.heap.get? D2 = some (RatO r2 t2 t2' c2))
    (hd : dp + 3 < recursionLimit) (hu : un + 24 < cLine) (b1 : Bd n r1) (b2 : Bd k r2) (hb : n + k + 1 ≤ 6643)
    (hret : ∀ (D : Addr) (t t' : Tok) (c : Nat) (h' : Heap) (tk' : Nat), Bd (n + k + 1) (r1 - r2) → Fr h₀ L h' m → News h₀ L h' ((D, RatO (r1 - r2) t t' c) :: news) → (∀ p ∈ news, p.1 ≠ D) → Q (.ref D) { s with heap := h', toks := tk' }) :
    wpAny (model PySem.Challenge.rw_ui0509_10.row.prog w) (ktrTop dp un gd cn cs L a ccd cl outer) (call (.ref 65) [.ref D1, .ref D2]) Q E s :=
  minus_u B F X N T hk e1 e2 hd hu (nzden r1) (nzden r2) b1.num b1.den b2.num b2.den (by omega) (by omega) fun r D t t' c h' tk' e bn bd F' N' l => by
    have e' : r = r1 - r2 := e.trans (r_minus r1 r2)
    subst e'
    exact hret D t t' c h' tk' ⟨Nat.le_trans bn (by omega), Nat.le_trans bd (by omega)⟩ F' N' l
theorem times_r {w : World} {p : Program} {loose : List Str} {mean : ExcName → Option Value} {mg mb : Str → Option Value} {dp un : Nat} {gd : Option (List Code)} {cn : Str} {cs : Scope} {a : Addr} {ccd : Value} {cl : List (Str × Addr)} {outer : List Env} {A₀ : Around} {base h₀ : Heap} {L : Addr} {m : Str → Option Value} {news : List (Addr × Obj)} {s : Shared} {Q E : Value → Shared → Prop} {D1 D2 : Addr} {r1 r2 : Rat} {t1 t1' t2 t2' : Tok} {c1 c2 n k : Nat}
    (B : Below A₀ base outer h₀) (F : Fr h₀ L s.heap m) (X : (HD.K w.params).In h₀) (N : News h₀ L s.heap news) (T : Top p loose mean mg mb h₀) (hk : cs.kind = .function) (e1 : s.heap.get? D1 = some (RatO r1 t1 t1' c1)) (e2 : s.heap.get? D2 = some (RatO r2 t2 t2' c2))
    (hd : dp + 3 < recursionLimit) (hu : un + 24 < cLine) (b1 : Bd n r1) (b2 : Bd k r2) (hb : n + k ≤ 6643)
    (hret : ∀ (D : Addr) (t t' : Tok) (c : Nat) (h' : Heap) (tk' : Nat), Bd (n + k) (r1 * r2) → Fr h₀ L h' m → News h₀ L h' ((D, RatO (r1 * r2) t t' c) :: news) → (∀ p ∈ news, p.1 ≠ D) → Q (.ref D) { s with heap := h', toks := tk' }) :
    wpAny (model PySem.Challenge.rw_ui0509_10.row.prog w) (ktrTop dp un gd cn cs L a ccd cl outer) (call (.ref 72) [.ref D1, .ref D2]) Q E s :=
  times_u B F X N T hk e1 e2 hd hu (nzden r1) (nzden r2) b1.num b1.den b2.num b2.den (by omega) (by omega) fun r D t t' c h' tk' e bn bd F' N' l => by
    have e' : r = r1 * r2 := e.trans (r_times r1 r2)
    subst e'
    exact hret D t t' c h' tk' ⟨Nat.le_trans bn (by omega), Nat.le_trans bd (by omega)⟩ F' N' l
theorem over_r {w : World} {p : Program} {loose : List Str} {mean : ExcName → Option Value} {mg mb : Str → Option Value} {dp un : Nat} {gd : Option (List Code)} {cn : Str} {cs : Scope} {a : Addr} {ccd : Value} {cl : List (Str × Addr)} {outer : List Env} {A₀ : Around} {base h₀ : Heap} {L : Addr} {m : Str → Option Value} {news : List (Addr × Obj)} {s : Shared} {Q E : Value → Shared → Prop} {D1 D2 : Addr} {r1 r2 : Rat} {t1 t1' t2 t2' : Tok} {c1 c2 n k : Nat}
    (B : Below A₀ base outer h₀) (F : Fr h₀ L s.heap m) (X : (HD.K w.params).In h₀) (N : News h₀ L s.heap news) (T : Top p loose mean mg mb h₀) (hk : cs.kind = .function) (e1 : s.heap.get? D1 = some (RatO r1 t1 t1' c1)) (e2 : s.heap.get? D2 = some (RatO r2 t2 t2' c2))
    (hd : dp + 3 < recursionLimit) (hu : un + 24 < cLine) (b1 : Bd n r1) (b2 : Bd k r2) (hz : r2 ≠ 0) (hb : n + k ≤ 6643)
    (hret : ∀ (D : Addr) (t t' : Tok) (c : Nat) (h' : Heap) (tk' : Nat), Bd (n + k) (r1 / r2) → Fr h₀ L h' m → News h₀ L h' ((D, RatO (r1 / r2) t t' c) :: news) → (∀ p ∈ news, p.1 ≠ D) → Q (.ref D) { s with heap := h', toks := tk' }) :
    wpAny (model PySem.Challenge.rw_ui0509_10.row.prog w) (ktrTop dp un gd cn cs L a ccd cl outer) (call (.ref 79) [.ref D1, .ref D2]) Q E s :=
  over_u B F X N T hk e1 e2 hd hu (nzden r1) (nznum hz) b1.num b1.den b2.num b2.den (by omega) (by omega) fun r D t t' c h' tk' e bn bd F' N' l => by
    have e' : r = r1 / r2 := e.trans (r_over r1 r2)
    subst e'
    exact hret D t t' c h' tk' ⟨Nat.le_trans bn (by omega), Nat.le_trans bd (by omega)⟩ F' N' l
theorem less_r {w : World} {p : Program} {loose : List Str} {mean : ExcName → Option Value} {mg mb : Str → Option Value} {dp un : Nat} {gd : Option (List Code)} {cn : Str} {cs : Scope} {a : Addr} {ccd : Value} {cl : List (Str × Addr)} {outer : List Env} {A₀ : Around} {base h₀ : Heap} {L : Addr} {m : Str → Option Value} {news : List (Addr × Obj)} {s : Shared} {Q E : Value → Shared → Prop} {D1 D2 : Addr} {r1 r2 : Rat} {t1 t1' t2 t2' : Tok} {c1 c2 n k : Nat}
    (B : Below A₀ base outer h₀) (F : Fr h₀ L s.heap m) (X : (HD.K w.params).In h₀) (N : News h₀ L s.heap news) (T : Top p loose mean mg mb h₀) (hk : cs.kind = .function) (e1 : s.heap.get? D1 = some (RatO r1 t1 t1' c1)) (e2 : s.heap.get? D2 = some (RatO r2 t2 t2' c2))
    (hd : dp + 3 < recursionLimit) (hu : un + 24 < cLine) (b1 : Bd n r1) (b2 : Bd k r2) (hb : n + k ≤ 100000)
    (hret : ∀ (h' : Heap) (tk' : Nat), Fr h₀ L h' m → News h₀ L h' news → Q (.bool (decide (r1 < r2))) { s with heap := h', toks := tk' }) :
    wpAny (model PySem.Challenge.rw_ui0509_10.row.prog w) (ktrTop dp un gd cn cs L a ccd cl outer) (call (.ref 86) [.ref D1, .ref D2]) Q E s :=
  less_u B F X N T hk e1 e2 hd hu b1.num b1.den b2.num b2.den (by omega) (by omega) fun h' tk' F' N' => by
    have e : decide (r1.num * (r2.den : Int) < r2.num * (r1.den : Int)) = decide (r1 < r2) := decide_eq_decide.mpr (Rat.lt_iff r1 r2).symm
    rw [e]
    exact hret h' tk' F' N'
theorem need_r {w : World} {p : Program} {loose : List Str} {mean : ExcName → Option Value} {mg mb : Str → Option Value} {dp un : Nat} {gd : Option (List Code)} {cn : Str} {cs : Scope} {a : Addr} {ccd : Value} {cl : List (Str × Addr)} {outer : List Env} {A₀ : Around} {base h₀ : Heap} {L : Addr} {m : Str → Option Value} {news : List (Addr × Obj)} {s : Shared} {Q E : Value → Shared → Prop} {D1 : Addr} {r1 : Rat} {t1 t1' : Tok} {c1 n : Nat}
    (B : Below A₀ base outer h₀) (F : Fr h₀ L s.heap m) (X : (HD.K w.params).In h₀) (N : News h₀ L s.heap news) (T : Top p loose mean mg mb h₀) (hk : cs.kind = .function) (e1 : s.heap.get? D1 = some (RatO r1 t1 t1' c1))
    (hd : dp + 4 < recursionLimit) (hu : un + 100 < cLine) (b1 : Bd n r1) (hb : n ≤ 6643)
    (hret : ∀ (h' : Heap) (tk' : Nat), Fr h₀ L h' m → News h₀ L h' news → Q (.ref D1) { s with heap := h', toks := tk' }) :
    wpAny (model PySem.Challenge.rw_ui0509_10.row.prog w) (ktrTop dp un gd cn cs L a ccd cl outer) (call (.ref 51) [.ref D1]) Q E s :=
  need_c B F X N T hk e1 hd hu (b1.fits hb).1 (b1.fits hb).2 hret
theorem need_rn {w : World} {p : Program} {loose : List Str} {mean : ExcName → Option Value} {mg mb : Str → Option Value} {dp un : Nat} {gd : Option (List Code)} {cn : Str} {cs : Scope} {a : Addr} {ccd : Value} {cl : List (Str × Addr)} {outer : List Env} {A₀ : Around} {base h₀ : Heap} {L : Addr} {m : Str → Option Value} {news : List (Addr × Obj)} {s : Shared} {Q E : Value → Shared → Prop} {D1 D2 : Addr} {r1 r2 : Rat} {t1 t1' t2 t2' : Tok} {c1 c2 n k : Nat}
    (B : Below A₀ base outer h₀) (F : Fr h₀ L s.heap m) (X : (HD.K w.params).In h₀) (N : News h₀ L s.heap news) (T : Top p loose mean mg mb h₀) (hk : cs.kind = .function) (e1 : s.heap.get? D1 = some (RatO r1 t1 t1' c1)) (e2 : s.heap.get? D2 = some (RatO r2 t2 t2' c2))
    (hd : dp + 4 < recursionLimit) (hu : un + 100 < cLine) (b1 : Bd n r1) (b2 : Bd k r2) (hb : n ≤ 6643) (hb2 : k ≤ 6643) (hl : r2 ≤ r1)
    (hret : ∀ (h' : Heap) (tk' : Nat), Fr h₀ L h' m → News h₀ L h' news → Q (.ref D1) { s with heap := h', toks := tk' }) :
    wpAny (model PySem.Challenge.rw_ui0509_10.row.prog w) (ktrTop dp un gd cn cs L a ccd cl outer) (call (.ref 51) [.ref D1, .ref D2]) Q E s :=
  need_n B F X N T hk e1 e2 (mulOk_of_bits b1.num b2.den (by omega)) (mulOk_of_bits b2.num b1.den (by omega)) (fun h => absurd ((Rat.lt_iff r1 r2).mpr h) (Rat.not_lt.mpr hl)) (by omega) hu (b1.fits hb).1 (b1.fits hb).2 hret
-- pairs of lists
inductive All2 {α β : Type} (R : α → β → Prop) : List α → List β → Prop
  | nil : All2 R [] []
  | cons {a : α} {b : β} {as : List α} {bs : List β} : R a b → All2 R as bs → All2 R (a :: as) (b :: bs)
section
variable {α β : Type} {R S : α → β → Prop} {as cs : List α} {bs ds : List β} {a : α} {b : β}
theorem All2.length (h : All2 R as bs) : as.length = bs.length := by
  induction h with
  | nil => rfl
  | cons _ _ ih => rw [List.length_cons, List.length_cons, ih]
theorem All2.mono (hs : ∀ a b, R a b → S a b) (h : All2 R as bs) : All2 S as bs := by
  induction h with
  | nil => exact .nil
  | cons h _ ih => exact .cons (hs _ _ h) ih
theorem All2.append (h : All2 R as bs) (k : All2 R cs ds) : All2 R (as ++ cs) (bs ++ ds) := by
  induction h with
  | nil => exact k
  | cons h _ ih => exact .cons h ih
theorem All2.snoc (h : All2 R as bs) (k : R a b) : All2 R (as ++ [a]) (bs ++ [b]) := h.append (.cons k .nil)
theorem All2.get (h : All2 R as bs) {i : Nat} (ha : as[i]? = some a) : ∃ b, bs[i]? = some b ∧ R a b := by
  induction h generalizing i with
  | nil => simp at ha
  | cons h _ ih =>
    cases i with
    | zero => exact ⟨_, rfl, by simp at ha; rw [← ha]; exact h⟩
    | succ i => exact ih (by simpa using ha)
theorem All2.at (h : All2 R as bs) {i : Nat} (hb : bs[i]? = some b) : ∃ a, as[i]? = some a ∧ R a b := by
  induction h generalizing i with
  | nil => simp at hb
  | cons h _ ih =>
    cases i with
    | zero => exact ⟨_, rfl, by simp at hb; rw [← hb]; exact h⟩
    | succ i => exact ih (by simpa using hb)
theorem All2.reverse (h : All2 R as bs) : All2 R as.reverse bs.reverse := by
  induction h with
  | nil => exact .nil
  | cons h _ ih => rw [List.reverse_cons, List.reverse_cons]; exact ih.snoc h
end
-- a loop's turns by an invariant (over the ItemsRest of KE.KTurns)
section
variable {prog : Program} {w : World} {A : Around} {E : Value → Shared → Prop} {s : Shared} {env : Env} {h₀ : Heap} {target : Expr} {body : List Stmt} {Q : Flow → Shared → Prop}
theorem items_ind {I : Addr} {cl : String} {keep : List (Addr × Obj)} {xs : List Itm} (J : Nat → (Str → Option Value) → List (Addr × Obj) → Prop)
    (turn : ∀ i a v m news h tk (o : Obj), xs[i]? = some a → SubL keep news → (∀ p ∈ news, p.1 ≠ I) → J i m news → a.Is v h → Fr h₀ env.locals h m → o.cls = .type cl → News h₀ env.locals h ((I, o) :: news) →
      wpAny (model prog w) A (assign target env v) (fun _ s₂ => wpAny (model prog w) A (execs body env) (UnrPostW h₀ env.locals { s with heap := h, toks := tk } [(I, o)] (fun m' n' => SubL keep n' ∧ J (i + 1) m' n') Q) E s₂) E { s with heap := h, toks := tk })
    (done : ∀ m news h tk, J xs.length m news → Fr h₀ env.locals h m → News h₀ env.locals h news → Q .next { s with heap := h, toks := tk }) :
    ∀ (ys : List Itm) (i : Nat) (m : Str → Option Value) (news : List (Addr × Obj)), xs.drop i = ys → i ≤ xs.length → SubL keep news → (∀ p ∈ news, p.1 ≠ I) → J i m news → ItemsRest prog w A E h₀ env target body Q s [(I, cl)] keep ys m news := by
  intro ys
  induction ys with
  | nil =>
    intro i m news hd hi _ _ hJ h tk F N
    have : i = xs.length := by
      have := congrArg List.length hd
      rw [List.length_drop, List.length_nil] at this
      omega
    subst this
    exact done m news h tk hJ F N
  | cons a ys ih =>
    intro i m news hd hi hk hI hJ v h tk hv F
    refine AllObj.cons fun o ho => AllObj.nil fun N => ?_
    have hlt : i < xs.length := by
      have := congrArg List.length hd
      rw [List.length_drop, List.length_cons] at this
      omega
    have ha : xs[i]? = some a := by
      have := congrArg (fun l => l[0]?) hd
      simpa [List.getElem?_drop] using this
    have hd' : xs.drop (i + 1) = ys := by
      have := congrArg List.tail hd
      simpa [List.tail_drop] using this
    have fin : ∀ s₃, UnrEndW h₀ env.locals { s with heap := h, toks := tk } [(I, o)] (fun m' n' => SubL keep n' ∧ J (i + 1) m' n') s₃ →
        UnrEndW h₀ env.locals { s with heap := h, toks := tk } [(I, o)] (fun m' n' => SubL keep n' ∧ ItemsRest prog w A E h₀ env target body Q s [(I, cl)] keep ys m' n') s₃ := by
      rintro s₃ ⟨h', tk', m', news', e, F', N', ho', hk', hJ'⟩
      exact ⟨h', tk', m', news', e, F', N', ho', hk', ih (i + 1) m' news' hd' hlt hk' (fun p hp => ho' p hp (I, o) (List.mem_cons_self ..)) hJ'⟩
    refine wpAny_mono (turn i a v m news h tk o ha hk hI hJ hv F ho N) (fun _ s₂ h₂ => wpAny_mono h₂ (fun f s₃ p => ?_) fun _ _ e => e) fun _ _ e => e
    cases f with
    | ret v => exact p
    | brk => exact p
    | next => exact fin _ p
    | cont => exact fin _ p
theorem unr_end {L I : Addr} {o : Obj} {rest : (Str → Option Value) → List (Addr × Obj) → Prop} {s₁ : Shared} {h' : Heap} {tk : Nat} {m' : Str → Option Value} {all : List (Addr × Obj)} (news' : List (Addr × Obj)) (F : Fr h₀ L h' m') (N : News h₀ L h' all)
    (hI : (I, o) ∈ all) (hs : ∀ p ∈ news', p ∈ all) (hne : ∀ p ∈ news', p.1 ≠ I) (r : rest m' news') : UnrEndW h₀ L s₁ [(I, o)] rest { s₁ with heap := h', toks := tk } :=
  ⟨h', tk, m', news', rfl, F, fun p hp => by
    rcases List.mem_append.mp hp with hp | hp
    · rw [List.mem_singleton.mp hp]; exact N _ hI
    · exact N p (hs p hp), fun p hp q hq => by rw [List.mem_singleton.mp hq]; exact hne p hp, r⟩
theorem iter_baseTurns {ax : Addr} {lo : Obj} {vs : List Value} {n : Nat} {m₀ : Str → Option Value} {news : List (Addr × Obj)}
    (hh : A.handled = none) (F : Fr h₀ env.locals s.heap m₀) (N : News h₀ env.locals s.heap news) (hg : h₀.get? ax = some lo) (hc : lo.cls = .type "list") (hd : lo.data = .seq vs.toArray n)
    (rest₀ : ∀ I : Addr, (∀ p ∈ news, p.1 < I) → ItemsRest prog w A E h₀ env target body Q s [(I, "list_iterator")] [] (vs.map .val) m₀ news) :
    wpAny (model prog w) A (pyIter (.ref ax)) (fun it s₂ => TurnsAt prog w A h₀ env target body Q E it s₂) E s := by
  have hax : s.heap.get? ax = some lo := F.keep _ _ hg
  have hl : s.heap.IsList ax vs.toArray := ⟨lo, hax, hc, n, hd⟩
  have hne : ax ≠ s.heap.objs.size := Nat.ne_of_lt (Heap.lt_size hax)
  refine wpAny_pyIter_list hl ?_
  refine ktg_core (tk0 := s.toks) (keep := []) (KTurns.ofWalks (Walks.list hh s.heap.objs.size ax hne vs.toArray) fun i v s Q E st q => letGo_listiter st.1 q) (by simp) (fun i v h hp => ⟨.val v, ?_, rfl⟩) (fun i h st => ?_) (fun b hb => ?_) (fun b hb => by simpa using hb) (fun b hb => ?_) ?_ (fun p hp hI => ?_) ?_ (F.push _) (fun p hp => ⟨Heap.get?_push_of_some _ (N p hp).1, (N p hp).2⟩) trivial (rest₀ _ fun p hp => Heap.lt_size (N p hp).1)
  · have hp' : vs.toArray[i]? = some v := hp
    simpa using hp'
  · obtain ⟨it, hit, hic, _⟩ := st.1
    exact ⟨[(s.heap.objs.size, it)], ⟨⟨rfl, hic⟩, trivial⟩, fun p hp => by rw [List.mem_singleton.mp hp]; exact hit⟩
  · have hb' : b = s.heap.objs.size := by simpa using hb
    rw [hb']
    exact ⟨List.mem_cons_self .., next_is_new F⟩
  · have hb' : b = s.heap.objs.size ∨ b = ax := by simpa using hb
    rcases hb' with e | e
    · exact .inl (by simp [e])
    · exact .inr (.inr ⟨lo, by rw [e]; exact hg⟩)
  · intro hI
    rcases List.mem_cons.mp hI with e | hI
    · exact absurd F.ns.lt (e ▸ Nat.lt_irrefl _)
    · have e : env.locals = ax := List.mem_singleton.mp hI
      exact absurd (Heap.lt_size hg) (Nat.not_lt.mpr (e ▸ F.above))
  · exact absurd (Heap.lt_size (N p hp).1) ((List.mem_singleton.mp hI) ▸ Nat.lt_irrefl _)
  · exact ⟨⟨_, Heap.get?_push_size _ rfl, rfl, rfl⟩, hl.at fun o e => Heap.get?_push_of_some _ e⟩
def rangeItems (a : Int) (n : Nat) : List Itm := (List.range n).map fun (i : Nat) => Itm.tok fun t => Value.int (a + (i : Int)) t
theorem rangeItems_length (a : Int) (n : Nat) : (rangeItems a n).length = n := by simp [rangeItems]
theorem rangeItems_get {a : Int} {n i : Nat} {x : Itm} (h : (rangeItems a n)[i]? = some x) : i < n ∧ x = .tok fun t => .int (a + (i : Int)) t := by
  unfold rangeItems at h
  rw [List.getElem?_map] at h
  obtain ⟨j, hj, e⟩ := Option.map_eq_some_iff.mp h
  obtain ⟨h1, h2⟩ := List.getElem?_eq_some_iff.mp hj
  rw [List.getElem_range] at h2
  subst h2
  exact ⟨by simpa using h1, e.symm⟩
theorem iter_rangeTurns {x : Str} {px : Pos} {r : Addr} {a₀ b₀ : Int} {t₀ u₀ v₀ : Tok} {n : Nat} {m₀ : Str → Option Value} {news : List (Addr × Obj)}
    (hh : A.handled = none) (hr : IsRange s.heap r a₀ b₀ 1 t₀ u₀ v₀) (hsmall : Builtin.Range.small a₀ b₀ 1 = true) (hn : Builtin.Range.rangeSize a₀ b₀ 1 = (n : Int)) (F : Fr h₀ env.locals s.heap m₀) (N : News h₀ env.locals s.heap news)
    (rest₀ : ∀ I : Addr, (∀ p ∈ news, p.1 < I) → ItemsRest prog w A E h₀ env (.Name x px) body Q s [(I, "range_iterator")] [] (rangeItems a₀ n) m₀ news) :
    wpAny (model prog w) A (pyIter (.ref r)) (fun it s₂ => TurnsAt prog w A h₀ env (.Name x px) body Q E it s₂) E s := by
  refine wpAny_pyIter_range hr hsmall ?_
  have W : Walks prog w A s.heap.objs.size [s.heap.objs.size] [s.heap.objs.size] n (fun i v => i < n ∧ ∃ t, v = .int (a₀ + i * 1) t)
      (fun i h => IsRangeIter h s.heap.objs.size (a₀ + (i : Nat) * 1) ((n : Int) - (i : Nat)) 1) := (Walks.range hh _ a₀ 1 n).bound
  refine ktg_core (tk0 := s.toks) (keep := []) (KTurns.ofWalks W fun i v s Q E st q => wpAny_pure q) (rangeItems_length a₀ n).symm (fun i v h hp => ?_) (fun i h st => ?_) (fun b hb => ?_) (fun b hb => by simpa using hb) (fun b hb => .inl (by simpa using hb)) ?_ (fun p hp hI => ?_) ?_ (F.push _) (fun p hp => ⟨Heap.get?_push_of_some _ (N p hp).1, (N p hp).2⟩) trivial (rest₀ _ fun p hp => Heap.lt_size (N p hp).1)
  · obtain ⟨hi, t, rfl⟩ := hp
    refine ⟨.tok fun t => .int (a₀ + (i : Int)) t, ?_, t, by rw [Int.mul_one]⟩
    unfold rangeItems
    rw [List.getElem?_map, List.getElem?_range hi]
    rfl
  · exact ⟨[(s.heap.objs.size, _)], ⟨⟨rfl, rfl⟩, trivial⟩, fun p hp => by rw [List.mem_singleton.mp hp]; exact st⟩
  · have hb' : b = s.heap.objs.size := by simpa using hb
    rw [hb']
    exact ⟨List.mem_cons_self .., next_is_new F⟩
  · intro hI
    exact absurd F.ns.lt ((List.mem_singleton.mp hI) ▸ Nat.lt_irrefl _)
  · exact absurd (Heap.lt_size (N p hp).1) ((List.mem_singleton.mp hI) ▸ Nat.lt_irrefl _)
  · show IsRangeIter _ _ _ _ _
    rw [hn]
    simpa using Heap.get?_push_size _ rfl
end
theorem unr_one {h₀ h' : Heap} {L I D : Addr} {o od : Obj} {rest : (Str → Option Value) → List (Addr × Obj) → Prop} {s₁ : Shared} {tk : Nat} {m' : Str → Option Value} {all : List (Addr × Obj)} (F : Fr h₀ L h' m') (N : News h₀ L h' ((D, od) :: all))
    (hI : (I, o) ∈ (D, od) :: all) (hne : D ≠ I) (r : rest m' [(D, od)]) : UnrEndW h₀ L s₁ [(I, o)] rest { s₁ with heap := h', toks := tk } :=
  unr_end [(D, od)] F N hI (fun p hp => by rw [List.mem_singleton.mp hp]; exact List.mem_cons_self ..) (fun p hp => by rw [List.mem_singleton.mp hp]; exact hne) r
def Hold (P : Prop) : Prop := P
theorem Hold.out {P : Prop} (h : Hold P) : P := h
-- a rational in the heap
def RatH (h : Heap) (v : Value) (r : Rat) : Prop := ∃ D t t' c, v = .ref D ∧ h.get? D = some (RatO r t t' c)
theorem RatH.keeps {h g : Heap} {v : Value} {r : Rat} (hk : ∀ b o, h.get? b = some o → g.get? b = some o) (x : RatH h v r) : RatH g v r := let ⟨D, t, t', c, e, hd⟩ := x; ⟨D, t, t', c, e, hk _ _ hd⟩
def tot (rs : List Rat) : Rat := rs.foldl (· + ·) 0
theorem tot_take {rs : List Rat} {i : Nat} {r : Rat} (h : rs[i]? = some r) : tot (rs.take (i + 1)) = tot (rs.take i) + r := by
  unfold tot
  rw [List.take_add_one, h, List.foldl_append]; rfl
theorem val_get {vs : List Value} {i : Nat} {a : Itm} {v : Value} {h : Heap} (ha : (vs.map Itm.val)[i]? = some a) (hv : a.Is v h) : vs[i]? = some v := by
  rw [List.getElem?_map] at ha
  obtain ⟨x, hx, e⟩ := Option.map_eq_some_iff.mp ha
  subst e
  have : v = x := hv
  rw [this]; exact hx
theorem mul_le_of_lt {i n b : Nat} (h : i < n) : i * (b + 1) + 1 + b + 1 ≤ n * (b + 1) + 1 := by
  have : (i + 1) * (b + 1) ≤ n * (b + 1) := Nat.mul_le_mul_right _ h
  rw [Nat.add_mul] at this
  omega
local macro_rules | `(tactic| walk_at "hat9") => `(tactic| (first | exact News.get (by k_asm) (by k_mem) | exact Fr.keep (by k_asm) _ _ (by with_reducible assumption) | exact Tk.get (by k_asm) (by k_asm) (by with_reducible assumption) (by intro p9 hp9; first | exact hp9 | exact absurd hp9 List.not_mem_nil | (repeat (first | exact hp9 | refine List.mem_cons_of_mem _ ?_))) | exact Frag.In.keeps (by k_asm) (Fr.keep (by k_asm)) _ _ (by k_is)))
local macro_rules | `(tactic| ktr_units) => `(tactic| ((try simp only [units_under_make, units_in1, units_deeper, Around.mark_units, units_caller]); (try dsimp only [ktrTop]); first | exact un1 (by with_reducible assumption) (Nat.le_of_ble_eq_true rfl) | exact un2 (by with_reducible assumption) (Nat.le_of_ble_eq_true rfl) | exact un3 (by with_reducible assumption) (Nat.le_of_ble_eq_true rfl) | (have hcL9 := cLine_is; omega)))
local macro_rules | `(tactic| walk_at "h4") => `(tactic| (k_here; (with_reducible show wpAny _ _ (call (Value.ref 58) [Value.ref _, Value.ref _]) _ _ _)))
local macro_rules | `(tactic| walk_at "t3") => `(tactic| (first | exact Nat.le_of_ble_eq_true rfl | ktr_room))
local macro_rules | `(tactic| walk_at "t4") => `(tactic| (first | assumption | omega | decide))
local macro_rules | `(tactic| walk_at "call ref") => `(tactic| (walk_at "h4"; k_dflt (refine' plus_r ?k1 ?k2 ?k3 ?k4 ?k5 ?k6 ?m1 ?m2 ?k7 ?k8 ?b1 ?b2 ?hb ?_; (case k1 | k2 | k3 | k4 | k5 => k_asm); (case k6 => walk_at "t1"); (case k7 => walk_at "t3"); (case k8 => walk_at "t2"); (case m1 | m2 => (walk_at "hat9")); (case b1 | b2 => walk_at "t0"); (case hb => walk_at "t4"); k_whole); intro D' t' u' c' h' tk' bD' F' N' l1; (try (replace l1 := allNe_of l1; simp only [AllNe, and_true] at l1)); (try k_sweep)))
local macro_rules | `(tactic| walk_at "t8") => `(tactic| (exact Frag.In.keeps (by k_asm) (Fr.keep (by k_asm)) _ _ (by k_is)))
local macro_rules | `(tactic| walk_at "call ref") => `(tactic| (k_here; (with_reducible show wpAny _ _ (call (Value.ref 58) [Value.ref 28, Value.ref _]) _ _ _); k_dflt (refine' plus_r (r1 := 0) (n := 1) ?k1 ?k2 ?k3 ?k4 ?k5 ?k6 ?m1 ?m2 ?k7 ?k8 ?b1 ?b2 ?hb ?_; (case k1 | k2 | k3 | k4 | k5 => k_asm); (case k6 => walk_at "t1"); (case k7 => walk_at "t3"); (case k8 => walk_at "t2"); (case m1 => walk_at "t8"); (case m2 => (walk_at "hat9")); (case b1 => exact Bd.zero (by decide)); (case b2 => walk_at "t0"); (case hb => walk_at "t4"); k_whole); intro D' t' u' c' h' tk' bD' F' N' l1; (try (replace l1 := allNe_of l1; simp only [AllNe, and_true] at l1)); (try k_sweep)))
local macro_rules | `(tactic| walk_at "eval Name") => `(tactic| (k_here; k_dflt (refine' ld ?k1 ?k2 ?_; (case k1 => k_asm); (case k2 => walk_at "t1"); k_whole)))
local macro_rules | `(tactic| walk_at "b0") => `(tactic| (k_here; (rename Fr _ _ _ _ => lF'); (with_unfolding_all refine' For_turns lF' ?_; k_whole)))
local macro_rules | `(tactic| walk_at "exec For") => `(tactic| (walk_at "b0"))
local macro_rules | `(tactic| walk_at "exec For Name Name cons nil") => `(tactic| (walk_at "b0"))
local macro_rules | `(tactic| walk_at "exec For Name Call cons nil") => `(tactic| (walk_at "b0"))
local macro_rules | `(tactic| walk_at "exec For Tuple Name cons nil") => `(tactic| (walk_at "b0"))
local macro_rules | `(tactic| walk_at "exec For Tuple Call cons nil") => `(tactic| (walk_at "b0"))
local macro_rules | `(tactic| walk_at "exec For Name Attribute cons nil") => `(tactic| (walk_at "b0"))
local macro_rules | `(tactic| walk_at "exec For Tuple Attribute cons nil") => `(tactic| (walk_at "b0"))
local macro_rules | `(tactic| walk_at "exec For Tuple Subscript cons nil") => `(tactic| (walk_at "b0"))
local macro_rules | `(tactic| walk_at "pyIter ref") => `(tactic| ((with_reducible show wpAny _ _ (pyIter (Value.ref _)) (fun it s₂ => TurnsAt _ _ _ _ _ _ _ _ _ it s₂) _ _); refine Hold.out ?_))
local macro_rules | `(tactic| walk_at "UnrPostW") => `(tactic| (dsimp only [UnrPostW]))
local macro_rules | `(tactic| walk_at "UnrEndW") => `(tactic| (refine Hold.out ?_))
theorem total_c {w : World} {p : Program} {loose : List Str} {mean : ExcName → Option Value} {mg mb : Str → Option Value} {dp un : Nat} {gd : Option (List Code)} {cn : Str} {cs : Scope} {a : Addr} {ccd : Value} {cl : List (Str × Addr)} {outer : List Env} {A₀ : Around} {base h₀ : Heap} {L : Addr} {m : Str → Option Value} {news : List (Addr × Obj)} {s : Shared} {Q E : Value → Shared → Prop} {l : Addr} {vs : List Value} {rs : List Rat} {n0 b : Nat}
    (B : Below A₀ base outer h₀) (F : Fr h₀ L s.heap m) (X : (HD.K w.params).In h₀) (N : News h₀ L s.heap news) (T : Top p loose mean mg mb h₀) (hk : cs.kind = .function) (el : s.heap.get? l = some (listOf vs.toArray n0)) (hv : All2 (RatH s.heap) vs rs) (hne : rs ≠ []) (hb : ∀ r ∈ rs, Bd b r) (hlen : rs.length * (b + 1) + 1 ≤ 6643)
    (hd : dp + 6 < recursionLimit) (hu : un + 100 < cLine)
    (hret : ∀ (D : Addr) (t t' : Tok) (c : Nat) (h' : Heap) (tk' : Nat), Bd (rs.length * (b + 1) + 1) (tot rs) → Fr h₀ L h' m → News h₀ L h' ((D, RatO (tot rs) t t' c) :: news) → (∀ p ∈ news, p.1 ≠ D) → Q (.ref D) { s with heap := h', toks := tk' }) :
    wpAny (model PySem.Challenge.rw_ui0509_10.row.prog w) (ktrTop dp un gd cn cs L a ccd cl outer) (call (.ref 100) [.ref l]) Q E s := by
  w_top off
  revert X; k_fill; intro X
  refine wpAny_call ?_
  k_dflt (refine' code_need [] ?k1 ?k2 ?k3 ?k4 ?k5 ?kA ?kF ?kK ?k6 ?k7 ?k8 ?k9 ?kB ?kN ?_ ?c2 ?c3 ?c4 ?c5; (case kA => exact rfl); (case kF => exact rfl); (case kK => assumption); (case k1 => k_asm); (case k2 => k_asm); (case k3 => k_asm); (case k4 => k_asm); (case k5 => k_asm); (case k6 => k_is); (case k7 => k_is); (case k8 => ktr_room); (case k9 => first | exact BindsTo.of_eq rfl | exact binds_K (by k_in) rfl (by k_is) rfl rfl rfl); (case c5 => decide); (case kB => exact locs rfl); (case kN => exact fun _ h => nomatch h); (case c2 => exact rfl); (case c3 => exact rfl); (case c4 => exact rfl); k_whole; intro g' L' h' tk0 FG' F' N' B' X' T' hG'; (try dsimp only); (try k_fold))
  replace el := hG' _ _ el (by simp)
  replace hv := hv.mono fun v r x => x.keeps fun b o e => hG' b o e (by simp)
  k_steps
  unfold Hold
  refine iter_baseTurns rfl (by k_asm) (by k_asm) el rfl rfl (fun I lI => ?_)
  refine items_ind (fun i m nx => ∃ v, m (Str.ofString "out") = some v ∧ ((i = 0 ∧ v = .ref 28 ∧ nx = []) ∨ (0 < i ∧ ∃ D t t' c, v = .ref D ∧ nx = [(D, RatO (tot (rs.take i)) t t' c)] ∧ Bd (i * (b + 1) + 1) (tot (rs.take i))))) ?turn ?done _ 0 _ _ rfl (Nat.zero_le _) trivial (fun p hp => Nat.ne_of_lt (lI p hp)) ⟨_, rfl, .inl ⟨rfl, rfl, rfl⟩⟩
  case turn =>
    intro i a v m nx h tk o ha _ hI hJ hav Fm ho Nn
    obtain ⟨r, hr, D1, t1, t1', c1, rfl, e1⟩ := hv.get (val_get ha hav)
    have hil : i < rs.length := (List.getElem?_eq_some_iff.mp hr).1
    have bR := hb r (List.mem_of_getElem? hr)
    have hsz := mul_le_of_lt (b := b) hil
    have hsz2 : i * (b + 1) + 1 + b + 1 ≤ 6643 := Nat.le_trans hsz hlen
    obtain ⟨vo, hm, ⟨rfl, rfl, rfl⟩ | ⟨hpos, D, t, t', c, rfl, rfl, hB⟩⟩ := hJ
    · have htot : tot (rs.take (0 + 1)) = 0 + r := by rw [tot_take hr]; rfl
      k_steps
      unfold Hold
      exact unr_one (by k_asm) (by k_asm) (by k_mem) (neN (by walk_at "ne9")) ⟨trivial, _, rfl, .inr ⟨Nat.succ_pos _, _, _, _, _, rfl, by rw [htot], by rw [htot]; exact Bd.mono (by assumption) (by omega)⟩⟩
    · have htot := tot_take hr
      k_steps
      unfold Hold
      exact unr_one (by k_asm) (by k_asm) (by k_mem) (neN (by walk_at "ne9")) ⟨trivial, _, rfl, .inr ⟨Nat.succ_pos _, _, _, _, _, rfl, by rw [htot], by rw [htot]; exact Bd.mono (by assumption) (by rw [Nat.add_mul]; omega)⟩⟩
  case done =>
    intro m nx h tk hJ Fm Nn
    rw [List.length_map, hv.length] at hJ
    obtain ⟨vo, hm, ⟨h0, _, _⟩ | ⟨hpos, D, t, t', c, rfl, rfl, hB⟩⟩ := hJ
    · exact absurd (List.length_eq_zero_iff.mp h0) hne
    · rw [List.take_length] at hB Nn
      k_steps
      dsimp only
      refine leaveN_ (by k_asm) (by k_asm) ?_; intro kF kN kR kD; (try dsimp only); exact hret _ _ _ _ _ _ hB kF (news_cons kN (by k_mem) (news_all kR)) (ne_all kD (List.mem_cons_self ..))
-- what a frame keeps track of: an object of the ledger, or of the ground
def Tk (h₀ : Heap) (nx : List (Addr × Obj)) (a : Addr) (o : Obj) : Prop := (a, o) ∈ nx ∨ h₀.get? a = some o
theorem Tk.mono {h₀ : Heap} {nx ny : List (Addr × Obj)} {a : Addr} {o : Obj} (e : Tk h₀ nx a o) (hs : ∀ p ∈ nx, p ∈ ny) : Tk h₀ ny a o := e.imp (hs _) id
theorem Tk.get {h₀ h : Heap} {L : Addr} {m : Str → Option Value} {nx led : List (Addr × Obj)} {a : Addr} {o : Obj} (F : Fr h₀ L h m) (N : News h₀ L h led) (e : Tk h₀ nx a o) (hs : ∀ p ∈ nx, p ∈ led) : h.get? a = some o :=
  e.elim (fun h1 => (N _ (hs _ h1)).1) fun h1 => F.keep _ _ h1
abbrev pairO (v1 v2 : Value) (c : Nat) : Obj := { cls := .type "tuple", data := .seq #[v1, v2] c }
abbrev PT (P : Addr → Obj → Prop) (tl : List (Addr × Obj)) (a : Addr) (o : Obj) : Prop := P a o ∨ (a, o) ∈ tl
theorem PT.mono {P : Addr → Obj → Prop} {tl tm : List (Addr × Obj)} (hs : ∀ p ∈ tl, p ∈ tm) : ∀ a o, PT P tl a o → PT P tm a o := fun _ _ e => e.imp id (hs _)
theorem PT.left {P : Addr → Obj → Prop} {tl tm : List (Addr × Obj)} (_hs : ∀ p ∈ tl, p ∈ tm) : ∀ a o, P a o → PT P tm a o := fun _ _ e => .inl e
def RatN (P : Addr → Obj → Prop) (v : Value) (r : Rat) : Prop := ∃ D t t' c, v = .ref D ∧ P D (RatO r t t' c)
def LayN (P : Addr → Obj → Prop) (v : Value) (l : Rat × Rat) : Prop := ∃ D v1 v2 c, v = .ref D ∧ P D (pairO v1 v2 c) ∧ RatN P v1 l.1 ∧ RatN P v2 l.2
def LstN {β : Type} (R : Value → β → Prop) (P : Addr → Obj → Prop) (v : Value) (bs : List β) : Prop := ∃ l vs n, v = .ref l ∧ P l (listOf vs.toArray n) ∧ All2 R vs bs
abbrev LaysN (P : Addr → Obj → Prop) (v : Value) (ls : List (Rat × Rat)) : Prop := LstN (LayN P) P v ls
abbrev RatsN (P : Addr → Obj → Prop) (v : Value) (rs : List Rat) : Prop := LstN (RatN P) P v rs
section
variable {P P' : Addr → Obj → Prop} {v : Value}
theorem RatN.mono {r : Rat} (hs : ∀ a o, P a o → P' a o) (x : RatN P v r) : RatN P' v r := let ⟨D, t, t', c, e, k⟩ := x; ⟨D, t, t', c, e, hs _ _ k⟩
theorem LayN.mono {l : Rat × Rat} (hs : ∀ a o, P a o → P' a o) (x : LayN P v l) : LayN P' v l := let ⟨D, v1, v2, c, e, k, a, b⟩ := x; ⟨D, v1, v2, c, e, hs _ _ k, a.mono hs, b.mono hs⟩
theorem LaysN.mono {ls : List (Rat × Rat)} (hs : ∀ a o, P a o → P' a o) (x : LaysN P v ls) : LaysN P' v ls := let ⟨l, vs, n, e, k, a⟩ := x; ⟨l, vs, n, e, hs _ _ k, a.mono fun _ _ y => y.mono hs⟩
theorem RatsN.mono {rs : List Rat} (hs : ∀ a o, P a o → P' a o) (x : RatsN P v rs) : RatsN P' v rs := let ⟨l, vs, n, e, k, a⟩ := x; ⟨l, vs, n, e, hs _ _ k, a.mono fun _ _ y => y.mono hs⟩
end
theorem ground_of {P : Addr → Obj → Prop} {h g : Heap} (hP : ∀ a o, P a o → h.get? a = some o) (hG : ∀ b o, h.get? b = some o → b ∉ List.map (·.1) ([] : List (Addr × Obj)) → g.get? b = some o) (tl : List (Addr × Obj)) :
    ∀ a o, PT P tl a o → Tk g tl a o := fun a o e => e.elim (fun h => .inr (hG _ _ (hP _ _ h) (by simp))) .inl
theorem tracked {h₀ h : Heap} {L : Addr} {m : Str → Option Value} {led : List (Addr × Obj)} (F : Fr h₀ L h m) (N : News h₀ L h led) : ∀ a o, Tk h₀ led a o → h.get? a = some o := fun _ _ e => e.get F N fun _ hp => hp
-- steps on such objects
section
variable {prog : Program} {w : World} {A : Around} {E : Value → Shared → Prop} {s : Shared} {h₀ : Heap} {L D : Addr} {m : Str → Option Value} {nx led : List (Addr × Obj)} {lo : Obj} {env : Env}
theorem tup_t {value slice : Expr} {l : List Value} {n : Nat} {k : Int} {u : Tok} {j : Nat} {x : Value} {Q : Value → Shared → Prop}
    (F : Fr h₀ L s.heap m) (N : News h₀ L s.heap led) (e : Tk h₀ nx D lo) (hsub : ∀ p ∈ nx, p ∈ led) (hc : lo.cls = .type "tuple") (hd : lo.data = .seq l.toArray n) (hlo : -(2 ^ 63) ≤ k) (hhi : k < 2 ^ 63) (hj : seqIndex? k l.length = some j) (hx : l[j]? = some x) (h : Q x s)
    (hs : subscripted slice false (.ref D) (.int k u) = operate [.ref D, .int k u] (getItem (.ref D) (.int k u))) (hg : ∀ r, letTemporaryGo value (.ref D) r = pure ()) :
    wpAny (model prog w) A (subscriptTail value slice (.ref D) (.int k u)) Q E s := item_tupleL ⟨lo, e.get F N hsub, hc, n, hd⟩ hlo hhi hj hx h hs hg
theorem unpack_t {elts : List Expr} {k : Nat} {pos : Pos} {items : Array Value} {n : Nat} {Q : Unit → Shared → Prop} (F : Fr h₀ L s.heap m) (N : News h₀ L s.heap led) (e : Tk h₀ nx D lo) (hsub : ∀ p ∈ nx, p ∈ led) (hc : lo.cls = .type "tuple") (hd : lo.data = .seq items n)
    (hh : A.handled = none) (hn : (assignEach elts env).length = items.size) (hstar : (assignEach elts env).findIdx? (·.1) = none)
    (h : ∀ h', Fr h₀ L h' m → News h₀ L h' led → wpAny (model prog w) A (assignInOrder ((assignEach elts env).map (·.2)) items.toList) Q E { s with heap := h' }) :
    wpAny (model prog w) A (assign (.Tuple elts k pos) env (.ref D)) Q E s := unpackN_ F N ⟨lo, e.get F N hsub, hc, n, hd⟩ hh hn hstar h
end
theorem off_of {l tl : List (Addr × Obj)} {d : Addr} {o : Obj} (h : ∀ p ∈ l, ∀ q ∈ tl, p.1 ≠ q.1) (hm : (d, o) ∈ l) : ∀ q ∈ tl, q.1 ≠ d := fun q hq e => h _ hm q hq e.symm
theorem allNe_mem {d : Nat} : ∀ {l : List (Addr × Obj)}, AllNe d l → ∀ p ∈ l, p.1 ≠ d
  | [], _, _, h => nomatch h
  | _ :: _, x, p, h => by
    rcases List.mem_cons.mp h with rfl | h
    · exact x.1
    · exact allNe_mem x.2 p h
theorem lay_new {P : Addr → Obj → Prop} {T : Addr} {v1 v2 : Value} {c : Nat} {x y : Rat} (h : P T (pairO v1 v2 c)) (a : RatN P v1 x) (b : RatN P v2 y) : LayN P (.ref T) (x, y) := ⟨T, v1, v2, c, rfl, h, a, b⟩
theorem rat_new {P : Addr → Obj → Prop} {D : Addr} {t t' : Tok} {c : Nat} {r : Rat} (h : P D (RatO r t t' c)) : RatN P (.ref D) r := ⟨D, t, t', c, rfl, h⟩
theorem allLt_mem {d : Nat} : ∀ {l : List (Addr × Obj)}, AllLt d l → ∀ p ∈ l, p.1 ≠ d
  | [], _, _, h => nomatch h
  | _ :: _, x, p, h => by
    rcases List.mem_cons.mp h with rfl | h
    · exact Nat.ne_of_lt x.1
    · exact allLt_mem x.2 p h
theorem news_app {h₀ h' : Heap} {L : Addr} {news tl : List (Addr × Obj)} {p : Addr × Obj} (N1 : News h₀ L h' (p :: tl)) (N : News h₀ L h' news) : News h₀ L h' (p :: (news ++ tl)) := by
  intro q hq
  rcases List.mem_cons.mp hq with rfl | hq
  · exact N1 _ (List.mem_cons_self ..)
  · rcases List.mem_append.mp hq with hq | hq
    · exact N q hq
    · exact N1 q (List.mem_cons_of_mem _ hq)
theorem news_app2 {h₀ h' : Heap} {L : Addr} {news tl : List (Addr × Obj)} (N1 : News h₀ L h' tl) (N : News h₀ L h' news) : News h₀ L h' (news ++ tl) := by
  intro q hq
  rcases List.mem_append.mp hq with hq | hq
  · exact N q hq
  · exact N1 q hq
local macro_rules | `(tactic| walk_at "hat9") => `(tactic| (first | exact News.get (by k_asm) (by k_mem) | exact Fr.keep (by k_asm) _ _ (by with_reducible assumption) | exact Tk.get (by k_asm) (by k_asm) (by with_reducible assumption) (by intro p9 hp9; first | exact hp9 | exact absurd hp9 List.not_mem_nil | (repeat (first | exact hp9 | refine List.mem_cons_of_mem _ ?_))) | exact Frag.In.keeps (by k_asm) (Fr.keep (by k_asm)) _ _ (by k_is)))
local macro_rules | `(tactic| walk_at "call ref") => `(tactic| (walk_at "h3"; k_dflt (refine' less_r ?k1 ?k2 ?k3 ?k4 ?k5 ?k6 ?m1 ?m2 ?k7 ?k8 ?b1 ?b2 ?hb ?_; (case k1 | k2 | k3 | k4 | k5 => k_asm); (case k6 => walk_at "t1"); (case k7 => walk_at "t3"); (case k8 => walk_at "t2"); (case m1 | m2 => (walk_at "hat9")); (case b1 | b2 => walk_at "t0"); (case hb => walk_at "t4"); k_whole); intro h' tk' F' N'; (try k_sweep)))
theorem least_c {w : World} {p : Program} {loose : List Str} {mean : ExcName → Option Value} {mg mb : Str → Option Value} {dp un : Nat} {gd : Option (List Code)} {cn : Str} {cs : Scope} {a : Addr} {ccd : Value} {cl : List (Str × Addr)} {outer : List Env} {A₀ : Around} {base h₀ : Heap} {L : Addr} {m : Str → Option Value} {news : List (Addr × Obj)} {s : Shared} {Q E : Value → Shared → Prop} {D1 D2 : Addr} {r1 r2 : Rat} {t1 t1' t2 t2' : Tok} {c1 c2 n k : Nat}
    (B : Below A₀ base outer h₀) (F : Fr h₀ L s.heap m) (X : (HD.K w.params).In h₀) (N : News h₀ L s.heap news) (T : Top p loose mean mg mb h₀) (hk : cs.kind = .function) (e1 : s.heap.get? D1 = some (RatO r1 t1 t1' c1)) (e2 : s.heap.get? D2 = some (RatO r2 t2 t2' c2))
    (hd : dp + 5 < recursionLimit) (hu : un + 60 < cLine) (b1 : Bd n r1) (b2 : Bd k r2) (hb : k + n ≤ 100000)
    (h1 : r2 < r1 → ∀ (h' : Heap) (tk' : Nat), Fr h₀ L h' m → News h₀ L h' news → Q (.ref D2) { s with heap := h', toks := tk' }) (h2 : ¬ r2 < r1 → ∀ (h' : Heap) (tk' : Nat), Fr h₀ L h' m → News h₀ L h' news → Q (.ref D1) { s with heap := h', toks := tk' }) :
    wpAny (model PySem.Challenge.rw_ui0509_10.row.prog w) (ktrTop dp un gd cn cs L a ccd cl outer) (call (.ref 93) [.ref D1, .ref D2]) Q E s := by
  w_top off
  revert X; k_fill; intro X
  refine wpAny_call ?_
  k_dflt (refine' code_need [] ?k1 ?k2 ?k3 ?k4 ?k5 ?kA ?kF ?kK ?k6 ?k7 ?k8 ?k9 ?kB ?kN ?_ ?c2 ?c3 ?c4 ?c5; (case kA => exact rfl); (case kF => exact rfl); (case kK => assumption); (case k1 => k_asm); (case k2 => k_asm); (case k3 => k_asm); (case k4 => k_asm); (case k5 => k_asm); (case k6 => k_is); (case k7 => k_is); (case k8 => ktr_room); (case k9 => first | exact BindsTo.of_eq rfl | exact binds_K (by k_in) rfl (by k_is) rfl rfl rfl); (case c5 => decide); (case kB => exact locs rfl); (case kN => exact fun _ h => nomatch h); (case c2 => exact rfl); (case c3 => exact rfl); (case c4 => exact rfl); k_whole; intro g' L' h' tk0 FG' F' N' B' X' T' hG'; (try dsimp only); (try k_fold))
  replace e1 := hG' _ _ e1 (by simp)
  replace e2 := hG' _ _ e2 (by simp)
  k_steps
  all_goals (refine leaveN_ (by k_asm) (by k_asm) ?_; intro kF kN kR kD; (try dsimp only); first | exact h1 (by simpa using (by assumption : decide (r2 < r1) = true)) _ _ kF (news_all kR) | exact h2 (by simpa using (by assumption : decide (r2 < r1) = false)) _ _ kF (news_all kR) | exact h1 (by assumption) _ _ kF (news_all kR) | exact h2 (by assumption) _ _ kF (news_all kR))
-- the ledger at a turn's end: what is told of by name, and all the rest but the iterator
def strip (bad : List Addr) (all : List (Addr × Obj)) : List (Addr × Obj) := all.filter fun p => !bad.contains p.1
theorem mem_strip {bad : List Addr} {all : List (Addr × Obj)} {p : Addr × Obj} (h : p ∈ all) (hn : p.1 ∉ bad) : p ∈ strip bad all := List.mem_filter.mpr ⟨h, by simpa [List.contains_iff_mem] using hn⟩
theorem strip_mem {bad : List Addr} {all : List (Addr × Obj)} {p : Addr × Obj} (h : p ∈ strip bad all) : p ∈ all ∧ p.1 ∉ bad := by
  obtain ⟨h1, h2⟩ := List.mem_filter.mp h
  exact ⟨h1, by simpa [List.contains_iff_mem] using h2⟩
theorem unr_mut {h₀ h' : Heap} {L I : Addr} {o : Obj} {rest : (Str → Option Value) → List (Addr × Obj) → Prop} {s₁ : Shared} {tk : Nat} {m' : Str → Option Value} {all : List (Addr × Obj)} (muts : List (Addr × Obj)) (F : Fr h₀ L h' m') (N : News h₀ L h' all)
    (hI : (I, o) ∈ all) (hm : ∀ p ∈ muts, p ∈ all) (hn : ∀ p ∈ muts, p.1 ≠ I) (r : rest m' (muts ++ strip (I :: muts.map (·.1)) all)) : UnrEndW h₀ L s₁ [(I, o)] rest { s₁ with heap := h', toks := tk } := by
  refine unr_end _ F N hI (fun p hp => ?_) (fun p hp => ?_) r
  · rcases List.mem_append.mp hp with hp | hp
    · exact hm p hp
    · exact (strip_mem hp).1
  · rcases List.mem_append.mp hp with hp | hp
    · exact hn p hp
    · exact fun e => (strip_mem hp).2 (e ▸ List.mem_cons_self ..)
theorem two_of {P : Addr × Obj → Prop} {a b : Addr × Obj} (ha : P a) (hb : P b) : ∀ p ∈ [a, b], P p := List.forall_mem_cons.mpr ⟨ha, List.forall_mem_cons.mpr ⟨hb, List.forall_mem_nil _⟩⟩
theorem one_of {P : Addr × Obj → Prop} {a : Addr × Obj} (ha : P a) : ∀ p ∈ [a], P p := List.forall_mem_cons.mpr ⟨ha, List.forall_mem_nil _⟩
theorem not_in3 {a x y z : Addr} (h1 : a ≠ x) (h2 : a ≠ y) (h3 : a ≠ z) : a ∉ [x, y, z] := by
  simp only [List.mem_cons, List.not_mem_nil, or_false, not_or]; exact ⟨h1, h2, h3⟩
theorem not_in2 {a x y : Addr} (h1 : a ≠ x) (h2 : a ≠ y) : a ∉ [x, y] := by
  simp only [List.mem_cons, List.not_mem_nil, or_false, not_or]; exact ⟨h1, h2⟩
-- cutting layers
abbrev Lay := Rat × Rat
structure CutSt where
  out : List Lay
  rest : List Lay
  left : Rat
def cutStep (c : CutSt) (l : Lay) : CutSt :=
  let p := if c.left < l.1 then c.left else l.1
  ⟨if 0 < p then c.out ++ [(p, l.2)] else c.out, if p < l.1 then c.rest ++ [(l.1 - p, l.2)] else c.rest, if 0 < p then c.left - p else c.left⟩
def cutF (ls : List Lay) (x : Rat) : CutSt := ls.foldl cutStep ⟨[], [], x⟩
theorem cut_take {ls : List Lay} {i : Nat} {l : Lay} {x : Rat} (h : ls[i]? = some l) : cutF (ls.take (i + 1)) x = cutStep (cutF (ls.take i) x) l := by
  unfold cutF
  rw [List.take_add_one, h, List.foldl_append]; rfl
theorem num_pos {r : Rat} : 0 < r.num ↔ 0 < r := by
  rw [Rat.lt_iff]; simp
theorem unr_mut2 {h₀ h' : Heap} {L I d1 d2 : Addr} {o o1 o2 : Obj} {rest : (Str → Option Value) → List (Addr × Obj) → Prop} {s₁ : Shared} {tk : Nat} {m' : Str → Option Value} {all : List (Addr × Obj)} (F : Fr h₀ L h' m') (N : News h₀ L h' all)
    (hI : (I, o) ∈ all) (h1 : (d1, o1) ∈ all) (h2 : (d2, o2) ∈ all) (n1 : d1 ≠ I) (n2 : d2 ≠ I) (r : rest m' ([(d1, o1), (d2, o2)] ++ strip [I, d1, d2] all)) : UnrEndW h₀ L s₁ [(I, o)] rest { s₁ with heap := h', toks := tk } :=
  unr_mut [(d1, o1), (d2, o2)] F N hI (two_of h1 h2) (two_of n1 n2) r
theorem unr_mut1 {h₀ h' : Heap} {L I d1 : Addr} {o o1 : Obj} {rest : (Str → Option Value) → List (Addr × Obj) → Prop} {s₁ : Shared} {tk : Nat} {m' : Str → Option Value} {all : List (Addr × Obj)} (F : Fr h₀ L h' m') (N : News h₀ L h' all)
    (hI : (I, o) ∈ all) (h1 : (d1, o1) ∈ all) (n1 : d1 ≠ I) (r : rest m' ([(d1, o1)] ++ strip [I, d1] all)) : UnrEndW h₀ L s₁ [(I, o)] rest { s₁ with heap := h', toks := tk } :=
  unr_mut [(d1, o1)] F N hI (one_of h1) (one_of n1) r
theorem sub_strip3 {h₀ h' : Heap} {L x y z : Addr} {all tl : List (Addr × Obj)} (_N : News h₀ L h' all) (hm : ∀ p ∈ tl, p ∈ all) (a : ∀ p ∈ tl, p.1 ≠ x) (b : ∀ p ∈ tl, p.1 ≠ y) (c : ∀ p ∈ tl, p.1 ≠ z) : ∀ p ∈ tl, p ∈ strip [x, y, z] all :=
  fun p hp => mem_strip (hm p hp) (not_in3 (a p hp) (b p hp) (c p hp))
theorem sub_strip2 {h₀ h' : Heap} {L x y : Addr} {all tl : List (Addr × Obj)} (_N : News h₀ L h' all) (hm : ∀ p ∈ tl, p ∈ all) (a : ∀ p ∈ tl, p.1 ≠ x) (b : ∀ p ∈ tl, p.1 ≠ y) : ∀ p ∈ tl, p ∈ strip [x, y] all :=
  fun p hp => mem_strip (hm p hp) (not_in2 (a p hp) (b p hp))
theorem lst_len {prog : Program} {w : World} {A : Around} {E : Value → Shared → Prop} {s : Shared} {h₀ : Heap} {L l : Addr} {news : List (Addr × Obj)} {vs : List Value} {n : Nat} {Q : Value → Shared → Prop} (N : News h₀ L s.heap news) (hm : (l, listOf vs.toArray n) ∈ news) (hf : vs.length < 1000000) (h : ∀ tk, Q (.int (vs.length : Int) tk) { s with toks := tk + 1 }) :
    wpAny (model prog w) A (call (.builtin "len") [.ref l]) Q E s := by
  refine len_list ⟨_, N.get hm, rfl, n, rfl⟩ (by rw [List.size_toArray]; omega) ?_
  rw [List.size_toArray]
  exact h _
theorem lst_lenT {prog : Program} {w : World} {A : Around} {E : Value → Shared → Prop} {s : Shared} {h₀ : Heap} {L l : Addr} {m : Str → Option Value} {nx led : List (Addr × Obj)} {vs : List Value} {n : Nat} {Q : Value → Shared → Prop} (F : Fr h₀ L s.heap m) (N : News h₀ L s.heap led) (e : Tk h₀ nx l (listOf vs.toArray n)) (hs : ∀ p ∈ nx, p ∈ led) (hf : vs.length < 1000000) (h : ∀ tk, Q (.int (vs.length : Int) tk) { s with toks := tk + 1 }) :
    wpAny (model prog w) A (call (.builtin "len") [.ref l]) Q E s := by
  refine len_list ⟨_, e.get F N hs, rfl, n, rfl⟩ (by rw [List.size_toArray]; omega) ?_
  rw [List.size_toArray]
  exact h _
theorem add_k {prog : Program} {w : World} {A : Around} {E : Value → Shared → Prop} {s : Shared} {h₀ : Heap} {L a b : Addr} {m : Str → Option Value} {news : List (Addr × Obj)} {vs ws : List Value} {n1 n2 : Nat} {Q : Value → Shared → Prop} (F : Fr h₀ L s.heap m) (N : News h₀ L s.heap news)
    (h1 : s.heap.get? a = some (listOf vs.toArray n1)) (h2 : s.heap.get? b = some (listOf ws.toArray n2)) (hz : vs.length + ws.length ≤ 16000)
    (h : ∀ D h', Fr h₀ L h' m → News h₀ L h' ((D, listOf (vs ++ ws).toArray 0) :: news) → (∀ p ∈ news, p.1 < D) → Q (.ref D) { s with heap := h' }) : wpAny (model prog w) A (binaryOp .Add (.ref a) (.ref b)) Q E s :=
  add_lists F N ⟨_, h1, rfl, n1, rfl⟩ ⟨_, h2, rfl, n2, rfl⟩ (fun h' F' N' => h _ h' F' N' fun p hp => Heap.lt_size (N p hp).1) (by rw [sizeLine_eq]; omega)
-- items of tracked lists; data read from the heap and compared
section
variable {prog : Program} {w : World} {A : Around} {E : Value → Shared → Prop} {s : Shared} {h₀ : Heap} {L D : Addr} {m : Str → Option Value} {nx led : List (Addr × Obj)} {lo : Obj} {value slice : Expr} {l : List Value} {n : Nat} {k : Int} {u : Tok} {x : Value} {Q : Value → Shared → Prop}
theorem list_t (F : Fr h₀ L s.heap m) (N : News h₀ L s.heap led) (e : Tk h₀ nx D lo) (hsub : ∀ p ∈ nx, p ∈ led) (hc : lo.cls = .type "list") (hd : lo.data = .seq l.toArray n) (h0 : 0 ≤ k) (hfit : k < 2 ^ 63) (hx : l[k.toNat]? = some x) (h : Q x s)
    (hs : subscripted slice false (.ref D) (.int k u) = operate [.ref D, .int k u] (getItem (.ref D) (.int k u))) (hg : ∀ r, letTemporaryGo value (.ref D) r = pure ()) :
    wpAny (model prog w) A (subscriptTail value slice (.ref D) (.int k u)) Q E s := item_listL ⟨lo, e.get F N hsub, hc, n, hd⟩ h0 hfit hx h hs hg
theorem back_t (F : Fr h₀ L s.heap m) (N : News h₀ L s.heap led) (e : Tk h₀ nx D lo) (hsub : ∀ p ∈ nx, p ∈ led) (hc : lo.cls = .type "list") (hd : lo.data = .seq l.toArray n) (h0 : k < 0) (h1 : -(l.length : Int) ≤ k) (hfit : -(2 ^ 63) ≤ k) (hx : l[(k + (l.length : Int)).toNat]? = some x) (h : Q x s)
    (hs : subscripted slice false (.ref D) (.int k u) = operate [.ref D, .int k u] (getItem (.ref D) (.int k u))) (hg : ∀ r, letTemporaryGo value (.ref D) r = pure ()) :
    wpAny (model prog w) A (subscriptTail value slice (.ref D) (.int k u)) Q E s := by
  have hl : s.heap.IsList D l.toArray := ⟨lo, e.get F N hsub, hc, n, hd⟩
  exact subscriptTail_builtin hl.typeIs slot_list_getitem.lookup (wpAny_getItem_list_neg hl h0 (by rw [List.size_toArray]; exact h1) hfit (by rw [List.size_toArray]; simpa using hx) h) hs hg
end
theorem at_of {α : Type} {l : List α} {k : Int} {i : Nat} {x : α} (h : l[i]? = some x) (e : k = (i : Int)) : l[k.toNat]? = some x := by
  have : k.toNat = i := by omega
  rw [this]; exact h
def Rd (h : Heap) (v : Value) (d : PyData) : Prop := ∃ as, Reads h v d as
theorem rdAll {h : Heap} {vs : List Value} {ds : List PyData} (hv : All2 (Rd h) vs ds) : ∃ as, ReadsAll h vs ds as := by
  induction hv with
  | nil => exact ⟨_, .nil⟩
  | cons a _ ih => obtain ⟨as, ra⟩ := a; obtain ⟨bs, rb⟩ := ih; exact ⟨_, .cons ra rb⟩
theorem Rd.int {h : Heap} {i : Int} {t : Tok} : Rd h (.int i t) (.int i) := ⟨_, .int i t⟩
theorem Rd.none {h : Heap} : Rd h .none .none := ⟨_, .none⟩
theorem Rd.bool {h : Heap} {b : Bool} : Rd h (.bool b) (.bool b) := ⟨_, .bool b⟩
theorem Rd.tuple {h : Heap} {D : Addr} {vs : List Value} {c : Nat} {ds : List PyData} (e : h.get? D = some { cls := .type "tuple", data := .seq vs.toArray c }) (hv : All2 (Rd h) vs ds) : Rd h (.ref D) (.tuple ds) :=
  let ⟨as, ra⟩ := rdAll hv; ⟨as, .tuple e rfl rfl (by simpa using ra)⟩
theorem Rd.list {h : Heap} {D : Addr} {vs : List Value} {c : Nat} {ds : List PyData} (e : h.get? D = some (listOf vs.toArray c)) (hv : All2 (Rd h) vs ds) : Rd h (.ref D) (.list ds) :=
  let ⟨as, ra⟩ := rdAll hv; ⟨D :: as, .list e rfl rfl (by simpa using ra)⟩
theorem Rd.keeps {h g : Heap} {v : Value} {d : PyData} (hk : ∀ b o, h.get? b = some o → g.get? b = some o) (x : Rd h v d) : Rd g v d := let ⟨as, r⟩ := x; ⟨as, PyProof.Rows.Reads.keeps hk r⟩
def ratP (r : Rat) : PyData := .tuple [.int r.num, .int (r.den : Int)]
def layP (l : Lay) : PyData := .tuple [ratP l.1, ratP l.2]
theorem RatO_rd {h : Heap} {D : Addr} {r : Rat} {t t' : Tok} {c : Nat} (e : h.get? D = some (RatO r t t' c)) : Rd h (.ref D) (ratP r) := Rd.tuple (vs := [_, _]) e (.cons .int (.cons .int .nil))
section
variable {P : Addr → Obj → Prop} {h : Heap} {v : Value}
theorem RatN.rd {r : Rat} (hP : ∀ a o, P a o → h.get? a = some o) (x : RatN P v r) : Rd h v (ratP r) := by
  obtain ⟨D, t, t', c, rfl, k⟩ := x; exact RatO_rd (hP _ _ k)
theorem LayN.rd {l : Lay} (hP : ∀ a o, P a o → h.get? a = some o) (x : LayN P v l) : Rd h v (layP l) := by
  obtain ⟨D, v1, v2, c, rfl, k, a, b⟩ := x; exact Rd.tuple (vs := [v1, v2]) (hP _ _ k) (.cons (a.rd hP) (.cons (b.rd hP) .nil))
theorem All2.map_r {α β γ : Type} {R : α → β → Prop} {S : α → γ → Prop} {f : β → γ} {as : List α} {bs : List β} (hs : ∀ a b, R a b → S a (f b)) (x : All2 R as bs) : All2 S as (bs.map f) := by
  induction x with
  | nil => exact .nil
  | cons a _ ih => exact .cons (hs _ _ a) ih
theorem LaysN.rd {ls : List Lay} (hP : ∀ a o, P a o → h.get? a = some o) (x : LaysN P v ls) : Rd h v (.list (ls.map layP)) := by
  obtain ⟨l, vs, n, rfl, k, a⟩ := x; exact Rd.list (hP _ _ k) (a.map_r fun _ _ y => y.rd hP)
theorem RatsN.rd {rs : List Rat} (hP : ∀ a o, P a o → h.get? a = some o) (x : RatsN P v rs) : Rd h v (.list (rs.map ratP)) := by
  obtain ⟨l, vs, n, rfl, k, a⟩ := x; exact Rd.list (hP _ _ k) (a.map_r fun _ _ y => y.rd hP)
end
section
variable {prog : Program} {w : World} {A : Around} {E : Value → Shared → Prop} {s : Shared} {a b : Value} {d : PyData} {Q : Value → Shared → Prop}
theorem eq_rd (ra : Rd s.heap a d) (rb : Rd s.heap b d) (hs : SeqAt.shaped d = true) (hu : A.units + 64 < cLine) (h : Q (.bool true) s) : wpAny (model prog w) A (compareOp .Eq a b) Q E s := by
  obtain ⟨as, ra⟩ := ra; obtain ⟨bs, rb⟩ := rb
  exact eq_dataH ra rb hs hs hu (by rw [SeqAt.eqv_refl d (SeqAt.canLay_of_shaped hs)]; exact h)
theorem ne_rd (ra : Rd s.heap a d) (rb : Rd s.heap b d) (hs : SeqAt.shaped d = true) (hu : A.units + 64 < cLine) (h : Q (.bool false) s) : wpAny (model prog w) A (compareOp .NotEq a b) Q E s := by
  obtain ⟨as, ra⟩ := ra; obtain ⟨bs, rb⟩ := rb
  exact ne_dataH ra rb hs hs hu (by rw [SeqAt.eqv_refl d (SeqAt.canLay_of_shaped hs)]; exact h)
end
theorem shaped_lays (ls : List Lay) : SeqAt.shaped (.list (ls.map layP)) = true := by
  have h : PyData.canLayAll0 (ls.map layP) = true ∧ PyData.depthAll (ls.map layP) ≤ 8 := by
    induction ls with
    | nil => exact ⟨rfl, by decide⟩
    | cons l ls ih =>
      rw [List.map_cons]
      simp only [PyData.canLayAll0, PyData.depthAll, ih.1, Bool.and_true]
      refine ⟨rfl, ?_⟩
      have h1 : (layP l).depth ≤ 8 := by simp [layP, ratP, PyData.depth, PyData.depthAll]
      have h2 := ih.2
      omega
  unfold SeqAt.shaped
  simp only [PyData.canLay0, PyData.depth, h.1, Bool.true_and]
  have := h.2
  exact decide_eq_true (by omega)
theorem rsize {a b : Int} {n : Nat} (h : b = a + (n : Int)) : Builtin.Range.rangeSize a b 1 = (n : Int) := by
  unfold Builtin.Range.rangeSize
  rw [if_pos (by decide)]
  split <;> omega
local macro_rules | `(tactic| walk_at "h5") => `(tactic| (k_here; (with_reducible show wpAny _ _ (call (Value.ref 65) [Value.ref _, Value.ref _]) _ _ _)))
local macro_rules | `(tactic| walk_at "call ref") => `(tactic| (walk_at "h5"; k_dflt (refine' minus_r ?k1 ?k2 ?k3 ?k4 ?k5 ?k6 ?m1 ?m2 ?k7 ?k8 ?b1 ?b2 ?hb ?_; (case k1 | k2 | k3 | k4 | k5 => k_asm); (case k6 => walk_at "t1"); (case k7 => walk_at "t3"); (case k8 => walk_at "t2"); (case m1 | m2 => (walk_at "hat9")); (case b1 | b2 => walk_at "t0"); (case hb => walk_at "t4"); k_whole); intro D' t' u' c' h' tk' bD' F' N' l1; (try (replace l1 := allNe_of l1; simp only [AllNe, and_true] at l1)); (try k_sweep)))
local macro_rules | `(tactic| walk_at "call ref") => `(tactic| (k_here; (with_reducible show wpAny _ _ (call (Value.ref 93) [Value.ref _, Value.ref _]) _ _ _); k_dflt (refine' least_c ?k1 ?k2 ?k3 ?k4 ?k5 ?k6 ?m1 ?m2 ?k7 ?k8 ?b1 ?b2 ?hb ?_ ?_; (case k1 | k2 | k3 | k4 | k5 => k_asm); (case k6 => walk_at "t1"); (case k7 => walk_at "t3"); (case k8 => walk_at "t2"); (case m1 | m2 => (walk_at "hat9")); (case b1 | b2 => walk_at "t0"); (case hb => walk_at "t4"); skip); (all_goals (intro hc' h' tk' F' N'; (try k_sweep)))))
local macro_rules | `(tactic| walk_at "t7") => `(tactic| (exact (by intro p9 hp9; first | exact hp9 | exact absurd hp9 List.not_mem_nil | (repeat (first | exact hp9 | refine List.mem_cons_of_mem _ ?_)))))
local macro_rules | `(tactic| walk_at "subscriptTail") => `(tactic| (walk_at "h0"; k_dflt (refine' tup_t ?k1 ?k0 ?k2 ?kS ?k3 ?k4 ?k5 ?k6 ?k7 ?k8 ?_ ?k9 ?k10; (case k1 | k0 => k_asm); (case k2 => walk_at "t0"); (case kS => walk_at "t7"); (case k3 | k4 => exact rfl); (case k5 | k6 => decide); (case k7 | k8 => exact rfl); (case k9 => walk_at "t5"); (case k10 => walk_at "t6"); k_whole)))
local macro_rules | `(tactic| walk_at "assign Tuple") => `(tactic| (k_here; (with_reducible show wpAny _ _ (assign (Expr.Tuple _ _ _) _ (Value.ref _)) _ _ _); k_dflt (refine' unpack_t ?F ?N ?k ?kS ?c ?d ?k1 ?k2 ?k3 ?_; (case F | N => k_asm); (case k => walk_at "t0"); (case kS => walk_at "t7"); (case c | d | k1 | k2 | k3 => exact rfl)); intro h' F' N'; (try k_sweep)))
local macro_rules | `(tactic| k_all) => `(tactic| with_reducible assumption)
local macro_rules | `(tactic| size_fits) => `(tactic| ((simp only [List.size_toArray]); rw [sizeLine_eq]; omega))
theorem cut_c {w : World} {p : Program} {loose : List Str} {mean : ExcName → Option Value} {mg mb : Str → Option Value} {dp un : Nat} {gd : Option (List Code)} {cn : Str} {cs : Scope} {a : Addr} {ccd : Value} {cl : List (Str × Addr)} {outer : List Env} {A₀ : Around} {base h₀ : Heap} {L : Addr} {m : Str → Option Value} {news : List (Addr × Obj)} {s : Shared} {Q E : Value → Shared → Prop} {P : Addr → Obj → Prop} {l0 : Addr} {vs : List Value} {ls : List Lay} {n0 b bx : Nat} {Dx : Addr} {x : Rat} {tx tx' : Tok} {cx : Nat}
    (B : Below A₀ base outer h₀) (F : Fr h₀ L s.heap m) (X : (HD.K w.params).In h₀) (N : News h₀ L s.heap news) (T : Top p loose mean mg mb h₀) (hk : cs.kind = .function) (hP : ∀ a o, P a o → s.heap.get? a = some o) (el : s.heap.get? l0 = some (listOf vs.toArray n0)) (hv : All2 (LayN P) vs ls) (ex : P Dx (RatO x tx tx' cx)) (hb : ∀ l ∈ ls, Bd b l.1) (hbx : Bd bx x) (h1x : 1 ≤ bx) (hlen : 2 * (bx + ls.length * (b + 1)) + b + 2 ≤ 6643) (hll : ls.length ≤ 1000)
    (hd : dp + 8 < recursionLimit) (hu : un + 200 < cLine)
    (hret : ∀ (D : Addr) (c : Nat) (vo vr : Value) (tl : List (Addr × Obj)) (h' : Heap) (tk' : Nat), Fr h₀ L h' m → News h₀ L h' ((D, pairO vo vr c) :: (news ++ tl)) → (∀ p ∈ news, p.1 ≠ D) → (∀ q ∈ tl, q.1 ≠ D) → (∀ p ∈ news, ∀ q ∈ tl, p.1 ≠ q.1) → LaysN (PT P tl) vo (cutF ls x).out → LaysN (PT P tl) vr (cutF ls x).rest → Q (.ref D) { s with heap := h', toks := tk' }) :
    wpAny (model PySem.Challenge.rw_ui0509_10.row.prog w) (ktrTop dp un gd cn cs L a ccd cl outer) (call (.ref 185) [.ref l0, .ref Dx]) Q E s := by
  w_top off
  revert X; k_fill; intro X
  refine wpAny_call ?_
  k_dflt (refine' code_need [] ?k1 ?k2 ?k3 ?k4 ?k5 ?kA ?kF ?kK ?k6 ?k7 ?k8 ?k9 ?kB ?kN ?_ ?c2 ?c3 ?c4 ?c5; (case kA => exact rfl); (case kF => exact rfl); (case kK => assumption); (case k1 => k_asm); (case k2 => k_asm); (case k3 => k_asm); (case k4 => k_asm); (case k5 => k_asm); (case k6 => k_is); (case k7 => k_is); (case k8 => ktr_room); (case k9 => first | exact BindsTo.of_eq rfl | exact binds_K (by k_in) rfl (by k_is) rfl rfl rfl); (case c5 => decide); (case kB => exact locs rfl); (case kN => exact fun _ h => nomatch h); (case c2 => exact rfl); (case c3 => exact rfl); (case c4 => exact rfl); k_whole; intro g' L' h' tk0 FG' F' N' B' X' T' hG'; (try dsimp only); (try k_fold))
  have hT := ground_of hP hG'
  have el' := hG' _ _ el (by simp)
  k_steps
  unfold Hold
  refine iter_baseTurns rfl (by k_asm) (by k_asm) el' rfl rfl (fun I lI => ?_)
  refine items_ind (fun i m nx => ∃ (d1 d2 : Addr) (vo vr : List Value) (no nr : Nat) (vl : Value) (tl : List (Addr × Obj)), nx = [(d2, listOf vr.toArray nr), (d1, listOf vo.toArray no)] ++ tl ∧ d1 ≠ d2 ∧ (∀ p ∈ tl, p.1 ≠ d1) ∧ (∀ p ∈ tl, p.1 ≠ d2) ∧
    m (Str.ofString "out") = some (.ref d1) ∧ m (Str.ofString "rest") = some (.ref d2) ∧ m (Str.ofString "left") = some vl ∧ All2 (LayN (PT P tl)) vo (cutF (ls.take i) x).out ∧ All2 (LayN (PT P tl)) vr (cutF (ls.take i) x).rest ∧ RatN (PT P tl) vl (cutF (ls.take i) x).left ∧
    Bd (bx + i * (b + 1)) (cutF (ls.take i) x).left ∧ vo.length ≤ i ∧ vr.length ≤ i) ?turn ?done _ 0 _ _ rfl (Nat.zero_le _) trivial (fun p hp => Nat.ne_of_lt (lI p hp)) ?init
  case init => exact ⟨_, _, [], [], 0, 0, _, [], rfl, neN (by walk_at "ne9"), (fun _ h => nomatch h), (fun _ h => nomatch h), rfl, rfl, rfl, .nil, .nil, ⟨Dx, tx, tx', cx, rfl, .inl ex⟩, hbx.mono (by omega), Nat.le_refl _, Nat.le_refl _⟩
  case turn =>
    intro i a v m nx h tk o ha _ hI hJ hav Fm ho Nn
    obtain ⟨d1, d2, vo, vr, no, nr, vl, tl, rfl, n12, hd1, hd2, hm1, hm2, hm3, ho', hr', hl', hB, hlo, hlr⟩ := hJ
    obtain ⟨⟨sz, wm⟩, hl, D, v1, v2, c, rfl, eD, ⟨D1, t1, t1', c1, rfl, e1⟩, hw⟩ := hv.get (val_get ha hav)
    obtain ⟨Dl, tl1, tl2, cl, rfl, eL⟩ := hl'
    have eD' := hT tl _ _ (.inl eD)
    have e1' := hT tl _ _ (.inl e1)
    have eL' := hT tl _ _ eL
    have hil : i < ls.length := (List.getElem?_eq_some_iff.mp hl).1
    have bS := hb _ (List.mem_of_getElem? hl)
    dsimp only at e1' bS
    have hstep := cut_take (x := x) hl
    have hsz := mul_le_of_lt (b := b) hil
    simp only [List.cons_append, List.nil_append] at Nn hI
    have nI2 : d2 ≠ I := hI _ (List.mem_cons_self ..)
    have nI1 : d1 ≠ I := hI _ (List.mem_cons_of_mem _ (List.mem_cons_self ..))
    replace nI1 := neN nI1; replace nI2 := neN nI2; replace n12 := neN n12
    have htI : ∀ p ∈ tl, p.1 ≠ I := fun p hp => hI p (List.mem_cons_of_mem _ (List.mem_cons_of_mem _ hp))
    clear hI
    generalize hc : cutF (ls.take i) x = cc at *
    obtain ⟨co, cr, cl'⟩ := cc
    dsimp only at *
    k_steps
    all_goals (try (exfalso; exact absurd (by assumption) (Rat.lt_irrefl (a := sz))))
    · unfold Hold
      (rename News _ _ _ _ => NN)
      (try simp only [List.push_toArray] at NN)
      refine unr_mut2 (d1 := d2) (d2 := d1) (by k_asm) NN (by k_mem) (by k_mem) (by k_mem) nI2 nI1 ⟨trivial, ?_⟩
      try dsimp only
      have hlt : cl' < sz := by assumption
      have hps : 0 < cl' := num_pos.mp (by assumption)
      have z : cl' - cl' = 0 := by grind
      rw [hstep, show cutStep ⟨co, cr, cl'⟩ (sz, wm) = ⟨co ++ [(cl', wm)], cr ++ [(sz - cl', wm)], cl' - cl'⟩ from by simp [cutStep, hlt, hps]]
      have hs := sub_strip3 NN (by intro p9 hp9; first | exact hp9 | exact absurd hp9 List.not_mem_nil | (repeat (first | exact hp9 | refine List.mem_cons_of_mem _ ?_))) htI hd2 hd1
      have hsub := PT.mono (P := P) hs
      have hsub0 := PT.left (P := P) hs
      refine ⟨d1, d2, _, _, _, _, _, _, rfl, n12, fun p hp e => (strip_mem hp).2 (by rw [e]; simp), fun p hp e => (strip_mem hp).2 (by rw [e]; simp), by first | rfl | assumption, by first | rfl | assumption, rfl, (ho'.mono fun _ _ y => y.mono hsub).snoc (lay_new (Or.inr (mem_strip (by k_mem) (not_in3 (neN (by walk_at "ne9")) (neN (by walk_at "ne9")) (neN (by walk_at "ne9"))))) ⟨Dl, tl1, tl2, cl, rfl, hsub _ _ eL⟩ (hw.mono hsub0)), (hr'.mono fun _ _ y => y.mono hsub).snoc (lay_new (Or.inr (mem_strip (by k_mem) (not_in3 (neN (by walk_at "ne9")) (neN (by walk_at "ne9")) (neN (by walk_at "ne9"))))) (rat_new (Or.inr (mem_strip (by k_mem) (not_in3 (neN (by walk_at "ne9")) (neN (by walk_at "ne9")) (neN (by walk_at "ne9")))))) (hw.mono hsub0)), rat_new (Or.inr (mem_strip (by k_mem) (not_in3 (neN (by walk_at "ne9")) (neN (by walk_at "ne9")) (neN (by walk_at "ne9"))))), by rw [z]; exact Bd.zero (by omega), by simp; omega, by simp; omega⟩
    · unfold Hold
      (rename News _ _ _ _ => NN)
      (try simp only [List.push_toArray] at NN)
      refine unr_mut2 (d1 := d2) (d2 := d1) (by k_asm) NN (by k_mem) (by k_mem) (by k_mem) nI2 nI1 ⟨trivial, ?_⟩
      try dsimp only
      have hlt : cl' < sz := by assumption
      have hps : ¬ 0 < cl' := fun h => absurd (num_pos.mpr h) (by assumption)
      rw [hstep, show cutStep ⟨co, cr, cl'⟩ (sz, wm) = ⟨co, cr ++ [(sz - cl', wm)], cl'⟩ from by simp [cutStep, hlt, hps]]
      have hs := sub_strip3 NN (by intro p9 hp9; first | exact hp9 | exact absurd hp9 List.not_mem_nil | (repeat (first | exact hp9 | refine List.mem_cons_of_mem _ ?_))) htI hd2 hd1
      have hsub := PT.mono (P := P) hs
      have hsub0 := PT.left (P := P) hs
      refine ⟨d1, d2, _, _, _, _, _, _, rfl, n12, fun p hp e => (strip_mem hp).2 (by rw [e]; simp), fun p hp e => (strip_mem hp).2 (by rw [e]; simp), by first | rfl | assumption, by first | rfl | assumption, by first | rfl | assumption, (ho'.mono fun _ _ y => y.mono hsub), (hr'.mono fun _ _ y => y.mono hsub).snoc (lay_new (Or.inr (mem_strip (by k_mem) (not_in3 (neN (by walk_at "ne9")) (neN (by walk_at "ne9")) (neN (by walk_at "ne9"))))) (rat_new (Or.inr (mem_strip (by k_mem) (not_in3 (neN (by walk_at "ne9")) (neN (by walk_at "ne9")) (neN (by walk_at "ne9")))))) (hw.mono hsub0)), ⟨Dl, tl1, tl2, cl, rfl, hsub _ _ eL⟩, hB.mono (by rw [Nat.add_mul]; omega), by omega, by simp; omega⟩
    · unfold Hold
      (rename News _ _ _ _ => NN)
      (try simp only [List.push_toArray] at NN)
      refine unr_mut2 (d1 := d2) (d2 := d1) (by k_asm) NN (by k_mem) (by k_mem) (by k_mem) nI2 nI1 ⟨trivial, ?_⟩
      try dsimp only
      have hlt : ¬ cl' < sz := by assumption
      have hps : 0 < sz := num_pos.mp (by assumption)
      rw [hstep, show cutStep ⟨co, cr, cl'⟩ (sz, wm) = ⟨co ++ [(sz, wm)], cr, cl' - sz⟩ from by simp [cutStep, hlt, hps, Rat.lt_irrefl]]
      have hs := sub_strip3 NN (by intro p9 hp9; first | exact hp9 | exact absurd hp9 List.not_mem_nil | (repeat (first | exact hp9 | refine List.mem_cons_of_mem _ ?_))) htI hd2 hd1
      have hsub := PT.mono (P := P) hs
      have hsub0 := PT.left (P := P) hs
      refine ⟨d1, d2, _, _, _, _, _, _, rfl, n12, fun p hp e => (strip_mem hp).2 (by rw [e]; simp), fun p hp e => (strip_mem hp).2 (by rw [e]; simp), by first | rfl | assumption, by first | rfl | assumption, rfl, (ho'.mono fun _ _ y => y.mono hsub).snoc (lay_new (Or.inr (mem_strip (by k_mem) (not_in3 (neN (by walk_at "ne9")) (neN (by walk_at "ne9")) (neN (by walk_at "ne9"))))) ⟨D1, t1, t1', c1, rfl, hsub0 _ _ e1⟩ (hw.mono hsub0)), (hr'.mono fun _ _ y => y.mono hsub), rat_new (Or.inr (mem_strip (by k_mem) (not_in3 (neN (by walk_at "ne9")) (neN (by walk_at "ne9")) (neN (by walk_at "ne9"))))), Bd.mono (by assumption) (by rw [Nat.add_mul]; omega), by simp; omega, by omega⟩
    · unfold Hold
      (rename News _ _ _ _ => NN)
      (try simp only [List.push_toArray] at NN)
      refine unr_mut2 (d1 := d2) (d2 := d1) (by k_asm) NN (by k_mem) (by k_mem) (by k_mem) nI2 nI1 ⟨trivial, ?_⟩
      try dsimp only
      have hlt : ¬ cl' < sz := by assumption
      have hps : ¬ 0 < sz := fun h => absurd (num_pos.mpr h) (by assumption)
      rw [hstep, show cutStep ⟨co, cr, cl'⟩ (sz, wm) = ⟨co, cr, cl'⟩ from by simp [cutStep, hlt, hps, Rat.lt_irrefl]]
      have hs := sub_strip3 NN (by intro p9 hp9; first | exact hp9 | exact absurd hp9 List.not_mem_nil | (repeat (first | exact hp9 | refine List.mem_cons_of_mem _ ?_))) htI hd2 hd1
      have hsub := PT.mono (P := P) hs
      have hsub0 := PT.left (P := P) hs
      refine ⟨d1, d2, _, _, _, _, _, _, rfl, n12, fun p hp e => (strip_mem hp).2 (by rw [e]; simp), fun p hp e => (strip_mem hp).2 (by rw [e]; simp), by first | rfl | assumption, by first | rfl | assumption, by first | rfl | assumption, (ho'.mono fun _ _ y => y.mono hsub), (hr'.mono fun _ _ y => y.mono hsub), ⟨Dl, tl1, tl2, cl, rfl, hsub _ _ eL⟩, hB.mono (by rw [Nat.add_mul]; omega), by omega, by omega⟩
  case done =>
    intro m nx h tk hJ Fm Nn
    rw [List.length_map, hv.length, List.take_length] at hJ
    obtain ⟨d1, d2, vo, vr, no, nr, vl, tl, rfl, n12, hd1, hd2, hm1, hm2, hm3, ho', hr', hl', hB, hlo, hlr⟩ := hJ
    simp only [List.cons_append, List.nil_append] at Nn
    k_steps
    try dsimp only
    refine leaveN_ (by k_asm) (by k_asm) ?_; intro kF kN kR kD; (try dsimp only); exact hret _ _ (.ref d1) (.ref d2) ((d2, listOf vr.toArray nr) :: (d1, listOf vo.toArray no) :: tl) _ _ kF (news_app kN (news_all kR)) (ne_all kD (List.mem_cons_self ..))
      (List.forall_mem_cons.mpr ⟨neN (by walk_at "ne9"), List.forall_mem_cons.mpr ⟨neN (by walk_at "ne9"), allLt_mem (by assumption : _ ∧ _ ∧ AllLt _ tl).2.2⟩⟩)
      (fun p hp q hq => kD p (mem_rest0 hp) q (List.mem_cons_of_mem _ hq))
      ⟨d1, vo, no, rfl, .inr (List.mem_cons_of_mem _ (List.mem_cons_self ..)), ho'.mono fun _ _ y => y.mono (PT.mono fun p hp => List.mem_cons_of_mem _ (List.mem_cons_of_mem _ hp))⟩
      ⟨d2, vr, nr, rfl, .inr (List.mem_cons_self ..), hr'.mono fun _ _ y => y.mono (PT.mono fun p hp => List.mem_cons_of_mem _ (List.mem_cons_of_mem _ hp))⟩
theorem eq_Rne {prog : Program} {w : World} {A : Around} {E : Value → Shared → Prop} {s : Shared} {D1 D2 : Addr} {r1 r2 : Rat} {t1 t1' t2 t2' : Tok} {c1 c2 : Nat} {Q : Value → Shared → Prop}
    (e1 : s.heap.get? D1 = some (RatO r1 t1 t1' c1)) (e2 : s.heap.get? D2 = some (RatO r2 t2 t2' c2)) (hne : r1 ≠ r2) (hu : A.units + 64 < cLine) (h : Q (.bool false) s) : wpAny (model prog w) A (compareOp .Eq (.ref D1) (.ref D2)) Q E s := by
  refine eq_T2h e1 e2 hu ?_
  have : (r1.num == r2.num && (r1.den : Int) == (r2.den : Int)) = false := by
    cases hb : (r1.num == r2.num && (r1.den : Int) == (r2.den : Int)) with
    | false => rfl
    | true =>
      rw [Bool.and_eq_true] at hb
      exact absurd (Rat.ext (beq_iff_eq.mp hb.1) (by have := beq_iff_eq.mp hb.2; omega)) hne
  rw [this]
  exact h
theorem last_at {vs : List Value} {v : Value} : (vs ++ [v])[(-1 + ((vs ++ [v]).length : Int)).toNat]? = some v := by
  have : (-1 + ((vs ++ [v]).length : Int)).toNat = vs.length := by simp; omega
  rw [this]; simp
def Falls (ls : List Lay) : Prop := ∀ i a b, ls[i]? = some a → ls[i + 1]? = some b → b.2 < a.2
theorem take_snoc {α β : Type} {R : α → β → Prop} {vs : List α} {bs : List β} {i : Nat} {b : β} (h : All2 R vs (bs.take (i + 1))) (hb : bs[i]? = some b) : ∃ vs' v, vs = vs' ++ [v] ∧ All2 R vs' (bs.take i) ∧ R v b := by
  rw [List.take_add_one, hb] at h
  have hlen := h.length
  simp at hlen
  rcases List.eq_nil_or_concat vs with e | ⟨vs', v, e⟩
  · rw [e] at hlen; simp at hlen
  · rw [List.concat_eq_append] at e
    subst e
    refine ⟨vs', v, rfl, ?_⟩
    have h1 : ∀ (as : List α) (cs : List β), All2 R (as ++ [v]) (cs ++ [b]) → All2 R as cs ∧ R v b := by
      intro as
      induction as with
      | nil =>
        intro cs h
        cases cs with
        | nil => cases h with | cons h r => exact ⟨.nil, h⟩
        | cons c cs => cases h with | cons h r => have := r.length; simp at this
      | cons a as ih =>
        intro cs h
        cases cs with
        | nil => cases h with | cons h r => have := r.length; simp at this
        | cons c cs => cases h with | cons h r => obtain ⟨x, y⟩ := ih cs r; exact ⟨.cons h x, y⟩
    exact h1 _ _ h
local macro_rules | `(tactic| walk_at "t9") => `(tactic| ((simp only [List.length_append, List.length_cons, List.length_nil]; omega)))
local macro_rules | `(tactic| walk_at "subscriptTail") => `(tactic| (walk_at "h0"; k_dflt (refine' kim_back ?k1 ?k2 ?k3 ?k4 ?k5 ?k6 ?k7 ?k8 ?_ ?k9 ?k10; (case k1 => k_asm); (case k2 => k_mem); (case k3 | k4 => exact rfl); (case k5 => decide); (case k6 => walk_at "t9"); (case k7 => decide); (case k8 => exact last_at); (case k9 => walk_at "t5"); (case k10 => walk_at "t6"); k_whole)))
local macro_rules | `(tactic| walk_at "t10") => `(tactic| (((try simp only [List.length_append, List.length_cons, List.length_nil]); omega)))
local macro_rules | `(tactic| walk_at "call builtin:len") => `(tactic| (walk_at "h1"; k_dflt (refine' lst_len ?k1 ?k2 ?k3 ?_; (case k1 => k_asm); (case k2 => k_mem); (case k3 => walk_at "t10"); k_whole); intro tk9; (try simp only [List.length_append, List.length_cons, List.length_nil])))
local macro_rules | `(tactic| walk_at "h6") => `(tactic| (k_here; (with_reducible show wpAny _ _ (compareOp CmpOp.Eq (Value.ref _) (Value.ref _)) _ _ _)))
local macro_rules | `(tactic| walk_at "compareOp Eq ref ref") => `(tactic| (walk_at "h6"; k_dflt (refine' eq_Rne ?k2 ?k3 ?k5 ?k4 ?_; (case k2 | k3 => (walk_at "hat9")); (case k5 => walk_at "t0"); (case k4 => walk_at "t2"); k_whole)))
local macro_rules | `(tactic| size_fits) => `(tactic| ((simp only [List.size_toArray, List.length_append, List.length_cons, List.length_nil]); rw [sizeLine_eq]; omega))
theorem joined_c {w : World} {p : Program} {loose : List Str} {mean : ExcName → Option Value} {mg mb : Str → Option Value} {dp un : Nat} {gd : Option (List Code)} {cn : Str} {cs : Scope} {a : Addr} {ccd : Value} {cl : List (Str × Addr)} {outer : List Env} {A₀ : Around} {base h₀ : Heap} {L : Addr} {m : Str → Option Value} {news : List (Addr × Obj)} {s : Shared} {Q E : Value → Shared → Prop} {P : Addr → Obj → Prop} {l0 : Addr} {vs : List Value} {ls : List Lay} {n0 : Nat}
    (B : Below A₀ base outer h₀) (F : Fr h₀ L s.heap m) (X : (HD.K w.params).In h₀) (N : News h₀ L s.heap news) (T : Top p loose mean mg mb h₀) (hk : cs.kind = .function) (hP : ∀ a o, P a o → s.heap.get? a = some o) (el : P l0 (listOf vs.toArray n0)) (hv : All2 (LayN P) vs ls) (hf : Falls ls) (hll : ls.length ≤ 1000)
    (hd : dp + 8 < recursionLimit) (hu : un + 200 < cLine)
    (hret : ∀ (v : Value) (tl : List (Addr × Obj)) (h' : Heap) (tk' : Nat), Fr h₀ L h' m → News h₀ L h' (news ++ tl) → (∀ p ∈ news, ∀ q ∈ tl, p.1 ≠ q.1) → LaysN (PT P tl) v ls → Q v { s with heap := h', toks := tk' }) :
    wpAny (model PySem.Challenge.rw_ui0509_10.row.prog w) (ktrTop dp un gd cn cs L a ccd cl outer) (call (.ref 192) [.ref l0]) Q E s := by
  w_top off
  revert X; k_fill; intro X
  refine wpAny_call ?_
  k_dflt (refine' code_need [] ?k1 ?k2 ?k3 ?k4 ?k5 ?kA ?kF ?kK ?k6 ?k7 ?k8 ?k9 ?kB ?kN ?_ ?c2 ?c3 ?c4 ?c5; (case kA => exact rfl); (case kF => exact rfl); (case kK => assumption); (case k1 => k_asm); (case k2 => k_asm); (case k3 => k_asm); (case k4 => k_asm); (case k5 => k_asm); (case k6 => k_is); (case k7 => k_is); (case k8 => ktr_room); (case k9 => first | exact BindsTo.of_eq rfl | exact binds_K (by k_in) rfl (by k_is) rfl rfl rfl); (case c5 => decide); (case kB => exact locs rfl); (case kN => exact fun _ h => nomatch h); (case c2 => exact rfl); (case c3 => exact rfl); (case c4 => exact rfl); k_whole; intro g' L' h' tk0 FG' F' N' B' X' T' hG'; (try dsimp only); (try k_fold))
  have hT := ground_of hP hG'
  have el' : g'.get? l0 = some (listOf vs.toArray n0) := (hT [] _ _ (.inl el)).elim (fun h => nomatch h) id
  k_steps
  unfold Hold
  refine iter_baseTurns rfl (by k_asm) (by k_asm) el' rfl rfl (fun I lI => ?_)
  refine items_ind (fun i m nx => ∃ (d1 : Addr) (vo : List Value) (no : Nat) (tl : List (Addr × Obj)), nx = [(d1, listOf vo.toArray no)] ++ tl ∧ (∀ p ∈ tl, p.1 ≠ d1) ∧
    m (Str.ofString "out") = some (.ref d1) ∧ All2 (LayN (PT P tl)) vo (ls.take i)) ?turn ?done _ 0 _ _ rfl (Nat.zero_le _) trivial (fun p hp => Nat.ne_of_lt (lI p hp)) ?init
  case init => exact ⟨_, [], 0, [], rfl, (fun _ h => nomatch h), rfl, .nil⟩
  case turn =>
    intro i a v m nx h tk o ha _ hI hJ hav Fm ho Nn
    obtain ⟨d1, vo, no, tl, rfl, hd1, hm1, ho'⟩ := hJ
    obtain ⟨⟨sz, wm⟩, hl, D, v1, v2, c, rfl, eD, hs1, ⟨D2, t2, t2', c2, rfl, e2⟩⟩ := hv.get (val_get ha hav)
    have eD' := hT tl _ _ (.inl eD)
    have e2' := hT tl _ _ (.inl e2)
    have hil : i < ls.length := (List.getElem?_eq_some_iff.mp hl).1
    dsimp only at e2'
    simp only [List.cons_append, List.nil_append] at Nn hI
    have nI1 : d1 ≠ I := hI _ (List.mem_cons_self ..)
    replace nI1 := neN nI1
    have htI : ∀ p ∈ tl, p.1 ≠ I := fun p hp => hI p (List.mem_cons_of_mem _ hp)
    clear hI
    have hstep : ls.take (i + 1) = ls.take i ++ [(sz, wm)] := by rw [List.take_add_one, hl]; rfl
    rcases i with _ | i
    · have : vo = [] := by have := ho'.length; simpa using this
      subst this
      k_steps
      unfold Hold
      (rename News _ _ _ _ => NN)
      (try simp only [List.push_toArray] at NN)
      refine unr_mut1 (d1 := d1) (by k_asm) NN (by k_mem) (by k_mem) nI1 ⟨trivial, ?_⟩
      rw [hstep]
      have hs := sub_strip2 NN (by intro p9 hp9; first | exact hp9 | exact absurd hp9 List.not_mem_nil | (repeat (first | exact hp9 | refine List.mem_cons_of_mem _ ?_))) htI hd1
      have hsub := PT.mono (P := P) hs
      have hsub0 := PT.left (P := P) hs
      exact ⟨d1, _, _, _, rfl, fun p hp e => (strip_mem hp).2 (by rw [e]; simp), by first | rfl | assumption, (ho'.mono fun _ _ y => y.mono hsub).snoc (lay_new (Or.inr (mem_strip (by k_mem) (not_in2 (neN (by walk_at "ne9")) (neN (by walk_at "ne9"))))) (hs1.mono hsub0) ⟨D2, t2, t2', c2, rfl, hsub0 _ _ e2⟩)⟩
    · obtain ⟨la, hla⟩ : ∃ la, ls[i]? = some la := ⟨ls[i]'(by omega), List.getElem?_eq_getElem (by omega)⟩
      obtain ⟨vo', vl, rfl, ho1, T1, u1, u2, c3, rfl, eT, hu1, ⟨Dw, tw, tw', cw, rfl, ew⟩⟩ := take_snoc ho' hla
      have hlen := ho1.length
      rw [List.length_take] at hlen
      have eT' := hT tl _ _ eT
      have ew' := hT tl _ _ ew
      have hne : la.2 ≠ wm := fun e => by have h9 := hf i la (sz, wm) hla hl; rw [e] at h9; exact absurd h9 Rat.lt_irrefl
      k_steps
      unfold Hold
      (rename News _ _ _ _ => NN)
      (try simp only [List.push_toArray] at NN)
      refine unr_mut1 (d1 := d1) (by k_asm) NN (by k_mem) (by k_mem) nI1 ⟨trivial, ?_⟩
      rw [hstep]
      have hs := sub_strip2 NN (by intro p9 hp9; first | exact hp9 | exact absurd hp9 List.not_mem_nil | (repeat (first | exact hp9 | refine List.mem_cons_of_mem _ ?_))) htI hd1
      have hsub := PT.mono (P := P) hs
      have hsub0 := PT.left (P := P) hs
      exact ⟨d1, _, _, _, rfl, fun p hp e => (strip_mem hp).2 (by rw [e]; simp), by first | rfl | assumption, (ho'.mono fun _ _ y => y.mono hsub).snoc (lay_new (Or.inr (mem_strip (by k_mem) (not_in2 (neN (by walk_at "ne9")) (neN (by walk_at "ne9"))))) (hs1.mono hsub0) ⟨D2, t2, t2', c2, rfl, hsub0 _ _ e2⟩)⟩
  case done =>
    intro m nx h tk hJ Fm Nn
    rw [List.length_map, hv.length, List.take_length] at hJ
    obtain ⟨d1, vo, no, tl, rfl, hd1, hm1, ho'⟩ := hJ
    simp only [List.cons_append, List.nil_append] at Nn
    k_steps
    try dsimp only
    refine leaveN_ (by k_asm) (by k_asm) ?_; intro kF kN kR kD; (try dsimp only); exact hret (.ref d1) ((d1, listOf vo.toArray no) :: tl) _ _ kF (news_app2 kN (news_all kR)) (fun p hp q hq => kD p (mem_rest0 hp) q hq)
      ⟨d1, vo, no, rfl, .inr (List.mem_cons_self ..), ho'.mono fun _ _ y => y.mono (PT.mono fun p hp => List.mem_cons_of_mem _ hp)⟩
theorem back2_at {vs : List Value} {u v : Value} : (vs ++ [u] ++ [v])[(-2 + ((vs ++ [u] ++ [v]).length : Int)).toNat]? = some u := by
  have : (-2 + ((vs ++ [u] ++ [v]).length : Int)).toNat = vs.length := by simp; omega
  rw [this]; simp
local macro_rules | `(tactic| walk_at "subscriptTail") => `(tactic| (walk_at "h0"; k_dflt (refine' kim_back ?k1 ?k2 ?k3 ?k4 ?k5 ?k6 ?k7 ?k8 ?_ ?k9 ?k10; (case k1 => k_asm); (case k2 => k_mem); (case k3 | k4 => exact rfl); (case k5 => decide); (case k6 => walk_at "t9"); (case k7 => decide); (case k8 => exact back2_at); (case k9 => walk_at "t5"); (case k10 => walk_at "t6"); k_whole)))
theorem settle_c {w : World} {p : Program} {loose : List Str} {mean : ExcName → Option Value} {mg mb : Str → Option Value} {dp un : Nat} {gd : Option (List Code)} {cn : Str} {cs : Scope} {a : Addr} {ccd : Value} {cl : List (Str × Addr)} {outer : List Env} {A₀ : Around} {base h₀ : Heap} {L : Addr} {m : Str → Option Value} {news : List (Addr × Obj)} {s : Shared} {Q E : Value → Shared → Prop} {P : Addr → Obj → Prop} {l0 : Addr} {vs : List Value} {ls : List Lay} {n0 b : Nat}
    (B : Below A₀ base outer h₀) (F : Fr h₀ L s.heap m) (X : (HD.K w.params).In h₀) (N : News h₀ L s.heap news) (T : Top p loose mean mg mb h₀) (hk : cs.kind = .function) (hP : ∀ a o, P a o → s.heap.get? a = some o) (el : P l0 (listOf vs.toArray n0)) (hv : All2 (LayN P) vs ls) (hf : Falls ls) (hll : ls.length ≤ 1000) (hb : ∀ l ∈ ls, Bd b l.2) (hbb : b + b ≤ 100000)
    (hd : dp + 12 < recursionLimit) (hu : un + 400 < cLine)
    (hret : ∀ (v : Value) (tl : List (Addr × Obj)) (h' : Heap) (tk' : Nat), Fr h₀ L h' m → News h₀ L h' (news ++ tl) → (∀ p ∈ news, ∀ q ∈ tl, p.1 ≠ q.1) → LaysN (PT P tl) v ls → Q v { s with heap := h', toks := tk' }) :
    wpAny (model PySem.Challenge.rw_ui0509_10.row.prog w) (ktrTop dp un gd cn cs L a ccd cl outer) (call (.ref 199) [.ref l0]) Q E s := by
  w_top off
  revert X; k_fill; intro X
  refine wpAny_call ?_
  k_dflt (refine' code_need [] ?k1 ?k2 ?k3 ?k4 ?k5 ?kA ?kF ?kK ?k6 ?k7 ?k8 ?k9 ?kB ?kN ?_ ?c2 ?c3 ?c4 ?c5; (case kA => exact rfl); (case kF => exact rfl); (case kK => assumption); (case k1 => k_asm); (case k2 => k_asm); (case k3 => k_asm); (case k4 => k_asm); (case k5 => k_asm); (case k6 => k_is); (case k7 => k_is); (case k8 => ktr_room); (case k9 => first | exact BindsTo.of_eq rfl | exact binds_K (by k_in) rfl (by k_is) rfl rfl rfl); (case c5 => decide); (case kB => exact locs rfl); (case kN => exact fun _ h => nomatch h); (case c2 => exact rfl); (case c3 => exact rfl); (case c4 => exact rfl); k_whole; intro g' L' h' tk0 FG' F' N' B' X' T' hG'; (try dsimp only); (try k_fold))
  have hT := ground_of hP hG'
  have el' : g'.get? l0 = some (listOf vs.toArray n0) := (hT [] _ _ (.inl el)).elim (fun h => nomatch h) id
  k_steps
  unfold Hold
  refine iter_baseTurns rfl (by k_asm) (by k_asm) el' rfl rfl (fun I lI => ?_)
  refine items_ind (fun i m nx => ∃ (d1 : Addr) (no : Nat), nx = [(d1, listOf (vs.take i).toArray no)] ∧ m (Str.ofString "out") = some (.ref d1)) ?turn ?done _ 0 _ _ rfl (Nat.zero_le _) trivial (fun p hp => Nat.ne_of_lt (lI p hp)) ?init
  case init => exact ⟨_, 0, rfl, rfl⟩
  case turn =>
    intro i a v m nx h tk o ha _ hI hJ hav Fm ho Nn
    obtain ⟨d1, no, rfl, hm1⟩ := hJ
    have hvi := val_get ha hav
    have hstep : vs.take (i + 1) = vs.take i ++ [v] := by rw [List.take_add_one, hvi]; rfl
    obtain ⟨⟨sz, wm⟩, hl, D, v1, v2, c, rfl, eD, hs1, ⟨D2, t2, t2', c2, rfl, e2⟩⟩ := hv.get hvi
    have eD' := hT [] _ _ (.inl eD)
    have e2' := hT [] _ _ (.inl e2)
    have hil : i < ls.length := (List.getElem?_eq_some_iff.mp hl).1
    have bW := hb _ (List.mem_of_getElem? hl)
    dsimp only at e2' bW
    have nI1 : d1 ≠ I := hI _ (List.mem_cons_self ..)
    replace nI1 := neN nI1
    clear hI
    rcases i with _ | i
    · rw [List.take_zero] at Nn hstep
      k_steps
      unfold Hold
      (rename News _ _ _ _ => NN)
      (try simp only [List.push_toArray] at NN)
      exact unr_end [(d1, _)] (by k_asm) NN (by k_mem) (one_of (by k_mem)) (one_of nI1) ⟨trivial, d1, _, by rw [hstep], by first | rfl | assumption⟩
    · obtain ⟨la, hla⟩ : ∃ la, ls[i]? = some la := ⟨ls[i]'(by omega), List.getElem?_eq_getElem (by omega)⟩
      obtain ⟨vp, hvp, T1, u1, u2, c3, rfl, eT, hu1, ⟨Dw, tw, tw', cw, rfl, ew⟩⟩ := hv.at hla
      have hst2 : vs.take (i + 1) = vs.take i ++ [Value.ref T1] := by rw [List.take_add_one, hvp]; rfl
      rw [hst2] at Nn hstep
      have hlen : (vs.take i).length = i := by rw [List.length_take, hv.length]; omega
      have eT' := hT [] _ _ (.inl eT)
      have ew' := hT [] _ _ (.inl ew)
      have bA := hb _ (List.mem_of_getElem? hla)
      have hlt := hf i la (sz, wm) hla hl
      dsimp only at hlt
      have hnl : ¬ la.2 < wm := fun h => by grind
      k_steps
      unfold Hold
      (rename News _ _ _ _ => NN)
      (try simp only [List.push_toArray] at NN)
      exact unr_end [(d1, _)] (by k_asm) NN (by k_mem) (one_of (by k_mem)) (one_of nI1) ⟨trivial, d1, _, by rw [hstep], by first | rfl | assumption⟩
  case done =>
    intro m nx h tk hJ Fm Nn
    rw [List.length_map, List.take_length] at hJ
    obtain ⟨d1, no, rfl, hm1⟩ := hJ
    have hvg : All2 (LayN (PT P [(d1, listOf vs.toArray no)])) vs ls := hv.mono fun _ _ y => y.mono fun _ _ e => .inl e
    k_steps
    k_dflt (refine' joined_c (P := PT P [(d1, listOf vs.toArray no)]) ?k1 ?k2 ?k3 ?k4 ?k5 ?k6 ?hP ?el ?hv ?hf ?hl ?k7 ?k8 ?_)
    case k1 => k_asm
    case k2 => k_asm
    case k3 => k_asm
    case k4 => k_asm
    case k5 => k_asm
    case k6 => rfl
    case hP => exact fun a o e => (hT _ a o e).get Fm Nn fun _ h => h
    case el => exact .inr (List.mem_cons_self ..)
    case hv => exact hvg
    case hf => exact hf
    case hl => exact hll
    case k7 => ktr_room
    case k8 => ktr_units
    intro v9 tl9 h9 tk9 F9 N9 l9 L9
    simp only [List.cons_append, List.nil_append] at N9
    k_steps
    try dsimp only
    refine leaveN_ (by k_asm) (by k_asm) ?_; intro kF kN kR kD; (try dsimp only); exact hret v9 ((d1, listOf vs.toArray no) :: tl9) _ _ kF (news_app2 kN (news_all kR)) (fun p hp q hq => kD p (mem_rest0 hp) q hq)
      (L9.mono fun a o e => e.elim (fun e => e.imp id fun h => by rw [List.mem_singleton.mp h]; exact List.mem_cons_self ..) fun h => .inr (List.mem_cons_of_mem _ h))
-- a list comprehension by an invariant (over LCg.CompRest of KE.LcTurns)
section
variable {prog : Program} {w : World} {A : Around} {s : Shared} {h₀ : Heap} {L : Addr} {m : Str → Option Value} {env : Env}
theorem comp_ind {elt : Expr} {x : Str} {scope : Scope} {cl : List (Str × Addr)} {S : List (Addr × Obj) → Prop} {Pv : Nat → Value → Prop} {Fin : List Value → List (Addr × Obj) → Prop} {n : Nat} (J : Nat → List Value → List (Addr × Obj) → Prop)
    (turn : ∀ i v I oI C oC D m₂ h tk (E' : Value → Shared → Prop) ys news, i < n → J i ys news → Pv i v → LCg.NsObj oC m₂ → m₂ x = some v → Fr h₀ L h m → News h₀ L h ((I, oI) :: (C, oC) :: (D, LCg.lst ys) :: news) → LCg.Off3 I C D news → ((@Ne Nat I C) ∧ (@Ne Nat I D) ∧ (@Ne Nat C D)) →
      wpAny (model prog w) A (eval elt (compEnvC scope cl C env)) (LCg.CompEnd h₀ L m { s with heap := h, toks := tk } I oI C oC D (LCg.lst ys) S (fun y news' => J (i + 1) (ys ++ [y]) news')) E' { s with heap := h, toks := tk })
    (fin : ∀ ys news, J n ys news → Fin ys news) :
    ∀ k i ys news, i + k = n → J i ys news → LCg.CompRest prog w A h₀ L m env elt x scope cl s S Pv Fin k i ys news := by
  intro k
  induction k with
  | zero =>
    intro i ys news hk hJ
    have : i = n := by omega
    subst this
    exact LCg.CompRest.zero (fin ys news hJ)
  | succ k ih =>
    intro i ys news hk hJ
    refine LCg.CompRest.succ fun v I oI C oC D m₂ h tk E' hP hC hx F N off ne => ?_
    refine wpAny_mono (turn i v I oI C oC D m₂ h tk E' ys news (by omega) hJ hP hC hx F N off ne) (fun y s₂ h₂ => ?_) fun _ _ e => e
    obtain ⟨h', tk', news', e, F', N', off', hS, r⟩ := h₂
    exact ⟨h', tk', news', e, F', N', off', hS, ih (i + 1) (ys ++ [y]) news' (by omega) r⟩
theorem comp_end {I C D : Addr} {s₁ : Shared} {oI oC oD : Obj} {S : List (Addr × Obj) → Prop} {rest : Value → List (Addr × Obj) → Prop} {y : Value} {h' : Heap} {tk : Nat} {all : List (Addr × Obj)}
    (F : Fr h₀ L h' m) (N : News h₀ L h' all) (news' : List (Addr × Obj)) (sub : ∀ p ∈ (I, oI) :: (C, oC) :: (D, oD) :: news', p ∈ all) (off : LCg.Off3 I C D news') (hS : S news') (r : rest y news') :
    LCg.CompEnd h₀ L m s₁ I oI C oC D oD S rest y { s₁ with heap := h', toks := tk } := LCg.CompEnd.intro F N news' sub off hS r
theorem off1_mem {D : Addr} : ∀ {l : List (Addr × Obj)}, LCg.Off1 D l → ∀ p ∈ l, p.1 ≠ D
  | [], _, _, h => nomatch h
  | _ :: _, x, p, h => by
    rcases List.mem_cons.mp h with rfl | h
    · exact x.1
    · exact off1_mem x.2 p h
end
theorem inst_b {h₀ h : Heap} {L x C dx : Addr} {m : Str → Option Value} {od : Obj} (F : Fr h₀ L h m) (h1 : h₀.get? x = some (instObj C dx)) (h2 : h₀.get? dx = some od) : InstAt h x (instObj C dx) C (some od) := ⟨F.keep _ _ h1, rfl, rfl, F.keep _ _ h2⟩
abbrev tankD (P : Params) (k1 : Tok) (ls : Value) : Obj := dictOf [⟨PyData.keyHash P (Str.ofString "layers"), .str (Str.ofString "layers") k1, ls⟩] 1
theorem map_take_snoc {α β : Type} {f : α → β} {ls : List α} {i : Nat} {l : α} (h : ls[i]? = some l) : (ls.map f).take (i + 1) = (ls.map f).take i ++ [f l] := by
  rw [List.take_add_one, List.getElem?_map, h]; rfl
theorem RatN.heap {P : Addr → Obj → Prop} {v : Value} {r : Rat} {h : Heap} (hP : ∀ a o, P a o → h.get? a = some o) (x : RatN P v r) : RatH h v r := let ⟨D, t, t', c, e, k⟩ := x; ⟨D, t, t', c, e, hP _ _ k⟩
local macro_rules | `(tactic| walk_at "eval ListComp") => `(tactic| (k_here; lcg_look; k_dflt (refine LCg.ListComp_U (F₀ := by k_asm) (by rfl) (by decide) (by rfl) (by decide) (by rfl) ?_); k_dflt lcg_toSrc))
local macro_rules | `(tactic| walk_at "eval ListComp") => `(tactic| (k_here; lcf_look; k_dflt (refine LCg.ListComp_U (F₀ := by k_asm) (by with_unfolding_all rfl) (by decide) (by rfl) (by decide) (by rfl) ?_); k_dflt lcg_toSrc))
local macro_rules | `(tactic| walk_at "exec Assign cons ListComp") => `(tactic| (k_here; lcg_look; k_dflt (refine LCg.Assign_ListComp_U (F₀ := by k_asm) (by rfl) (by with_unfolding_all rfl) (by rfl) (by decide) (by rfl) (by decide) (by rfl) (by rfl) (by rfl) ?_); k_dflt lcg_toSrc))
local macro_rules | `(tactic| walk_at "exec Assign cons ListComp") => `(tactic| (k_here; lcf_look; k_dflt (refine LCg.Assign_ListComp_U (F₀ := by k_asm) (by rfl) (by with_unfolding_all rfl) (by with_unfolding_all rfl) (by decide) (by rfl) (by decide) (by rfl) (by rfl) (by rfl) ?_); k_dflt lcg_toSrc))
local macro_rules | `(tactic| walk_at "CompSrc") => `(tactic| (refine Hold.out ?_))
local macro_rules | `(tactic| walk_at "CompEnd") => `(tactic| (show LCg.CompEnd _ _ _ _ _ _ _ _ _ _ _ _ _ _; refine Hold.out ?_))
local macro_rules | `(tactic| walk_at "t11") => `(tactic| (exact inst_b (by k_asm) (by with_reducible assumption) (by with_reducible assumption)))
local macro_rules | `(tactic| walk_at "getAttr ref") => `(tactic| (k_here; k_dflt (refine' get_own ?k1 ?k2 ?k3 ?k4 ?k5 ?k6 ?k7 ?k8 ?k9 ?_; (case k1 | k2 => k_asm); (case k3 => walk_at "t11"); (case k4 | k5 | k6 | k7 => k_is); (case k8 => k_get); (case k9 => k_handed); k_whole)))
theorem litres_c {w : World} {p : Program} {loose : List Str} {mean : ExcName → Option Value} {mg mb : Str → Option Value} {dp un : Nat} {gd : Option (List Code)} {cn : Str} {cs : Scope} {a : Addr} {ccd : Value} {cl : List (Str × Addr)} {outer : List Env} {A₀ : Around} {base h₀ : Heap} {L : Addr} {m : Str → Option Value} {news : List (Addr × Obj)} {s : Shared} {Q E : Value → Shared → Prop} {P : Addr → Obj → Prop} {x d l0 : Addr} {k1 : Tok} {vs : List Value} {ls : List Lay} {n0 b : Nat}
    (B : Below A₀ base outer h₀) (F : Fr h₀ L s.heap m) (X : (HD.K w.params).In h₀) (N : News h₀ L s.heap news) (T : Top p loose mean mg mb h₀) (hk : cs.kind = .function) (hgx : s.heap.get? x = some (instObj 174 d)) (hgd : s.heap.get? d = some (tankD w.params k1 (.ref l0))) (hP : ∀ a o, P a o → s.heap.get? a = some o) (el : P l0 (listOf vs.toArray n0)) (hv : All2 (LayN P) vs ls) (hne : ls ≠ []) (hb : ∀ l ∈ ls, Bd b l.1) (hlen : ls.length * (b + 1) + 1 ≤ 6643)
    (hd : dp + 12 < recursionLimit) (hu : un + 400 < cLine)
    (hret : ∀ (D : Addr) (t t' : Tok) (c : Nat) (h' : Heap) (tk' : Nat), Bd (ls.length * (b + 1) + 1) (tot (ls.map (·.1))) → Fr h₀ L h' m → News h₀ L h' ((D, RatO (tot (ls.map (·.1))) t t' c) :: news) → (∀ p ∈ news, p.1 ≠ D) → Q (.ref D) { s with heap := h', toks := tk' }) :
    wpAny (model PySem.Challenge.rw_ui0509_10.row.prog w) (ktrTop dp un gd cn cs L a ccd cl outer) (call (.ref 131) [.ref x]) Q E s := by
  w_top off
  revert X; k_fill; intro X
  refine wpAny_call ?_
  k_dflt (refine' code_need [] ?k1 ?k2 ?k3 ?k4 ?k5 ?kA ?kF ?kK ?k6 ?k7 ?k8 ?k9 ?kB ?kN ?_ ?c2 ?c3 ?c4 ?c5; (case kA => exact rfl); (case kF => exact rfl); (case kK => assumption); (case k1 => k_asm); (case k2 => k_asm); (case k3 => k_asm); (case k4 => k_asm); (case k5 => k_asm); (case k6 => k_is); (case k7 => k_is); (case k8 => ktr_room); (case k9 => first | exact BindsTo.of_eq rfl | exact binds_K (by k_in) rfl (by k_is) rfl rfl rfl); (case c5 => decide); (case kB => exact locs rfl); (case kN => exact fun _ h => nomatch h); (case c2 => exact rfl); (case c3 => exact rfl); (case c4 => exact rfl); k_whole; intro g' L' h' tk0 FG' F' N' B' X' T' hG'; (try dsimp only); (try k_fold))
  have hT := ground_of hP hG'
  have el' : g'.get? l0 = some (listOf vs.toArray n0) := (hT [] _ _ (.inl el)).elim (fun h => nomatch h) id
  replace hgx := hG' _ _ hgx (by simp)
  replace hgd := hG' _ _ hgd (by simp)
  k_steps
  unfold Hold
  refine LCg.CompSrc.base rfl (by k_asm) (by k_asm) ⟨_, el', rfl, n0, rfl⟩ (by rw [List.size_toArray, hv.length, sizeLine_eq]; have := Nat.le_mul_of_pos_right ls.length (show 0 < b + 1 by omega); omega) (fun g9 => ?_)
  refine comp_ind (fun i ys nx => nx = [] ∧ All2 (RatN P) ys ((ls.map (·.1)).take i)) ?turn ?fin _ 0 [] _ (Nat.zero_add _) ⟨rfl, .nil⟩
  case turn =>
    intro i v I oI C oC D9 m2 h tk E' ys nx hi hJ hPv hC hx Fm Nn off ne
    obtain ⟨rfl, hys⟩ := hJ
    have hvi : vs[i]? = some v := by simpa using hPv
    obtain ⟨⟨sz, wm⟩, hl, D, v1, v2, c, rfl, eD, hs1, hw1⟩ := hv.get hvi
    have eD' := hT [] _ _ (.inl eD)
    have hstep := map_take_snoc (f := fun l : Lay => l.1) hl
    k_steps
    unfold Hold
    exact comp_end (by k_asm) (by k_asm) [] (by exact fun _ h => h) trivial (.inl ⟨_, el', rfl, n0, rfl⟩) ⟨rfl, by rw [hstep]; exact hys.snoc hs1⟩
  case fin =>
    intro ys nx hJ D h tk Fm Nn off
    obtain ⟨rfl, hys⟩ := hJ
    rw [List.size_toArray, hv.length, ← List.length_map (f := fun l : Lay => l.1), List.take_length] at hys
    k_steps
    k_dflt (refine' total_c (rs := ls.map (·.1)) (b := b) ?k1 ?k2 ?k3 ?k4 ?k5 ?k6 ?el ?hv ?hne ?hb ?hlen ?k7 ?k8 ?_)
    case k1 => k_asm
    case k2 => k_asm
    case k3 => k_asm
    case k4 => k_asm
    case k5 => k_asm
    case k6 => first | exact rfl | assumption
    case k7 => ktr_room
    case k8 => ktr_units
    case el => exact News.get Nn (List.mem_cons_self ..)
    case hv => exact hys.mono fun v r y => y.heap fun a o e => (hT [] a o (.inl e)).get Fm Nn fun _ h => nomatch h
    case hne => simpa using hne
    case hb => exact fun r hr => by obtain ⟨l, hl, e⟩ := List.mem_map.mp hr; rw [← e]; exact hb l hl
    case hlen => rw [List.length_map]; exact hlen

    intro D5 t5 u5 c5 h5 tk5 b5 F5 N5 l5
    k_steps
    try dsimp only
    refine leaveN_ (by k_asm) (by k_asm) ?_; intro kF kN kR kD; (try dsimp only); exact hret _ _ _ _ _ _ (by rw [List.length_map] at b5; exact b5) kF (news_cons kN (by k_mem) (news_all kR)) (ne_all kD (List.mem_cons_self ..))
local macro_rules | `(tactic| walk_at "call ref") => `(tactic| (k_here; (with_reducible show wpAny _ _ (call (Value.ref 51) [Value.ref _, Value.ref 28]) _ _ _); k_dflt (refine' need_rn (r2 := 0) (k := 1) ?k1 ?k2 ?k3 ?k4 ?k5 ?k6 ?m1 ?m2 ?k7 ?k8 ?b1 ?b2 ?hb ?hb2 ?hl ?_; (case k1 | k2 | k3 | k4 | k5 => k_asm); (case k6 => walk_at "t1"); (case k7 => walk_at "t3"); (case k8 => walk_at "t2"); (case m1 => (walk_at "hat9")); (case m2 => walk_at "t8"); (case b1 => walk_at "t0"); (case b2 => exact Bd.zero (by decide)); (case hb => walk_at "t4"); (case hb2 => decide); (case hl => first | assumption | grind); k_whole); intro h' tk' F' N'; (try k_sweep)))
local macro_rules | `(tactic| walk_at "getMethod ref") => `(tactic| (k_here; k_dflt (refine' method_inst ?k1 ?k2 ?k3 ?k4 ?k5 ?k6 ?k7 ?_; (case k1 | k2 => k_asm); (case k3 => walk_at "t11"); (case k4 | k5 | k6 => k_is); (case k7 => k_get); k_whole)))
theorem tneed_c {w : World} {p : Program} {loose : List Str} {mean : ExcName → Option Value} {mg mb : Str → Option Value} {dp un : Nat} {gd : Option (List Code)} {cn : Str} {cs : Scope} {a : Addr} {ccd : Value} {cl : List (Str × Addr)} {outer : List Env} {A₀ : Around} {base h₀ : Heap} {L : Addr} {m : Str → Option Value} {news : List (Addr × Obj)} {s : Shared} {Q E : Value → Shared → Prop} {P : Addr → Obj → Prop} {x d l0 : Addr} {k1 : Tok} {vs : List Value} {ls : List Lay} {n0 b bx : Nat} {Dx : Addr} {rx : Rat} {tx tx' : Tok} {cx : Nat}
    (B : Below A₀ base outer h₀) (F : Fr h₀ L s.heap m) (X : (HD.K w.params).In h₀) (N : News h₀ L s.heap news) (T : Top p loose mean mg mb h₀) (hk : cs.kind = .function) (hgx : s.heap.get? x = some (instObj 174 d)) (hgd : s.heap.get? d = some (tankD w.params k1 (.ref l0))) (hP : ∀ a o, P a o → s.heap.get? a = some o) (el : P l0 (listOf vs.toArray n0)) (hv : All2 (LayN P) vs ls) (hne : ls ≠ []) (hb : ∀ l ∈ ls, Bd b l.1) (hlen : ls.length * (b + 1) + 1 ≤ 6643)
    (ex : s.heap.get? Dx = some (RatO rx tx tx' cx)) (hbx : Bd bx rx) (hbx2 : bx ≤ 6643) (hx0 : 0 ≤ rx) (hx1 : rx ≤ tot (ls.map (·.1)))
    (hd : dp + 16 < recursionLimit) (hu : un + 600 < cLine)
    (hret : ∀ (h' : Heap) (tk' : Nat), Fr h₀ L h' m → News h₀ L h' news → Q .none { s with heap := h', toks := tk' }) :
    wpAny (model PySem.Challenge.rw_ui0509_10.row.prog w) (ktrTop dp un gd cn cs L a ccd cl outer) (call (.ref 171) [.ref x, .ref Dx]) Q E s := by
  w_top off
  revert X; k_fill; intro X
  refine wpAny_call ?_
  k_dflt (refine' code_need [] ?k1 ?k2 ?k3 ?k4 ?k5 ?kA ?kF ?kK ?k6 ?k7 ?k8 ?k9 ?kB ?kN ?_ ?c2 ?c3 ?c4 ?c5; (case kA => exact rfl); (case kF => exact rfl); (case kK => assumption); (case k1 => k_asm); (case k2 => k_asm); (case k3 => k_asm); (case k4 => k_asm); (case k5 => k_asm); (case k6 => k_is); (case k7 => k_is); (case k8 => ktr_room); (case k9 => first | exact BindsTo.of_eq rfl | exact binds_K (by k_in) rfl (by k_is) rfl rfl rfl); (case c5 => decide); (case kB => exact locs rfl); (case kN => exact fun _ h => nomatch h); (case c2 => exact rfl); (case c3 => exact rfl); (case c4 => exact rfl); k_whole; intro g' L' h' tk0 FG' F' N' B' X' T' hG'; (try dsimp only); (try k_fold))
  have hT := ground_of hP hG'
  replace hgx := hG' _ _ hgx (by simp)
  replace hgd := hG' _ _ hgd (by simp)
  replace ex := hG' _ _ ex (by simp)
  have hnl : ¬ tot (ls.map (·.1)) < rx := Rat.not_lt.mpr hx1
  k_steps
  k_dflt (refine' litres_c (P := P) (b := b) ?k1 ?k2 ?k3 ?k4 ?k5 ?k6 ?gx ?gd ?hP ?el ?hv ?hne ?hb ?hlen ?k7 ?k8 ?_)
  case k1 => k_asm
  case k2 => k_asm
  case k3 => k_asm
  case k4 => k_asm
  case k5 => k_asm
  case k6 => first | exact rfl | assumption
  case k7 => ktr_room
  case k8 => ktr_units
  case gx => exact Fr.keep (by k_asm) _ _ hgx
  case gd => exact Fr.keep (by k_asm) _ _ hgd
  case hP => exact fun a o e => (hT [] a o (.inl e)).get (by k_asm) (by k_asm) fun _ h => nomatch h
  case el => exact el
  case hv => exact hv
  case hne => exact hne
  case hb => exact hb
  case hlen => exact hlen

  intro D5 t5 u5 c5 h5 tk5 b5 F5 N5 l5
  k_steps
  all_goals try dsimp only
  all_goals (refine leaveN_ (by k_asm) (by k_asm) ?_; intro kF kN kR kD; (try dsimp only); exact hret _ _ kF (news_all kR))
local macro_rules | `(tactic| walk_at "subscriptTail") => `(tactic| (walk_at "h0"; k_dflt (refine' list_t ?k1 ?k0 ?k2 ?kS ?k3 ?k4 ?k5 ?k6 ?k8 ?_ ?k9 ?k10; (case k1 | k0 => k_asm); (case k2 => walk_at "t0"); (case kS => walk_at "t7"); (case k3 | k4 => exact rfl); (case k5 | k6 => first | decide | omega); (case k8 => walk_at "t0"); (case k9 => walk_at "t5"); (case k10 => walk_at "t6"); k_whole)))
local macro_rules | `(tactic| walk_at "subscriptTail") => `(tactic| (walk_at "h0"; k_dflt (refine' back_t ?k1 ?k0 ?k2 ?kS ?k3 ?k4 ?k5 ?k6 ?k7 ?k8 ?_ ?k9 ?k10; (case k1 | k0 => k_asm); (case k2 => walk_at "t0"); (case kS => walk_at "t7"); (case k3 | k4 => exact rfl); (case k5 => decide); (case k6 => omega); (case k7 => decide); (case k8 => walk_at "t0"); (case k9 => walk_at "t5"); (case k10 => walk_at "t6"); k_whole)))
theorem top_c {w : World} {p : Program} {loose : List Str} {mean : ExcName → Option Value} {mg mb : Str → Option Value} {dp un : Nat} {gd : Option (List Code)} {cn : Str} {cs : Scope} {a : Addr} {ccd : Value} {cl : List (Str × Addr)} {outer : List Env} {A₀ : Around} {base h₀ : Heap} {L : Addr} {m : Str → Option Value} {news : List (Addr × Obj)} {s : Shared} {Q E : Value → Shared → Prop} {P : Addr → Obj → Prop} {x d l0 : Addr} {k1 : Tok} {vs : List Value} {ls : List Lay} {la : Lay} {n0 : Nat}
    (B : Below A₀ base outer h₀) (F : Fr h₀ L s.heap m) (X : (HD.K w.params).In h₀) (N : News h₀ L s.heap news) (T : Top p loose mean mg mb h₀) (hk : cs.kind = .function) (hgx : s.heap.get? x = some (instObj 174 d)) (hgd : s.heap.get? d = some (tankD w.params k1 (.ref l0))) (hP : ∀ a o, P a o → s.heap.get? a = some o) (el : P l0 (listOf vs.toArray n0)) (hv : All2 (LayN P) vs ls) (hla : ls[0]? = some la) (hll : ls.length ≤ 1000)
    (hd : dp + 12 < recursionLimit) (hu : un + 400 < cLine)
    (hret : ∀ (v : Value) (h' : Heap) (tk' : Nat), Fr h₀ L h' m → News h₀ L h' news → RatN P v la.2 → Q v { s with heap := h', toks := tk' }) :
    wpAny (model PySem.Challenge.rw_ui0509_10.row.prog w) (ktrTop dp un gd cn cs L a ccd cl outer) (call (.ref 143) [.ref x]) Q E s := by
  w_top off
  revert X; k_fill; intro X
  refine wpAny_call ?_
  k_dflt (refine' code_need [] ?k1 ?k2 ?k3 ?k4 ?k5 ?kA ?kF ?kK ?k6 ?k7 ?k8 ?k9 ?kB ?kN ?_ ?c2 ?c3 ?c4 ?c5; (case kA => exact rfl); (case kF => exact rfl); (case kK => assumption); (case k1 => k_asm); (case k2 => k_asm); (case k3 => k_asm); (case k4 => k_asm); (case k5 => k_asm); (case k6 => k_is); (case k7 => k_is); (case k8 => ktr_room); (case k9 => first | exact BindsTo.of_eq rfl | exact binds_K (by k_in) rfl (by k_is) rfl rfl rfl); (case c5 => decide); (case kB => exact locs rfl); (case kN => exact fun _ h => nomatch h); (case c2 => exact rfl); (case c3 => exact rfl); (case c4 => exact rfl); k_whole; intro g' L' h' tk0 FG' F' N' B' X' T' hG'; (try dsimp only); (try k_fold))
  have hT := ground_of hP hG'
  have elT := hT [] _ _ (.inl el)
  replace hgx := hG' _ _ hgx (by simp)
  replace hgd := hG' _ _ hgd (by simp)
  have hvl := hv.length
  have hpl : 0 < ls.length := Nat.lt_of_le_of_lt (Nat.zero_le _) (List.getElem?_eq_some_iff.mp hla).1
  obtain ⟨_, hva, Ta, a1, a2, ca, rfl, eA, _, hr⟩ := hv.at hla
  have eA' := hT [] _ _ (.inl eA)
  have hx1 : vs[(0 : Int).toNat]? = some (Value.ref Ta) := hva
  k_steps
  all_goals try dsimp only
  all_goals (refine leaveN_ (by k_asm) (by k_asm) ?_; intro kF kN kR kD; (try dsimp only); exact hret _ _ _ kF (news_all kR) hr)
theorem cut_len (ls : List Lay) (x : Rat) : (cutF ls x).rest.length ≤ ls.length := by
  have h : ∀ (ls : List Lay) (c : CutSt), (ls.foldl cutStep c).rest.length ≤ c.rest.length + ls.length := by
    intro ls
    induction ls with
    | nil => intro c; simp
    | cons l ls ih =>
      intro c
      rw [List.foldl_cons]
      refine Nat.le_trans (ih _) ?_
      have : (cutStep c l).rest.length ≤ c.rest.length + 1 := by
        simp only [cutStep]
        split <;> (try split) <;> simp
      rw [List.length_cons]; omega
  simpa [cutF] using h ls ⟨[], [], x⟩
theorem subs_of {h₀ h' : Heap} {L : Addr} {all TL : List (Addr × Obj)} (_N : News h₀ L h' all) (hs : ∀ p ∈ TL, p ∈ all) : ∀ p ∈ TL, p ∈ all := hs
theorem apart2 {news TL all : List (Addr × Obj)} {x d : Addr} {ox od : Obj} (kD : ∀ p ∈ restOf news [(x, ox), (d, od)], ∀ q ∈ all, p.1 ≠ q.1) (hs : ∀ q ∈ TL, q ∈ all) (hx : ∀ q ∈ TL, q.1 ≠ x) (hd : ∀ q ∈ TL, q.1 ≠ d) : ∀ p ∈ news, ∀ q ∈ TL, p.1 ≠ q.1 := by
  intro p hp q hq
  by_cases h1 : p.1 = x
  · rw [h1]; exact (hx q hq).symm
  by_cases h2 : p.1 = d
  · rw [h2]; exact (hd q hq).symm
  exact kD p (mem_rest hp (not_in2 h1 h2)) q (hs q hq)
theorem ground2 {P : Addr → Obj → Prop} {h g : Heap} {x d : Addr} {ox od : Obj} (hP : ∀ a o, P a o → h.get? a = some o) (hPn : ∀ a o, P a o → a ≠ x ∧ a ≠ d) (hG : ∀ b o, h.get? b = some o → b ∉ List.map (·.1) [(x, ox), (d, od)] → g.get? b = some o) (tl : List (Addr × Obj)) :
    ∀ a o, PT P tl a o → Tk g tl a o := fun a o e => e.elim (fun h => .inr (hG _ _ (hP _ _ h) (not_in2 (hPn _ _ h).1 (hPn _ _ h).2))) .inl
local macro_rules | `(tactic| walk_at "call ref") => `(tactic| (k_here; (with_reducible show wpAny _ _ (call (Value.ref 51) [Value.ref _]) _ _ _); k_dflt (refine' need_r ?k1 ?k2 ?k3 ?k4 ?k5 ?k6 ?m1 ?k7 ?k8 ?b1 ?hb ?_; (case k1 | k2 | k3 | k4 | k5 => k_asm); (case k6 => walk_at "t1"); (case k7 => walk_at "t3"); (case k8 => walk_at "t2"); (case m1 => (walk_at "hat9")); (case b1 => walk_at "t0"); (case hb => walk_at "t4"); k_whole); intro h' tk' F' N'; (try k_sweep)))
local macro_rules | `(tactic| walk_at "binaryOp Add ref ref") => `(tactic| (k_here; (with_reducible show wpAny _ _ (binaryOp Operator.Add (Value.ref _) (Value.ref _)) _ _ _); k_dflt (refine' add_k ?F ?N ?a ?b ?z ?_; (case F | N => k_asm); (case a | b => (walk_at "hat9")); (case z => ((try simp only [List.length_cons, List.length_nil, List.length_reverse]); omega)); k_whole); intro D' h' F' N' l1; (try k_lt l1); (try k_sweep)))
local macro_rules | `(tactic| k_all) => `(tactic| exact off_of (by with_reducible assumption) (by k_mem))
local macro_rules | `(tactic| k_all) => `(tactic| (refine List.forall_mem_append.mpr ⟨?_, ?_⟩ <;> k_all))
theorem draw_c {w : World} {p : Program} {loose : List Str} {mean : ExcName → Option Value} {mg mb : Str → Option Value} {dp un : Nat} {gd : Option (List Code)} {cn : Str} {cs : Scope} {a : Addr} {ccd : Value} {cl : List (Str × Addr)} {outer : List Env} {A₀ : Around} {base h₀ : Heap} {L : Addr} {m : Str → Option Value} {news : List (Addr × Obj)} {s : Shared} {Q E : Value → Shared → Prop} {P : Addr → Obj → Prop} {x d l0 : Addr} {k1 : Tok} {vs : List Value} {ls : List Lay} {n0 b bx bw : Nat} {Dx Dw : Addr} {rx rw' : Rat} {tx tx' tw tw' : Tok} {cx cw : Nat} {g1 : Obj → List (Addr × Obj)}
    (B : Below A₀ base outer h₀) (F : Fr h₀ L s.heap m) (X : (HD.K w.params).In h₀) (N : News h₀ L s.heap news) (T : Top p loose mean mg mb h₀) (hk : cs.kind = .function) (ex0 : (x, instObj 174 d) ∈ news) (U : UpdF d (tankD w.params k1 (.ref l0)) news g1) (ndx : d ≠ x) (hP : ∀ a o, P a o → s.heap.get? a = some o) (hPn : ∀ a o, P a o → a ≠ x ∧ a ≠ d) (el : P l0 (listOf vs.toArray n0)) (hv : All2 (LayN P) vs ls) (hne : ls ≠ []) (hb : ∀ l ∈ ls, Bd b l.1) (hlen : ls.length * (b + 1) + 1 ≤ 6643) (hll : ls.length ≤ 100)
    (ex : P Dx (RatO rx tx tx' cx)) (hbx : Bd bx rx) (hx0 : 0 < rx) (hx1 : rx ≤ tot (ls.map (·.1))) (h1x : 1 ≤ bx) (hlen2 : 2 * (bx + ls.length * (b + 1)) + b + 2 ≤ 6643)
    (ew : P Dw (RatO rw' tw tw' cw)) (hbw : Bd bw rw') (hbw2 : bw ≤ 6643) (hf : Falls ((cutF ls rx).rest ++ [(rx, rw')])) (hbl : ∀ l ∈ (cutF ls rx).rest ++ [(rx, rw')], Bd bw l.2)
    (hd : dp + 24 < recursionLimit) (hu : un + 1000 < cLine)
    (hret : ∀ (vo v' : Value) (tl : List (Addr × Obj)) (h' : Heap) (tk' : Nat), Fr h₀ L h' m → News h₀ L h' (g1 (tankD w.params k1 v') ++ tl) → (∀ p ∈ news, ∀ q ∈ tl, p.1 ≠ q.1) → LaysN (PT P tl) vo (cutF ls rx).out → LaysN (PT P tl) v' ((cutF ls rx).rest ++ [(rx, rw')]) → Q vo { s with heap := h', toks := tk' }) :
    wpAny (model PySem.Challenge.rw_ui0509_10.row.prog w) (ktrTop dp un gd cn cs L a ccd cl outer) (call (.ref 164) [.ref x, .ref Dx, .ref Dw]) Q E s := by
  w_top off
  revert X; k_fill; intro X
  refine wpAny_call ?_
  k_dflt (refine' code_need [(x, instObj 174 d), (d, tankD w.params k1 (.ref l0))] ?k1 ?k2 ?k3 ?k4 ?k5 ?kA ?kF ?kK ?k6 ?k7 ?k8 ?k9 ?kB ?kN ?_ ?c2 ?c3 ?c4 ?c5; (case kA => exact rfl); (case kF => exact rfl); (case kK => assumption); (case k1 => k_asm); (case k2 => k_asm); (case k3 => k_asm); (case k4 => k_asm); (case k5 => k_asm); (case k6 => k_is); (case k7 => k_is); (case k8 => ktr_room); (case k9 => first | exact BindsTo.of_eq rfl | exact binds_K (by k_in) rfl (by k_is) rfl rfl rfl); (case c5 => decide); (case kB => exact locs rfl); (case kN => exact two_in ex0 (UpdF.mem U)); (case c2 => exact rfl); (case c3 => exact rfl); (case c4 => exact rfl); k_whole; intro g' L' h' tk0 FG' F' N' B' X' T' hG'; (try dsimp only); (try k_fold))
  have hT := ground2 hP hPn hG'
  have exT := hT [] _ _ (.inl ex)
  have ewT := hT [] _ _ (.inl ew)
  replace ndx := neN ndx
  k_steps
  k_dflt (refine' tneed_c (P := P) (b := b) (bx := bx) (rx := rx) (tx := tx) (tx' := tx') (cx := cx) ?k1 ?k2 ?k3 ?k4 ?k5 ?k6 ?gx ?gd ?hP ?el ?hv ?hne ?hb ?hlen ?ex ?hbx ?hbx2 ?hx0 ?hx1 ?k7 ?k8 ?_)
  case k1 => k_asm
  case k2 => k_asm
  case k3 => k_asm
  case k4 => k_asm
  case k5 => k_asm
  case k6 => first | exact rfl | assumption
  case k7 => ktr_room
  case k8 => ktr_units
  case gx => exact News.get (by k_asm) (by k_mem)
  case gd => exact News.get (by k_asm) (by k_mem)
  case hP => exact fun a o e => (hT [] a o (.inl e)).get (by k_asm) (by k_asm) fun _ h => nomatch h
  case el => exact el
  case hv => exact hv
  case hne => exact hne
  case hb => exact hb
  case hlen => exact hlen
  case ex => exact exT.get (by k_asm) (by k_asm) fun _ h => nomatch h
  case hbx => exact hbx
  case hbx2 => omega
  case hx0 => exact Rat.le_of_lt hx0
  case hx1 => exact hx1

  intro h5 tk5 F5 N5
  k_steps
  k_dflt (refine' cut_c (P := P) (b := b) (bx := bx) (x := rx) (tx := tx) (tx' := tx') (cx := cx) ?k1 ?k2 ?k3 ?k4 ?k5 ?k6 ?hP ?el ?hv ?ex ?hb ?hbx ?h1x ?hlen ?hll ?k7 ?k8 ?_)
  case k1 => k_asm
  case k2 => k_asm
  case k3 => k_asm
  case k4 => k_asm
  case k5 => k_asm
  case k6 => first | exact rfl | assumption
  case k7 => ktr_room
  case k8 => ktr_units
  case hP => exact fun a o e => (hT [] a o (.inl e)).get (by k_asm) (by k_asm) fun _ h => nomatch h
  case el => exact (hT [] _ _ (.inl el)).get (by k_asm) (by k_asm) fun _ h => nomatch h
  case hv => exact hv
  case ex => exact ex
  case hb => exact hb
  case hbx => exact hbx
  case h1x => exact h1x
  case hlen => exact hlen2
  case hll => omega

  intro D6 c6 vo6 vr6 tl6 h6 tk6 F6 N6 n61 n62 n63 Lo6 Lr6
  simp only [List.cons_append, List.nil_append] at N6
  have y61 := neN (n61 _ (List.mem_cons_self ..))
  have y62 := neN (n61 _ (List.mem_cons_of_mem _ (List.mem_cons_self ..)))
  obtain ⟨lr, vrs, nr, rfl, elr, hvr⟩ := Lr6
  have elrT := hT tl6 _ _ elr
  have hnum : 0 < rx.num := num_pos.mpr hx0
  have hlr : vrs.length ≤ 900 := by rw [hvr.length]; exact Nat.le_trans (cut_len ls rx) (by omega)
  k_steps
  rename_i T9 hA lA M9 hB lB S9 hC FC NC lC
  have hPS : ∀ a o, PT P ((S9, listOf (vrs ++ [Value.ref T9]).toArray 0) :: (T9, pairO (.ref Dx) (.ref Dw) 0) :: tl6) a o → hC.get? a = some o := by
    intro a o e
    refine Tk.get FC NC (hT ((S9, listOf (vrs ++ [Value.ref T9]).toArray 0) :: (T9, pairO (.ref Dx) (.ref Dw) 0) :: tl6) a o e) ?_
    refine List.forall_mem_cons.mpr ⟨by k_mem, List.forall_mem_cons.mpr ⟨by k_mem, (by intro p9 hp9; first | exact hp9 | exact absurd hp9 List.not_mem_nil | (repeat (first | exact hp9 | refine List.mem_cons_of_mem _ ?_)))⟩⟩
  have hvS : All2 (LayN (PT P ((S9, listOf (vrs ++ [Value.ref T9]).toArray 0) :: (T9, pairO (.ref Dx) (.ref Dw) 0) :: tl6))) (vrs ++ [Value.ref T9]) ((cutF ls rx).rest ++ [(rx, rw')]) :=
    (hvr.mono fun _ _ y => y.mono (PT.mono fun p hp => List.mem_cons_of_mem _ (List.mem_cons_of_mem _ hp))).snoc (lay_new (.inr (List.mem_cons_of_mem _ (List.mem_cons_self ..))) ⟨Dx, tx, tx', cx, rfl, .inl ex⟩ ⟨Dw, tw, tw', cw, rfl, .inl ew⟩)
  k_dflt (refine' settle_c (P := PT P ((S9, listOf (vrs ++ [Value.ref T9]).toArray 0) :: (T9, pairO (.ref Dx) (.ref Dw) 0) :: tl6)) (b := bw) ?k1 ?k2 ?k3 ?k4 ?k5 ?k6 ?hP ?el ?hv ?hf ?hll ?hb ?hbb ?k7 ?k8 ?_)
  case k1 => k_asm
  case k2 => k_asm
  case k3 => k_asm
  case k4 => k_asm
  case k5 => k_asm
  case k6 => first | exact rfl | assumption
  case k7 => ktr_room
  case k8 => ktr_units
  case hP => exact hPS
  case el => exact .inr (List.mem_cons_self ..)
  case hv => exact hvS
  case hf => exact hf
  case hll => rw [← hvS.length, List.length_append]; simp; omega
  case hb => exact hbl
  case hbb => omega

  intro v9 tl9 h9 tk9 F9 N9 l9 L9
  simp only [List.cons_append, List.nil_append] at N9
  k_steps
  try dsimp only
  refine leaveN_ (by k_asm) (by k_asm) ?_; intro kF kN kR kD; (try dsimp only)
  have hTL := subs_of (TL := (S9, listOf (vrs ++ [Value.ref T9]).toArray 0) :: (T9, pairO (.ref Dx) (.ref Dw) 0) :: (tl6 ++ tl9)) kN (List.forall_mem_cons.mpr ⟨by k_mem, List.forall_mem_cons.mpr ⟨by k_mem, (by intro p9 hp9; first | exact hp9 | exact absurd hp9 List.not_mem_nil | (repeat (first | exact hp9 | refine List.mem_cons_of_mem _ ?_)))⟩⟩)
  exact hret vo6 v9 ((S9, listOf (vrs ++ [Value.ref T9]).toArray 0) :: (T9, pairO (.ref Dx) (.ref Dw) 0) :: (tl6 ++ tl9)) _ _ kF (news_app2 (fun p hp => kN p (hTL p hp)) (news_upd1 N ex0 U kN (by k_mem) (by k_mem) kR))
    (apart2 kD hTL (List.forall_mem_cons.mpr ⟨neN (by walk_at "ne9"), List.forall_mem_cons.mpr ⟨neN (by walk_at "ne9"), List.forall_mem_append.mpr ⟨off_of n63 (by k_mem), off_of l9 (by k_mem)⟩⟩⟩) (List.forall_mem_cons.mpr ⟨neN (by walk_at "ne9"), List.forall_mem_cons.mpr ⟨neN (by walk_at "ne9"), List.forall_mem_append.mpr ⟨off_of n63 (by k_mem), off_of l9 (by k_mem)⟩⟩⟩))
    (Lo6.mono (PT.mono fun p hp => List.mem_cons_of_mem _ (List.mem_cons_of_mem _ (List.mem_append_left _ hp))))
    (L9.mono fun a o e => e.elim (fun e => e.imp id fun h => (List.forall_mem_cons.mpr ⟨List.mem_cons_self .., List.forall_mem_cons.mpr ⟨List.mem_cons_of_mem _ (List.mem_cons_self ..), fun p hp => List.mem_cons_of_mem _ (List.mem_cons_of_mem _ (List.mem_append_left _ hp))⟩⟩) _ h) fun h => .inr (List.mem_cons_of_mem _ (List.mem_cons_of_mem _ (List.mem_append_right _ h))))
theorem ground_new {P : Addr → Obj → Prop} {h₀ h g : Heap} {L x d : Addr} {m : Str → Option Value} {ox od : Obj} {news : List (Addr × Obj)} (hP : ∀ a o, P a o → Tk h₀ news a o) (F : Fr h₀ L h m) (N : News h₀ L h ((x, ox) :: (d, od) :: news)) (l0 : ∀ p ∈ news, p.1 < d) (l00 : d < x)
    (hG : ∀ b o, h.get? b = some o → b ∉ List.map (·.1) [(x, ox), (d, od)] → g.get? b = some o) (tl : List (Addr × Obj)) : ∀ a o, PT P tl a o → Tk g tl a o := fun a o e => e.elim (fun e => .inr (by
  have hT := hP a o e
  refine hG _ _ (hT.get F N fun p hp => List.mem_cons_of_mem _ (List.mem_cons_of_mem _ hp)) (not_in2 ?_ ?_)
  · rintro rfl
    rcases hT with hm | hg
    · exact absurd (Nat.lt_trans (l0 _ hm) l00) (Nat.lt_irrefl _)
    · have := (N _ (List.mem_cons_self ..)).2.2; rw [hg] at this; cases this
  · rintro rfl
    rcases hT with hm | hg
    · exact absurd (l0 _ hm) (Nat.lt_irrefl _)
    · have := (N _ (List.mem_cons_of_mem _ (List.mem_cons_self ..))).2.2; rw [hg] at this; cases this)) .inl
local macro_rules | `(tactic| walk_at "call builtin:len") => `(tactic| (walk_at "h1"; k_dflt (refine' lst_lenT ?k1 ?k0 ?k2 ?kS ?k3 ?_; (case k1 | k0 => k_asm); (case k2 => walk_at "t0"); (case kS => walk_at "t7"); (case k3 => walk_at "t10"); k_whole); intro tk9; (try simp only [List.length_append, List.length_cons, List.length_nil])))
theorem tank_new {w : World} {p : Program} {loose : List Str} {mean : ExcName → Option Value} {mg mb : Str → Option Value} {dp un : Nat} {gd : Option (List Code)} {cn : Str} {cs : Scope} {a : Addr} {ccd : Value} {cl : List (Str × Addr)} {outer : List Env} {A₀ : Around} {base h₀ : Heap} {L : Addr} {m : Str → Option Value} {news : List (Addr × Obj)} {s : Shared} {Q E : Value → Shared → Prop} {P : Addr → Obj → Prop} {lA : Addr} {vs : List Value} {ls : List Lay} {n0 b : Nat}
    (B : Below A₀ base outer h₀) (F : Fr h₀ L s.heap m) (X : (HD.K w.params).In h₀) (N : News h₀ L s.heap news) (T : Top p loose mean mg mb h₀) (hk : cs.kind = .function) (hP : ∀ a o, P a o → Tk h₀ news a o) (el : P lA (listOf vs.toArray n0)) (hv : All2 (LayN P) vs ls) (hne : ls ≠ []) (hf : Falls ls) (hpos : ∀ l ∈ ls, 0 < l.1) (hb : ∀ l ∈ ls, Bd b l.1) (hb2 : ∀ l ∈ ls, Bd b l.2) (hbb : b ≤ 6643) (hll : ls.length ≤ 100)
    (hd : dp + 20 < recursionLimit) (hu : un + 800 < cLine)
    (hret : ∀ (x d : Addr) (k1 : Tok) (v : Value) (tl : List (Addr × Obj)) (h' : Heap) (tk' : Nat), Fr h₀ L h' m → News h₀ L h' ((x, instObj 174 d) :: (d, tankD w.params k1 v) :: (news ++ tl)) → d ≠ x → (∀ p ∈ news, p.1 ≠ x) → (∀ p ∈ news, p.1 ≠ d) → (∀ q ∈ tl, q.1 ≠ x) → (∀ q ∈ tl, q.1 ≠ d) → (∀ p ∈ news, ∀ q ∈ tl, p.1 ≠ q.1) → LaysN (PT P tl) v ls → Q (.ref x) { s with heap := h', toks := tk' }) :
    wpAny (model PySem.Challenge.rw_ui0509_10.row.prog w) (ktrTop dp un gd cn cs L a ccd cl outer) (call (.ref 174) [.ref lA]) Q E s := by
  w_top off
  revert X; k_fill; intro X
  k_dflt (refine' call_cls ?k1 ?k2 ?k3 ?k4 ?k5 ?k6 ?_; (case k1 => k_asm); (case k2 => k_asm); (case k3 => k_asm); (case k4 => k_is); (case k5 => k_is); (case k6 => k_is); k_whole; intro x0 d0 h0 F0 N0 l0 l00)
  k_dflt (refine' code_need [(x0, instObj 174 d0), (d0, dictOf [] 0)] ?k1 ?k2 ?k3 ?k4 ?k5 ?kA ?kF ?kK ?k6 ?k7 ?k8 ?k9 ?kB ?kN ?_ ?c2 ?c3 ?c4 ?c5; (case kA => exact rfl); (case kF => exact rfl); (case kK => assumption); (case k1 => k_asm); (case k2 => k_asm); (case k3 => k_asm); (case k4 => k_asm); (case k5 => k_asm); (case k6 => k_is); (case k7 => k_is); (case k8 => ktr_room); (case k9 => first | exact BindsTo.of_eq rfl | exact binds_K (by k_in) rfl (by k_is) rfl rfl rfl); (case c5 => decide); (case kB => exact locs rfl); (case kN => exact List.forall_mem_cons.mpr ⟨List.mem_cons_self .., List.forall_mem_cons.mpr ⟨List.mem_cons_of_mem _ (List.mem_cons_self ..), List.forall_mem_nil _⟩⟩); (case c2 => exact rfl); (case c3 => exact rfl); (case c4 => exact rfl); k_whole; intro g' L' h' tk0 FG' F' N' B' X' T' hG'; (try dsimp only); (try k_fold))
  have hT := ground_new hP F0 N0 l0 l00 hG'
  have elT := hT [] _ _ (.inl el)
  have el' : g'.get? lA = some (listOf vs.toArray n0) := elT.elim (fun h => nomatch h) id
  have hvl := hv.length
  have hpl : 0 < ls.length := List.length_pos_iff.mpr hne
  replace l00 := ltN l00
  k_steps
  unfold Hold
  refine iter_baseTurns rfl (by k_asm) (by k_asm) el' rfl rfl (fun I lI => ?_)
  refine items_ind (fun i m nx => nx = [(x0, instObj 174 d0), (d0, dictOf [] 0)] ∧ m (Str.ofString "self") = some (.ref x0) ∧ m (Str.ofString "layers") = some (.ref lA)) ?turn ?done _ 0 _ _ rfl (Nat.zero_le _) trivial (fun p hp => Nat.ne_of_lt (lI p hp)) ⟨rfl, rfl, rfl⟩
  case turn =>
    intro i a v m nx h tk o ha _ hI hJ hav Fm ho Nn
    obtain ⟨rfl, hm1, hm2⟩ := hJ
    obtain ⟨⟨sz, wm⟩, hl, D, v1, v2, c, rfl, eD, ⟨D1, t1, t1', c1, rfl, e1⟩, ⟨D2, t2, t2', c2, rfl, e2⟩⟩ := hv.get (val_get ha hav)
    have eD' := hT [] _ _ (.inl eD)
    have e1' := hT [] _ _ (.inl e1)
    have e2' := hT [] _ _ (.inl e2)
    have bS := hb _ (List.mem_of_getElem? hl)
    have bW := hb2 _ (List.mem_of_getElem? hl)
    have hn : 0 < sz.num := num_pos.mpr (hpos _ (List.mem_of_getElem? hl))
    dsimp only at e1' e2' bS bW
    have nI1 : x0 ≠ I := hI _ (List.mem_cons_self ..)
    have nI2 : d0 ≠ I := hI _ (List.mem_cons_of_mem _ (List.mem_cons_self ..))
    replace nI1 := neN nI1; replace nI2 := neN nI2
    clear hI
    k_steps
    unfold Hold
    exact unr_end [(x0, _), (d0, _)] (by k_asm) (by k_asm) (by k_mem) (two_of (by k_mem) (by k_mem)) (two_of nI1 nI2) ⟨trivial, rfl, by first | rfl | assumption, by first | rfl | assumption⟩
  case done =>
    intro m nx h tk hJ Fm Nn
    obtain ⟨rfl, hm1, hm2⟩ := hJ
    k_steps
    unfold Hold
    refine iter_rangeTurns (n := ls.length - 1) rfl (by assumption) (small_one (by omega) (by omega) (by omega) (by omega)) (rsize (by omega)) (by k_asm) (by k_asm) (fun I lI => ?_)
    refine items_ind (fun i m nx => nx = [(x0, instObj 174 d0), (d0, dictOf [] 0)] ∧ m (Str.ofString "self") = some (.ref x0) ∧ m (Str.ofString "layers") = some (.ref lA)) ?turn2 ?done2 _ 0 _ _ rfl (Nat.zero_le _) trivial (fun p hp => Nat.ne_of_lt (lI p hp)) ⟨rfl, by first | rfl | assumption, by first | rfl | assumption⟩
    case turn2 =>
      intro i a v m nx h tk o ha _ hI hJ hav Fm ho Nn
      obtain ⟨rfl, hm1, hm2⟩ := hJ
      obtain ⟨hi, rfl⟩ := rangeItems_get ha
      obtain ⟨t9, rfl⟩ := hav
      obtain ⟨la, hla⟩ : ∃ la, ls[i]? = some la := ⟨ls[i]'(by omega), List.getElem?_eq_getElem (by omega)⟩
      obtain ⟨lb, hlb⟩ : ∃ lb, ls[i + 1]? = some lb := ⟨ls[i + 1]'(by omega), List.getElem?_eq_getElem (by omega)⟩
      have hfl := hf i la lb hla hlb
      obtain ⟨_, hva, Ta, a1, a2, ca, rfl, eA, _, ⟨Da, ta, ta', cA, rfl, eA2⟩⟩ := hv.at hla
      obtain ⟨_, hvb, Tb, b1, b2, cb, rfl, eB, _, ⟨Db, tb, tb', cB, rfl, eB2⟩⟩ := hv.at hlb
      have eA' := hT [] _ _ (.inl eA)
      have eB' := hT [] _ _ (.inl eB)
      have eA2' := hT [] _ _ (.inl eA2)
      have eB2' := hT [] _ _ (.inl eB2)
      have bA := hb2 _ (List.mem_of_getElem? hla)
      have bB := hb2 _ (List.mem_of_getElem? hlb)
      have hx1 : vs[(1 + (i : Int) - 1).toNat]? = some (Value.ref Ta) := at_of hva (by omega)
      have hx2 : vs[(1 + (i : Int)).toNat]? = some (Value.ref Tb) := at_of hvb (by omega)
      have hnl : ¬ la.2 < lb.2 := fun h => by grind
      have nI1 : x0 ≠ I := hI _ (List.mem_cons_self ..)
      have nI2 : d0 ≠ I := hI _ (List.mem_cons_of_mem _ (List.mem_cons_self ..))
      replace nI1 := neN nI1; replace nI2 := neN nI2
      clear hI
      k_steps
      unfold Hold
      exact unr_end [(x0, _), (d0, _)] (by k_asm) (by k_asm) (by k_mem) (two_of (by k_mem) (by k_mem)) (two_of nI1 nI2) ⟨trivial, rfl, by first | rfl | assumption, by first | rfl | assumption⟩
    case done2 =>
      intro m nx h tk hJ Fm Nn
      obtain ⟨rfl, hm1, hm2⟩ := hJ
      k_steps
      all_goals try (exfalso; omega)
      k_dflt (refine' joined_c (P := P) ?k1 ?k2 ?k3 ?k4 ?k5 ?k6 ?hP ?el ?hv ?hf ?hl ?k7 ?k8 ?_)
      case k1 => k_asm
      case k2 => k_asm
      case k3 => k_asm
      case k4 => k_asm
      case k5 => k_asm
      case k6 => first | exact rfl | assumption
      case k7 => ktr_room
      case k8 => ktr_units
      case hP => exact fun a o e => (hT [] a o (.inl e)).get (by k_asm) (by k_asm) fun _ h => nomatch h
      case el => exact el
      case hv => exact hv
      case hf => exact hf
      case hl => omega

      intro v9 tl9 h9 tk9 F9 N9 l9 L9
      simp only [List.cons_append, List.nil_append] at N9
      have n9x : ∀ q ∈ tl9, q.1 ≠ x0 := fun q hq e => l9 _ (List.mem_cons_self ..) q hq e.symm
      have n9d : ∀ q ∈ tl9, q.1 ≠ d0 := fun q hq e => l9 _ (List.mem_cons_of_mem _ (List.mem_cons_self ..)) q hq e.symm
      k_steps
      refine leaveN_ (by k_asm) (by k_asm) ?_; intro kF kN kR kD; dsimp only [InitBack]; refine ⟨rfl, ?_⟩
      exact hret x0 d0 _ v9 tl9 _ _ kF (news_cons kN (by k_mem) (news_cons kN (by k_mem) (news_app2 (fun p hp => kN p (((by intro p9 hp9; first | exact hp9 | exact absurd hp9 List.not_mem_nil | (repeat (first | exact hp9 | refine List.mem_cons_of_mem _ ?_))) : ∀ p ∈ tl9, p ∈ _) p hp)) fun p hp => kR p (rest_two l0 l00 hp)))) (neN (by walk_at "ne9")) (fun p hp => kD p (rest_two l0 l00 hp) _ (by k_mem : (_, instObj _ _) ∈ _)) (fun p hp => kD p (rest_two l0 l00 hp) _ (by k_mem : (_, tankD ..) ∈ _)) n9x n9d (fun p hp q hq => kD p (rest_two l0 l00 hp) q (((by intro p9 hp9; first | exact hp9 | exact absurd hp9 List.not_mem_nil | (repeat (first | exact hp9 | refine List.mem_cons_of_mem _ ?_))) : ∀ p ∈ tl9, p ∈ _) q hq)) L9
theorem mod_gen {prog : Program} {w : World} {A : Around} {E : Value → Shared → Prop} {s : Shared} {a n : Int} {t u : Tok} {Q : Value → Shared → Prop} (hn : 0 < n)
    (h : ∀ v : Int, 0 ≤ v → v < n → v = a.fmod n → Q (.int v s.toks) { s with toks := s.toks + 1 }) : wpAny (model prog w) A (binaryOp .Mod (.int a t) (.int n u)) Q E s := by
  have e : a.fmod n = a % n := Int.fmod_eq_emod_of_nonneg a (by omega)
  exact mod_int' (by omega) (h _ (by rw [e]; exact Int.emod_nonneg a (by omega)) (by rw [e]; exact Int.emod_lt_of_pos a hn) rfl)
inductive Final : Prop where
  | mk : Final
theorem good_true {cl : Str → Option Addr} {mean : ExcName → Option Value} {ns : List Int} {s₁ s' : Shared} {L : Addr} {m : Str → Option Value} (F : Fr s₁.heap L s'.heap m) (hg : s'.gens = #[]) (hos : s'.os = s₁.os) :
    GoodW PySem.Challenge.rw_ui0509_10.row.claim cl mean [ofPy (PyData.list (ns.map PyData.int))] s₁ (.ok (.ret (.bool true))) s' := by
  refine goodW_bool F hg (fun _ => rfl) (postW_of rfl ?_ rfl) hos
  first | (with_unfolding_all exact w_eq_bool (w_res rfl) w_lit) | rfl | simp [WTm.value] | wtm_val
-- a tracked list turned round
theorem rev_t {prog : Program} {w : World} {A : Around} {E : Value → Shared → Prop} {s : Shared} {h₀ : Heap} {L l : Addr} {m : Str → Option Value} {nx news : List (Addr × Obj)} {value slice : PySem.Expr} {vs : List Value} {n : Nat} {vk : Value} {ops : List Value} {Q : Value → Shared → Prop}
    (F : Fr h₀ L s.heap m) (N : News h₀ L s.heap news) (e : Tk h₀ nx l (listOf vs.toArray n)) (hsub : ∀ p ∈ nx, p ∈ news) (pk : IsPart vk (some (-1))) (hz : vs.length ≤ 10000)
    (h : ∀ D h', Fr h₀ L h' m → News h₀ L h' ((D, listOf vs.reverse.toArray 0) :: news) → (∀ p ∈ news, p.1 < D) → Q (.ref D) { s with heap := h' })
    (hs : subscripted slice false (.ref l) (.ref s.heap.objs.size) = operate ops (getItem (.ref l) (.ref s.heap.objs.size))) (ht : ∀ r, letTemporaryGo value (.ref l) r = pure ()) :
    wpAny (model prog w) A (subscriptTail value slice (.ref l) (.ref s.heap.objs.size)) Q E { s with heap := s.heap.push { cls := .type "slice", data := .fields #[.none, .none, vk] } } :=
  krv_lit (its := vs.toArray) (zs := vs.reverse) F N ⟨_, e.get F N hsub, rfl, n, rfl⟩ pk rfl h hs ht (by rw [sizeLine_eq]; simp; omega)
def heatF (b : Rat) (ls : List Lay) : Rat := tot (ls.map fun l => l.1 * (l.2 - b))
def cutO : List Lay → Rat → List Lay
  | [], _ => []
  | l :: ls, x => if x ≤ 0 then [] else if x < l.1 then [(x, l.2)] else l :: cutO ls (x - l.1)
def cutK : List Lay → Rat → List Lay
  | [], _ => []
  | l :: ls, x => if x ≤ 0 then l :: ls else if x < l.1 then (l.1 - x, l.2) :: ls else cutK ls (x - l.1)
theorem tot_acc (rs : List Rat) (a : Rat) : rs.foldl (· + ·) a = a + tot rs := by
  induction rs generalizing a with
  | nil => simp [tot]; grind
  | cons r rs ih => rw [tot, List.foldl_cons, List.foldl_cons, ih, ih (0 + r)]; grind
theorem tot_nil : tot [] = 0 := rfl
theorem tot_cons (r : Rat) (rs : List Rat) : tot (r :: rs) = r + tot rs := by rw [tot, List.foldl_cons, tot_acc]; grind
theorem tot_app (rs qs : List Rat) : tot (rs ++ qs) = tot rs + tot qs := by
  induction rs with
  | nil => simp [tot_nil]; grind
  | cons r rs ih => rw [List.cons_append, tot_cons, tot_cons, ih]; grind
theorem tot_rev (rs : List Rat) : tot rs.reverse = tot rs := by
  induction rs with
  | nil => rfl
  | cons r rs ih => rw [List.reverse_cons, tot_app, ih, tot_cons, tot_cons, tot_nil]; grind
theorem cut_zero (ls : List Lay) (hp : ∀ l ∈ ls, 0 < l.1) (o r : List Lay) : ls.foldl cutStep ⟨o, r, 0⟩ = ⟨o, r ++ ls, 0⟩ := by
  induction ls generalizing r with
  | nil => simp
  | cons l ls ih =>
    have h := hp l (List.mem_cons_self ..)
    have e : cutStep ⟨o, r, 0⟩ l = ⟨o, r ++ [l], 0⟩ := by
      have h1 : ¬ (0 : Rat) < 0 := Rat.lt_irrefl
      have h2 : l.1 - 0 = l.1 := by grind
      simp [cutStep, h, h2]
    rw [List.foldl_cons, e, ih (fun l hl => hp l (List.mem_cons_of_mem _ hl))]; simp
theorem cut_go (ls : List Lay) (hp : ∀ l ∈ ls, 0 < l.1) (o r : List Lay) (x : Rat) (hx : 0 ≤ x) : ∃ y, ls.foldl cutStep ⟨o, r, x⟩ = ⟨o ++ cutO ls x, r ++ cutK ls x, y⟩ := by
  induction ls generalizing o r x with
  | nil => exact ⟨x, by simp [cutO, cutK]⟩
  | cons l ls ih =>
    have h := hp l (List.mem_cons_self ..)
    have hp' := fun l hl => hp l (List.mem_cons_of_mem _ hl)
    by_cases h0 : x ≤ 0
    · have : x = 0 := by grind
      subst this
      refine ⟨0, ?_⟩
      rw [cut_zero _ hp]
      simp [cutO, cutK]
    · have hx0 : 0 < x := by grind
      by_cases h1 : x < l.1
      · refine ⟨0, ?_⟩
        have e : cutStep ⟨o, r, x⟩ l = ⟨o ++ [(x, l.2)], r ++ [(l.1 - x, l.2)], 0⟩ := by
          have : x - x = 0 := by grind
          simp [cutStep, h1, hx0, this]
        rw [List.foldl_cons, e, cut_zero _ hp']
        simp [cutO, cutK, h0, h1]
      · have e : cutStep ⟨o, r, x⟩ l = ⟨o ++ [l], r, x - l.1⟩ := by
          have : ¬ l.1 < l.1 := Rat.lt_irrefl
          simp [cutStep, h1, h, this]
        rw [List.foldl_cons, e]
        obtain ⟨y, hy⟩ := ih hp' (o ++ [l]) r (x - l.1) (by grind)
        exact ⟨y, by rw [hy]; simp [cutO, cutK, h0, h1]⟩
theorem cut_out {ls : List Lay} (hp : ∀ l ∈ ls, 0 < l.1) {x : Rat} (hx : 0 ≤ x) : (cutF ls x).out = cutO ls x := by
  obtain ⟨y, e⟩ := cut_go ls hp [] [] x hx
  rw [cutF, e]; simp
theorem cut_rest {ls : List Lay} (hp : ∀ l ∈ ls, 0 < l.1) {x : Rat} (hx : 0 ≤ x) : (cutF ls x).rest = cutK ls x := by
  obtain ⟨y, e⟩ := cut_go ls hp [] [] x hx
  rw [cutF, e]; simp
theorem cutO_tot {ls : List Lay} (hp : ∀ l ∈ ls, 0 < l.1) {x : Rat} (hx : 0 ≤ x) (hx1 : x ≤ tot (ls.map (·.1))) : tot ((cutO ls x).map (·.1)) = x := by
  induction ls generalizing x with
  | nil => rw [List.map_nil, tot_nil] at hx1; simp [cutO, tot_nil]; grind
  | cons l ls ih =>
    rw [List.map_cons, tot_cons] at hx1
    unfold cutO
    split
    · rw [List.map_nil, tot_nil]; grind
    · split
      · simp [tot_cons, tot_nil]; grind
      · rw [List.map_cons, tot_cons, ih (fun l hl => hp l (List.mem_cons_of_mem _ hl)) (by grind) (by grind)]; grind
theorem cut_sum {ls : List Lay} (f : Lay → Rat) (hf : ∀ a b w, f (a - b, w) = f (a, w) - f (b, w)) (x : Rat) : tot ((cutO ls x).map f) + tot ((cutK ls x).map f) = tot (ls.map f) := by
  induction ls generalizing x with
  | nil => simp [cutO, cutK, tot_nil]; grind
  | cons l ls ih =>
    unfold cutO cutK
    split
    · rw [List.map_nil, tot_nil]; grind
    · split
      · simp only [List.map_cons, List.map_nil, tot_cons, tot_nil, hf]; grind
      · rw [List.map_cons, List.map_cons, tot_cons, tot_cons]; have := ih (x - l.1); grind
theorem heat_sum {ls : List Lay} (b x : Rat) : heatF b (cutO ls x) + heatF b (cutK ls x) = heatF b ls :=
  cut_sum (fun l => l.1 * (l.2 - b)) (by intro a b w; grind) x
theorem lit_sum {ls : List Lay} (x : Rat) : tot ((cutO ls x).map (·.1)) + tot ((cutK ls x).map (·.1)) = tot (ls.map (·.1)) :=
  cut_sum (fun l => l.1) (by intro a b w; rfl) x
theorem cutK_pos {ls : List Lay} (hp : ∀ l ∈ ls, 0 < l.1) {x : Rat} : ∀ l ∈ cutK ls x, 0 < l.1 := by
  induction ls generalizing x with
  | nil => intro l hl; simp [cutK] at hl
  | cons a ls ih =>
    unfold cutK
    split
    · exact hp
    · split
      · intro l hl
        rcases List.mem_cons.mp hl with rfl | hl
        · show 0 < a.1 - x; grind
        · exact hp l (List.mem_cons_of_mem _ hl)
      · exact ih fun l hl => hp l (List.mem_cons_of_mem _ hl)
theorem cutO_warm {ls : List Lay} {p : Rat → Prop} (hp : ∀ l ∈ ls, p l.2) {x : Rat} : ∀ l ∈ cutO ls x, p l.2 := by
  induction ls generalizing x with
  | nil => intro l hl; simp [cutO] at hl
  | cons a ls ih =>
    unfold cutO
    split
    · intro l hl; simp at hl
    · split
      · intro l hl; rw [List.mem_singleton.mp hl]; exact hp a (List.mem_cons_self ..)
      · intro l hl
        rcases List.mem_cons.mp hl with rfl | hl
        · exact hp _ (List.mem_cons_self ..)
        · exact ih (fun l hl => hp l (List.mem_cons_of_mem _ hl)) l hl
theorem cutK_warm {ls : List Lay} {p : Rat → Prop} (hp : ∀ l ∈ ls, p l.2) {x : Rat} : ∀ l ∈ cutK ls x, p l.2 := by
  induction ls generalizing x with
  | nil => intro l hl; simp [cutK] at hl
  | cons a ls ih =>
    unfold cutK
    split
    · exact hp
    · split
      · intro l hl
        rcases List.mem_cons.mp hl with rfl | hl
        · exact hp a (List.mem_cons_self ..)
        · exact hp l (List.mem_cons_of_mem _ hl)
      · exact ih fun l hl => hp l (List.mem_cons_of_mem _ hl)
theorem cutO_pos {ls : List Lay} (hp : ∀ l ∈ ls, 0 < l.1) {x : Rat} : ∀ l ∈ cutO ls x, 0 < l.1 := by
  induction ls generalizing x with
  | nil => intro l hl; simp [cutO] at hl
  | cons a ls ih =>
    unfold cutO
    split
    · intro l hl; simp at hl
    · split
      · intro l hl; rw [List.mem_singleton.mp hl]; show 0 < x; grind
      · intro l hl
        rcases List.mem_cons.mp hl with rfl | hl
        · exact hp _ (List.mem_cons_self ..)
        · exact ih (fun l hl => hp l (List.mem_cons_of_mem _ hl)) l hl
-- falling: by pairs
def Desc : List Lay → Prop
  | [] => True
  | [_] => True
  | a :: b :: ls => b.2 < a.2 ∧ Desc (b :: ls)
theorem falls_desc {ls : List Lay} (h : Desc ls) : Falls ls := by
  induction ls with
  | nil => intro i a b ha; simp at ha
  | cons l ls ih =>
    intro i a b ha hb
    cases ls with
    | nil => simp at hb
    | cons k ls =>
      cases i with
      | zero =>
        simp at ha hb
        rw [← ha, ← hb]; exact h.1
      | succ i => exact ih h.2 i a b (by simpa using ha) (by simpa using hb)
theorem Desc.tail {l : Lay} {ls : List Lay} (h : Desc (l :: ls)) : Desc ls := by
  cases ls with
  | nil => trivial
  | cons _ _ => exact h.2
theorem Desc.lt {l : Lay} {ls : List Lay} (h : Desc (l :: ls)) : ∀ k ∈ ls, k.2 < l.2 := by
  induction ls generalizing l with
  | nil => intro k hk; simp at hk
  | cons a ls ih =>
    intro k hk
    rcases List.mem_cons.mp hk with rfl | hk
    · exact h.1
    · have := ih h.2 k hk
      have := h.1
      grind
theorem Desc.cons {l : Lay} {ls : List Lay} (h : Desc ls) (k : ∀ a ∈ ls, a.2 < l.2) : Desc (l :: ls) := by
  cases ls with
  | nil => trivial
  | cons a ls => exact ⟨k a (List.mem_cons_self ..), h⟩
theorem Desc.snoc {l : Lay} {ls : List Lay} (h : Desc ls) (k : ∀ a ∈ ls, l.2 < a.2) : Desc (ls ++ [l]) := by
  induction ls with
  | nil => trivial
  | cons a ls ih =>
    refine Desc.cons (ih h.tail fun b hb => k b (List.mem_cons_of_mem _ hb)) fun b hb => ?_
    rcases List.mem_append.mp hb with hb | hb
    · exact h.lt b hb
    · rw [List.mem_singleton.mp hb]; exact k a (List.mem_cons_self ..)
theorem Desc.sub {ls : List Lay} (h : Desc ls) (x : Rat) : Desc (cutK ls x) := by
  induction ls generalizing x with
  | nil => simp [cutK, Desc]
  | cons a ls ih =>
    unfold cutK
    split
    · exact h
    · split
      · exact Desc.cons h.tail h.lt
      · exact ih h.tail _
theorem Desc.init {l : Lay} {ls : List Lay} (h : Desc (ls ++ [l])) : Desc ls ∧ ∀ k ∈ ls, l.2 < k.2 := by
  induction ls with
  | nil => exact ⟨trivial, by simp⟩
  | cons a ls ih =>
    obtain ⟨h1, h2⟩ := ih h.tail
    refine ⟨Desc.cons h1 fun k hk => h.lt k (List.mem_append_left _ hk), fun k hk => ?_⟩
    rcases List.mem_cons.mp hk with rfl | hk
    · exact h.lt l (by simp)
    · exact h2 k hk
theorem Desc.rev_sub {ls : List Lay} (h : Desc ls.reverse) (x : Rat) : Desc (cutK ls x).reverse := by
  induction ls generalizing x with
  | nil => simp [cutK, Desc]
  | cons a ls ih =>
    rw [List.reverse_cons] at h
    obtain ⟨h1, h2⟩ := h.init
    unfold cutK
    split
    · rw [List.reverse_cons]; exact h
    · split
      · rw [List.reverse_cons]; exact h1.snoc h2
      · exact ih h1 _
-- heat drawn or charged: the least water
def sumG (g : Rat → Rat) (ls : List Lay) : Rat := tot (ls.map fun l => l.1 * g l.2)
def dfPart (g : Rat → Rat) (l : Lay) (r : Rat) : Rat := if r / g l.2 < l.1 then r / g l.2 else l.1
def dfL (g : Rat → Rat) : List Lay → Rat → Rat
  | [], _ => 0
  | l :: ls, r => if r = 0 then 0 else dfPart g l r + dfL g ls (r - dfPart g l r * g l.2)
def dfG (g : Rat → Rat) : List Lay → Rat → Rat
  | [], _ => 0
  | l :: ls, r => if r = 0 then 0 else dfPart g l r * g l.2 + dfG g ls (r - dfPart g l r * g l.2)
theorem dfPart_le {g : Rat → Rat} {l : Lay} {r : Rat} (hg : 0 < g l.2) (hl : 0 < l.1) (hr : 0 < r) : 0 < dfPart g l r ∧ dfPart g l r ≤ l.1 ∧ dfPart g l r * g l.2 ≤ r ∧ (dfPart g l r < l.1 → dfPart g l r * g l.2 = r) := by
  have e : r / g l.2 * g l.2 = r := by grind
  have hp : 0 < r / g l.2 := by rw [Rat.div_def]; exact Rat.mul_pos hr (Rat.inv_pos.mpr hg)
  unfold dfPart
  split
  · refine ⟨hp, by grind, by grind, fun _ => e⟩
  · rename_i h
    refine ⟨hl, by grind, ?_, fun h => absurd h Rat.lt_irrefl⟩
    have h1 : l.1 ≤ r / g l.2 := by grind
    have h2 := Rat.mul_le_mul_of_nonneg_right h1 (Rat.le_of_lt hg)
    grind
theorem dfL_zero (g : Rat → Rat) (ls : List Lay) : dfL g ls 0 = 0 := by cases ls <;> simp [dfL]
theorem dfG_zero (g : Rat → Rat) (ls : List Lay) : dfG g ls 0 = 0 := by cases ls <;> simp [dfG]
theorem sumG_cons (g : Rat → Rat) (l : Lay) (ls : List Lay) : sumG g (l :: ls) = l.1 * g l.2 + sumG g ls := by rw [sumG, List.map_cons, tot_cons]; rfl
theorem sumG_nonneg {g : Rat → Rat} {ls : List Lay} (hp : ∀ l ∈ ls, 0 < l.1) (hg : ∀ l ∈ ls, 0 < g l.2) : 0 ≤ sumG g ls := by
  induction ls with
  | nil => exact Rat.le_refl
  | cons l ls ih =>
    rw [sumG_cons]
    have := ih (fun l hl => hp l (List.mem_cons_of_mem _ hl)) (fun l hl => hg l (List.mem_cons_of_mem _ hl))
    have := Rat.mul_pos (hp l (List.mem_cons_self ..)) (hg l (List.mem_cons_self ..))
    grind
theorem df_main {g : Rat → Rat} {ls : List Lay} (hp : ∀ l ∈ ls, 0 < l.1) (hg : ∀ l ∈ ls, 0 < g l.2) {r : Rat} (hr : 0 ≤ r) :
    0 ≤ dfL g ls r ∧ dfL g ls r ≤ tot (ls.map (·.1)) ∧ dfG g ls r = (if sumG g ls < r then sumG g ls else r) ∧ sumG g (cutO ls (dfL g ls r)) = dfG g ls r ∧ (0 < r → ls ≠ [] → 0 < dfL g ls r) := by
  induction ls generalizing r with
  | nil => simp [dfL, dfG, sumG, cutO, tot_nil]; grind
  | cons l ls ih =>
    have hl := hp l (List.mem_cons_self ..)
    have hgl := hg l (List.mem_cons_self ..)
    have hp' := fun k hk => hp k (List.mem_cons_of_mem _ hk)
    have hg' := fun k hk => hg k (List.mem_cons_of_mem _ hk)
    have hs := sumG_nonneg hp' hg'
    have hm := Rat.mul_pos hl hgl
    have ht := (ih hp' hg' (r := 0) Rat.le_refl)
    by_cases h0 : r = 0
    · subst h0
      rw [dfL_zero, dfG_zero]
      rw [dfL_zero, dfG_zero] at ht
      refine ⟨Rat.le_refl, ?_, ?_, ?_, fun h => absurd h Rat.lt_irrefl⟩
      · rw [List.map_cons, tot_cons]; grind
      · rw [sumG_cons]; split <;> grind
      · simp [cutO, sumG, tot_nil]
    · have hr0 : 0 < r := by grind
      obtain ⟨h1, h2, h3, h4⟩ := dfPart_le hgl hl hr0
      rw [dfL, dfG, if_neg h0, if_neg h0, sumG_cons, List.map_cons, tot_cons]
      generalize hq : dfPart g l r = q at *
      by_cases hlt : q < l.1
      · have e := h4 hlt
        have e2 : r - q * g l.2 = 0 := by grind
        rw [e2, dfL_zero, dfG_zero]
        rw [dfL_zero, dfG_zero] at ht
        have e3 : q + 0 = q := by grind
        rw [e3, e]
        have hmul := Rat.mul_lt_mul_of_pos_right hlt hgl
        refine ⟨by grind, by grind, ?_, ?_, fun _ _ => h1⟩
        · rw [if_neg (by grind)]; grind
        · have n1 : ¬ q ≤ 0 := by grind
          simp [cutO, n1, hlt, sumG, tot_cons, tot_nil]; grind
      · have e : q = l.1 := by grind
        subst e
        obtain ⟨i1, i2, i3, i4, _⟩ := ih hp' hg' (r := r - l.1 * g l.2) (by grind)
        refine ⟨by grind, by grind, ?_, ?_, fun _ _ => by grind⟩
        · rw [i3]; split <;> split <;> grind
        · have n1 : ¬ l.1 + dfL g ls (r - l.1 * g l.2) ≤ 0 := by grind
          have n2 : ¬ l.1 + dfL g ls (r - l.1 * g l.2) < l.1 := by grind
          have e9 : l.1 + dfL g ls (r - l.1 * g l.2) - l.1 = dfL g ls (r - l.1 * g l.2) := by grind
          rw [cutO, if_neg n1, if_neg n2, sumG_cons, e9, i4]
theorem dfG_snoc (g : Rat → Rat) (ls : List Lay) (l : Lay) (r : Rat) : dfG g (ls ++ [l]) r = (if r - dfG g ls r = 0 then dfG g ls r else dfG g ls r + dfPart g l (r - dfG g ls r) * g l.2) := by
  induction ls generalizing r with
  | nil =>
    have e : r - 0 = r := by grind
    simp only [List.nil_append, dfG, e]
    split <;> grind
  | cons a ls ih =>
    rw [List.cons_append, dfG, dfG]
    by_cases h0 : r = 0
    · subst h0; simp; intro h; exact absurd (by grind) h
    · rw [if_neg h0, if_neg h0, ih]
      have e : r - (dfPart g a r * g a.2 + dfG g ls (r - dfPart g a r * g a.2)) = r - dfPart g a r * g a.2 - dfG g ls (r - dfPart g a r * g a.2) := by grind
      rw [e]
      split <;> grind
theorem dfL_snoc (g : Rat → Rat) (ls : List Lay) (l : Lay) (r : Rat) : dfL g (ls ++ [l]) r = (if r - dfG g ls r = 0 then dfL g ls r else dfL g ls r + dfPart g l (r - dfG g ls r)) := by
  induction ls generalizing r with
  | nil =>
    have e : r - 0 = r := by grind
    simp only [List.nil_append, dfG, dfL, e]
    split <;> grind
  | cons a ls ih =>
    rw [List.cons_append, dfL, dfL, dfG]
    by_cases h0 : r = 0
    · subst h0; simp; intro h; exact absurd (by grind) h
    · rw [if_neg h0, if_neg h0, if_neg h0, ih]
      have e : r - (dfPart g a r * g a.2 + dfG g ls (r - dfPart g a r * g a.2)) = r - dfPart g a r * g a.2 - dfG g ls (r - dfPart g a r * g a.2) := by grind
      rw [e]
      split <;> grind
-- numbers of a grid
def Gr (c : Int) (x : Rat) : Prop := ∃ a : Int, x = (a : Rat) / (c : Rat)
theorem Gr.int {c : Int} (hc : 0 < c) (n : Int) : Gr c (n : Rat) := ⟨n * c, by
  have : (c : Rat) ≠ 0 := fun h => by have e : c = 0 := Rat.intCast_inj.mp h; omega
  rw [Rat.intCast_mul]; grind⟩
theorem Gr.sub {c : Int} {x y : Rat} (h : Gr c x) (k : Gr c y) : Gr c (x - y) := by
  obtain ⟨a, rfl⟩ := h; obtain ⟨b, rfl⟩ := k
  exact ⟨a - b, by rw [Rat.intCast_sub]; grind⟩
theorem Gr.add {c : Int} {x y : Rat} (h : Gr c x) (k : Gr c y) : Gr c (x + y) := by
  obtain ⟨a, rfl⟩ := h; obtain ⟨b, rfl⟩ := k
  exact ⟨a + b, by rw [Rat.intCast_add]; grind⟩
def Gb (c : Int) (m x : Rat) : Prop := Gr c x ∧ 0 ≤ x ∧ x ≤ m
theorem cutO_gb {c : Int} {m : Rat} {ls : List Lay} (hp : ∀ l ∈ ls, Gb c m l.1) {x : Rat} (hx : Gr c x) : ∀ l ∈ cutO ls x, Gb c m l.1 := by
  induction ls generalizing x with
  | nil => intro l hl; simp [cutO] at hl
  | cons a ls ih =>
    have ha := hp a (List.mem_cons_self ..)
    unfold cutO
    split
    · intro l hl; simp at hl
    · split
      · intro l hl; rw [List.mem_singleton.mp hl]; exact ⟨hx, by show 0 ≤ x; grind, by show x ≤ m; have := ha.2.2; grind⟩
      · intro l hl
        rcases List.mem_cons.mp hl with rfl | hl
        · exact ha
        · exact ih (fun l hl => hp l (List.mem_cons_of_mem _ hl)) (hx.sub ha.1) l hl
theorem cutK_gb {c : Int} {m : Rat} {ls : List Lay} (hp : ∀ l ∈ ls, Gb c m l.1) {x : Rat} (hx : Gr c x) : ∀ l ∈ cutK ls x, Gb c m l.1 := by
  induction ls generalizing x with
  | nil => intro l hl; simp [cutK] at hl
  | cons a ls ih =>
    have ha := hp a (List.mem_cons_self ..)
    unfold cutK
    split
    · exact hp
    · split
      · intro l hl
        rcases List.mem_cons.mp hl with rfl | hl
        · exact ⟨ha.1.sub hx, by show 0 ≤ a.1 - x; grind, by show a.1 - x ≤ m; have := ha.2.2; grind⟩
        · exact hp l (List.mem_cons_of_mem _ hl)
      · exact ih (fun l hl => hp l (List.mem_cons_of_mem _ hl)) (hx.sub ha.1)
theorem Gr.zero {c : Int} : Gr c 0 := ⟨0, by show (0 : Rat) = (0 : Rat) / _; grind⟩
theorem dfL_gr {g : Rat → Rat} {ls : List Lay} (hi : ∀ l ∈ ls, ∃ a : Int, l.1 = (a : Rat)) (hp : ∀ l ∈ ls, 0 < l.1) (hg : ∀ l ∈ ls, ∃ k : Int, g l.2 = (k : Rat) ∧ 1 ≤ k ∧ k ≤ 100) {r : Rat} (hr : Gr 2 r) (h0 : 0 ≤ r) : ∃ c : Int, 0 < c ∧ c ≤ 200 ∧ Gr c (dfL g ls r) := by
  induction ls generalizing r with
  | nil => exact ⟨1, by decide, by decide, Gr.zero⟩
  | cons l ls ih =>
    obtain ⟨a, ea⟩ := hi l (List.mem_cons_self ..)
    obtain ⟨k, ek, k1, k2⟩ := hg l (List.mem_cons_self ..)
    have hl := hp l (List.mem_cons_self ..)
    have hk : (0 : Rat) < (k : Rat) := Rat.intCast_lt_intCast.mpr (by omega : (0 : Int) < k)
    rw [dfL]
    by_cases hr0 : r = 0
    · rw [if_pos hr0]; exact ⟨1, by decide, by decide, Gr.zero⟩
    · rw [if_neg hr0]
      have hr1 : 0 < r := by grind
      obtain ⟨p1, p2, p3, p4⟩ := dfPart_le (g := g) (l := l) (by rw [ek]; exact hk) hl hr1
      by_cases hlt : dfPart g l r < l.1
      · have e := p4 hlt
        rw [e, show r - r = 0 by grind, dfL_zero, show dfPart g l r + 0 = dfPart g l r by grind]
        obtain ⟨n, en⟩ := hr
        refine ⟨2 * k, by omega, by omega, n, ?_⟩
        rw [ek] at e
        rw [Rat.intCast_mul]
        have : (k : Rat) ≠ 0 := by grind
        have e2 : dfPart g l r = r / k := by rw [← e]; grind
        rw [e2, en]
        have : ((2 : Int) : Rat) = 2 := rfl
        grind
      · have e : dfPart g l r = l.1 := by grind
        rw [e]
        rw [e] at p3
        obtain ⟨c, c1, c2, c3⟩ := ih (fun l hl => hi l (List.mem_cons_of_mem _ hl)) (fun l hl => hp l (List.mem_cons_of_mem _ hl)) (fun l hl => hg l (List.mem_cons_of_mem _ hl)) (r := r - l.1 * g l.2) (by
          rw [ea, ek, ← Rat.intCast_mul]; exact hr.sub (Gr.int (by decide) _)) (by grind)
        refine ⟨c, c1, c2, ?_⟩
        have h9 := Gr.int c1 a
        rw [← ea] at h9
        exact h9.add c3
theorem sumG_gr {g : Rat → Rat} {ls : List Lay} (hi : ∀ l ∈ ls, ∃ a : Int, l.1 = (a : Rat)) (hg : ∀ l ∈ ls, ∃ k : Int, g l.2 = (k : Rat)) : Gr 2 (sumG g ls) := by
  induction ls with
  | nil => exact Gr.zero
  | cons l ls ih =>
    rw [sumG_cons]
    obtain ⟨a, ea⟩ := hi l (List.mem_cons_self ..)
    obtain ⟨k, ek⟩ := hg l (List.mem_cons_self ..)
    rw [ea, ek, ← Rat.intCast_mul]
    exact (Gr.int (by decide) _).add (ih (fun l hl => hi l (List.mem_cons_of_mem _ hl)) (fun l hl => hg l (List.mem_cons_of_mem _ hl)))
theorem dfG_app (g : Rat → Rat) (as bs : List Lay) (r : Rat) : dfG g (as ++ bs) r = dfG g as r + dfG g bs (r - dfG g as r) := by
  induction as generalizing r with
  | nil => simp only [List.nil_append, dfG]; rw [show r - 0 = r by grind]; grind
  | cons a as ih =>
    rw [List.cons_append, dfG, dfG]
    by_cases h0 : r = 0
    · subst h0; simp only [if_true]; rw [show (0 : Rat) - 0 = 0 by grind, dfG_zero]; grind
    · rw [if_neg h0, if_neg h0, ih]
      have e : r - (dfPart g a r * g a.2 + dfG g as (r - dfPart g a r * g a.2)) = r - dfPart g a r * g a.2 - dfG g as (r - dfPart g a r * g a.2) := by grind
      rw [e]; grind
theorem dfL_app (g : Rat → Rat) (as bs : List Lay) (r : Rat) : dfL g (as ++ bs) r = dfL g as r + dfL g bs (r - dfG g as r) := by
  induction as generalizing r with
  | nil => simp only [List.nil_append, dfG, dfL]; rw [show r - 0 = r by grind]; grind
  | cons a as ih =>
    rw [List.cons_append, dfL, dfL, dfG]
    by_cases h0 : r = 0
    · subst h0; simp only [if_true]; rw [show (0 : Rat) - 0 = 0 by grind, dfL_zero]; grind
    · rw [if_neg h0, if_neg h0, if_neg h0, ih]
      have e : r - (dfPart g a r * g a.2 + dfG g as (r - dfPart g a r * g a.2)) = r - dfPart g a r * g a.2 - dfG g as (r - dfPart g a r * g a.2) := by grind
      rw [e]; grind
theorem df_stop {g : Rat → Rat} {ls : List Lay} {i : Nat} {r : Rat} (h : dfG g (ls.take i) r = r) : dfL g ls r = dfL g (ls.take i) r ∧ dfG g ls r = dfG g (ls.take i) r := by
  have e1 := dfL_app g (ls.take i) (ls.drop i) r
  have e2 := dfG_app g (ls.take i) (ls.drop i) r
  rw [List.take_append_drop, h, show r - r = 0 by grind] at e1 e2
  rw [dfL_zero] at e1
  rw [dfG_zero] at e2
  exact ⟨by grind, by grind⟩
theorem df_step {g : Rat → Rat} {ls : List Lay} {i : Nat} {l : Lay} {r : Rat} (hl : ls[i]? = some l) (h : dfG g (ls.take i) r ≠ r) :
    dfL g (ls.take (i + 1)) r = dfL g (ls.take i) r + dfPart g l (r - dfG g (ls.take i) r) ∧ dfG g (ls.take (i + 1)) r = dfG g (ls.take i) r + dfPart g l (r - dfG g (ls.take i) r) * g l.2 := by
  have hn : ¬ r - dfG g (ls.take i) r = 0 := by grind
  have e : ls.take (i + 1) = ls.take i ++ [l] := by rw [List.take_add_one, hl]; rfl
  rw [e, dfL_snoc, dfG_snoc, if_neg hn, if_neg hn]
  exact ⟨rfl, rfl⟩
-- the ledger as what is told
abbrev Led (led : List (Addr × Obj)) (a : Addr) (o : Obj) : Prop := (a, o) ∈ led
theorem ratL {led : List (Addr × Obj)} {D : Addr} {x : Int} {t t' : Tok} {c : Nat} (h : (D, T2 x 1 t t' c) ∈ led) : RatN (Led led) (.ref D) (x : Rat) := ⟨D, t, t', c, rfl, h⟩
theorem layL {led : List (Addr × Obj)} {D : Addr} {v1 v2 : Value} {c : Nat} {x y : Rat} (h : (D, pairO v1 v2 c) ∈ led) (a : RatN (Led led) v1 x) (b : RatN (Led led) v2 y) : LayN (Led led) (.ref D) (x, y) := ⟨D, v1, v2, c, rfl, h, a, b⟩
theorem ledG {h₀ h : Heap} {L : Addr} {led all : List (Addr × Obj)} (N : News h₀ L h all) (hs : ∀ p ∈ led, p ∈ all) : ∀ a o, Led led a o → h.get? a = some o := fun _ _ e => N.get (hs _ e)
theorem ptL {led tl all : List (Addr × Obj)} (h1 : ∀ p ∈ led, p ∈ all) (h2 : ∀ p ∈ tl, p ∈ all) : ∀ a o, PT (Led led) tl a o → Led all a o := fun _ _ e => e.elim (h1 _) (h2 _)
theorem bd64 {x : Int} (h : -(2 ^ 62) ≤ x) (h' : x < 2 ^ 62) : Bd 64 (x : Rat) := Bd.int (PySem.intBits_le_64 (by omega) (by omega)) (by decide)
theorem comp_indP {prog : Program} {w : World} {A : Around} {s : Shared} {h₀ : Heap} {L : Addr} {m : Str → Option Value} {env : Env} {elt : Expr} {x x₂ : Str} {scope : Scope} {cl : List (Str × Addr)} {S : List (Addr × Obj) → Prop} {Pv : Nat → Value → Prop} {Fin : List Value → List (Addr × Obj) → Prop} {n : Nat} (J : Nat → List Value → List (Addr × Obj) → Prop)
    (turn : ∀ i v ys news, i < n → J i ys news → Pv i v → ∃ (t : Addr) (ot : Obj) (v₁ v₂ : Value) (nt : Nat), v = .ref t ∧ (t, ot) ∈ news ∧ ot.cls = .type "tuple" ∧ ot.data = .seq #[v₁, v₂] nt ∧
      ∀ I oI C oC D m₂ h tk (E' : Value → Shared → Prop), LCg.NsObj oC m₂ → m₂ x = some v₁ → m₂ x₂ = some v₂ → Fr h₀ L h m → News h₀ L h ((I, oI) :: (C, oC) :: (D, LCg.lst ys) :: news) → LCg.Off3 I C D news → ((@Ne Nat I C) ∧ (@Ne Nat I D) ∧ (@Ne Nat C D)) →
      wpAny (model prog w) A (eval elt (compEnvC scope cl C env)) (LCg.CompEnd h₀ L m { s with heap := h, toks := tk } I oI C oC D (LCg.lst ys) S (fun y news' => J (i + 1) (ys ++ [y]) news')) E' { s with heap := h, toks := tk })
    (fin : ∀ ys news, J n ys news → Fin ys news) :
    ∀ k i ys news, i + k = n → J i ys news → LCp.CompRestP prog w A h₀ L m env elt x x₂ scope cl s S Pv Fin k i ys news := by
  intro k
  induction k with
  | zero =>
    intro i ys news hk hJ
    have : i = n := by omega
    subst this
    exact LCp.CompRestP.zero (fin ys news hJ)
  | succ k ih =>
    intro i ys news hk hJ
    refine LCp.CompRestP.succ fun v hP => ?_
    obtain ⟨t, ot, v1, v2, nt, e1, e2, e3, e4, r⟩ := turn i v ys news (by omega) hJ hP
    refine ⟨t, ot, v1, v2, nt, e1, e2, e3, e4, fun I oI C oC D m₂ h tk E' hC hx hy F N off ne => ?_⟩
    refine wpAny_mono (r I oI C oC D m₂ h tk E' hC hx hy F N off ne) (fun y s₂ h₂ => ?_) fun _ _ e => e
    obtain ⟨h', tk', news', e, F', N', off', hS, r⟩ := h₂
    exact ⟨h', tk', news', e, F', N', off', hS, ih (i + 1) (ys ++ [y]) news' (by omega) r⟩
theorem not_mapW {W : List (Addr × Obj)} {x : Addr} (h : ∀ p ∈ W, p.1 ≠ x) : x ∉ W.map (·.1) := fun k => by
  obtain ⟨p, hp, e⟩ := List.mem_map.mp k
  exact h p hp e
theorem neW {news W full : List (Addr × Obj)} {q : Addr × Obj} (kD : ∀ p ∈ restOf news W, ∀ q ∈ full, p.1 ≠ q.1) (hq : q ∈ full) (hw : ∀ p ∈ W, p.1 ≠ q.1) : ∀ p ∈ news, p.1 ≠ q.1 := by
  intro p hp
  by_cases h : p.1 ∈ W.map (·.1)
  · obtain ⟨r, hr, e⟩ := List.mem_map.mp h
    rw [← e]; exact hw r hr
  · exact kD p (mem_rest hp h) q hq
theorem tot_heat (b : Rat) (ls : List Lay) : tot (ls.map fun l => l.1 * (l.2 - b)) = heatF b ls := rfl
local macro_rules | `(tactic| walk_at "h7") => `(tactic| (k_here; (with_reducible show wpAny _ _ (call (Value.ref 72) [Value.ref _, Value.ref _]) _ _ _)))
local macro_rules | `(tactic| walk_at "call ref") => `(tactic| (walk_at "h7"; k_dflt (refine' times_r ?k1 ?k2 ?k3 ?k4 ?k5 ?k6 ?m1 ?m2 ?k7 ?k8 ?b1 ?b2 ?hb ?_; (case k1 | k2 | k3 | k4 | k5 => k_asm); (case k6 => walk_at "t1"); (case k7 => walk_at "t3"); (case k8 => walk_at "t2"); (case m1 | m2 => (walk_at "hat9")); (case b1 | b2 => walk_at "t0"); (case hb => walk_at "t4"); k_whole); intro D' t' u' c' h' tk' bD' F' N' l1; (try (replace l1 := allNe_of l1; simp only [AllNe, and_true] at l1)); (try k_sweep)))
local macro_rules | `(tactic| walk_at "eval Name") => `(tactic| (k_here; k_dflt (refine' nameX_L ?k1 ?k2 ?_ ?k3 ?k4; (case k1 => k_asm); (case k2 => walk_at "t1"); (case k3 | k4 => rfl); k_whole)))
local macro_rules | `(tactic| walk_at "eval ListComp") => `(tactic| (k_here; lcp_look; lcg_calm; k_dflt (refine LCp.ListComp_P (F₀ := by k_asm) (by with_unfolding_all rfl) (by decide) (by rfl) (by decide) (by rfl) (by rfl) (by decide) ?_); k_dflt lcp_toSrc))
local macro_rules | `(tactic| walk_at "SrcLP") => `(tactic| (refine Hold.out ?_))
theorem heat_c {w : World} {p : Program} {loose : List Str} {mean : ExcName → Option Value} {mg mb : Str → Option Value} {dp un : Nat} {gd : Option (List Code)} {cn : Str} {cs : Scope} {a : Addr} {ccd : Value} {cl : List (Str × Addr)} {outer : List Env} {A₀ : Around} {base h₀ : Heap} {L : Addr} {m : Str → Option Value} {news : List (Addr × Obj)} {s : Shared} {Q E : Value → Shared → Prop} {W : List (Addr × Obj)} {x d l0 : Addr} {k1 : Tok} {vs : List Value} {ls : List Lay} {n0 b : Nat} {Db : Addr} {rb : Rat} {tb tb' : Tok} {cb : Nat}
    (B : Below A₀ base outer h₀) (F : Fr h₀ L s.heap m) (X : (HD.K w.params).In h₀) (N : News h₀ L s.heap news) (T : Top p loose mean mg mb h₀) (hk : cs.kind = .function) (hW : ∀ p ∈ W, p ∈ news) (hgx : s.heap.get? x = some (instObj 174 d)) (hgd : s.heap.get? d = some (tankD w.params k1 (.ref l0))) (hWx : ∀ p ∈ W, p.1 ≠ x) (hWd : ∀ p ∈ W, p.1 ≠ d) (el : (l0, listOf vs.toArray n0) ∈ W) (hv : All2 (LayN (Led W)) vs ls) (hne : ls ≠ []) (hb : ∀ l ∈ ls, Bd b l.1) (hb2 : ∀ l ∈ ls, Bd b l.2) (eb : (Db, RatO rb tb tb' cb) ∈ W) (hbb : Bd b rb) (hll : ls.length ≤ 20) (hbs : b ≤ 100)
    (hd : dp + 12 < recursionLimit) (hu : un + 400 < cLine)
    (hret : ∀ (D : Addr) (t t' : Tok) (c : Nat) (h' : Heap) (tk' : Nat), Bd (ls.length * (3 * b + 1 + 1) + 1) (heatF rb ls) → Fr h₀ L h' m → News h₀ L h' ((D, RatO (heatF rb ls) t t' c) :: news) → (∀ p ∈ news, p.1 ≠ D) → Q (.ref D) { s with heap := h', toks := tk' }) :
    wpAny (model PySem.Challenge.rw_ui0509_10.row.prog w) (ktrTop dp un gd cn cs L a ccd cl outer) (call (.ref 136) [.ref x, .ref Db]) Q E s := by
  w_top off
  revert X; k_fill; intro X
  refine wpAny_call ?_
  k_dflt (refine' code_needC W ?k1 ?k2 ?k3 ?k4 ?k5 ?kA ?kF ?kK ?k6 ?k7 ?k8 ?k9 ?kB ?kD ?kN ?_ ?c2 ?c3 ?c4; (case kA => exact rfl); (case kF => exact rfl); (case kK => assumption); (case k1 => k_asm); (case k2 => k_asm); (case k3 => k_asm); (case k4 => k_asm); (case k5 => k_asm); (case k6 => k_is); (case k7 => k_is); (case k8 => ktr_room); (case k9 => first | exact BindsTo.of_eq rfl | exact binds_K (by k_in) rfl (by k_is) rfl rfl rfl); (case kB => exact rfl); (case kD => decide +kernel); (case kN => exact hW); (case c2 => exact rfl); (case c3 => exact rfl); (case c4 => exact rfl); k_whole; intro g' L' h' tk0 cells' FG' F' N' Y' B' X' T' l1 hG')
  obtain ⟨o1, rfl, q1⟩ := CellsAre.one Y'
  clear Y'
  (try simp only [List.cons_append, List.nil_append] at N')
  (try dsimp only); (try k_fold)
  replace hgx := hG' _ _ hgx (not_mapW hWx)
  replace hgd := hG' _ _ hgd (not_mapW hWd)
  replace q1 : o1.data = .cell (some (.ref Db)) := q1
  k_steps
  unfold Hold
  refine LCp.SrcLP.ledger rfl (by k_asm) (by k_asm) (List.mem_cons_of_mem _ el) (by rw [List.size_toArray, hv.length, sizeLine_eq]; omega) (fun g9 => ?_)
  refine comp_indP (fun i ys nx => ∃ tl, nx = (L' + 1, o1) :: tl ∧ (∀ p ∈ W, p ∈ tl) ∧ All2 (RatN (Led tl)) ys ((ls.map fun l : Lay => l.1 * (l.2 - rb)).take i) ∧ ∀ r ∈ (ls.map fun l : Lay => l.1 * (l.2 - rb)).take i, Bd (3 * b + 1) r) ?turn ?fin _ 0 [] _ (Nat.zero_add _) ⟨W, rfl, fun _ h => h, .nil, fun r hr => nomatch hr⟩
  case turn =>
    intro i v ys nx hi hJ hPv
    obtain ⟨tl, rfl, hWt, hys, hbr⟩ := hJ
    have hvi : vs[i]? = some v := by simpa using hPv
    obtain ⟨⟨sz, wm⟩, hl, D, v1, v2, c, rfl, eD, ⟨D1, t1, t1', c1, rfl, e1⟩, ⟨D2, t2, t2', c2, rfl, e2⟩⟩ := hv.get hvi
    refine ⟨D, _, _, _, _, rfl, List.mem_cons_of_mem _ (hWt _ eD), rfl, rfl, ?_⟩
    intro I oI C oC D9 m2 h tk E' hC hx hy Fm Nn off ne
    have e1' : Tk g' tl D1 (RatO sz t1 t1' c1) := .inl (hWt _ e1)
    have e2' : Tk g' tl D2 (RatO wm t2 t2' c2) := .inl (hWt _ e2)
    have eb' : Tk g' tl Db (RatO rb tb tb' cb) := .inl (hWt _ eb)
    have bS := hb _ (List.mem_of_getElem? hl)
    have bW := hb2 _ (List.mem_of_getElem? hl)
    dsimp only at bS bW
    have hstep := map_take_snoc (f := fun l : Lay => l.1 * (l.2 - rb)) hl
    have off' := off
    simp only [LCg.Off3, and_assoc] at off'
    k_steps
    unfold Hold
    rename_i Dn tn un' cn' hn' tkn bn Fn Nn2 ln
    exact comp_end Fn Nn2 ((L' + 1, o1) :: (Dn, RatO (sz * (wm - rb)) tn un' cn') :: tl) (List.forall_mem_cons.mpr ⟨by k_mem, List.forall_mem_cons.mpr ⟨by k_mem, List.forall_mem_cons.mpr ⟨by k_mem, List.forall_mem_cons.mpr ⟨by k_mem, List.forall_mem_cons.mpr ⟨by k_mem, (by intro p9 hp9; first | ((repeat (first | exact hp9 | exact List.mem_append_left _ hp9 | exact List.mem_append_right _ hp9 | refine List.mem_cons_of_mem _ ?_)); done) | (simp only [List.mem_cons, List.mem_append]; simp only [hp9, true_or, or_true]))⟩⟩⟩⟩⟩) ⟨off.1, ⟨neN (by walk_at "ne9"), neN (by walk_at "ne9"), neN (by walk_at "ne9")⟩, off.2⟩ (.inr ⟨_, List.mem_cons_of_mem _ (List.mem_cons_of_mem _ (hWt _ el)), rfl, _, rfl⟩) ⟨(Dn, RatO (sz * (wm - rb)) tn un' cn') :: tl, rfl, fun p hp => List.mem_cons_of_mem _ (hWt p hp), by rw [hstep]; exact (hys.mono fun _ _ y => y.mono fun _ _ e => List.mem_cons_of_mem _ e).snoc (rat_new (List.mem_cons_self ..)), by rw [hstep]; exact List.forall_mem_append.mpr ⟨hbr, fun r hr => by rw [List.mem_singleton.mp hr]; exact bn.mono (by omega)⟩⟩
  case fin =>
    intro ys nx hJ D h tk Fm Nn off
    obtain ⟨tl, rfl, hWt, hys, hbr⟩ := hJ
    rw [List.size_toArray, hv.length, ← List.length_map (f := fun l : Lay => l.1 * (l.2 - rb)), List.take_length] at hys hbr
    k_steps
    k_dflt (refine' total_c (rs := ls.map fun l : Lay => l.1 * (l.2 - rb)) (b := 3 * b + 1) ?k1 ?k2 ?k3 ?k4 ?k5 ?k6 ?el ?hv ?hne ?hbq ?hlen ?k7 ?k8 ?_)
    case k1 => k_asm
    case k2 => k_asm
    case k3 => k_asm
    case k4 => k_asm
    case k5 => k_asm
    case k6 => first | exact rfl | assumption
    case k7 => ktr_room
    case k8 => ktr_units
    case el => exact News.get Nn (List.mem_cons_self ..)
    case hv => exact hys.mono fun v r y => y.heap fun a o e => Nn.get (((by intro p9 hp9; first | ((repeat (first | exact hp9 | exact List.mem_append_left _ hp9 | exact List.mem_append_right _ hp9 | refine List.mem_cons_of_mem _ ?_)); done) | (simp only [List.mem_cons, List.mem_append]; simp only [hp9, true_or, or_true])) : ∀ p ∈ tl, p ∈ _) _ e)
    case hne => simpa using hne
    case hbq => exact hbr
    case hlen => rw [List.length_map]; exact Nat.le_trans (Nat.add_le_add_right (Nat.mul_le_mul hll (show 3 * b + 1 + 1 ≤ 302 by omega)) 1) (by decide)

    intro D5 t5 u5 c5 h5 tk5 b5 F5 N5 l5
    have l5' := l5
    rw [List.length_map] at b5
    k_steps
    try dsimp only
    refine leaveN_ (by k_asm) (by k_asm) ?_; intro kF kN kR kD; (try dsimp only)
    exact hret _ _ _ _ _ _ b5 kF (news_cons kN (by k_mem) (news_back N hW kN (fun p hp => ((by intro p9 hp9; first | ((repeat (first | exact hp9 | exact List.mem_append_left _ hp9 | exact List.mem_append_right _ hp9 | refine List.mem_cons_of_mem _ ?_)); done) | (simp only [List.mem_cons, List.mem_append]; simp only [hp9, true_or, or_true])) : ∀ p ∈ tl, p ∈ _) p (hWt p hp)) kR)) (neW kD (by k_mem : (D5, _) ∈ _) fun p hp => l5' p (((by intro p9 hp9; first | ((repeat (first | exact hp9 | exact List.mem_append_left _ hp9 | exact List.mem_append_right _ hp9 | refine List.mem_cons_of_mem _ ?_)); done) | (simp only [List.mem_cons, List.mem_append]; simp only [hp9, true_or, or_true])) : ∀ p ∈ tl, p ∈ _) p (hWt p hp)))
local macro_rules | `(tactic| walk_at "b1") => `(tactic| (k_here; (with_reducible show wpAny _ _ (subscriptTail _ (PySem.Expr.Slice none none (some _) _) (Value.ref _) (Value.ref _)) _ _ _); k_dflt (refine' rev_t ?F ?N ?e ?kS ?k ?z ?_ ?s ?t; (case F | N => k_asm); (case e => walk_at "t0"); (case kS => walk_at "t7"); (case k => exact IsPart.int _ _); (case z => omega); (case s => walk_at "t5"); (case t => kmk_pure)); intro D' h' F' N' l1; (try k_lt l1); (try k_sweep)))
local macro_rules | `(tactic| walk_at "subscriptTail") => `(tactic| (walk_at "b1"))
local macro_rules | `(tactic| walk_at "subscriptTail Name Slice ref ref") => `(tactic| (walk_at "b1"))
local macro_rules | `(tactic| walk_at "subscriptTail Attribute Slice ref ref") => `(tactic| (walk_at "b1"))
theorem charge_c {w : World} {p : Program} {loose : List Str} {mean : ExcName → Option Value} {mg mb : Str → Option Value} {dp un : Nat} {gd : Option (List Code)} {cn : Str} {cs : Scope} {a : Addr} {ccd : Value} {cl : List (Str × Addr)} {outer : List Env} {A₀ : Around} {base h₀ : Heap} {L : Addr} {m : Str → Option Value} {news : List (Addr × Obj)} {s : Shared} {Q E : Value → Shared → Prop} {P : Addr → Obj → Prop} {x d l0 : Addr} {k1 : Tok} {vs : List Value} {ls : List Lay} {n0 b bx bw : Nat} {Dx Dw : Addr} {rx rw' : Rat} {tx tx' tw tw' : Tok} {cx cw : Nat} {g1 : Obj → List (Addr × Obj)}
    (B : Below A₀ base outer h₀) (F : Fr h₀ L s.heap m) (X : (HD.K w.params).In h₀) (N : News h₀ L s.heap news) (T : Top p loose mean mg mb h₀) (hk : cs.kind = .function) (ex0 : (x, instObj 174 d) ∈ news) (U : UpdF d (tankD w.params k1 (.ref l0)) news g1) (ndx : d ≠ x) (hP : ∀ a o, P a o → s.heap.get? a = some o) (hPn : ∀ a o, P a o → a ≠ x ∧ a ≠ d) (el : P l0 (listOf vs.toArray n0)) (hv : All2 (LayN P) vs ls) (hne : ls ≠ []) (hb : ∀ l ∈ ls, Bd b l.1) (hlen : ls.length * (b + 1) + 1 ≤ 6643) (hll : ls.length ≤ 100)
    (ex : P Dx (RatO rx tx tx' cx)) (hbx : Bd bx rx) (hx0 : 0 < rx) (hx1 : rx ≤ tot (ls.map (·.1))) (h1x : 1 ≤ bx) (hlen2 : 2 * (bx + ls.length * (b + 1)) + b + 2 ≤ 6643)
    (ew : P Dw (RatO rw' tw tw' cw)) (hbw : Bd bw rw') (hbw2 : bw ≤ 6643) (hf : Falls ((rx, rw') :: (cutF ls.reverse rx).rest.reverse)) (hbl : ∀ l ∈ (rx, rw') :: (cutF ls.reverse rx).rest.reverse, Bd bw l.2)
    (hd : dp + 24 < recursionLimit) (hu : un + 1000 < cLine)
    (hret : ∀ (vo v' : Value) (tl : List (Addr × Obj)) (h' : Heap) (tk' : Nat), Fr h₀ L h' m → News h₀ L h' (g1 (tankD w.params k1 v') ++ tl) → (∀ p ∈ news, ∀ q ∈ tl, p.1 ≠ q.1) → LaysN (PT P tl) vo (cutF ls.reverse rx).out → LaysN (PT P tl) v' ((rx, rw') :: (cutF ls.reverse rx).rest.reverse) → Q vo { s with heap := h', toks := tk' }) :
    wpAny (model PySem.Challenge.rw_ui0509_10.row.prog w) (ktrTop dp un gd cn cs L a ccd cl outer) (call (.ref 157) [.ref x, .ref Dx, .ref Dw]) Q E s := by
  w_top off
  revert X; k_fill; intro X
  refine wpAny_call ?_
  k_dflt (refine' code_need [(x, instObj 174 d), (d, tankD w.params k1 (.ref l0))] ?k1 ?k2 ?k3 ?k4 ?k5 ?kA ?kF ?kK ?k6 ?k7 ?k8 ?k9 ?kB ?kN ?_ ?c2 ?c3 ?c4 ?c5; (case kA => exact rfl); (case kF => exact rfl); (case kK => assumption); (case k1 => k_asm); (case k2 => k_asm); (case k3 => k_asm); (case k4 => k_asm); (case k5 => k_asm); (case k6 => k_is); (case k7 => k_is); (case k8 => ktr_room); (case k9 => first | exact BindsTo.of_eq rfl | exact binds_K (by k_in) rfl (by k_is) rfl rfl rfl); (case c5 => decide); (case kB => exact locs rfl); (case kN => exact two_in ex0 (UpdF.mem U)); (case c2 => exact rfl); (case c3 => exact rfl); (case c4 => exact rfl); k_whole; intro g' L' h' tk0 FG' F' N' B' X' T' hG'; (try dsimp only); (try k_fold))
  have hT := ground2 hP hPn hG'
  have elT := hT [] _ _ (.inl el)
  have exT := hT [] _ _ (.inl ex)
  have ewT := hT [] _ _ (.inl ew)
  replace ndx := neN ndx
  have hvl := hv.length
  k_steps
  k_dflt (refine' tneed_c (P := P) (b := b) (bx := bx) (rx := rx) (tx := tx) (tx' := tx') (cx := cx) ?k1 ?k2 ?k3 ?k4 ?k5 ?k6 ?gx ?gd ?hP ?el ?hv ?hne ?hb ?hlen ?ex ?hbx ?hbx2 ?hx0 ?hx1 ?k7 ?k8 ?_)
  case k1 => k_asm
  case k2 => k_asm
  case k3 => k_asm
  case k4 => k_asm
  case k5 => k_asm
  case k6 => first | exact rfl | assumption
  case k7 => ktr_room
  case k8 => ktr_units
  case gx => exact News.get (by k_asm) (by k_mem)
  case gd => exact News.get (by k_asm) (by k_mem)
  case hP => exact fun a o e => (hT [] a o (.inl e)).get (by k_asm) (by k_asm) fun _ h => nomatch h
  case el => exact el
  case hv => exact hv
  case hne => exact hne
  case hb => exact hb
  case hlen => exact hlen
  case ex => exact exT.get (by k_asm) (by k_asm) fun _ h => nomatch h
  case hbx => exact hbx
  case hbx2 => omega
  case hx0 => exact Rat.le_of_lt hx0
  case hx1 => exact hx1

  intro h5 tk5 F5 N5
  k_steps
  k_dflt (refine' cut_c (P := P) (vs := vs.reverse) (ls := ls.reverse) (b := b) (bx := bx) (x := rx) (tx := tx) (tx' := tx') (cx := cx) ?k1 ?k2 ?k3 ?k4 ?k5 ?k6 ?hP ?el ?hv ?ex ?hb ?hbx ?h1x ?hlen ?hll ?k7 ?k8 ?_)
  case k1 => k_asm
  case k2 => k_asm
  case k3 => k_asm
  case k4 => k_asm
  case k5 => k_asm
  case k6 => first | exact rfl | assumption
  case k7 => ktr_room
  case k8 => ktr_units
  case hP => exact fun a o e => (hT [] a o (.inl e)).get (by k_asm) (by k_asm) fun _ h => nomatch h
  case el => exact News.get (by k_asm) (by k_mem)
  case hv => exact hv.reverse
  case ex => exact ex
  case hb => exact fun l hl => hb l (List.mem_reverse.mp hl)
  case hbx => exact hbx
  case h1x => exact h1x
  case hlen => rw [List.length_reverse]; exact hlen2
  case hll => rw [List.length_reverse]; omega

  intro D6 c6 vo6 vr6 tl6 h6 tk6 F6 N6 n61 n62 n63 Lo6 Lr6
  simp only [List.cons_append, List.nil_append] at N6
  have y60 := neN (n61 _ (List.mem_cons_self ..))
  have y61 := neN (n61 _ (List.mem_cons_of_mem _ (List.mem_cons_self ..)))
  have y62 := neN (n61 _ (List.mem_cons_of_mem _ (List.mem_cons_of_mem _ (List.mem_cons_self ..))))
  obtain ⟨lr, vrs, nr, rfl, elr, hvr⟩ := Lr6
  have elrT := hT tl6 _ _ elr
  have hnum : 0 < rx.num := num_pos.mpr hx0
  have hlr : vrs.length ≤ 900 := by rw [hvr.length]; exact Nat.le_trans (cut_len ls.reverse rx) (by rw [List.length_reverse]; omega)
  k_steps
  skip
  rename_i T9 hA lA M9 hB lB K9 hK lK S9 hC FC NC lC
  have hPS : ∀ a o, PT P ((S9, listOf ([Value.ref T9] ++ vrs.reverse).toArray 0) :: (T9, pairO (.ref Dx) (.ref Dw) 0) :: tl6) a o → hC.get? a = some o := by
    intro a o e
    refine Tk.get FC NC (hT ((S9, listOf ([Value.ref T9] ++ vrs.reverse).toArray 0) :: (T9, pairO (.ref Dx) (.ref Dw) 0) :: tl6) a o e) ?_
    refine List.forall_mem_cons.mpr ⟨by k_mem, List.forall_mem_cons.mpr ⟨by k_mem, (by intro p9 hp9; first | exact hp9 | exact absurd hp9 List.not_mem_nil | (repeat (first | exact hp9 | refine List.mem_cons_of_mem _ ?_)))⟩⟩
  have hvS : All2 (LayN (PT P ((S9, listOf ([Value.ref T9] ++ vrs.reverse).toArray 0) :: (T9, pairO (.ref Dx) (.ref Dw) 0) :: tl6))) ([Value.ref T9] ++ vrs.reverse) ((rx, rw') :: (cutF ls.reverse rx).rest.reverse) :=
    .cons (lay_new (.inr (List.mem_cons_of_mem _ (List.mem_cons_self ..))) ⟨Dx, tx, tx', cx, rfl, .inl ex⟩ ⟨Dw, tw, tw', cw, rfl, .inl ew⟩) (hvr.reverse.mono fun _ _ y => y.mono (PT.mono fun p hp => List.mem_cons_of_mem _ (List.mem_cons_of_mem _ hp)))
  k_dflt (refine' settle_c (P := PT P ((S9, listOf ([Value.ref T9] ++ vrs.reverse).toArray 0) :: (T9, pairO (.ref Dx) (.ref Dw) 0) :: tl6)) (b := bw) ?k1 ?k2 ?k3 ?k4 ?k5 ?k6 ?hP ?el ?hv ?hf ?hll ?hb ?hbb ?k7 ?k8 ?_)
  case k1 => k_asm
  case k2 => k_asm
  case k3 => k_asm
  case k4 => k_asm
  case k5 => k_asm
  case k6 => first | exact rfl | assumption
  case k7 => ktr_room
  case k8 => ktr_units
  case hP => exact hPS
  case el => exact .inr (List.mem_cons_self ..)
  case hv => exact hvS
  case hf => exact hf
  case hll => rw [← hvS.length, List.length_append, List.length_reverse]; simp; omega
  case hb => exact hbl
  case hbb => omega

  intro v9 tl9 h9 tk9 F9 N9 l9 L9
  simp only [List.cons_append, List.nil_append] at N9
  k_steps
  try dsimp only
  refine leaveN_ (by k_asm) (by k_asm) ?_; intro kF kN kR kD; (try dsimp only)
  have hTL := subs_of (TL := (S9, listOf ([Value.ref T9] ++ vrs.reverse).toArray 0) :: (T9, pairO (.ref Dx) (.ref Dw) 0) :: (tl6 ++ tl9)) kN (List.forall_mem_cons.mpr ⟨by k_mem, List.forall_mem_cons.mpr ⟨by k_mem, List.forall_mem_append.mpr ⟨(by intro p9 hp9; first | ((repeat (first | exact hp9 | exact List.mem_append_left _ hp9 | exact List.mem_append_right _ hp9 | refine List.mem_cons_of_mem _ ?_)); done) | (simp only [List.mem_cons, List.mem_append]; simp only [hp9, true_or, or_true])), (by intro p9 hp9; first | ((repeat (first | exact hp9 | exact List.mem_append_left _ hp9 | exact List.mem_append_right _ hp9 | refine List.mem_cons_of_mem _ ?_)); done) | (simp only [List.mem_cons, List.mem_append]; simp only [hp9, true_or, or_true]))⟩⟩⟩)
  exact hret vo6 v9 ((S9, listOf ([Value.ref T9] ++ vrs.reverse).toArray 0) :: (T9, pairO (.ref Dx) (.ref Dw) 0) :: (tl6 ++ tl9)) _ _ kF (news_app2 (fun p hp => kN p (hTL p hp)) (news_upd1 N ex0 U kN (by k_mem) (by k_mem) kR))
    (apart2 kD hTL (List.forall_mem_cons.mpr ⟨neN (by walk_at "ne9"), List.forall_mem_cons.mpr ⟨neN (by walk_at "ne9"), List.forall_mem_append.mpr ⟨off_of n63 (by k_mem), off_of l9 (by k_mem)⟩⟩⟩) (List.forall_mem_cons.mpr ⟨neN (by walk_at "ne9"), List.forall_mem_cons.mpr ⟨neN (by walk_at "ne9"), List.forall_mem_append.mpr ⟨off_of n63 (by k_mem), off_of l9 (by k_mem)⟩⟩⟩))
    (Lo6.mono (PT.mono fun p hp => List.mem_cons_of_mem _ (List.mem_cons_of_mem _ (List.mem_append_left _ hp))))
    (L9.mono fun a o e => e.elim (fun e => e.imp id fun h => (List.forall_mem_cons.mpr ⟨List.mem_cons_self .., List.forall_mem_cons.mpr ⟨List.mem_cons_of_mem _ (List.mem_cons_self ..), fun p hp => List.mem_cons_of_mem _ (List.mem_cons_of_mem _ (List.mem_append_left _ hp))⟩⟩) _ h) fun h => .inr (List.mem_cons_of_mem _ (List.mem_cons_of_mem _ (List.mem_append_right _ h))))
theorem draw0_c {w : World} {p : Program} {loose : List Str} {mean : ExcName → Option Value} {mg mb : Str → Option Value} {dp un : Nat} {gd : Option (List Code)} {cn : Str} {cs : Scope} {a : Addr} {ccd : Value} {cl : List (Str × Addr)} {outer : List Env} {A₀ : Around} {base h₀ : Heap} {L : Addr} {m : Str → Option Value} {news : List (Addr × Obj)} {s : Shared} {Q E : Value → Shared → Prop} {P : Addr → Obj → Prop} {x d l0 : Addr} {k1 : Tok} {vs : List Value} {ls : List Lay} {n0 b bw : Nat} {Dx Dw : Addr} {rx rw' : Rat} {tx tx' tw tw' : Tok} {cx cw : Nat} {g1 : Obj → List (Addr × Obj)}
    (B : Below A₀ base outer h₀) (F : Fr h₀ L s.heap m) (X : (HD.K w.params).In h₀) (N : News h₀ L s.heap news) (T : Top p loose mean mg mb h₀) (hk : cs.kind = .function) (ex0 : (x, instObj 174 d) ∈ news) (U : UpdF d (tankD w.params k1 (.ref l0)) news g1) (ndx : d ≠ x) (hP : ∀ a o, P a o → s.heap.get? a = some o) (hPn : ∀ a o, P a o → a ≠ x ∧ a ≠ d) (el : P l0 (listOf vs.toArray n0)) (hv : All2 (LayN P) vs ls) (hne : ls ≠ []) (hb : ∀ l ∈ ls, Bd b l.1) (hlen : ls.length * (b + 1) + 1 ≤ 6643) (hll : ls.length ≤ 100)
    (ex : P Dx (RatO rx tx tx' cx)) (hx0 : rx = 0) (hx1 : 0 ≤ tot (ls.map (·.1))) (hlen2 : 2 * (1 + ls.length * (b + 1)) + b + 2 ≤ 6643)
    (ew : P Dw (RatO rw' tw tw' cw)) (hbw : Bd bw rw') (hbw2 : bw ≤ 6643)
    (hd : dp + 24 < recursionLimit) (hu : un + 1000 < cLine)
    (hret : ∀ (vo : Value) (tl : List (Addr × Obj)) (h' : Heap) (tk' : Nat), Fr h₀ L h' m → News h₀ L h' (g1 (tankD w.params k1 (.ref l0)) ++ tl) → (∀ p ∈ news, ∀ q ∈ tl, p.1 ≠ q.1) → LaysN (PT P tl) vo (cutF ls rx).out → Q vo { s with heap := h', toks := tk' }) :
    wpAny (model PySem.Challenge.rw_ui0509_10.row.prog w) (ktrTop dp un gd cn cs L a ccd cl outer) (call (.ref 164) [.ref x, .ref Dx, .ref Dw]) Q E s := by
  w_top off
  revert X; k_fill; intro X
  refine wpAny_call ?_
  k_dflt (refine' code_need [(x, instObj 174 d), (d, tankD w.params k1 (.ref l0))] ?k1 ?k2 ?k3 ?k4 ?k5 ?kA ?kF ?kK ?k6 ?k7 ?k8 ?k9 ?kB ?kN ?_ ?c2 ?c3 ?c4 ?c5; (case kA => exact rfl); (case kF => exact rfl); (case kK => assumption); (case k1 => k_asm); (case k2 => k_asm); (case k3 => k_asm); (case k4 => k_asm); (case k5 => k_asm); (case k6 => k_is); (case k7 => k_is); (case k8 => ktr_room); (case k9 => first | exact BindsTo.of_eq rfl | exact binds_K (by k_in) rfl (by k_is) rfl rfl rfl); (case c5 => decide); (case kB => exact locs rfl); (case kN => exact two_in ex0 (UpdF.mem U)); (case c2 => exact rfl); (case c3 => exact rfl); (case c4 => exact rfl); k_whole; intro g' L' h' tk0 FG' F' N' B' X' T' hG'; (try dsimp only); (try k_fold))
  have hT := ground2 hP hPn hG'
  have elT := hT [] _ _ (.inl el)
  have exT := hT [] _ _ (.inl ex)
  have ewT := hT [] _ _ (.inl ew)
  replace ndx := neN ndx
  have hvl := hv.length
  have hbx : Bd 1 rx := hx0 ▸ Bd.zero (by decide)
  have hnum : ¬ 0 < rx.num := by rw [hx0]; decide
  k_steps
  k_dflt (refine' tneed_c (P := P) (b := b) (bx := 1) (rx := rx) (tx := tx) (tx' := tx') (cx := cx) ?k1 ?k2 ?k3 ?k4 ?k5 ?k6 ?gx ?gd ?hP ?el ?hv ?hne ?hb ?hlen ?ex ?hbx ?hbx2 ?hx0 ?hx1 ?k7 ?k8 ?_)
  case k1 => k_asm
  case k2 => k_asm
  case k3 => k_asm
  case k4 => k_asm
  case k5 => k_asm
  case k6 => first | exact rfl | assumption
  case k7 => ktr_room
  case k8 => ktr_units
  case gx => exact News.get (by k_asm) (by k_mem)
  case gd => exact News.get (by k_asm) (by k_mem)
  case hP => exact fun a o e => (hT [] a o (.inl e)).get (by k_asm) (by k_asm) fun _ h => nomatch h
  case el => exact el
  case hv => exact hv
  case hne => exact hne
  case hb => exact hb
  case hlen => exact hlen
  case ex => exact exT.get (by k_asm) (by k_asm) fun _ h => nomatch h
  case hbx => exact hbx
  case hbx2 => omega
  case hx0 => rw [hx0]; exact Rat.le_refl
  case hx1 => rw [hx0]; exact hx1

  intro h5 tk5 F5 N5
  k_steps
  k_dflt (refine' cut_c (P := P) (vs := vs) (ls := ls) (b := b) (bx := 1) (x := rx) (tx := tx) (tx' := tx') (cx := cx) ?k1 ?k2 ?k3 ?k4 ?k5 ?k6 ?hP ?el ?hv ?ex ?hb ?hbx ?h1x ?hlen ?hll ?k7 ?k8 ?_)
  case k1 => k_asm
  case k2 => k_asm
  case k3 => k_asm
  case k4 => k_asm
  case k5 => k_asm
  case k6 => first | exact rfl | assumption
  case k7 => ktr_room
  case k8 => ktr_units
  case hP => exact fun a o e => (hT [] a o (.inl e)).get (by k_asm) (by k_asm) fun _ h => nomatch h
  case el => exact (hT [] _ _ (.inl el)).get (by k_asm) (by k_asm) fun _ h => nomatch h
  case hv => exact hv
  case ex => exact ex
  case hb => exact hb
  case hbx => exact hbx
  case h1x => decide
  case hlen => exact hlen2
  case hll => omega

  intro D6 c6 vo6 vr6 tl6 h6 tk6 F6 N6 n61 n62 n63 Lo6 Lr6
  simp only [List.cons_append, List.nil_append] at N6
  have y60 := neN (n61 _ (List.mem_cons_self ..))
  have y61 := neN (n61 _ (List.mem_cons_of_mem _ (List.mem_cons_self ..)))
  obtain ⟨lr, vrs, nr, rfl, elr, hvr⟩ := Lr6
  have elrT := hT tl6 _ _ elr
  k_steps
  try dsimp only
  refine leaveN_ (by k_asm) (by k_asm) ?_; intro kF kN kR kD; (try dsimp only)
  have hTL := subs_of (TL := tl6) kN (by intro p9 hp9; first | ((repeat (first | exact hp9 | exact List.mem_append_left _ hp9 | exact List.mem_append_right _ hp9 | refine List.mem_cons_of_mem _ ?_)); done) | (simp only [List.mem_cons, List.mem_append]; simp only [hp9, true_or, or_true]))
  exact hret vo6 tl6 _ _ kF (news_app2 (fun p hp => kN p (hTL p hp)) (news_upd1 N ex0 U kN (by k_mem) (by k_mem) kR)) (apart2 kD hTL (off_of n63 (by k_mem)) (off_of n63 (by k_mem))) Lo6
theorem charge0_c {w : World} {p : Program} {loose : List Str} {mean : ExcName → Option Value} {mg mb : Str → Option Value} {dp un : Nat} {gd : Option (List Code)} {cn : Str} {cs : Scope} {a : Addr} {ccd : Value} {cl : List (Str × Addr)} {outer : List Env} {A₀ : Around} {base h₀ : Heap} {L : Addr} {m : Str → Option Value} {news : List (Addr × Obj)} {s : Shared} {Q E : Value → Shared → Prop} {P : Addr → Obj → Prop} {x d l0 : Addr} {k1 : Tok} {vs : List Value} {ls : List Lay} {n0 b bw : Nat} {Dx Dw : Addr} {rx rw' : Rat} {tx tx' tw tw' : Tok} {cx cw : Nat} {g1 : Obj → List (Addr × Obj)}
    (B : Below A₀ base outer h₀) (F : Fr h₀ L s.heap m) (X : (HD.K w.params).In h₀) (N : News h₀ L s.heap news) (T : Top p loose mean mg mb h₀) (hk : cs.kind = .function) (ex0 : (x, instObj 174 d) ∈ news) (U : UpdF d (tankD w.params k1 (.ref l0)) news g1) (ndx : d ≠ x) (hP : ∀ a o, P a o → s.heap.get? a = some o) (hPn : ∀ a o, P a o → a ≠ x ∧ a ≠ d) (el : P l0 (listOf vs.toArray n0)) (hv : All2 (LayN P) vs ls) (hne : ls ≠ []) (hb : ∀ l ∈ ls, Bd b l.1) (hlen : ls.length * (b + 1) + 1 ≤ 6643) (hll : ls.length ≤ 100)
    (ex : P Dx (RatO rx tx tx' cx)) (hx0 : rx = 0) (hx1 : 0 ≤ tot (ls.map (·.1))) (hlen2 : 2 * (1 + ls.length * (b + 1)) + b + 2 ≤ 6643)
    (ew : P Dw (RatO rw' tw tw' cw)) (hbw : Bd bw rw') (hbw2 : bw ≤ 6643)
    (hd : dp + 24 < recursionLimit) (hu : un + 1000 < cLine)
    (hret : ∀ (vo : Value) (tl : List (Addr × Obj)) (h' : Heap) (tk' : Nat), Fr h₀ L h' m → News h₀ L h' (g1 (tankD w.params k1 (.ref l0)) ++ tl) → (∀ p ∈ news, ∀ q ∈ tl, p.1 ≠ q.1) → LaysN (PT P tl) vo (cutF ls.reverse rx).out → Q vo { s with heap := h', toks := tk' }) :
    wpAny (model PySem.Challenge.rw_ui0509_10.row.prog w) (ktrTop dp un gd cn cs L a ccd cl outer) (call (.ref 157) [.ref x, .ref Dx, .ref Dw]) Q E s := by
  w_top off
  revert X; k_fill; intro X
  refine wpAny_call ?_
  k_dflt (refine' code_need [(x, instObj 174 d), (d, tankD w.params k1 (.ref l0))] ?k1 ?k2 ?k3 ?k4 ?k5 ?kA ?kF ?kK ?k6 ?k7 ?k8 ?k9 ?kB ?kN ?_ ?c2 ?c3 ?c4 ?c5; (case kA => exact rfl); (case kF => exact rfl); (case kK => assumption); (case k1 => k_asm); (case k2 => k_asm); (case k3 => k_asm); (case k4 => k_asm); (case k5 => k_asm); (case k6 => k_is); (case k7 => k_is); (case k8 => ktr_room); (case k9 => first | exact BindsTo.of_eq rfl | exact binds_K (by k_in) rfl (by k_is) rfl rfl rfl); (case c5 => decide); (case kB => exact locs rfl); (case kN => exact two_in ex0 (UpdF.mem U)); (case c2 => exact rfl); (case c3 => exact rfl); (case c4 => exact rfl); k_whole; intro g' L' h' tk0 FG' F' N' B' X' T' hG'; (try dsimp only); (try k_fold))
  have hT := ground2 hP hPn hG'
  have elT := hT [] _ _ (.inl el)
  have exT := hT [] _ _ (.inl ex)
  have ewT := hT [] _ _ (.inl ew)
  replace ndx := neN ndx
  have hvl := hv.length
  have hbx : Bd 1 rx := hx0 ▸ Bd.zero (by decide)
  have hnum : ¬ 0 < rx.num := by rw [hx0]; decide
  k_steps
  k_dflt (refine' tneed_c (P := P) (b := b) (bx := 1) (rx := rx) (tx := tx) (tx' := tx') (cx := cx) ?k1 ?k2 ?k3 ?k4 ?k5 ?k6 ?gx ?gd ?hP ?el ?hv ?hne ?hb ?hlen ?ex ?hbx ?hbx2 ?hx0 ?hx1 ?k7 ?k8 ?_)
  case k1 => k_asm
  case k2 => k_asm
  case k3 => k_asm
  case k4 => k_asm
  case k5 => k_asm
  case k6 => first | exact rfl | assumption
  case k7 => ktr_room
  case k8 => ktr_units
  case gx => exact News.get (by k_asm) (by k_mem)
  case gd => exact News.get (by k_asm) (by k_mem)
  case hP => exact fun a o e => (hT [] a o (.inl e)).get (by k_asm) (by k_asm) fun _ h => nomatch h
  case el => exact el
  case hv => exact hv
  case hne => exact hne
  case hb => exact hb
  case hlen => exact hlen
  case ex => exact exT.get (by k_asm) (by k_asm) fun _ h => nomatch h
  case hbx => exact hbx
  case hbx2 => omega
  case hx0 => rw [hx0]; exact Rat.le_refl
  case hx1 => rw [hx0]; exact hx1

  intro h5 tk5 F5 N5
  k_steps
  k_dflt (refine' cut_c (P := P) (vs := vs.reverse) (ls := ls.reverse) (b := b) (bx := 1) (x := rx) (tx := tx) (tx' := tx') (cx := cx) ?k1 ?k2 ?k3 ?k4 ?k5 ?k6 ?hP ?el ?hv ?ex ?hb ?hbx ?h1x ?hlen ?hll ?k7 ?k8 ?_)
  case k1 => k_asm
  case k2 => k_asm
  case k3 => k_asm
  case k4 => k_asm
  case k5 => k_asm
  case k6 => first | exact rfl | assumption
  case k7 => ktr_room
  case k8 => ktr_units
  case hP => exact fun a o e => (hT [] a o (.inl e)).get (by k_asm) (by k_asm) fun _ h => nomatch h
  case el => exact News.get (by k_asm) (by k_mem)
  case hv => exact hv.reverse
  case ex => exact ex
  case hb => exact fun l hl => hb l (List.mem_reverse.mp hl)
  case hbx => exact hbx
  case h1x => decide
  case hlen => rw [List.length_reverse]; exact hlen2
  case hll => rw [List.length_reverse]; omega

  intro D6 c6 vo6 vr6 tl6 h6 tk6 F6 N6 n61 n62 n63 Lo6 Lr6
  simp only [List.cons_append, List.nil_append] at N6
  have y60 := neN (n61 _ (List.mem_cons_self ..))
  have y61 := neN (n61 _ (List.mem_cons_of_mem _ (List.mem_cons_self ..)))
  have y62 := neN (n61 _ (List.mem_cons_of_mem _ (List.mem_cons_of_mem _ (List.mem_cons_self ..))))
  obtain ⟨lr, vrs, nr, rfl, elr, hvr⟩ := Lr6
  have elrT := hT tl6 _ _ elr
  k_steps
  try dsimp only
  refine leaveN_ (by k_asm) (by k_asm) ?_; intro kF kN kR kD; (try dsimp only)
  have hTL := subs_of (TL := tl6) kN (by intro p9 hp9; first | ((repeat (first | exact hp9 | exact List.mem_append_left _ hp9 | exact List.mem_append_right _ hp9 | refine List.mem_cons_of_mem _ ?_)); done) | (simp only [List.mem_cons, List.mem_append]; simp only [hp9, true_or, or_true]))
  exact hret vo6 tl6 _ _ kF (news_app2 (fun p hp => kN p (hTL p hp)) (news_upd1 N ex0 U kN (by k_mem) (by k_mem) kR)) (apart2 kD hTL (off_of n63 (by k_mem)) (off_of n63 (by k_mem))) Lo6
theorem drawG_c {w : World} {p : Program} {loose : List Str} {mean : ExcName → Option Value} {mg mb : Str → Option Value} {dp un : Nat} {gd : Option (List Code)} {cn : Str} {cs : Scope} {a : Addr} {ccd : Value} {cl : List (Str × Addr)} {outer : List Env} {A₀ : Around} {base h₀ : Heap} {L : Addr} {m : Str → Option Value} {news : List (Addr × Obj)} {s : Shared} {Q E : Value → Shared → Prop} {P : Addr → Obj → Prop} {x d l0 : Addr} {k1 : Tok} {vs : List Value} {ls : List Lay} {n0 b bx bw : Nat} {Dx Dw : Addr} {rx rw' : Rat} {tx tx' tw tw' : Tok} {cx cw : Nat} {g1 : Obj → List (Addr × Obj)}
    (B : Below A₀ base outer h₀) (F : Fr h₀ L s.heap m) (X : (HD.K w.params).In h₀) (N : News h₀ L s.heap news) (T : Top p loose mean mg mb h₀) (hk : cs.kind = .function) (ex0 : (x, instObj 174 d) ∈ news) (U : UpdF d (tankD w.params k1 (.ref l0)) news g1) (ndx : d ≠ x) (hP : ∀ a o, P a o → s.heap.get? a = some o) (hPn : ∀ a o, P a o → a ≠ x ∧ a ≠ d) (el : P l0 (listOf vs.toArray n0)) (hv : All2 (LayN P) vs ls) (hne : ls ≠ []) (hb : ∀ l ∈ ls, Bd b l.1) (hlen : ls.length * (b + 1) + 1 ≤ 6643) (hll : ls.length ≤ 100)
    (ex : P Dx (RatO rx tx tx' cx)) (hbx : Bd bx rx) (hx0 : 0 ≤ rx) (hx1 : rx ≤ tot (ls.map (·.1))) (h1x : 1 ≤ bx) (hlen2 : 2 * (bx + ls.length * (b + 1)) + b + 2 ≤ 6643)
    (ew : P Dw (RatO rw' tw tw' cw)) (hbw : Bd bw rw') (hbw2 : bw ≤ 6643) (hf : 0 < rx → Falls ((cutF ls rx).rest ++ [(rx, rw')])) (hbl : 0 < rx → ∀ l ∈ (cutF ls rx).rest ++ [(rx, rw')], Bd bw l.2)
    (hd : dp + 24 < recursionLimit) (hu : un + 1000 < cLine)
    (hret : ∀ (vo v' : Value) (tl : List (Addr × Obj)) (h' : Heap) (tk' : Nat), Fr h₀ L h' m → News h₀ L h' (g1 (tankD w.params k1 v') ++ tl) → (∀ p ∈ news, ∀ q ∈ tl, p.1 ≠ q.1) → LaysN (PT P tl) vo (cutF ls rx).out → LaysN (PT P tl) v' (if 0 < rx then (cutF ls rx).rest ++ [(rx, rw')] else ls) → Q vo { s with heap := h', toks := tk' }) :
    wpAny (model PySem.Challenge.rw_ui0509_10.row.prog w) (ktrTop dp un gd cn cs L a ccd cl outer) (call (.ref 164) [.ref x, .ref Dx, .ref Dw]) Q E s := by
  by_cases h0 : 0 < rx
  · exact draw_c B F X N T hk ex0 U ndx hP hPn el hv hne hb hlen hll ex hbx h0 hx1 h1x hlen2 ew hbw hbw2 (hf h0) (hbl h0) hd hu fun vo v' tl h' tk' F' N' nn a b => hret vo v' tl h' tk' F' N' nn a (by rw [if_pos h0]; exact b)
  · have e0 : rx = 0 := by grind
    refine draw0_c B F X N T hk ex0 U ndx hP hPn el hv hne hb hlen hll ex e0 (e0 ▸ hx1) (by omega) ew hbw hbw2 hd hu fun vo tl h' tk' F' N' nn a => hret vo (.ref l0) tl h' tk' F' N' nn a ?_
    rw [if_neg h0]
    exact ⟨l0, vs, n0, rfl, .inl el, hv.mono fun _ _ y => y.mono fun _ _ e => .inl e⟩
theorem chargeG_c {w : World} {p : Program} {loose : List Str} {mean : ExcName → Option Value} {mg mb : Str → Option Value} {dp un : Nat} {gd : Option (List Code)} {cn : Str} {cs : Scope} {a : Addr} {ccd : Value} {cl : List (Str × Addr)} {outer : List Env} {A₀ : Around} {base h₀ : Heap} {L : Addr} {m : Str → Option Value} {news : List (Addr × Obj)} {s : Shared} {Q E : Value → Shared → Prop} {P : Addr → Obj → Prop} {x d l0 : Addr} {k1 : Tok} {vs : List Value} {ls : List Lay} {n0 b bx bw : Nat} {Dx Dw : Addr} {rx rw' : Rat} {tx tx' tw tw' : Tok} {cx cw : Nat} {g1 : Obj → List (Addr × Obj)}
    (B : Below A₀ base outer h₀) (F : Fr h₀ L s.heap m) (X : (HD.K w.params).In h₀) (N : News h₀ L s.heap news) (T : Top p loose mean mg mb h₀) (hk : cs.kind = .function) (ex0 : (x, instObj 174 d) ∈ news) (U : UpdF d (tankD w.params k1 (.ref l0)) news g1) (ndx : d ≠ x) (hP : ∀ a o, P a o → s.heap.get? a = some o) (hPn : ∀ a o, P a o → a ≠ x ∧ a ≠ d) (el : P l0 (listOf vs.toArray n0)) (hv : All2 (LayN P) vs ls) (hne : ls ≠ []) (hb : ∀ l ∈ ls, Bd b l.1) (hlen : ls.length * (b + 1) + 1 ≤ 6643) (hll : ls.length ≤ 100)
    (ex : P Dx (RatO rx tx tx' cx)) (hbx : Bd bx rx) (hx0 : 0 ≤ rx) (hx1 : rx ≤ tot (ls.map (·.1))) (h1x : 1 ≤ bx) (hlen2 : 2 * (bx + ls.length * (b + 1)) + b + 2 ≤ 6643)
    (ew : P Dw (RatO rw' tw tw' cw)) (hbw : Bd bw rw') (hbw2 : bw ≤ 6643) (hf : 0 < rx → Falls ((rx, rw') :: (cutF ls.reverse rx).rest.reverse)) (hbl : 0 < rx → ∀ l ∈ (rx, rw') :: (cutF ls.reverse rx).rest.reverse, Bd bw l.2)
    (hd : dp + 24 < recursionLimit) (hu : un + 1000 < cLine)
    (hret : ∀ (vo v' : Value) (tl : List (Addr × Obj)) (h' : Heap) (tk' : Nat), Fr h₀ L h' m → News h₀ L h' (g1 (tankD w.params k1 v') ++ tl) → (∀ p ∈ news, ∀ q ∈ tl, p.1 ≠ q.1) → LaysN (PT P tl) vo (cutF ls.reverse rx).out → LaysN (PT P tl) v' (if 0 < rx then (rx, rw') :: (cutF ls.reverse rx).rest.reverse else ls) → Q vo { s with heap := h', toks := tk' }) :
    wpAny (model PySem.Challenge.rw_ui0509_10.row.prog w) (ktrTop dp un gd cn cs L a ccd cl outer) (call (.ref 157) [.ref x, .ref Dx, .ref Dw]) Q E s := by
  by_cases h0 : 0 < rx
  · exact charge_c B F X N T hk ex0 U ndx hP hPn el hv hne hb hlen hll ex hbx h0 hx1 h1x hlen2 ew hbw hbw2 (hf h0) (hbl h0) hd hu fun vo v' tl h' tk' F' N' nn a b => hret vo v' tl h' tk' F' N' nn a (by rw [if_pos h0]; exact b)
  · have e0 : rx = 0 := by grind
    refine charge0_c B F X N T hk ex0 U ndx hP hPn el hv hne hb hlen hll ex e0 (e0 ▸ hx1) (by omega) ew hbw hbw2 hd hu fun vo tl h' tk' F' N' nn a => hret vo (.ref l0) tl h' tk' F' N' nn a ?_
    rw [if_neg h0]
    exact ⟨l0, vs, n0, rfl, .inl el, hv.mono fun _ _ y => y.mono fun _ _ e => .inl e⟩
theorem apL {d : Nat} {l : List (Addr × Obj)} {a : Addr} {o : Obj} (h : AllNe d l) (hm : (a, o) ∈ l) : @Ne Nat a d := allNe_mem h _ hm
theorem three_of {P : Addr × Obj → Prop} {a b c : Addr × Obj} (ha : P a) (hb : P b) (hc : P c) : ∀ p ∈ [a, b, c], P p := List.forall_mem_cons.mpr ⟨ha, List.forall_mem_cons.mpr ⟨hb, List.forall_mem_cons.mpr ⟨hc, List.forall_mem_nil _⟩⟩⟩
theorem eq_Req {prog : Program} {w : World} {A : Around} {E : Value → Shared → Prop} {s : Shared} {D1 D2 : Addr} {r1 r2 : Rat} {t1 t1' t2 t2' : Tok} {c1 c2 : Nat} {Q : Value → Shared → Prop}
    (e1 : s.heap.get? D1 = some (RatO r1 t1 t1' c1)) (e2 : s.heap.get? D2 = some (RatO r2 t2 t2' c2)) (he : r1 = r2) (hu : A.units + 64 < cLine) (h : Q (.bool true) s) : wpAny (model prog w) A (compareOp .Eq (.ref D1) (.ref D2)) Q E s := by
  subst he
  exact eq_rd (d := ratP r1) (RatO_rd e1) (RatO_rd e2) (by rfl) hu h
local macro_rules | `(tactic| walk_at "call ref") => `(tactic| (walk_at "h5"; k_dflt (refine' minus_r ?k1 ?k2 ?k3 ?k4 ?k5 ?k6 ?m1 ?m2 ?k7 ?k8 ?b1 ?b2 ?hb ?_; (case k1 | k2 | k3 | k4 | k5 => k_asm); (case k6 => walk_at "t1"); (case k7 => walk_at "t3"); (case k8 => walk_at "t2"); (case m1 | m2 => (walk_at "hat9")); (case b1 | b2 => walk_at "t0"); (case hb => walk_at "t4"); k_whole); intro D' t' u' c' h' tk' bD' F' N' l1; (try (replace l1 := allNe_of l1; have l2 := l1; simp only [AllNe, and_true] at l2)); (try k_sweep)))
local macro_rules | `(tactic| walk_at "call ref") => `(tactic| (k_here; (with_reducible show wpAny _ _ (call (Value.ref 79) [Value.ref _, Value.ref _]) _ _ _); k_dflt (refine' over_r ?k1 ?k2 ?k3 ?k4 ?k5 ?k6 ?m1 ?m2 ?k7 ?k8 ?b1 ?b2 ?hz ?hb ?_; (case k1 | k2 | k3 | k4 | k5 => k_asm); (case k6 => walk_at "t1"); (case k7 => walk_at "t3"); (case k8 => walk_at "t2"); (case m1 | m2 => (walk_at "hat9")); (case b1 | b2 => walk_at "t0"); (case hb => walk_at "t4"); (case hz => first | assumption | grind); k_whole); intro D' t' u' c' h' tk' bD' F' N' l1; (try (replace l1 := allNe_of l1; have l2 := l1; simp only [AllNe, and_true] at l2)); (try k_sweep)))
local macro_rules | `(tactic| walk_at "call ref") => `(tactic| (walk_at "h4"; k_dflt (refine' plus_r ?k1 ?k2 ?k3 ?k4 ?k5 ?k6 ?m1 ?m2 ?k7 ?k8 ?b1 ?b2 ?hb ?_; (case k1 | k2 | k3 | k4 | k5 => k_asm); (case k6 => walk_at "t1"); (case k7 => walk_at "t3"); (case k8 => walk_at "t2"); (case m1 | m2 => (walk_at "hat9")); (case b1 | b2 => walk_at "t0"); (case hb => walk_at "t4"); k_whole); intro D' t' u' c' h' tk' bD' F' N' l1; (try (replace l1 := allNe_of l1; have l2 := l1; simp only [AllNe, and_true] at l2)); (try k_sweep)))
local macro_rules | `(tactic| walk_at "call ref") => `(tactic| (walk_at "h7"; k_dflt (refine' times_r ?k1 ?k2 ?k3 ?k4 ?k5 ?k6 ?m1 ?m2 ?k7 ?k8 ?b1 ?b2 ?hb ?_; (case k1 | k2 | k3 | k4 | k5 => k_asm); (case k6 => walk_at "t1"); (case k7 => walk_at "t3"); (case k8 => walk_at "t2"); (case m1 | m2 => (walk_at "hat9")); (case b1 | b2 => walk_at "t0"); (case hb => walk_at "t4"); k_whole); intro D' t' u' c' h' tk' bD' F' N' l1; (try (replace l1 := allNe_of l1; have l2 := l1; simp only [AllNe, and_true] at l2)); (try k_sweep)))
local macro_rules | `(tactic| walk_at "compareOp Eq ref ref") => `(tactic| (walk_at "h6"; k_dflt (refine' eq_Req ?k2 ?k3 ?k5 ?k4 ?_; (case k2 | k3 => (walk_at "hat9")); (case k5 => walk_at "t0"); (case k4 => walk_at "t2"); k_whole)))
local macro_rules | `(tactic| walk_at "call ref") => `(tactic| (k_here; (with_reducible show wpAny _ _ (call (Value.ref 164) [Value.ref _, Value.ref _, Value.ref _]) _ _ _); refine Hold.out ?_))
local macro_rules | `(tactic| walk_at "call ref") => `(tactic| (k_here; (with_reducible show wpAny _ _ (call (Value.ref 157) [Value.ref _, Value.ref _, Value.ref _]) _ _ _); refine Hold.out ?_))
theorem drawfor_c {w : World} {p : Program} {loose : List Str} {mean : ExcName → Option Value} {mg mb : Str → Option Value} {dp un : Nat} {gd : Option (List Code)} {cn : Str} {cs : Scope} {a : Addr} {ccd : Value} {cl : List (Str × Addr)} {outer : List Env} {A₀ : Around} {base h₀ : Heap} {L : Addr} {m : Str → Option Value} {news : List (Addr × Obj)} {s : Shared} {Q E : Value → Shared → Prop} {P : Addr → Obj → Prop} {x d l0 : Addr} {k1 : Tok} {vs : List Value} {ls : List Lay} {n0 b : Nat} {Dh Db : Addr} {rh rb : Rat} {th th' tb tb' tn tn' : Tok} {ch cb cn0 : Nat} {g1 : Obj → List (Addr × Obj)}
    (B : Below A₀ base outer h₀) (F : Fr h₀ L s.heap m) (X : (HD.K w.params).In h₀) (N : News h₀ L s.heap news) (T : Top p loose mean mg mb h₀) (hk : cs.kind = .function) (ex0 : (x, instObj 174 d) ∈ news) (U : UpdF d (tankD w.params k1 (.ref l0)) news g1) (ndx : d ≠ x) (hP : ∀ a o, P a o → s.heap.get? a = some o) (hPn : ∀ a o, P a o → a ≠ x ∧ a ≠ d) (el : P l0 (listOf vs.toArray n0)) (hv : All2 (LayN P) vs ls) (hne : ls ≠ []) (hb : ∀ l ∈ ls, Bd b l.1) (hb2 : ∀ l ∈ ls, Bd b l.2) (hll : ls.length ≤ 20) (hbs : b ≤ 100) (hb1 : 1 ≤ b)
    (hg : ∀ l ∈ ls, 0 < l.2 - rb) (hpos : ∀ l ∈ ls, 0 < l.1) (eh : P Dh (RatO rh th th' ch)) (hbh : Bd b rh) (hh0 : 0 ≤ rh) (eb : P Db (RatO rb tb tb' cb)) (hbb : Bd b rb) (en : P 28 (RatO 0 tn tn' cn0))
    (hbd : ∀ i, Bd b (dfL (fun wm : Rat => wm - rb) (ls.take i) rh) ∧ Bd b (dfG (fun wm : Rat => wm - rb) (ls.take i) rh)) (hf : 0 < dfL (fun wm : Rat => wm - rb) ls rh → Falls ((cutF ls (dfL (fun wm : Rat => wm - rb) ls rh)).rest ++ [((dfL (fun wm : Rat => wm - rb) ls rh), rb)])) (hbl : ∀ l ∈ (cutF ls (dfL (fun wm : Rat => wm - rb) ls rh)).rest ++ [((dfL (fun wm : Rat => wm - rb) ls rh), rb)], Bd b l.2)
    (hd : dp + 40 < recursionLimit) (hu : un + 1400 < cLine)
    (hret : ∀ (vg v' : Value) (tl : List (Addr × Obj)) (h' : Heap) (tk' : Nat), Fr h₀ L h' m → News h₀ L h' (g1 (tankD w.params k1 v') ++ tl) → (∀ p ∈ news, ∀ q ∈ tl, p.1 ≠ q.1) → RatN (PT P tl) vg (dfG (fun wm : Rat => wm - rb) ls rh) → LaysN (PT P tl) v' (if 0 < dfL (fun wm : Rat => wm - rb) ls rh then (cutF ls (dfL (fun wm : Rat => wm - rb) ls rh)).rest ++ [((dfL (fun wm : Rat => wm - rb) ls rh), rb)] else ls) → Q vg { s with heap := h', toks := tk' }) :
    wpAny (model PySem.Challenge.rw_ui0509_10.row.prog w) (ktrTop dp un gd cn cs L a ccd cl outer) (call (.ref 206) [.ref x, .ref Dh, .ref Db]) Q E s := by
  w_top off
  revert X; k_fill; intro X
  refine wpAny_call ?_
  k_dflt (refine' code_need [(x, instObj 174 d), (d, tankD w.params k1 (.ref l0))] ?k1 ?k2 ?k3 ?k4 ?k5 ?kA ?kF ?kK ?k6 ?k7 ?k8 ?k9 ?kB ?kN ?_ ?c2 ?c3 ?c4 ?c5; (case kA => exact rfl); (case kF => exact rfl); (case kK => assumption); (case k1 => k_asm); (case k2 => k_asm); (case k3 => k_asm); (case k4 => k_asm); (case k5 => k_asm); (case k6 => k_is); (case k7 => k_is); (case k8 => ktr_room); (case k9 => first | exact BindsTo.of_eq rfl | exact binds_K (by k_in) rfl (by k_is) rfl rfl rfl); (case c5 => decide); (case kB => exact locs rfl); (case kN => exact two_in ex0 (UpdF.mem U)); (case c2 => exact rfl); (case c3 => exact rfl); (case c4 => exact rfl); k_whole; intro g' L' h' tk0 FG' F' N' B' X' T' hG'; (try dsimp only); (try k_fold))
  have hT := ground2 hP hPn hG'
  have elT := hT [] _ _ (.inl el)
  have ehT := hT [] _ _ (.inl eh)
  have ebT := hT [] _ _ (.inl eb)
  have el' : g'.get? l0 = some (listOf vs.toArray n0) := elT.elim (fun h => nomatch h) id
  replace ndx := neN ndx
  have hvl := hv.length
  have hdm := df_main (g := (fun wm : Rat => wm - rb)) (ls := ls) (r := rh) (hpos) (hg) hh0
  k_steps
  unfold Hold
  refine iter_baseTurns rfl (by k_asm) (by k_asm) el' rfl rfl (fun I lI => ?_)
  refine items_ind (fun i m nx => ∃ (vl vg : Value) (tl : List (Addr × Obj)), nx = [(x, instObj 174 d), (d, tankD w.params k1 (.ref l0))] ++ tl ∧ (∀ p ∈ tl, p.1 ≠ x) ∧ (∀ p ∈ tl, p.1 ≠ d) ∧ 
    m (Str.ofString "tank") = some (.ref x) ∧ m (Str.ofString "heat") = some (.ref Dh) ∧ m (Str.ofString "back") = some (.ref Db) ∧ m (Str.ofString "litres") = some vl ∧ m (Str.ofString "got") = some vg ∧ RatN (PT P tl) vl (dfL (fun wm : Rat => wm - rb) (ls.take i) rh) ∧ RatN (PT P tl) vg (dfG (fun wm : Rat => wm - rb) (ls.take i) rh)) ?turn ?done _ 0 _ _ rfl (Nat.zero_le _) trivial (fun p hp => Nat.ne_of_lt (lI p hp)) ?init
  case init => exact ⟨_, _, [], rfl, (fun _ h => nomatch h), (fun _ h => nomatch h), rfl, rfl, rfl, rfl, rfl, ⟨_, tn, tn', cn0, rfl, .inl en⟩, ⟨_, tn, tn', cn0, rfl, .inl en⟩⟩
  case turn =>
    intro i a v m nx h tk o ha _ hI hJ hav Fm ho Nn
    obtain ⟨vl, vg, tl, rfl, hdx, hdd, hm1, hm2, hm3, hm4, hm5, ⟨Dl, tl1, tl2, cl, rfl, eL⟩, ⟨Dg, tg1, tg2, cg, rfl, eG⟩⟩ := hJ
    obtain ⟨⟨sz, wm⟩, hl, D, v1, v2, c, rfl, eD, ⟨D1, t1, t1', c1, rfl, e1⟩, ⟨D2, t2, t2', c2, rfl, e2⟩⟩ := (hv).get (val_get ha hav)
    have eD' := hT tl _ _ (.inl eD)
    have e1' := hT tl _ _ (.inl e1)
    have e2' := hT tl _ _ (.inl e2)
    have eh' := hT tl _ _ (.inl eh)
    have eb' := hT tl _ _ (.inl eb)
    have eL' := hT tl _ _ eL
    have eG' := hT tl _ _ eG
    have hmem := List.mem_of_getElem? hl
    have bS := hb _ hmem
    have bW := hb2 _ hmem
    have hgp := hg _ hmem
    obtain ⟨bL, bG⟩ := hbd i
    dsimp only at e1' e2' bS bW hgp
    have hgn := num_pos.mpr hgp
    have hgz : wm - rb ≠ 0 := by grind
    simp only [List.cons_append, List.nil_append] at Nn hI
    have nIx := neN (hI _ (List.mem_cons_self ..))
    have nId := neN (hI _ (List.mem_cons_of_mem _ (List.mem_cons_self ..)))
    have htI : ∀ p ∈ tl, p.1 ≠ I := fun p hp => hI p (List.mem_cons_of_mem _ (List.mem_cons_of_mem _ hp))
    clear hI
    by_cases hst : dfG (fun wm : Rat => wm - rb) (ls.take i) rh = rh
    · have hdf := df_stop hst
      have hdl : dfL (fun wm : Rat => wm - rb) (ls.take i) rh ≤ tot (ls.map (·.1)) := by rw [← hdf.1]; exact hdm.2.1
      have hdz : 0 ≤ dfL (fun wm : Rat => wm - rb) (ls.take i) rh := by rw [← hdf.1]; exact hdm.1
      have hf' : 0 < dfL (fun wm : Rat => wm - rb) (ls.take i) rh → Falls ((cutF ls (dfL (fun wm : Rat => wm - rb) (ls.take i) rh)).rest ++ [((dfL (fun wm : Rat => wm - rb) (ls.take i) rh), rb)]) := fun h => by rw [← hdf.1] at h ⊢; exact hf h
      have hbl' : ∀ l ∈ (cutF ls (dfL (fun wm : Rat => wm - rb) (ls.take i) rh)).rest ++ [((dfL (fun wm : Rat => wm - rb) (ls.take i) rh), rb)], Bd b l.2 := by rw [← hdf.1]; exact hbl
      k_steps
      unfold Hold
      (rename News _ _ _ _ => N8)
      (rename Fr _ _ _ _ => F8)
      have hP8 : ∀ a o, PT P tl a o → _ := fun a o e => (hT tl a o e).get F8 N8 (by intro p9 hp9; first | ((repeat (first | exact hp9 | exact List.mem_append_left _ hp9 | exact List.mem_append_right _ hp9 | refine List.mem_cons_of_mem _ ?_)); done) | (simp only [List.mem_cons, List.mem_append]; simp only [hp9, true_or, or_true]))
      k_dflt (refine' drawG_c (P := PT P tl) (x := x) (d := d) (vs := vs) (ls := ls) (n0 := n0) (b := b) (bx := b) (bw := b) (rx := dfL (fun wm : Rat => wm - rb) (ls.take i) rh) (rw' := rb) ?k1 ?k2 ?k3 ?k4 ?k5 ?k6 ?ex0 ?U ?ndx hP8 ?hPn ?el ?hv ?hne ?hb ?hlen ?hll ?ex ?hbx ?hx0 ?hx1 ?h1x ?hlen2 ?ew ?hbw ?hbw2 ?hf ?hbl ?k7 ?k8 ?_)
      case k1 => k_asm
      case k2 => k_asm
      case k3 => k_asm
      case k4 => k_asm
      case k5 => k_asm
      case k6 => first | exact rfl | assumption
      case k7 => ktr_room
      case k8 => ktr_units
      case ex0 => k_mem
      case U => k_updF
      case ndx => exact ndx
      case hPn => exact fun a o e => e.elim (hPn a o) fun h => ⟨hdx _ h, hdd _ h⟩
      case el => exact .inl el
      case hv => exact hv.mono fun _ _ y => y.mono fun _ _ e => .inl e
      case hne => exact hne
      case hb => exact hb
      case hlen => exact Nat.le_trans (Nat.add_le_add_right (Nat.mul_le_mul hll (Nat.add_le_add_right hbs 1)) 1) (by decide)
      case hll => omega
      case ex => exact eL
      case hbx => exact bL
      case hx0 => exact hdz
      case hx1 => exact hdl
      case h1x => exact hb1
      case hlen2 => exact Nat.le_trans (Nat.add_le_add_right (Nat.add_le_add (Nat.mul_le_mul_left 2 (Nat.add_le_add hbs (Nat.mul_le_mul hll (Nat.add_le_add_right hbs 1)))) hbs) 2) (by decide)
      case ew => exact .inl eb
      case hbw => exact hbb
      case hbw2 => omega
      case hf => exact hf'
      case hbl => exact fun _ => hbl'

      intro vo v' tl9 h9 tk9 F9 N9 n9 Lo9 Lv9
      (try dsimp only at N9)
      simp only [List.cons_append, List.nil_append] at N9
      k_steps
      try dsimp only
      refine leaveN_ (by k_asm) (by k_asm) ?_; intro kF kN kR kD; (try dsimp only)
      have hTL := subs_of (TL := tl ++ tl9) kN (List.forall_mem_append.mpr ⟨(by intro p9 hp9; first | ((repeat (first | exact hp9 | exact List.mem_append_left _ hp9 | exact List.mem_append_right _ hp9 | refine List.mem_cons_of_mem _ ?_)); done) | (simp only [List.mem_cons, List.mem_append]; simp only [hp9, true_or, or_true])), (by intro p9 hp9; first | ((repeat (first | exact hp9 | exact List.mem_append_left _ hp9 | exact List.mem_append_right _ hp9 | refine List.mem_cons_of_mem _ ?_)); done) | (simp only [List.mem_cons, List.mem_append]; simp only [hp9, true_or, or_true]))⟩)
      exact hret (.ref Dg) v' (tl ++ tl9) _ _ kF (news_app2 (fun p hp => kN p (hTL p hp)) (news_upd1 N ex0 U kN (by k_mem) (by k_mem) kR))
        (apart2 kD hTL (List.forall_mem_append.mpr ⟨hdx, off_of n9 (by k_mem)⟩) (List.forall_mem_append.mpr ⟨hdd, off_of n9 (by k_mem)⟩))
        (by rw [hdf.2]; exact ⟨Dg, tg1, tg2, cg, rfl, eG.imp id fun h => List.mem_append_left _ h⟩)
        (by rw [hdf.1]; exact Lv9.mono fun a o e => e.elim (fun e => e.imp id fun h => List.mem_append_left _ h) fun h => .inr (List.mem_append_right _ h))
    · have hst2 := df_step hl hst
      dsimp only at hst2
      k_steps
      · have hpart : dfPart (fun wm : Rat => wm - rb) (sz, wm) (rh - dfG (fun wm : Rat => wm - rb) (ls.take i) rh) = (rh - dfG (fun wm : Rat => wm - rb) (ls.take i) rh) / (wm - rb) := if_pos (by assumption)
        rw [hpart] at hst2
        unfold Hold
        (rename News _ _ _ _ => NN)
        refine unr_mut [(x, instObj 174 d), (d, tankD w.params k1 (.ref l0))] (by k_asm) NN (by k_mem) (two_of (by k_mem) (by k_mem)) (two_of nIx nId) ⟨trivial, ?_⟩
        have hsub : ∀ p ∈ tl, p ∈ strip (I :: List.map (·.1) [(x, instObj 174 d), (d, tankD w.params k1 (.ref l0))]) _ := fun p hp => mem_strip ((subs_of NN (by intro p9 hp9; first | ((repeat (first | exact hp9 | exact List.mem_append_left _ hp9 | exact List.mem_append_right _ hp9 | refine List.mem_cons_of_mem _ ?_)); done) | (simp only [List.mem_cons, List.mem_append]; simp only [hp9, true_or, or_true])) : ∀ p ∈ tl, p ∈ _) p hp) (by simp only [List.map_cons, List.map_nil, List.mem_cons, List.not_mem_nil, or_false, not_or]; exact ⟨htI p hp, hdx p hp, hdd p hp⟩)
        refine ⟨_, _, _, rfl, fun p hp e => (strip_mem hp).2 (by rw [e]; simp), fun p hp e => (strip_mem hp).2 (by rw [e]; simp), by first | rfl | assumption, by first | rfl | assumption, by first | rfl | assumption, rfl, rfl, ?_, ?_⟩
        · rw [hst2.1]; exact rat_new (Or.inr (mem_strip (by k_mem) (by simp only [List.map_cons, List.map_nil, List.mem_cons, List.not_mem_nil, or_false, not_or]; exact ⟨neN (by first | exact (apL (by with_reducible assumption) (by k_mem)).symm | exact apL (by with_reducible assumption) (by k_mem) | omega), neN (by first | exact (apL (by with_reducible assumption) (by k_mem)).symm | exact apL (by with_reducible assumption) (by k_mem) | omega), neN (by first | exact (apL (by with_reducible assumption) (by k_mem)).symm | exact apL (by with_reducible assumption) (by k_mem) | omega)⟩)))
        · rw [hst2.2]; exact rat_new (Or.inr (mem_strip (by k_mem) (by simp only [List.map_cons, List.map_nil, List.mem_cons, List.not_mem_nil, or_false, not_or]; exact ⟨neN (by first | exact (apL (by with_reducible assumption) (by k_mem)).symm | exact apL (by with_reducible assumption) (by k_mem) | omega), neN (by first | exact (apL (by with_reducible assumption) (by k_mem)).symm | exact apL (by with_reducible assumption) (by k_mem) | omega), neN (by first | exact (apL (by with_reducible assumption) (by k_mem)).symm | exact apL (by with_reducible assumption) (by k_mem) | omega)⟩)))
      · have hpart : dfPart (fun wm : Rat => wm - rb) (sz, wm) (rh - dfG (fun wm : Rat => wm - rb) (ls.take i) rh) = sz := if_neg (by assumption)
        rw [hpart] at hst2
        unfold Hold
        (rename News _ _ _ _ => NN)
        refine unr_mut [(x, instObj 174 d), (d, tankD w.params k1 (.ref l0))] (by k_asm) NN (by k_mem) (two_of (by k_mem) (by k_mem)) (two_of nIx nId) ⟨trivial, ?_⟩
        have hsub : ∀ p ∈ tl, p ∈ strip (I :: List.map (·.1) [(x, instObj 174 d), (d, tankD w.params k1 (.ref l0))]) _ := fun p hp => mem_strip ((subs_of NN (by intro p9 hp9; first | ((repeat (first | exact hp9 | exact List.mem_append_left _ hp9 | exact List.mem_append_right _ hp9 | refine List.mem_cons_of_mem _ ?_)); done) | (simp only [List.mem_cons, List.mem_append]; simp only [hp9, true_or, or_true])) : ∀ p ∈ tl, p ∈ _) p hp) (by simp only [List.map_cons, List.map_nil, List.mem_cons, List.not_mem_nil, or_false, not_or]; exact ⟨htI p hp, hdx p hp, hdd p hp⟩)
        refine ⟨_, _, _, rfl, fun p hp e => (strip_mem hp).2 (by rw [e]; simp), fun p hp e => (strip_mem hp).2 (by rw [e]; simp), by first | rfl | assumption, by first | rfl | assumption, by first | rfl | assumption, rfl, rfl, ?_, ?_⟩
        · rw [hst2.1]; exact rat_new (Or.inr (mem_strip (by k_mem) (by simp only [List.map_cons, List.map_nil, List.mem_cons, List.not_mem_nil, or_false, not_or]; exact ⟨neN (by first | exact (apL (by with_reducible assumption) (by k_mem)).symm | exact apL (by with_reducible assumption) (by k_mem) | omega), neN (by first | exact (apL (by with_reducible assumption) (by k_mem)).symm | exact apL (by with_reducible assumption) (by k_mem) | omega), neN (by first | exact (apL (by with_reducible assumption) (by k_mem)).symm | exact apL (by with_reducible assumption) (by k_mem) | omega)⟩)))
        · rw [hst2.2]; exact rat_new (Or.inr (mem_strip (by k_mem) (by simp only [List.map_cons, List.map_nil, List.mem_cons, List.not_mem_nil, or_false, not_or]; exact ⟨neN (by first | exact (apL (by with_reducible assumption) (by k_mem)).symm | exact apL (by with_reducible assumption) (by k_mem) | omega), neN (by first | exact (apL (by with_reducible assumption) (by k_mem)).symm | exact apL (by with_reducible assumption) (by k_mem) | omega), neN (by first | exact (apL (by with_reducible assumption) (by k_mem)).symm | exact apL (by with_reducible assumption) (by k_mem) | omega)⟩)))
  case done =>
    intro m nx h tk hJ Fm Nn
    rw [List.length_map, hv.length, List.take_length] at hJ
    obtain ⟨vl, vg, tl, rfl, hdx, hdd, hm1, hm2, hm3, hm4, hm5, ⟨Dl, tl1, tl2, cl, rfl, eL⟩, ⟨Dg, tg1, tg2, cg, rfl, eG⟩⟩ := hJ
    simp only [List.cons_append, List.nil_append] at Nn
    have eb' := hT tl _ _ (.inl eb)
    have eL' := hT tl _ _ eL
    have bL := (hbd ls.length).1
    rw [List.take_length] at bL
    have hdf : dfL (fun wm : Rat => wm - rb) ls rh = dfL (fun wm : Rat => wm - rb) ls rh ∧ dfG (fun wm : Rat => wm - rb) ls rh = dfG (fun wm : Rat => wm - rb) ls rh := ⟨rfl, rfl⟩
    have hdl : dfL (fun wm : Rat => wm - rb) ls rh ≤ tot (ls.map (·.1)) := hdm.2.1
    have hdz := hdm.1
    have hf' := hf
    have hbl' := hbl
    k_steps
    unfold Hold
    (rename News _ _ _ _ => N8)
    (rename Fr _ _ _ _ => F8)
    have hP8 : ∀ a o, PT P tl a o → _ := fun a o e => (hT tl a o e).get F8 N8 (by intro p9 hp9; first | ((repeat (first | exact hp9 | exact List.mem_append_left _ hp9 | exact List.mem_append_right _ hp9 | refine List.mem_cons_of_mem _ ?_)); done) | (simp only [List.mem_cons, List.mem_append]; simp only [hp9, true_or, or_true]))
    k_dflt (refine' drawG_c (P := PT P tl) (x := x) (d := d) (vs := vs) (ls := ls) (n0 := n0) (b := b) (bx := b) (bw := b) (rx := dfL (fun wm : Rat => wm - rb) ls rh) (rw' := rb) ?k1 ?k2 ?k3 ?k4 ?k5 ?k6 ?ex0 ?U ?ndx hP8 ?hPn ?el ?hv ?hne ?hb ?hlen ?hll ?ex ?hbx ?hx0 ?hx1 ?h1x ?hlen2 ?ew ?hbw ?hbw2 ?hf ?hbl ?k7 ?k8 ?_)
    case k1 => k_asm
    case k2 => k_asm
    case k3 => k_asm
    case k4 => k_asm
    case k5 => k_asm
    case k6 => first | exact rfl | assumption
    case k7 => ktr_room
    case k8 => ktr_units
    case ex0 => k_mem
    case U => k_updF
    case ndx => exact ndx
    case hPn => exact fun a o e => e.elim (hPn a o) fun h => ⟨hdx _ h, hdd _ h⟩
    case el => exact .inl el
    case hv => exact hv.mono fun _ _ y => y.mono fun _ _ e => .inl e
    case hne => exact hne
    case hb => exact hb
    case hlen => exact Nat.le_trans (Nat.add_le_add_right (Nat.mul_le_mul hll (Nat.add_le_add_right hbs 1)) 1) (by decide)
    case hll => omega
    case ex => exact eL
    case hbx => exact bL
    case hx0 => exact hdz
    case hx1 => exact hdl
    case h1x => exact hb1
    case hlen2 => exact Nat.le_trans (Nat.add_le_add_right (Nat.add_le_add (Nat.mul_le_mul_left 2 (Nat.add_le_add hbs (Nat.mul_le_mul hll (Nat.add_le_add_right hbs 1)))) hbs) 2) (by decide)
    case ew => exact .inl eb
    case hbw => exact hbb
    case hbw2 => omega
    case hf => exact hf'
    case hbl => exact fun _ => hbl'

    intro vo v' tl9 h9 tk9 F9 N9 n9 Lo9 Lv9
    (try dsimp only at N9)
    simp only [List.cons_append, List.nil_append] at N9
    k_steps
    try dsimp only
    refine leaveN_ (by k_asm) (by k_asm) ?_; intro kF kN kR kD; (try dsimp only)
    have hTL := subs_of (TL := tl ++ tl9) kN (List.forall_mem_append.mpr ⟨(by intro p9 hp9; first | ((repeat (first | exact hp9 | exact List.mem_append_left _ hp9 | exact List.mem_append_right _ hp9 | refine List.mem_cons_of_mem _ ?_)); done) | (simp only [List.mem_cons, List.mem_append]; simp only [hp9, true_or, or_true])), (by intro p9 hp9; first | ((repeat (first | exact hp9 | exact List.mem_append_left _ hp9 | exact List.mem_append_right _ hp9 | refine List.mem_cons_of_mem _ ?_)); done) | (simp only [List.mem_cons, List.mem_append]; simp only [hp9, true_or, or_true]))⟩)
    exact hret (.ref Dg) v' (tl ++ tl9) _ _ kF (news_app2 (fun p hp => kN p (hTL p hp)) (news_upd1 N ex0 U kN (by k_mem) (by k_mem) kR))
      (apart2 kD hTL (List.forall_mem_append.mpr ⟨hdx, off_of n9 (by k_mem)⟩) (List.forall_mem_append.mpr ⟨hdd, off_of n9 (by k_mem)⟩))
      (by rw [hdf.2]; exact ⟨Dg, tg1, tg2, cg, rfl, eG.imp id fun h => List.mem_append_left _ h⟩)
      (by rw [hdf.1]; exact Lv9.mono fun a o e => e.elim (fun e => e.imp id fun h => List.mem_append_left _ h) fun h => .inr (List.mem_append_right _ h))
-- charge_with
theorem chargew_c {w : World} {p : Program} {loose : List Str} {mean : ExcName → Option Value} {mg mb : Str → Option Value} {dp un : Nat} {gd : Option (List Code)} {cn : Str} {cs : Scope} {a : Addr} {ccd : Value} {cl : List (Str × Addr)} {outer : List Env} {A₀ : Around} {base h₀ : Heap} {L : Addr} {m : Str → Option Value} {news : List (Addr × Obj)} {s : Shared} {Q E : Value → Shared → Prop} {P : Addr → Obj → Prop} {x d l0 : Addr} {k1 : Tok} {vs : List Value} {ls : List Lay} {n0 b : Nat} {Dh Db : Addr} {rh rb : Rat} {th th' tb tb' tn tn' : Tok} {ch cb cn0 : Nat} {g1 : Obj → List (Addr × Obj)}
    (B : Below A₀ base outer h₀) (F : Fr h₀ L s.heap m) (X : (HD.K w.params).In h₀) (N : News h₀ L s.heap news) (T : Top p loose mean mg mb h₀) (hk : cs.kind = .function) (ex0 : (x, instObj 174 d) ∈ news) (U : UpdF d (tankD w.params k1 (.ref l0)) news g1) (ndx : d ≠ x) (hP : ∀ a o, P a o → s.heap.get? a = some o) (hPn : ∀ a o, P a o → a ≠ x ∧ a ≠ d) (el : P l0 (listOf vs.toArray n0)) (hv : All2 (LayN P) vs ls) (hne : ls ≠ []) (hb : ∀ l ∈ ls, Bd b l.1) (hb2 : ∀ l ∈ ls, Bd b l.2) (hll : ls.length ≤ 20) (hbs : b ≤ 100) (hb1 : 1 ≤ b)
    (hg : ∀ l ∈ ls, 0 < rb - l.2) (hpos : ∀ l ∈ ls, 0 < l.1) (eh : P Dh (RatO rh th th' ch)) (hbh : Bd b rh) (hh0 : 0 ≤ rh) (eb : P Db (RatO rb tb tb' cb)) (hbb : Bd b rb) (en : P 28 (RatO 0 tn tn' cn0))
    (hbd : ∀ i, Bd b (dfL (fun wm : Rat => rb - wm) (ls.reverse.take i) rh) ∧ Bd b (dfG (fun wm : Rat => rb - wm) (ls.reverse.take i) rh)) (hf : 0 < dfL (fun wm : Rat => rb - wm) ls.reverse rh → Falls (((dfL (fun wm : Rat => rb - wm) ls.reverse rh), rb) :: (cutF ls.reverse (dfL (fun wm : Rat => rb - wm) ls.reverse rh)).rest.reverse)) (hbl : ∀ l ∈ ((dfL (fun wm : Rat => rb - wm) ls.reverse rh), rb) :: (cutF ls.reverse (dfL (fun wm : Rat => rb - wm) ls.reverse rh)).rest.reverse, Bd b l.2)
    (hd : dp + 40 < recursionLimit) (hu : un + 1400 < cLine)
    (hret : ∀ (vg v' : Value) (tl : List (Addr × Obj)) (h' : Heap) (tk' : Nat), Fr h₀ L h' m → News h₀ L h' (g1 (tankD w.params k1 v') ++ tl) → (∀ p ∈ news, ∀ q ∈ tl, p.1 ≠ q.1) → RatN (PT P tl) vg (dfG (fun wm : Rat => rb - wm) ls.reverse rh) → LaysN (PT P tl) v' (if 0 < dfL (fun wm : Rat => rb - wm) ls.reverse rh then ((dfL (fun wm : Rat => rb - wm) ls.reverse rh), rb) :: (cutF ls.reverse (dfL (fun wm : Rat => rb - wm) ls.reverse rh)).rest.reverse else ls) → Q vg { s with heap := h', toks := tk' }) :
    wpAny (model PySem.Challenge.rw_ui0509_10.row.prog w) (ktrTop dp un gd cn cs L a ccd cl outer) (call (.ref 213) [.ref x, .ref Dh, .ref Db]) Q E s := by
  w_top off
  revert X; k_fill; intro X
  refine wpAny_call ?_
  k_dflt (refine' code_need [(x, instObj 174 d), (d, tankD w.params k1 (.ref l0))] ?k1 ?k2 ?k3 ?k4 ?k5 ?kA ?kF ?kK ?k6 ?k7 ?k8 ?k9 ?kB ?kN ?_ ?c2 ?c3 ?c4 ?c5; (case kA => exact rfl); (case kF => exact rfl); (case kK => assumption); (case k1 => k_asm); (case k2 => k_asm); (case k3 => k_asm); (case k4 => k_asm); (case k5 => k_asm); (case k6 => k_is); (case k7 => k_is); (case k8 => ktr_room); (case k9 => first | exact BindsTo.of_eq rfl | exact binds_K (by k_in) rfl (by k_is) rfl rfl rfl); (case c5 => decide); (case kB => exact locs rfl); (case kN => exact two_in ex0 (UpdF.mem U)); (case c2 => exact rfl); (case c3 => exact rfl); (case c4 => exact rfl); k_whole; intro g' L' h' tk0 FG' F' N' B' X' T' hG'; (try dsimp only); (try k_fold))
  have hT := ground2 hP hPn hG'
  have elT := hT [] _ _ (.inl el)
  have ehT := hT [] _ _ (.inl eh)
  have ebT := hT [] _ _ (.inl eb)
  have el' : g'.get? l0 = some (listOf vs.toArray n0) := elT.elim (fun h => nomatch h) id
  replace ndx := neN ndx
  have hvl := hv.length
  have hdm := df_main (g := (fun wm : Rat => rb - wm)) (ls := ls.reverse) (r := rh) (fun l hl => hpos l (List.mem_reverse.mp hl)) (fun l hl => hg l (List.mem_reverse.mp hl)) hh0
  k_steps
  unfold Hold
  rename_i R9 hR FR NR lR
  refine iter_listTurns rfl (by k_asm) (by k_asm) (List.mem_cons_self ..) rfl rfl (fun I lI => ?_)
  refine items_ind (fun i m nx => ∃ (vl vg : Value) (tl : List (Addr × Obj)), nx = [(R9, listOf vs.reverse.toArray 0), (x, instObj 174 d), (d, tankD w.params k1 (.ref l0))] ++ tl ∧ (∀ p ∈ tl, p.1 ≠ x) ∧ (∀ p ∈ tl, p.1 ≠ d) ∧ (∀ p ∈ tl, p.1 ≠ R9) ∧
    m (Str.ofString "tank") = some (.ref x) ∧ m (Str.ofString "heat") = some (.ref Dh) ∧ m (Str.ofString "sent") = some (.ref Db) ∧ m (Str.ofString "litres") = some vl ∧ m (Str.ofString "used") = some vg ∧ RatN (PT P tl) vl (dfL (fun wm : Rat => rb - wm) (ls.reverse.take i) rh) ∧ RatN (PT P tl) vg (dfG (fun wm : Rat => rb - wm) (ls.reverse.take i) rh)) ?turn ?done _ 0 _ _ rfl (Nat.zero_le _) ⟨by k_mem, trivial⟩ (fun p hp => Nat.ne_of_lt (lI p hp)) ?init
  case init => exact ⟨_, _, [], rfl, (fun _ h => nomatch h), (fun _ h => nomatch h), (fun _ h => nomatch h), rfl, rfl, rfl, rfl, rfl, ⟨_, tn, tn', cn0, rfl, .inl en⟩, ⟨_, tn, tn', cn0, rfl, .inl en⟩⟩
  case turn =>
    intro i a v m nx h tk o ha _ hI hJ hav Fm ho Nn
    obtain ⟨vl, vg, tl, rfl, hdx, hdd, hdR, hm1, hm2, hm3, hm4, hm5, ⟨Dl, tl1, tl2, cl, rfl, eL⟩, ⟨Dg, tg1, tg2, cg, rfl, eG⟩⟩ := hJ
    obtain ⟨⟨sz, wm⟩, hl, D, v1, v2, c, rfl, eD, ⟨D1, t1, t1', c1, rfl, e1⟩, ⟨D2, t2, t2', c2, rfl, e2⟩⟩ := (hv.reverse).get (val_get ha hav)
    have eD' := hT tl _ _ (.inl eD)
    have e1' := hT tl _ _ (.inl e1)
    have e2' := hT tl _ _ (.inl e2)
    have eh' := hT tl _ _ (.inl eh)
    have eb' := hT tl _ _ (.inl eb)
    have eL' := hT tl _ _ eL
    have eG' := hT tl _ _ eG
    have hmem := List.mem_reverse.mp (List.mem_of_getElem? hl)
    have bS := hb _ hmem
    have bW := hb2 _ hmem
    have hgp := hg _ hmem
    obtain ⟨bL, bG⟩ := hbd i
    dsimp only at e1' e2' bS bW hgp
    have hgn := num_pos.mpr hgp
    have hgz : rb - wm ≠ 0 := by grind
    simp only [List.cons_append, List.nil_append] at Nn hI
    have nIR := neN (hI _ (List.mem_cons_self ..))
    have nIx := neN (hI _ (List.mem_cons_of_mem _ (List.mem_cons_self ..)))
    have nId := neN (hI _ (List.mem_cons_of_mem _ (List.mem_cons_of_mem _ (List.mem_cons_self ..))))
    have htI : ∀ p ∈ tl, p.1 ≠ I := fun p hp => hI p (List.mem_cons_of_mem _ (List.mem_cons_of_mem _ (List.mem_cons_of_mem _ hp)))
    clear hI
    by_cases hst : dfG (fun wm : Rat => rb - wm) (ls.reverse.take i) rh = rh
    · have hdf := df_stop hst
      have hdl : dfL (fun wm : Rat => rb - wm) (ls.reverse.take i) rh ≤ tot (ls.map (·.1)) := by rw [← hdf.1]; have := hdm.2.1; rw [List.map_reverse, tot_rev] at this; exact this
      have hdz : 0 ≤ dfL (fun wm : Rat => rb - wm) (ls.reverse.take i) rh := by rw [← hdf.1]; exact hdm.1
      have hf' : 0 < dfL (fun wm : Rat => rb - wm) (ls.reverse.take i) rh → Falls (((dfL (fun wm : Rat => rb - wm) (ls.reverse.take i) rh), rb) :: (cutF ls.reverse (dfL (fun wm : Rat => rb - wm) (ls.reverse.take i) rh)).rest.reverse) := fun h => by rw [← hdf.1] at h ⊢; exact hf h
      have hbl' : ∀ l ∈ ((dfL (fun wm : Rat => rb - wm) (ls.reverse.take i) rh), rb) :: (cutF ls.reverse (dfL (fun wm : Rat => rb - wm) (ls.reverse.take i) rh)).rest.reverse, Bd b l.2 := by rw [← hdf.1]; exact hbl
      k_steps
      unfold Hold
      (rename News _ _ _ _ => N8)
      (rename Fr _ _ _ _ => F8)
      have hP8 : ∀ a o, PT P tl a o → _ := fun a o e => (hT tl a o e).get F8 N8 (by intro p9 hp9; first | ((repeat (first | exact hp9 | exact List.mem_append_left _ hp9 | exact List.mem_append_right _ hp9 | refine List.mem_cons_of_mem _ ?_)); done) | (simp only [List.mem_cons, List.mem_append]; simp only [hp9, true_or, or_true]))
      k_dflt (refine' chargeG_c (P := PT P tl) (x := x) (d := d) (vs := vs) (ls := ls) (n0 := n0) (b := b) (bx := b) (bw := b) (rx := dfL (fun wm : Rat => rb - wm) (ls.reverse.take i) rh) (rw' := rb) ?k1 ?k2 ?k3 ?k4 ?k5 ?k6 ?ex0 ?U ?ndx hP8 ?hPn ?el ?hv ?hne ?hb ?hlen ?hll ?ex ?hbx ?hx0 ?hx1 ?h1x ?hlen2 ?ew ?hbw ?hbw2 ?hf ?hbl ?k7 ?k8 ?_)
      case k1 => k_asm
      case k2 => k_asm
      case k3 => k_asm
      case k4 => k_asm
      case k5 => k_asm
      case k6 => first | exact rfl | assumption
      case k7 => ktr_room
      case k8 => ktr_units
      case ex0 => k_mem
      case U => k_updF
      case ndx => exact ndx
      case hPn => exact fun a o e => e.elim (hPn a o) fun h => ⟨hdx _ h, hdd _ h⟩
      case el => exact .inl el
      case hv => exact hv.mono fun _ _ y => y.mono fun _ _ e => .inl e
      case hne => exact hne
      case hb => exact hb
      case hlen => exact Nat.le_trans (Nat.add_le_add_right (Nat.mul_le_mul hll (Nat.add_le_add_right hbs 1)) 1) (by decide)
      case hll => omega
      case ex => exact eL
      case hbx => exact bL
      case hx0 => exact hdz
      case hx1 => exact hdl
      case h1x => exact hb1
      case hlen2 => exact Nat.le_trans (Nat.add_le_add_right (Nat.add_le_add (Nat.mul_le_mul_left 2 (Nat.add_le_add hbs (Nat.mul_le_mul hll (Nat.add_le_add_right hbs 1)))) hbs) 2) (by decide)
      case ew => exact .inl eb
      case hbw => exact hbb
      case hbw2 => omega
      case hf => exact hf'
      case hbl => exact fun _ => hbl'

      intro vo v' tl9 h9 tk9 F9 N9 n9 Lo9 Lv9
      (try dsimp only at N9)
      simp only [List.cons_append, List.nil_append] at N9
      k_steps
      try dsimp only
      refine leaveN_ (by k_asm) (by k_asm) ?_; intro kF kN kR kD; (try dsimp only)
      have hTL := subs_of (TL := tl ++ tl9) kN (List.forall_mem_append.mpr ⟨(by intro p9 hp9; first | ((repeat (first | exact hp9 | exact List.mem_append_left _ hp9 | exact List.mem_append_right _ hp9 | refine List.mem_cons_of_mem _ ?_)); done) | (simp only [List.mem_cons, List.mem_append]; simp only [hp9, true_or, or_true])), (by intro p9 hp9; first | ((repeat (first | exact hp9 | exact List.mem_append_left _ hp9 | exact List.mem_append_right _ hp9 | refine List.mem_cons_of_mem _ ?_)); done) | (simp only [List.mem_cons, List.mem_append]; simp only [hp9, true_or, or_true]))⟩)
      exact hret (.ref Dg) v' (tl ++ tl9) _ _ kF (news_app2 (fun p hp => kN p (hTL p hp)) (news_upd1 N ex0 U kN (by k_mem) (by k_mem) kR))
        (apart2 kD hTL (List.forall_mem_append.mpr ⟨hdx, off_of n9 (by k_mem)⟩) (List.forall_mem_append.mpr ⟨hdd, off_of n9 (by k_mem)⟩))
        (by rw [hdf.2]; exact ⟨Dg, tg1, tg2, cg, rfl, eG.imp id fun h => List.mem_append_left _ h⟩)
        (by rw [hdf.1]; exact Lv9.mono fun a o e => e.elim (fun e => e.imp id fun h => List.mem_append_left _ h) fun h => .inr (List.mem_append_right _ h))
    · have hst2 := df_step hl hst
      dsimp only at hst2
      k_steps
      · have hpart : dfPart (fun wm : Rat => rb - wm) (sz, wm) (rh - dfG (fun wm : Rat => rb - wm) (ls.reverse.take i) rh) = (rh - dfG (fun wm : Rat => rb - wm) (ls.reverse.take i) rh) / (rb - wm) := if_pos (by assumption)
        rw [hpart] at hst2
        unfold Hold
        (rename News _ _ _ _ => NN)
        refine unr_mut [(R9, listOf vs.reverse.toArray 0), (x, instObj 174 d), (d, tankD w.params k1 (.ref l0))] (by k_asm) NN (by k_mem) (three_of (by k_mem) (by k_mem) (by k_mem)) (three_of nIR nIx nId) ⟨⟨List.mem_cons_self .., trivial⟩, ?_⟩
        have hsub : ∀ p ∈ tl, p ∈ strip (I :: List.map (·.1) [(R9, listOf vs.reverse.toArray 0), (x, instObj 174 d), (d, tankD w.params k1 (.ref l0))]) _ := fun p hp => mem_strip ((subs_of NN (by intro p9 hp9; first | ((repeat (first | exact hp9 | exact List.mem_append_left _ hp9 | exact List.mem_append_right _ hp9 | refine List.mem_cons_of_mem _ ?_)); done) | (simp only [List.mem_cons, List.mem_append]; simp only [hp9, true_or, or_true])) : ∀ p ∈ tl, p ∈ _) p hp) (by simp only [List.map_cons, List.map_nil, List.mem_cons, List.not_mem_nil, or_false, not_or]; exact ⟨htI p hp, hdR p hp, hdx p hp, hdd p hp⟩)
        refine ⟨_, _, _, rfl, fun p hp e => (strip_mem hp).2 (by rw [e]; simp), fun p hp e => (strip_mem hp).2 (by rw [e]; simp), fun p hp e => (strip_mem hp).2 (by rw [e]; simp), by first | rfl | assumption, by first | rfl | assumption, by first | rfl | assumption, rfl, rfl, ?_, ?_⟩
        · rw [hst2.1]; exact rat_new (Or.inr (mem_strip (by k_mem) (by simp only [List.map_cons, List.map_nil, List.mem_cons, List.not_mem_nil, or_false, not_or]; exact ⟨neN (by first | exact (apL (by with_reducible assumption) (by k_mem)).symm | exact apL (by with_reducible assumption) (by k_mem) | omega), neN (by first | exact (apL (by with_reducible assumption) (by k_mem)).symm | exact apL (by with_reducible assumption) (by k_mem) | omega), neN (by first | exact (apL (by with_reducible assumption) (by k_mem)).symm | exact apL (by with_reducible assumption) (by k_mem) | omega), neN (by first | exact (apL (by with_reducible assumption) (by k_mem)).symm | exact apL (by with_reducible assumption) (by k_mem) | omega)⟩)))
        · rw [hst2.2]; exact rat_new (Or.inr (mem_strip (by k_mem) (by simp only [List.map_cons, List.map_nil, List.mem_cons, List.not_mem_nil, or_false, not_or]; exact ⟨neN (by first | exact (apL (by with_reducible assumption) (by k_mem)).symm | exact apL (by with_reducible assumption) (by k_mem) | omega), neN (by first | exact (apL (by with_reducible assumption) (by k_mem)).symm | exact apL (by with_reducible assumption) (by k_mem) | omega), neN (by first | exact (apL (by with_reducible assumption) (by k_mem)).symm | exact apL (by with_reducible assumption) (by k_mem) | omega), neN (by first | exact (apL (by with_reducible assumption) (by k_mem)).symm | exact apL (by with_reducible assumption) (by k_mem) | omega)⟩)))
      · have hpart : dfPart (fun wm : Rat => rb - wm) (sz, wm) (rh - dfG (fun wm : Rat => rb - wm) (ls.reverse.take i) rh) = sz := if_neg (by assumption)
        rw [hpart] at hst2
        unfold Hold
        (rename News _ _ _ _ => NN)
        refine unr_mut [(R9, listOf vs.reverse.toArray 0), (x, instObj 174 d), (d, tankD w.params k1 (.ref l0))] (by k_asm) NN (by k_mem) (three_of (by k_mem) (by k_mem) (by k_mem)) (three_of nIR nIx nId) ⟨⟨List.mem_cons_self .., trivial⟩, ?_⟩
        have hsub : ∀ p ∈ tl, p ∈ strip (I :: List.map (·.1) [(R9, listOf vs.reverse.toArray 0), (x, instObj 174 d), (d, tankD w.params k1 (.ref l0))]) _ := fun p hp => mem_strip ((subs_of NN (by intro p9 hp9; first | ((repeat (first | exact hp9 | exact List.mem_append_left _ hp9 | exact List.mem_append_right _ hp9 | refine List.mem_cons_of_mem _ ?_)); done) | (simp only [List.mem_cons, List.mem_append]; simp only [hp9, true_or, or_true])) : ∀ p ∈ tl, p ∈ _) p hp) (by simp only [List.map_cons, List.map_nil, List.mem_cons, List.not_mem_nil, or_false, not_or]; exact ⟨htI p hp, hdR p hp, hdx p hp, hdd p hp⟩)
        refine ⟨_, _, _, rfl, fun p hp e => (strip_mem hp).2 (by rw [e]; simp), fun p hp e => (strip_mem hp).2 (by rw [e]; simp), fun p hp e => (strip_mem hp).2 (by rw [e]; simp), by first | rfl | assumption, by first | rfl | assumption, by first | rfl | assumption, rfl, rfl, ?_, ?_⟩
        · rw [hst2.1]; exact rat_new (Or.inr (mem_strip (by k_mem) (by simp only [List.map_cons, List.map_nil, List.mem_cons, List.not_mem_nil, or_false, not_or]; exact ⟨neN (by first | exact (apL (by with_reducible assumption) (by k_mem)).symm | exact apL (by with_reducible assumption) (by k_mem) | omega), neN (by first | exact (apL (by with_reducible assumption) (by k_mem)).symm | exact apL (by with_reducible assumption) (by k_mem) | omega), neN (by first | exact (apL (by with_reducible assumption) (by k_mem)).symm | exact apL (by with_reducible assumption) (by k_mem) | omega), neN (by first | exact (apL (by with_reducible assumption) (by k_mem)).symm | exact apL (by with_reducible assumption) (by k_mem) | omega)⟩)))
        · rw [hst2.2]; exact rat_new (Or.inr (mem_strip (by k_mem) (by simp only [List.map_cons, List.map_nil, List.mem_cons, List.not_mem_nil, or_false, not_or]; exact ⟨neN (by first | exact (apL (by with_reducible assumption) (by k_mem)).symm | exact apL (by with_reducible assumption) (by k_mem) | omega), neN (by first | exact (apL (by with_reducible assumption) (by k_mem)).symm | exact apL (by with_reducible assumption) (by k_mem) | omega), neN (by first | exact (apL (by with_reducible assumption) (by k_mem)).symm | exact apL (by with_reducible assumption) (by k_mem) | omega), neN (by first | exact (apL (by with_reducible assumption) (by k_mem)).symm | exact apL (by with_reducible assumption) (by k_mem) | omega)⟩)))
  case done =>
    intro m nx h tk hJ Fm Nn
    rw [List.length_map, hv.reverse.length, List.take_length] at hJ
    obtain ⟨vl, vg, tl, rfl, hdx, hdd, hdR, hm1, hm2, hm3, hm4, hm5, ⟨Dl, tl1, tl2, cl, rfl, eL⟩, ⟨Dg, tg1, tg2, cg, rfl, eG⟩⟩ := hJ
    simp only [List.cons_append, List.nil_append] at Nn
    have eb' := hT tl _ _ (.inl eb)
    have eL' := hT tl _ _ eL
    have bL := (hbd ls.reverse.length).1
    rw [List.take_length] at bL
    have hdf : dfL (fun wm : Rat => rb - wm) ls.reverse rh = dfL (fun wm : Rat => rb - wm) ls.reverse rh ∧ dfG (fun wm : Rat => rb - wm) ls.reverse rh = dfG (fun wm : Rat => rb - wm) ls.reverse rh := ⟨rfl, rfl⟩
    have hdl : dfL (fun wm : Rat => rb - wm) ls.reverse rh ≤ tot (ls.map (·.1)) := by have := hdm.2.1; rw [List.map_reverse, tot_rev] at this; exact this
    have hdz := hdm.1
    have hf' := hf
    have hbl' := hbl
    k_steps
    unfold Hold
    (rename News _ _ _ _ => N8)
    (rename Fr _ _ _ _ => F8)
    have hP8 : ∀ a o, PT P tl a o → _ := fun a o e => (hT tl a o e).get F8 N8 (by intro p9 hp9; first | ((repeat (first | exact hp9 | exact List.mem_append_left _ hp9 | exact List.mem_append_right _ hp9 | refine List.mem_cons_of_mem _ ?_)); done) | (simp only [List.mem_cons, List.mem_append]; simp only [hp9, true_or, or_true]))
    k_dflt (refine' chargeG_c (P := PT P tl) (x := x) (d := d) (vs := vs) (ls := ls) (n0 := n0) (b := b) (bx := b) (bw := b) (rx := dfL (fun wm : Rat => rb - wm) ls.reverse rh) (rw' := rb) ?k1 ?k2 ?k3 ?k4 ?k5 ?k6 ?ex0 ?U ?ndx hP8 ?hPn ?el ?hv ?hne ?hb ?hlen ?hll ?ex ?hbx ?hx0 ?hx1 ?h1x ?hlen2 ?ew ?hbw ?hbw2 ?hf ?hbl ?k7 ?k8 ?_)
    case k1 => k_asm
    case k2 => k_asm
    case k3 => k_asm
    case k4 => k_asm
    case k5 => k_asm
    case k6 => first | exact rfl | assumption
    case k7 => ktr_room
    case k8 => ktr_units
    case ex0 => k_mem
    case U => k_updF
    case ndx => exact ndx
    case hPn => exact fun a o e => e.elim (hPn a o) fun h => ⟨hdx _ h, hdd _ h⟩
    case el => exact .inl el
    case hv => exact hv.mono fun _ _ y => y.mono fun _ _ e => .inl e
    case hne => exact hne
    case hb => exact hb
    case hlen => exact Nat.le_trans (Nat.add_le_add_right (Nat.mul_le_mul hll (Nat.add_le_add_right hbs 1)) 1) (by decide)
    case hll => omega
    case ex => exact eL
    case hbx => exact bL
    case hx0 => exact hdz
    case hx1 => exact hdl
    case h1x => exact hb1
    case hlen2 => exact Nat.le_trans (Nat.add_le_add_right (Nat.add_le_add (Nat.mul_le_mul_left 2 (Nat.add_le_add hbs (Nat.mul_le_mul hll (Nat.add_le_add_right hbs 1)))) hbs) 2) (by decide)
    case ew => exact .inl eb
    case hbw => exact hbb
    case hbw2 => omega
    case hf => exact hf'
    case hbl => exact fun _ => hbl'

    intro vo v' tl9 h9 tk9 F9 N9 n9 Lo9 Lv9
    (try dsimp only at N9)
    simp only [List.cons_append, List.nil_append] at N9
    k_steps
    try dsimp only
    refine leaveN_ (by k_asm) (by k_asm) ?_; intro kF kN kR kD; (try dsimp only)
    have hTL := subs_of (TL := tl ++ tl9) kN (List.forall_mem_append.mpr ⟨(by intro p9 hp9; first | ((repeat (first | exact hp9 | exact List.mem_append_left _ hp9 | exact List.mem_append_right _ hp9 | refine List.mem_cons_of_mem _ ?_)); done) | (simp only [List.mem_cons, List.mem_append]; simp only [hp9, true_or, or_true])), (by intro p9 hp9; first | ((repeat (first | exact hp9 | exact List.mem_append_left _ hp9 | exact List.mem_append_right _ hp9 | refine List.mem_cons_of_mem _ ?_)); done) | (simp only [List.mem_cons, List.mem_append]; simp only [hp9, true_or, or_true]))⟩)
    exact hret (.ref Dg) v' (tl ++ tl9) _ _ kF (news_app2 (fun p hp => kN p (hTL p hp)) (news_upd1 N ex0 U kN (by k_mem) (by k_mem) kR))
      (apart2 kD hTL (List.forall_mem_append.mpr ⟨hdx, off_of n9 (by k_mem)⟩) (List.forall_mem_append.mpr ⟨hdd, off_of n9 (by k_mem)⟩))
      (by rw [hdf.2]; exact ⟨Dg, tg1, tg2, cg, rfl, eG.imp id fun h => List.mem_append_left _ h⟩)
      (by rw [hdf.1]; exact Lv9.mono fun a o e => e.elim (fun e => e.imp id fun h => List.mem_append_left _ h) fun h => .inr (List.mem_append_right _ h))
theorem least_m {w : World} {p : Program} {loose : List Str} {mean : ExcName → Option Value} {mg mb : Str → Option Value} {dp un : Nat} {gd : Option (List Code)} {cn : Str} {cs : Scope} {a : Addr} {ccd : Value} {cl : List (Str × Addr)} {outer : List Env} {A₀ : Around} {base h₀ : Heap} {L : Addr} {m : Str → Option Value} {news : List (Addr × Obj)} {s : Shared} {Q E : Value → Shared → Prop} {D1 D2 : Addr} {r1 r2 : Rat} {t1 t1' t2 t2' : Tok} {c1 c2 n k : Nat}
    (B : Below A₀ base outer h₀) (F : Fr h₀ L s.heap m) (X : (HD.K w.params).In h₀) (N : News h₀ L s.heap news) (T : Top p loose mean mg mb h₀) (hk : cs.kind = .function) (e1 : s.heap.get? D1 = some (RatO r1 t1 t1' c1)) (e2 : s.heap.get? D2 = some (RatO r2 t2 t2' c2))
    (hd : dp + 5 < recursionLimit) (hu : un + 60 < cLine) (b1 : Bd n r1) (b2 : Bd k r2) (hb : k + n ≤ 100000)
    (hret : ∀ (D : Addr) (r : Rat) (h' : Heap) (tk' : Nat), ((D = D1 ∧ r = r1 ∧ ¬ r2 < r1) ∨ (D = D2 ∧ r = r2 ∧ r2 < r1)) → Fr h₀ L h' m → News h₀ L h' news → Q (.ref D) { s with heap := h', toks := tk' }) :
    wpAny (model PySem.Challenge.rw_ui0509_10.row.prog w) (ktrTop dp un gd cn cs L a ccd cl outer) (call (.ref 93) [.ref D1, .ref D2]) Q E s :=
  least_c B F X N T hk e1 e2 hd hu b1 b2 hb (fun hc h' tk' F' N' => hret D2 r2 h' tk' (.inr ⟨rfl, rfl, hc⟩) F' N') (fun hc h' tk' F' N' => hret D1 r1 h' tk' (.inl ⟨rfl, rfl, hc⟩) F' N')
-- a list comprehension with a test, by an invariant (over LCt.CompRestT of KE.KLcTest)
theorem comp_indT {prog : Program} {w : World} {A : Around} {s : Shared} {h₀ : Heap} {L : Addr} {m : Str → Option Value} {env : Env} {ct elt : Expr} {x : Str} {scope : Scope} {cl : List (Str × Addr)} {S : List (Addr × Obj) → Prop} {Pv : Nat → Value → Prop} {Fin : List Value → List (Addr × Obj) → Prop} {n : Nat} (J : Nat → List Value → List (Addr × Obj) → Prop)
    (turn : ∀ i v I oI C oC D m₂ h tk (E' : Value → Shared → Prop) ys news, i < n → J i ys news → Pv i v → LCg.NsObj oC m₂ → m₂ x = some v → Fr h₀ L h m → News h₀ L h ((I, oI) :: (C, oC) :: (D, LCg.lst ys) :: news) → LCg.Off3 I C D news → ((@Ne Nat I C) ∧ (@Ne Nat I D) ∧ (@Ne Nat C D)) →
      wpAny (model prog w) A (isTrue ct (compEnvC scope cl C env) (eval ct (compEnvC scope cl C env))) (fun ok s' => if ok = true then
        wpAny (model prog w) A (eval elt (compEnvC scope cl C env)) (LCg.CompEnd h₀ L m { s with heap := h, toks := tk } I oI C oC D (LCg.lst ys) S (fun y news' => J (i + 1) (ys ++ [y]) news')) E' s'
        else LCg.CompEnd h₀ L m { s with heap := h, toks := tk } I oI C oC D (LCg.lst ys) S (fun _ news' => J (i + 1) ys news') Value.none s') E' { s with heap := h, toks := tk })
    (fin : ∀ ys news, J n ys news → Fin ys news) :
    ∀ k i ys news, i + k = n → J i ys news → LCt.CompRestT prog w A h₀ L m env ct elt x scope cl s S Pv Fin k i ys news := by
  intro k
  induction k with
  | zero =>
    intro i ys news hk hJ
    have : i = n := by omega
    subst this
    exact LCt.CompRestT.zero (fin ys news hJ)
  | succ k ih =>
    intro i ys news hk hJ
    refine LCt.CompRestT.succ fun v I oI C oC D m₂ h tk E' hP hC hx F N off ne => ?_
    refine wpAny_mono (turn i v I oI C oC D m₂ h tk E' ys news (by omega) hJ hP hC hx F N off ne) (fun ok s' h₁ => ?_) fun _ _ e => e
    cases ok with
    | true =>
      refine wpAny_mono (h₁ : wpAny _ _ _ _ _ _) (fun y s₂ h₂ => ?_) fun _ _ e => e
      obtain ⟨h', tk', news', e, F', N', off', hS, r⟩ := h₂
      exact ⟨h', tk', news', e, F', N', off', hS, ih (i + 1) (ys ++ [y]) news' (by omega) r⟩
    | false =>
      rw [if_neg (by decide)] at h₁
      obtain ⟨h', tk', news', e, F', N', off', hS, r⟩ := h₁
      exact ⟨h', tk', news', e, F', N', off', hS, ih (i + 1) ys news' (by omega) r⟩
-- the plain law of 10
theorem bd_of {r : Rat} (h1 : r.num.natAbs < 2 ^ 60) (h2 : r.den < 2 ^ 60) : Bd 64 r := ⟨PySem.intBits_le_64 (by omega) (by omega), PySem.intBits_le_64 (by omega) (by omega)⟩
theorem gr_bd {c : Int} {x : Rat} (hc : 0 < c) (hc2 : c ≤ 1000000) (h : Gr c x) (h0 : -1000000 ≤ x) (h1 : x ≤ 1000000) : Bd 64 x := by
  obtain ⟨a, rfl⟩ := h
  have hcr : (0 : Rat) < (c : Rat) := Rat.intCast_lt_intCast.mpr (by omega : (0 : Int) < c)
  have e : (a : Rat) / (c : Rat) = Rat.divInt a c := by rw [Rat.divInt_eq_div]
  have hb1 : ((-1000000 * c : Int) : Rat) ≤ (a : Rat) := by
    have := Rat.mul_le_mul_of_nonneg_right h0 (Rat.le_of_lt hcr)
    rw [Rat.intCast_mul]
    have e2 : (a : Rat) / (c : Rat) * c = a := by grind
    rw [e2] at this
    exact this
  have hb2 : (a : Rat) ≤ ((1000000 * c : Int) : Rat) := by
    have := Rat.mul_le_mul_of_nonneg_right h1 (Rat.le_of_lt hcr)
    rw [Rat.intCast_mul]
    have e2 : (a : Rat) / (c : Rat) * c = a := by grind
    rw [e2] at this
    exact this
  have k1 : -1000000 * c ≤ a := Rat.intCast_le_intCast.mp hb1
  have k2 : a ≤ 1000000 * c := Rat.intCast_le_intCast.mp hb2
  rw [e]
  refine bd_of ?_ ?_
  · have h := num_le a c
    have : a.natAbs < 2 ^ 60 := by omega
    omega
  · have h := den_le (u := a) (l := c) (by omega)
    omega
structure L10 (ls : List Lay) : Prop where
  len : 2 ≤ ls.length ∧ ls.length ≤ 4
  at' : ∀ (i : Nat) (l : Lay), ls[i]? = some l → ∃ a b : Int, l = ((a : Rat), (b : Rat)) ∧ 1 ≤ a ∧ a ≤ 60 ∧ 91 - 12 * (i : Int) ≤ b ∧ b ≤ 95 - 12 * (i : Int)
namespace L10
variable {ls : List Lay} (H : L10 ls)
include H
theorem mem {l : Lay} (h : l ∈ ls) : ∃ a b : Int, l = ((a : Rat), (b : Rat)) ∧ 1 ≤ a ∧ a ≤ 60 ∧ 55 ≤ b ∧ b ≤ 95 := by
  obtain ⟨i, hi, e⟩ := List.mem_iff_getElem.mp h
  obtain ⟨a, b, e2, h1, h2, h3, h4⟩ := H.at' i l (by rw [List.getElem?_eq_getElem hi, e])
  have := H.len
  exact ⟨a, b, e2, h1, h2, by omega, by omega⟩
theorem ne : ls ≠ [] := by
  intro h
  have := H.len
  rw [h] at this
  simp at this
theorem falls : Falls ls := by
  intro i a b ha hb
  obtain ⟨_, x, e1, _, _, h1, _⟩ := H.at' i a ha
  obtain ⟨_, y, e2, _, _, _, h2⟩ := H.at' (i + 1) b hb
  rw [e1, e2]
  exact Rat.intCast_lt_intCast.mpr (by push_cast at h2; omega)
theorem pos : ∀ l ∈ ls, 0 < l.1 := by
  intro l hl
  obtain ⟨a, b, rfl, h1, _, _, _⟩ := H.mem hl
  exact Rat.intCast_lt_intCast.mpr (by omega : (0 : Int) < a)
theorem le60 : ∀ l ∈ ls, l.1 ≤ 60 := by
  intro l hl
  obtain ⟨a, b, rfl, _, h1, _, _⟩ := H.mem hl
  exact Rat.intCast_le_intCast.mpr (by omega : a ≤ (60 : Int))
theorem warm : ∀ l ∈ ls, 55 ≤ l.2 ∧ l.2 ≤ 95 := by
  intro l hl
  obtain ⟨a, b, rfl, _, _, h1, h2⟩ := H.mem hl
  exact ⟨Rat.intCast_le_intCast.mpr (by omega : (55 : Int) ≤ b), Rat.intCast_le_intCast.mpr (by omega : b ≤ (95 : Int))⟩
theorem int1 : ∀ l ∈ ls, ∃ a : Int, l.1 = (a : Rat) := fun l hl => by
  obtain ⟨a, b, rfl, _⟩ := H.mem hl
  exact ⟨a, rfl⟩
theorem bd1 : ∀ l ∈ ls, Bd 64 l.1 := by
  intro l hl
  obtain ⟨a, b, rfl, h1, h2, _, _⟩ := H.mem hl
  exact bd64 (by omega) (by omega)
theorem bd2 : ∀ l ∈ ls, Bd 64 l.2 := by
  intro l hl
  obtain ⟨a, b, rfl, _, _, h1, h2⟩ := H.mem hl
  exact bd64 (by omega) (by omega)
theorem gb {c : Int} (hc : 0 < c) : ∀ l ∈ ls, Gb c 60 l.1 := fun l hl => by
  obtain ⟨a, e⟩ := H.int1 l hl
  exact ⟨by rw [e]; exact Gr.int hc a, Rat.le_of_lt (H.pos l hl), H.le60 l hl⟩
end L10
theorem desc_falls {ls : List Lay} (h : Falls ls) : Desc ls := by
  induction ls with
  | nil => trivial
  | cons a ls ih =>
    cases ls with
    | nil => trivial
    | cons b ls => exact ⟨h 0 a b rfl rfl, ih fun i x y hx hy => h (i + 1) x y (by simpa using hx) (by simpa using hy)⟩
theorem cutK_len {ls : List Lay} {x : Rat} : (cutK ls x).length ≤ ls.length := by
  induction ls generalizing x with
  | nil => simp [cutK]
  | cons a ls ih =>
    unfold cutK
    split
    · exact Nat.le_refl _
    · split
      · simp
      · have := ih (x := x - a.1); simp; omega
theorem cutO_len {ls : List Lay} {x : Rat} : (cutO ls x).length ≤ ls.length := by
  induction ls generalizing x with
  | nil => simp [cutO]
  | cons a ls ih =>
    unfold cutO
    split
    · simp
    · split
      · simp
      · have := ih (x := x - a.1); simp; omega
theorem cutK_zero (ls : List Lay) : cutK ls 0 = ls := by cases ls <;> simp [cutK]
theorem cutO_zero (ls : List Lay) : cutO ls 0 = [] := by cases ls <;> simp [cutO]
theorem heatF_rev (b : Rat) (ls : List Lay) : heatF b ls.reverse = heatF b ls := by unfold heatF; rw [List.map_reverse, tot_rev]
theorem heatF_cons (b : Rat) (l : Lay) (ls : List Lay) : heatF b (l :: ls) = l.1 * (l.2 - b) + heatF b ls := by unfold heatF; rw [List.map_cons, tot_cons]
theorem heatF_app (b : Rat) (ls ks : List Lay) : heatF b (ls ++ ks) = heatF b ls + heatF b ks := by unfold heatF; rw [List.map_append, tot_app]
theorem heatF_nil (b : Rat) : heatF b [] = 0 := rfl
theorem tot1_rev (ls : List Lay) : tot (ls.reverse.map (·.1)) = tot (ls.map (·.1)) := by rw [List.map_reverse, tot_rev]
theorem all_rev {p : Lay → Prop} {ls : List Lay} (h : ∀ l ∈ ls, p l) : ∀ l ∈ ls.reverse, p l := fun l hl => h l (List.mem_reverse.mp hl)
theorem heat_nonneg {ls : List Lay} {b : Rat} (hp : ∀ l ∈ ls, 0 < l.1) (hw : ∀ l ∈ ls, b ≤ l.2) : 0 ≤ heatF b ls := by
  induction ls with
  | nil => exact Rat.le_refl
  | cons l ls ih =>
    rw [heatF_cons]
    have h1 := ih (fun l hl => hp l (List.mem_cons_of_mem _ hl)) (fun l hl => hw l (List.mem_cons_of_mem _ hl))
    have h2 := Rat.mul_nonneg (Rat.le_of_lt (hp l (List.mem_cons_self ..))) (show 0 ≤ l.2 - b by have := hw l (List.mem_cons_self ..); grind)
    grind
theorem one_lay {p : Lay → Prop} {a : Lay} (h : p a) : ∀ l ∈ [a], p l := fun l hl => by rw [List.mem_singleton.mp hl]; exact h
-- what charging x litres of 96 does, and drawing them
structure A10 (ls : List Lay) (x : Rat) (K out : List Lay) : Prop where
  eo : (cutF ls.reverse x).out = out
  er : (cutF ls.reverse x).rest = K
  to : tot (out.map (·.1)) = x
  he : heatF 30 ((x, 96) :: K.reverse) = heatF 30 ls + x * (96 - 30) - heatF 30 out
  f1 : Falls ((x, 96) :: K.reverse)
  b1 : ∀ l ∈ (x, 96) :: K.reverse, Bd 64 l.1
  b2 : ∀ l ∈ (x, 96) :: K.reverse, Bd 64 l.2
  bo : ∀ l ∈ out, Bd 64 l.1
  bo2 : ∀ l ∈ out, Bd 64 l.2
  ol : out ≠ [] ∧ out.length ≤ 4
  le1 : x ≤ tot ((((x, 96) : Lay) :: K.reverse).map fun l : Lay => l.1)
  co : (cutF ((x, 96) :: K.reverse) x).out = [(x, 96)]
  ck : (cutF ((x, 96) :: K.reverse) x).rest = K.reverse
  f2 : Falls (K.reverse ++ [(x, 30)])
  c1 : ∀ l ∈ K.reverse ++ [(x, 30)], Bd 64 l.1
  c2 : ∀ l ∈ K.reverse ++ [(x, 30)], Bd 64 l.2
  lt : tot ((K.reverse ++ [((x, 30) : Lay)]).map fun l : Lay => l.1) = tot (ls.map (·.1))
  hl : ¬ heatF 30 ls < heatF 30 (K.reverse ++ [(x, 30)])
  kl : K.length ≤ 4
theorem a10 {ls : List Lay} (H : L10 ls) {x : Rat} (hx : 0 < x) (hx1 : x ≤ tot (ls.map (·.1))) (hg : Gr 3 x) (hx2 : x ≤ 1000) : A10 ls x (cutK ls.reverse x) (cutO ls.reverse x) := by
  have hx0 := Rat.le_of_lt hx
  have hp := all_rev H.pos
  have hw := all_rev H.warm
  have hd := desc_falls H.falls
  have hdr : Desc (cutK ls.reverse x).reverse := by
    have : Desc ls.reverse.reverse := by rw [List.reverse_reverse]; exact hd
    exact this.rev_sub x
  have kw := cutK_warm (p := fun w => 55 ≤ w ∧ w ≤ 95) hw (x := x)
  have ow := cutO_warm (p := fun w => 55 ≤ w ∧ w ≤ 95) hw (x := x)
  have kp := cutK_pos hp (x := x)
  have op := cutO_pos hp (x := x)
  have kg := cutK_gb (all_rev (H.gb (c := 3) (by decide))) hg
  have og := cutO_gb (all_rev (H.gb (c := 3) (by decide))) hg
  have k2 := cutK_warm (p := Bd 64) (all_rev H.bd2) (x := x)
  have o2 := cutO_warm (p := Bd 64) (all_rev H.bd2) (x := x)
  have bg : ∀ {y : Rat}, Gb 3 60 y → Bd 64 y := fun h => gr_bd (by decide) (by decide) h.1 (by have := h.2.1; grind) (by have := h.2.2; grind)
  have bx : Bd 64 x := gr_bd (by decide) (by decide) hg (by grind) (by grind)
  have hs := heat_sum (ls := ls.reverse) 30 x
  rw [heatF_rev] at hs
  have hls := lit_sum (ls := ls.reverse) x
  rw [tot1_rev] at hls
  have hto := cutO_tot hp hx0 (by rw [tot1_rev]; exact hx1)
  have hho := heat_nonneg (b := 30) op fun l hl => (by have := (ow l hl).1; grind)
  have hpc : ∀ l ∈ (x, (96 : Rat)) :: (cutK ls.reverse x).reverse, 0 < l.1 := List.forall_mem_cons.mpr ⟨hx, all_rev kp⟩
  have n1 : ¬ x ≤ 0 := by grind
  have n2 : ¬ x < x := Rat.lt_irrefl
  have e0 : x - x = 0 := by grind
  have hlr : ls.reverse.length ≤ 4 := by rw [List.length_reverse]; exact H.len.2
  refine ⟨cut_out hp hx0, cut_rest hp hx0, hto, ?he, falls_desc (Desc.cons hdr fun a ha => ?f1), List.forall_mem_cons.mpr ⟨bx, all_rev fun l hl => bg (kg l hl)⟩, List.forall_mem_cons.mpr ⟨bd64 (x := 96) (by decide) (by decide), all_rev k2⟩, fun l hl => bg (og l hl), o2, ⟨?on, Nat.le_trans cutO_len hlr⟩, ?le1, ?co, ?ck, falls_desc (Desc.snoc hdr fun a ha => ?f2), List.forall_mem_append.mpr ⟨all_rev fun l hl => bg (kg l hl), one_lay bx⟩, List.forall_mem_append.mpr ⟨all_rev k2, one_lay (bd64 (x := 30) (by decide) (by decide))⟩, ?lt, ?hl, Nat.le_trans cutK_len hlr⟩
  case he => rw [heatF_cons, heatF_rev]; grind
  case f1 => have := (kw a (List.mem_reverse.mp ha)).2; show a.2 < 96; grind
  case on =>
    intro h
    rw [h] at hto
    simp [tot_nil] at hto
    rw [← hto] at hx
    exact absurd hx Rat.lt_irrefl
  case le1 =>
    rw [List.map_cons, tot_cons, tot1_rev]
    have : 0 ≤ tot ((cutK ls.reverse x).map (·.1)) := by rw [hto] at hls; grind
    grind
  case co => rw [cut_out hpc hx0, cutO, if_neg n1, if_neg n2, e0, cutO_zero]
  case ck => rw [cut_rest hpc hx0, cutK, if_neg n1, if_neg n2, e0, cutK_zero]
  case f2 => have := (kw a (List.mem_reverse.mp ha)).1; show 30 < a.2; grind
  case lt => rw [List.map_append, tot_app, tot1_rev, List.map_cons, List.map_nil, tot_cons, tot_nil]; rw [hto] at hls; grind
  case hl => rw [heatF_app, heatF_rev, heatF_cons, heatF_nil]; grind
-- what drawing heat does
theorem take_ok {ls : List Lay} {p : Lay → Prop} (h : ∀ l ∈ ls, p l) (i : Nat) : ∀ l ∈ ls.take i, p l := fun l hl => h l (List.mem_of_mem_take hl)
theorem tot_le {ls : List Lay} (h : ∀ l ∈ ls, l.1 ≤ 60) : tot (ls.map (·.1)) ≤ 60 * (ls.length : Int) := by
  induction ls with
  | nil => simp [tot_nil]
  | cons l ls ih =>
    rw [List.map_cons, tot_cons, List.length_cons]
    have h1 := ih fun l hl => h l (List.mem_cons_of_mem _ hl)
    have h2 := h l (List.mem_cons_self ..)
    have e : (((ls.length + 1 : Nat) : Int) : Rat) = ((ls.length : Int) : Rat) + 1 := by rw [show ((ls.length + 1 : Nat) : Int) = (ls.length : Int) + 1 from rfl, Rat.intCast_add]; rfl
    rw [e]; grind
theorem df_bd {g : Rat → Rat} {ls : List Lay} (hi : ∀ l ∈ ls, ∃ a : Int, l.1 = (a : Rat)) (hp : ∀ l ∈ ls, 0 < l.1) (h60 : ∀ l ∈ ls, l.1 ≤ 60) (hl : ls.length ≤ 4) (hg : ∀ l ∈ ls, ∃ k : Int, g l.2 = (k : Rat) ∧ 1 ≤ k ∧ k ≤ 100) {r : Rat} (hr : Gr 2 r) (h0 : 0 ≤ r) (h1 : r ≤ 10000) (i : Nat) :
    Bd 64 (dfL g (ls.take i) r) ∧ Bd 64 (dfG g (ls.take i) r) := by
  have hg0 : ∀ l ∈ ls, 0 < g l.2 := fun l hl => by obtain ⟨k, e, k1, _⟩ := hg l hl; rw [e]; exact Rat.intCast_lt_intCast.mpr (by omega : (0 : Int) < k)
  obtain ⟨m1, m2, m3, m4, m5⟩ := df_main (take_ok hp i) (take_ok hg0 i) h0
  obtain ⟨c, c1, c2, c3⟩ := dfL_gr (take_ok hi i) (take_ok hp i) (take_ok hg i) hr h0
  have hsn := sumG_nonneg (take_ok hp i) (take_ok hg0 i)
  constructor
  · have h2 := tot_le (take_ok h60 i)
    have h3 : ((ls.take i).length : Int) ≤ 4 := by have := List.length_take_le i ls; rw [List.length_take]; omega
    have h4 : (((ls.take i).length : Int) : Rat) ≤ ((4 : Int) : Rat) := Rat.intCast_le_intCast.mpr h3
    have h5 : ((4 : Int) : Rat) = 4 := rfl
    exact gr_bd c1 (by omega) c3 (by grind) (by grind)
  · rw [m3]
    split
    · exact gr_bd (by decide) (by decide) (sumG_gr (take_ok hi i) fun l hl => by obtain ⟨k, e, _⟩ := hg l (List.mem_of_mem_take hl); exact ⟨k, e⟩) (by grind) (by grind)
    · exact gr_bd (by decide) (by decide) hr (by grind) (by grind)
theorem heat_sumG (b : Rat) (ls : List Lay) : heatF b ls = sumG (fun w => w - b) ls := rfl
theorem gr_any {c : Int} {m x : Rat} (h : Gr c x) (h0 : 0 ≤ x) (h1 : x ≤ m) : Gb c m x := ⟨h, h0, h1⟩
-- what holds of a tank behind heat is drawn or charged
structure B10 (ls new : List Lay) (dh : Rat) : Prop where
  ht : heatF 40 new = heatF 40 ls + dh
  lt : tot (new.map (·.1)) = tot (ls.map (·.1))
  ds : Desc new
  b1 : ∀ l ∈ new, Bd 64 l.1
  b2 : ∀ l ∈ new, Bd 64 l.2
  ne : new ≠ []
  le : new.length ≤ 5
theorem b10_same {ls : List Lay} (H : L10 ls) : B10 ls ls 0 := ⟨by grind, rfl, desc_falls H.falls, H.bd1, H.bd2, H.ne, by have := H.len; omega⟩
set_option linter.unusedSectionVars false
section
variable {ls : List Lay} (H : L10 ls) {r : Rat} (hr : Gr 2 r) (h0 : 0 ≤ r) (h1 : r ≤ 10000)
include H
theorem dg_pos : ∀ l ∈ ls, 0 < l.2 - 40 := fun l hl => by have := (H.warm l hl).1; grind
theorem cg_pos : ∀ l ∈ ls, 0 < 97 - l.2 := fun l hl => by have := (H.warm l hl).2; grind
theorem dg_int : ∀ l ∈ ls, ∃ k : Int, (fun w : Rat => w - 40) l.2 = (k : Rat) ∧ 1 ≤ k ∧ k ≤ 100 := fun l hl => by
  obtain ⟨a, b, rfl, _, _, h1, h2⟩ := H.mem hl
  exact ⟨b - 40, by rw [Rat.intCast_sub]; rfl, by omega, by omega⟩
theorem cg_int : ∀ l ∈ ls, ∃ k : Int, (fun w : Rat => 97 - w) l.2 = (k : Rat) ∧ 1 ≤ k ∧ k ≤ 100 := fun l hl => by
  obtain ⟨a, b, rfl, _, _, h1, h2⟩ := H.mem hl
  exact ⟨97 - b, by rw [Rat.intCast_sub]; rfl, by omega, by omega⟩
include hr h0 h1
theorem d_bd (i : Nat) : Bd 64 (dfL (fun w => w - 40) (ls.take i) r) ∧ Bd 64 (dfG (fun w => w - 40) (ls.take i) r) := df_bd H.int1 H.pos H.le60 H.len.2 (dg_int H) hr h0 h1 i
theorem c_bd (i : Nat) : Bd 64 (dfL (fun w => 97 - w) (ls.reverse.take i) r) ∧ Bd 64 (dfG (fun w => 97 - w) (ls.reverse.take i) r) := df_bd (all_rev H.int1) (all_rev H.pos) (all_rev H.le60) (by rw [List.length_reverse]; exact H.len.2) (all_rev (cg_int H)) hr h0 h1 i
theorem dfL_ok {g : Rat → Rat} {ks : List Lay} (hi : ∀ l ∈ ks, ∃ a : Int, l.1 = (a : Rat)) (hp : ∀ l ∈ ks, 0 < l.1) (h60 : ∀ l ∈ ks, l.1 ≤ 60) (hl : ks.length ≤ 4) (hg : ∀ l ∈ ks, ∃ k : Int, g l.2 = (k : Rat) ∧ 1 ≤ k ∧ k ≤ 100) :
    Bd 64 (dfL g ks r) ∧ (∀ l ∈ cutK ks (dfL g ks r), Bd 64 l.1) := by
  obtain ⟨c, c1, c2, c3⟩ := dfL_gr hi hp hg hr h0
  have h5 := (df_bd hi hp h60 hl hg hr h0 h1 ks.length).1
  rw [List.take_length] at h5
  refine ⟨h5, fun l hl => ?_⟩
  have := cutK_gb (c := c) (m := 60) (fun l hl => gr_any (by obtain ⟨a, e⟩ := hi l hl; rw [e]; exact Gr.int c1 a) (Rat.le_of_lt (hp l hl)) (h60 l hl)) c3 l hl
  exact gr_bd c1 (by omega) this.1 (by have := this.2.1; grind) (by have := this.2.2; grind)
theorem d_got : dfG (fun w => w - 40) ls r = (if heatF 40 ls < r then heatF 40 ls else r) := (df_main H.pos (dg_pos H) h0).2.2.1
theorem d_falls : Falls ((cutF ls (dfL (fun w => w - 40) ls r)).rest ++ [(dfL (fun w => w - 40) ls r, 40)]) := by
  obtain ⟨m1, m2, m3, m4, m5⟩ := df_main (g := fun w => w - 40) H.pos (dg_pos H) h0
  rw [cut_rest H.pos m1]
  refine falls_desc (Desc.snoc ((desc_falls H.falls).sub _) fun a ha => ?_)
  have := (cutK_warm (p := fun w => 55 ≤ w ∧ w ≤ 95) H.warm a ha).1
  show 40 < a.2
  grind
theorem d_new : ∀ l ∈ (cutF ls (dfL (fun w => w - 40) ls r)).rest ++ [(dfL (fun w => w - 40) ls r, 40)], Bd 64 l.2 := by
  obtain ⟨m1, m2, m3, m4, m5⟩ := df_main (g := fun w => w - 40) H.pos (dg_pos H) h0
  rw [cut_rest H.pos m1]
  exact List.forall_mem_append.mpr ⟨cutK_warm (p := Bd 64) H.bd2, one_lay (bd64 (x := 40) (by decide) (by decide))⟩
theorem d_b10 : B10 ls (if 0 < dfL (fun w => w - 40) ls r then (cutF ls (dfL (fun w => w - 40) ls r)).rest ++ [(dfL (fun w => w - 40) ls r, 40)] else ls) (-dfG (fun w => w - 40) ls r) := by
  obtain ⟨m1, m2, m3, m4, m5⟩ := df_main (g := fun w => w - 40) H.pos (dg_pos H) h0
  have hf := d_falls H hr h0 h1
  have hn := d_new H hr h0 h1
  obtain ⟨hb, hk⟩ := dfL_ok H hr h0 h1 (g := fun w => w - 40) H.int1 H.pos H.le60 H.len.2 (dg_int H)
  have hs := heat_sum (ls := ls) 40 (dfL (fun w => w - 40) ls r)
  have hls := lit_sum (ls := ls) (dfL (fun w => w - 40) ls r)
  have hto := cutO_tot H.pos m1 m2
  rw [cut_rest H.pos m1] at hf hn ⊢
  split
  · refine ⟨?_, ?_, desc_falls hf, List.forall_mem_append.mpr ⟨hk, one_lay hb⟩, hn, by simp, ?_⟩
    · rw [heatF_app, heatF_cons, heatF_nil, ← m4, ← heat_sumG]; grind
    · rw [List.map_append, tot_app, List.map_cons, List.map_nil, tot_cons, tot_nil]; grind
    · have := cutK_len (ls := ls) (x := dfL (fun w => w - 40) ls r); have := H.len; simp; omega
  · rename_i h
    have e : dfL (fun w => w - 40) ls r = 0 := by grind
    rw [e, cutO_zero] at m4
    have : dfG (fun w => w - 40) ls r = 0 := m4.symm
    rw [this]
    have h := b10_same H
    exact ⟨by rw [h.ht]; grind, h.lt, h.ds, h.b1, h.b2, h.ne, h.le⟩
theorem c_room : sumG (fun w => 97 - w) ls.reverse = tot (ls.map (·.1)) * (97 - 40) - heatF 40 ls := by
  have : ∀ ks : List Lay, sumG (fun w => 97 - w) ks = tot (ks.map (·.1)) * (97 - 40) - heatF 40 ks := by
    intro ks
    induction ks with
    | nil => simp [sumG, heatF, tot_nil]; grind
    | cons l ks ih => rw [sumG_cons, ih, heatF_cons, List.map_cons, tot_cons]; grind
  rw [this, tot1_rev, heatF_rev]
theorem c_put : dfG (fun w => 97 - w) ls.reverse r = (if tot (ls.map (·.1)) * (97 - 40) - heatF 40 ls < r then tot (ls.map (·.1)) * (97 - 40) - heatF 40 ls else r) := by
  rw [← c_room H hr h0 h1]; exact (df_main (all_rev H.pos) (all_rev (cg_pos H)) h0).2.2.1
theorem c_falls : Falls ((dfL (fun w => 97 - w) ls.reverse r, 97) :: (cutF ls.reverse (dfL (fun w => 97 - w) ls.reverse r)).rest.reverse) := by
  obtain ⟨m1, m2, m3, m4, m5⟩ := df_main (g := fun w => 97 - w) (all_rev H.pos) (all_rev (cg_pos H)) h0
  rw [cut_rest (all_rev H.pos) m1]
  have hd := desc_falls H.falls
  have : Desc ls.reverse.reverse := by rw [List.reverse_reverse]; exact hd
  refine falls_desc (Desc.cons (this.rev_sub _) fun a ha => ?_)
  have := (cutK_warm (p := fun w => 55 ≤ w ∧ w ≤ 95) (all_rev H.warm) a (List.mem_reverse.mp ha)).2
  show a.2 < 97
  grind
theorem c_new : ∀ l ∈ (dfL (fun w => 97 - w) ls.reverse r, 97) :: (cutF ls.reverse (dfL (fun w => 97 - w) ls.reverse r)).rest.reverse, Bd 64 l.2 := by
  obtain ⟨m1, m2, m3, m4, m5⟩ := df_main (g := fun w => 97 - w) (all_rev H.pos) (all_rev (cg_pos H)) h0
  rw [cut_rest (all_rev H.pos) m1]
  exact List.forall_mem_cons.mpr ⟨bd64 (x := 97) (by decide) (by decide), all_rev (cutK_warm (p := Bd 64) (all_rev H.bd2))⟩
theorem c_b10 : B10 ls (if 0 < dfL (fun w => 97 - w) ls.reverse r then (dfL (fun w => 97 - w) ls.reverse r, 97) :: (cutF ls.reverse (dfL (fun w => 97 - w) ls.reverse r)).rest.reverse else ls) (dfG (fun w => 97 - w) ls.reverse r) := by
  obtain ⟨m1, m2, m3, m4, m5⟩ := df_main (g := fun w => 97 - w) (all_rev H.pos) (all_rev (cg_pos H)) h0
  have hf := c_falls H hr h0 h1
  have hn := c_new H hr h0 h1
  obtain ⟨hb, hk⟩ := dfL_ok H hr h0 h1 (g := fun w => 97 - w) (all_rev H.int1) (all_rev H.pos) (all_rev H.le60) (by rw [List.length_reverse]; exact H.len.2) (all_rev (cg_int H))
  have hs := heat_sum (ls := ls.reverse) 40 (dfL (fun w => 97 - w) ls.reverse r)
  have hls := lit_sum (ls := ls.reverse) (dfL (fun w => 97 - w) ls.reverse r)
  have hto := cutO_tot (all_rev H.pos) m1 m2
  rw [cut_rest (all_rev H.pos) m1] at hf hn ⊢
  rw [heatF_rev] at hs
  rw [tot1_rev] at hls
  have hg : ∀ ks : List Lay, sumG (fun w => 97 - w) ks = tot (ks.map (·.1)) * (97 - 40) - heatF 40 ks := by
    intro ks
    induction ks with
    | nil => simp [sumG, heatF, tot_nil]; grind
    | cons l ks ih => rw [sumG_cons, ih, heatF_cons, List.map_cons, tot_cons]; grind
  split
  · refine ⟨?_, ?_, desc_falls hf, List.forall_mem_cons.mpr ⟨hb, all_rev hk⟩, hn, by simp, ?_⟩
    · rw [heatF_cons, heatF_rev, ← m4, hg, hto]; grind
    · rw [List.map_cons, tot_cons, tot1_rev]; grind
    · have := cutK_len (ls := ls.reverse) (x := dfL (fun w => 97 - w) ls.reverse r); have := H.len; simp at *; omega
  · rename_i h
    have e : dfL (fun w => 97 - w) ls.reverse r = 0 := by grind
    rw [e, cutO_zero] at m4
    have : dfG (fun w => 97 - w) ls.reverse r = 0 := m4.symm
    rw [this]
    have h := b10_same H
    exact h
end
theorem cells3 {h₀ h : Heap} {L a b c : Addr} {x y z : Obj} {dx dy dz : Data} (N : News h₀ L h [(a, x), (b, y), (c, z)]) (hx : x.data = dx) (hy : y.data = dy) (hz : z.data = dz) : ∃ x' y' z', News h₀ L h [(a, x'), (b, y'), (c, z')] ∧ x'.data = dx ∧ y'.data = dy ∧ z'.data = dz := ⟨x, y, z, N, hx, hy, hz⟩
theorem fr_name {h₀ h : Heap} {L : Addr} {m : Str → Option Value} (F : Fr h₀ L h m) : ∃ m', m' = m ∧ Fr h₀ L h m' := ⟨m, rfl, F⟩
theorem fr_at {m m' : Str → Option Value} (e : m' = m) (x : Str) (v : Value) (h : m x = some v) : m' x = some v := by rw [e]; exact h
theorem name_led {h₀ h : Heap} {L : Addr} {led : List (Addr × Obj)} (N : News h₀ L h led) : ∃ l, l = led ∧ News h₀ L h l := ⟨led, rfl, N⟩
theorem l10_snoc {ls : List Lay} {i : Nat} {a b : Int} (hl : ls.length = i) (hat : ∀ (j : Nat) (l : Lay), ls[j]? = some l → ∃ a b : Int, l = ((a : Rat), (b : Rat)) ∧ 1 ≤ a ∧ a ≤ 60 ∧ 91 - 12 * (j : Int) ≤ b ∧ b ≤ 95 - 12 * (j : Int)) (h1 : 1 ≤ a) (h2 : a ≤ 60) (h3 : 91 - 12 * (i : Int) ≤ b) (h4 : b ≤ 95 - 12 * (i : Int)) :
    ∀ (j : Nat) (l : Lay), (ls ++ [((a : Rat), (b : Rat))])[j]? = some l → ∃ a b : Int, l = ((a : Rat), (b : Rat)) ∧ 1 ≤ a ∧ a ≤ 60 ∧ 91 - 12 * (j : Int) ≤ b ∧ b ≤ 95 - 12 * (j : Int) := by
  intro j l h
  rcases Nat.lt_trichotomy j ls.length with q | q | q
  · rw [List.getElem?_append_left q] at h; exact hat j l h
  · subst q
    rw [List.getElem?_append_right (Nat.le_refl _), Nat.sub_self] at h
    simp at h
    exact ⟨a, b, h.symm, h1, h2, by omega, by omega⟩
  · rw [List.getElem?_append_right (by omega)] at h
    obtain ⟨k, hk⟩ : ∃ k, j - ls.length = k + 1 := ⟨j - ls.length - 1, by omega⟩
    rw [hk] at h
    simp at h
theorem tkOf {h₀ h : Heap} {L : Addr} {m : Str → Option Value} {tl : List (Addr × Obj)} {D : Addr} {o : Obj} (_F : Fr h₀ L h m) (e : (D, o) ∈ tl) : Tk h₀ tl D o := .inl e
theorem news_as {h₀ h : Heap} {L : Addr} {l all : List (Addr × Obj)} (N : News h₀ L h all) (hs : ∀ p ∈ l, p ∈ all) : ∃ l', l' = l ∧ News h₀ L h l' := ⟨l, rfl, fun p hp => N p (hs p hp)⟩
theorem src_tk {prog : Program} {w : World} {A : Around} {h₀ : Heap} {L : Addr} {m : Str → Option Value} {env : Env} {elt : Expr} {x : Str} {scope : Scope} {cl : List (Str × Addr)} {Fin : Shared → List Value → List (Addr × Obj) → Prop} {ax : Addr} {its : Array Value} {k : Nat} {nx news : List (Addr × Obj)} {s₁ : Shared}
    (hh : A.handled = none) (F : Fr h₀ L s₁.heap m) (N : News h₀ L s₁.heap news) (hT : Tk h₀ nx ax (listOf its k)) (hs : ∀ p ∈ nx, p ∈ news) (hsz : its.size ≤ sizeLine)
    (h : ∀ g, LCg.CompRest prog w A h₀ L m env elt x scope cl { s₁ with heap := g } (LCg.SrcAt h₀ ax its) (fun i v => its[i]? = some v) (Fin { s₁ with heap := g }) its.size 0 [] news) :
    LCg.CompSrc prog w A h₀ L m env elt x scope cl Fin (.ref ax) s₁ := .inl ⟨ax, its, news, rfl, hh, F, N, hT.elim (fun e => .inr ⟨_, hs _ e, rfl, _, rfl⟩) (fun e => .inl ⟨_, e, rfl, _, rfl⟩), hsz, fun _ ⟨g, e⟩ => e ▸ h g⟩
theorem srcAt_tk {h₀ : Heap} {ax : Addr} {its : Array Value} {k : Nat} {nx news : List (Addr × Obj)} (hT : Tk h₀ nx ax (listOf its k)) (hs : ∀ p ∈ nx, p ∈ news) : LCg.SrcAt h₀ ax its news := hT.elim (fun e => .inr ⟨_, hs _ e, rfl, _, rfl⟩) (fun e => .inl ⟨_, e, rfl, _, rfl⟩)
theorem laysR {R R' tl : List (Addr × Obj)} {v : Value} {ls : List Lay} (h1 : ∀ p ∈ R, p ∈ R') (h2 : ∀ p ∈ tl, p ∈ R') (x : LaysN (PT (Led R) tl) v ls) : LaysN (Led R') v ls := x.mono (ptL h1 h2)
theorem gr3 {v : Int} : Gr 3 (Rat.divInt v 3) := ⟨v, by rw [Rat.divInt_eq_div]⟩
theorem gr2 {v : Int} : Gr 2 (Rat.divInt v 2) := ⟨v, by rw [Rat.divInt_eq_div]⟩
theorem div3_pos {v : Int} (h : 0 ≤ v) (h' : v < 50) : 0 < Rat.divInt (1 + v) 3 ∧ Rat.divInt (1 + v) 3 ≤ 1000 := by
  have e : Rat.divInt (1 + v) 3 = ((1 + v : Int) : Rat) / 3 := by rw [Rat.divInt_eq_div]; rfl
  have a : ((0 : Int) : Rat) < ((1 + v : Int) : Rat) := Rat.intCast_lt_intCast.mpr (by omega)
  have b : ((1 + v : Int) : Rat) ≤ ((51 : Int) : Rat) := Rat.intCast_le_intCast.mpr (by omega)
  rw [e]
  have a' : (0 : Rat) < ((1 + v : Int) : Rat) := a
  have b' : ((1 + v : Int) : Rat) ≤ 51 := b
  constructor <;> grind
theorem div2_pos {v : Int} (h : 0 ≤ v) (h' : v < 4000) : 0 ≤ Rat.divInt v 2 ∧ Rat.divInt v 2 ≤ 10000 := by
  have e : Rat.divInt v 2 = ((v : Int) : Rat) / 2 := by rw [Rat.divInt_eq_div]; rfl
  have a : ((0 : Int) : Rat) ≤ ((v : Int) : Rat) := Rat.intCast_le_intCast.mpr (by omega)
  have b : ((v : Int) : Rat) ≤ ((4000 : Int) : Rat) := Rat.intCast_le_intCast.mpr (by omega)
  rw [e]
  have a' : (0 : Rat) ≤ ((v : Int) : Rat) := a
  have b' : ((v : Int) : Rat) ≤ 4000 := b
  constructor <;> grind
theorem tot_pos {ls : List Lay} (hp : ∀ l ∈ ls, 0 < l.1) (hn : ls ≠ []) : 0 < tot (ls.map (·.1)) := by
  cases ls with
  | nil => exact absurd rfl hn
  | cons l ls =>
    have h : ∀ ks : List Lay, (∀ l ∈ ks, 0 < l.1) → 0 ≤ tot (ks.map (·.1)) := by
      intro ks
      induction ks with
      | nil => intro _; exact Rat.le_refl
      | cons k ks ih => intro h; rw [List.map_cons, tot_cons]; have := ih fun l hl => h l (List.mem_cons_of_mem _ hl); have := h k (List.mem_cons_self ..); grind
    rw [List.map_cons, tot_cons]
    have := h ls fun l hl => hp l (List.mem_cons_of_mem _ hl)
    have := hp l (List.mem_cons_self ..)
    grind
theorem L10.tot_gr {ls : List Lay} (H : L10 ls) : Gr 3 (tot (ls.map (·.1))) ∧ tot (ls.map (·.1)) ≤ 1000 := by
  have h1 := tot_le H.le60
  have h4 : ((ls.length : Int) : Rat) ≤ ((4 : Int) : Rat) := Rat.intCast_le_intCast.mpr (by have := H.len; omega)
  have h5 : ((4 : Int) : Rat) = 4 := rfl
  refine ⟨?_, by grind⟩
  have : ∀ ks : List Lay, (∀ l ∈ ks, ∃ a : Int, l.1 = (a : Rat)) → Gr 3 (tot (ks.map (·.1))) := by
    intro ks
    induction ks with
    | nil => intro _; exact Gr.zero
    | cons k ks ih =>
      intro h
      rw [List.map_cons, tot_cons]
      obtain ⟨a, e⟩ := h k (List.mem_cons_self ..)
      rw [e]
      exact (Gr.int (by decide) a).add (ih fun l hl => h l (List.mem_cons_of_mem _ hl))
  exact this ls H.int1
-- the least of size and litres
theorem size10 {ls : List Lay} (H : L10 ls) {v : Int} (h0 : 0 ≤ v) (h1 : v < 50) {x : Rat} (hx : (x = Rat.divInt (1 + v) 3 ∧ ¬ tot (ls.map (·.1)) < Rat.divInt (1 + v) 3) ∨ (x = tot (ls.map (·.1)) ∧ tot (ls.map (·.1)) < Rat.divInt (1 + v) 3)) : 0 < x ∧ x ≤ tot (ls.map (·.1)) ∧ Gr 3 x ∧ x ≤ 1000 ∧ Bd 64 x := by
  have d := div3_pos h0 h1
  have t := tot_pos H.pos H.ne
  have g := H.tot_gr
  have bb : ∀ {y : Rat}, Gr 3 y → 0 < y → y ≤ 1000 → Bd 64 y := fun a b c => gr_bd (by decide) (by decide) a (by grind) (by grind)
  rcases hx with ⟨rfl, h⟩ | ⟨rfl, h⟩
  · exact ⟨d.1, by grind, gr3, d.2, bb gr3 d.1 d.2⟩
  · exact ⟨t, Rat.le_refl, g.1, g.2, bb g.1 t g.2⟩
theorem least_tk {R : List (Addr × Obj)} {D1 D2 D : Addr} {r r1 r2 : Rat} {t1 t1' t2 t2' : Tok} {c1 c2 : Nat} (e1 : (D1, RatO r1 t1 t1' c1) ∈ R) (e2 : (D2, RatO r2 t2 t2' c2) ∈ R) (h : (D = D1 ∧ r = r1 ∧ ¬ r2 < r1) ∨ (D = D2 ∧ r = r2 ∧ r2 < r1)) : ∃ t t' c, (D, RatO r t t' c) ∈ R := by
  rcases h with ⟨rfl, rfl, _⟩ | ⟨rfl, rfl, _⟩
  · exact ⟨_, _, _, e1⟩
  · exact ⟨_, _, _, e2⟩
theorem bd_div3 {v : Int} (h : 0 ≤ v) (h' : v < 50) : Bd 64 (Rat.divInt (1 + v) 3) := gr_bd (by decide) (by decide) gr3 (by have := (div3_pos h h').1; grind) (by have := (div3_pos h h').2; grind)
theorem bd_div2 {v : Int} (h : 0 ≤ v) (h' : v < 4000) : Bd 64 (Rat.divInt v 2) := gr_bd (by decide) (by decide) gr2 (by have := (div2_pos h h').1; grind) (by have := (div2_pos h h').2; grind)
theorem size10' {ls : List Lay} (H : L10 ls) {v : Int} (h0 : 0 ≤ v) (h1 : v < 50) {D D1 D2 : Addr} {x r : Rat} (e : r = Rat.divInt (1 + v) 3) (hx : (D = D1 ∧ x = r ∧ ¬ tot (ls.map (·.1)) < r) ∨ (D = D2 ∧ x = tot (ls.map (·.1)) ∧ tot (ls.map (·.1)) < r)) : 0 < x ∧ x ≤ tot (ls.map (·.1)) ∧ Gr 3 x ∧ x ≤ 1000 ∧ Bd 64 x :=
  size10 H h0 h1 (by subst e; exact hx.imp (fun h => h.2) fun h => h.2)
theorem off3_mid {I C D : Addr} {LE tl : List (Addr × Obj)} {q : Addr × Obj} (off : LCg.Off3 I C D (LE ++ tl)) (h1 : q.1 ≠ I) (h2 : q.1 ≠ C) (h3 : q.1 ≠ D) : LCg.Off3 I C D (LE ++ q :: tl) := LCg.Off3.of fun p hp => by
  rcases List.mem_append.mp hp with h | h
  · exact off.mem p (List.mem_append_left _ h)
  · rcases List.mem_cons.mp h with rfl | h
    · exact ⟨h1, h2, h3⟩
    · exact off.mem p (List.mem_append_right _ h)
theorem bd_take_snoc {b : Nat} {l : List Rat} {y : Rat} (h : ∀ x ∈ l, Bd b x) (hy : Bd b y) : ∀ x ∈ l ++ [y], Bd b x := List.forall_mem_append.mpr ⟨h, List.forall_mem_cons.mpr ⟨hy, List.forall_mem_nil _⟩⟩
-- NOUGHT among what is told of: it is no layer's part
theorem rat_clean {P : Addr → Obj → Prop} {tl : List (Addr × Obj)} {N : Addr} {t t' : Tok} {c : Nat} {v : Value} {r : Rat} (h0 : r ≠ 0) (x : RatN (PT (PT P [(N, RatO 0 t t' c)]) tl) v r) : RatN (PT P tl) v r := by
  obtain ⟨D, a, b, k, rfl, (h | h) | h⟩ := x
  · exact ⟨D, a, b, k, rfl, .inl h⟩
  · have e := List.mem_singleton.mp h
    have e2 := (Prod.mk.inj e).2
    have e3 : r = 0 := by
      have := congrArg Obj.data e2
      simp at this
      exact this.1.1.1
    exact absurd e3 h0
  · exact ⟨D, a, b, k, rfl, .inr h⟩
theorem lays_clean {P : Addr → Obj → Prop} {tl : List (Addr × Obj)} {N : Addr} {t t' : Tok} {c : Nat} {v : Value} {ls : List Lay} (h0 : ∀ l ∈ ls, l.1 ≠ 0 ∧ l.2 ≠ 0) (x : LaysN (PT (PT P [(N, RatO 0 t t' c)]) tl) v ls) : LaysN (PT P tl) v ls := by
  obtain ⟨l, vs, n, rfl, k, a⟩ := x
  have hl : PT P tl l (listOf vs.toArray n) := by
    rcases k with (h | h) | h
    · exact .inl h
    · have e2 := (Prod.mk.inj (List.mem_singleton.mp h)).2
      have := congrArg Obj.cls e2
      simp [W.listOf] at this
    · exact .inr h
  refine ⟨l, vs, n, rfl, hl, ?_⟩
  clear hl k
  induction a with
  | nil => exact .nil
  | cons h _ ih =>
    refine .cons ?_ (ih fun l hl => h0 l (List.mem_cons_of_mem _ hl))
    obtain ⟨q1, q2⟩ := h0 _ (List.mem_cons_self ..)
    obtain ⟨D, v1, v2, k, rfl, kk, r1, r2⟩ := h
    refine ⟨D, v1, v2, k, rfl, ?_, rat_clean q1 r1, rat_clean q2 r2⟩
    rcases kk with (h | h) | h
    · exact .inl h
    · have e2 := (Prod.mk.inj (List.mem_singleton.mp h)).2
      obtain ⟨D1, _, _, _, rfl, _⟩ := r1
      have := congrArg Obj.data e2
      simp at this
    · exact .inr h
theorem shaped_rat (r : Rat) : SeqAt.shaped (ratP r) = true := by rfl
-- no part of a tank behind heat is drawn or charged is nought
theorem d_nz {ls : List Lay} (H : L10 ls) {r : Rat} (h0 : 0 ≤ r) : ∀ l ∈ (if 0 < dfL (fun w => w - 40) ls r then (cutF ls (dfL (fun w => w - 40) ls r)).rest ++ [(dfL (fun w => w - 40) ls r, 40)] else ls), l.1 ≠ 0 ∧ l.2 ≠ 0 := by
  obtain ⟨m1, m2, m3, m4, m5⟩ := df_main (g := fun w => w - 40) H.pos (dg_pos H) h0
  rw [cut_rest H.pos m1]
  split
  · rename_i hd
    refine List.forall_mem_append.mpr ⟨fun l hl => ⟨?_, ?_⟩, one_lay ⟨?_, ?_⟩⟩
    · have := cutK_pos H.pos l hl; grind
    · have := (cutK_warm (p := fun w => 55 ≤ w ∧ w ≤ 95) H.warm l hl).1; grind
    · show dfL (fun w => w - 40) ls r ≠ 0; grind
    · show (40 : Rat) ≠ 0; grind
  · intro l hl
    have h1 := H.pos l hl
    have h2 := (H.warm l hl).1
    constructor <;> grind
theorem c_nz {ls : List Lay} (H : L10 ls) {r : Rat} (h0 : 0 ≤ r) : ∀ l ∈ (if 0 < dfL (fun w => 97 - w) ls.reverse r then (dfL (fun w => 97 - w) ls.reverse r, 97) :: (cutF ls.reverse (dfL (fun w => 97 - w) ls.reverse r)).rest.reverse else ls), l.1 ≠ 0 ∧ l.2 ≠ 0 := by
  obtain ⟨m1, m2, m3, m4, m5⟩ := df_main (g := fun w => 97 - w) (all_rev H.pos) (all_rev (cg_pos H)) h0
  rw [cut_rest (all_rev H.pos) m1]
  split
  · rename_i hd
    refine List.forall_mem_cons.mpr ⟨⟨?_, ?_⟩, all_rev fun l hl => ⟨?_, ?_⟩⟩
    · show dfL (fun w => 97 - w) ls.reverse r ≠ 0; grind
    · show (97 : Rat) ≠ 0; grind
    · have := cutK_pos (all_rev H.pos) l hl; grind
    · have := (cutK_warm (p := fun w => 55 ≤ w ∧ w ≤ 95) (all_rev H.warm) l hl).1; grind
  · intro l hl
    have h1 := H.pos l hl
    have h2 := (H.warm l hl).1
    constructor <;> grind
theorem least_if {r1 r2 x : Rat} {p q : Prop} (h : (p ∧ x = r1 ∧ ¬ r2 < r1) ∨ (q ∧ x = r2 ∧ r2 < r1)) : x = (if r2 < r1 then r2 else r1) := by
  rcases h with ⟨_, rfl, h⟩ | ⟨_, rfl, h⟩
  · rw [if_neg h]
  · rw [if_pos h]
theorem B10.falls {ls new : List Lay} {dh : Rat} (B : B10 ls new dh) {i : Nat} {a b : Lay} (h1 : new[i]? = some a) (h2 : new[i + 1]? = some b) : b.2 < a.2 := falls_desc B.ds i a b h1 h2
theorem B10.ht' {ls new : List Lay} {q : Rat} (B : B10 ls new (-q)) : heatF 40 new = heatF 40 ls - q := by rw [B.ht]; grind
theorem head2 {h₀ h : Heap} {L D : Addr} {x : Int} {t u : Tok} {c : Nat} {rest : List (Addr × Obj)} (N : News h₀ L h ((D, T2 x 1 t u c) :: rest)) : ∃ D' t' u' c', D' = D ∧ News h₀ L h ((D', T2 x 1 t' u' c') :: rest) := ⟨D, t, u, c, rfl, N⟩
theorem pN {P : Addr → Obj → Prop} {h : Heap} {N : Addr} {o0 : Obj} (h1 : ∀ a o, P a o → h.get? a = some o) (h2 : h.get? N = some o0) : ∀ a o, PT P [(N, o0)] a o → h.get? a = some o := fun a o e => e.elim (h1 a o) fun e => by
  obtain ⟨e1, e2⟩ := Prod.mk.inj (List.mem_singleton.mp e)
  rw [e1, e2]; exact h2
theorem pNn {P : Addr → Obj → Prop} {x d N : Addr} {o0 : Obj} (h1 : ∀ a o, P a o → a ≠ x ∧ a ≠ d) (h2 : N ≠ x) (h3 : N ≠ d) : ∀ a o, PT P [(N, o0)] a o → a ≠ x ∧ a ≠ d := fun a o e => e.elim (h1 a o) fun e => by
  obtain ⟨e1, e2⟩ := Prod.mk.inj (List.mem_singleton.mp e)
  rw [e1]; exact ⟨h2, h3⟩
theorem ne_base {h₀ h : Heap} {L a x : Addr} {o o' : Obj} {news : List (Addr × Obj)} (N : News h₀ L h news) (hx : (x, o') ∈ news) (ha : h₀.get? a = some o) : a ≠ x := fun e => by
  have h1 := (N _ hx).2.2
  rw [← e, ha] at h1; cases h1
theorem tkq {g : Heap} {R R' tl : List (Addr × Obj)} {N D : Addr} {o0 o : Obj} (h0 : g.get? N = some o0) (s : ∀ p ∈ R, p ∈ R') (t : ∀ p ∈ tl, p ∈ R') (h : PT (PT (Led R) [(N, o0)]) tl D o) : Tk g R' D o := by
  rcases h with (h | h) | h
  · exact .inl (s _ h)
  · obtain ⟨e1, e2⟩ := Prod.mk.inj (List.mem_singleton.mp h)
    rw [e1, e2]; exact .inr h0
  · exact .inl (t _ h)
theorem base_inF {K : Frag} {h₀ h : Heap} {L a : Addr} {m : Str → Option Value} {o : Obj} (_F : Fr h₀ L h m) (X : K.In h₀) (hk : K.lookup a = some o) : h₀.get? a = some o := X _ _ hk
theorem rat_ex {g : Heap} {a : Addr} {r : Rat} {t u : Tok} {c : Nat} (h : g.get? a = some (RatO r t u c)) : ∃ t u c, g.get? a = some (RatO r t u c) := ⟨t, u, c, h⟩
local macro_rules | `(tactic| k_mem) => `(tactic| first | with_reducible assumption | (refine List.mem_cons_of_mem _ ?_; with_reducible assumption) | (refine List.mem_cons_of_mem _ (List.mem_cons_of_mem _ ?_); with_reducible assumption) | (refine List.mem_cons_of_mem _ (List.mem_cons_of_mem _ (List.mem_cons_of_mem _ ?_)); with_reducible assumption))
end Mine
open Mine
local macro_rules | `(tactic| walk_at "ne9") => `(tactic| first | with_reducible assumption | exact Ne.symm (by with_reducible assumption) | omega)
local macro_rules | `(tactic| k_qdec) => `(tactic| decide +kernel)
local macro_rules | `(tactic| k_in) => `(tactic| (refine' in_of ?fF ?fX; (case fF | fX => k_asm)))
local macro_rules | `(tactic| kc_close) => `(tactic| ((fail_if_success (rename Final => fin')); (with_reducible show GoodW _ _ _ _ _ _ _); refine Hold.out ?_))
local macro_rules | `(tactic| wrow_close) => `(tactic| ((fail_if_success (rename Final => fin')); (with_reducible show GoodW _ _ _ _ _ _ _); refine Hold.out ?_))
local macro_rules | `(tactic| walk_at "call ref") => `(tactic| (k_here; (fail_if_success (with_reducible show wpAny _ _ (call (Value.ref 220) _ _) _ _ _)); (with_reducible show wpAny _ _ (call (Value.ref _) _ _) _ _ _); refine Hold.out ?_))
local macro_rules | `(tactic| walk_at "hat9") => `(tactic| (first | exact News.get (by k_asm) (by k_mem) | exact Fr.keep (by k_asm) _ _ (by with_reducible assumption) | exact Tk.get (by k_asm) (by k_asm) (by with_reducible assumption) (by intro p9 hp9; first | ((repeat (first | exact hp9 | exact List.mem_append_left _ hp9 | exact List.mem_append_right _ hp9 | refine List.mem_cons_of_mem _ ?_)); done) | (simp only [List.mem_cons, List.mem_append]; simp only [hp9, true_or, or_true])) | exact Frag.In.keeps (by k_asm) (Fr.keep (by k_asm)) _ _ (by k_is)))
local macro_rules | `(tactic| bits_by_make) => `(tactic| with_reducible assumption)
local macro_rules | `(tactic| ktr_units) => `(tactic| ((try simp only [units_under_make, units_in1, units_deeper, Around.mark_units, units_caller]); (try dsimp only [ktrTop]); first | exact un1 (by with_reducible assumption) (Nat.le_of_ble_eq_true rfl) | exact un2 (by with_reducible assumption) (Nat.le_of_ble_eq_true rfl) | exact un3 (by with_reducible assumption) (Nat.le_of_ble_eq_true rfl) | (have hcL9 := cLine_is; omega)))
local macro_rules | `(tactic| walk_at "binaryOp Mod int int") => `(tactic| (k_here; (with_reducible refine mod_gen ?mp ?_); (case mp => decide); intro v' v0' v1' vE'))
local macro_rules | `(tactic| walk_at "h2") => `(tactic| (k_here; (with_reducible show wpAny _ _ (call (Value.ref 43) [Value.int _ _, Value.int _ _]) _ _ _)))
local macro_rules | `(tactic| walk_at "t1") => `(tactic| (first | exact rfl | assumption))
local macro_rules | `(tactic| walk_at "t3") => `(tactic| (first | exact Nat.le_of_ble_eq_true rfl | ktr_room))
local macro_rules | `(tactic| walk_at "t2") => `(tactic| (first | exact Nat.le_of_ble_eq_true rfl | ktr_units))
local macro_rules | `(tactic| walk_at "call ref") => `(tactic| (walk_at "h2"; k_dflt (refine' frac_use ?k1 ?k2 ?k3 ?k4 ?k5 ?k6 ?k7 ?k8 ?k9 ?k10 ?k11 ?k12 ?k13 ?_; (case k1 | k2 | k3 | k4 | k5 => k_asm); (case k6 => walk_at "t1"); (case k7 => walk_at "t3"); (case k8 => walk_at "t2"); (case k10 | k11 => bits_by_make); (case k12 | k13 => decide); (case k9 => first | exact nzden _ | omega | ((try k_fmods); omega) | (refine nzmul ?_ ?_ <;> first | exact nzden _ | omega)); k_whole); intro r' D' t' u' c' h' tk' rE' rN' rD' F' N' l1; (try k_lt l1); (try k_sweep)))
local macro_rules | `(tactic| walk_at "call ref") => `(tactic| (k_here; (with_reducible show wpAny _ _ (call (Value.ref 43) [Value.int _ _]) _ _ _); k_dflt (refine' frac_dflt ?k1 ?k2 ?k3 ?k4 ?k5 ?k6 ?k7 ?k8 ?k10 ?k12 ?_; (case k1 | k2 | k3 | k4 | k5 => k_asm); (case k6 => walk_at "t1"); (case k7 => walk_at "t3"); (case k8 => walk_at "t2"); (case k10 => bits_by_make); (case k12 => decide); k_whole); intro D' t' u' c' h' tk' F' N' l1; (try k_lt l1); (try k_sweep)))
local macro_rules | `(tactic| walk_at "eval Name") => `(tactic| (k_here; k_dflt (refine' nameX_L ?k1 ?k2 ?_ ?k3 ?k4; (case k1 => k_asm); (case k2 => walk_at "t1"); (case k3 | k4 => rfl); k_whole)))
local macro_rules | `(tactic| walk_at "h4") => `(tactic| (k_here; (with_reducible show wpAny _ _ (call (Value.ref 58) [Value.ref _, Value.ref _]) _ _ _)))
local macro_rules | `(tactic| walk_at "t0") => `(tactic| (with_reducible assumption))
local macro_rules | `(tactic| walk_at "t4") => `(tactic| (first | assumption | omega | decide))
local macro_rules | `(tactic| walk_at "call ref") => `(tactic| (walk_at "h4"; k_dflt (refine' plus_r ?k1 ?k2 ?k3 ?k4 ?k5 ?k6 ?m1 ?m2 ?k7 ?k8 ?b1 ?b2 ?hb ?_; (case k1 | k2 | k3 | k4 | k5 => k_asm); (case k6 => walk_at "t1"); (case k7 => walk_at "t3"); (case k8 => walk_at "t2"); (case m1 | m2 => (walk_at "hat9")); (case b1 | b2 => walk_at "t0"); (case hb => walk_at "t4"); k_whole); intro D' t' u' c' h' tk' bD' F' N' l1; (try (replace l1 := allNe_of l1)); (try k_sweep)))
local macro_rules | `(tactic| walk_at "h5") => `(tactic| (k_here; (with_reducible show wpAny _ _ (call (Value.ref 65) [Value.ref _, Value.ref _]) _ _ _)))
local macro_rules | `(tactic| walk_at "call ref") => `(tactic| (walk_at "h5"; k_dflt (refine' minus_r ?k1 ?k2 ?k3 ?k4 ?k5 ?k6 ?m1 ?m2 ?k7 ?k8 ?b1 ?b2 ?hb ?_; (case k1 | k2 | k3 | k4 | k5 => k_asm); (case k6 => walk_at "t1"); (case k7 => walk_at "t3"); (case k8 => walk_at "t2"); (case m1 | m2 => (walk_at "hat9")); (case b1 | b2 => walk_at "t0"); (case hb => walk_at "t4"); k_whole); intro D' t' u' c' h' tk' bD' F' N' l1; (try (replace l1 := allNe_of l1)); (try k_sweep)))
local macro_rules | `(tactic| walk_at "h7") => `(tactic| (k_here; (with_reducible show wpAny _ _ (call (Value.ref 72) [Value.ref _, Value.ref _]) _ _ _)))
local macro_rules | `(tactic| walk_at "call ref") => `(tactic| (walk_at "h7"; k_dflt (refine' times_r ?k1 ?k2 ?k3 ?k4 ?k5 ?k6 ?m1 ?m2 ?k7 ?k8 ?b1 ?b2 ?hb ?_; (case k1 | k2 | k3 | k4 | k5 => k_asm); (case k6 => walk_at "t1"); (case k7 => walk_at "t3"); (case k8 => walk_at "t2"); (case m1 | m2 => (walk_at "hat9")); (case b1 | b2 => walk_at "t0"); (case hb => walk_at "t4"); k_whole); intro D' t' u' c' h' tk' bD' F' N' l1; (try (replace l1 := allNe_of l1)); (try k_sweep)))
local macro_rules | `(tactic| walk_at "h3") => `(tactic| (k_here; (with_reducible show wpAny _ _ (call (Value.ref 86) [Value.ref _, Value.ref _]) _ _ _)))
local macro_rules | `(tactic| walk_at "call ref") => `(tactic| (walk_at "h3"; k_dflt (refine' less_r ?k1 ?k2 ?k3 ?k4 ?k5 ?k6 ?m1 ?m2 ?k7 ?k8 ?b1 ?b2 ?hb ?_; (case k1 | k2 | k3 | k4 | k5 => k_asm); (case k6 => walk_at "t1"); (case k7 => walk_at "t3"); (case k8 => walk_at "t2"); (case m1 | m2 => (walk_at "hat9")); (case b1 | b2 => walk_at "t0"); (case hb => walk_at "t4"); k_whole); intro h' tk' F' N'; (try k_sweep)))
local macro_rules | `(tactic| walk_at "h0") => `(tactic| (k_here; (with_reducible show wpAny _ _ (subscriptTail _ _ (Value.ref _) (Value.int _ _)) _ _ _)))
local macro_rules | `(tactic| walk_at "t5") => `(tactic| (with_unfolding_all rfl))
local macro_rules | `(tactic| walk_at "t6") => `(tactic| ((intro _; with_unfolding_all rfl)))
local macro_rules | `(tactic| walk_at "subscriptTail") => `(tactic| (walk_at "h0"; k_dflt (refine' tup_t ?k1 ?k0 ?k2 ?kS ?k3 ?k4 ?k5 ?k6 ?k7 ?k8 ?_ ?k9 ?k10; (case k1 | k0 => k_asm); (case k2 => walk_at "t0"); (case kS => exact (by intro p9 hp9; first | ((repeat (first | exact hp9 | exact List.mem_append_left _ hp9 | exact List.mem_append_right _ hp9 | refine List.mem_cons_of_mem _ ?_)); done) | (simp only [List.mem_cons, List.mem_append]; simp only [hp9, true_or, or_true]))); (case k3 | k4 => exact rfl); (case k5 | k6 => decide); (case k7 | k8 => exact rfl); (case k9 => walk_at "t5"); (case k10 => walk_at "t6"); k_whole)))
local macro_rules | `(tactic| k_all) => `(tactic| with_reducible assumption)
local macro_rules | `(tactic| walk_at "eval ListComp") => `(tactic| (k_here; lcg_look; k_dflt (refine LCg.ListComp_U (F₀ := by k_asm) (by rfl) (by decide) (by rfl) (by decide) (by rfl) ?_); k_dflt lcg_toSrc))
local macro_rules | `(tactic| walk_at "eval ListComp") => `(tactic| (k_here; lcf_look; k_dflt (refine LCg.ListComp_U (F₀ := by k_asm) (by with_unfolding_all rfl) (by decide) (by rfl) (by decide) (by rfl) ?_); k_dflt lcg_toSrc))
local macro_rules | `(tactic| walk_at "exec Assign cons ListComp") => `(tactic| (k_here; lcg_look; k_dflt (refine LCg.Assign_ListComp_U (F₀ := by k_asm) (by rfl) (by with_unfolding_all rfl) (by rfl) (by decide) (by rfl) (by decide) (by rfl) (by rfl) (by rfl) ?_); k_dflt lcg_toSrc))
local macro_rules | `(tactic| walk_at "exec Assign cons ListComp") => `(tactic| (k_here; lcf_look; k_dflt (refine LCg.Assign_ListComp_U (F₀ := by k_asm) (by rfl) (by with_unfolding_all rfl) (by with_unfolding_all rfl) (by decide) (by rfl) (by decide) (by rfl) (by rfl) (by rfl) ?_); k_dflt lcg_toSrc))
local macro_rules | `(tactic| walk_at "CompSrc") => `(tactic| (refine Hold.out ?_))
local macro_rules | `(tactic| walk_at "CompEnd") => `(tactic| (show LCg.CompEnd _ _ _ _ _ _ _ _ _ _ _ _ _ _; refine Hold.out ?_))
local macro_rules | `(tactic| walk_at "eval ListComp") => `(tactic| (k_here; lct_look; lcg_calm; k_dflt (refine LCt.ListComp_T (F₀ := by k_asm) (by with_unfolding_all rfl) (by decide) (by rfl) (by decide) (by rfl) ?_)))
local macro_rules | `(tactic| walk_at "h1") => `(tactic| (k_here; (with_reducible show wpAny _ _ (call (Value.builtin "len") [Value.ref _]) _ _ _)))
local macro_rules | `(tactic| walk_at "call builtin:len") => `(tactic| (walk_at "h1"; k_dflt (refine' lst_len ?k1 ?k2 ?k3 ?_; (case k1 => k_asm); (case k2 => k_mem); (case k3 => walk_at "t0"); k_whole); intro tk9; (try simp only [List.length_append, List.length_cons, List.length_nil])))
local macro_rules | `(tactic| walk_at "CompSrcT") => `(tactic| (refine Hold.out ?_))
local macro_rules | `(tactic| walk_at "h6") => `(tactic| (k_here; (with_reducible show wpAny _ _ (compareOp CmpOp.Eq (Value.ref _) (Value.ref _)) _ _ _)))
local macro_rules | `(tactic| walk_at "compareOp Eq ref ref") => `(tactic| (walk_at "h6"; refine Hold.out ?_))
local macro_rules | `(tactic| walk_at "compareOp NotEq ref ref") => `(tactic| (k_here; (with_reducible show wpAny _ _ (compareOp CmpOp.NotEq (Value.ref _) (Value.ref _)) _ _ _); refine Hold.out ?_))
local macro_rules | `(tactic| walk_at "exec Assign cons ListComp") => `(tactic| ((with_reducible show wpAny _ _ (exec (Stmt.Assign [Expr.Name (PySem.Str.ofString "warm") _] _ _) _) _ _ _); walk_at "exec Assign"))
local macro_rules | `(tactic| k_ne) => `(tactic| (refine neN ?_; (try dsimp only); first | with_reducible assumption | exact Ne.symm (by with_reducible assumption)))
local macro_rules | `(tactic| walk_at "subscriptTail Name Name ref int") => `(tactic| (k_here; k_dflt (refine' kim_list ?k1 ?k2 ?k3 ?k4 ?k5 ?k6 ?k7 ?_ ?k8 ?k9; (case k1 => k_asm); (case k2 => k_mem); (case k3 | k4 => exact rfl); (case k5 | k6 | k7 => walk_at "t0"); (case k8 => walk_at "t5"); (case k9 => walk_at "t6"); k_whole)))
local macro_rules | `(tactic| walk_at "subscriptTail Name BinOp ref int") => `(tactic| (k_here; k_dflt (refine' kim_list ?k1 ?k2 ?k3 ?k4 ?k5 ?k6 ?k7 ?_ ?k8 ?k9; (case k1 => k_asm); (case k2 => k_mem); (case k3 | k4 => exact rfl); (case k5 | k6 | k7 => walk_at "t0"); (case k8 => walk_at "t5"); (case k9 => walk_at "t6"); k_whole)))
set_option maxRecDepth 100000 in
set_option maxHeartbeats 8000000 in
theorem PySem.Challenge.cw_ui0509_10_holds : PySem.Challenge.rw_ui0509_10.Holds :=
  HD.hd (by
  k_go0; (all_goals try k_fold); k_steps
  all_goals (try unfold Hold)
  all_goals (try dsimp only)
  all_goals try (with_reducible show GoodW _ _ _ _ _ (Except.ok (Flow.ret (Value.bool true))) _; exact good_true (by assumption) (by assumption) rfl)
  rename_i v v0 v1 vE h1 tk1 t1 u1 v1' hR F1 N1 k1
  (rename Shared => s1)
  (rename World => w0)
  clear k1 vE
  obtain ⟨o3, o2, o1, NC, q3, q2, q1⟩ := cells3 N1 (by assumption) (by assumption) (by assumption)
  clear N1
  refine LCg.CompSrc.range (n := (2 + v).toNat) rfl F1 NC hR (small_one (by omega) (by omega) (by omega) (by omega)) (rsize (by omega)) (by rw [sizeLine_eq]; omega) (fun g9 => ?_)
  refine comp_ind (fun i ys nx => ∃ tl ls, nx = [(s1.heap.objs.size + 1 + 1 + 1, o3), (s1.heap.objs.size + 1 + 1, o2), (s1.heap.objs.size + 1, o1)] ++ tl ∧ (∀ p ∈ tl, p.1 ≠ s1.heap.objs.size + 1 + 1 + 1 ∧ p.1 ≠ s1.heap.objs.size + 1 + 1 ∧ p.1 ≠ s1.heap.objs.size + 1 ) ∧ All2 (LayN (Led tl)) ys ls ∧ ls.length = i ∧ ∀ (j : Nat) (l : Rat × Rat), ls[j]? = some l → ∃ a b : Int, l = ((a : Rat), (b : Rat)) ∧ 1 ≤ a ∧ a ≤ 60 ∧ 91 - 12 * (j : Int) ≤ b ∧ b ≤ 95 - 12 * (j : Int)) ?turn ?fin _ 0 [] _ (Nat.zero_add _) ⟨[], [], rfl, (fun _ h => nomatch h), .nil, rfl, fun _ _ h => by simp at h⟩
  case turn =>
    intro i v9 I oI C oC D9 m2 h tk E' ys nx hi hJ hPv hC hx Fm Nn off ne
    obtain ⟨tl, ls, rfl, hoff, hys, hln, hat⟩ := hJ
    obtain ⟨t9, rfl⟩ := hPv
    have off' := off
    simp only [List.cons_append, List.nil_append] at Nn off'
    simp only [LCg.Off3, and_assoc] at off'
    k_steps
    unfold Hold
    rename_i x1 x2 x3 x4 x5 x6 x7 x8 va va0 va1 vaE Da ta ua ca ha tka la y1 y2 y3 y4 y5 y6 vb vb0 vb1 vbE Db tb ub cb hb tkb lb Dp hp FF NN lp
    refine comp_end FF NN ((s1.heap.objs.size + 1 + 1 + 1, o3) :: (s1.heap.objs.size + 1 + 1, o2) :: (s1.heap.objs.size + 1, o1) :: (Dp, pairO (.ref Da) (.ref Db) 0) :: (Db, T2 (95 - 12 * (0 + (i : Int)) - vb) 1 tb ub cb) :: (Da, T2 (1 + va) 1 ta ua ca) :: tl) (List.forall_mem_cons.mpr ⟨by k_mem, List.forall_mem_cons.mpr ⟨by k_mem, List.forall_mem_cons.mpr ⟨by k_mem, List.forall_mem_cons.mpr ⟨by k_mem, List.forall_mem_cons.mpr ⟨by k_mem, List.forall_mem_cons.mpr ⟨by k_mem, List.forall_mem_cons.mpr ⟨by k_mem, List.forall_mem_cons.mpr ⟨by k_mem, List.forall_mem_cons.mpr ⟨by k_mem, (by intro p9 hp9; first | ((repeat (first | exact hp9 | exact List.mem_append_left _ hp9 | exact List.mem_append_right _ hp9 | refine List.mem_cons_of_mem _ ?_)); done) | (simp only [List.mem_cons, List.mem_append]; simp only [hp9, true_or, or_true]))⟩⟩⟩⟩⟩⟩⟩⟩⟩) ⟨off.1, off.2.1, off.2.2.1, ⟨neN (by walk_at "ne9"), neN (by walk_at "ne9"), neN (by walk_at "ne9")⟩, ⟨neN (by walk_at "ne9"), neN (by walk_at "ne9"), neN (by walk_at "ne9")⟩, ⟨neN (by walk_at "ne9"), neN (by walk_at "ne9"), neN (by walk_at "ne9")⟩, off.2.2.2⟩ trivial ⟨_, ls ++ [(((1 + va : Int) : Rat), ((95 - 12 * (0 + (i : Int)) - vb : Int) : Rat))], rfl, ?o, ?y, by rw [List.length_append, hln]; rfl, l10_snoc hln hat (by omega) (by omega) (by omega) (by omega)⟩
    case o => exact List.forall_mem_cons.mpr ⟨⟨neN (by walk_at "ne9"), neN (by walk_at "ne9"), neN (by walk_at "ne9")⟩, List.forall_mem_cons.mpr ⟨⟨neN (by walk_at "ne9"), neN (by walk_at "ne9"), neN (by walk_at "ne9")⟩, List.forall_mem_cons.mpr ⟨⟨neN (by walk_at "ne9"), neN (by walk_at "ne9"), neN (by walk_at "ne9")⟩, hoff⟩⟩⟩
    case y => exact (hys.mono fun _ _ y => y.mono fun _ _ e => List.mem_cons_of_mem _ (List.mem_cons_of_mem _ (List.mem_cons_of_mem _ e))).snoc (layL (List.mem_cons_self ..) (ratL (by k_mem)) (ratL (by k_mem)))
  case fin =>
    intro ys nx hJ D h tk Fm Nn off
    obtain ⟨tl, ls, rfl, hoff, hys, hln, hat⟩ := hJ
    have H : L10 ls := ⟨by omega, hat⟩
    simp only [List.cons_append, List.nil_append] at Nn
    obtain ⟨R0, eR0⟩ : ∃ R, R = (D, LCg.lst ys) :: tl := ⟨_, rfl⟩
    obtain ⟨N0L, eN0L, NR0⟩ := news_as Nn (l := (s1.heap.objs.size + 1 + 1 + 1, o3) :: (s1.heap.objs.size + 1 + 1, o2) :: (s1.heap.objs.size + 1, o1) :: (D, LCg.lst ys) :: tl) (List.forall_mem_cons.mpr ⟨by k_mem, List.forall_mem_cons.mpr ⟨by k_mem, List.forall_mem_cons.mpr ⟨by k_mem, List.forall_mem_cons.mpr ⟨by k_mem, (by intro p9 hp9; first | ((repeat (first | exact hp9 | exact List.mem_append_left _ hp9 | exact List.mem_append_right _ hp9 | refine List.mem_cons_of_mem _ ?_)); done) | (simp only [List.mem_cons, List.mem_append]; simp only [hp9, true_or, or_true]))⟩⟩⟩⟩)
    rw [← eR0] at eN0L; subst eN0L
    have eD : (D, W.listOf ys.toArray ys.length) ∈ R0 := by rw [eR0]; exact List.mem_cons_self ..
    have a3 : ∀ p ∈ R0, p.1 ≠ s1.heap.objs.size + 1 + 1 + 1 := by rw [eR0]; exact List.forall_mem_cons.mpr ⟨fun e => off.1 e.symm, fun p hp => (hoff p hp).1⟩
    have a2 : ∀ p ∈ R0, p.1 ≠ s1.heap.objs.size + 1 + 1 := by rw [eR0]; exact List.forall_mem_cons.mpr ⟨fun e => off.2.1 e.symm, fun p hp => (hoff p hp).2.1⟩
    have a1 : ∀ p ∈ R0, p.1 ≠ s1.heap.objs.size + 1 := by rw [eR0]; exact List.forall_mem_cons.mpr ⟨fun e => off.2.2.1 e.symm, fun p hp => (hoff p hp).2.2⟩
    replace hys : All2 (LayN (Led R0)) ys ls := by rw [eR0]; exact hys.mono fun _ _ y => y.mono fun _ _ e => List.mem_cons_of_mem _ e
    clear Nn eR0 off hoff
    k_steps
    unfold Hold
    k_dflt (refine' tank_new (P := Led R0) (vs := ys) (ls := ls) (b := 64) ?k1_u1 ?k2_u1 ?k3_u1 ?k4_u1 ?k5_u1 ?k6_u1 ?hP_u1 ?el_u1 ?hv_u1 ?hne_u1 ?hf_u1 ?hpos_u1 ?hb_u1 ?hb2_u1 ?hbb_u1 ?hll_u1 ?k7_u1 ?k8_u1 ?_)
    case k1_u1 => k_asm
    case k2_u1 => k_asm
    case k3_u1 => k_asm
    case k4_u1 => k_asm
    case k5_u1 => k_asm
    case k6_u1 => first | exact rfl | assumption
    case k7_u1 => ktr_room
    case k8_u1 => ktr_units
    case hP_u1 => exact fun _ _ e => .inl (((by intro p9 hp9; first | ((repeat (first | exact hp9 | exact List.mem_append_left _ hp9 | exact List.mem_append_right _ hp9 | refine List.mem_cons_of_mem _ ?_)); done) | (simp only [List.mem_cons, List.mem_append]; simp only [hp9, true_or, or_true])) : ∀ p ∈ R0, p ∈ _) _ e)
    case el_u1 => exact eD
    case hv_u1 => exact hys
    case hne_u1 => exact H.ne
    case hf_u1 => exact H.falls
    case hpos_u1 => exact H.pos
    case hb_u1 => exact H.bd1
    case hb2_u1 => exact H.bd2
    case hbb_u1 => decide
    case hll_u1 => have := H.len; omega

    intro x d k1 v9 tl1 h1 tk1 F1 N1 ndx nx nd tx td ntl L9
    replace ndx := neN ndx
    simp only [List.cons_append, List.nil_append] at N1
    have jx3 := neN (nx (s1.heap.objs.size + 1 + 1 + 1, _) (by k_mem))
    have jx2 := neN (nx (s1.heap.objs.size + 1 + 1, _) (by k_mem))
    have jx1 := neN (nx (s1.heap.objs.size + 1, _) (by k_mem))
    have jd3 := neN (nd (s1.heap.objs.size + 1 + 1 + 1, _) (by k_mem))
    have jd2 := neN (nd (s1.heap.objs.size + 1 + 1, _) (by k_mem))
    have jd1 := neN (nd (s1.heap.objs.size + 1, _) (by k_mem))
    have ox : ∀ p ∈ R0, p.1 ≠ x := fun p hp => nx p (((by intro p9 hp9; first | ((repeat (first | exact hp9 | exact List.mem_append_left _ hp9 | exact List.mem_append_right _ hp9 | refine List.mem_cons_of_mem _ ?_)); done) | (simp only [List.mem_cons, List.mem_append]; simp only [hp9, true_or, or_true])) : ∀ p ∈ R0, p ∈ _) p hp)
    have od : ∀ p ∈ R0, p.1 ≠ d := fun p hp => nd p (((by intro p9 hp9; first | ((repeat (first | exact hp9 | exact List.mem_append_left _ hp9 | exact List.mem_append_right _ hp9 | refine List.mem_cons_of_mem _ ?_)); done) | (simp only [List.mem_cons, List.mem_append]; simp only [hp9, true_or, or_true])) : ∀ p ∈ R0, p ∈ _) p hp)
    obtain ⟨lt, vt, nt, rfl, plt, hvt⟩ := L9
    obtain ⟨R1, eR1⟩ : ∃ R, R = R0 ++ tl1 := ⟨_, rfl⟩
    obtain ⟨NR1, fR1, NR1'⟩ := news_as N1 (l := (x, instObj 174 d) :: (d, tankD w0.params k1 (.ref lt)) :: (s1.heap.objs.size + 1 + 1 + 1, o3) :: (s1.heap.objs.size + 1 + 1, o2) :: (s1.heap.objs.size + 1, o1) :: (R0 ++ tl1)) (List.forall_mem_cons.mpr ⟨by k_mem, List.forall_mem_cons.mpr ⟨by k_mem, List.forall_mem_cons.mpr ⟨by k_mem, List.forall_mem_cons.mpr ⟨by k_mem, List.forall_mem_cons.mpr ⟨by k_mem, List.forall_mem_append.mpr ⟨(by intro p9 hp9; first | ((repeat (first | exact hp9 | exact List.mem_append_left _ hp9 | exact List.mem_append_right _ hp9 | refine List.mem_cons_of_mem _ ?_)); done) | (simp only [List.mem_cons, List.mem_append]; simp only [hp9, true_or, or_true])), (by intro p9 hp9; first | ((repeat (first | exact hp9 | exact List.mem_append_left _ hp9 | exact List.mem_append_right _ hp9 | refine List.mem_cons_of_mem _ ?_)); done) | (simp only [List.mem_cons, List.mem_append]; simp only [hp9, true_or, or_true]))⟩⟩⟩⟩⟩⟩)
    rw [← eR1] at fR1; subst fR1
    have sR1 : ∀ p ∈ R0, p ∈ R1 := by rw [eR1]; exact fun p hp => List.mem_append_left _ hp
    replace a3 : ∀ p ∈ R1, p.1 ≠ s1.heap.objs.size + 1 + 1 + 1 := by rw [eR1]; exact List.forall_mem_append.mpr ⟨a3, off_of ntl (by k_mem)⟩
    replace a2 : ∀ p ∈ R1, p.1 ≠ s1.heap.objs.size + 1 + 1 := by rw [eR1]; exact List.forall_mem_append.mpr ⟨a2, off_of ntl (by k_mem)⟩
    replace a1 : ∀ p ∈ R1, p.1 ≠ s1.heap.objs.size + 1 := by rw [eR1]; exact List.forall_mem_append.mpr ⟨a1, off_of ntl (by k_mem)⟩
    replace hys := hys.mono fun _ _ y => y.mono fun _ _ e => sR1 _ e
    replace eD := sR1 _ eD
    have tR1 : ∀ p ∈ tl1, p ∈ R1 := by rw [eR1]; exact fun p hp => List.mem_append_right _ hp
    replace ox : ∀ p ∈ R1, p.1 ≠ x := by rw [eR1]; exact List.forall_mem_append.mpr ⟨ox, tx⟩
    replace od : ∀ p ∈ R1, p.1 ≠ d := by rw [eR1]; exact List.forall_mem_append.mpr ⟨od, td⟩
    replace plt := ptL sR1 tR1 _ _ plt
    replace hvt := hvt.mono fun _ _ y => y.mono (ptL sR1 tR1)
    clear N1 eR1 tR1 nx nd tx td ntl sR1
    k_steps
    unfold Hold
    k_dflt (refine' litres_c (P := Led R1) (vs := vt) (ls := ls) (b := 64) ?k1_u2 ?k2_u2 ?k3_u2 ?k4_u2 ?k5_u2 ?k6_u2 ?gx_u2 ?gd_u2 ?hP_u2 ?el_u2 ?hv_u2 ?hne_u2 ?hb_u2 ?hlen_u2 ?k7_u2 ?k8_u2 ?_)
    case k1_u2 => k_asm
    case k2_u2 => k_asm
    case k3_u2 => k_asm
    case k4_u2 => k_asm
    case k5_u2 => k_asm
    case k6_u2 => first | exact rfl | assumption
    case k7_u2 => ktr_room
    case k8_u2 => ktr_units
    case gx_u2 => exact News.get (by k_asm) (by k_mem)
    case gd_u2 => exact News.get (by k_asm) (by k_mem)
    case hP_u2 => exact ledG (by k_asm) ((by intro p9 hp9; first | ((repeat (first | exact hp9 | exact List.mem_append_left _ hp9 | exact List.mem_append_right _ hp9 | refine List.mem_cons_of_mem _ ?_)); done) | (simp only [List.mem_cons, List.mem_append]; simp only [hp9, true_or, or_true])) : ∀ p ∈ R1, p ∈ _)
    case el_u2 => exact plt
    case hv_u2 => exact hvt
    case hne_u2 => exact H.ne
    case hb_u2 => exact H.bd1
    case hlen_u2 => have := H.len; omega

    intro Dl tl2 ul cl hl tkl bl Fl Nl ll
    have bT : Bd 300 (tot (ls.map (·.1))) := bl.mono (by have := H.len; omega)
    clear bl
    obtain ⟨R2, eR2⟩ : ∃ R, R = (Dl, RatO (tot (ls.map (·.1))) tl2 ul cl) :: R1 := ⟨_, rfl⟩
    obtain ⟨NR2, fR2, NR2'⟩ := news_as Nl (l := (x, instObj 174 d) :: (d, tankD w0.params k1 (.ref lt)) :: (s1.heap.objs.size + 1 + 1 + 1, o3) :: (s1.heap.objs.size + 1 + 1, o2) :: (s1.heap.objs.size + 1, o1) :: ((Dl, RatO (tot (ls.map (·.1))) tl2 ul cl) :: R1)) (List.forall_mem_cons.mpr ⟨by k_mem, List.forall_mem_cons.mpr ⟨by k_mem, List.forall_mem_cons.mpr ⟨by k_mem, List.forall_mem_cons.mpr ⟨by k_mem, List.forall_mem_cons.mpr ⟨by k_mem, List.forall_mem_cons.mpr ⟨by k_mem, (by intro p9 hp9; first | ((repeat (first | exact hp9 | exact List.mem_append_left _ hp9 | exact List.mem_append_right _ hp9 | refine List.mem_cons_of_mem _ ?_)); done) | (simp only [List.mem_cons, List.mem_append]; simp only [hp9, true_or, or_true]))⟩⟩⟩⟩⟩⟩)
    rw [← eR2] at fR2; subst fR2
    have sR2 : ∀ p ∈ R1, p ∈ R2 := by rw [eR2]; exact fun p hp => List.mem_cons_of_mem _ hp
    replace a3 : ∀ p ∈ R2, p.1 ≠ s1.heap.objs.size + 1 + 1 + 1 := by rw [eR2]; exact List.forall_mem_cons.mpr ⟨fun e => ll (s1.heap.objs.size + 1 + 1 + 1, _) (by k_mem) e.symm, a3⟩
    replace a2 : ∀ p ∈ R2, p.1 ≠ s1.heap.objs.size + 1 + 1 := by rw [eR2]; exact List.forall_mem_cons.mpr ⟨fun e => ll (s1.heap.objs.size + 1 + 1, _) (by k_mem) e.symm, a2⟩
    replace a1 : ∀ p ∈ R2, p.1 ≠ s1.heap.objs.size + 1 := by rw [eR2]; exact List.forall_mem_cons.mpr ⟨fun e => ll (s1.heap.objs.size + 1, _) (by k_mem) e.symm, a1⟩
    replace ox : ∀ p ∈ R2, p.1 ≠ x := by rw [eR2]; exact List.forall_mem_cons.mpr ⟨fun e => ll (x, _) (by k_mem) e.symm, ox⟩
    replace od : ∀ p ∈ R2, p.1 ≠ d := by rw [eR2]; exact List.forall_mem_cons.mpr ⟨fun e => ll (d, _) (by k_mem) e.symm, od⟩
    replace hys := hys.mono fun _ _ y => y.mono fun _ _ e => sR2 _ e
    replace eD := sR2 _ eD
    have mL : (Dl, RatO (tot (ls.map (·.1))) tl2 ul cl) ∈ R2 := by rw [eR2]; exact List.mem_cons_self ..
    have eL := tkOf (by k_asm) mL
    replace plt := sR2 _ plt
    replace hvt := hvt.mono fun _ _ y => y.mono fun _ _ e => sR2 _ e
    clear Nl eR2 ll sR2
    k_steps
    unfold Hold
    rename_i va va0 va1 vaE rz Dz tz uz cz hz9 tkz rzE rzN rzD lz hz8 Fz Nz
    have bz : Bd 64 rz := by rw [rzE]; exact bd_div3 va0 va1
    clear rzN rzD vaE
    obtain ⟨R3, eR3⟩ : ∃ R, R = (Dz, RatO rz tz uz cz) :: R2 := ⟨_, rfl⟩
    obtain ⟨NR3, fR3, NR3'⟩ := news_as Nz (l := (x, instObj 174 d) :: (d, tankD w0.params k1 (.ref lt)) :: (s1.heap.objs.size + 1 + 1 + 1, o3) :: (s1.heap.objs.size + 1 + 1, o2) :: (s1.heap.objs.size + 1, o1) :: ((Dz, RatO rz tz uz cz) :: R2)) (List.forall_mem_cons.mpr ⟨by k_mem, List.forall_mem_cons.mpr ⟨by k_mem, List.forall_mem_cons.mpr ⟨by k_mem, List.forall_mem_cons.mpr ⟨by k_mem, List.forall_mem_cons.mpr ⟨by k_mem, List.forall_mem_cons.mpr ⟨by k_mem, (by intro p9 hp9; first | ((repeat (first | exact hp9 | exact List.mem_append_left _ hp9 | exact List.mem_append_right _ hp9 | refine List.mem_cons_of_mem _ ?_)); done) | (simp only [List.mem_cons, List.mem_append]; simp only [hp9, true_or, or_true]))⟩⟩⟩⟩⟩⟩)
    rw [← eR3] at fR3; subst fR3
    have sR3 : ∀ p ∈ R2, p ∈ R3 := by rw [eR3]; exact fun p hp => List.mem_cons_of_mem _ (hp)
    replace a3 : ∀ p ∈ R3, p.1 ≠ s1.heap.objs.size + 1 + 1 + 1 := by rw [eR3]; exact List.forall_mem_cons.mpr ⟨neN (by walk_at "ne9"), a3⟩
    replace a2 : ∀ p ∈ R3, p.1 ≠ s1.heap.objs.size + 1 + 1 := by rw [eR3]; exact List.forall_mem_cons.mpr ⟨neN (by walk_at "ne9"), a2⟩
    replace a1 : ∀ p ∈ R3, p.1 ≠ s1.heap.objs.size + 1 := by rw [eR3]; exact List.forall_mem_cons.mpr ⟨neN (by walk_at "ne9"), a1⟩
    replace ox : ∀ p ∈ R3, p.1 ≠ x := by rw [eR3]; exact List.forall_mem_cons.mpr ⟨neN (by walk_at "ne9"), ox⟩
    replace od : ∀ p ∈ R3, p.1 ≠ d := by rw [eR3]; exact List.forall_mem_cons.mpr ⟨neN (by walk_at "ne9"), od⟩
    replace hys := hys.mono fun _ _ y => y.mono fun _ _ e => sR3 _ e
    replace eD := sR3 _ eD
    replace mL := sR3 _ mL
    replace eL := tkOf (by k_asm) mL
    have mZ : (Dz, RatO rz tz uz cz) ∈ R3 := (by rw [eR3]; k_mem : (Dz, RatO rz tz uz cz) ∈ R3)
    have eZ := tkOf (by k_asm) mZ
    replace plt := sR3 _ plt
    replace hvt := hvt.mono fun _ _ y => y.mono fun _ _ e => sR3 _ e
    clear Nz eR3 sR3
    k_dflt (refine' least_m (D1 := Dz) (D2 := Dl) (r1 := rz) (r2 := tot (ls.map (·.1))) (n := 64) (k := 300) ?k1_u3 ?k2_u3 ?k3_u3 ?k4_u3 ?k5_u3 ?k6_u3 ?e1_u3 ?e2_u3 ?k7_u3 ?k8_u3 ?b1_u3 ?b2_u3 ?hbq_u3 ?_)
    case k1_u3 => k_asm
    case k2_u3 => k_asm
    case k3_u3 => k_asm
    case k4_u3 => k_asm
    case k5_u3 => k_asm
    case k6_u3 => first | exact rfl | assumption
    case k7_u3 => ktr_room
    case k8_u3 => ktr_units
    case e1_u3 => exact Tk.get (by k_asm) (by k_asm) eZ (by intro p9 hp9; first | ((repeat (first | exact hp9 | exact List.mem_append_left _ hp9 | exact List.mem_append_right _ hp9 | refine List.mem_cons_of_mem _ ?_)); done) | (simp only [List.mem_cons, List.mem_append]; simp only [hp9, true_or, or_true]))
    case e2_u3 => exact Tk.get (by k_asm) (by k_asm) eL (by intro p9 hp9; first | ((repeat (first | exact hp9 | exact List.mem_append_left _ hp9 | exact List.mem_append_right _ hp9 | refine List.mem_cons_of_mem _ ?_)); done) | (simp only [List.mem_cons, List.mem_append]; simp only [hp9, true_or, or_true]))
    case b1_u3 => exact bz
    case b2_u3 => exact bT
    case hbq_u3 => decide

    intro Dx x9 hx9 tkx hxx Fx Nx
    obtain ⟨tx9, ux9, cx9, mX⟩ := least_tk mZ mL hxx
    have eX := tkOf (by k_asm) mX
    obtain ⟨hx0, hxT, hxg, hxk, bX⟩ := size10' H va0 va1 rzE hxx
    obtain ⟨K, ot, AA⟩ : ∃ K ot, A10 ls x9 K ot := ⟨_, _, a10 H hx0 hxT hxg hxk⟩
    clear hxx bz rzE eZ mZ lz
    k_steps
    unfold Hold
    rename_i Dh th uh ch hA tkA lh hB tkB Db tb ub cb hC tkC lb hD o2b Fb Nb q2b
    clear q2
    obtain ⟨R4, eR4⟩ : ∃ R, R = (Db, T2 30 1 tb ub cb) :: (Dh, T2 96 1 th uh ch) :: R3 := ⟨_, rfl⟩
    obtain ⟨NR4, fR4, NR4'⟩ := news_as Nb (l := (x, instObj 174 d) :: (d, tankD w0.params k1 (.ref lt)) :: (s1.heap.objs.size + 1 + 1 + 1, o3) :: (s1.heap.objs.size + 1 + 1, o2b) :: (s1.heap.objs.size + 1, o1) :: ((Db, T2 30 1 tb ub cb) :: (Dh, T2 96 1 th uh ch) :: R3)) (List.forall_mem_cons.mpr ⟨by k_mem, List.forall_mem_cons.mpr ⟨by k_mem, List.forall_mem_cons.mpr ⟨by k_mem, List.forall_mem_cons.mpr ⟨by k_mem, List.forall_mem_cons.mpr ⟨by k_mem, List.forall_mem_cons.mpr ⟨by k_mem, List.forall_mem_cons.mpr ⟨by k_mem, (by intro p9 hp9; first | ((repeat (first | exact hp9 | exact List.mem_append_left _ hp9 | exact List.mem_append_right _ hp9 | refine List.mem_cons_of_mem _ ?_)); done) | (simp only [List.mem_cons, List.mem_append]; simp only [hp9, true_or, or_true]))⟩⟩⟩⟩⟩⟩⟩)
    rw [← eR4] at fR4; subst fR4
    have sR4 : ∀ p ∈ R3, p ∈ R4 := by rw [eR4]; exact fun p hp => List.mem_cons_of_mem _ (List.mem_cons_of_mem _ (hp))
    replace a3 : ∀ p ∈ R4, p.1 ≠ s1.heap.objs.size + 1 + 1 + 1 := by rw [eR4]; exact List.forall_mem_cons.mpr ⟨neN (by walk_at "ne9"), List.forall_mem_cons.mpr ⟨neN (by walk_at "ne9"), a3⟩⟩
    replace a2 : ∀ p ∈ R4, p.1 ≠ s1.heap.objs.size + 1 + 1 := by rw [eR4]; exact List.forall_mem_cons.mpr ⟨neN (by walk_at "ne9"), List.forall_mem_cons.mpr ⟨neN (by walk_at "ne9"), a2⟩⟩
    replace a1 : ∀ p ∈ R4, p.1 ≠ s1.heap.objs.size + 1 := by rw [eR4]; exact List.forall_mem_cons.mpr ⟨neN (by walk_at "ne9"), List.forall_mem_cons.mpr ⟨neN (by walk_at "ne9"), a1⟩⟩
    replace ox : ∀ p ∈ R4, p.1 ≠ x := by rw [eR4]; exact List.forall_mem_cons.mpr ⟨neN (by walk_at "ne9"), List.forall_mem_cons.mpr ⟨neN (by walk_at "ne9"), ox⟩⟩
    replace od : ∀ p ∈ R4, p.1 ≠ d := by rw [eR4]; exact List.forall_mem_cons.mpr ⟨neN (by walk_at "ne9"), List.forall_mem_cons.mpr ⟨neN (by walk_at "ne9"), od⟩⟩
    replace hys := hys.mono fun _ _ y => y.mono fun _ _ e => sR4 _ e
    replace eD := sR4 _ eD
    replace mL := sR4 _ mL
    replace eL := tkOf (by k_asm) mL
    replace mX := sR4 _ mX
    replace eX := tkOf (by k_asm) mX
    have mB : (Db, RatO (30 : Rat) tb ub cb) ∈ R4 := (by rw [eR4]; k_mem : (Db, T2 30 1 tb ub cb) ∈ R4)
    have eB := tkOf (by k_asm) mB
    have mH : (Dh, RatO (96 : Rat) th uh ch) ∈ R4 := (by rw [eR4]; k_mem : (Dh, T2 96 1 th uh ch) ∈ R4)
    have eH := tkOf (by k_asm) mH
    replace plt := sR4 _ plt
    replace hvt := hvt.mono fun _ _ y => y.mono fun _ _ e => sR4 _ e
    have bB : Bd 64 (30 : Rat) := bd64 (x := 30) (by decide) (by decide)
    have bH : Bd 64 (96 : Rat) := bd64 (x := 96) (by decide) (by decide)
    clear Nb eR4 sR4 lh lb
    k_dflt (refine' heat_c (W := R4) (vs := vt) (ls := ls) (b := 64) (rb := 30) ?k1_u4 ?k2_u4 ?k3_u4 ?k4_u4 ?k5_u4 ?k6_u4 ?hW_u4 ?gx_u4 ?gd_u4 ?hWx_u4 ?hWd_u4 ?el_u4 ?hv_u4 ?hne_u4 ?hb_u4 ?hb2_u4 ?eb_u4 ?hbb_u4 ?hll_u4 ?hbs_u4 ?k7_u4 ?k8_u4 ?_)
    case k1_u4 => k_asm
    case k2_u4 => k_asm
    case k3_u4 => k_asm
    case k4_u4 => k_asm
    case k5_u4 => k_asm
    case k6_u4 => first | exact rfl | assumption
    case k7_u4 => ktr_room
    case k8_u4 => ktr_units
    case gx_u4 => exact News.get (by k_asm) (by k_mem)
    case gd_u4 => exact News.get (by k_asm) (by k_mem)
    case hW_u4 => exact (by intro p9 hp9; first | ((repeat (first | exact hp9 | exact List.mem_append_left _ hp9 | exact List.mem_append_right _ hp9 | refine List.mem_cons_of_mem _ ?_)); done) | (simp only [List.mem_cons, List.mem_append]; simp only [hp9, true_or, or_true]))
    case hWx_u4 => exact ox
    case hWd_u4 => exact od
    case el_u4 => exact plt
    case hv_u4 => exact hvt
    case hne_u4 => exact H.ne
    case hb_u4 => exact H.bd1
    case hb2_u4 => exact H.bd2
    case eb_u4 => exact mB
    case hbb_u4 => exact bB
    case hll_u4 => have := H.len; omega
    case hbs_u4 => decide

    intro Df tf uf cf hf tkf bf Ff Nf lf
    have bF : Bd 1000 (heatF 30 ls) := bf.mono (by have := H.len; omega)
    clear bf
    obtain ⟨R5, eR5⟩ : ∃ R, R = (Df, RatO (heatF 30 ls) tf uf cf) :: R4 := ⟨_, rfl⟩
    obtain ⟨NR5, fR5, NR5'⟩ := news_as Nf (l := (x, instObj 174 d) :: (d, tankD w0.params k1 (.ref lt)) :: (s1.heap.objs.size + 1 + 1 + 1, o3) :: (s1.heap.objs.size + 1 + 1, o2b) :: (s1.heap.objs.size + 1, o1) :: ((Df, RatO (heatF 30 ls) tf uf cf) :: R4)) (List.forall_mem_cons.mpr ⟨by k_mem, List.forall_mem_cons.mpr ⟨by k_mem, List.forall_mem_cons.mpr ⟨by k_mem, List.forall_mem_cons.mpr ⟨by k_mem, List.forall_mem_cons.mpr ⟨by k_mem, List.forall_mem_cons.mpr ⟨by k_mem, (by intro p9 hp9; first | ((repeat (first | exact hp9 | exact List.mem_append_left _ hp9 | exact List.mem_append_right _ hp9 | refine List.mem_cons_of_mem _ ?_)); done) | (simp only [List.mem_cons, List.mem_append]; simp only [hp9, true_or, or_true]))⟩⟩⟩⟩⟩⟩)
    rw [← eR5] at fR5; subst fR5
    have sR5 : ∀ p ∈ R4, p ∈ R5 := by rw [eR5]; exact fun p hp => List.mem_cons_of_mem _ hp
    replace a3 : ∀ p ∈ R5, p.1 ≠ s1.heap.objs.size + 1 + 1 + 1 := by rw [eR5]; exact List.forall_mem_cons.mpr ⟨fun e => lf (s1.heap.objs.size + 1 + 1 + 1, _) (by k_mem) e.symm, a3⟩
    replace a2 : ∀ p ∈ R5, p.1 ≠ s1.heap.objs.size + 1 + 1 := by rw [eR5]; exact List.forall_mem_cons.mpr ⟨fun e => lf (s1.heap.objs.size + 1 + 1, _) (by k_mem) e.symm, a2⟩
    replace a1 : ∀ p ∈ R5, p.1 ≠ s1.heap.objs.size + 1 := by rw [eR5]; exact List.forall_mem_cons.mpr ⟨fun e => lf (s1.heap.objs.size + 1, _) (by k_mem) e.symm, a1⟩
    replace ox : ∀ p ∈ R5, p.1 ≠ x := by rw [eR5]; exact List.forall_mem_cons.mpr ⟨fun e => lf (x, _) (by k_mem) e.symm, ox⟩
    replace od : ∀ p ∈ R5, p.1 ≠ d := by rw [eR5]; exact List.forall_mem_cons.mpr ⟨fun e => lf (d, _) (by k_mem) e.symm, od⟩
    replace hys := hys.mono fun _ _ y => y.mono fun _ _ e => sR5 _ e
    replace eD := sR5 _ eD
    replace mL := sR5 _ mL
    replace eL := tkOf (by k_asm) mL
    replace mX := sR5 _ mX
    replace eX := tkOf (by k_asm) mX
    replace mB := sR5 _ mB
    replace eB := tkOf (by k_asm) mB
    replace mH := sR5 _ mH
    replace eH := tkOf (by k_asm) mH
    have mF : (Df, RatO (heatF 30 ls) tf uf cf) ∈ R5 := by rw [eR5]; exact List.mem_cons_self ..
    have eF := tkOf (by k_asm) mF
    replace plt := sR5 _ plt
    replace hvt := hvt.mono fun _ _ y => y.mono fun _ _ e => sR5 _ e
    clear Nf eR5 lf sR5
    k_steps
    unfold Hold
    k_dflt (refine' charge_c (P := Led R5) (x := x) (d := d) (vs := vt) (ls := ls) (n0 := nt) (b := 64) (bx := 64) (bw := 64) (rx := x9) (rw' := 96) ?k1_u5 ?k2_u5 ?k3_u5 ?k4_u5 ?k5_u5 ?k6_u5 ?ex0_u5 ?U_u5 ?ndx_u5 ?hP_u5 ?hPn_u5 ?el_u5 ?hv_u5 ?hne_u5 ?hb_u5 ?hlen_u5 ?hll_u5 ?ex_u5 ?hbx_u5 ?hx0_u5 ?hx1_u5 ?h1x_u5 ?hlen2_u5 ?ew_u5 ?hbw_u5 ?hbw2_u5 ?hf_u5 ?hbl_u5 ?k7_u5 ?k8_u5 ?_)
    case k1_u5 => k_asm
    case k2_u5 => k_asm
    case k3_u5 => k_asm
    case k4_u5 => k_asm
    case k5_u5 => k_asm
    case k6_u5 => first | exact rfl | assumption
    case k7_u5 => ktr_room
    case k8_u5 => ktr_units
    case ex0_u5 => k_mem
    case U_u5 => k_updF
    case ndx_u5 => exact ndx
    case hP_u5 => exact ledG (by k_asm) ((by intro p9 hp9; first | ((repeat (first | exact hp9 | exact List.mem_append_left _ hp9 | exact List.mem_append_right _ hp9 | refine List.mem_cons_of_mem _ ?_)); done) | (simp only [List.mem_cons, List.mem_append]; simp only [hp9, true_or, or_true])) : ∀ p ∈ R5, p ∈ _)
    case hPn_u5 => exact fun a o e => ⟨ox _ e, od _ e⟩
    case el_u5 => exact plt
    case hv_u5 => exact hvt
    case hne_u5 => exact H.ne
    case hb_u5 => exact H.bd1
    case hlen_u5 => have := H.len; omega
    case hll_u5 => have := H.len; omega
    case ex_u5 => exact mX
    case hbx_u5 => exact bX
    case hx0_u5 => exact hx0
    case hx1_u5 => exact hxT
    case h1x_u5 => decide
    case hlen2_u5 => have := H.len; omega
    case ew_u5 => exact mH
    case hbw_u5 => exact bH
    case hbw2_u5 => decide
    case hf_u5 => rw [AA.er]; exact AA.f1
    case hbl_u5 => rw [AA.er]; exact AA.b2

    intro vo v5 tl5 h5 tk5 F5 N5 nt5 Lo Lv
    rw [AA.eo] at Lo
    rw [AA.er] at Lv
    (try dsimp only at N5)
    simp only [List.cons_append, List.nil_append] at N5
    obtain ⟨lt2, vt2, nt2, rfl, plt2, hvt2⟩ := Lv
    obtain ⟨lo, vso, no, rfl, plo, hvo⟩ := Lo
    clear plt hvt
    obtain ⟨R6, eR6⟩ : ∃ R, R = R5 ++ tl5 := ⟨_, rfl⟩
    obtain ⟨NR6, fR6, NR6'⟩ := news_as N5 (l := (x, instObj 174 d) :: (d, tankD w0.params k1 (.ref lt2)) :: (s1.heap.objs.size + 1 + 1 + 1, o3) :: (s1.heap.objs.size + 1 + 1, o2b) :: (s1.heap.objs.size + 1, o1) :: (R5 ++ tl5)) (List.forall_mem_cons.mpr ⟨by k_mem, List.forall_mem_cons.mpr ⟨by k_mem, List.forall_mem_cons.mpr ⟨by k_mem, List.forall_mem_cons.mpr ⟨by k_mem, List.forall_mem_cons.mpr ⟨by k_mem, List.forall_mem_append.mpr ⟨(by intro p9 hp9; first | ((repeat (first | exact hp9 | exact List.mem_append_left _ hp9 | exact List.mem_append_right _ hp9 | refine List.mem_cons_of_mem _ ?_)); done) | (simp only [List.mem_cons, List.mem_append]; simp only [hp9, true_or, or_true])), (by intro p9 hp9; first | ((repeat (first | exact hp9 | exact List.mem_append_left _ hp9 | exact List.mem_append_right _ hp9 | refine List.mem_cons_of_mem _ ?_)); done) | (simp only [List.mem_cons, List.mem_append]; simp only [hp9, true_or, or_true]))⟩⟩⟩⟩⟩⟩)
    rw [← eR6] at fR6; subst fR6
    have sR6 : ∀ p ∈ R5, p ∈ R6 := by rw [eR6]; exact fun p hp => List.mem_append_left _ hp
    replace a3 : ∀ p ∈ R6, p.1 ≠ s1.heap.objs.size + 1 + 1 + 1 := by rw [eR6]; exact List.forall_mem_append.mpr ⟨a3, off_of nt5 (by k_mem)⟩
    replace a2 : ∀ p ∈ R6, p.1 ≠ s1.heap.objs.size + 1 + 1 := by rw [eR6]; exact List.forall_mem_append.mpr ⟨a2, off_of nt5 (by k_mem)⟩
    replace a1 : ∀ p ∈ R6, p.1 ≠ s1.heap.objs.size + 1 := by rw [eR6]; exact List.forall_mem_append.mpr ⟨a1, off_of nt5 (by k_mem)⟩
    replace ox : ∀ p ∈ R6, p.1 ≠ x := by rw [eR6]; exact List.forall_mem_append.mpr ⟨ox, off_of nt5 (by k_mem)⟩
    replace od : ∀ p ∈ R6, p.1 ≠ d := by rw [eR6]; exact List.forall_mem_append.mpr ⟨od, off_of nt5 (by k_mem)⟩
    replace hys := hys.mono fun _ _ y => y.mono fun _ _ e => sR6 _ e
    replace eD := sR6 _ eD
    replace mL := sR6 _ mL
    replace eL := tkOf (by k_asm) mL
    replace mX := sR6 _ mX
    replace eX := tkOf (by k_asm) mX
    replace mB := sR6 _ mB
    replace eB := tkOf (by k_asm) mB
    replace mH := sR6 _ mH
    replace eH := tkOf (by k_asm) mH
    replace mF := sR6 _ mF
    replace eF := tkOf (by k_asm) mF
    have tR6 : ∀ p ∈ tl5, p ∈ R6 := by rw [eR6]; exact fun p hp => List.mem_append_right _ hp
    replace plt2 := ptL sR6 tR6 _ _ plt2
    replace hvt2 := hvt2.mono fun _ _ y => y.mono (ptL sR6 tR6)
    replace plo := ptL sR6 tR6 _ _ plo
    replace hvo := hvo.mono fun _ _ y => y.mono (ptL sR6 tR6)
    obtain ⟨mQ, eQm, FQ⟩ := fr_name F5
    clear F5
    have n_layers := fr_at eQm (PySem.Str.ofString "layers") _ (by first | exact rfl | assumption)
    have n_tank := fr_at eQm (PySem.Str.ofString "tank") _ (by first | exact rfl | assumption)
    have n_litres := fr_at eQm (PySem.Str.ofString "litres") _ (by first | exact rfl | assumption)
    have n_size := fr_at eQm (PySem.Str.ofString "size") _ (by first | exact rfl | assumption)
    have n_hot := fr_at eQm (PySem.Str.ofString "hot") _ (by first | exact rfl | assumption)
    have n_before := fr_at eQm (PySem.Str.ofString "before") _ (by first | exact rfl | assumption)
    clear eQm
    clear N5 eR6 tR6 nt5 sR6
    k_steps
    unfold Hold
    (rename News _ _ _ _ => NN)
    obtain ⟨LE, eLE, NL⟩ := name_led NN
    clear NN
    have hol6 := hvo.length
    refine src_tk (nx := R6) (its := vso.toArray) (k := no) rfl (by k_asm) NL (tkOf (by k_asm) plo) (by rw [eLE]; exact (by intro p9 hp9; first | ((repeat (first | exact hp9 | exact List.mem_append_left _ hp9 | exact List.mem_append_right _ hp9 | refine List.mem_cons_of_mem _ ?_)); done) | (simp only [List.mem_cons, List.mem_append]; simp only [hp9, true_or, or_true]))) (by rw [List.size_toArray, hol6, sizeLine_eq]; have := AA.ol; omega) (fun g9 => ?_)
    refine comp_ind (fun i ys nx => nx = LE ∧ All2 (RatN (Led R6)) ys ((ot.map fun l : Rat × Rat => l.1).take i)) ?turn6 ?fin6 _ 0 [] _ (Nat.zero_add _) ⟨rfl, .nil⟩
    case turn6 =>
      intro i v9 I oI C oC D9 m2 h tk E' ys' nx hi hJ hPv hC hx Fm Nn off ne
      obtain ⟨rfl, hys'⟩ := hJ
      subst eLE
      clear NL
      have hvi : vso[i]? = some v9 := by simpa using hPv
      obtain ⟨⟨sz, wm⟩, hl, Dp, v1, v2, c, rfl, eDp, hs1, hw1⟩ := hvo.get hvi
      have eDp' := tkOf Fm eDp
      have off' := off
      simp only [LCg.Off3, and_assoc, List.cons_append] at off' Nn
      have hstep := map_take_snoc (f := fun l : Rat × Rat => l.1) hl
      k_steps
      unfold Hold
      (rename News _ _ _ _ => NN)
      exact comp_end (by k_asm) NN _ (fun _ h => h) off (srcAt_tk (nx := R6) (k := no) (tkOf Fm plo) (by intro p9 hp9; first | ((repeat (first | exact hp9 | exact List.mem_append_left _ hp9 | exact List.mem_append_right _ hp9 | refine List.mem_cons_of_mem _ ?_)); done) | (simp only [List.mem_cons, List.mem_append]; simp only [hp9, true_or, or_true]))) ⟨rfl, by rw [hstep]; exact hys'.snoc hs1⟩
    case fin6 =>
      intro ys' nx hJ D6 h tk Fm Nn off
      obtain ⟨rfl, hys'⟩ := hJ
      subst eLE
      clear NL
      rw [List.size_toArray, hol6, ← List.length_map (f := fun l : Rat × Rat => l.1), List.take_length] at hys'
      have off' := off
      simp only [LCg.Off1, and_assoc] at off'
      k_steps
      unfold Hold
      k_dflt (refine' total_c (rs := ot.map (·.1)) (b := 64) ?k1_u6 ?k2_u6 ?k3_u6 ?k4_u6 ?k5_u6 ?k6_u6 ?el_u6 ?hv_u6 ?hne_u6 ?hb_u6 ?hlen_u6 ?k7_u6 ?k8_u6 ?_)
      case k1_u6 => k_asm
      case k2_u6 => k_asm
      case k3_u6 => k_asm
      case k4_u6 => k_asm
      case k5_u6 => k_asm
      case k6_u6 => first | exact rfl | assumption
      case k7_u6 => ktr_room
      case k8_u6 => ktr_units
      case el_u6 => exact News.get (by k_asm) (by k_mem)
      case hv_u6 => exact hys'.mono fun v r y => y.heap fun a o e => News.get (by k_asm) (((by intro p9 hp9; first | ((repeat (first | exact hp9 | exact List.mem_append_left _ hp9 | exact List.mem_append_right _ hp9 | refine List.mem_cons_of_mem _ ?_)); done) | (simp only [List.mem_cons, List.mem_append]; simp only [hp9, true_or, or_true])) : ∀ p ∈ R6, p ∈ _) _ e)
      case hne_u6 => simpa using AA.ol.1
      case hb_u6 => exact fun r hr => by obtain ⟨l, hl, e⟩ := List.mem_map.mp hr; rw [← e]; exact AA.bo l hl
      case hlen_u6 => rw [List.length_map]; have := AA.ol; omega

      intro D7 t7 u7 c7 h7 tk7 b7 F7 N7 l7
      rw [AA.to] at N7
      k_steps
      unfold Hold
      (rename News _ _ _ _ => N8)
      refine ne_rd (d := ratP x9) (RatO_rd (N8.get (by k_mem))) (RatO_rd (N8.get (((by intro p9 hp9; first | ((repeat (first | exact hp9 | exact List.mem_append_left _ hp9 | exact List.mem_append_right _ hp9 | refine List.mem_cons_of_mem _ ?_)); done) | (simp only [List.mem_cons, List.mem_append]; simp only [hp9, true_or, or_true])) : ∀ p ∈ R6, p ∈ _) _ mX))) (shaped_rat _) ?hu7 ?_
      case hu7 => ktr_units
      clear b7 l7 off off' hys' hol6
      obtain ⟨NX, fX, NX'⟩ := news_as N8 (l := (x, instObj 174 d) :: (d, tankD w0.params k1 (.ref lt2)) :: (s1.heap.objs.size + 1 + 1 + 1, o3) :: (s1.heap.objs.size + 1 + 1, o2b) :: (s1.heap.objs.size + 1, o1) :: (R6)) (List.forall_mem_cons.mpr ⟨by k_mem, List.forall_mem_cons.mpr ⟨by k_mem, List.forall_mem_cons.mpr ⟨by k_mem, List.forall_mem_cons.mpr ⟨by k_mem, List.forall_mem_cons.mpr ⟨by k_mem, (by intro p9 hp9; first | ((repeat (first | exact hp9 | exact List.mem_append_left _ hp9 | exact List.mem_append_right _ hp9 | refine List.mem_cons_of_mem _ ?_)); done) | (simp only [List.mem_cons, List.mem_append]; simp only [hp9, true_or, or_true]))⟩⟩⟩⟩⟩)
      subst fX
      clear N8
      k_steps
      unfold Hold
      k_dflt (refine' heat_c (W := R6) (vs := vt2) (ls := (((x9, 96) : Rat × Rat) :: K.reverse)) (b := 64) (rb := 30) ?k1_u7 ?k2_u7 ?k3_u7 ?k4_u7 ?k5_u7 ?k6_u7 ?hW_u7 ?gx_u7 ?gd_u7 ?hWx_u7 ?hWd_u7 ?el_u7 ?hv_u7 ?hne_u7 ?hb_u7 ?hb2_u7 ?eb_u7 ?hbb_u7 ?hll_u7 ?hbs_u7 ?k7_u7 ?k8_u7 ?_)
      case k1_u7 => k_asm
      case k2_u7 => k_asm
      case k3_u7 => k_asm
      case k4_u7 => k_asm
      case k5_u7 => k_asm
      case k6_u7 => first | exact rfl | assumption
      case k7_u7 => ktr_room
      case k8_u7 => ktr_units
      case gx_u7 => exact News.get (by k_asm) (by k_mem)
      case gd_u7 => exact News.get (by k_asm) (by k_mem)
      case hW_u7 => exact (by intro p9 hp9; first | ((repeat (first | exact hp9 | exact List.mem_append_left _ hp9 | exact List.mem_append_right _ hp9 | refine List.mem_cons_of_mem _ ?_)); done) | (simp only [List.mem_cons, List.mem_append]; simp only [hp9, true_or, or_true]))
      case hWx_u7 => exact ox
      case hWd_u7 => exact od
      case el_u7 => exact plt2
      case hv_u7 => exact hvt2
      case hne_u7 => exact List.cons_ne_nil _ _
      case hb_u7 => exact AA.b1
      case hb2_u7 => exact AA.b2
      case eb_u7 => exact mB
      case hbb_u7 => exact bB
      case hll_u7 => have := AA.kl; simp; omega
      case hbs_u7 => decide

      intro Dg tg ug cg hg tkg bg Fg Ng lg
      have bG : Bd 1000 (heatF 30 (((x9, 96) : Rat × Rat) :: K.reverse)) := bg.mono (by have := AA.kl; simp; omega)
      rw [AA.he] at Ng bG
      clear bg
      obtain ⟨R7, eR7⟩ : ∃ R, R = (Dg, RatO (heatF 30 ls + x9 * (96 - 30) - heatF 30 ot) tg ug cg) :: R6 := ⟨_, rfl⟩
      obtain ⟨NR7, fR7, NR7'⟩ := news_as Ng (l := (x, instObj 174 d) :: (d, tankD w0.params k1 (.ref lt2)) :: (s1.heap.objs.size + 1 + 1 + 1, o3) :: (s1.heap.objs.size + 1 + 1, o2b) :: (s1.heap.objs.size + 1, o1) :: ((Dg, RatO (heatF 30 ls + x9 * (96 - 30) - heatF 30 ot) tg ug cg) :: R6)) (List.forall_mem_cons.mpr ⟨by k_mem, List.forall_mem_cons.mpr ⟨by k_mem, List.forall_mem_cons.mpr ⟨by k_mem, List.forall_mem_cons.mpr ⟨by k_mem, List.forall_mem_cons.mpr ⟨by k_mem, List.forall_mem_cons.mpr ⟨by k_mem, (by intro p9 hp9; first | ((repeat (first | exact hp9 | exact List.mem_append_left _ hp9 | exact List.mem_append_right _ hp9 | refine List.mem_cons_of_mem _ ?_)); done) | (simp only [List.mem_cons, List.mem_append]; simp only [hp9, true_or, or_true]))⟩⟩⟩⟩⟩⟩)
      rw [← eR7] at fR7; subst fR7
      have sR7 : ∀ p ∈ R6, p ∈ R7 := by rw [eR7]; exact fun p hp => List.mem_cons_of_mem _ hp
      replace a3 : ∀ p ∈ R7, p.1 ≠ s1.heap.objs.size + 1 + 1 + 1 := by rw [eR7]; exact List.forall_mem_cons.mpr ⟨fun e => lg (s1.heap.objs.size + 1 + 1 + 1, _) (by k_mem) e.symm, a3⟩
      replace a2 : ∀ p ∈ R7, p.1 ≠ s1.heap.objs.size + 1 + 1 := by rw [eR7]; exact List.forall_mem_cons.mpr ⟨fun e => lg (s1.heap.objs.size + 1 + 1, _) (by k_mem) e.symm, a2⟩
      replace a1 : ∀ p ∈ R7, p.1 ≠ s1.heap.objs.size + 1 := by rw [eR7]; exact List.forall_mem_cons.mpr ⟨fun e => lg (s1.heap.objs.size + 1, _) (by k_mem) e.symm, a1⟩
      replace ox : ∀ p ∈ R7, p.1 ≠ x := by rw [eR7]; exact List.forall_mem_cons.mpr ⟨fun e => lg (x, _) (by k_mem) e.symm, ox⟩
      replace od : ∀ p ∈ R7, p.1 ≠ d := by rw [eR7]; exact List.forall_mem_cons.mpr ⟨fun e => lg (d, _) (by k_mem) e.symm, od⟩
      replace hys := hys.mono fun _ _ y => y.mono fun _ _ e => sR7 _ e
      replace eD := sR7 _ eD
      replace mL := sR7 _ mL
      replace eL := tkOf (by k_asm) mL
      replace mX := sR7 _ mX
      replace eX := tkOf (by k_asm) mX
      replace mB := sR7 _ mB
      replace eB := tkOf (by k_asm) mB
      replace mH := sR7 _ mH
      replace eH := tkOf (by k_asm) mH
      replace mF := sR7 _ mF
      replace eF := tkOf (by k_asm) mF
      have mG : (Dg, RatO (heatF 30 ls + x9 * (96 - 30) - heatF 30 ot) tg ug cg) ∈ R7 := by rw [eR7]; exact List.mem_cons_self ..
      have eG := tkOf (by k_asm) mG
      replace plt2 := sR7 _ plt2
      replace hvt2 := hvt2.mono fun _ _ y => y.mono fun _ _ e => sR7 _ e
      replace plo := sR7 _ plo
      replace hvo := hvo.mono fun _ _ y => y.mono fun _ _ e => sR7 _ e
      clear Ng eR7 lg sR7
      k_steps
      unfold Hold
      rename_i Dm tm um cm hm tkm bm lm Dn tn un cn hn tkn bn ln Do to9 uo co ho tko bO Fo No lo9
      obtain ⟨R8, eR8⟩ : ∃ R, R = (Do, RatO (heatF 30 ls + x9 * (96 - 30)) to9 uo co) :: R7 := ⟨_, rfl⟩
      obtain ⟨NR8, fR8, NR8'⟩ := news_as No (l := (x, instObj 174 d) :: (d, tankD w0.params k1 (.ref lt2)) :: (s1.heap.objs.size + 1 + 1 + 1, o3) :: (s1.heap.objs.size + 1 + 1, o2b) :: (s1.heap.objs.size + 1, o1) :: ((Do, RatO (heatF 30 ls + x9 * (96 - 30)) to9 uo co) :: R7)) (List.forall_mem_cons.mpr ⟨by k_mem, List.forall_mem_cons.mpr ⟨by k_mem, List.forall_mem_cons.mpr ⟨by k_mem, List.forall_mem_cons.mpr ⟨by k_mem, List.forall_mem_cons.mpr ⟨by k_mem, List.forall_mem_cons.mpr ⟨by k_mem, (by intro p9 hp9; first | ((repeat (first | exact hp9 | exact List.mem_append_left _ hp9 | exact List.mem_append_right _ hp9 | refine List.mem_cons_of_mem _ ?_)); done) | (simp only [List.mem_cons, List.mem_append]; simp only [hp9, true_or, or_true]))⟩⟩⟩⟩⟩⟩)
      rw [← eR8] at fR8; subst fR8
      have sR8 : ∀ p ∈ R7, p ∈ R8 := by rw [eR8]; exact fun p hp => List.mem_cons_of_mem _ hp
      replace a3 : ∀ p ∈ R8, p.1 ≠ s1.heap.objs.size + 1 + 1 + 1 := by rw [eR8]; exact List.forall_mem_cons.mpr ⟨fun e => (allNe_mem lo9) (s1.heap.objs.size + 1 + 1 + 1, _) (by k_mem) e.symm, a3⟩
      replace a2 : ∀ p ∈ R8, p.1 ≠ s1.heap.objs.size + 1 + 1 := by rw [eR8]; exact List.forall_mem_cons.mpr ⟨fun e => (allNe_mem lo9) (s1.heap.objs.size + 1 + 1, _) (by k_mem) e.symm, a2⟩
      replace a1 : ∀ p ∈ R8, p.1 ≠ s1.heap.objs.size + 1 := by rw [eR8]; exact List.forall_mem_cons.mpr ⟨fun e => (allNe_mem lo9) (s1.heap.objs.size + 1, _) (by k_mem) e.symm, a1⟩
      replace ox : ∀ p ∈ R8, p.1 ≠ x := by rw [eR8]; exact List.forall_mem_cons.mpr ⟨fun e => (allNe_mem lo9) (x, _) (by k_mem) e.symm, ox⟩
      replace od : ∀ p ∈ R8, p.1 ≠ d := by rw [eR8]; exact List.forall_mem_cons.mpr ⟨fun e => (allNe_mem lo9) (d, _) (by k_mem) e.symm, od⟩
      replace hys := hys.mono fun _ _ y => y.mono fun _ _ e => sR8 _ e
      replace eD := sR8 _ eD
      replace mL := sR8 _ mL
      replace eL := tkOf (by k_asm) mL
      replace mX := sR8 _ mX
      replace eX := tkOf (by k_asm) mX
      replace mB := sR8 _ mB
      replace eB := tkOf (by k_asm) mB
      replace mH := sR8 _ mH
      replace eH := tkOf (by k_asm) mH
      replace mF := sR8 _ mF
      replace eF := tkOf (by k_asm) mF
      replace mG := sR8 _ mG
      replace eG := tkOf (by k_asm) mG
      have mO : (Do, RatO (heatF 30 ls + x9 * (96 - 30)) to9 uo co) ∈ R8 := by rw [eR8]; exact List.mem_cons_self ..
      have eO := tkOf (by k_asm) mO
      replace plt2 := sR8 _ plt2
      replace hvt2 := hvt2.mono fun _ _ y => y.mono fun _ _ e => sR8 _ e
      replace plo := sR8 _ plo
      replace hvo := hvo.mono fun _ _ y => y.mono fun _ _ e => sR8 _ e
      clear No eR8 lo9 sR8 bm lm bn ln
      (rename News _ _ _ _ => NN)
      obtain ⟨LE, eLE, NL⟩ := name_led NN
      clear NN
      have hol8 := hvo.length
      refine src_tk (nx := R8) (its := vso.toArray) (k := no) rfl (by k_asm) NL (tkOf (by k_asm) plo) (by rw [eLE]; exact (by intro p9 hp9; first | ((repeat (first | exact hp9 | exact List.mem_append_left _ hp9 | exact List.mem_append_right _ hp9 | refine List.mem_cons_of_mem _ ?_)); done) | (simp only [List.mem_cons, List.mem_append]; simp only [hp9, true_or, or_true]))) (by rw [List.size_toArray, hol8, sizeLine_eq]; have := AA.ol; omega) (fun g9 => ?_)
      refine comp_ind (fun i ys nx => ∃ tl, nx = LE ++ tl ∧ All2 (RatN (Led tl)) ys ((ot.map fun l : Rat × Rat => l.1 * (l.2 - 30)).take i) ∧ ∀ r ∈ (ot.map fun l : Rat × Rat => l.1 * (l.2 - 30)).take i, Bd 193 r) ?turn8 ?fin8 _ 0 [] _ (Nat.zero_add _) ⟨[], (List.append_nil _).symm, .nil, fun r hr => nomatch hr⟩
      case turn8 =>
        intro i v9 I oI C oC D9 m2 h tk E' ys' nx hi hJ hPv hC hx Fm Nn off ne
        obtain ⟨tl, rfl, hys', hbr⟩ := hJ
        subst eLE
        clear NL
        have hvi : vso[i]? = some v9 := by simpa using hPv
        obtain ⟨⟨sz, wm⟩, hl, Dp, v1, v2, c, rfl, eDp, hs1, hw1⟩ := hvo.get hvi
        have eDp' := tkOf Fm eDp
        have off' := off
        simp only [LCg.Off3, and_assoc, List.cons_append] at off' Nn
        have hstep := map_take_snoc (f := fun l : Rat × Rat => l.1 * (l.2 - 30)) hl
        obtain ⟨D1, t1, t1', c1, rfl, e1⟩ := hs1
        obtain ⟨D2, t2, t2', c2, rfl, e2⟩ := hw1
        have e1' := tkOf Fm e1
        have e2' := tkOf Fm e2
        have bS := AA.bo _ (List.mem_of_getElem? hl)
        have bW := AA.bo2 _ (List.mem_of_getElem? hl)
        dsimp only at e1' e2' bS bW
        k_steps
        unfold Hold
        rename_i Dq tq uq cq hq tkq bq Fq Nq lq
        refine comp_end Fq Nq ((x, instObj 174 d) :: (d, tankD w0.params k1 (.ref lt2)) :: (s1.heap.objs.size + 1 + 1 + 1, o3) :: (s1.heap.objs.size + 1 + 1, o2b) :: (s1.heap.objs.size + 1, o1) :: (R8 ++ (Dq, RatO (sz * (wm - 30)) tq uq cq) :: tl)) (List.forall_mem_cons.mpr ⟨by k_mem, List.forall_mem_cons.mpr ⟨by k_mem, List.forall_mem_cons.mpr ⟨by k_mem, List.forall_mem_cons.mpr ⟨by k_mem, List.forall_mem_cons.mpr ⟨by k_mem, List.forall_mem_cons.mpr ⟨by k_mem, List.forall_mem_cons.mpr ⟨by k_mem, List.forall_mem_cons.mpr ⟨by k_mem, List.forall_mem_append.mpr ⟨(by intro p9 hp9; first | ((repeat (first | exact hp9 | exact List.mem_append_left _ hp9 | exact List.mem_append_right _ hp9 | refine List.mem_cons_of_mem _ ?_)); done) | (simp only [List.mem_cons, List.mem_append]; simp only [hp9, true_or, or_true])), List.forall_mem_cons.mpr ⟨by k_mem, (by intro p9 hp9; first | ((repeat (first | exact hp9 | exact List.mem_append_left _ hp9 | exact List.mem_append_right _ hp9 | refine List.mem_cons_of_mem _ ?_)); done) | (simp only [List.mem_cons, List.mem_append]; simp only [hp9, true_or, or_true]))⟩⟩⟩⟩⟩⟩⟩⟩⟩⟩) (off3_mid (LE := (x, instObj 174 d) :: (d, tankD w0.params k1 (.ref lt2)) :: (s1.heap.objs.size + 1 + 1 + 1, o3) :: (s1.heap.objs.size + 1 + 1, o2b) :: (s1.heap.objs.size + 1, o1) :: (R8)) off (neN (by first | exact (apL (by with_reducible assumption) (by k_mem)).symm | exact apL (by with_reducible assumption) (by k_mem) | omega)) (neN (by first | exact (apL (by with_reducible assumption) (by k_mem)).symm | exact apL (by with_reducible assumption) (by k_mem) | omega)) (neN (by first | exact (apL (by with_reducible assumption) (by k_mem)).symm | exact apL (by with_reducible assumption) (by k_mem) | omega))) (srcAt_tk (nx := R8) (k := no) (tkOf Fq plo) (by intro p9 hp9; simp only [List.mem_cons, List.mem_append]; simp only [hp9, true_or, or_true])) ⟨(Dq, RatO (sz * (wm - 30)) tq uq cq) :: tl, rfl, ?y8, ?b8⟩
        case y8 => rw [hstep]; exact (hys'.mono fun _ _ y => y.mono fun _ _ e => List.mem_cons_of_mem _ e).snoc (rat_new (List.mem_cons_self ..))
        case b8 => rw [hstep]; exact bd_take_snoc hbr (bq.mono (by omega))
      case fin8 =>
        intro ys' nx hJ D6 h tk Fm Nn off
        obtain ⟨tl, rfl, hys', hbr⟩ := hJ
        subst eLE
        clear NL
        rw [List.size_toArray, hol8, ← List.length_map (f := fun l : Rat × Rat => l.1 * (l.2 - 30)), List.take_length] at hys' hbr
        simp only [List.cons_append] at Nn
        k_steps
        unfold Hold
        k_dflt (refine' total_c (rs := ot.map fun l : Rat × Rat => l.1 * (l.2 - 30)) (b := 193) ?k1_u8 ?k2_u8 ?k3_u8 ?k4_u8 ?k5_u8 ?k6_u8 ?el_u8 ?hv_u8 ?hne_u8 ?hb_u8 ?hlen_u8 ?k7_u8 ?k8_u8 ?_)
        case k1_u8 => k_asm
        case k2_u8 => k_asm
        case k3_u8 => k_asm
        case k4_u8 => k_asm
        case k5_u8 => k_asm
        case k6_u8 => first | exact rfl | assumption
        case k7_u8 => ktr_room
        case k8_u8 => ktr_units
        case el_u8 => exact News.get (by k_asm) (by k_mem)
        case hv_u8 => exact hys'.mono fun v r y => y.heap fun a o e => News.get (by k_asm) (((by intro p9 hp9; first | ((repeat (first | exact hp9 | exact List.mem_append_left _ hp9 | exact List.mem_append_right _ hp9 | refine List.mem_cons_of_mem _ ?_)); done) | (simp only [List.mem_cons, List.mem_append]; simp only [hp9, true_or, or_true])) : ∀ p ∈ tl, p ∈ _) _ e)
        case hne_u8 => simpa using AA.ol.1
        case hb_u8 => exact hbr
        case hlen_u8 => rw [List.length_map]; have := AA.ol; omega

        intro D7 t7 u7 c7 h7 tk7 b7 F7 N7 l7
        rw [List.length_map] at b7
        replace b7 := b7.mono (show ot.length * (193 + 1) + 1 ≤ 1000 by have := AA.ol; omega)
        rw [tot_heat] at N7 b7
        replace l7 := allNe_of l7
        k_steps
        unfold Hold
        (rename News _ _ _ _ => N8)
        refine ne_rd (d := ratP (heatF 30 ls + x9 * (96 - 30) - heatF 30 ot)) (RatO_rd (N8.get (((by intro p9 hp9; first | ((repeat (first | exact hp9 | exact List.mem_append_left _ hp9 | exact List.mem_append_right _ hp9 | refine List.mem_cons_of_mem _ ?_)); done) | (simp only [List.mem_cons, List.mem_append]; simp only [hp9, true_or, or_true])) : ∀ p ∈ R8, p ∈ _) _ mG))) (RatO_rd (N8.get (by k_mem))) (shaped_rat _) ?hu8 ?_
        case hu8 => ktr_units
        clear b7 l7 off hys' hbr hol8 mG eG mO eO
        obtain ⟨NX, fX, NX'⟩ := news_as N8 (l := (x, instObj 174 d) :: (d, tankD w0.params k1 (.ref lt2)) :: (s1.heap.objs.size + 1 + 1 + 1, o3) :: (s1.heap.objs.size + 1 + 1, o2b) :: (s1.heap.objs.size + 1, o1) :: (R8)) (List.forall_mem_cons.mpr ⟨by k_mem, List.forall_mem_cons.mpr ⟨by k_mem, List.forall_mem_cons.mpr ⟨by k_mem, List.forall_mem_cons.mpr ⟨by k_mem, List.forall_mem_cons.mpr ⟨by k_mem, (by intro p9 hp9; first | ((repeat (first | exact hp9 | exact List.mem_append_left _ hp9 | exact List.mem_append_right _ hp9 | refine List.mem_cons_of_mem _ ?_)); done) | (simp only [List.mem_cons, List.mem_append]; simp only [hp9, true_or, or_true]))⟩⟩⟩⟩⟩)
        subst fX
        clear N8
        clear plo hvo
        k_steps
        unfold Hold
        k_dflt (refine' top_c (P := Led R8) (vs := vt2) (ls := (((x9, 96) : Rat × Rat) :: K.reverse)) (la := (x9, 96)) ?k1_u9 ?k2_u9 ?k3_u9 ?k4_u9 ?k5_u9 ?k6_u9 ?gx_u9 ?gd_u9 ?hP_u9 ?el_u9 ?hv_u9 ?hla_u9 ?hll_u9 ?k7_u9 ?k8_u9 ?_)
        case k1_u9 => k_asm
        case k2_u9 => k_asm
        case k3_u9 => k_asm
        case k4_u9 => k_asm
        case k5_u9 => k_asm
        case k6_u9 => first | exact rfl | assumption
        case k7_u9 => ktr_room
        case k8_u9 => ktr_units
        case gx_u9 => exact News.get (by k_asm) (by k_mem)
        case gd_u9 => exact News.get (by k_asm) (by k_mem)
        case hP_u9 => exact ledG (by k_asm) ((by intro p9 hp9; first | ((repeat (first | exact hp9 | exact List.mem_append_left _ hp9 | exact List.mem_append_right _ hp9 | refine List.mem_cons_of_mem _ ?_)); done) | (simp only [List.mem_cons, List.mem_append]; simp only [hp9, true_or, or_true])) : ∀ p ∈ R8, p ∈ _)
        case el_u9 => exact plt2
        case hv_u9 => exact hvt2
        case hla_u9 => rfl
        case hll_u9 => have := AA.kl; simp; omega

        intro vt9 h9 tk9 F9 N9 r9
        obtain ⟨Dt9, tt9, ut9, ct9, rfl, r9⟩ := r9
        k_steps
        unfold Hold
        (rename News _ _ _ _ => N8)
        refine ne_rd (d := ratP 96) (RatO_rd (N8.get (((by intro p9 hp9; first | ((repeat (first | exact hp9 | exact List.mem_append_left _ hp9 | exact List.mem_append_right _ hp9 | refine List.mem_cons_of_mem _ ?_)); done) | (simp only [List.mem_cons, List.mem_append]; simp only [hp9, true_or, or_true])) : ∀ p ∈ R8, p ∈ _) _ r9))) (RatO_rd (N8.get (((by intro p9 hp9; first | ((repeat (first | exact hp9 | exact List.mem_append_left _ hp9 | exact List.mem_append_right _ hp9 | refine List.mem_cons_of_mem _ ?_)); done) | (simp only [List.mem_cons, List.mem_append]; simp only [hp9, true_or, or_true])) : ∀ p ∈ R8, p ∈ _) _ mH))) (shaped_rat _) ?hu9 ?_
        case hu9 => ktr_units
        clear r9
        obtain ⟨NX, fX, NX'⟩ := news_as N8 (l := (x, instObj 174 d) :: (d, tankD w0.params k1 (.ref lt2)) :: (s1.heap.objs.size + 1 + 1 + 1, o3) :: (s1.heap.objs.size + 1 + 1, o2b) :: (s1.heap.objs.size + 1, o1) :: (R8)) (List.forall_mem_cons.mpr ⟨by k_mem, List.forall_mem_cons.mpr ⟨by k_mem, List.forall_mem_cons.mpr ⟨by k_mem, List.forall_mem_cons.mpr ⟨by k_mem, List.forall_mem_cons.mpr ⟨by k_mem, (by intro p9 hp9; first | ((repeat (first | exact hp9 | exact List.mem_append_left _ hp9 | exact List.mem_append_right _ hp9 | refine List.mem_cons_of_mem _ ?_)); done) | (simp only [List.mem_cons, List.mem_append]; simp only [hp9, true_or, or_true]))⟩⟩⟩⟩⟩)
        subst fX
        clear N8
        k_steps
        unfold Hold
        k_dflt (refine' draw_c (P := Led R8) (x := x) (d := d) (vs := vt2) (ls := (((x9, 96) : Rat × Rat) :: K.reverse)) (n0 := nt2) (b := 64) (bx := 64) (bw := 64) (rx := x9) (rw' := 30) ?k1_u10 ?k2_u10 ?k3_u10 ?k4_u10 ?k5_u10 ?k6_u10 ?ex0_u10 ?U_u10 ?ndx_u10 ?hP_u10 ?hPn_u10 ?el_u10 ?hv_u10 ?hne_u10 ?hb_u10 ?hlen_u10 ?hll_u10 ?ex_u10 ?hbx_u10 ?hx0_u10 ?hx1_u10 ?h1x_u10 ?hlen2_u10 ?ew_u10 ?hbw_u10 ?hbw2_u10 ?hf_u10 ?hbl_u10 ?k7_u10 ?k8_u10 ?_)
        case k1_u10 => k_asm
        case k2_u10 => k_asm
        case k3_u10 => k_asm
        case k4_u10 => k_asm
        case k5_u10 => k_asm
        case k6_u10 => first | exact rfl | assumption
        case k7_u10 => ktr_room
        case k8_u10 => ktr_units
        case ex0_u10 => k_mem
        case U_u10 => k_updF
        case ndx_u10 => exact ndx
        case hP_u10 => exact ledG (by k_asm) ((by intro p9 hp9; first | ((repeat (first | exact hp9 | exact List.mem_append_left _ hp9 | exact List.mem_append_right _ hp9 | refine List.mem_cons_of_mem _ ?_)); done) | (simp only [List.mem_cons, List.mem_append]; simp only [hp9, true_or, or_true])) : ∀ p ∈ R8, p ∈ _)
        case hPn_u10 => exact fun a o e => ⟨ox _ e, od _ e⟩
        case el_u10 => exact plt2
        case hv_u10 => exact hvt2
        case hne_u10 => exact List.cons_ne_nil _ _
        case hb_u10 => exact AA.b1
        case hlen_u10 => have := AA.kl; simp; omega
        case hll_u10 => have := AA.kl; simp; omega
        case ex_u10 => exact mX
        case hbx_u10 => exact bX
        case hx0_u10 => exact hx0
        case hx1_u10 => exact AA.le1
        case h1x_u10 => decide
        case hlen2_u10 => have := AA.kl; simp; omega
        case ew_u10 => exact mB
        case hbw_u10 => exact bB
        case hbw2_u10 => decide
        case hf_u10 => rw [AA.ck]; exact AA.f2
        case hbl_u10 => rw [AA.ck]; exact AA.c2

        intro vo v6 tl6 h6 tk6 F6 N6 nt6 Lo Lv
        rw [AA.co] at Lo
        rw [AA.ck] at Lv
        (try dsimp only at N6)
        simp only [List.cons_append, List.nil_append] at N6
        obtain ⟨lt3, vt3, nt3, rfl, plt3, hvt3⟩ := Lv
        clear plt2 hvt2
        obtain ⟨R9, eR9⟩ : ∃ R, R = R8 ++ tl6 := ⟨_, rfl⟩
        obtain ⟨NR9, fR9, NR9'⟩ := news_as N6 (l := (x, instObj 174 d) :: (d, tankD w0.params k1 (.ref lt3)) :: (s1.heap.objs.size + 1 + 1 + 1, o3) :: (s1.heap.objs.size + 1 + 1, o2b) :: (s1.heap.objs.size + 1, o1) :: (R8 ++ tl6)) (List.forall_mem_cons.mpr ⟨by k_mem, List.forall_mem_cons.mpr ⟨by k_mem, List.forall_mem_cons.mpr ⟨by k_mem, List.forall_mem_cons.mpr ⟨by k_mem, List.forall_mem_cons.mpr ⟨by k_mem, List.forall_mem_append.mpr ⟨(by intro p9 hp9; first | ((repeat (first | exact hp9 | exact List.mem_append_left _ hp9 | exact List.mem_append_right _ hp9 | refine List.mem_cons_of_mem _ ?_)); done) | (simp only [List.mem_cons, List.mem_append]; simp only [hp9, true_or, or_true])), (by intro p9 hp9; first | ((repeat (first | exact hp9 | exact List.mem_append_left _ hp9 | exact List.mem_append_right _ hp9 | refine List.mem_cons_of_mem _ ?_)); done) | (simp only [List.mem_cons, List.mem_append]; simp only [hp9, true_or, or_true]))⟩⟩⟩⟩⟩⟩)
        rw [← eR9] at fR9; subst fR9
        have sR9 : ∀ p ∈ R8, p ∈ R9 := by rw [eR9]; exact fun p hp => List.mem_append_left _ hp
        replace a3 : ∀ p ∈ R9, p.1 ≠ s1.heap.objs.size + 1 + 1 + 1 := by rw [eR9]; exact List.forall_mem_append.mpr ⟨a3, off_of nt6 (by k_mem)⟩
        replace a2 : ∀ p ∈ R9, p.1 ≠ s1.heap.objs.size + 1 + 1 := by rw [eR9]; exact List.forall_mem_append.mpr ⟨a2, off_of nt6 (by k_mem)⟩
        replace a1 : ∀ p ∈ R9, p.1 ≠ s1.heap.objs.size + 1 := by rw [eR9]; exact List.forall_mem_append.mpr ⟨a1, off_of nt6 (by k_mem)⟩
        replace ox : ∀ p ∈ R9, p.1 ≠ x := by rw [eR9]; exact List.forall_mem_append.mpr ⟨ox, off_of nt6 (by k_mem)⟩
        replace od : ∀ p ∈ R9, p.1 ≠ d := by rw [eR9]; exact List.forall_mem_append.mpr ⟨od, off_of nt6 (by k_mem)⟩
        replace hys := hys.mono fun _ _ y => y.mono fun _ _ e => sR9 _ e
        replace eD := sR9 _ eD
        replace mL := sR9 _ mL
        replace eL := tkOf (by k_asm) mL
        replace mX := sR9 _ mX
        replace eX := tkOf (by k_asm) mX
        replace mB := sR9 _ mB
        replace eB := tkOf (by k_asm) mB
        replace mH := sR9 _ mH
        replace eH := tkOf (by k_asm) mH
        replace mF := sR9 _ mF
        replace eF := tkOf (by k_asm) mF
        have tR9 : ∀ p ∈ tl6, p ∈ R9 := by rw [eR9]; exact fun p hp => List.mem_append_right _ hp
        replace plt3 := ptL sR9 tR9 _ _ plt3
        replace hvt3 := hvt3.mono fun _ _ y => y.mono (ptL sR9 tR9)
        replace Lo : LaysN (Led R9) vo [(x9, 96)] := laysR sR9 tR9 Lo
        have Lo' := Lo
        obtain ⟨lo2, vs2, no2, rfl, plo2, hvo2⟩ := Lo
        clear N6 eR9 tR9 nt6 sR9 plo2 hvo2
        k_steps
        unfold Hold
        (rename News _ _ _ _ => N8)
        refine ne_rd (d := .list (List.map layP [(x9, 96)])) (LaysN.rd (ledG N8 (by intro p9 hp9; first | ((repeat (first | exact hp9 | exact List.mem_append_left _ hp9 | exact List.mem_append_right _ hp9 | refine List.mem_cons_of_mem _ ?_)); done) | (simp only [List.mem_cons, List.mem_append]; simp only [hp9, true_or, or_true]))) Lo') (Rd.list (vs := [_]) (N8.get (by k_mem)) (.cons (Rd.tuple (vs := [_, _]) (N8.get (by k_mem)) (.cons (RatO_rd (N8.get (((by intro p9 hp9; first | ((repeat (first | exact hp9 | exact List.mem_append_left _ hp9 | exact List.mem_append_right _ hp9 | refine List.mem_cons_of_mem _ ?_)); done) | (simp only [List.mem_cons, List.mem_append]; simp only [hp9, true_or, or_true])) : ∀ p ∈ R9, p ∈ _) _ mX))) (.cons (RatO_rd (N8.get (((by intro p9 hp9; first | ((repeat (first | exact hp9 | exact List.mem_append_left _ hp9 | exact List.mem_append_right _ hp9 | refine List.mem_cons_of_mem _ ?_)); done) | (simp only [List.mem_cons, List.mem_append]; simp only [hp9, true_or, or_true])) : ∀ p ∈ R9, p ∈ _) _ mH))) .nil))) .nil)) (shaped_lays _) ?hu10 ?_
        case hu10 => ktr_units
        clear Lo'
        obtain ⟨NX, fX, NX'⟩ := news_as N8 (l := (x, instObj 174 d) :: (d, tankD w0.params k1 (.ref lt3)) :: (s1.heap.objs.size + 1 + 1 + 1, o3) :: (s1.heap.objs.size + 1 + 1, o2b) :: (s1.heap.objs.size + 1, o1) :: (R9)) (List.forall_mem_cons.mpr ⟨by k_mem, List.forall_mem_cons.mpr ⟨by k_mem, List.forall_mem_cons.mpr ⟨by k_mem, List.forall_mem_cons.mpr ⟨by k_mem, List.forall_mem_cons.mpr ⟨by k_mem, (by intro p9 hp9; first | ((repeat (first | exact hp9 | exact List.mem_append_left _ hp9 | exact List.mem_append_right _ hp9 | refine List.mem_cons_of_mem _ ?_)); done) | (simp only [List.mem_cons, List.mem_append]; simp only [hp9, true_or, or_true]))⟩⟩⟩⟩⟩)
        subst fX
        clear N8
        k_steps
        unfold Hold
        k_dflt (refine' litres_c (P := Led R9) (vs := vt3) (ls := (K.reverse ++ [((x9, 30) : Rat × Rat)])) (b := 64) ?k1_u11 ?k2_u11 ?k3_u11 ?k4_u11 ?k5_u11 ?k6_u11 ?gx_u11 ?gd_u11 ?hP_u11 ?el_u11 ?hv_u11 ?hne_u11 ?hb_u11 ?hlen_u11 ?k7_u11 ?k8_u11 ?_)
        case k1_u11 => k_asm
        case k2_u11 => k_asm
        case k3_u11 => k_asm
        case k4_u11 => k_asm
        case k5_u11 => k_asm
        case k6_u11 => first | exact rfl | assumption
        case k7_u11 => ktr_room
        case k8_u11 => ktr_units
        case gx_u11 => exact News.get (by k_asm) (by k_mem)
        case gd_u11 => exact News.get (by k_asm) (by k_mem)
        case hP_u11 => exact ledG (by k_asm) ((by intro p9 hp9; first | ((repeat (first | exact hp9 | exact List.mem_append_left _ hp9 | exact List.mem_append_right _ hp9 | refine List.mem_cons_of_mem _ ?_)); done) | (simp only [List.mem_cons, List.mem_append]; simp only [hp9, true_or, or_true])) : ∀ p ∈ R9, p ∈ _)
        case el_u11 => exact plt3
        case hv_u11 => exact hvt3
        case hne_u11 => simp
        case hb_u11 => exact AA.c1
        case hlen_u11 => have := AA.kl; simp; omega

        intro D7 t7 u7 c7 h7 tk7 b7 F7 N7 l7
        rw [AA.lt] at N7
        clear b7
        replace l7 := allNe_of l7
        k_steps
        unfold Hold
        (rename News _ _ _ _ => N8)
        refine ne_rd (d := ratP (tot (ls.map (·.1)))) (RatO_rd (N8.get (by k_mem))) (RatO_rd (N8.get (((by intro p9 hp9; first | ((repeat (first | exact hp9 | exact List.mem_append_left _ hp9 | exact List.mem_append_right _ hp9 | refine List.mem_cons_of_mem _ ?_)); done) | (simp only [List.mem_cons, List.mem_append]; simp only [hp9, true_or, or_true])) : ∀ p ∈ R9, p ∈ _) _ mL))) (shaped_rat _) ?hu11 ?_
        case hu11 => ktr_units
        clear l7
        obtain ⟨NX, fX, NX'⟩ := news_as N8 (l := (x, instObj 174 d) :: (d, tankD w0.params k1 (.ref lt3)) :: (s1.heap.objs.size + 1 + 1 + 1, o3) :: (s1.heap.objs.size + 1 + 1, o2b) :: (s1.heap.objs.size + 1, o1) :: (R9)) (List.forall_mem_cons.mpr ⟨by k_mem, List.forall_mem_cons.mpr ⟨by k_mem, List.forall_mem_cons.mpr ⟨by k_mem, List.forall_mem_cons.mpr ⟨by k_mem, List.forall_mem_cons.mpr ⟨by k_mem, (by intro p9 hp9; first | ((repeat (first | exact hp9 | exact List.mem_append_left _ hp9 | exact List.mem_append_right _ hp9 | refine List.mem_cons_of_mem _ ?_)); done) | (simp only [List.mem_cons, List.mem_append]; simp only [hp9, true_or, or_true]))⟩⟩⟩⟩⟩)
        subst fX
        clear N8
        k_steps
        unfold Hold
        k_dflt (refine' heat_c (W := R9) (vs := vt3) (ls := (K.reverse ++ [((x9, 30) : Rat × Rat)])) (b := 64) (rb := 30) ?k1_u12 ?k2_u12 ?k3_u12 ?k4_u12 ?k5_u12 ?k6_u12 ?hW_u12 ?gx_u12 ?gd_u12 ?hWx_u12 ?hWd_u12 ?el_u12 ?hv_u12 ?hne_u12 ?hb_u12 ?hb2_u12 ?eb_u12 ?hbb_u12 ?hll_u12 ?hbs_u12 ?k7_u12 ?k8_u12 ?_)
        case k1_u12 => k_asm
        case k2_u12 => k_asm
        case k3_u12 => k_asm
        case k4_u12 => k_asm
        case k5_u12 => k_asm
        case k6_u12 => first | exact rfl | assumption
        case k7_u12 => ktr_room
        case k8_u12 => ktr_units
        case gx_u12 => exact News.get (by k_asm) (by k_mem)
        case gd_u12 => exact News.get (by k_asm) (by k_mem)
        case hW_u12 => exact (by intro p9 hp9; first | ((repeat (first | exact hp9 | exact List.mem_append_left _ hp9 | exact List.mem_append_right _ hp9 | refine List.mem_cons_of_mem _ ?_)); done) | (simp only [List.mem_cons, List.mem_append]; simp only [hp9, true_or, or_true]))
        case hWx_u12 => exact ox
        case hWd_u12 => exact od
        case el_u12 => exact plt3
        case hv_u12 => exact hvt3
        case hne_u12 => exact by simp
        case hb_u12 => exact AA.c1
        case hb2_u12 => exact AA.c2
        case eb_u12 => exact mB
        case hbb_u12 => exact bB
        case hll_u12 => have := AA.kl; simp; omega
        case hbs_u12 => decide

        intro D7 t7 u7 c7 h7 tk7 b7 F7 N7 l7
        have bQ : Bd 1000 (heatF 30 (K.reverse ++ [((x9, 30) : Rat × Rat)])) := b7.mono (by have := AA.kl; simp; omega)
        have hnl := AA.hl
        clear b7
        replace l7 := allNe_of l7
        k_steps
        all_goals (try unfold Hold)
        (rename News _ _ _ _ => N8)
        obtain ⟨NX, fX, NX'⟩ := news_as N8 (l := (s1.heap.objs.size + 1 + 1 + 1, o3) :: (s1.heap.objs.size + 1 + 1, o2b) :: (s1.heap.objs.size + 1, o1) :: (R9)) (List.forall_mem_cons.mpr ⟨by k_mem, List.forall_mem_cons.mpr ⟨by k_mem, List.forall_mem_cons.mpr ⟨by k_mem, (by intro p9 hp9; first | ((repeat (first | exact hp9 | exact List.mem_append_left _ hp9 | exact List.mem_append_right _ hp9 | refine List.mem_cons_of_mem _ ?_)); done) | (simp only [List.mem_cons, List.mem_append]; simp only [hp9, true_or, or_true]))⟩⟩⟩)
        subst fX
        clear N8
        clear hnl l7 plt3 hvt3 ox od jx1 jx2 jx3 jd1 jd2 jd3 mX eX mB eB mH eH mF eF AA bB bH bF bG bX
        k_dflt (refine' tank_new (P := Led R9) (vs := ys) (ls := ls) (b := 64) ?k1_u13 ?k2_u13 ?k3_u13 ?k4_u13 ?k5_u13 ?k6_u13 ?hP_u13 ?el_u13 ?hv_u13 ?hne_u13 ?hf_u13 ?hpos_u13 ?hb_u13 ?hb2_u13 ?hbb_u13 ?hll_u13 ?k7_u13 ?k8_u13 ?_)
        case k1_u13 => k_asm
        case k2_u13 => k_asm
        case k3_u13 => k_asm
        case k4_u13 => k_asm
        case k5_u13 => k_asm
        case k6_u13 => first | exact rfl | assumption
        case k7_u13 => ktr_room
        case k8_u13 => ktr_units
        case hP_u13 => exact fun _ _ e => .inl (((by intro p9 hp9; first | ((repeat (first | exact hp9 | exact List.mem_append_left _ hp9 | exact List.mem_append_right _ hp9 | refine List.mem_cons_of_mem _ ?_)); done) | (simp only [List.mem_cons, List.mem_append]; simp only [hp9, true_or, or_true])) : ∀ p ∈ R9, p ∈ _) _ e)
        case el_u13 => exact eD
        case hv_u13 => exact hys
        case hne_u13 => exact H.ne
        case hf_u13 => exact H.falls
        case hpos_u13 => exact H.pos
        case hb_u13 => exact H.bd1
        case hb2_u13 => exact H.bd2
        case hbb_u13 => decide
        case hll_u13 => have := H.len; omega

        intro x d k1 v9 tl1 h1 tk1 F1 N1 ndx nx nd tx td ntl L9
        replace ndx := neN ndx
        simp only [List.cons_append, List.nil_append] at N1
        have jx3 := neN (nx (s1.heap.objs.size + 1 + 1 + 1, _) (by k_mem))
        have jx2 := neN (nx (s1.heap.objs.size + 1 + 1, _) (by k_mem))
        have jx1 := neN (nx (s1.heap.objs.size + 1, _) (by k_mem))
        have jd3 := neN (nd (s1.heap.objs.size + 1 + 1 + 1, _) (by k_mem))
        have jd2 := neN (nd (s1.heap.objs.size + 1 + 1, _) (by k_mem))
        have jd1 := neN (nd (s1.heap.objs.size + 1, _) (by k_mem))
        have ox : ∀ p ∈ R9, p.1 ≠ x := fun p hp => nx p (((by intro p9 hp9; first | ((repeat (first | exact hp9 | exact List.mem_append_left _ hp9 | exact List.mem_append_right _ hp9 | refine List.mem_cons_of_mem _ ?_)); done) | (simp only [List.mem_cons, List.mem_append]; simp only [hp9, true_or, or_true])) : ∀ p ∈ R9, p ∈ _) p hp)
        have od : ∀ p ∈ R9, p.1 ≠ d := fun p hp => nd p (((by intro p9 hp9; first | ((repeat (first | exact hp9 | exact List.mem_append_left _ hp9 | exact List.mem_append_right _ hp9 | refine List.mem_cons_of_mem _ ?_)); done) | (simp only [List.mem_cons, List.mem_append]; simp only [hp9, true_or, or_true])) : ∀ p ∈ R9, p ∈ _) p hp)
        obtain ⟨lt, vt, nt, rfl, plt, hvt⟩ := L9
        obtain ⟨R10, eR10⟩ : ∃ R, R = R9 ++ tl1 := ⟨_, rfl⟩
        obtain ⟨NR10, fR10, NR10'⟩ := news_as N1 (l := (x, instObj 174 d) :: (d, tankD w0.params k1 (.ref lt)) :: (s1.heap.objs.size + 1 + 1 + 1, o3) :: (s1.heap.objs.size + 1 + 1, o2b) :: (s1.heap.objs.size + 1, o1) :: (R9 ++ tl1)) (List.forall_mem_cons.mpr ⟨by k_mem, List.forall_mem_cons.mpr ⟨by k_mem, List.forall_mem_cons.mpr ⟨by k_mem, List.forall_mem_cons.mpr ⟨by k_mem, List.forall_mem_cons.mpr ⟨by k_mem, List.forall_mem_append.mpr ⟨(by intro p9 hp9; first | ((repeat (first | exact hp9 | exact List.mem_append_left _ hp9 | exact List.mem_append_right _ hp9 | refine List.mem_cons_of_mem _ ?_)); done) | (simp only [List.mem_cons, List.mem_append]; simp only [hp9, true_or, or_true])), (by intro p9 hp9; first | ((repeat (first | exact hp9 | exact List.mem_append_left _ hp9 | exact List.mem_append_right _ hp9 | refine List.mem_cons_of_mem _ ?_)); done) | (simp only [List.mem_cons, List.mem_append]; simp only [hp9, true_or, or_true]))⟩⟩⟩⟩⟩⟩)
        rw [← eR10] at fR10; subst fR10
        have sR10 : ∀ p ∈ R9, p ∈ R10 := by rw [eR10]; exact fun p hp => List.mem_append_left _ hp
        replace a3 : ∀ p ∈ R10, p.1 ≠ s1.heap.objs.size + 1 + 1 + 1 := by rw [eR10]; exact List.forall_mem_append.mpr ⟨a3, off_of ntl (by k_mem)⟩
        replace a2 : ∀ p ∈ R10, p.1 ≠ s1.heap.objs.size + 1 + 1 := by rw [eR10]; exact List.forall_mem_append.mpr ⟨a2, off_of ntl (by k_mem)⟩
        replace a1 : ∀ p ∈ R10, p.1 ≠ s1.heap.objs.size + 1 := by rw [eR10]; exact List.forall_mem_append.mpr ⟨a1, off_of ntl (by k_mem)⟩
        replace hys := hys.mono fun _ _ y => y.mono fun _ _ e => sR10 _ e
        replace eD := sR10 _ eD
        replace mL := sR10 _ mL
        replace eL := tkOf (by k_asm) mL
        have tR10 : ∀ p ∈ tl1, p ∈ R10 := by rw [eR10]; exact fun p hp => List.mem_append_right _ hp
        replace ox : ∀ p ∈ R10, p.1 ≠ x := by rw [eR10]; exact List.forall_mem_append.mpr ⟨ox, tx⟩
        replace od : ∀ p ∈ R10, p.1 ≠ d := by rw [eR10]; exact List.forall_mem_append.mpr ⟨od, td⟩
        replace plt := ptL sR10 tR10 _ _ plt
        replace hvt := hvt.mono fun _ _ y => y.mono (ptL sR10 tR10)
        clear N1 eR10 tR10 nx nd tx td ntl sR10
        obtain ⟨mQ, eQm, FQ⟩ := fr_name F1
        clear F1
        have n_layers := fr_at eQm (PySem.Str.ofString "layers") _ (by first | exact rfl | assumption)
        have n_litres := fr_at eQm (PySem.Str.ofString "litres") _ (by first | exact rfl | assumption)
        clear eQm
        k_steps
        unfold Hold
        (rename News _ _ _ _ => Nk0)
        obtain ⟨Dk, tk9, uk, ck, rfl, Nk⟩ := head2 Nk0
        clear Nk0
        obtain ⟨R11, eR11⟩ : ∃ R, R = (Dk, T2 40 1 tk9 uk ck) :: R10 := ⟨_, rfl⟩
        obtain ⟨NR11, fR11, NR11'⟩ := news_as Nk (l := (x, instObj 174 d) :: (d, tankD w0.params k1 (.ref lt)) :: (s1.heap.objs.size + 1 + 1 + 1, o3) :: (s1.heap.objs.size + 1 + 1, o2b) :: (s1.heap.objs.size + 1, o1) :: ((Dk, T2 40 1 tk9 uk ck) :: R10)) (List.forall_mem_cons.mpr ⟨by k_mem, List.forall_mem_cons.mpr ⟨by k_mem, List.forall_mem_cons.mpr ⟨by k_mem, List.forall_mem_cons.mpr ⟨by k_mem, List.forall_mem_cons.mpr ⟨by k_mem, List.forall_mem_cons.mpr ⟨by k_mem, (by intro p9 hp9; first | ((repeat (first | exact hp9 | exact List.mem_append_left _ hp9 | exact List.mem_append_right _ hp9 | refine List.mem_cons_of_mem _ ?_)); done) | (simp only [List.mem_cons, List.mem_append]; simp only [hp9, true_or, or_true]))⟩⟩⟩⟩⟩⟩)
        rw [← eR11] at fR11; subst fR11
        have sR11 : ∀ p ∈ R10, p ∈ R11 := by rw [eR11]; exact fun p hp => List.mem_cons_of_mem _ (hp)
        replace a3 : ∀ p ∈ R11, p.1 ≠ s1.heap.objs.size + 1 + 1 + 1 := by rw [eR11]; exact List.forall_mem_cons.mpr ⟨neN (by walk_at "ne9"), a3⟩
        replace a2 : ∀ p ∈ R11, p.1 ≠ s1.heap.objs.size + 1 + 1 := by rw [eR11]; exact List.forall_mem_cons.mpr ⟨neN (by walk_at "ne9"), a2⟩
        replace a1 : ∀ p ∈ R11, p.1 ≠ s1.heap.objs.size + 1 := by rw [eR11]; exact List.forall_mem_cons.mpr ⟨neN (by walk_at "ne9"), a1⟩
        replace ox : ∀ p ∈ R11, p.1 ≠ x := by rw [eR11]; exact List.forall_mem_cons.mpr ⟨neN (by walk_at "ne9"), ox⟩
        replace od : ∀ p ∈ R11, p.1 ≠ d := by rw [eR11]; exact List.forall_mem_cons.mpr ⟨neN (by walk_at "ne9"), od⟩
        replace hys := hys.mono fun _ _ y => y.mono fun _ _ e => sR11 _ e
        replace eD := sR11 _ eD
        replace mL := sR11 _ mL
        replace eL := tkOf (by k_asm) mL
        have mK : (Dk, RatO (40 : Rat) tk9 uk ck) ∈ R11 := (by rw [eR11]; k_mem : (Dk, T2 40 1 tk9 uk ck) ∈ R11)
        have eK := tkOf (by k_asm) mK
        replace plt := sR11 _ plt
        replace hvt := hvt.mono fun _ _ y => y.mono fun _ _ e => sR11 _ e
        have bK : Bd 64 (40 : Rat) := bd64 (x := 40) (by decide) (by decide)
        clear Nk eR11 sR11
        k_dflt (refine' heat_c (W := R11) (vs := vt) (ls := ls) (b := 64) (rb := 40) ?k1_u14 ?k2_u14 ?k3_u14 ?k4_u14 ?k5_u14 ?k6_u14 ?hW_u14 ?gx_u14 ?gd_u14 ?hWx_u14 ?hWd_u14 ?el_u14 ?hv_u14 ?hne_u14 ?hb_u14 ?hb2_u14 ?eb_u14 ?hbb_u14 ?hll_u14 ?hbs_u14 ?k7_u14 ?k8_u14 ?_)
        case k1_u14 => k_asm
        case k2_u14 => k_asm
        case k3_u14 => k_asm
        case k4_u14 => k_asm
        case k5_u14 => k_asm
        case k6_u14 => first | exact rfl | assumption
        case k7_u14 => ktr_room
        case k8_u14 => ktr_units
        case gx_u14 => exact News.get (by k_asm) (by k_mem)
        case gd_u14 => exact News.get (by k_asm) (by k_mem)
        case hW_u14 => exact (by intro p9 hp9; first | ((repeat (first | exact hp9 | exact List.mem_append_left _ hp9 | exact List.mem_append_right _ hp9 | refine List.mem_cons_of_mem _ ?_)); done) | (simp only [List.mem_cons, List.mem_append]; simp only [hp9, true_or, or_true]))
        case hWx_u14 => exact ox
        case hWd_u14 => exact od
        case el_u14 => exact plt
        case hv_u14 => exact hvt
        case hne_u14 => exact H.ne
        case hb_u14 => exact H.bd1
        case hb2_u14 => exact H.bd2
        case eb_u14 => exact mK
        case hbb_u14 => exact bK
        case hll_u14 => have := H.len; omega
        case hbs_u14 => decide

        intro Dj tj uj cj hj tkj bj Fj Nj lj
        have bJ : Bd 1000 (heatF 40 ls) := bj.mono (by have := H.len; omega)
        clear bj
        obtain ⟨R12, eR12⟩ : ∃ R, R = (Dj, RatO (heatF 40 ls) tj uj cj) :: R11 := ⟨_, rfl⟩
        obtain ⟨NR12, fR12, NR12'⟩ := news_as Nj (l := (x, instObj 174 d) :: (d, tankD w0.params k1 (.ref lt)) :: (s1.heap.objs.size + 1 + 1 + 1, o3) :: (s1.heap.objs.size + 1 + 1, o2b) :: (s1.heap.objs.size + 1, o1) :: ((Dj, RatO (heatF 40 ls) tj uj cj) :: R11)) (List.forall_mem_cons.mpr ⟨by k_mem, List.forall_mem_cons.mpr ⟨by k_mem, List.forall_mem_cons.mpr ⟨by k_mem, List.forall_mem_cons.mpr ⟨by k_mem, List.forall_mem_cons.mpr ⟨by k_mem, List.forall_mem_cons.mpr ⟨by k_mem, (by intro p9 hp9; first | ((repeat (first | exact hp9 | exact List.mem_append_left _ hp9 | exact List.mem_append_right _ hp9 | refine List.mem_cons_of_mem _ ?_)); done) | (simp only [List.mem_cons, List.mem_append]; simp only [hp9, true_or, or_true]))⟩⟩⟩⟩⟩⟩)
        rw [← eR12] at fR12; subst fR12
        have sR12 : ∀ p ∈ R11, p ∈ R12 := by rw [eR12]; exact fun p hp => List.mem_cons_of_mem _ hp
        replace a3 : ∀ p ∈ R12, p.1 ≠ s1.heap.objs.size + 1 + 1 + 1 := by rw [eR12]; exact List.forall_mem_cons.mpr ⟨fun e => lj (s1.heap.objs.size + 1 + 1 + 1, _) (by k_mem) e.symm, a3⟩
        replace a2 : ∀ p ∈ R12, p.1 ≠ s1.heap.objs.size + 1 + 1 := by rw [eR12]; exact List.forall_mem_cons.mpr ⟨fun e => lj (s1.heap.objs.size + 1 + 1, _) (by k_mem) e.symm, a2⟩
        replace a1 : ∀ p ∈ R12, p.1 ≠ s1.heap.objs.size + 1 := by rw [eR12]; exact List.forall_mem_cons.mpr ⟨fun e => lj (s1.heap.objs.size + 1, _) (by k_mem) e.symm, a1⟩
        replace ox : ∀ p ∈ R12, p.1 ≠ x := by rw [eR12]; exact List.forall_mem_cons.mpr ⟨fun e => lj (x, _) (by k_mem) e.symm, ox⟩
        replace od : ∀ p ∈ R12, p.1 ≠ d := by rw [eR12]; exact List.forall_mem_cons.mpr ⟨fun e => lj (d, _) (by k_mem) e.symm, od⟩
        replace hys := hys.mono fun _ _ y => y.mono fun _ _ e => sR12 _ e
        replace eD := sR12 _ eD
        replace mL := sR12 _ mL
        replace eL := tkOf (by k_asm) mL
        replace mK := sR12 _ mK
        replace eK := tkOf (by k_asm) mK
        have mJ : (Dj, RatO (heatF 40 ls) tj uj cj) ∈ R12 := by rw [eR12]; exact List.mem_cons_self ..
        have eJ := tkOf (by k_asm) mJ
        replace plt := sR12 _ plt
        replace hvt := hvt.mono fun _ _ y => y.mono fun _ _ e => sR12 _ e
        clear Nj eR12 lj sR12
        k_steps
        unfold Hold
        rename_i va va0 va1 vaE rz Dz tz uz cz hz9 tkz rzE rzN rzD lz hz8 Fz Nz
        have bz : Bd 64 rz := by rw [rzE]; exact bd_div2 va0 va1
        have gz : Gr 2 rz := by rw [rzE]; exact gr2
        have dz : 0 ≤ rz ∧ rz ≤ 10000 := by rw [rzE]; exact div2_pos va0 va1
        clear rzN rzD vaE
        obtain ⟨R13, eR13⟩ : ∃ R, R = (Dz, RatO rz tz uz cz) :: R12 := ⟨_, rfl⟩
        obtain ⟨NR13, fR13, NR13'⟩ := news_as Nz (l := (x, instObj 174 d) :: (d, tankD w0.params k1 (.ref lt)) :: (s1.heap.objs.size + 1 + 1 + 1, o3) :: (s1.heap.objs.size + 1 + 1, o2b) :: (s1.heap.objs.size + 1, o1) :: ((Dz, RatO rz tz uz cz) :: R12)) (List.forall_mem_cons.mpr ⟨by k_mem, List.forall_mem_cons.mpr ⟨by k_mem, List.forall_mem_cons.mpr ⟨by k_mem, List.forall_mem_cons.mpr ⟨by k_mem, List.forall_mem_cons.mpr ⟨by k_mem, List.forall_mem_cons.mpr ⟨by k_mem, (by intro p9 hp9; first | ((repeat (first | exact hp9 | exact List.mem_append_left _ hp9 | exact List.mem_append_right _ hp9 | refine List.mem_cons_of_mem _ ?_)); done) | (simp only [List.mem_cons, List.mem_append]; simp only [hp9, true_or, or_true]))⟩⟩⟩⟩⟩⟩)
        rw [← eR13] at fR13; subst fR13
        have sR13 : ∀ p ∈ R12, p ∈ R13 := by rw [eR13]; exact fun p hp => List.mem_cons_of_mem _ (hp)
        replace a3 : ∀ p ∈ R13, p.1 ≠ s1.heap.objs.size + 1 + 1 + 1 := by rw [eR13]; exact List.forall_mem_cons.mpr ⟨neN (by walk_at "ne9"), a3⟩
        replace a2 : ∀ p ∈ R13, p.1 ≠ s1.heap.objs.size + 1 + 1 := by rw [eR13]; exact List.forall_mem_cons.mpr ⟨neN (by walk_at "ne9"), a2⟩
        replace a1 : ∀ p ∈ R13, p.1 ≠ s1.heap.objs.size + 1 := by rw [eR13]; exact List.forall_mem_cons.mpr ⟨neN (by walk_at "ne9"), a1⟩
        replace ox : ∀ p ∈ R13, p.1 ≠ x := by rw [eR13]; exact List.forall_mem_cons.mpr ⟨neN (by walk_at "ne9"), ox⟩
        replace od : ∀ p ∈ R13, p.1 ≠ d := by rw [eR13]; exact List.forall_mem_cons.mpr ⟨neN (by walk_at "ne9"), od⟩
        replace hys := hys.mono fun _ _ y => y.mono fun _ _ e => sR13 _ e
        replace eD := sR13 _ eD
        replace mL := sR13 _ mL
        replace eL := tkOf (by k_asm) mL
        replace mK := sR13 _ mK
        replace eK := tkOf (by k_asm) mK
        replace mJ := sR13 _ mJ
        replace eJ := tkOf (by k_asm) mJ
        have mW : (Dz, RatO rz tz uz cz) ∈ R13 := (by rw [eR13]; k_mem : (Dz, RatO rz tz uz cz) ∈ R13)
        have eW := tkOf (by k_asm) mW
        replace plt := sR13 _ plt
        replace hvt := hvt.mono fun _ _ y => y.mono fun _ _ e => sR13 _ e
        clear Nz eR13 sR13 lz rzE
        have hN9 := base_inF (a := 28) (o := RatO 0 _ _ _) (by k_asm) (by k_asm) (by k_is)
        obtain ⟨tn, un, cn, hN0⟩ := rat_ex hN9
        clear hN9
        k_dflt (refine' drawfor_c (P := PT (Led R13) [(28, RatO 0 tn un cn)]) (x := x) (d := d) (vs := vt) (ls := ls) (n0 := nt) (b := 64) (rh := rz) (rb := 40) ?k1_u15 ?k2_u15 ?k3_u15 ?k4_u15 ?k5_u15 ?k6_u15 ?ex0_u15 ?U_u15 ?ndx_u15 ?hP_u15 ?hPn_u15 ?el_u15 ?hv_u15 ?hne_u15 ?hb_u15 ?hb2_u15 ?hll_u15 ?hbs_u15 ?hb1_u15 ?hg_u15 ?hpos_u15 ?eh_u15 ?hbh_u15 ?hh0_u15 ?eb_u15 ?hbb_u15 ?en_u15 ?hbd_u15 ?hf_u15 ?hbl_u15 ?k7_u15 ?k8_u15 ?_)
        case k1_u15 => k_asm
        case k2_u15 => k_asm
        case k3_u15 => k_asm
        case k4_u15 => k_asm
        case k5_u15 => k_asm
        case k6_u15 => first | exact rfl | assumption
        case k7_u15 => ktr_room
        case k8_u15 => ktr_units
        case ex0_u15 => k_mem
        case U_u15 => k_updF
        case ndx_u15 => exact ndx
        case hP_u15 => exact pN (ledG (by k_asm) ((by intro p9 hp9; first | ((repeat (first | exact hp9 | exact List.mem_append_left _ hp9 | exact List.mem_append_right _ hp9 | refine List.mem_cons_of_mem _ ?_)); done) | (simp only [List.mem_cons, List.mem_append]; simp only [hp9, true_or, or_true])) : ∀ p ∈ R13, p ∈ _)) (Fr.keep (by k_asm) _ _ hN0)
        case hPn_u15 => exact pNn (fun a o e => ⟨ox _ e, od _ e⟩) (ne_base (by k_asm) (by k_mem : (x, instObj 174 d) ∈ _) hN0) (ne_base (by k_asm) (by k_mem : (d, tankD w0.params k1 (.ref lt)) ∈ _) hN0)
        case el_u15 => exact .inl plt
        case hv_u15 => exact hvt.mono fun _ _ y => y.mono fun _ _ e => .inl e
        case hne_u15 => exact H.ne
        case hb_u15 => exact H.bd1
        case hb2_u15 => exact H.bd2
        case hll_u15 => have := H.len; omega
        case hbs_u15 => decide
        case hb1_u15 => decide
        case hg_u15 => exact dg_pos H
        case hpos_u15 => exact H.pos
        case eh_u15 => exact .inl mW
        case hbh_u15 => exact bz
        case hh0_u15 => exact dz.1
        case eb_u15 => exact .inl mK
        case hbb_u15 => exact bK
        case en_u15 => exact .inr (List.mem_cons_self ..)
        case hbd_u15 => exact d_bd H gz dz.1 dz.2
        case hf_u15 => exact fun _ => d_falls H gz dz.1 dz.2
        case hbl_u15 => exact d_new H gz dz.1 dz.2

        intro vo v6 tl6 h6 tk6 F6 N6 nt6 Lo Lv
        (try dsimp only at N6)
        simp only [List.cons_append, List.nil_append] at N6
        replace Lv := lays_clean (d_nz H dz.1) Lv
        have BB := d_b10 H gz dz.1 dz.2
        have eq0 := d_got H gz dz.1 dz.2
        have bQ := (d_bd H gz dz.1 dz.2 ls.length).2
        rw [List.take_length] at bQ
        generalize (if 0 < dfL (fun w => w - 40) ls rz then (cutF ls (dfL (fun w => w - 40) ls rz)).rest ++ [(dfL (fun w => w - 40) ls rz, 40)] else ls) = ls2 at Lv BB
        generalize dfG (fun w => w - 40) ls rz = q at Lo BB eq0 bQ
        obtain ⟨Dq, tq, uq, cq, rfl, hq⟩ := Lo
        obtain ⟨lt2, vt2, nt2, rfl, plt2, hvt2⟩ := Lv
        clear plt hvt
        obtain ⟨R14, eR14⟩ : ∃ R, R = R13 ++ tl6 := ⟨_, rfl⟩
        obtain ⟨NR14, fR14, NR14'⟩ := news_as N6 (l := (x, instObj 174 d) :: (d, tankD w0.params k1 (.ref lt2)) :: (s1.heap.objs.size + 1 + 1 + 1, o3) :: (s1.heap.objs.size + 1 + 1, o2b) :: (s1.heap.objs.size + 1, o1) :: (R13 ++ tl6)) (List.forall_mem_cons.mpr ⟨by k_mem, List.forall_mem_cons.mpr ⟨by k_mem, List.forall_mem_cons.mpr ⟨by k_mem, List.forall_mem_cons.mpr ⟨by k_mem, List.forall_mem_cons.mpr ⟨by k_mem, List.forall_mem_append.mpr ⟨(by intro p9 hp9; first | ((repeat (first | exact hp9 | exact List.mem_append_left _ hp9 | exact List.mem_append_right _ hp9 | refine List.mem_cons_of_mem _ ?_)); done) | (simp only [List.mem_cons, List.mem_append]; simp only [hp9, true_or, or_true])), (by intro p9 hp9; first | ((repeat (first | exact hp9 | exact List.mem_append_left _ hp9 | exact List.mem_append_right _ hp9 | refine List.mem_cons_of_mem _ ?_)); done) | (simp only [List.mem_cons, List.mem_append]; simp only [hp9, true_or, or_true]))⟩⟩⟩⟩⟩⟩)
        rw [← eR14] at fR14; subst fR14
        have sR14 : ∀ p ∈ R13, p ∈ R14 := by rw [eR14]; exact fun p hp => List.mem_append_left _ hp
        replace a3 : ∀ p ∈ R14, p.1 ≠ s1.heap.objs.size + 1 + 1 + 1 := by rw [eR14]; exact List.forall_mem_append.mpr ⟨a3, off_of nt6 (by k_mem)⟩
        replace a2 : ∀ p ∈ R14, p.1 ≠ s1.heap.objs.size + 1 + 1 := by rw [eR14]; exact List.forall_mem_append.mpr ⟨a2, off_of nt6 (by k_mem)⟩
        replace a1 : ∀ p ∈ R14, p.1 ≠ s1.heap.objs.size + 1 := by rw [eR14]; exact List.forall_mem_append.mpr ⟨a1, off_of nt6 (by k_mem)⟩
        replace ox : ∀ p ∈ R14, p.1 ≠ x := by rw [eR14]; exact List.forall_mem_append.mpr ⟨ox, off_of nt6 (by k_mem)⟩
        replace od : ∀ p ∈ R14, p.1 ≠ d := by rw [eR14]; exact List.forall_mem_append.mpr ⟨od, off_of nt6 (by k_mem)⟩
        replace hys := hys.mono fun _ _ y => y.mono fun _ _ e => sR14 _ e
        replace eD := sR14 _ eD
        replace mL := sR14 _ mL
        replace eL := tkOf (by k_asm) mL
        replace mK := sR14 _ mK
        replace eK := tkOf (by k_asm) mK
        replace mJ := sR14 _ mJ
        replace eJ := tkOf (by k_asm) mJ
        replace mW := sR14 _ mW
        replace eW := tkOf (by k_asm) mW
        have tR14 : ∀ p ∈ tl6, p ∈ R14 := by rw [eR14]; exact fun p hp => List.mem_append_right _ hp
        replace plt2 := ptL sR14 tR14 _ _ plt2
        replace hvt2 := hvt2.mono fun _ _ y => y.mono (ptL sR14 tR14)
        have eQ := tkq hN0 sR14 tR14 hq
        clear N6 eR14 tR14 nt6 sR14 hq
        k_steps
        unfold Hold
        k_dflt (refine' least_m (D1 := Dz) (D2 := Dj) (r1 := rz) (r2 := heatF 40 ls) (n := 64) (k := 1000) ?k1_u16 ?k2_u16 ?k3_u16 ?k4_u16 ?k5_u16 ?k6_u16 ?e1_u16 ?e2_u16 ?k7_u16 ?k8_u16 ?b1_u16 ?b2_u16 ?hbq_u16 ?_)
        case k1_u16 => k_asm
        case k2_u16 => k_asm
        case k3_u16 => k_asm
        case k4_u16 => k_asm
        case k5_u16 => k_asm
        case k6_u16 => first | exact rfl | assumption
        case k7_u16 => ktr_room
        case k8_u16 => ktr_units
        case e1_u16 => exact Tk.get (by k_asm) (by k_asm) eW (by intro p9 hp9; first | ((repeat (first | exact hp9 | exact List.mem_append_left _ hp9 | exact List.mem_append_right _ hp9 | refine List.mem_cons_of_mem _ ?_)); done) | (simp only [List.mem_cons, List.mem_append]; simp only [hp9, true_or, or_true]))
        case e2_u16 => exact Tk.get (by k_asm) (by k_asm) eJ (by intro p9 hp9; first | ((repeat (first | exact hp9 | exact List.mem_append_left _ hp9 | exact List.mem_append_right _ hp9 | refine List.mem_cons_of_mem _ ?_)); done) | (simp only [List.mem_cons, List.mem_append]; simp only [hp9, true_or, or_true]))
        case b1_u16 => exact bz
        case b2_u16 => exact bJ
        case hbq_u16 => decide

        intro Dx r9 hx9 tkx hxx Fx Nx
        obtain ⟨tx9, ux9, cx9, mX⟩ := least_tk mW mJ hxx
        have e9 : r9 = q := (least_if hxx).trans eq0.symm
        rw [e9] at mX
        clear hxx e9
        k_steps
        unfold Hold
        (rename News _ _ _ _ => N8)
        refine ne_rd (d := ratP q) (RatO_rd (Tk.get (by k_asm) (by k_asm) eQ (by intro p9 hp9; first | ((repeat (first | exact hp9 | exact List.mem_append_left _ hp9 | exact List.mem_append_right _ hp9 | refine List.mem_cons_of_mem _ ?_)); done) | (simp only [List.mem_cons, List.mem_append]; simp only [hp9, true_or, or_true])))) (RatO_rd (N8.get (((by intro p9 hp9; first | ((repeat (first | exact hp9 | exact List.mem_append_left _ hp9 | exact List.mem_append_right _ hp9 | refine List.mem_cons_of_mem _ ?_)); done) | (simp only [List.mem_cons, List.mem_append]; simp only [hp9, true_or, or_true])) : ∀ p ∈ R14, p ∈ _) _ mX))) (shaped_rat _) ?hu12 ?_
        case hu12 => ktr_units
        clear mX
        obtain ⟨NX, fX, NX'⟩ := news_as N8 (l := (x, instObj 174 d) :: (d, tankD w0.params k1 (.ref lt2)) :: (s1.heap.objs.size + 1 + 1 + 1, o3) :: (s1.heap.objs.size + 1 + 1, o2b) :: (s1.heap.objs.size + 1, o1) :: (R14)) (List.forall_mem_cons.mpr ⟨by k_mem, List.forall_mem_cons.mpr ⟨by k_mem, List.forall_mem_cons.mpr ⟨by k_mem, List.forall_mem_cons.mpr ⟨by k_mem, List.forall_mem_cons.mpr ⟨by k_mem, (by intro p9 hp9; first | ((repeat (first | exact hp9 | exact List.mem_append_left _ hp9 | exact List.mem_append_right _ hp9 | refine List.mem_cons_of_mem _ ?_)); done) | (simp only [List.mem_cons, List.mem_append]; simp only [hp9, true_or, or_true]))⟩⟩⟩⟩⟩)
        subst fX
        clear N8
        k_steps
        unfold Hold
        k_dflt (refine' heat_c (W := R14) (vs := vt2) (ls := ls2) (b := 64) (rb := 40) ?k1_u17 ?k2_u17 ?k3_u17 ?k4_u17 ?k5_u17 ?k6_u17 ?hW_u17 ?gx_u17 ?gd_u17 ?hWx_u17 ?hWd_u17 ?el_u17 ?hv_u17 ?hne_u17 ?hb_u17 ?hb2_u17 ?eb_u17 ?hbb_u17 ?hll_u17 ?hbs_u17 ?k7_u17 ?k8_u17 ?_)
        case k1_u17 => k_asm
        case k2_u17 => k_asm
        case k3_u17 => k_asm
        case k4_u17 => k_asm
        case k5_u17 => k_asm
        case k6_u17 => first | exact rfl | assumption
        case k7_u17 => ktr_room
        case k8_u17 => ktr_units
        case gx_u17 => exact News.get (by k_asm) (by k_mem)
        case gd_u17 => exact News.get (by k_asm) (by k_mem)
        case hW_u17 => exact (by intro p9 hp9; first | ((repeat (first | exact hp9 | exact List.mem_append_left _ hp9 | exact List.mem_append_right _ hp9 | refine List.mem_cons_of_mem _ ?_)); done) | (simp only [List.mem_cons, List.mem_append]; simp only [hp9, true_or, or_true]))
        case hWx_u17 => exact ox
        case hWd_u17 => exact od
        case el_u17 => exact plt2
        case hv_u17 => exact hvt2
        case hne_u17 => exact BB.ne
        case hb_u17 => exact BB.b1
        case hb2_u17 => exact BB.b2
        case eb_u17 => exact mK
        case hbb_u17 => exact bK
        case hll_u17 => have := BB.le; omega
        case hbs_u17 => decide

        intro D7 t7 u7 c7 h7 tk7 b7 F7 N7 l7
        rw [BB.ht'] at N7
        clear b7
        replace l7 := allNe_of l7
        k_steps
        unfold Hold
        (rename News _ _ _ _ => N8)
        refine ne_rd (d := ratP (heatF 40 ls - q)) (RatO_rd (N8.get (by k_mem))) (RatO_rd (N8.get (by k_mem))) (shaped_rat _) ?hu13 ?_
        case hu13 => ktr_units
        clear l7
        obtain ⟨NX, fX, NX'⟩ := news_as N8 (l := (x, instObj 174 d) :: (d, tankD w0.params k1 (.ref lt2)) :: (s1.heap.objs.size + 1 + 1 + 1, o3) :: (s1.heap.objs.size + 1 + 1, o2b) :: (s1.heap.objs.size + 1, o1) :: (R14)) (List.forall_mem_cons.mpr ⟨by k_mem, List.forall_mem_cons.mpr ⟨by k_mem, List.forall_mem_cons.mpr ⟨by k_mem, List.forall_mem_cons.mpr ⟨by k_mem, List.forall_mem_cons.mpr ⟨by k_mem, (by intro p9 hp9; first | ((repeat (first | exact hp9 | exact List.mem_append_left _ hp9 | exact List.mem_append_right _ hp9 | refine List.mem_cons_of_mem _ ?_)); done) | (simp only [List.mem_cons, List.mem_append]; simp only [hp9, true_or, or_true]))⟩⟩⟩⟩⟩)
        subst fX
        clear N8
        k_steps
        unfold Hold
        k_dflt (refine' litres_c (P := Led R14) (vs := vt2) (ls := ls2) (b := 64) ?k1_u18 ?k2_u18 ?k3_u18 ?k4_u18 ?k5_u18 ?k6_u18 ?gx_u18 ?gd_u18 ?hP_u18 ?el_u18 ?hv_u18 ?hne_u18 ?hb_u18 ?hlen_u18 ?k7_u18 ?k8_u18 ?_)
        case k1_u18 => k_asm
        case k2_u18 => k_asm
        case k3_u18 => k_asm
        case k4_u18 => k_asm
        case k5_u18 => k_asm
        case k6_u18 => first | exact rfl | assumption
        case k7_u18 => ktr_room
        case k8_u18 => ktr_units
        case gx_u18 => exact News.get (by k_asm) (by k_mem)
        case gd_u18 => exact News.get (by k_asm) (by k_mem)
        case hP_u18 => exact ledG (by k_asm) ((by intro p9 hp9; first | ((repeat (first | exact hp9 | exact List.mem_append_left _ hp9 | exact List.mem_append_right _ hp9 | refine List.mem_cons_of_mem _ ?_)); done) | (simp only [List.mem_cons, List.mem_append]; simp only [hp9, true_or, or_true])) : ∀ p ∈ R14, p ∈ _)
        case el_u18 => exact plt2
        case hv_u18 => exact hvt2
        case hne_u18 => exact BB.ne
        case hb_u18 => exact BB.b1
        case hlen_u18 => have := BB.le; omega

        intro D7 t7 u7 c7 h7 tk7 b7 F7 N7 l7
        rw [BB.lt] at N7
        clear b7
        replace l7 := allNe_of l7
        k_steps
        unfold Hold
        (rename News _ _ _ _ => N8)
        refine ne_rd (d := ratP (tot (ls.map (·.1)))) (RatO_rd (N8.get (by k_mem))) (RatO_rd (N8.get (((by intro p9 hp9; first | ((repeat (first | exact hp9 | exact List.mem_append_left _ hp9 | exact List.mem_append_right _ hp9 | refine List.mem_cons_of_mem _ ?_)); done) | (simp only [List.mem_cons, List.mem_append]; simp only [hp9, true_or, or_true])) : ∀ p ∈ R14, p ∈ _) _ mL))) (shaped_rat _) ?hu14 ?_
        case hu14 => ktr_units
        clear l7
        obtain ⟨NX, fX, NX'⟩ := news_as N8 (l := (x, instObj 174 d) :: (d, tankD w0.params k1 (.ref lt2)) :: (s1.heap.objs.size + 1 + 1 + 1, o3) :: (s1.heap.objs.size + 1 + 1, o2b) :: (s1.heap.objs.size + 1, o1) :: (R14)) (List.forall_mem_cons.mpr ⟨by k_mem, List.forall_mem_cons.mpr ⟨by k_mem, List.forall_mem_cons.mpr ⟨by k_mem, List.forall_mem_cons.mpr ⟨by k_mem, List.forall_mem_cons.mpr ⟨by k_mem, (by intro p9 hp9; first | ((repeat (first | exact hp9 | exact List.mem_append_left _ hp9 | exact List.mem_append_right _ hp9 | refine List.mem_cons_of_mem _ ?_)); done) | (simp only [List.mem_cons, List.mem_append]; simp only [hp9, true_or, or_true]))⟩⟩⟩⟩⟩)
        subst fX
        clear N8
        clear mW eW bz gz dz eq0 eQ bQ
        k_steps
        unfold Hold
        (rename News _ _ _ _ => NN)
        obtain ⟨LE, eLE, NL⟩ := name_led NN
        clear NN
        have hol15 := hvt2.length
        refine src_tk (nx := R14) (its := vt2.toArray) (k := nt2) rfl (by k_asm) NL (tkOf (by k_asm) plt2) (by rw [eLE]; exact (by intro p9 hp9; first | ((repeat (first | exact hp9 | exact List.mem_append_left _ hp9 | exact List.mem_append_right _ hp9 | refine List.mem_cons_of_mem _ ?_)); done) | (simp only [List.mem_cons, List.mem_append]; simp only [hp9, true_or, or_true]))) (by rw [List.size_toArray, hol15, sizeLine_eq]; have := BB.le; omega) (fun g9 => ?_)
        refine comp_ind (fun i ys nx => nx = LE ∧ All2 (RatN (Led R14)) ys ((ls2.map fun l : Rat × Rat => l.2).take i)) ?turn15 ?fin15 _ 0 [] _ (Nat.zero_add _) ⟨rfl, .nil⟩
        case turn15 =>
          intro i v9 I oI C oC D9 m2 h tk E' ys' nx hi hJ hPv hC hx Fm Nn off ne
          obtain ⟨rfl, hys'⟩ := hJ
          subst eLE
          clear NL
          have hvi : vt2[i]? = some v9 := by simpa using hPv
          obtain ⟨⟨sz, wm⟩, hl, Dp, v1, v2, c, rfl, eDp, hs1, hw1⟩ := hvt2.get hvi
          have eDp' := tkOf Fm eDp
          have off' := off
          simp only [LCg.Off3, and_assoc, List.cons_append] at off' Nn
          have hstep := map_take_snoc (f := fun l : Rat × Rat => l.2) hl
          k_steps
          unfold Hold
          (rename News _ _ _ _ => NN)
          exact comp_end (by k_asm) NN _ (fun _ h => h) off (srcAt_tk (nx := R14) (k := nt2) (tkOf Fm plt2) (by intro p9 hp9; first | ((repeat (first | exact hp9 | exact List.mem_append_left _ hp9 | exact List.mem_append_right _ hp9 | refine List.mem_cons_of_mem _ ?_)); done) | (simp only [List.mem_cons, List.mem_append]; simp only [hp9, true_or, or_true]))) ⟨rfl, by rw [hstep]; exact hys'.snoc hw1⟩
        case fin15 =>
          intro ys' nx hJ D6 h tk Fm Nn off
          obtain ⟨rfl, hys'⟩ := hJ
          subst eLE
          clear NL
          rw [List.size_toArray, hol15, ← List.length_map (f := fun l : Rat × Rat => l.2), List.take_length] at hys'
          have w3 : @Ne Nat D6 (s1.heap.objs.size + 1 + 1 + 1) := neN (fun e => off1_mem off (s1.heap.objs.size + 1 + 1 + 1, _) (by k_mem) e.symm)
          have k3 : ∀ p ∈ (s1.heap.objs.size + 1 + 1, o2b) :: (s1.heap.objs.size + 1, o1) :: R14, p.1 ≠ s1.heap.objs.size + 1 + 1 + 1 := List.forall_mem_cons.mpr ⟨neN (by walk_at "ne9"), List.forall_mem_cons.mpr ⟨neN (by walk_at "ne9"), a3⟩⟩
          have hoy := hys'.length
          rw [List.length_map] at hoy
          have hle := BB.le
          have hoz : ys'.length < 1000000 := by rw [hoy]; exact Nat.lt_of_le_of_lt hle (by decide)
          have hne : 1 ≤ ls2.length := List.length_pos_iff.mpr BB.ne
          clear plt2 hvt2 hol15
          iterate 21 walk1
          unfold Hold
          (rename Obj => o3b)
          (rename News _ _ _ _ => NN)
          (rename IsRange _ _ _ _ _ _ _ _ => hRg)
          obtain ⟨LE, eLE, NL⟩ := name_led NN
          clear NN
          refine LCt.CompSrcT.range (n := ls2.length - 1) rfl (by k_asm) NL hRg (small_one (by omega) (by omega) (by omega) (by omega)) (rsize (by omega)) (by rw [sizeLine_eq]; omega) (fun g9 => ?_)
          refine comp_indT (fun i ys nx => nx = LE ∧ ys = []) ?turn16 ?fin16 _ 0 [] _ (Nat.zero_add _) ⟨rfl, rfl⟩
          case turn16 =>
            intro i v9 I oI C oC D9 m2 h tk E' ys nx hi hJ hPv hC hx Fm Nn off9 ne
            obtain ⟨rfl, rfl⟩ := hJ
            obtain ⟨t9, rfl⟩ := hPv
            subst eLE
            clear NL
            obtain ⟨la, hla⟩ : ∃ la, ls2[i]? = some la := ⟨ls2[i]'(by omega), List.getElem?_eq_getElem (by omega)⟩
            obtain ⟨lb, hlb⟩ : ∃ lb, ls2[i + 1]? = some lb := ⟨ls2[i + 1]'(by omega), List.getElem?_eq_getElem (by omega)⟩
            obtain ⟨_, hva, Da, ta1, ta2, ca, rfl, ea⟩ := hys'.at (i := i) (b := la.2) (by rw [List.getElem?_map, hla]; rfl)
            obtain ⟨_, hvb, Db, tb1, tb2, cb, rfl, eb⟩ := hys'.at (i := i + 1) (b := lb.2) (by rw [List.getElem?_map, hlb]; rfl)
            have ea' := tkOf Fm ea
            have eb' := tkOf Fm eb
            have bA := BB.b2 _ (List.mem_of_getElem? hla)
            have bB := BB.b2 _ (List.mem_of_getElem? hlb)
            have hlt := BB.falls hla hlb
            have hx1 := at_of (k := 1 + (i : Int) - 1) hva (by omega)
            have hx2 := at_of (k := 1 + (i : Int)) hvb (by omega)
            have ji1 : (0 : Int) ≤ 1 + (i : Int) := by omega
            have ji2 : 1 + (i : Int) < 2 ^ 63 := by omega
            have ji3 : (0 : Int) ≤ 1 + (i : Int) - 1 := by omega
            have ji4 : 1 + (i : Int) - 1 < 2 ^ 63 := by omega
            have off9' := off9
            simp only [LCg.Off3, and_assoc, List.cons_append] at off9' Nn
            k_steps
            unfold Hold
            (rename News _ _ _ _ => NN)
            exact comp_end (by k_asm) NN _ (fun _ h => h) off9 trivial ⟨rfl, rfl⟩
          case fin16 =>
            intro ys' nx hJ D6' h tk Fm Nn off9
            obtain ⟨rfl, rfl⟩ := hJ
            subst eLE
            clear NL
            k_steps
            unfold Hold
            (rename News _ _ _ _ => N8)
            refine ne_rd (d := .list []) (Rd.list (vs := []) (N8.get (by k_mem)) .nil) (Rd.list (vs := []) (N8.get (by k_mem)) .nil) (by rfl) ?hu16 ?_
            case hu16 => ktr_units
            k_steps
            unfold Hold
            (rename News _ _ _ _ => N8)
            obtain ⟨NX, fX, NX'⟩ := news_as N8 (l := (s1.heap.objs.size + 1 + 1 + 1, o3b) :: (s1.heap.objs.size + 1 + 1, o2b) :: (s1.heap.objs.size + 1, o1) :: (R14)) (List.forall_mem_cons.mpr ⟨by k_mem, List.forall_mem_cons.mpr ⟨by k_mem, List.forall_mem_cons.mpr ⟨by k_mem, (by intro p9 hp9; first | ((repeat (first | exact hp9 | exact List.mem_append_left _ hp9 | exact List.mem_append_right _ hp9 | refine List.mem_cons_of_mem _ ?_)); done) | (simp only [List.mem_cons, List.mem_append]; simp only [hp9, true_or, or_true]))⟩⟩⟩)
            subst fX
            clear N8
            clear off off9 w3 k3 hys' hoy hle hne BB ox od jx1 jx2 jx3 jd1 jd2 jd3
            k_dflt (refine' tank_new (P := Led R14) (vs := ys) (ls := ls) (b := 64) ?k1_u19 ?k2_u19 ?k3_u19 ?k4_u19 ?k5_u19 ?k6_u19 ?hP_u19 ?el_u19 ?hv_u19 ?hne_u19 ?hf_u19 ?hpos_u19 ?hb_u19 ?hb2_u19 ?hbb_u19 ?hll_u19 ?k7_u19 ?k8_u19 ?_)
            case k1_u19 => k_asm
            case k2_u19 => k_asm
            case k3_u19 => k_asm
            case k4_u19 => k_asm
            case k5_u19 => k_asm
            case k6_u19 => first | exact rfl | assumption
            case k7_u19 => ktr_room
            case k8_u19 => ktr_units
            case hP_u19 => exact fun _ _ e => .inl (((by intro p9 hp9; first | ((repeat (first | exact hp9 | exact List.mem_append_left _ hp9 | exact List.mem_append_right _ hp9 | refine List.mem_cons_of_mem _ ?_)); done) | (simp only [List.mem_cons, List.mem_append]; simp only [hp9, true_or, or_true])) : ∀ p ∈ R14, p ∈ _) _ e)
            case el_u19 => exact eD
            case hv_u19 => exact hys
            case hne_u19 => exact H.ne
            case hf_u19 => exact H.falls
            case hpos_u19 => exact H.pos
            case hb_u19 => exact H.bd1
            case hb2_u19 => exact H.bd2
            case hbb_u19 => decide
            case hll_u19 => have := H.len; omega

            intro x d k1 v9 tl1 h1 tk1 F1 N1 ndx nx nd tx td ntl L9
            replace ndx := neN ndx
            simp only [List.cons_append, List.nil_append] at N1
            have jx3 := neN (nx (s1.heap.objs.size + 1 + 1 + 1, _) (by k_mem))
            have jx2 := neN (nx (s1.heap.objs.size + 1 + 1, _) (by k_mem))
            have jx1 := neN (nx (s1.heap.objs.size + 1, _) (by k_mem))
            have jd3 := neN (nd (s1.heap.objs.size + 1 + 1 + 1, _) (by k_mem))
            have jd2 := neN (nd (s1.heap.objs.size + 1 + 1, _) (by k_mem))
            have jd1 := neN (nd (s1.heap.objs.size + 1, _) (by k_mem))
            have ox : ∀ p ∈ R14, p.1 ≠ x := fun p hp => nx p (((by intro p9 hp9; first | ((repeat (first | exact hp9 | exact List.mem_append_left _ hp9 | exact List.mem_append_right _ hp9 | refine List.mem_cons_of_mem _ ?_)); done) | (simp only [List.mem_cons, List.mem_append]; simp only [hp9, true_or, or_true])) : ∀ p ∈ R14, p ∈ _) p hp)
            have od : ∀ p ∈ R14, p.1 ≠ d := fun p hp => nd p (((by intro p9 hp9; first | ((repeat (first | exact hp9 | exact List.mem_append_left _ hp9 | exact List.mem_append_right _ hp9 | refine List.mem_cons_of_mem _ ?_)); done) | (simp only [List.mem_cons, List.mem_append]; simp only [hp9, true_or, or_true])) : ∀ p ∈ R14, p ∈ _) p hp)
            obtain ⟨lt, vt, nt, rfl, plt, hvt⟩ := L9
            obtain ⟨R15, eR15⟩ : ∃ R, R = R14 ++ tl1 := ⟨_, rfl⟩
            obtain ⟨NR15, fR15, NR15'⟩ := news_as N1 (l := (x, instObj 174 d) :: (d, tankD w0.params k1 (.ref lt)) :: (s1.heap.objs.size + 1 + 1 + 1, o3b) :: (s1.heap.objs.size + 1 + 1, o2b) :: (s1.heap.objs.size + 1, o1) :: (R14 ++ tl1)) (List.forall_mem_cons.mpr ⟨by k_mem, List.forall_mem_cons.mpr ⟨by k_mem, List.forall_mem_cons.mpr ⟨by k_mem, List.forall_mem_cons.mpr ⟨by k_mem, List.forall_mem_cons.mpr ⟨by k_mem, List.forall_mem_append.mpr ⟨(by intro p9 hp9; first | ((repeat (first | exact hp9 | exact List.mem_append_left _ hp9 | exact List.mem_append_right _ hp9 | refine List.mem_cons_of_mem _ ?_)); done) | (simp only [List.mem_cons, List.mem_append]; simp only [hp9, true_or, or_true])), (by intro p9 hp9; first | ((repeat (first | exact hp9 | exact List.mem_append_left _ hp9 | exact List.mem_append_right _ hp9 | refine List.mem_cons_of_mem _ ?_)); done) | (simp only [List.mem_cons, List.mem_append]; simp only [hp9, true_or, or_true]))⟩⟩⟩⟩⟩⟩)
            rw [← eR15] at fR15; subst fR15
            have sR15 : ∀ p ∈ R14, p ∈ R15 := by rw [eR15]; exact fun p hp => List.mem_append_left _ hp
            replace a3 : ∀ p ∈ R15, p.1 ≠ s1.heap.objs.size + 1 + 1 + 1 := by rw [eR15]; exact List.forall_mem_append.mpr ⟨a3, off_of ntl (by k_mem)⟩
            replace a2 : ∀ p ∈ R15, p.1 ≠ s1.heap.objs.size + 1 + 1 := by rw [eR15]; exact List.forall_mem_append.mpr ⟨a2, off_of ntl (by k_mem)⟩
            replace a1 : ∀ p ∈ R15, p.1 ≠ s1.heap.objs.size + 1 := by rw [eR15]; exact List.forall_mem_append.mpr ⟨a1, off_of ntl (by k_mem)⟩
            replace hys := hys.mono fun _ _ y => y.mono fun _ _ e => sR15 _ e
            replace eD := sR15 _ eD
            replace mL := sR15 _ mL
            replace eL := tkOf (by k_asm) mL
            replace mK := sR15 _ mK
            replace eK := tkOf (by k_asm) mK
            replace mJ := sR15 _ mJ
            replace eJ := tkOf (by k_asm) mJ
            have tR15 : ∀ p ∈ tl1, p ∈ R15 := by rw [eR15]; exact fun p hp => List.mem_append_right _ hp
            replace ox : ∀ p ∈ R15, p.1 ≠ x := by rw [eR15]; exact List.forall_mem_append.mpr ⟨ox, tx⟩
            replace od : ∀ p ∈ R15, p.1 ≠ d := by rw [eR15]; exact List.forall_mem_append.mpr ⟨od, td⟩
            replace plt := ptL sR15 tR15 _ _ plt
            replace hvt := hvt.mono fun _ _ y => y.mono (ptL sR15 tR15)
            clear N1 eR15 tR15 nx nd tx td ntl sR15
            obtain ⟨mQ, eQm, FQ⟩ := fr_name F1
            clear F1
            have n_layers := fr_at eQm (PySem.Str.ofString "layers") _ (by first | exact rfl | assumption)
            have n_litres := fr_at eQm (PySem.Str.ofString "litres") _ (by first | exact rfl | assumption)
            have n_back := fr_at eQm (PySem.Str.ofString "back") _ (by first | exact rfl | assumption)
            have n_there := fr_at eQm (PySem.Str.ofString "there") _ (by first | exact rfl | assumption)
            clear eQm
            iterate 14 walk1
            rename_i hs9 tks Ds ts us cs hA tkA lsn hB Fs Ns
            obtain ⟨R20, eR20⟩ : ∃ R, R = (Ds, T2 97 1 ts us cs) :: R15 := ⟨_, rfl⟩
            obtain ⟨NR20, fR20, NR20'⟩ := news_as Ns (l := (x, instObj 174 d) :: (d, tankD w0.params k1 (.ref lt)) :: (s1.heap.objs.size + 1 + 1 + 1, o3b) :: (s1.heap.objs.size + 1 + 1, o2b) :: (s1.heap.objs.size + 1, o1) :: ((Ds, T2 97 1 ts us cs) :: R15)) (List.forall_mem_cons.mpr ⟨by k_mem, List.forall_mem_cons.mpr ⟨by k_mem, List.forall_mem_cons.mpr ⟨by k_mem, List.forall_mem_cons.mpr ⟨by k_mem, List.forall_mem_cons.mpr ⟨by k_mem, List.forall_mem_cons.mpr ⟨by k_mem, (by intro p9 hp9; first | ((repeat (first | exact hp9 | exact List.mem_append_left _ hp9 | exact List.mem_append_right _ hp9 | refine List.mem_cons_of_mem _ ?_)); done) | (simp only [List.mem_cons, List.mem_append]; simp only [hp9, true_or, or_true]))⟩⟩⟩⟩⟩⟩)
            rw [← eR20] at fR20; subst fR20
            have sR20 : ∀ p ∈ R15, p ∈ R20 := by rw [eR20]; exact fun p hp => List.mem_cons_of_mem _ (hp)
            replace a3 : ∀ p ∈ R20, p.1 ≠ s1.heap.objs.size + 1 + 1 + 1 := by rw [eR20]; exact List.forall_mem_cons.mpr ⟨neN (by walk_at "ne9"), a3⟩
            replace a2 : ∀ p ∈ R20, p.1 ≠ s1.heap.objs.size + 1 + 1 := by rw [eR20]; exact List.forall_mem_cons.mpr ⟨neN (by walk_at "ne9"), a2⟩
            replace a1 : ∀ p ∈ R20, p.1 ≠ s1.heap.objs.size + 1 := by rw [eR20]; exact List.forall_mem_cons.mpr ⟨neN (by walk_at "ne9"), a1⟩
            replace ox : ∀ p ∈ R20, p.1 ≠ x := by rw [eR20]; exact List.forall_mem_cons.mpr ⟨neN (by walk_at "ne9"), ox⟩
            replace od : ∀ p ∈ R20, p.1 ≠ d := by rw [eR20]; exact List.forall_mem_cons.mpr ⟨neN (by walk_at "ne9"), od⟩
            replace hys := hys.mono fun _ _ y => y.mono fun _ _ e => sR20 _ e
            replace eD := sR20 _ eD
            replace mL := sR20 _ mL
            replace eL := tkOf (by k_asm) mL
            replace mK := sR20 _ mK
            replace eK := tkOf (by k_asm) mK
            replace mJ := sR20 _ mJ
            replace eJ := tkOf (by k_asm) mJ
            have mS : (Ds, RatO (97 : Rat) ts us cs) ∈ R20 := (by rw [eR20]; k_mem : (Ds, T2 97 1 ts us cs) ∈ R20)
            have eS := tkOf (by k_asm) mS
            replace plt := sR20 _ plt
            replace hvt := hvt.mono fun _ _ y => y.mono fun _ _ e => sR20 _ e
            have bS : Bd 64 (97 : Rat) := bd64 (x := 97) (by decide) (by decide)
            clear Ns eR20 sR20 lsn
            k_steps
            unfold Hold
            rename_i Dm tm um cm hm tkm bm lm Dn tn2 un2 cn2 hn tkn bn Fn Nn ln
            obtain ⟨R16, eR16⟩ : ∃ R, R = (Dn, RatO (tot (ls.map (·.1)) * (97 - 40)) tn2 un2 cn2) :: R20 := ⟨_, rfl⟩
            obtain ⟨NR16, fR16, NR16'⟩ := news_as Nn (l := (x, instObj 174 d) :: (d, tankD w0.params k1 (.ref lt)) :: (s1.heap.objs.size + 1 + 1 + 1, o3b) :: (s1.heap.objs.size + 1 + 1, o2b) :: (s1.heap.objs.size + 1, o1) :: ((Dn, RatO (tot (ls.map (·.1)) * (97 - 40)) tn2 un2 cn2) :: R20)) (List.forall_mem_cons.mpr ⟨by k_mem, List.forall_mem_cons.mpr ⟨by k_mem, List.forall_mem_cons.mpr ⟨by k_mem, List.forall_mem_cons.mpr ⟨by k_mem, List.forall_mem_cons.mpr ⟨by k_mem, List.forall_mem_cons.mpr ⟨by k_mem, (by intro p9 hp9; first | ((repeat (first | exact hp9 | exact List.mem_append_left _ hp9 | exact List.mem_append_right _ hp9 | refine List.mem_cons_of_mem _ ?_)); done) | (simp only [List.mem_cons, List.mem_append]; simp only [hp9, true_or, or_true]))⟩⟩⟩⟩⟩⟩)
            rw [← eR16] at fR16; subst fR16
            have sR16 : ∀ p ∈ R20, p ∈ R16 := by rw [eR16]; exact fun p hp => List.mem_cons_of_mem _ (hp)
            replace a3 : ∀ p ∈ R16, p.1 ≠ s1.heap.objs.size + 1 + 1 + 1 := by rw [eR16]; exact List.forall_mem_cons.mpr ⟨fun e => allNe_mem ln (s1.heap.objs.size + 1 + 1 + 1, _) (by k_mem) e.symm, a3⟩
            replace a2 : ∀ p ∈ R16, p.1 ≠ s1.heap.objs.size + 1 + 1 := by rw [eR16]; exact List.forall_mem_cons.mpr ⟨fun e => allNe_mem ln (s1.heap.objs.size + 1 + 1, _) (by k_mem) e.symm, a2⟩
            replace a1 : ∀ p ∈ R16, p.1 ≠ s1.heap.objs.size + 1 := by rw [eR16]; exact List.forall_mem_cons.mpr ⟨fun e => allNe_mem ln (s1.heap.objs.size + 1, _) (by k_mem) e.symm, a1⟩
            replace ox : ∀ p ∈ R16, p.1 ≠ x := by rw [eR16]; exact List.forall_mem_cons.mpr ⟨fun e => allNe_mem ln (x, _) (by k_mem) e.symm, ox⟩
            replace od : ∀ p ∈ R16, p.1 ≠ d := by rw [eR16]; exact List.forall_mem_cons.mpr ⟨fun e => allNe_mem ln (d, _) (by k_mem) e.symm, od⟩
            replace hys := hys.mono fun _ _ y => y.mono fun _ _ e => sR16 _ e
            replace eD := sR16 _ eD
            replace mL := sR16 _ mL
            replace eL := tkOf (by k_asm) mL
            replace mK := sR16 _ mK
            replace eK := tkOf (by k_asm) mK
            replace mJ := sR16 _ mJ
            replace eJ := tkOf (by k_asm) mJ
            replace mS := sR16 _ mS
            replace eS := tkOf (by k_asm) mS
            have mT : (Dn, RatO (tot (ls.map (·.1)) * (97 - 40)) tn2 un2 cn2) ∈ R16 := (by rw [eR16]; k_mem : (Dn, RatO (tot (ls.map (·.1)) * (97 - 40)) tn2 un2 cn2) ∈ R16)
            have eT := tkOf (by k_asm) mT
            replace plt := sR16 _ plt
            replace hvt := hvt.mono fun _ _ y => y.mono fun _ _ e => sR16 _ e
            clear Nn eR16 sR16 ln lm bm
            k_dflt (refine' heat_c (W := R16) (vs := vt) (ls := ls) (b := 64) (rb := 40) ?k1_u20 ?k2_u20 ?k3_u20 ?k4_u20 ?k5_u20 ?k6_u20 ?hW_u20 ?gx_u20 ?gd_u20 ?hWx_u20 ?hWd_u20 ?el_u20 ?hv_u20 ?hne_u20 ?hb_u20 ?hb2_u20 ?eb_u20 ?hbb_u20 ?hll_u20 ?hbs_u20 ?k7_u20 ?k8_u20 ?_)
            case k1_u20 => k_asm
            case k2_u20 => k_asm
            case k3_u20 => k_asm
            case k4_u20 => k_asm
            case k5_u20 => k_asm
            case k6_u20 => first | exact rfl | assumption
            case k7_u20 => ktr_room
            case k8_u20 => ktr_units
            case gx_u20 => exact News.get (by k_asm) (by k_mem)
            case gd_u20 => exact News.get (by k_asm) (by k_mem)
            case hW_u20 => exact (by intro p9 hp9; first | ((repeat (first | exact hp9 | exact List.mem_append_left _ hp9 | exact List.mem_append_right _ hp9 | refine List.mem_cons_of_mem _ ?_)); done) | (simp only [List.mem_cons, List.mem_append]; simp only [hp9, true_or, or_true]))
            case hWx_u20 => exact ox
            case hWd_u20 => exact od
            case el_u20 => exact plt
            case hv_u20 => exact hvt
            case hne_u20 => exact H.ne
            case hb_u20 => exact H.bd1
            case hb2_u20 => exact H.bd2
            case eb_u20 => exact mK
            case hbb_u20 => exact bK
            case hll_u20 => have := H.len; omega
            case hbs_u20 => decide

            intro Dy ty uy cy hy tky by9 Fy Ny ly
            clear by9
            replace ly := allNe_of ly
            k_steps
            unfold Hold
            rename_i Dr tr ur cr hr9 tkr br lr hr8 tkr8 to8 hr7 tkr7 va va0 va1 vaE rg Dg tg ug cg hg9 tkg rgE rgN rgD lg hg8 Fg Ng
            have bg : Bd 64 rg := by rw [rgE]; exact bd_div2 va0 va1
            have gg : Gr 2 rg := by rw [rgE]; exact gr2
            have dg : 0 ≤ rg ∧ rg ≤ 10000 := by rw [rgE]; exact div2_pos va0 va1
            clear rgN rgD vaE
            obtain ⟨R17, eR17⟩ : ∃ R, R = (Dg, RatO rg tg ug cg) :: (Dr, RatO (tot (ls.map (·.1)) * (97 - 40) - heatF 40 ls) tr ur cr) :: R16 := ⟨_, rfl⟩
            obtain ⟨NR17, fR17, NR17'⟩ := news_as Ng (l := (x, instObj 174 d) :: (d, tankD w0.params k1 (.ref lt)) :: (s1.heap.objs.size + 1 + 1 + 1, o3b) :: (s1.heap.objs.size + 1 + 1, o2b) :: (s1.heap.objs.size + 1, o1) :: ((Dg, RatO rg tg ug cg) :: (Dr, RatO (tot (ls.map (·.1)) * (97 - 40) - heatF 40 ls) tr ur cr) :: R16)) (List.forall_mem_cons.mpr ⟨by k_mem, List.forall_mem_cons.mpr ⟨by k_mem, List.forall_mem_cons.mpr ⟨by k_mem, List.forall_mem_cons.mpr ⟨by k_mem, List.forall_mem_cons.mpr ⟨by k_mem, List.forall_mem_cons.mpr ⟨by k_mem, List.forall_mem_cons.mpr ⟨by k_mem, (by intro p9 hp9; first | ((repeat (first | exact hp9 | exact List.mem_append_left _ hp9 | exact List.mem_append_right _ hp9 | refine List.mem_cons_of_mem _ ?_)); done) | (simp only [List.mem_cons, List.mem_append]; simp only [hp9, true_or, or_true]))⟩⟩⟩⟩⟩⟩⟩)
            rw [← eR17] at fR17; subst fR17
            have sR17 : ∀ p ∈ R16, p ∈ R17 := by rw [eR17]; exact fun p hp => List.mem_cons_of_mem _ (List.mem_cons_of_mem _ (hp))
            replace a3 : ∀ p ∈ R17, p.1 ≠ s1.heap.objs.size + 1 + 1 + 1 := by rw [eR17]; exact List.forall_mem_cons.mpr ⟨neN (by walk_at "ne9"), List.forall_mem_cons.mpr ⟨fun e => allNe_mem lr (s1.heap.objs.size + 1 + 1 + 1, _) (by k_mem) e.symm, a3⟩⟩
            replace a2 : ∀ p ∈ R17, p.1 ≠ s1.heap.objs.size + 1 + 1 := by rw [eR17]; exact List.forall_mem_cons.mpr ⟨neN (by walk_at "ne9"), List.forall_mem_cons.mpr ⟨fun e => allNe_mem lr (s1.heap.objs.size + 1 + 1, _) (by k_mem) e.symm, a2⟩⟩
            replace a1 : ∀ p ∈ R17, p.1 ≠ s1.heap.objs.size + 1 := by rw [eR17]; exact List.forall_mem_cons.mpr ⟨neN (by walk_at "ne9"), List.forall_mem_cons.mpr ⟨fun e => allNe_mem lr (s1.heap.objs.size + 1, _) (by k_mem) e.symm, a1⟩⟩
            replace ox : ∀ p ∈ R17, p.1 ≠ x := by rw [eR17]; exact List.forall_mem_cons.mpr ⟨neN (by walk_at "ne9"), List.forall_mem_cons.mpr ⟨fun e => allNe_mem lr (x, _) (by k_mem) e.symm, ox⟩⟩
            replace od : ∀ p ∈ R17, p.1 ≠ d := by rw [eR17]; exact List.forall_mem_cons.mpr ⟨neN (by walk_at "ne9"), List.forall_mem_cons.mpr ⟨fun e => allNe_mem lr (d, _) (by k_mem) e.symm, od⟩⟩
            replace hys := hys.mono fun _ _ y => y.mono fun _ _ e => sR17 _ e
            replace eD := sR17 _ eD
            replace mL := sR17 _ mL
            replace eL := tkOf (by k_asm) mL
            replace mK := sR17 _ mK
            replace eK := tkOf (by k_asm) mK
            replace mJ := sR17 _ mJ
            replace eJ := tkOf (by k_asm) mJ
            replace mS := sR17 _ mS
            replace eS := tkOf (by k_asm) mS
            replace mT := sR17 _ mT
            replace eT := tkOf (by k_asm) mT
            have mG : (Dg, RatO rg tg ug cg) ∈ R17 := (by rw [eR17]; k_mem : (Dg, RatO rg tg ug cg) ∈ R17)
            have eG := tkOf (by k_asm) mG
            have mR : (Dr, RatO (tot (ls.map (·.1)) * (97 - 40) - heatF 40 ls) tr ur cr) ∈ R17 := (by rw [eR17]; k_mem : (Dr, RatO (tot (ls.map (·.1)) * (97 - 40) - heatF 40 ls) tr ur cr) ∈ R17)
            have eR := tkOf (by k_asm) mR
            replace plt := sR17 _ plt
            replace hvt := hvt.mono fun _ _ y => y.mono fun _ _ e => sR17 _ e
            clear Ng eR17 sR17 lr lg ly rgE
            k_dflt (refine' chargew_c (P := PT (Led R17) [(28, RatO 0 tn un cn)]) (x := x) (d := d) (vs := vt) (ls := ls) (n0 := nt) (b := 64) (rh := rg) (rb := 97) ?k1_u21 ?k2_u21 ?k3_u21 ?k4_u21 ?k5_u21 ?k6_u21 ?ex0_u21 ?U_u21 ?ndx_u21 ?hP_u21 ?hPn_u21 ?el_u21 ?hv_u21 ?hne_u21 ?hb_u21 ?hb2_u21 ?hll_u21 ?hbs_u21 ?hb1_u21 ?hg_u21 ?hpos_u21 ?eh_u21 ?hbh_u21 ?hh0_u21 ?eb_u21 ?hbb_u21 ?en_u21 ?hbd_u21 ?hf_u21 ?hbl_u21 ?k7_u21 ?k8_u21 ?_)
            case k1_u21 => k_asm
            case k2_u21 => k_asm
            case k3_u21 => k_asm
            case k4_u21 => k_asm
            case k5_u21 => k_asm
            case k6_u21 => first | exact rfl | assumption
            case k7_u21 => ktr_room
            case k8_u21 => ktr_units
            case ex0_u21 => k_mem
            case U_u21 => k_updF
            case ndx_u21 => exact ndx
            case hP_u21 => exact pN (ledG (by k_asm) ((by intro p9 hp9; first | ((repeat (first | exact hp9 | exact List.mem_append_left _ hp9 | exact List.mem_append_right _ hp9 | refine List.mem_cons_of_mem _ ?_)); done) | (simp only [List.mem_cons, List.mem_append]; simp only [hp9, true_or, or_true])) : ∀ p ∈ R17, p ∈ _)) (Fr.keep (by k_asm) _ _ hN0)
            case hPn_u21 => exact pNn (fun a o e => ⟨ox _ e, od _ e⟩) (ne_base (by k_asm) (by k_mem : (x, instObj 174 d) ∈ _) hN0) (ne_base (by k_asm) (by k_mem : (d, tankD w0.params k1 (.ref lt)) ∈ _) hN0)
            case el_u21 => exact .inl plt
            case hv_u21 => exact hvt.mono fun _ _ y => y.mono fun _ _ e => .inl e
            case hne_u21 => exact H.ne
            case hb_u21 => exact H.bd1
            case hb2_u21 => exact H.bd2
            case hll_u21 => have := H.len; omega
            case hbs_u21 => decide
            case hb1_u21 => decide
            case hg_u21 => exact cg_pos H
            case hpos_u21 => exact H.pos
            case eh_u21 => exact .inl mG
            case hbh_u21 => exact bg
            case hh0_u21 => exact dg.1
            case eb_u21 => exact .inl mS
            case hbb_u21 => exact bS
            case en_u21 => exact .inr (List.mem_cons_self ..)
            case hbd_u21 => exact c_bd H gg dg.1 dg.2
            case hf_u21 => exact fun _ => c_falls H gg dg.1 dg.2
            case hbl_u21 => exact c_new H gg dg.1 dg.2

            intro vo v6 tl6 h6 tk6 F6 N6 nt6 Lo Lv
            (try dsimp only at N6)
            simp only [List.cons_append, List.nil_append] at N6
            replace Lv := lays_clean (c_nz H dg.1) Lv
            have BB := c_b10 H gg dg.1 dg.2
            have eq0 := c_put H gg dg.1 dg.2
            have bQ := (c_bd H gg dg.1 dg.2 ls.reverse.length).2
            rw [List.take_length] at bQ
            generalize (if 0 < dfL (fun w => 97 - w) ls.reverse rg then (dfL (fun w => 97 - w) ls.reverse rg, 97) :: (cutF ls.reverse (dfL (fun w => 97 - w) ls.reverse rg)).rest.reverse else ls) = ls2 at Lv BB
            generalize dfG (fun w => 97 - w) ls.reverse rg = q at Lo BB eq0 bQ
            obtain ⟨Dq, tq, uq, cq, rfl, hq⟩ := Lo
            obtain ⟨lt2, vt2, nt2, rfl, plt2, hvt2⟩ := Lv
            clear plt hvt
            obtain ⟨R18, eR18⟩ : ∃ R, R = R17 ++ tl6 := ⟨_, rfl⟩
            obtain ⟨NR18, fR18, NR18'⟩ := news_as N6 (l := (x, instObj 174 d) :: (d, tankD w0.params k1 (.ref lt2)) :: (s1.heap.objs.size + 1 + 1 + 1, o3b) :: (s1.heap.objs.size + 1 + 1, o2b) :: (s1.heap.objs.size + 1, o1) :: (R17 ++ tl6)) (List.forall_mem_cons.mpr ⟨by k_mem, List.forall_mem_cons.mpr ⟨by k_mem, List.forall_mem_cons.mpr ⟨by k_mem, List.forall_mem_cons.mpr ⟨by k_mem, List.forall_mem_cons.mpr ⟨by k_mem, List.forall_mem_append.mpr ⟨(by intro p9 hp9; first | ((repeat (first | exact hp9 | exact List.mem_append_left _ hp9 | exact List.mem_append_right _ hp9 | refine List.mem_cons_of_mem _ ?_)); done) | (simp only [List.mem_cons, List.mem_append]; simp only [hp9, true_or, or_true])), (by intro p9 hp9; first | ((repeat (first | exact hp9 | exact List.mem_append_left _ hp9 | exact List.mem_append_right _ hp9 | refine List.mem_cons_of_mem _ ?_)); done) | (simp only [List.mem_cons, List.mem_append]; simp only [hp9, true_or, or_true]))⟩⟩⟩⟩⟩⟩)
            rw [← eR18] at fR18; subst fR18
            have sR18 : ∀ p ∈ R17, p ∈ R18 := by rw [eR18]; exact fun p hp => List.mem_append_left _ hp
            replace a3 : ∀ p ∈ R18, p.1 ≠ s1.heap.objs.size + 1 + 1 + 1 := by rw [eR18]; exact List.forall_mem_append.mpr ⟨a3, off_of nt6 (by k_mem)⟩
            replace a2 : ∀ p ∈ R18, p.1 ≠ s1.heap.objs.size + 1 + 1 := by rw [eR18]; exact List.forall_mem_append.mpr ⟨a2, off_of nt6 (by k_mem)⟩
            replace a1 : ∀ p ∈ R18, p.1 ≠ s1.heap.objs.size + 1 := by rw [eR18]; exact List.forall_mem_append.mpr ⟨a1, off_of nt6 (by k_mem)⟩
            replace ox : ∀ p ∈ R18, p.1 ≠ x := by rw [eR18]; exact List.forall_mem_append.mpr ⟨ox, off_of nt6 (by k_mem)⟩
            replace od : ∀ p ∈ R18, p.1 ≠ d := by rw [eR18]; exact List.forall_mem_append.mpr ⟨od, off_of nt6 (by k_mem)⟩
            replace hys := hys.mono fun _ _ y => y.mono fun _ _ e => sR18 _ e
            replace eD := sR18 _ eD
            replace mL := sR18 _ mL
            replace eL := tkOf (by k_asm) mL
            replace mK := sR18 _ mK
            replace eK := tkOf (by k_asm) mK
            replace mJ := sR18 _ mJ
            replace eJ := tkOf (by k_asm) mJ
            replace mS := sR18 _ mS
            replace eS := tkOf (by k_asm) mS
            replace mT := sR18 _ mT
            replace eT := tkOf (by k_asm) mT
            replace mG := sR18 _ mG
            replace eG := tkOf (by k_asm) mG
            replace mR := sR18 _ mR
            replace eR := tkOf (by k_asm) mR
            have tR18 : ∀ p ∈ tl6, p ∈ R18 := by rw [eR18]; exact fun p hp => List.mem_append_right _ hp
            replace plt2 := ptL sR18 tR18 _ _ plt2
            replace hvt2 := hvt2.mono fun _ _ y => y.mono (ptL sR18 tR18)
            have eQ := tkq hN0 sR18 tR18 hq
            clear N6 eR18 tR18 nt6 sR18 hq
            k_steps
            unfold Hold
            k_dflt (refine' heat_c (W := R18) (vs := vt2) (ls := ls2) (b := 64) (rb := 40) ?k1_u22 ?k2_u22 ?k3_u22 ?k4_u22 ?k5_u22 ?k6_u22 ?hW_u22 ?gx_u22 ?gd_u22 ?hWx_u22 ?hWd_u22 ?el_u22 ?hv_u22 ?hne_u22 ?hb_u22 ?hb2_u22 ?eb_u22 ?hbb_u22 ?hll_u22 ?hbs_u22 ?k7_u22 ?k8_u22 ?_)
            case k1_u22 => k_asm
            case k2_u22 => k_asm
            case k3_u22 => k_asm
            case k4_u22 => k_asm
            case k5_u22 => k_asm
            case k6_u22 => first | exact rfl | assumption
            case k7_u22 => ktr_room
            case k8_u22 => ktr_units
            case gx_u22 => exact News.get (by k_asm) (by k_mem)
            case gd_u22 => exact News.get (by k_asm) (by k_mem)
            case hW_u22 => exact (by intro p9 hp9; first | ((repeat (first | exact hp9 | exact List.mem_append_left _ hp9 | exact List.mem_append_right _ hp9 | refine List.mem_cons_of_mem _ ?_)); done) | (simp only [List.mem_cons, List.mem_append]; simp only [hp9, true_or, or_true]))
            case hWx_u22 => exact ox
            case hWd_u22 => exact od
            case el_u22 => exact plt2
            case hv_u22 => exact hvt2
            case hne_u22 => exact BB.ne
            case hb_u22 => exact BB.b1
            case hb2_u22 => exact BB.b2
            case eb_u22 => exact mK
            case hbb_u22 => exact bK
            case hll_u22 => have := BB.le; omega
            case hbs_u22 => decide

            intro D7 t7 u7 c7 h7 tk7 b7 F7 N7 l7
            rw [BB.ht] at N7
            clear b7
            replace l7 := allNe_of l7
            k_steps
            unfold Hold
            (rename News _ _ _ _ => N8)
            refine ne_rd (d := ratP (heatF 40 ls + q)) (RatO_rd (N8.get (by k_mem))) (RatO_rd (N8.get (by k_mem))) (shaped_rat _) ?hu17 ?_
            case hu17 => ktr_units
            clear l7
            obtain ⟨NX, fX, NX'⟩ := news_as N8 (l := (x, instObj 174 d) :: (d, tankD w0.params k1 (.ref lt2)) :: (s1.heap.objs.size + 1 + 1 + 1, o3b) :: (s1.heap.objs.size + 1 + 1, o2b) :: (s1.heap.objs.size + 1, o1) :: (R18)) (List.forall_mem_cons.mpr ⟨by k_mem, List.forall_mem_cons.mpr ⟨by k_mem, List.forall_mem_cons.mpr ⟨by k_mem, List.forall_mem_cons.mpr ⟨by k_mem, List.forall_mem_cons.mpr ⟨by k_mem, (by intro p9 hp9; first | ((repeat (first | exact hp9 | exact List.mem_append_left _ hp9 | exact List.mem_append_right _ hp9 | refine List.mem_cons_of_mem _ ?_)); done) | (simp only [List.mem_cons, List.mem_append]; simp only [hp9, true_or, or_true]))⟩⟩⟩⟩⟩)
            subst fX
            clear N8
            k_steps
            unfold Hold
            k_dflt (refine' least_m (D1 := Dg) (D2 := Dr) (r1 := rg) (r2 := tot (ls.map (·.1)) * (97 - 40) - heatF 40 ls) (n := 64) (k := _) ?k1_u23 ?k2_u23 ?k3_u23 ?k4_u23 ?k5_u23 ?k6_u23 ?e1_u23 ?e2_u23 ?k7_u23 ?k8_u23 ?b1_u23 ?b2_u23 ?hbq_u23 ?_)
            case k1_u23 => k_asm
            case k2_u23 => k_asm
            case k3_u23 => k_asm
            case k4_u23 => k_asm
            case k5_u23 => k_asm
            case k6_u23 => first | exact rfl | assumption
            case k7_u23 => ktr_room
            case k8_u23 => ktr_units
            case e1_u23 => exact Tk.get (by k_asm) (by k_asm) eG (by intro p9 hp9; first | ((repeat (first | exact hp9 | exact List.mem_append_left _ hp9 | exact List.mem_append_right _ hp9 | refine List.mem_cons_of_mem _ ?_)); done) | (simp only [List.mem_cons, List.mem_append]; simp only [hp9, true_or, or_true]))
            case e2_u23 => exact Tk.get (by k_asm) (by k_asm) eR (by intro p9 hp9; first | ((repeat (first | exact hp9 | exact List.mem_append_left _ hp9 | exact List.mem_append_right _ hp9 | refine List.mem_cons_of_mem _ ?_)); done) | (simp only [List.mem_cons, List.mem_append]; simp only [hp9, true_or, or_true]))
            case b1_u23 => exact bg
            case b2_u23 => exact br
            case hbq_u23 => decide

            intro Dx r9 hx9 tkx hxx Fx Nx
            obtain ⟨tx9, ux9, cx9, mX⟩ := least_tk mG mR hxx
            have e9 : r9 = q := (least_if hxx).trans eq0.symm
            rw [e9] at mX
            clear hxx e9
            k_steps
            unfold Hold
            (rename News _ _ _ _ => N8)
            refine ne_rd (d := ratP q) (RatO_rd (Tk.get (by k_asm) (by k_asm) eQ (by intro p9 hp9; first | ((repeat (first | exact hp9 | exact List.mem_append_left _ hp9 | exact List.mem_append_right _ hp9 | refine List.mem_cons_of_mem _ ?_)); done) | (simp only [List.mem_cons, List.mem_append]; simp only [hp9, true_or, or_true])))) (RatO_rd (N8.get (((by intro p9 hp9; first | ((repeat (first | exact hp9 | exact List.mem_append_left _ hp9 | exact List.mem_append_right _ hp9 | refine List.mem_cons_of_mem _ ?_)); done) | (simp only [List.mem_cons, List.mem_append]; simp only [hp9, true_or, or_true])) : ∀ p ∈ R18, p ∈ _) _ mX))) (shaped_rat _) ?hu18 ?_
            case hu18 => ktr_units
            clear mX
            obtain ⟨NX, fX, NX'⟩ := news_as N8 (l := (x, instObj 174 d) :: (d, tankD w0.params k1 (.ref lt2)) :: (s1.heap.objs.size + 1 + 1 + 1, o3b) :: (s1.heap.objs.size + 1 + 1, o2b) :: (s1.heap.objs.size + 1, o1) :: (R18)) (List.forall_mem_cons.mpr ⟨by k_mem, List.forall_mem_cons.mpr ⟨by k_mem, List.forall_mem_cons.mpr ⟨by k_mem, List.forall_mem_cons.mpr ⟨by k_mem, List.forall_mem_cons.mpr ⟨by k_mem, (by intro p9 hp9; first | ((repeat (first | exact hp9 | exact List.mem_append_left _ hp9 | exact List.mem_append_right _ hp9 | refine List.mem_cons_of_mem _ ?_)); done) | (simp only [List.mem_cons, List.mem_append]; simp only [hp9, true_or, or_true]))⟩⟩⟩⟩⟩)
            subst fX
            clear N8
            k_steps
            unfold Hold
            k_dflt (refine' litres_c (P := Led R18) (vs := vt2) (ls := ls2) (b := 64) ?k1_u24 ?k2_u24 ?k3_u24 ?k4_u24 ?k5_u24 ?k6_u24 ?gx_u24 ?gd_u24 ?hP_u24 ?el_u24 ?hv_u24 ?hne_u24 ?hb_u24 ?hlen_u24 ?k7_u24 ?k8_u24 ?_)
            case k1_u24 => k_asm
            case k2_u24 => k_asm
            case k3_u24 => k_asm
            case k4_u24 => k_asm
            case k5_u24 => k_asm
            case k6_u24 => first | exact rfl | assumption
            case k7_u24 => ktr_room
            case k8_u24 => ktr_units
            case gx_u24 => exact News.get (by k_asm) (by k_mem)
            case gd_u24 => exact News.get (by k_asm) (by k_mem)
            case hP_u24 => exact ledG (by k_asm) ((by intro p9 hp9; first | ((repeat (first | exact hp9 | exact List.mem_append_left _ hp9 | exact List.mem_append_right _ hp9 | refine List.mem_cons_of_mem _ ?_)); done) | (simp only [List.mem_cons, List.mem_append]; simp only [hp9, true_or, or_true])) : ∀ p ∈ R18, p ∈ _)
            case el_u24 => exact plt2
            case hv_u24 => exact hvt2
            case hne_u24 => exact BB.ne
            case hb_u24 => exact BB.b1
            case hlen_u24 => have := BB.le; omega

            intro D7 t7 u7 c7 h7 tk7 b7 F7 N7 l7
            rw [BB.lt] at N7
            clear b7
            replace l7 := allNe_of l7
            k_steps
            unfold Hold
            (rename News _ _ _ _ => N8)
            refine eq_rd (d := ratP (tot (ls.map (·.1)))) (RatO_rd (N8.get (by k_mem))) (RatO_rd (N8.get (((by intro p9 hp9; first | ((repeat (first | exact hp9 | exact List.mem_append_left _ hp9 | exact List.mem_append_right _ hp9 | refine List.mem_cons_of_mem _ ?_)); done) | (simp only [List.mem_cons, List.mem_append]; simp only [hp9, true_or, or_true])) : ∀ p ∈ R18, p ∈ _) _ mL))) (shaped_rat _) ?hu19 ?_
            case hu19 => ktr_units
            clear l7
            k_steps
            all_goals (try unfold Hold)
            all_goals (try dsimp only)
            exact good_true (by assumption) (by assumption) rfl)

