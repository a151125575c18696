import PyProof.Rows.All
import Wide.All
import OpenK.AllK
import Wide.FinOn
import PySem.Challenge.RW_ui0509_04
open PySem PySem.W PyProof.Rows PySem.Spec PySem.Calls
set_option Elab.async false
set_option maxRecDepth 100000
set_option maxHeartbeats 8000000
set_option rowWalk.seconds 1500
set_option compiler.extract_closed false
namespace Mine
open_top hd for PySem.Challenge.rw_ui0509_04
-- a call over a part of the ledger: the callee walks over NEED alone; the rest of the ledger is kept by its ground
def restOf (news need : List (Addr × Obj)) : List (Addr × Obj) := news.filter fun p => !(need.map (·.1)).contains p.1
theorem mem_rest {news need : List (Addr × Obj)} {p : Addr × Obj} (h : p ∈ news) (hn : p.1 ∉ need.map (·.1)) : p ∈ restOf news need :=
  List.mem_filter.mpr ⟨h, by simpa [List.contains_iff_mem] using hn⟩
theorem rest_mem {news need : List (Addr × Obj)} {p : Addr × Obj} (h : p ∈ restOf news need) : p ∈ news ∧ p.1 ∉ need.map (·.1) := by
  obtain ⟨h1, h2⟩ := List.mem_filter.mp h
  exact ⟨h1, by simpa [List.contains_iff_mem] using h2⟩
theorem mem_rest0 {news : List (Addr × Obj)} {p : Addr × Obj} (h : p ∈ news) : p ∈ restOf news [] := mem_rest h (by simp)
def LeaveN (h₀ : Heap) (L : Addr) (m : Str → Option Value) (g : Heap) (news need : List (Addr × Obj)) (R : Result → Shared → Prop) (v : Value) (s' : Shared) : Prop :=
  ∃ L' m' news', Fr g L' s'.heap m' ∧ News g L' s'.heap news' ∧ (Fr h₀ L s'.heap m → News h₀ L s'.heap news' → News h₀ L s'.heap (restOf news need) → (∀ p ∈ restOf news need, ∀ q ∈ news', p.1 ≠ q.1) → R (.ok (.ret v)) s')
theorem leaveN_ {h₀ g : Heap} {L L' : Addr} {m m' : Str → Option Value} {news need news' : List (Addr × Obj)} {R : Result → Shared → Prop} {v : Value} {s' : Shared} (F' : Fr g L' s'.heap m') (N' : News g L' s'.heap news')
    (k : Fr h₀ L s'.heap m → News h₀ L s'.heap news' → News h₀ L s'.heap (restOf news need) → (∀ p ∈ restOf news need, ∀ q ∈ news', p.1 ≠ q.1) → R (.ok (.ret v)) s') : LeaveN h₀ L m g news need R v s' := ⟨L', m', news', F', N', k⟩
theorem leaveN_K {h₀ h g : Heap} {L : Addr} {m : Str → Option Value} {news need : List (Addr × Obj)} {R : Result → Shared → Prop} {v : Value} {s' : Shared} (N : News h₀ L h news) (hg : g = hideAll h (need.map (·.1)))
    (hl : LeaveN h₀ L m g news need R v s') : LeaveK h₀ L m g R v s' := by
  obtain ⟨L', m', news', F', N', k⟩ := hl
  have keep : ∀ p ∈ restOf news need, g.get? p.1 = some p.2 := fun p hp => by
    obtain ⟨h1, h2⟩ := rest_mem hp
    rw [hg]
    exact hideAll_get _ (N p h1).1 h2
  refine ⟨L', m', news', F', N', fun a b => k a b (fun p hp => ⟨F'.keep _ _ (keep p hp), (N p (rest_mem hp).1).2⟩) fun p hp q hq e => ?_⟩
  have h1 := keep p hp
  rw [e, (N' q hq).2.2] at h1
  cases h1
theorem news_all {h₀ h' : Heap} {L : Addr} {news : List (Addr × Obj)} (N2 : News h₀ L h' (restOf news [])) : News h₀ L h' news := fun p hp => N2 p (mem_rest0 hp)
theorem news_cons {h₀ h' : Heap} {L : Addr} {news : List (Addr × Obj)} {p : Addr × Obj} {full : List (Addr × Obj)} (N1 : News h₀ L h' full) (hp : p ∈ full) (N : News h₀ L h' news) : News h₀ L h' (p :: news) := by
  intro q hq
  rcases List.mem_cons.mp hq with rfl | hq
  · exact N1 _ hp
  · exact N q hq
theorem ne_all {news full : List (Addr × Obj)} {q : Addr × Obj} (hd : ∀ p ∈ restOf news [], ∀ q ∈ full, p.1 ≠ q.1) (hq : q ∈ full) : ∀ p ∈ news, p.1 ≠ q.1 := fun p hp => hd p (mem_rest0 hp) q hq
def AllNe (d : Nat) : List (Addr × Obj) → Prop
  | [] => True
  | p :: r => (@Ne Nat p.1 d) ∧ AllNe d r
theorem allNe_of {d : Addr} : ∀ {l : List (Addr × Obj)}, (∀ p ∈ l, p.1 ≠ d) → AllNe d l
  | [], _ => trivial
  | p :: _, h => ⟨h p (.head _), allNe_of fun q hq => h q (.tail _ hq)⟩
section
variable {prog : Program} {w : World} {A A₀ : Around} {s : Shared} {K : Frag} {L : Addr} {h₀ base : Heap} {m mg mb : Str → Option Value} {news : List (Addr × Obj)} {p : Program} {loose : List Str} {mean : ExcName → Option Value}
theorem code_need (need : List (Addr × Obj)) {env : Env} {outer : List Env} {R : Result → Shared → Prop} {name qual : Str} {params : Arguments} {body : List Stmt} {scope : Scope} {dV kV doc pm cdv ct oc : Value} {an od : Option Addr} {osl : Array (Option Value)} {f : Addr} {args : Args} {binds : List (Str × Value)}
    (B : Below A₀ base outer h₀) (F : Fr h₀ L s.heap m) (X₀ : K.In h₀) (N : News h₀ L s.heap news) (T : Top p loose mean mg mb h₀) (hA : A.frames = some (env :: outer)) (hf : env.frame = some L) (hke : env.scope.kind = .function)
    (ho : K.lookup f = some ⟨oc, od, .func (fnOf name qual params body scope dV kV doc pm an cdv ct), osl⟩) (hcd : codeIn K cdv qual = true) (hroom : A.depth < recursionLimit)
    (hbind : BindsTo s (fnOf name qual params body scope dV kV doc pm an cdv ct) args binds) (hloc : ∀ y ∈ binds, scope.names.lookup y.1 = some .local) (hn : ∀ p ∈ need, p ∈ news)
    (h : ∀ g L' h₁ tk, Fr h₀ L g m → Fr g L' h₁ (fun y => binds.reverse.lookup y) → News g L' h₁ need → Below A base (env :: outer) g → K.In g → Top p loose mean mg mb g → (∀ b o, s.heap.get? b = some o → b ∉ need.map (·.1) → g.get? b = some o) →
      wpAny (model prog w) (A.deeper (envOf qual scope L' f cdv)) (execs body (envOf qual scope L' f cdv))
        (fun fl s' => LeaveN h₀ L m g news need R (match fl with | .ret v => v | _ => .none) s')
        (fun e s' => wpAny (model prog w) (A.deeper (envOf qual scope L' f cdv)) (leaving (envOf qual scope L' f cdv) e) (fun _ s'' => R (.error e) s'') (fun e' s'' => R (.error e') s'') s')
        { s with heap := h₁, toks := tk })
    (hco : scope.isCoroutine = false) (hgen : scope.isGenerator = false) (hk : scope.kind = .function)
    (hcell : ∀ x ∈ scope.names, x.2 ≠ .cell) : codeAny (model prog w) A (.call (.ref f) args) R s := by
  have N0 : News h₀ L s.heap need := fun p hp => N p (hn p hp)
  obtain ⟨FG, BG, st, lv⟩ := groundX (R := R) B F N0 hA hf hke
  refine codeAny_call_def (fd := fnOf name qual params body scope dV kV doc pm an cdv ct) (body := body) (binds := binds) hroom ((X₀.keeps F.keep) _ _ ho) rfl (T.nolimit.keeps F.keep) (codeRec_of (X₀.keeps F.keep) hcd) rfl hbind hcell hloc (fun h₁ hns hk₁ => ?_) hco hgen hk
  exact wpAny_mono (h _ s.heap.objs.size h₁ _ FG ⟨hns, fun b o e => hk₁ b o (of_hideAll _ e), Nat.le_of_eq (hideAll_size _ _)⟩
    (fun p hp => ⟨hk₁ _ _ (N0 p hp).1, Nat.ne_of_lt (Heap.lt_size (N0 p hp).1), hideAll_none _ (List.mem_map_of_mem hp)⟩) BG (X₀.keeps st) (T.keeps st) (fun b o e n => hideAll_get _ e n)) (fun fl s' hl => lv _ _ (leaveN_K N rfl hl)) fun _ _ y => y
theorem code_needC (need : List (Addr × Obj)) {env : Env} {outer : List Env} {R : Result → Shared → Prop} {name qual : Str} {params : Arguments} {body : List Stmt} {scope : Scope} {dV kV doc pm cdv ct oc : Value} {an od : Option Addr} {osl : Array (Option Value)} {f : Addr} {args : Args} {binds : List (Str × Value)}
    (B : Below A₀ base outer h₀) (F : Fr h₀ L s.heap m) (X₀ : K.In h₀) (N : News h₀ L s.heap news) (T : Top p loose mean mg mb h₀) (hA : A.frames = some (env :: outer)) (hf : env.frame = some L) (hke : env.scope.kind = .function)
    (ho : K.lookup f = some ⟨oc, od, .func (fnOf name qual params body scope dV kV doc pm an cdv ct), osl⟩) (hcd : codeIn K cdv qual = true) (hroom : A.depth < recursionLimit)
    (hbind : BindsTo s (fnOf name qual params body scope dV kV doc pm an cdv ct) args binds) (hkind : (binds.all fun y => scope.names.lookup y.1 == some .local || scope.names.lookup y.1 == some .cell) = true)
    (hnd : ((cellsFrom 0 scope.names []).map (·.1)).Nodup) (hn : ∀ p ∈ need, p ∈ news)
    (h : ∀ g L' h₁ tk cells, Fr h₀ L g m → Fr g L' h₁ (bindL (envOfC qual scope L' f cdv).kindOf binds fun _ => none) → News g L' h₁ (cells ++ need) →
      CellsAre (bindC (envOfC qual scope L' f cdv).kindOf binds fun _ => none) (cellsFrom (L' + 1) scope.names []) cells → Below A base (env :: outer) g → K.In g → Top p loose mean mg mb g → (∀ p ∈ need, p.1 < L') → (∀ b o, s.heap.get? b = some o → b ∉ need.map (·.1) → g.get? b = some o) →
      wpAny (model prog w) (A.deeper (envOfC qual scope L' f cdv)) (execs body (envOfC qual scope L' f cdv))
        (fun fl s' => LeaveN h₀ L m g news need R (match fl with | .ret v => v | _ => .none) s')
        (fun e s' => wpAny (model prog w) (A.deeper (envOfC qual scope L' f cdv)) (leaving (envOfC qual scope L' f cdv) e) (fun _ s'' => R (.error e) s'') (fun e' s'' => R (.error e') s'') s')
        { s with heap := h₁, toks := tk })
    (hco : scope.isCoroutine = false) (hgen : scope.isGenerator = false) (hk : scope.kind = .function) : codeAny (model prog w) A (.call (.ref f) args) R s := by
  have N0 : News h₀ L s.heap need := fun p hp => N p (hn p hp)
  obtain ⟨FG, BG, st, lv⟩ := groundX (R := R) B F N0 hA hf hke
  refine codeAny_call_function hroom ((X₀.keeps F.keep) _ _ ho) rfl hco hgen rfl (codeRec_of (X₀.keeps F.keep) hcd) (hbind _ _ _ _ ?_)
  refine wpAny_newFunctionEnv_cells hk (kindsX hkind _) fun env' he s' x => ?_
  subst he
  refine ⟨(T.nolimit.keeps F.keep).keeps x.toInCall.keep, codeAny_func ?_⟩
  obtain ⟨h₁, tk, rfl, _⟩ := x.done
  have hk₁ := x.toInCall.keep
  obtain ⟨cells, NC, Y⟩ := Cl.news (h₀ := s.heap) (Nat.le_refl _) fun n c hm => ⟨x.cell n c (lookup_of_mem_nodup (cellsFrom_names scope.names 0 (s.heap.objs.size + 1) [] [] rfl ▸ hnd) hm), x.above n c hm⟩
  refine wpAny_mono (h _ s.heap.objs.size h₁ tk cells FG ⟨x.toInCall.ns, fun b o e => hk₁ b o (of_hideAll _ e), Nat.le_of_eq (hideAll_size _ _)⟩ (fun p hp => ?_) Y BG (X₀.keeps st) (T.keeps st) (fun p hp => Heap.lt_size (N0 p hp).1) (fun b o e n => hideAll_get _ e n)) (fun fl s' hl => lv _ _ (leaveN_K N rfl hl)) fun _ _ y => y
  rcases List.mem_append.mp hp with hp | hp
  · refine ⟨(NC p hp).1, (NC p hp).2.1, ?_⟩
    cases q : (hideAll s.heap (need.map (·.1))).get? p.1 with
    | none => rfl
    | some o => have := of_hideAll _ q; rw [(NC p hp).2.2] at this; cases this
  · exact ⟨hk₁ _ _ (N0 p hp).1, Nat.ne_of_lt (Heap.lt_size (N0 p hp).1), hideAll_none _ (List.mem_map_of_mem hp)⟩
end
-- the gcd loop, as plain numbers
theorem gcd_turn {a b : Int} (hb : 0 < b) : Int.gcd b (a.fmod b) = Int.gcd a b := by
  rw [Int.fmod_eq_emod_of_nonneg _ (by omega), Int.gcd_comm a b]
  conv => rhs; rw [← Int.mul_ediv_add_emod a b]
  rw [Int.gcd_mul_left_add_right]
theorem dv_turn {a b : Int} {g : Nat} (hb : b > 0) (h : Int.gcd a b = g) : 0 ≤ b ∧ 0 ≤ a.fmod b ∧ Int.gcd b (a.fmod b) = g :=
  ⟨by omega, by rw [Int.fmod_eq_emod_of_nonneg _ (by omega)]; exact Int.emod_nonneg _ (by omega), by rw [gcd_turn hb]; exact h⟩
theorem dv_less {a b : Int} (hb : b > 0) : (a.fmod b).toNat < b.toNat := by
  have h1 : a.fmod b = a % b := Int.fmod_eq_emod_of_nonneg _ (by omega)
  have h2 := Int.emod_nonneg a (show b ≠ 0 by omega)
  have h3 := Int.emod_lt_of_pos a (show 0 < b by omega)
  omega
theorem dv_end {x y a b : Int} (ha : 0 ≤ a) (hb : 0 ≤ b) (hn : ¬ b > 0) (h : Int.gcd a b = Int.gcd (if x < 0 then -x else x) (if y < 0 then -y else y)) : a = ((Int.gcd x y : Nat) : Int) := by
  have e : b = 0 := by omega
  subst e
  rw [Int.gcd_zero] at h
  have h1 : Int.gcd (if x < 0 then -x else x) (if y < 0 then -y else y) = Int.gcd x y := by
    split <;> split <;> simp
  omega
-- fractions as rationals
theorem num_p {x y g : Int} (h : ¬ y < 0) (h0 : y ≠ 0) (e : g = ((Int.gcd x y : Nat) : Int)) : x.fdiv g = (Rat.divInt x y).num := by
  rw [e, Rat.num_divInt, Int.sign_eq_one_of_pos (by omega), Int.one_mul, Int.gcd_comm, Int.fdiv_eq_ediv_of_nonneg _ (by omega)]
theorem den_p {x y g : Int} (h : ¬ y < 0) (h0 : y ≠ 0) (e : g = ((Int.gcd x y : Nat) : Int)) : y.fdiv g = ((Rat.divInt x y).den : Int) := by
  rw [e, Rat.den_divInt, if_neg (by omega), Int.gcd_comm, Int.fdiv_eq_ediv_of_nonneg _ (by omega), Int.natCast_ediv]
  congr 1
  omega
theorem num_n {x y g : Int} (h : y < 0) (e : g = ((Int.gcd (-x) (-y) : Nat) : Int)) : (-x).fdiv g = (Rat.divInt x y).num := by
  rw [← Rat.neg_divInt_neg]; exact num_p (by omega) (by omega) e
theorem den_n {x y g : Int} (h : y < 0) (e : g = ((Int.gcd (-x) (-y) : Nat) : Int)) : (-y).fdiv g = ((Rat.divInt x y).den : Int) := by
  rw [← Rat.neg_divInt_neg]; exact den_p (by omega) (by omega) e
theorem num_le (u l : Int) : (Rat.divInt u l).num.natAbs ≤ u.natAbs := by
  rw [Rat.num_divInt]
  refine Nat.le_trans (Int.natAbs_ediv_le_natAbs _ _) ?_
  rcases Int.lt_trichotomy l 0 with h | h | h
  · rw [Int.sign_eq_neg_one_of_neg h]; omega
  · subst h; simp
  · rw [Int.sign_eq_one_of_pos h]; omega
theorem den_le {u l : Int} (h : l ≠ 0) : (Rat.divInt u l).den ≤ l.natAbs := by
  rw [Rat.den_divInt, if_neg h]
  exact Nat.div_le_self _ _
theorem r_plus (r q : Rat) : Rat.divInt (r.num * q.den + q.num * r.den) (r.den * q.den) = r + q := by
  rw [Rat.add_def', ← Rat.divInt_ofNat]; rfl
theorem r_minus (r q : Rat) : Rat.divInt (r.num * q.den - q.num * r.den) (r.den * q.den) = r - q := by
  rw [Rat.sub_def', ← Rat.divInt_ofNat]; rfl
theorem r_times (r q : Rat) : Rat.divInt (r.num * q.num) (r.den * q.den) = r * q := by
  rw [Rat.mul_def', ← Rat.divInt_ofNat]; rfl
theorem r_over (r q : Rat) : Rat.divInt (r.num * q.den) (r.den * q.num) = r / q := by
  rw [Rat.div_def, Rat.inv_def]
  conv => rhs; rw [← Rat.num_divInt_den r]
  rw [Rat.divInt_mul_divInt]
theorem r_int (n : Int) : Rat.divInt n 1 = (n : Rat) := by
  rw [Rat.divInt_eq_div]; grind
theorem nzmul {a b : Int} (ha : a ≠ 0) (hb : b ≠ 0) : a * b ≠ 0 := Int.mul_ne_zero ha hb
theorem nzden (r : Rat) : (r.den : Int) ≠ 0 := by have := r.den_nz; omega
-- sizes
def Fits (x : Int) : Prop := x.natAbs < 10 ^ 2000
theorem Fits.no {x g M : Int} (h : Fits x) (hg : 0 < g) (hb : x.fdiv g ≥ M) (hM : M = 10 ^ 2000) : False := by
  have h1 : (x.fdiv g).natAbs ≤ x.natAbs := by
    rw [Int.fdiv_eq_ediv_of_nonneg _ (by omega)]
    exact Int.natAbs_ediv_le_natAbs _ _
  have h2 : ((10 ^ 2000 : Nat) : Int) = M := by rw [hM]; simp
  unfold Fits at h
  generalize (10 : Nat) ^ 2000 = P at h h2
  omega
theorem Fits.noA {x g M : Int} (h : Fits x) (hg : 0 < g) (hb : (if x.fdiv g < 0 then -(x.fdiv g) else x.fdiv g) ≥ M) (hM : M = 10 ^ 2000) : False := by
  have h1 : (x.fdiv g).natAbs ≤ x.natAbs := by
    rw [Int.fdiv_eq_ediv_of_nonneg _ (by omega)]
    exact Int.natAbs_ediv_le_natAbs _ _
  have h2 : ((10 ^ 2000 : Nat) : Int) = M := by rw [hM]; simp
  unfold Fits at h
  generalize (10 : Nat) ^ 2000 = P at h h2
  omega
theorem Fits.neg {x : Int} (h : Fits x) : Fits (-x) := by unfold Fits at *; omega
theorem ten_two : (10 : Nat) ^ 2000 < 2 ^ 9000 := by decide +kernel
theorem two_ten : (2 : Nat) ^ 6643 < 10 ^ 2000 := by decide +kernel
theorem Fits.log {x : Int} {n : Nat} (h : Fits x) (h0 : 0 < n) (hn : n ≤ x.natAbs) : (n : Int).natAbs.log2 < 9000 := by
  have e : (n : Int).natAbs = n := by omega
  rw [e]
  refine (Nat.log2_lt (by omega)).mpr ?_
  unfold Fits at h
  have := ten_two
  generalize (10 : Nat) ^ 2000 = P at *
  generalize (2 : Nat) ^ 9000 = R at *
  omega
theorem Fits.of {x : Int} {n : Nat} (h : Builtin.Int.intBits x ≤ n) (hn : n ≤ 6643) : Fits x := by
  have h1 := natAbs_lt_pow_bits x
  have h2 : (2 : Nat) ^ Builtin.Int.intBits x ≤ 2 ^ 6643 := Nat.pow_le_pow_right (by decide) (by omega)
  have h3 := two_ten
  unfold Fits
  generalize (10 : Nat) ^ 2000 = P at *
  generalize (2 : Nat) ^ 6643 = R at *
  omega
theorem bits_num {u l : Int} {n : Nat} (h : Builtin.Int.intBits u ≤ n) : Builtin.Int.intBits (Rat.divInt u l).num ≤ n := bits_of_natAbs_le (num_le u l) h
theorem bits_den {u l : Int} {n : Nat} (h0 : l ≠ 0) (h : Builtin.Int.intBits l ≤ n) : Builtin.Int.intBits ((Rat.divInt u l).den : Int) ≤ n := bits_of_natAbs_le (by have := den_le (u := u) h0; omega) h

-- the calls
abbrev RatO (r : Rat) (t t' : Tok) (c : Nat) : Obj := { cls := .type "tuple", data := .seq #[.int r.num t, .int (r.den : Int) t'] c }
theorem div_c {w : World} {p : Program} {loose : List Str} {mean : ExcName → Option Value} {mg mb : Str → Option Value} (dp un : Nat) (gd : Option (List Code)) (cn : Str) (cs : Scope) (a : Addr) (ccd : Value) (cl : List (Str × Addr)) (outer : List Env) (A₀ : Around) (base h₀ : Heap) (L : Addr) (m : Str → Option Value) (news : List (Addr × Obj)) (s : Shared) (Q E : Value → Shared → Prop) (x y : Int) (t1 t2 : Tok)
    (B : Below A₀ base outer h₀) (F : Fr h₀ L s.heap m) (X : (Mine.hd.heap_39 w.params).In h₀) (N : News h₀ L s.heap news) (T : Top p loose mean mg mb h₀) (hk : cs.kind = .function)
    (hd : dp + 1 < recursionLimit) (hu : un + 8 < cLine)
    (hret : ∀ (t : Tok) (h' : Heap) (tk' : Nat), Fr h₀ L h' m → News h₀ L h' news → Q (.int ((Int.gcd x y : Nat) : Int) t) { s with heap := h', toks := tk' }) :
      wpAny (model PySem.Challenge.rw_ui0509_04.row.prog w) (ktrTop dp un gd cn cs L a ccd cl outer) (call (.ref 34) [.int x t1, .int y t2]) Q E s := by
  revert X; k_fill; intro X
  refine wpAny_call ?_
  k_dflt ktr_enter
  (k_with "exec While Compare cons nil" => k_while_given ["a!", "b!"] (fun a₀ b₀ _ a b => 0 ≤ a ∧ 0 ≤ b ∧ Int.gcd a b = Int.gcd a₀ b₀) (fun _ _ _ _ b => b.toNat) "a" "b")
  (k_with "state" => exact dv_turn (by assumption) (by assumption))
  (k_with "measure" => exact dv_less (by assumption))
  k_steps
  all_goals exact cb_retI hret (dv_end (by assumption) (by assumption) (by assumption) (by assumption)) (by k_asm) (by k_asm)
theorem div_use {w : World} {p : Program} {loose : List Str} {mean : ExcName → Option Value} {mg mb : Str → Option Value} (dp un : Nat) (gd : Option (List Code)) (cn : Str) (cs : Scope) (a : Addr) (ccd : Value) (cl : List (Str × Addr)) (outer : List Env) (A₀ : Around) (base h₀ : Heap) (L : Addr) (m : Str → Option Value) (news : List (Addr × Obj)) (s : Shared) (Q E : Value → Shared → Prop) (x y : Int) (t1 t2 : Tok)
    (B : Below A₀ base outer h₀) (F : Fr h₀ L s.heap m) (X : (Mine.hd.heap_39 w.params).In h₀) (N : News h₀ L s.heap news) (T : Top p loose mean mg mb h₀) (hk : cs.kind = .function)
    (hd : dp + 1 < recursionLimit) (hu : un + 8 < cLine) (hy : y ≠ 0) (hf : Fits y)
    (hret : ∀ (g : Int) (t : Tok) (h' : Heap) (tk' : Nat), 0 < g → g = ((Int.gcd x y : Nat) : Int) → g.natAbs.log2 < 9000 → Fr h₀ L h' m → News h₀ L h' news → Q (.int g t) { s with heap := h', toks := tk' }) :
      wpAny (model PySem.Challenge.rw_ui0509_04.row.prog w) (ktrTop dp un gd cn cs L a ccd cl outer) (call (.ref 34) [.int x t1, .int y t2]) Q E s :=
  div_c dp un gd cn cs a ccd cl outer A₀ base h₀ L m news s Q E x y t1 t2 B F X N T hk hd hu (fun t h' tk' F' N' => hret _ t h' tk' (by have := Int.gcd_pos_of_ne_zero_right x hy; omega) rfl (Fits.log hf (Int.gcd_pos_of_ne_zero_right x hy) (Int.gcd_le_natAbs_right x hy)) F' N')
theorem fr_end {h₀ h' : Heap} {L D : Addr} {m : Str → Option Value} {news : List (Addr × Obj)} {s : Shared} {Q : Value → Shared → Prop} {x y a b : Int} {t t' : Tok} {c tk' : Nat}
    (hret : ∀ (r : Rat) (D : Addr) (t t' : Tok) (c : Nat) (h' : Heap) (tk' : Nat), r = Rat.divInt x y → Fr h₀ L h' m → News h₀ L h' ((D, RatO r t t' c) :: news) → (∀ p ∈ news, p.1 < D) → Q (.ref D) { s with heap := h', toks := tk' })
    (e1 : a = (Rat.divInt x y).num) (e2 : b = ((Rat.divInt x y).den : Int)) (F : Fr h₀ L h' m) (N : News h₀ L h' ((D, ({ cls := .type "tuple", data := .seq #[.int a t, .int b t'] c } : Obj)) :: news)) (hl : ∀ p ∈ news, p.1 < D) : Q (.ref D) { s with heap := h', toks := tk' } := by
  subst e1; subst e2
  exact hret _ D t t' c h' tk' rfl F N hl
local macro_rules | `(tactic| walk_at "call ref") => `(tactic| (k_here; (with_reducible show wpAny _ _ (call (Value.ref 34) [Value.int _ _, Value.int _ _]) _ _ _); k_dflt (refine' div_use _ _ _ _ _ _ _ _ _ _ _ _ _ _ _ _ _ _ _ _ _ _ ?k1 ?k2 ?k3 ?k4 ?k5 ?k6 ?k7 ?k8 ?k9 ?k10 ?_; (case k1 => k_asm); (case k2 => k_asm); (case k3 => k_asm); (case k4 => k_asm); (case k5 => k_asm); (case k6 => first | exact rfl | assumption); (case k7 => ktr_room); (case k8 => ktr_units); (case k9 => omega); (case k10 => first | assumption | exact Fits.neg (by assumption) | exact Fits.of (n := 64) (PySem.intBits_le_64 (by omega) (by omega)) (by decide)); k_whole); intro g' t' h' tk' g0' gE' gL' F' N'; (try k_sweep)))
local macro_rules | `(tactic| walk_at "binaryOp FloorDiv int int") => `(tactic| (with_reducible refine floordiv_int ?ne ?_ (Or.inl (PyProof.noPylong_of_log2 ?lg)); (case lg => with_reducible assumption); (case ne => omega)))
theorem frac_c {w : World} {p : Program} {loose : List Str} {mean : ExcName → Option Value} {mg mb : Str → Option Value} (dp un : Nat) (gd : Option (List Code)) (cn : Str) (cs : Scope) (a : Addr) (ccd : Value) (cl : List (Str × Addr)) (outer : List Env) (A₀ : Around) (base h₀ : Heap) (L : Addr) (m : Str → Option Value) (news : List (Addr × Obj)) (s : Shared) (Q E : Value → Shared → Prop) (x y : Int) (t1 t2 : Tok)
    (B : Below A₀ base outer h₀) (F : Fr h₀ L s.heap m) (X : (Mine.hd.heap_39 w.params).In h₀) (N : News h₀ L s.heap news) (T : Top p loose mean mg mb h₀) (hk : cs.kind = .function)
    (hd : dp + 2 < recursionLimit) (hu : un + 16 < cLine) (hy : y ≠ 0) (hx1 : Fits x) (hy1 : Fits y)
    (hret : ∀ (r : Rat) (D : Addr) (t t' : Tok) (c : Nat) (h' : Heap) (tk' : Nat), r = Rat.divInt x y → Fr h₀ L h' m → News h₀ L h' ((D, RatO r t t' c) :: news) → (∀ p ∈ news, p.1 < D) → Q (.ref D) { s with heap := h', toks := tk' }) :
      wpAny (model PySem.Challenge.rw_ui0509_04.row.prog w) (ktrTop dp un gd cn cs L a ccd cl outer) (call (.ref 42) [.int x t1, .int y t2]) Q E s := by
  revert X; k_fill; intro X
  refine wpAny_call ?_
  k_dflt (refine' code_def ?k1 ?k2 ?k3 ?k4 ?k5 ?kA ?kF ?kK ?k6 ?k7 ?k8 ?k9 ?kB ?_ ?c2 ?c3 ?c4 ?c5; (case kA => exact rfl); (case kF => exact rfl); (case kK => assumption); (case k1 => k_asm); (case k2 => k_asm); (case k3 => k_asm); (case k4 => k_asm); (case k5 => k_asm); (case k6 => k_is); (case k7 => k_is); (case k8 => ktr_room); (case k9 => first | exact BindsTo.of_eq rfl | exact binds_K (by k_in) rfl (by k_is) rfl rfl rfl); (case c5 => decide); (case kB => exact locs rfl); (case c2 => exact rfl); (case c3 => exact rfl); (case c4 => exact rfl); k_whole; intro g' L' h' FG' F' N' B' X' T'; (try dsimp only); (try k_fold))
  k_steps
  all_goals first
    | exact absurd (by assumption) hy
    | exact fr_end hret (num_p (by assumption) hy (by assumption)) (den_p (by assumption) hy (by assumption)) (by k_asm) (by k_asm) (by assumption)
    | exact fr_end hret (num_n (by assumption) (by assumption)) (den_n (by assumption) (by assumption)) (by k_asm) (by k_asm) (by assumption)
    | exact (Fits.no hy1 (by assumption) (by assumption) (by decide +kernel)).elim
    | exact (Fits.no (Fits.neg hy1) (by assumption) (by assumption) (by decide +kernel)).elim
    | exact (Fits.noA hx1 (by assumption) (by assumption) (by decide +kernel)).elim
    | exact (Fits.noA (Fits.neg hx1) (by assumption) (by assumption) (by decide +kernel)).elim
theorem fits_one : Fits 1 := Fits.of (n := 64) (PySem.intBits_le_64 (by omega) (by omega)) (by decide)
theorem fd_end {h₀ h' : Heap} {L D : Addr} {m : Str → Option Value} {news : List (Addr × Obj)} {s : Shared} {Q : Value → Shared → Prop} {x g : Int} {t t' : Tok} {c tk' : Nat}
    (hret : ∀ (D : Addr) (t t' : Tok) (c : Nat) (h' : Heap) (tk' : Nat), Fr h₀ L h' m → News h₀ L h' ((D, ({ cls := .type "tuple", data := .seq #[.int x t, .int 1 t'] c } : Obj)) :: news) → (∀ p ∈ news, p.1 < D) → Q (.ref D) { s with heap := h', toks := tk' })
    (e : g = ((Int.gcd x 1 : Nat) : Int)) (F : Fr h₀ L h' m) (N : News h₀ L h' ((D, ({ cls := .type "tuple", data := .seq #[.int (x.fdiv g) t, .int (Int.fdiv 1 g) t'] c } : Obj)) :: news)) (hl : ∀ p ∈ news, p.1 < D) : Q (.ref D) { s with heap := h', toks := tk' } := by
  have e1 : g = 1 := by rw [e, Int.gcd_one]; rfl
  subst e1
  rw [Int.fdiv_one, Int.fdiv_one] at N
  exact hret D t t' c h' tk' F N hl
theorem frac_d {w : World} {p : Program} {loose : List Str} {mean : ExcName → Option Value} {mg mb : Str → Option Value} (dp un : Nat) (gd : Option (List Code)) (cn : Str) (cs : Scope) (a : Addr) (ccd : Value) (cl : List (Str × Addr)) (outer : List Env) (A₀ : Around) (base h₀ : Heap) (L : Addr) (m : Str → Option Value) (news : List (Addr × Obj)) (s : Shared) (Q E : Value → Shared → Prop) (x : Int) (t1 : Tok)
    (B : Below A₀ base outer h₀) (F : Fr h₀ L s.heap m) (X : (Mine.hd.heap_39 w.params).In h₀) (N : News h₀ L s.heap news) (T : Top p loose mean mg mb h₀) (hk : cs.kind = .function)
    (hd : dp + 2 < recursionLimit) (hu : un + 16 < cLine) (hx1 : Fits x)
    (hret : ∀ (D : Addr) (t t' : Tok) (c : Nat) (h' : Heap) (tk' : Nat), Fr h₀ L h' m → News h₀ L h' ((D, ({ cls := .type "tuple", data := .seq #[.int x t, .int 1 t'] c } : Obj)) :: news) → (∀ p ∈ news, p.1 < D) → Q (.ref D) { s with heap := h', toks := tk' }) :
      wpAny (model PySem.Challenge.rw_ui0509_04.row.prog w) (ktrTop dp un gd cn cs L a ccd cl outer) (call (.ref 42) [.int x t1]) Q E s := by
  revert X; k_fill; intro X
  refine wpAny_call ?_
  k_dflt (refine' code_def ?k1 ?k2 ?k3 ?k4 ?k5 ?kA ?kF ?kK ?k6 ?k7 ?k8 ?k9 ?kB ?_ ?c2 ?c3 ?c4 ?c5; (case kA => exact rfl); (case kF => exact rfl); (case kK => assumption); (case k1 => k_asm); (case k2 => k_asm); (case k3 => k_asm); (case k4 => k_asm); (case k5 => k_asm); (case k6 => k_is); (case k7 => k_is); (case k8 => ktr_room); (case k9 => first | exact BindsTo.of_eq rfl | exact binds_K (by k_in) rfl (by k_is) rfl rfl rfl); (case c5 => decide); (case kB => exact locs rfl); (case c2 => exact rfl); (case c3 => exact rfl); (case c4 => exact rfl); k_whole; intro g' L' h' FG' F' N' B' X' T'; (try dsimp only); (try k_fold))
  k_steps
  all_goals first
    | exact fd_end hret (by assumption) (by k_asm) (by k_asm) (by assumption)
    | exact (Fits.no fits_one (by assumption) (by assumption) (by decide +kernel)).elim
    | exact (Fits.noA hx1 (by assumption) (by assumption) (by decide +kernel)).elim
theorem frac_use {w : World} {p : Program} {loose : List Str} {mean : ExcName → Option Value} {mg mb : Str → Option Value} {dp un : Nat} {gd : Option (List Code)} {cn : Str} {cs : Scope} {a : Addr} {ccd : Value} {cl : List (Str × Addr)} {outer : List Env} {A₀ : Around} {base h₀ : Heap} {L : Addr} {m : Str → Option Value} {news : List (Addr × Obj)} {s : Shared} {Q E : Value → Shared → Prop} {x y : Int} {t1 t2 : Tok} {nx ny : Nat}
    (B : Below A₀ base outer h₀) (F : Fr h₀ L s.heap m) (X : (Mine.hd.heap_39 w.params).In h₀) (N : News h₀ L s.heap news) (T : Top p loose mean mg mb h₀) (hk : cs.kind = .function)
    (hd : dp + 2 < recursionLimit) (hu : un + 16 < cLine) (hy : y ≠ 0) (hx1 : Builtin.Int.intBits x ≤ nx) (hy1 : Builtin.Int.intBits y ≤ ny) (hnx : nx ≤ 6643) (hny : ny ≤ 6643)
    (hret : ∀ (r : Rat) (D : Addr) (t t' : Tok) (c : Nat) (h' : Heap) (tk' : Nat), r = Rat.divInt x y → Builtin.Int.intBits r.num ≤ nx → Builtin.Int.intBits (r.den : Int) ≤ ny → Fr h₀ L h' m → News h₀ L h' ((D, RatO r t t' c) :: news) → (∀ p ∈ news, p.1 < D) → Q (.ref D) { s with heap := h', toks := tk' }) :
      wpAny (model PySem.Challenge.rw_ui0509_04.row.prog w) (ktrTop dp un gd cn cs L a ccd cl outer) (call (.ref 42) [.int x t1, .int y t2]) Q E s :=
  frac_c dp un gd cn cs a ccd cl outer A₀ base h₀ L m news s Q E x y t1 t2 B F X N T hk hd hu hy (Fits.of hx1 hnx) (Fits.of hy1 hny) fun r D t t' c h' tk' e F' N' l => hret r D t t' c h' tk' e (e ▸ bits_num hx1) (e ▸ bits_den hy hy1) F' N' l
theorem r_one_num (x : Int) : (Rat.divInt x 1).num = x := by rw [r_int]; rfl
theorem r_one_den (x : Int) : (Rat.divInt x 1).den = 1 := by rw [r_int]; rfl
theorem frac_one {w : World} {p : Program} {loose : List Str} {mean : ExcName → Option Value} {mg mb : Str → Option Value} {dp un : Nat} {gd : Option (List Code)} {cn : Str} {cs : Scope} {a : Addr} {ccd : Value} {cl : List (Str × Addr)} {outer : List Env} {A₀ : Around} {base h₀ : Heap} {L : Addr} {m : Str → Option Value} {news : List (Addr × Obj)} {s : Shared} {Q E : Value → Shared → Prop} {x : Int} {t1 t2 : Tok} {nx : Nat}
    (B : Below A₀ base outer h₀) (F : Fr h₀ L s.heap m) (X : (Mine.hd.heap_39 w.params).In h₀) (N : News h₀ L s.heap news) (T : Top p loose mean mg mb h₀) (hk : cs.kind = .function)
    (hd : dp + 2 < recursionLimit) (hu : un + 16 < cLine) (hx1 : Builtin.Int.intBits x ≤ nx) (hnx : nx ≤ 6643)
    (hret : ∀ (D : Addr) (t t' : Tok) (c : Nat) (h' : Heap) (tk' : Nat), Fr h₀ L h' m → News h₀ L h' ((D, ({ cls := .type "tuple", data := .seq #[.int x t, .int 1 t'] c } : Obj)) :: news) → (∀ p ∈ news, p.1 < D) → Q (.ref D) { s with heap := h', toks := tk' }) :
      wpAny (model PySem.Challenge.rw_ui0509_04.row.prog w) (ktrTop dp un gd cn cs L a ccd cl outer) (call (.ref 42) [.int x t1, .int 1 t2]) Q E s :=
  frac_c dp un gd cn cs a ccd cl outer A₀ base h₀ L m news s Q E x 1 t1 t2 B F X N T hk hd hu (by decide) (Fits.of hx1 hnx) (Fits.of (n := 64) (PySem.intBits_le_64 (by omega) (by omega)) (by decide)) fun r D t t' c h' tk' e F' N' l => hret D t t' c h' tk' F' (by
    subst e
    unfold RatO at N'
    rw [r_one_num, r_one_den] at N'
    exact N') l
theorem frac_dflt {w : World} {p : Program} {loose : List Str} {mean : ExcName → Option Value} {mg mb : Str → Option Value} {dp un : Nat} {gd : Option (List Code)} {cn : Str} {cs : Scope} {a : Addr} {ccd : Value} {cl : List (Str × Addr)} {outer : List Env} {A₀ : Around} {base h₀ : Heap} {L : Addr} {m : Str → Option Value} {news : List (Addr × Obj)} {s : Shared} {Q E : Value → Shared → Prop} {x : Int} {t1 : Tok} {nx : Nat}
    (B : Below A₀ base outer h₀) (F : Fr h₀ L s.heap m) (X : (Mine.hd.heap_39 w.params).In h₀) (N : News h₀ L s.heap news) (T : Top p loose mean mg mb h₀) (hk : cs.kind = .function)
    (hd : dp + 2 < recursionLimit) (hu : un + 16 < cLine) (hx1 : Builtin.Int.intBits x ≤ nx) (hnx : nx ≤ 6643)
    (hret : ∀ (D : Addr) (t t' : Tok) (c : Nat) (h' : Heap) (tk' : Nat), Fr h₀ L h' m → News h₀ L h' ((D, ({ cls := .type "tuple", data := .seq #[.int x t, .int 1 t'] c } : Obj)) :: news) → (∀ p ∈ news, p.1 < D) → Q (.ref D) { s with heap := h', toks := tk' }) :
      wpAny (model PySem.Challenge.rw_ui0509_04.row.prog w) (ktrTop dp un gd cn cs L a ccd cl outer) (call (.ref 42) [.int x t1]) Q E s :=
  frac_d dp un gd cn cs a ccd cl outer A₀ base h₀ L m news s Q E x t1 B F X N T hk hd hu (Fits.of hx1 hnx) hret
abbrev T2 (x y : Int) (t t' : Tok) (c : Nat) : Obj := { cls := .type "tuple", data := .seq #[.int x t, .int y t'] c }
theorem tup_g {prog : Program} {w : World} {A : Around} {E : Value → Shared → Prop} {s : Shared} {h₀ : Heap} {L D : Addr} {m : Str → Option Value} {lo : Obj} {value slice : Expr} {l : List Value} {n : Nat} {k : Int} {u : Tok} {j : Nat} {x : Value} {Q : Value → Shared → Prop}
    (F : Fr h₀ L s.heap m) (e : h₀.get? D = some lo) (hc : lo.cls = .type "tuple") (hd : lo.data = .seq l.toArray n) (hlo : -(2 ^ 63) ≤ k) (hhi : k < 2 ^ 63) (hj : seqIndex? k l.length = some j) (hx : l[j]? = some x) (h : Q x s)
    (hs : subscripted slice false (.ref D) (.int k u) = operate [.ref D, .int k u] (getItem (.ref D) (.int k u))) (hg : ∀ r, letTemporaryGo value (.ref D) r = pure ()) :
    wpAny (model prog w) A (subscriptTail value slice (.ref D) (.int k u)) Q E s := item_tupleL ⟨lo, F.keep _ _ e, hc, n, hd⟩ hlo hhi hj hx h hs hg
theorem bits_one : Builtin.Int.intBits 1 ≤ 1 := by decide
local macro_rules | `(tactic| walk_at "call ref") => `(tactic| (k_here; (with_reducible show wpAny _ _ (call (Value.ref 42) [Value.int _ _, Value.int _ _]) _ _ _); k_dflt (refine' frac_c _ _ _ _ _ _ _ _ _ _ _ _ _ _ _ _ _ _ _ _ _ _ ?k1 ?k2 ?k3 ?k4 ?k5 ?k6 ?k7 ?k8 ?k9 ?k10 ?k11 ?_; (case k1 => k_asm); (case k2 => k_asm); (case k3 => k_asm); (case k4 => k_asm); (case k5 => k_asm); (case k6 => first | exact rfl | assumption); (case k7 => ktr_room); (case k8 => ktr_units); (case k9 => assumption); (case k10 => assumption); (case k11 => assumption); k_whole); intro r' D' t' u' c' h' tk' rE' F' N' l1; (try k_sweep)))
local macro_rules | `(tactic| walk_at "binaryOp Mult int int") => `(tactic| (with_reducible refine mul_int ?_ ?mo; (case mo => assumption)))
local macro_rules | `(tactic| walk_at "subscriptTail") => `(tactic| (k_here; (with_reducible show wpAny _ _ (subscriptTail _ _ (Value.ref _) (Value.int _ _)) _ _ _); k_dflt (refine' tup_g ?k1 ?k2 ?k3 ?k4 ?k5 ?k6 ?k7 ?k8 ?_ ?k9 ?k10; (case k1 => k_asm); (case k2 => with_reducible assumption); (case k3 => exact rfl); (case k4 => exact rfl); (case k5 => decide); (case k6 => decide); (case k7 => exact rfl); (case k8 => exact rfl); (case k9 => with_unfolding_all rfl); (case k10 => (intro _; with_unfolding_all rfl)); k_whole)))
theorem plus_c {w : World} {p : Program} {loose : List Str} {mean : ExcName → Option Value} {mg mb : Str → Option Value} {dp un : Nat} {gd : Option (List Code)} {cn : Str} {cs : Scope} {a : Addr} {ccd : Value} {cl : List (Str × Addr)} {outer : List Env} {A₀ : Around} {base h₀ : Heap} {L : Addr} {m : Str → Option Value} {news : List (Addr × Obj)} {s : Shared} {Q E : Value → Shared → Prop} {D1 D2 : Addr} {x1 y1 x2 y2 : Int} {t1 t1' t2 t2' : Tok} {c1 c2 : Nat}
    (B : Below A₀ base outer h₀) (F : Fr h₀ L s.heap m) (X : (Mine.hd.heap_39 w.params).In h₀) (N : News h₀ L s.heap news) (T : Top p loose mean mg mb h₀) (hk : cs.kind = .function) (e1 : s.heap.get? D1 = some (T2 x1 y1 t1 t1' c1)) (e2 : s.heap.get? D2 = some (T2 x2 y2 t2 t2' c2))
    (hd : dp + 3 < recursionLimit) (hu : un + 24 < cLine) (nz : y1 * y2 ≠ 0) (m0 : IntMulOk x1 y2) (m1 : IntMulOk x2 y1) (m2 : IntMulOk y1 y2) (f1 : Fits (x1 * y2 + x2 * y1)) (f2 : Fits (y1 * y2))
    (hret : ∀ (r : Rat) (D : Addr) (t t' : Tok) (c : Nat) (h' : Heap) (tk' : Nat), r = Rat.divInt (x1 * y2 + x2 * y1) (y1 * y2) → Fr h₀ L h' m → News h₀ L h' ((D, RatO r t t' c) :: news) → (∀ p ∈ news, p.1 ≠ D) → Q (.ref D) { s with heap := h', toks := tk' }) :
    wpAny (model PySem.Challenge.rw_ui0509_04.row.prog w) (ktrTop dp un gd cn cs L a ccd cl outer) (call (.ref 49) [.ref D1, .ref D2]) Q E s := by
  w_top off
  revert X; k_fill; intro X
  refine wpAny_call ?_
  k_dflt (refine' code_need [] ?k1 ?k2 ?k3 ?k4 ?k5 ?kA ?kF ?kK ?k6 ?k7 ?k8 ?k9 ?kB ?kN ?_ ?c2 ?c3 ?c4 ?c5; (case kA => exact rfl); (case kF => exact rfl); (case kK => assumption); (case k1 => k_asm); (case k2 => k_asm); (case k3 => k_asm); (case k4 => k_asm); (case k5 => k_asm); (case k6 => k_is); (case k7 => k_is); (case k8 => ktr_room); (case k9 => first | exact BindsTo.of_eq rfl | exact binds_K (by k_in) rfl (by k_is) rfl rfl rfl); (case c5 => decide); (case kB => exact locs rfl); (case kN => exact fun _ h => nomatch h); (case c2 => exact rfl); (case c3 => exact rfl); (case c4 => exact rfl); k_whole; intro g' L' h' tk0 FG' F' N' B' X' T' hG'; (try dsimp only); (try k_fold))
  replace e1 := hG' _ _ e1 (by simp)
  replace e2 := hG' _ _ e2 (by simp)
  k_steps
  all_goals first | (refine leaveN_ (by k_asm) (by k_asm) ?_; intro kF kN kR kD; (try dsimp only); exact hret _ _ _ _ _ _ _ (by assumption) kF (news_cons kN (by k_mem) (news_all kR)) (ne_all kD (List.mem_cons_self ..)))
theorem minus_c {w : World} {p : Program} {loose : List Str} {mean : ExcName → Option Value} {mg mb : Str → Option Value} {dp un : Nat} {gd : Option (List Code)} {cn : Str} {cs : Scope} {a : Addr} {ccd : Value} {cl : List (Str × Addr)} {outer : List Env} {A₀ : Around} {base h₀ : Heap} {L : Addr} {m : Str → Option Value} {news : List (Addr × Obj)} {s : Shared} {Q E : Value → Shared → Prop} {D1 D2 : Addr} {x1 y1 x2 y2 : Int} {t1 t1' t2 t2' : Tok} {c1 c2 : Nat}
    (B : Below A₀ base outer h₀) (F : Fr h₀ L s.heap m) (X : (Mine.hd.heap_39 w.params).In h₀) (N : News h₀ L s.heap news) (T : Top p loose mean mg mb h₀) (hk : cs.kind = .function) (e1 : s.heap.get? D1 = some (T2 x1 y1 t1 t1' c1)) (e2 : s.heap.get? D2 = some (T2 x2 y2 t2 t2' c2))
    (hd : dp + 3 < recursionLimit) (hu : un + 24 < cLine) (nz : y1 * y2 ≠ 0) (m0 : IntMulOk x1 y2) (m1 : IntMulOk x2 y1) (m2 : IntMulOk y1 y2) (f1 : Fits (x1 * y2 - x2 * y1)) (f2 : Fits (y1 * y2))
    (hret : ∀ (r : Rat) (D : Addr) (t t' : Tok) (c : Nat) (h' : Heap) (tk' : Nat), r = Rat.divInt (x1 * y2 - x2 * y1) (y1 * y2) → Fr h₀ L h' m → News h₀ L h' ((D, RatO r t t' c) :: news) → (∀ p ∈ news, p.1 ≠ D) → Q (.ref D) { s with heap := h', toks := tk' }) :
    wpAny (model PySem.Challenge.rw_ui0509_04.row.prog w) (ktrTop dp un gd cn cs L a ccd cl outer) (call (.ref 56) [.ref D1, .ref D2]) Q E s := by
  w_top off
  revert X; k_fill; intro X
  refine wpAny_call ?_
  k_dflt (refine' code_need [] ?k1 ?k2 ?k3 ?k4 ?k5 ?kA ?kF ?kK ?k6 ?k7 ?k8 ?k9 ?kB ?kN ?_ ?c2 ?c3 ?c4 ?c5; (case kA => exact rfl); (case kF => exact rfl); (case kK => assumption); (case k1 => k_asm); (case k2 => k_asm); (case k3 => k_asm); (case k4 => k_asm); (case k5 => k_asm); (case k6 => k_is); (case k7 => k_is); (case k8 => ktr_room); (case k9 => first | exact BindsTo.of_eq rfl | exact binds_K (by k_in) rfl (by k_is) rfl rfl rfl); (case c5 => decide); (case kB => exact locs rfl); (case kN => exact fun _ h => nomatch h); (case c2 => exact rfl); (case c3 => exact rfl); (case c4 => exact rfl); k_whole; intro g' L' h' tk0 FG' F' N' B' X' T' hG'; (try dsimp only); (try k_fold))
  replace e1 := hG' _ _ e1 (by simp)
  replace e2 := hG' _ _ e2 (by simp)
  k_steps
  all_goals first | (refine leaveN_ (by k_asm) (by k_asm) ?_; intro kF kN kR kD; (try dsimp only); exact hret _ _ _ _ _ _ _ (by assumption) kF (news_cons kN (by k_mem) (news_all kR)) (ne_all kD (List.mem_cons_self ..)))
theorem times_c {w : World} {p : Program} {loose : List Str} {mean : ExcName → Option Value} {mg mb : Str → Option Value} {dp un : Nat} {gd : Option (List Code)} {cn : Str} {cs : Scope} {a : Addr} {ccd : Value} {cl : List (Str × Addr)} {outer : List Env} {A₀ : Around} {base h₀ : Heap} {L : Addr} {m : Str → Option Value} {news : List (Addr × Obj)} {s : Shared} {Q E : Value → Shared → Prop} {D1 D2 : Addr} {x1 y1 x2 y2 : Int} {t1 t1' t2 t2' : Tok} {c1 c2 : Nat}
    (B : Below A₀ base outer h₀) (F : Fr h₀ L s.heap m) (X : (Mine.hd.heap_39 w.params).In h₀) (N : News h₀ L s.heap news) (T : Top p loose mean mg mb h₀) (hk : cs.kind = .function) (e1 : s.heap.get? D1 = some (T2 x1 y1 t1 t1' c1)) (e2 : s.heap.get? D2 = some (T2 x2 y2 t2 t2' c2))
    (hd : dp + 3 < recursionLimit) (hu : un + 24 < cLine) (nz : y1 * y2 ≠ 0) (m0 : IntMulOk x1 x2) (m1 : IntMulOk y1 y2) (f1 : Fits (x1 * x2)) (f2 : Fits (y1 * y2))
    (hret : ∀ (r : Rat) (D : Addr) (t t' : Tok) (c : Nat) (h' : Heap) (tk' : Nat), r = Rat.divInt (x1 * x2) (y1 * y2) → Fr h₀ L h' m → News h₀ L h' ((D, RatO r t t' c) :: news) → (∀ p ∈ news, p.1 ≠ D) → Q (.ref D) { s with heap := h', toks := tk' }) :
    wpAny (model PySem.Challenge.rw_ui0509_04.row.prog w) (ktrTop dp un gd cn cs L a ccd cl outer) (call (.ref 63) [.ref D1, .ref D2]) Q E s := by
  w_top off
  revert X; k_fill; intro X
  refine wpAny_call ?_
  k_dflt (refine' code_need [] ?k1 ?k2 ?k3 ?k4 ?k5 ?kA ?kF ?kK ?k6 ?k7 ?k8 ?k9 ?kB ?kN ?_ ?c2 ?c3 ?c4 ?c5; (case kA => exact rfl); (case kF => exact rfl); (case kK => assumption); (case k1 => k_asm); (case k2 => k_asm); (case k3 => k_asm); (case k4 => k_asm); (case k5 => k_asm); (case k6 => k_is); (case k7 => k_is); (case k8 => ktr_room); (case k9 => first | exact BindsTo.of_eq rfl | exact binds_K (by k_in) rfl (by k_is) rfl rfl rfl); (case c5 => decide); (case kB => exact locs rfl); (case kN => exact fun _ h => nomatch h); (case c2 => exact rfl); (case c3 => exact rfl); (case c4 => exact rfl); k_whole; intro g' L' h' tk0 FG' F' N' B' X' T' hG'; (try dsimp only); (try k_fold))
  replace e1 := hG' _ _ e1 (by simp)
  replace e2 := hG' _ _ e2 (by simp)
  k_steps
  all_goals first | (refine leaveN_ (by k_asm) (by k_asm) ?_; intro kF kN kR kD; (try dsimp only); exact hret _ _ _ _ _ _ _ (by assumption) kF (news_cons kN (by k_mem) (news_all kR)) (ne_all kD (List.mem_cons_self ..)))
theorem over_c {w : World} {p : Program} {loose : List Str} {mean : ExcName → Option Value} {mg mb : Str → Option Value} {dp un : Nat} {gd : Option (List Code)} {cn : Str} {cs : Scope} {a : Addr} {ccd : Value} {cl : List (Str × Addr)} {outer : List Env} {A₀ : Around} {base h₀ : Heap} {L : Addr} {m : Str → Option Value} {news : List (Addr × Obj)} {s : Shared} {Q E : Value → Shared → Prop} {D1 D2 : Addr} {x1 y1 x2 y2 : Int} {t1 t1' t2 t2' : Tok} {c1 c2 : Nat}
    (B : Below A₀ base outer h₀) (F : Fr h₀ L s.heap m) (X : (Mine.hd.heap_39 w.params).In h₀) (N : News h₀ L s.heap news) (T : Top p loose mean mg mb h₀) (hk : cs.kind = .function) (e1 : s.heap.get? D1 = some (T2 x1 y1 t1 t1' c1)) (e2 : s.heap.get? D2 = some (T2 x2 y2 t2 t2' c2))
    (hd : dp + 3 < recursionLimit) (hu : un + 24 < cLine) (nz : y1 * x2 ≠ 0) (hz : x2 ≠ 0) (m0 : IntMulOk x1 y2) (m1 : IntMulOk y1 x2) (f1 : Fits (x1 * y2)) (f2 : Fits (y1 * x2))
    (hret : ∀ (r : Rat) (D : Addr) (t t' : Tok) (c : Nat) (h' : Heap) (tk' : Nat), r = Rat.divInt (x1 * y2) (y1 * x2) → Fr h₀ L h' m → News h₀ L h' ((D, RatO r t t' c) :: news) → (∀ p ∈ news, p.1 ≠ D) → Q (.ref D) { s with heap := h', toks := tk' }) :
    wpAny (model PySem.Challenge.rw_ui0509_04.row.prog w) (ktrTop dp un gd cn cs L a ccd cl outer) (call (.ref 70) [.ref D1, .ref D2]) Q E s := by
  w_top off
  revert X; k_fill; intro X
  refine wpAny_call ?_
  k_dflt (refine' code_need [] ?k1 ?k2 ?k3 ?k4 ?k5 ?kA ?kF ?kK ?k6 ?k7 ?k8 ?k9 ?kB ?kN ?_ ?c2 ?c3 ?c4 ?c5; (case kA => exact rfl); (case kF => exact rfl); (case kK => assumption); (case k1 => k_asm); (case k2 => k_asm); (case k3 => k_asm); (case k4 => k_asm); (case k5 => k_asm); (case k6 => k_is); (case k7 => k_is); (case k8 => ktr_room); (case k9 => first | exact BindsTo.of_eq rfl | exact binds_K (by k_in) rfl (by k_is) rfl rfl rfl); (case c5 => decide); (case kB => exact locs rfl); (case kN => exact fun _ h => nomatch h); (case c2 => exact rfl); (case c3 => exact rfl); (case c4 => exact rfl); k_whole; intro g' L' h' tk0 FG' F' N' B' X' T' hG'; (try dsimp only); (try k_fold))
  replace e1 := hG' _ _ e1 (by simp)
  replace e2 := hG' _ _ e2 (by simp)
  k_steps
  all_goals first | exact absurd (by assumption) hz | (refine leaveN_ (by k_asm) (by k_asm) ?_; intro kF kN kR kD; (try dsimp only); exact hret _ _ _ _ _ _ _ (by assumption) kF (news_cons kN (by k_mem) (news_all kR)) (ne_all kD (List.mem_cons_self ..)))
theorem plus_u {w : World} {p : Program} {loose : List Str} {mean : ExcName → Option Value} {mg mb : Str → Option Value} {dp un : Nat} {gd : Option (List Code)} {cn : Str} {cs : Scope} {a : Addr} {ccd : Value} {cl : List (Str × Addr)} {outer : List Env} {A₀ : Around} {base h₀ : Heap} {L : Addr} {m : Str → Option Value} {news : List (Addr × Obj)} {s : Shared} {Q E : Value → Shared → Prop} {D1 D2 : Addr} {x1 y1 x2 y2 : Int} {t1 t1' t2 t2' : Tok} {c1 c2 : Nat} {n1 k1 n2 k2 : Nat}
    (B : Below A₀ base outer h₀) (F : Fr h₀ L s.heap m) (X : (Mine.hd.heap_39 w.params).In h₀) (N : News h₀ L s.heap news) (T : Top p loose mean mg mb h₀) (hk : cs.kind = .function) (e1 : s.heap.get? D1 = some (T2 x1 y1 t1 t1' c1)) (e2 : s.heap.get? D2 = some (T2 x2 y2 t2 t2' c2))
    (hd : dp + 3 < recursionLimit) (hu : un + 24 < cLine) (hy : y1 ≠ 0) (hz : y2 ≠ 0) (b1 : Builtin.Int.intBits x1 ≤ n1) (b2 : Builtin.Int.intBits y1 ≤ k1) (b3 : Builtin.Int.intBits x2 ≤ n2) (b4 : Builtin.Int.intBits y2 ≤ k2) (hbu : max (n1 + k2) (n2 + k1) + 1 ≤ 6643) (hbl : k1 + k2 ≤ 6643)
    (hret : ∀ (r : Rat) (D : Addr) (t t' : Tok) (c : Nat) (h' : Heap) (tk' : Nat), r = Rat.divInt (x1 * y2 + x2 * y1) (y1 * y2) → Builtin.Int.intBits r.num ≤ max (n1 + k2) (n2 + k1) + 1 → Builtin.Int.intBits (r.den : Int) ≤ k1 + k2 → Fr h₀ L h' m → News h₀ L h' ((D, RatO r t t' c) :: news) → (∀ p ∈ news, p.1 ≠ D) → Q (.ref D) { s with heap := h', toks := tk' }) :
    wpAny (model PySem.Challenge.rw_ui0509_04.row.prog w) (ktrTop dp un gd cn cs L a ccd cl outer) (call (.ref 49) [.ref D1, .ref D2]) Q E s :=
  plus_c B F X N T hk e1 e2 hd hu (nzmul hy hz) (mulOk_of_bits b1 b4 (by omega)) (mulOk_of_bits b3 b2 (by omega)) (mulOk_of_bits b2 b4 (by omega)) (Fits.of (bits_add (bits_mul b1 b4) (bits_mul b3 b2)) hbu) (Fits.of (bits_mul b2 b4) hbl) fun r D t t' c h' tk' e F' N' l => hret r D t t' c h' tk' e (e ▸ bits_num (bits_add (bits_mul b1 b4) (bits_mul b3 b2))) (e ▸ bits_den (nzmul hy hz) (bits_mul b2 b4)) F' N' l
theorem minus_u {w : World} {p : Program} {loose : List Str} {mean : ExcName → Option Value} {mg mb : Str → Option Value} {dp un : Nat} {gd : Option (List Code)} {cn : Str} {cs : Scope} {a : Addr} {ccd : Value} {cl : List (Str × Addr)} {outer : List Env} {A₀ : Around} {base h₀ : Heap} {L : Addr} {m : Str → Option Value} {news : List (Addr × Obj)} {s : Shared} {Q E : Value → Shared → Prop} {D1 D2 : Addr} {x1 y1 x2 y2 : Int} {t1 t1' t2 t2' : Tok} {c1 c2 : Nat} {n1 k1 n2 k2 : Nat}
    (B : Below A₀ base outer h₀) (F : Fr h₀ L s.heap m) (X : (Mine.hd.heap_39 w.params).In h₀) (N : News h₀ L s.heap news) (T : Top p loose mean mg mb h₀) (hk : cs.kind = .function) (e1 : s.heap.get? D1 = some (T2 x1 y1 t1 t1' c1)) (e2 : s.heap.get? D2 = some (T2 x2 y2 t2 t2' c2))
    (hd : dp + 3 < recursionLimit) (hu : un + 24 < cLine) (hy : y1 ≠ 0) (hz : y2 ≠ 0) (b1 : Builtin.Int.intBits x1 ≤ n1) (b2 : Builtin.Int.intBits y1 ≤ k1) (b3 : Builtin.Int.intBits x2 ≤ n2) (b4 : Builtin.Int.intBits y2 ≤ k2) (hbu : max (n1 + k2) (n2 + k1) + 1 ≤ 6643) (hbl : k1 + k2 ≤ 6643)
    (hret : ∀ (r : Rat) (D : Addr) (t t' : Tok) (c : Nat) (h' : Heap) (tk' : Nat), r = Rat.divInt (x1 * y2 - x2 * y1) (y1 * y2) → Builtin.Int.intBits r.num ≤ max (n1 + k2) (n2 + k1) + 1 → Builtin.Int.intBits (r.den : Int) ≤ k1 + k2 → Fr h₀ L h' m → News h₀ L h' ((D, RatO r t t' c) :: news) → (∀ p ∈ news, p.1 ≠ D) → Q (.ref D) { s with heap := h', toks := tk' }) :
    wpAny (model PySem.Challenge.rw_ui0509_04.row.prog w) (ktrTop dp un gd cn cs L a ccd cl outer) (call (.ref 56) [.ref D1, .ref D2]) Q E s :=
  minus_c B F X N T hk e1 e2 hd hu (nzmul hy hz) (mulOk_of_bits b1 b4 (by omega)) (mulOk_of_bits b3 b2 (by omega)) (mulOk_of_bits b2 b4 (by omega)) (Fits.of (bits_sub (bits_mul b1 b4) (bits_mul b3 b2)) hbu) (Fits.of (bits_mul b2 b4) hbl) fun r D t t' c h' tk' e F' N' l => hret r D t t' c h' tk' e (e ▸ bits_num (bits_sub (bits_mul b1 b4) (bits_mul b3 b2))) (e ▸ bits_den (nzmul hy hz) (bits_mul b2 b4)) F' N' l
theorem times_u {w : World} {p : Program} {loose : List Str} {mean : ExcName → Option Value} {mg mb : Str → Option Value} {dp un : Nat} {gd : Option (List Code)} {cn : Str} {cs : Scope} {a : Addr} {ccd : Value} {cl : List (Str × Addr)} {outer : List Env} {A₀ : Around} {base h₀ : Heap} {L : Addr} {m : Str → Option Value} {news : List (Addr × Obj)} {s : Shared} {Q E : Value → Shared → Prop} {D1 D2 : Addr} {x1 y1 x2 y2 : Int} {t1 t1' t2 t2' : Tok} {c1 c2 : Nat} {n1 k1 n2 k2 : Nat}
    (B : Below A₀ base outer h₀) (F : Fr h₀ L s.heap m) (X : (Mine.hd.heap_39 w.params).In h₀) (N : News h₀ L s.heap news) (T : Top p loose mean mg mb h₀) (hk : cs.kind = .function) (e1 : s.heap.get? D1 = some (T2 x1 y1 t1 t1' c1)) (e2 : s.heap.get? D2 = some (T2 x2 y2 t2 t2' c2))
    (hd : dp + 3 < recursionLimit) (hu : un + 24 < cLine) (hy : y1 ≠ 0) (hz : y2 ≠ 0) (b1 : Builtin.Int.intBits x1 ≤ n1) (b2 : Builtin.Int.intBits y1 ≤ k1) (b3 : Builtin.Int.intBits x2 ≤ n2) (b4 : Builtin.Int.intBits y2 ≤ k2) (hbu : n1 + n2 ≤ 6643) (hbl : k1 + k2 ≤ 6643)
    (hret : ∀ (r : Rat) (D : Addr) (t t' : Tok) (c : Nat) (h' : Heap) (tk' : Nat), r = Rat.divInt (x1 * x2) (y1 * y2) → Builtin.Int.intBits r.num ≤ n1 + n2 → Builtin.Int.intBits (r.den : Int) ≤ k1 + k2 → Fr h₀ L h' m → News h₀ L h' ((D, RatO r t t' c) :: news) → (∀ p ∈ news, p.1 ≠ D) → Q (.ref D) { s with heap := h', toks := tk' }) :
    wpAny (model PySem.Challenge.rw_ui0509_04.row.prog w) (ktrTop dp un gd cn cs L a ccd cl outer) (call (.ref 63) [.ref D1, .ref D2]) Q E s :=
  times_c B F X N T hk e1 e2 hd hu (nzmul hy hz) (mulOk_of_bits b1 b3 (by omega)) (mulOk_of_bits b2 b4 (by omega)) (Fits.of (bits_mul b1 b3) hbu) (Fits.of (bits_mul b2 b4) hbl) fun r D t t' c h' tk' e F' N' l => hret r D t t' c h' tk' e (e ▸ bits_num (bits_mul b1 b3)) (e ▸ bits_den (nzmul hy hz) (bits_mul b2 b4)) F' N' l
theorem over_u {w : World} {p : Program} {loose : List Str} {mean : ExcName → Option Value} {mg mb : Str → Option Value} {dp un : Nat} {gd : Option (List Code)} {cn : Str} {cs : Scope} {a : Addr} {ccd : Value} {cl : List (Str × Addr)} {outer : List Env} {A₀ : Around} {base h₀ : Heap} {L : Addr} {m : Str → Option Value} {news : List (Addr × Obj)} {s : Shared} {Q E : Value → Shared → Prop} {D1 D2 : Addr} {x1 y1 x2 y2 : Int} {t1 t1' t2 t2' : Tok} {c1 c2 : Nat} {n1 k1 n2 k2 : Nat}
    (B : Below A₀ base outer h₀) (F : Fr h₀ L s.heap m) (X : (Mine.hd.heap_39 w.params).In h₀) (N : News h₀ L s.heap news) (T : Top p loose mean mg mb h₀) (hk : cs.kind = .function) (e1 : s.heap.get? D1 = some (T2 x1 y1 t1 t1' c1)) (e2 : s.heap.get? D2 = some (T2 x2 y2 t2 t2' c2))
    (hd : dp + 3 < recursionLimit) (hu : un + 24 < cLine) (hy : y1 ≠ 0) (hz : x2 ≠ 0) (b1 : Builtin.Int.intBits x1 ≤ n1) (b2 : Builtin.Int.intBits y1 ≤ k1) (b3 : Builtin.Int.intBits x2 ≤ n2) (b4 : Builtin.Int.intBits y2 ≤ k2) (hbu : n1 + k2 ≤ 6643) (hbl : k1 + n2 ≤ 6643)
    (hret : ∀ (r : Rat) (D : Addr) (t t' : Tok) (c : Nat) (h' : Heap) (tk' : Nat), r = Rat.divInt (x1 * y2) (y1 * x2) → Builtin.Int.intBits r.num ≤ n1 + k2 → Builtin.Int.intBits (r.den : Int) ≤ k1 + n2 → Fr h₀ L h' m → News h₀ L h' ((D, RatO r t t' c) :: news) → (∀ p ∈ news, p.1 ≠ D) → Q (.ref D) { s with heap := h', toks := tk' }) :
    wpAny (model PySem.Challenge.rw_ui0509_04.row.prog w) (ktrTop dp un gd cn cs L a ccd cl outer) (call (.ref 70) [.ref D1, .ref D2]) Q E s :=
  over_c B F X N T hk e1 e2 hd hu (nzmul hy hz) hz (mulOk_of_bits b1 b4 (by omega)) (mulOk_of_bits b2 b3 (by omega)) (Fits.of (bits_mul b1 b4) hbu) (Fits.of (bits_mul b2 b3) hbl) fun r D t t' c h' tk' e F' N' l => hret r D t t' c h' tk' e (e ▸ bits_num (bits_mul b1 b4)) (e ▸ bits_den (nzmul hy hz) (bits_mul b2 b3)) F' N' l
structure Bd (n : Nat) (r : Rat) : Prop where
  num : Builtin.Int.intBits r.num ≤ n
  den : Builtin.Int.intBits (r.den : Int) ≤ n
theorem Bd.mono {n k : Nat} {r : Rat} (h : Bd n r) (hk : n ≤ k) : Bd k r := ⟨Nat.le_trans h.num hk, Nat.le_trans h.den hk⟩
theorem Bd.int {n : Nat} {x : Int} (h : Builtin.Int.intBits x ≤ n) (h1 : 1 ≤ n) : Bd n (x : Rat) := ⟨h, Nat.le_trans bits_one h1⟩
theorem bits_zero : Builtin.Int.intBits 0 ≤ 1 := by decide
theorem Bd.zero {n : Nat} (h : 1 ≤ n) : Bd n (0 : Rat) := Bd.int (x := 0) (Nat.le_trans bits_zero h) h
theorem nznum {r : Rat} (h : r ≠ 0) : r.num ≠ 0 := fun e => h (Rat.num_eq_zero.mp e)
theorem plus_r {w : World} {p : Program} {loose : List Str} {mean : ExcName → Option Value} {mg mb : Str → Option Value} {dp un : Nat} {gd : Option (List Code)} {cn : Str} {cs : Scope} {a : Addr} {ccd : Value} {cl : List (Str × Addr)} {outer : List Env} {A₀ : Around} {base h₀ : Heap} {L : Addr} {m : Str → Option Value} {news : List (Addr × Obj)} {s : Shared} {Q E : Value → Shared → Prop} {D1 D2 : Addr} {r1 r2 : Rat} {t1 t1' t2 t2' : Tok} {c1 c2 n k : Nat}
    (B : Below A₀ base outer h₀) (F : Fr h₀ L s.heap m) (X : (Mine.hd.heap_39 w.params).In h₀) (N : News h₀ L s.heap news) (T : Top p loose mean mg mb h₀) (hk : cs.kind = .function) (e1 : s.heap.get? D1 = some (RatO r1 t1 t1' c1)) (e2 : s.heap.get? D2 = some (RatO r2 t2 t2' c2))
    (hd : dp + 3 < recursionLimit) (hu : un + 24 < cLine) (b1 : Bd n r1) (b2 : Bd k r2) (hb : n + k + 1 ≤ 6643)
    (hret : ∀ (D : Addr) (t t' : Tok) (c : Nat) (h' : Heap) (tk' : Nat), Bd (n + k + 1) (r1 + r2) → Fr h₀ L h' m → News h₀ L h' ((D, RatO (r1 + r2) t t' c) :: news) → (∀ p ∈ news, p.1 ≠ D) → Q (.ref D) { s with heap := h', toks := tk' }) :
    wpAny (model PySem.Challenge.rw_ui0509_04.row.prog w) (ktrTop dp un gd cn cs L a ccd cl outer) (call (.ref 49) [.ref D1, .ref D2]) Q E s :=
  plus_u B F X N T hk e1 e2 hd hu (nzden r1) (nzden r2) b1.num b1.den b2.num b2.den (by omega) (by omega) fun r D t t' c h' tk' e bn bd F' N' l => by
    have e' : r = r1 + r2 := e.trans (r_plus r1 r2)
    subst e'
    exact hret D t t' c h' tk' ⟨Nat.le_trans bn (by omega), Nat.le_trans bd (by omega)⟩ F' N' l
theorem minus_r {w : World} {p : Program} {loose : List Str} {mean : ExcName → Option Value} {mg mb : Str → Option Value} {dp un : Nat} {gd : Option (List Code)} {cn : Str} {cs : Scope} {a : Addr} {ccd : Value} {cl : List (Str × Addr)} {outer : List Env} {A₀ : Around} {base h₀ : Heap} {L : Addr} {m : Str → Option Value} {news : List (Addr × Obj)} {s : Shared} {Q E : Value → Shared → Prop} {D1 D2 : Addr} {r1 r2 : Rat} {t1 t1' t2 t2' : Tok} {c1 c2 n k : Nat}
    (B : Below A₀ base outer h₀) (F : Fr h₀ L s.heap m) (X : (Mine.hd.heap_39 w.params).In h₀) (N : News h₀ L s.heap news) (T : Top p loose mean mg mb h₀) (hk : cs.kind = .function) (e1 : s.heap.get? D1 = some (RatO r1 t1 t1' c1)) (e2 : s.heap.get? D2 = some (RatO r2 t2 t2' c2))
    (hd : dp + 3 < recursionLimit) (hu : un + 24 < cLine) (b1 : Bd n r1) (b2 : Bd k r2) (hb : n + k + 1 ≤ 6643)
    (hret : ∀ (D : Addr) (t t' : Tok) (c : Nat) (h' : Heap) (tk' : Nat), Bd (n + k + 1) (r1 - r2) → Fr h₀ L h' m → News h₀ L h' ((D, RatO (r1 - r2) t t' c) :: news) → (∀ p ∈ news, p.1 ≠ D) → Q (.ref D) { s with heap := h', toks := tk' }) :
    wpAny (model PySem.Challenge.rw_ui0509_04.row.prog w) (ktrTop dp un gd cn cs L a ccd cl outer) (call (.ref 56) [.ref D1, .ref D2]) Q E s :=
  minus_u B F X N T hk e1 e2 hd hu (nzden r1) (nzden r2) b1.num b1.den b2.num b2.den (by omega) (by omega) fun r D t t' c h' tk' e bn bd F' N' l => by
    have e' : r = r1 - r2 := e.trans (r_minus r1 r2)
    subst e'
    exact hret D t t' c h' tk' ⟨Nat.le_trans bn (by omega), Nat.le_trans bd (by omega)⟩ F' N' l
theorem times_r {w : World} {p : Program} {loose : List Str} {mean : ExcName → Option Value} {mg mb : Str → Option Value} {dp un : Nat} {gd : Option (List Code)} {cn : Str} {cs : Scope} {a : Addr} {ccd : Value} {cl : List (Str × Addr)} {outer : List Env} {A₀ : Around} {base h₀ : Heap} {L : Addr} {m : Str → Option Value} {news : List (Addr × Obj)} {s : Shared} {Q E : Value → Shared → Prop} {D1 D2 : Addr} {r1 r2 : Rat} {t1 t1' t2 t2' : Tok} {c1 c2 n k : Nat}
    (B : Below A₀ base outer h₀) (F : Fr h₀ L s.heap m) (X : (Mine.hd.heap_39 w.params).In h₀) (N : News h₀ L s.heap news) (T : Top p loose mean mg mb h₀) (hk : cs.kind = .function) (e1 : s.heap.get? D1 = some (RatO r1 t1 t1' c1)) (e2 : s.heap.get? D2 = some (RatO r2 t2 t2' c2))
    (hd : dp + 3 < recursionLimit) (hu : un + 24 < cLine) (b1 : Bd n r1) (b2 : Bd k r2) (hb : n + k ≤ 6643)
    (hret : ∀ (D : Addr) (t t' : Tok) (c : Nat) (h' : Heap) (tk' : Nat), Bd (n + k) (r1 * r2) → Fr h₀ L h' m → News h₀ L h' ((D, RatO (r1 * r2) t t' c) :: news) → (∀ p ∈ news, p.1 ≠ D) → Q (.ref D) { s with heap := h', toks := tk' }) :
    wpAny (model PySem.Challenge.rw_ui0509_04.row.prog w) (ktrTop dp un gd cn cs L a ccd cl outer) (call (.ref 63) [.ref D1, .ref D2]) Q E s :=
  times_u B F X N T hk e1 e2 hd hu (nzden r1) (nzden r2) b1.num b1.den b2.num b2.den (by omega) (by omega) fun r D t t' c h' tk' e bn bd F' N' l => by
    have e' : r = r1 * r2 := e.trans (r_times r1 r2)
    subst e'
    exact hret D t t' c h' tk' ⟨Nat.le_trans bn (by omega), Nat.le_trans bd (by omega)⟩ F' N' l
theorem over_r {w : World} {p : Program} {loose : List Str} {mean : ExcName → Option Value} {mg mb : Str → Option Value} {dp un : Nat} {gd : Option (List Code)} {cn : Str} {cs : Scope} {a : Addr} {ccd : Value} {cl : List (Str × Addr)} {outer : List Env} {A₀ : Around} {base h₀ : Heap} {L : Addr} {m : Str → Option Value} {news : List (Addr × Obj)} {s : Shared} {Q E : Value → Shared → Prop} {D1 D2 : Addr} {r1 r2 : Rat} {t1 t1' t2 t2' : Tok} {c1 c2 n k : Nat}
    (B : Below A₀ base outer h₀) (F : Fr h₀ L s.heap m) (X : (Mine.hd.heap_39 w.params).In h₀) (N : News h₀ L s.heap news) (T : Top p loose mean mg mb h₀) (hk : cs.kind = .function) (e1 : s.heap.get? D1 = some (RatO r1 t1 t1' c1)) (e2 : s.heap.get? D2 = some (RatO r2 t2 t2' c2))
    (hd : dp + 3 < recursionLimit) (hu : un + 24 < cLine) (b1 : Bd n r1) (b2 : Bd k r2) (hz : r2 ≠ 0) (hb : n + k ≤ 6643)
    (hret : ∀ (D : Addr) (t t' : Tok) (c : Nat) (h' : Heap) (tk' : Nat), Bd (n + k) (r1 / r2) → Fr h₀ L h' m → News h₀ L h' ((D, RatO (r1 / r2) t t' c) :: news) → (∀ p ∈ news, p.1 ≠ D) → Q (.ref D) { s with heap := h', toks := tk' }) :
    wpAny (model PySem.Challenge.rw_ui0509_04.row.prog w) (ktrTop dp un gd cn cs L a ccd cl outer) (call (.ref 70) [.ref D1, .ref D2]) Q E s :=
  over_u B F X N T hk e1 e2 hd hu (nzden r1) (nznum hz) b1.num b1.den b2.num b2.den (by omega) (by omega) fun r D t t' c h' tk' e bn bd F' N' l => by
    have e' : r = r1 / r2 := e.trans (r_over r1 r2)
    subst e'
    exact hret D t t' c h' tk' ⟨Nat.le_trans bn (by omega), Nat.le_trans bd (by omega)⟩ F' N' l
-- pairs of lists
inductive All2 {α β : Type} (R : α → β → Prop) : List α → List β → Prop
  | nil : All2 R [] []
  | cons {a : α} {b : β} {as : List α} {bs : List β} : R a b → All2 R as bs → All2 R (a :: as) (b :: bs)
section
variable {α β : Type} {R S : α → β → Prop} {as cs : List α} {bs ds : List β} {a : α} {b : β}
theorem All2.length (h : All2 R as bs) : as.length = bs.length := by
  induction h with
  | nil => rfl
  | cons _ _ ih => rw [List.length_cons, List.length_cons, ih]
theorem All2.mono (hs : ∀ a b, R a b → S a b) (h : All2 R as bs) : All2 S as bs := by
  induction h with
  | nil => exact .nil
  | cons h _ ih => exact .cons (hs _ _ h) ih
theorem All2.append (h : All2 R as bs) (k : All2 R cs ds) : All2 R (as ++ cs) (bs ++ ds) := by
  induction h with
  | nil => exact k
  | cons h _ ih => exact .cons h ih
theorem All2.snoc (h : All2 R as bs) (k : R a b) : All2 R (as ++ [a]) (bs ++ [b]) := h.append (.cons k .nil)
theorem All2.get (h : All2 R as bs) {i : Nat} (ha : as[i]? = some a) : ∃ b, bs[i]? = some b ∧ R a b := by
  induction h generalizing i with
  | nil => simp at ha
  | cons h _ ih =>
    cases i with
    | zero => exact ⟨_, rfl, by simp at ha; rw [← ha]; exact h⟩
    | succ i => exact ih (by simpa using ha)
theorem All2.at (h : All2 R as bs) {i : Nat} (hb : bs[i]? = some b) : ∃ a, as[i]? = some a ∧ R a b := by
  induction h generalizing i with
  | nil => simp at hb
  | cons h _ ih =>
    cases i with
    | zero => exact ⟨_, rfl, by simp at hb; rw [← hb]; exact h⟩
    | succ i => exact ih (by simpa using hb)
theorem All2.set (h : All2 R as bs) (k : R a b) (i : Nat) : All2 R (as.set i a) (bs.set i b) := by
  induction h generalizing i with
  | nil => exact .nil
  | cons h r ih =>
    cases i with
    | zero => exact .cons k r
    | succ i => exact .cons h (ih i)
end
-- a loop's turns by an invariant (over the ItemsRest of KE.KTurns)
section
variable {prog : Program} {w : World} {A : Around} {E : Value → Shared → Prop} {s : Shared} {env : Env} {h₀ : Heap} {target : Expr} {body : List Stmt} {Q : Flow → Shared → Prop}
theorem items_ind {I : Addr} {cl : String} {keep : List (Addr × Obj)} {xs : List Itm} (J : Nat → (Str → Option Value) → List (Addr × Obj) → Prop)
    (turn : ∀ i a v m news h tk (o : Obj), xs[i]? = some a → SubL keep news → (∀ p ∈ news, p.1 ≠ I) → J i m news → a.Is v h → Fr h₀ env.locals h m → o.cls = .type cl → News h₀ env.locals h ((I, o) :: news) →
      wpAny (model prog w) A (assign target env v) (fun _ s₂ => wpAny (model prog w) A (execs body env) (UnrPostW h₀ env.locals { s with heap := h, toks := tk } [(I, o)] (fun m' n' => SubL keep n' ∧ J (i + 1) m' n') Q) E s₂) E { s with heap := h, toks := tk })
    (done : ∀ m news h tk, J xs.length m news → Fr h₀ env.locals h m → News h₀ env.locals h news → Q .next { s with heap := h, toks := tk }) :
    ∀ (ys : List Itm) (i : Nat) (m : Str → Option Value) (news : List (Addr × Obj)), xs.drop i = ys → i ≤ xs.length → SubL keep news → (∀ p ∈ news, p.1 ≠ I) → J i m news → ItemsRest prog w A E h₀ env target body Q s [(I, cl)] keep ys m news := by
  intro ys
  induction ys with
  | nil =>
    intro i m news hd hi _ _ hJ h tk F N
    have : i = xs.length := by
      have := congrArg List.length hd
      rw [List.length_drop, List.length_nil] at this
      omega
    subst this
    exact done m news h tk hJ F N
  | cons a ys ih =>
    intro i m news hd hi hk hI hJ v h tk hv F
    refine AllObj.cons fun o ho => AllObj.nil fun N => ?_
    have hlt : i < xs.length := by
      have := congrArg List.length hd
      rw [List.length_drop, List.length_cons] at this
      omega
    have ha : xs[i]? = some a := by
      have := congrArg (fun l => l[0]?) hd
      simpa [List.getElem?_drop] using this
    have hd' : xs.drop (i + 1) = ys := by
      have := congrArg List.tail hd
      simpa [List.tail_drop] using this
    have fin : ∀ s₃, UnrEndW h₀ env.locals { s with heap := h, toks := tk } [(I, o)] (fun m' n' => SubL keep n' ∧ J (i + 1) m' n') s₃ →
        UnrEndW h₀ env.locals { s with heap := h, toks := tk } [(I, o)] (fun m' n' => SubL keep n' ∧ ItemsRest prog w A E h₀ env target body Q s [(I, cl)] keep ys m' n') s₃ := by
      rintro s₃ ⟨h', tk', m', news', e, F', N', ho', hk', hJ'⟩
      exact ⟨h', tk', m', news', e, F', N', ho', hk', ih (i + 1) m' news' hd' hlt hk' (fun p hp => ho' p hp (I, o) (List.mem_cons_self ..)) hJ'⟩
    refine wpAny_mono (turn i a v m news h tk o ha hk hI hJ hv F ho N) (fun _ s₂ h₂ => wpAny_mono h₂ (fun f s₃ p => ?_) fun _ _ e => e) fun _ _ e => e
    cases f with
    | ret v => exact p
    | brk => exact p
    | next => exact fin _ p
    | cont => exact fin _ p
theorem unr_end {L I : Addr} {o : Obj} {rest : (Str → Option Value) → List (Addr × Obj) → Prop} {s₁ : Shared} {h' : Heap} {tk : Nat} {m' : Str → Option Value} {all : List (Addr × Obj)} (news' : List (Addr × Obj)) (F : Fr h₀ L h' m') (N : News h₀ L h' all)
    (hI : (I, o) ∈ all) (hs : ∀ p ∈ news', p ∈ all) (hne : ∀ p ∈ news', p.1 ≠ I) (r : rest m' news') : UnrEndW h₀ L s₁ [(I, o)] rest { s₁ with heap := h', toks := tk } :=
  ⟨h', tk, m', news', rfl, F, fun p hp => by
    rcases List.mem_append.mp hp with hp | hp
    · rw [List.mem_singleton.mp hp]; exact N _ hI
    · exact N p (hs p hp), fun p hp q hq => by rw [List.mem_singleton.mp hq]; exact hne p hp, r⟩
def rangeItems (a : Int) (n : Nat) : List Itm := (List.range n).map fun (i : Nat) => Itm.tok fun t => Value.int (a + (i : Int)) t
theorem rangeItems_length (a : Int) (n : Nat) : (rangeItems a n).length = n := by simp [rangeItems]
theorem rangeItems_get {a : Int} {n i : Nat} {x : Itm} (h : (rangeItems a n)[i]? = some x) : i < n ∧ x = .tok fun t => .int (a + (i : Int)) t := by
  unfold rangeItems at h
  rw [List.getElem?_map] at h
  obtain ⟨j, hj, e⟩ := Option.map_eq_some_iff.mp h
  obtain ⟨h1, h2⟩ := List.getElem?_eq_some_iff.mp hj
  rw [List.getElem_range] at h2
  subst h2
  exact ⟨by simpa using h1, e.symm⟩
theorem iter_rangeTurns {x : Str} {px : Pos} {r : Addr} {a₀ b₀ : Int} {t₀ u₀ v₀ : Tok} {n : Nat} {m₀ : Str → Option Value} {news : List (Addr × Obj)}
    (hh : A.handled = none) (hr : IsRange s.heap r a₀ b₀ 1 t₀ u₀ v₀) (hsmall : Builtin.Range.small a₀ b₀ 1 = true) (hn : Builtin.Range.rangeSize a₀ b₀ 1 = (n : Int)) (F : Fr h₀ env.locals s.heap m₀) (N : News h₀ env.locals s.heap news)
    (rest₀ : ∀ I : Addr, (∀ p ∈ news, p.1 < I) → ItemsRest prog w A E h₀ env (.Name x px) body Q s [(I, "range_iterator")] [] (rangeItems a₀ n) m₀ news) :
    wpAny (model prog w) A (pyIter (.ref r)) (fun it s₂ => TurnsAt prog w A h₀ env (.Name x px) body Q E it s₂) E s := by
  refine wpAny_pyIter_range hr hsmall ?_
  have W : Walks prog w A s.heap.objs.size [s.heap.objs.size] [s.heap.objs.size] n (fun i v => i < n ∧ ∃ t, v = .int (a₀ + i * 1) t)
      (fun i h => IsRangeIter h s.heap.objs.size (a₀ + (i : Nat) * 1) ((n : Int) - (i : Nat)) 1) := (Walks.range hh _ a₀ 1 n).bound
  refine ktg_core (tk0 := s.toks) (keep := []) (KTurns.ofWalks W fun i v s Q E st q => wpAny_pure q) (rangeItems_length a₀ n).symm (fun i v h hp => ?_) (fun i h st => ?_) (fun b hb => ?_) (fun b hb => by simpa using hb) (fun b hb => .inl (by simpa using hb)) ?_ (fun p hp hI => ?_) ?_ (F.push _) (fun p hp => ⟨Heap.get?_push_of_some _ (N p hp).1, (N p hp).2⟩) trivial (rest₀ _ fun p hp => Heap.lt_size (N p hp).1)
  · obtain ⟨hi, t, rfl⟩ := hp
    refine ⟨.tok fun t => .int (a₀ + (i : Int)) t, ?_, t, by rw [Int.mul_one]⟩
    unfold rangeItems
    rw [List.getElem?_map, List.getElem?_range hi]
    rfl
  · exact ⟨[(s.heap.objs.size, _)], ⟨⟨rfl, rfl⟩, trivial⟩, fun p hp => by rw [List.mem_singleton.mp hp]; exact st⟩
  · have hb' : b = s.heap.objs.size := by simpa using hb
    rw [hb']
    exact ⟨List.mem_cons_self .., next_is_new F⟩
  · intro hI
    exact absurd F.ns.lt ((List.mem_singleton.mp hI) ▸ Nat.lt_irrefl _)
  · exact absurd (Heap.lt_size (N p hp).1) ((List.mem_singleton.mp hI) ▸ Nat.lt_irrefl _)
  · show IsRangeIter _ _ _ _ _
    rw [hn]
    simpa using Heap.get?_push_size _ rfl
end
def Hold (P : Prop) : Prop := P
theorem Hold.out {P : Prop} (h : Hold P) : P := h
-- a rational in the heap
def RatH (h : Heap) (v : Value) (r : Rat) : Prop := ∃ D t t' c, v = .ref D ∧ h.get? D = some (RatO r t t' c)
theorem RatH.keeps {h g : Heap} {v : Value} {r : Rat} (hk : ∀ b o, h.get? b = some o → g.get? b = some o) (x : RatH h v r) : RatH g v r := let ⟨D, t, t', c, e, hd⟩ := x; ⟨D, t, t', c, e, hk _ _ hd⟩
-- what a frame keeps track of: an object of the ledger, or of the ground
def Tk (h₀ : Heap) (nx : List (Addr × Obj)) (a : Addr) (o : Obj) : Prop := (a, o) ∈ nx ∨ h₀.get? a = some o
theorem Tk.mono {h₀ : Heap} {nx ny : List (Addr × Obj)} {a : Addr} {o : Obj} (e : Tk h₀ nx a o) (hs : ∀ p ∈ nx, p ∈ ny) : Tk h₀ ny a o := e.imp (hs _) id
theorem Tk.get {h₀ h : Heap} {L : Addr} {m : Str → Option Value} {nx led : List (Addr × Obj)} {a : Addr} {o : Obj} (F : Fr h₀ L h m) (N : News h₀ L h led) (e : Tk h₀ nx a o) (hs : ∀ p ∈ nx, p ∈ led) : h.get? a = some o :=
  e.elim (fun h1 => (N _ (hs _ h1)).1) fun h1 => F.keep _ _ h1
abbrev pairO (v1 v2 : Value) (c : Nat) : Obj := { cls := .type "tuple", data := .seq #[v1, v2] c }
abbrev PT (P : Addr → Obj → Prop) (tl : List (Addr × Obj)) (a : Addr) (o : Obj) : Prop := P a o ∨ (a, o) ∈ tl
theorem PT.mono {P : Addr → Obj → Prop} {tl tm : List (Addr × Obj)} (hs : ∀ p ∈ tl, p ∈ tm) : ∀ a o, PT P tl a o → PT P tm a o := fun _ _ e => e.imp id (hs _)
def RatN (P : Addr → Obj → Prop) (v : Value) (r : Rat) : Prop := ∃ D t t' c, v = .ref D ∧ P D (RatO r t t' c)
def LayN (P : Addr → Obj → Prop) (v : Value) (l : Rat × Rat) : Prop := ∃ D v1 v2 c, v = .ref D ∧ P D (pairO v1 v2 c) ∧ RatN P v1 l.1 ∧ RatN P v2 l.2
def LstN {β : Type} (R : Value → β → Prop) (P : Addr → Obj → Prop) (v : Value) (bs : List β) : Prop := ∃ l vs n, v = .ref l ∧ P l (listOf vs.toArray n) ∧ All2 R vs bs
abbrev LaysN (P : Addr → Obj → Prop) (v : Value) (ls : List (Rat × Rat)) : Prop := LstN (LayN P) P v ls
abbrev RatsN (P : Addr → Obj → Prop) (v : Value) (rs : List Rat) : Prop := LstN (RatN P) P v rs
section
variable {P P' : Addr → Obj → Prop} {v : Value}
theorem RatN.mono {r : Rat} (hs : ∀ a o, P a o → P' a o) (x : RatN P v r) : RatN P' v r := let ⟨D, t, t', c, e, k⟩ := x; ⟨D, t, t', c, e, hs _ _ k⟩
theorem LayN.mono {l : Rat × Rat} (hs : ∀ a o, P a o → P' a o) (x : LayN P v l) : LayN P' v l := let ⟨D, v1, v2, c, e, k, a, b⟩ := x; ⟨D, v1, v2, c, e, hs _ _ k, a.mono hs, b.mono hs⟩
theorem LaysN.mono {ls : List (Rat × Rat)} (hs : ∀ a o, P a o → P' a o) (x : LaysN P v ls) : LaysN P' v ls := let ⟨l, vs, n, e, k, a⟩ := x; ⟨l, vs, n, e, hs _ _ k, a.mono fun _ _ y => y.mono hs⟩
theorem RatsN.mono {rs : List Rat} (hs : ∀ a o, P a o → P' a o) (x : RatsN P v rs) : RatsN P' v rs := let ⟨l, vs, n, e, k, a⟩ := x; ⟨l, vs, n, e, hs _ _ k, a.mono fun _ _ y => y.mono hs⟩
end
theorem ground_of {P : Addr → Obj → Prop} {h g : Heap} (hP : ∀ a o, P a o → h.get? a = some o) (hG : ∀ b o, h.get? b = some o → b ∉ List.map (·.1) ([] : List (Addr × Obj)) → g.get? b = some o) (tl : List (Addr × Obj)) :
    ∀ a o, PT P tl a o → Tk g tl a o := fun a o e => e.elim (fun h => .inr (hG _ _ (hP _ _ h) (by simp))) .inl
theorem tracked {h₀ h : Heap} {L : Addr} {m : Str → Option Value} {led : List (Addr × Obj)} (F : Fr h₀ L h m) (N : News h₀ L h led) : ∀ a o, Tk h₀ led a o → h.get? a = some o := fun _ _ e => e.get F N fun _ hp => hp
-- steps on such objects
section
variable {prog : Program} {w : World} {A : Around} {E : Value → Shared → Prop} {s : Shared} {h₀ : Heap} {L D : Addr} {m : Str → Option Value} {nx led : List (Addr × Obj)} {lo : Obj} {env : Env}
theorem tup_t {value slice : Expr} {l : List Value} {n : Nat} {k : Int} {u : Tok} {j : Nat} {x : Value} {Q : Value → Shared → Prop}
    (F : Fr h₀ L s.heap m) (N : News h₀ L s.heap led) (e : Tk h₀ nx D lo) (hsub : ∀ p ∈ nx, p ∈ led) (hc : lo.cls = .type "tuple") (hd : lo.data = .seq l.toArray n) (hlo : -(2 ^ 63) ≤ k) (hhi : k < 2 ^ 63) (hj : seqIndex? k l.length = some j) (hx : l[j]? = some x) (h : Q x s)
    (hs : subscripted slice false (.ref D) (.int k u) = operate [.ref D, .int k u] (getItem (.ref D) (.int k u))) (hg : ∀ r, letTemporaryGo value (.ref D) r = pure ()) :
    wpAny (model prog w) A (subscriptTail value slice (.ref D) (.int k u)) Q E s := item_tupleL ⟨lo, e.get F N hsub, hc, n, hd⟩ hlo hhi hj hx h hs hg
theorem unpack_t {elts : List Expr} {k : Nat} {pos : Pos} {items : Array Value} {n : Nat} {Q : Unit → Shared → Prop} (F : Fr h₀ L s.heap m) (N : News h₀ L s.heap led) (e : Tk h₀ nx D lo) (hsub : ∀ p ∈ nx, p ∈ led) (hc : lo.cls = .type "tuple") (hd : lo.data = .seq items n)
    (hh : A.handled = none) (hn : (assignEach elts env).length = items.size) (hstar : (assignEach elts env).findIdx? (·.1) = none)
    (h : ∀ h', Fr h₀ L h' m → News h₀ L h' led → wpAny (model prog w) A (assignInOrder ((assignEach elts env).map (·.2)) items.toList) Q E { s with heap := h' }) :
    wpAny (model prog w) A (assign (.Tuple elts k pos) env (.ref D)) Q E s := unpackN_ F N ⟨lo, e.get F N hsub, hc, n, hd⟩ hh hn hstar h
end
theorem rat_new {P : Addr → Obj → Prop} {D : Addr} {t t' : Tok} {c : Nat} {r : Rat} (h : P D (RatO r t t' c)) : RatN P (.ref D) r := ⟨D, t, t', c, rfl, h⟩
theorem news_app2 {h₀ h' : Heap} {L : Addr} {news tl : List (Addr × Obj)} (N1 : News h₀ L h' tl) (N : News h₀ L h' news) : News h₀ L h' (news ++ tl) := by
  intro q hq
  rcases List.mem_append.mp hq with hq | hq
  · exact N q hq
  · exact N1 q hq
-- the ledger at a turn's end: what is told of by name, and all the rest but the iterator
-- cutting layers
abbrev Lay := Rat × Rat
theorem lst_lenT {prog : Program} {w : World} {A : Around} {E : Value → Shared → Prop} {s : Shared} {h₀ : Heap} {L l : Addr} {m : Str → Option Value} {nx led : List (Addr × Obj)} {vs : List Value} {n : Nat} {Q : Value → Shared → Prop} (F : Fr h₀ L s.heap m) (N : News h₀ L s.heap led) (e : Tk h₀ nx l (listOf vs.toArray n)) (hs : ∀ p ∈ nx, p ∈ led) (hf : vs.length < 1000000) (h : ∀ tk, Q (.int (vs.length : Int) tk) { s with toks := tk + 1 }) :
    wpAny (model prog w) A (call (.builtin "len") [.ref l]) Q E s := by
  refine len_list ⟨_, e.get F N hs, rfl, n, rfl⟩ (by rw [List.size_toArray]; omega) ?_
  rw [List.size_toArray]
  exact h _
theorem add_k {prog : Program} {w : World} {A : Around} {E : Value → Shared → Prop} {s : Shared} {h₀ : Heap} {L a b : Addr} {m : Str → Option Value} {news : List (Addr × Obj)} {vs ws : List Value} {n1 n2 : Nat} {Q : Value → Shared → Prop} (F : Fr h₀ L s.heap m) (N : News h₀ L s.heap news)
    (h1 : s.heap.get? a = some (listOf vs.toArray n1)) (h2 : s.heap.get? b = some (listOf ws.toArray n2)) (hz : vs.length + ws.length ≤ 16000)
    (h : ∀ D h', Fr h₀ L h' m → News h₀ L h' ((D, listOf (vs ++ ws).toArray 0) :: news) → (∀ p ∈ news, p.1 < D) → Q (.ref D) { s with heap := h' }) : wpAny (model prog w) A (binaryOp .Add (.ref a) (.ref b)) Q E s :=
  add_lists F N ⟨_, h1, rfl, n1, rfl⟩ ⟨_, h2, rfl, n2, rfl⟩ (fun h' F' N' => h _ h' F' N' fun p hp => Heap.lt_size (N p hp).1) (by rw [sizeLine_eq]; omega)
-- a list comprehension by an invariant (over LCg.CompRest of KE.LcTurns)
section
variable {prog : Program} {w : World} {A : Around} {s : Shared} {h₀ : Heap} {L : Addr} {m : Str → Option Value} {env : Env}
theorem comp_ind {elt : Expr} {x : Str} {scope : Scope} {cl : List (Str × Addr)} {S : List (Addr × Obj) → Prop} {Pv : Nat → Value → Prop} {Fin : List Value → List (Addr × Obj) → Prop} {n : Nat} (J : Nat → List Value → List (Addr × Obj) → Prop)
    (turn : ∀ i v I oI C oC D m₂ h tk (E' : Value → Shared → Prop) ys news, i < n → J i ys news → Pv i v → LCg.NsObj oC m₂ → m₂ x = some v → Fr h₀ L h m → News h₀ L h ((I, oI) :: (C, oC) :: (D, LCg.lst ys) :: news) → LCg.Off3 I C D news → ((@Ne Nat I C) ∧ (@Ne Nat I D) ∧ (@Ne Nat C D)) →
      wpAny (model prog w) A (eval elt (compEnvC scope cl C env)) (LCg.CompEnd h₀ L m { s with heap := h, toks := tk } I oI C oC D (LCg.lst ys) S (fun y news' => J (i + 1) (ys ++ [y]) news')) E' { s with heap := h, toks := tk })
    (fin : ∀ ys news, J n ys news → Fin ys news) :
    ∀ k i ys news, i + k = n → J i ys news → LCg.CompRest prog w A h₀ L m env elt x scope cl s S Pv Fin k i ys news := by
  intro k
  induction k with
  | zero =>
    intro i ys news hk hJ
    have : i = n := by omega
    subst this
    exact LCg.CompRest.zero (fin ys news hJ)
  | succ k ih =>
    intro i ys news hk hJ
    refine LCg.CompRest.succ fun v I oI C oC D m₂ h tk E' hP hC hx F N off ne => ?_
    refine wpAny_mono (turn i v I oI C oC D m₂ h tk E' ys news (by omega) hJ hP hC hx F N off ne) (fun y s₂ h₂ => ?_) fun _ _ e => e
    obtain ⟨h', tk', news', e, F', N', off', hS, r⟩ := h₂
    exact ⟨h', tk', news', e, F', N', off', hS, ih (i + 1) (ys ++ [y]) news' (by omega) r⟩
theorem comp_end {I C D : Addr} {s₁ : Shared} {oI oC oD : Obj} {S : List (Addr × Obj) → Prop} {rest : Value → List (Addr × Obj) → Prop} {y : Value} {h' : Heap} {tk : Nat} {all : List (Addr × Obj)}
    (F : Fr h₀ L h' m) (N : News h₀ L h' all) (news' : List (Addr × Obj)) (sub : ∀ p ∈ (I, oI) :: (C, oC) :: (D, oD) :: news', p ∈ all) (off : LCg.Off3 I C D news') (hS : S news') (r : rest y news') :
    LCg.CompEnd h₀ L m s₁ I oI C oC D oD S rest y { s₁ with heap := h', toks := tk } := LCg.CompEnd.intro F N news' sub off hS r
theorem off1_mem {D : Addr} : ∀ {l : List (Addr × Obj)}, LCg.Off1 D l → ∀ p ∈ l, p.1 ≠ D
  | [], _, _, h => nomatch h
  | _ :: _, x, p, h => by
    rcases List.mem_cons.mp h with rfl | h
    · exact x.1
    · exact off1_mem x.2 p h
end
-- items of tracked lists; data read from the heap and compared
section
variable {prog : Program} {w : World} {A : Around} {E : Value → Shared → Prop} {s : Shared} {h₀ : Heap} {L D : Addr} {m : Str → Option Value} {nx led : List (Addr × Obj)} {lo : Obj} {value slice : Expr} {l : List Value} {n : Nat} {k : Int} {u : Tok} {x : Value} {Q : Value → Shared → Prop}
theorem list_t (F : Fr h₀ L s.heap m) (N : News h₀ L s.heap led) (e : Tk h₀ nx D lo) (hsub : ∀ p ∈ nx, p ∈ led) (hc : lo.cls = .type "list") (hd : lo.data = .seq l.toArray n) (h0 : 0 ≤ k) (hfit : k < 2 ^ 63) (hx : l[k.toNat]? = some x) (h : Q x s)
    (hs : subscripted slice false (.ref D) (.int k u) = operate [.ref D, .int k u] (getItem (.ref D) (.int k u))) (hg : ∀ r, letTemporaryGo value (.ref D) r = pure ()) :
    wpAny (model prog w) A (subscriptTail value slice (.ref D) (.int k u)) Q E s := item_listL ⟨lo, e.get F N hsub, hc, n, hd⟩ h0 hfit hx h hs hg
theorem back_t (F : Fr h₀ L s.heap m) (N : News h₀ L s.heap led) (e : Tk h₀ nx D lo) (hsub : ∀ p ∈ nx, p ∈ led) (hc : lo.cls = .type "list") (hd : lo.data = .seq l.toArray n) (h0 : k < 0) (h1 : -(l.length : Int) ≤ k) (hfit : -(2 ^ 63) ≤ k) (hx : l[(k + (l.length : Int)).toNat]? = some x) (h : Q x s)
    (hs : subscripted slice false (.ref D) (.int k u) = operate [.ref D, .int k u] (getItem (.ref D) (.int k u))) (hg : ∀ r, letTemporaryGo value (.ref D) r = pure ()) :
    wpAny (model prog w) A (subscriptTail value slice (.ref D) (.int k u)) Q E s := by
  have hl : s.heap.IsList D l.toArray := ⟨lo, e.get F N hsub, hc, n, hd⟩
  exact subscriptTail_builtin hl.typeIs slot_list_getitem.lookup (wpAny_getItem_list_neg hl h0 (by rw [List.size_toArray]; exact h1) hfit (by rw [List.size_toArray]; simpa using hx) h) hs hg
end
theorem at_of {α : Type} {l : List α} {k : Int} {i : Nat} {x : α} (h : l[i]? = some x) (e : k = (i : Int)) : l[k.toNat]? = some x := by
  have : k.toNat = i := by omega
  rw [this]; exact h
def Rd (h : Heap) (v : Value) (d : PyData) : Prop := ∃ as, Reads h v d as
theorem rdAll {h : Heap} {vs : List Value} {ds : List PyData} (hv : All2 (Rd h) vs ds) : ∃ as, ReadsAll h vs ds as := by
  induction hv with
  | nil => exact ⟨_, .nil⟩
  | cons a _ ih => obtain ⟨as, ra⟩ := a; obtain ⟨bs, rb⟩ := ih; exact ⟨_, .cons ra rb⟩
theorem Rd.int {h : Heap} {i : Int} {t : Tok} : Rd h (.int i t) (.int i) := ⟨_, .int i t⟩
theorem Rd.none {h : Heap} : Rd h .none .none := ⟨_, .none⟩
theorem Rd.bool {h : Heap} {b : Bool} : Rd h (.bool b) (.bool b) := ⟨_, .bool b⟩
theorem Rd.tuple {h : Heap} {D : Addr} {vs : List Value} {c : Nat} {ds : List PyData} (e : h.get? D = some { cls := .type "tuple", data := .seq vs.toArray c }) (hv : All2 (Rd h) vs ds) : Rd h (.ref D) (.tuple ds) :=
  let ⟨as, ra⟩ := rdAll hv; ⟨as, .tuple e rfl rfl (by simpa using ra)⟩
theorem Rd.list {h : Heap} {D : Addr} {vs : List Value} {c : Nat} {ds : List PyData} (e : h.get? D = some (listOf vs.toArray c)) (hv : All2 (Rd h) vs ds) : Rd h (.ref D) (.list ds) :=
  let ⟨as, ra⟩ := rdAll hv; ⟨D :: as, .list e rfl rfl (by simpa using ra)⟩
theorem Rd.keeps {h g : Heap} {v : Value} {d : PyData} (hk : ∀ b o, h.get? b = some o → g.get? b = some o) (x : Rd h v d) : Rd g v d := let ⟨as, r⟩ := x; ⟨as, PyProof.Rows.Reads.keeps hk r⟩
def ratP (r : Rat) : PyData := .tuple [.int r.num, .int (r.den : Int)]
def layP (l : Lay) : PyData := .tuple [ratP l.1, ratP l.2]
theorem RatO_rd {h : Heap} {D : Addr} {r : Rat} {t t' : Tok} {c : Nat} (e : h.get? D = some (RatO r t t' c)) : Rd h (.ref D) (ratP r) := Rd.tuple (vs := [_, _]) e (.cons .int (.cons .int .nil))
theorem T2_rd {h : Heap} {D : Addr} {x y : Int} {t t' : Tok} {c : Nat} (e : h.get? D = some (T2 x y t t' c)) : Rd h (.ref D) (.tuple [.int x, .int y]) := Rd.tuple (vs := [_, _]) e (.cons .int (.cons .int .nil))
section
variable {P : Addr → Obj → Prop} {h : Heap} {v : Value}
theorem RatN.rd {r : Rat} (hP : ∀ a o, P a o → h.get? a = some o) (x : RatN P v r) : Rd h v (ratP r) := by
  obtain ⟨D, t, t', c, rfl, k⟩ := x; exact RatO_rd (hP _ _ k)
theorem LayN.rd {l : Lay} (hP : ∀ a o, P a o → h.get? a = some o) (x : LayN P v l) : Rd h v (layP l) := by
  obtain ⟨D, v1, v2, c, rfl, k, a, b⟩ := x; exact Rd.tuple (vs := [v1, v2]) (hP _ _ k) (.cons (a.rd hP) (.cons (b.rd hP) .nil))
theorem All2.map_r {α β γ : Type} {R : α → β → Prop} {S : α → γ → Prop} {f : β → γ} {as : List α} {bs : List β} (hs : ∀ a b, R a b → S a (f b)) (x : All2 R as bs) : All2 S as (bs.map f) := by
  induction x with
  | nil => exact .nil
  | cons a _ ih => exact .cons (hs _ _ a) ih
theorem LaysN.rd {ls : List Lay} (hP : ∀ a o, P a o → h.get? a = some o) (x : LaysN P v ls) : Rd h v (.list (ls.map layP)) := by
  obtain ⟨l, vs, n, rfl, k, a⟩ := x; exact Rd.list (hP _ _ k) (a.map_r fun _ _ y => y.rd hP)
theorem RatsN.rd {rs : List Rat} (hP : ∀ a o, P a o → h.get? a = some o) (x : RatsN P v rs) : Rd h v (.list (rs.map ratP)) := by
  obtain ⟨l, vs, n, rfl, k, a⟩ := x; exact Rd.list (hP _ _ k) (a.map_r fun _ _ y => y.rd hP)
end
section
variable {prog : Program} {w : World} {A : Around} {E : Value → Shared → Prop} {s : Shared} {a b : Value} {d : PyData} {Q : Value → Shared → Prop}
theorem eq_rd (ra : Rd s.heap a d) (rb : Rd s.heap b d) (hs : SeqAt.shaped d = true) (hu : A.units + 64 < cLine) (h : Q (.bool true) s) : wpAny (model prog w) A (compareOp .Eq a b) Q E s := by
  obtain ⟨as, ra⟩ := ra; obtain ⟨bs, rb⟩ := rb
  exact eq_dataH ra rb hs hs hu (by rw [SeqAt.eqv_refl d (SeqAt.canLay_of_shaped hs)]; exact h)
theorem ne_rd (ra : Rd s.heap a d) (rb : Rd s.heap b d) (hs : SeqAt.shaped d = true) (hu : A.units + 64 < cLine) (h : Q (.bool false) s) : wpAny (model prog w) A (compareOp .NotEq a b) Q E s := by
  obtain ⟨as, ra⟩ := ra; obtain ⟨bs, rb⟩ := rb
  exact ne_dataH ra rb hs hs hu (by rw [SeqAt.eqv_refl d (SeqAt.canLay_of_shaped hs)]; exact h)
end
theorem rsize {a b : Int} {n : Nat} (h : b = a + (n : Int)) : Builtin.Range.rangeSize a b 1 = (n : Int) := by
  unfold Builtin.Range.rangeSize
  rw [if_pos (by decide)]
  split <;> omega
theorem set_at {prog : Program} {w : World} {A : Around} {E : Value → Shared → Prop} {s : Shared} {h₀ : Heap} {L D : Addr} {m : Str → Option Value} {news news' : List (Addr × Obj)} {vs : List Value} {n : Nat} {k : Int} {t : Tok} {v : Value} {Q : Unit → Shared → Prop}
    (F : Fr h₀ L s.heap m) (N : News h₀ L s.heap news) (U : Upd D (listOf vs.toArray n) (listOf (vs.set k.toNat v).toArray n) news news') (h0 : 0 ≤ k) (h1 : k < vs.length) (hfit : k < 2 ^ 63)
    (h : ∀ h', Fr h₀ L h' m → News h₀ L h' news' → Q () { s with heap := h' }) :
    wpAny (model prog w) A (setItem (.ref D) (.int k t) v) Q E s := by
  obtain ⟨pre, post, rfl, rfl, a, b⟩ := U.split
  have z := N (D, listOf vs.toArray n) (List.mem_append.mpr (.inr (.head _)))
  have hs : vs.toArray.size = vs.length := List.size_toArray ..
  refine ki_setAt z.1 h0 hfit (by omega) (h _ (F.change (Heap.SameBut.update ..) z.2.1 z.2.2) (ki_turn _ N a b ?_ ?_))
  · show vs.toArray.setIfInBounds k.toNat v = (vs.set k.toNat v).toArray
    apply Array.toList_inj.mp
    simp
  · simp
abbrev Mat := List (List Rat)
def at2 (M : Mat) (j k : Nat) : Rat := (M.getD j []).getD k 0
def plM (M : Mat) (k i : Nat) : Option Nat := (List.range i).foldl (fun p d => if p = none ∧ at2 M (k + d) k ≠ 0 then some (k + d) else p) none
def swapM (k j : Nat) (M : Mat) : Mat := (M.set k (M.getD j [])).set j (M.getD k [])
def normM (k : Nat) (M : Mat) : Mat := M.set k ((M.getD k []).map (· / at2 M k k))
def elimM (n k : Nat) (M : Mat) (j : Nat) : Mat := if j ≠ k ∧ at2 M j k ≠ 0 then M.set j ((List.range (n + 1)).map fun m => at2 M j m - at2 M j k * at2 M k m) else M
def stepM (n k : Nat) (M : Mat) : Option Mat := (plM M k (n - k)).map fun p => (List.range n).foldl (elimM n k) (normM k (swapM k p M))
def gjM (n : Nat) : Nat → Mat → Option Mat
  | 0, M => some M
  | i + 1, M => (gjM n i M).bind (stepM n i)
theorem r2 : List.range 2 = [0, 1] := rfl
theorem r1 : List.range 1 = [0] := rfl
theorem r3 : List.range 3 = [0, 1, 2] := rfl
theorem gj_04 (a b c d e f : Rat) (ha : a ≠ 0) (hd : a * d - b * c ≠ 0) : ∃ x y, gjM 2 2 [[a, b, e], [c, d, f]] = some [[1, 0, x], [0, 1, y]] ∧ a * x + b * y = e ∧ c * x + d * y = f := by
  have e0 : gjM 2 1 [[a, b, e], [c, d, f]] = some [[1, b / a, e / a], [0, d - c * (b / a), f - c * (e / a)]] := by
    by_cases hc : c = 0
    · subst hc
      simp [gjM, stepM, plM, swapM, normM, elimM, at2, r2, r3, ha]
      grind
    · simp [gjM, stepM, plM, swapM, normM, elimM, at2, r2, r3, hc, ha]
      grind
  have hn : d - c * (b / a) ≠ 0 := by
    intro h
    apply hd
    have : a * (d - c * (b / a)) = a * d - b * c := by grind
    rw [← this, h]; grind
  rw [gjM, e0]
  generalize hp : d - c * (b / a) = p at *
  generalize hq : f - c * (e / a) = q at *
  by_cases hb : b / a = 0
  · have : b = 0 := by grind
    refine ⟨e / a, q / p, ?_, ?_, ?_⟩
    · simp [stepM, plM, swapM, normM, elimM, at2, r2, r3, hb, hn]
      try grind
    · grind
    · grind
  · refine ⟨e / a - (b / a) * (q / p), q / p, ?_, ?_, ?_⟩
    · simp [stepM, plM, swapM, normM, elimM, at2, r2, r3, hb, hn]
      try grind
    · grind
    · grind
def OffC (L q : Nat) : Prop := q ≤ L ∨ L + 8 ≤ q
theorem off_c {tl : List (Addr × Obj)} {L c : Nat} (h : ∀ p ∈ tl, OffC L p.1) (h1 : L < c) (h2 : c < L + 8) : ∀ p ∈ tl, p.1 ≠ c := fun p hp e => by
  have := h p hp
  unfold OffC at this
  have e' : @Eq Nat p.1 c := e
  omega
theorem offc_cons {L : Nat} {q : Addr × Obj} {tl : List (Addr × Obj)} (hq : OffC L q.1) (h : ∀ p ∈ tl, OffC L p.1) : ∀ p ∈ q :: tl, OffC L p.1 := List.forall_mem_cons.mpr ⟨hq, h⟩
theorem ne_cons {t : Addr} {q : Addr × Obj} {tl : List (Addr × Obj)} (hq : q.1 ≠ t) (h : ∀ p ∈ tl, p.1 ≠ t) : ∀ p ∈ q :: tl, p.1 ≠ t := List.forall_mem_cons.mpr ⟨hq, h⟩
theorem subs_of {h₀ h' : Heap} {L : Addr} {all TL : List (Addr × Obj)} (_N : News h₀ L h' all) (hs : ∀ p ∈ TL, p ∈ all) : ∀ p ∈ TL, p ∈ all := hs
theorem news_sub {h₀ h : Heap} {L : Addr} {l all : List (Addr × Obj)} (N : News h₀ L h all) (hs : ∀ p ∈ l, p ∈ all) : News h₀ L h l := fun p hp => N p (hs p hp)
theorem src_tk {prog : Program} {w : World} {A : Around} {h₀ : Heap} {L : Addr} {m : Str → Option Value} {env : Env} {elt : Expr} {x : Str} {scope : Scope} {cl : List (Str × Addr)} {Fin : Shared → List Value → List (Addr × Obj) → Prop} {ax : Addr} {its : Array Value} {k : Nat} {nx news : List (Addr × Obj)} {s₁ : Shared}
    (hh : A.handled = none) (F : Fr h₀ L s₁.heap m) (N : News h₀ L s₁.heap news) (hT : Tk h₀ nx ax (listOf its k)) (hs : ∀ p ∈ nx, p ∈ news) (hsz : its.size ≤ sizeLine)
    (h : ∀ g, LCg.CompRest prog w A h₀ L m env elt x scope cl { s₁ with heap := g } (LCg.SrcAt h₀ ax its) (fun i v => its[i]? = some v) (Fin { s₁ with heap := g }) its.size 0 [] news) :
    LCg.CompSrc prog w A h₀ L m env elt x scope cl Fin (.ref ax) s₁ := .inl ⟨ax, its, news, rfl, hh, F, N, hT.elim (fun e => .inr ⟨_, hs _ e, rfl, _, rfl⟩) (fun e => .inl ⟨_, e, rfl, _, rfl⟩), hsz, fun _ ⟨g, e⟩ => e ▸ h g⟩
theorem srcAt_tk {h₀ : Heap} {ax : Addr} {its : Array Value} {k : Nat} {nx news : List (Addr × Obj)} (hT : Tk h₀ nx ax (listOf its k)) (hs : ∀ p ∈ nx, p ∈ news) : LCg.SrcAt h₀ ax its news := hT.elim (fun e => .inr ⟨_, hs _ e, rfl, _, rfl⟩) (fun e => .inl ⟨_, e, rfl, _, rfl⟩)
theorem off9 {I C D : Addr} {p1 p2 p3 p4 p5 p6 p7 p8 p9 q : Addr × Obj} {tl : List (Addr × Obj)} (h : LCg.Off3 I C D (p1 :: p2 :: p3 :: p4 :: p5 :: p6 :: p7 :: p8 :: p9 :: tl)) (a : q.1 ≠ I) (b : q.1 ≠ C) (c : q.1 ≠ D) : LCg.Off3 I C D (p1 :: p2 :: p3 :: p4 :: p5 :: p6 :: p7 :: p8 :: p9 :: q :: tl) :=
  let ⟨h1, h2, h3, h4, h5, h6, h7, h8, h9, t⟩ := h; ⟨h1, h2, h3, h4, h5, h6, h7, h8, h9, ⟨a, b, c⟩, t⟩
theorem bd_snoc {b : Nat} {l : List Rat} {y : Rat} (h : ∀ x ∈ l, Bd b x) (hy : Bd b y) : ∀ x ∈ l ++ [y], Bd b x := List.forall_mem_append.mpr ⟨h, List.forall_mem_cons.mpr ⟨hy, List.forall_mem_nil _⟩⟩
def augM (M : Mat) (sd : List Rat) : Mat := List.zipWith (fun r x => r ++ [x]) M sd
theorem aug_get {M : Mat} {sd : List Rat} {i : Nat} {r : List Rat} {x : Rat} (h : M[i]? = some r) (k : sd[i]? = some x) : (augM M sd)[i]? = some (r ++ [x]) := by
  unfold augM; rw [List.getElem?_zipWith, h, k]
theorem take_snoc_of {α : Type} {l : List α} {i : Nat} {x : α} (h : l[i]? = some x) : l.take (i + 1) = l.take i ++ [x] := by rw [List.take_add_one, h]; rfl
theorem ex_at {α : Type} {l : List α} {i : Nat} (h : i < l.length) : ∃ x, l[i]? = some x := ⟨l[i], List.getElem?_eq_getElem h⟩
theorem aug_mem {M : Mat} {sd : List Rat} {r : List Rat} (h : r ∈ augM M sd) : ∃ q ∈ M, ∃ x ∈ sd, r = q ++ [x] := by
  unfold augM at h
  obtain ⟨i, hi, e⟩ := List.mem_iff_getElem.mp h
  rw [List.getElem_zipWith] at e
  exact ⟨_, List.getElem_mem .., _, List.getElem_mem .., e.symm⟩
theorem aug_rows {M : Mat} {sd : List Rat} {n : Nat} (h : ∀ r ∈ M, r.length = n) : ∀ r ∈ augM M sd, r.length = n + 1 := by
  intro r hr
  obtain ⟨q, hq, x, _, rfl⟩ := aug_mem hr
  rw [List.length_append, h q hq]; rfl
theorem aug_bd {M : Mat} {sd : List Rat} {b : Nat} (h : ∀ r ∈ M, ∀ x ∈ r, Bd b x) (h2 : ∀ x ∈ sd, Bd b x) : ∀ r ∈ augM M sd, ∀ x ∈ r, Bd b x := by
  intro r hr y hy
  obtain ⟨q, hq, x, hx, rfl⟩ := aug_mem hr
  rcases List.mem_append.mp hy with hy | hy
  · exact h q hq y hy
  · rw [List.mem_singleton.mp hy]; exact h2 x hx
theorem swap_all {R : Value → List Rat → Prop} {vs : List Value} {M : Mat} {i p : Nat} {vi vp : Value} {ri rp : List Rat} (h : All2 R vs M) (hri : M[i]? = some ri) (hrp : M[p]? = some rp) (ai : R vi ri) (ap : R vp rp) : All2 R ((vs.set i vp).set p vi) (swapM i p M) := by
  have e1 : M.getD i [] = ri := by simp [List.getD_eq_getElem?_getD, hri]
  have e2 : M.getD p [] = rp := by simp [List.getD_eq_getElem?_getD, hrp]
  unfold swapM
  rw [e1, e2]
  exact (h.set ap i).set ai p
theorem row_facts {M : Mat} {Q : List Rat → Prop} {r : List Rat} (i : Nat) (h : ∀ r ∈ M, Q r) (hr : Q r) : ∀ q ∈ M.set i r, Q q := by
  intro q hq
  rcases List.mem_or_eq_of_mem_set hq with h1 | h1
  · exact h q h1
  · rw [h1]; exact hr
theorem getD_mem {M : Mat} {i : Nat} (h : i < M.length) : M.getD i [] ∈ M := by
  rw [List.getD_eq_getElem?_getD, List.getElem?_eq_getElem h, Option.getD_some]; exact List.getElem_mem ..
theorem swap_facts {M : Mat} {i p c b : Nat} (hi : i < M.length) (hp : p < M.length) (hr : ∀ r ∈ M, r.length = c) (hb : ∀ r ∈ M, ∀ x ∈ r, Bd b x) : (swapM i p M).length = M.length ∧ (∀ r ∈ swapM i p M, r.length = c) ∧ (∀ r ∈ swapM i p M, ∀ x ∈ r, Bd b x) := by
  refine ⟨by simp [swapM], ?_, ?_⟩
  · exact row_facts (Q := fun r => r.length = c) p (row_facts i hr (hr _ (getD_mem hp))) (hr _ (getD_mem hi))
  · exact row_facts (Q := fun r => ∀ x ∈ r, Bd b x) p (row_facts (Q := fun r => ∀ x ∈ r, Bd b x) i hb (hb _ (getD_mem hp))) (hb _ (getD_mem hi))
theorem swap_at {M : Mat} {i p k : Nat} {ri rp : List Rat} (hri : M[i]? = some ri) (hrp : M[p]? = some rp) : at2 (swapM i p M) i k = at2 M p k := by
  have hi : i < M.length := (List.getElem?_eq_some_iff.mp hri).1
  have hp : p < M.length := (List.getElem?_eq_some_iff.mp hrp).1
  have e1 : M.getD i [] = ri := by simp [List.getD_eq_getElem?_getD, hri]
  have e2 : M.getD p [] = rp := by simp [List.getD_eq_getElem?_getD, hrp]
  unfold at2 swapM
  rw [e1, e2]
  congr 1
  rw [List.getD_eq_getElem?_getD, List.getElem?_set]
  by_cases h : p = i
  · subst h
    rw [if_pos rfl, if_pos (by simpa using hp), Option.getD_some]
    rw [hri] at hrp; exact Option.some.inj hrp
  · rw [if_neg h, List.getElem?_set_self (by simpa using hi), Option.getD_some]
theorem at2_of {M : Mat} {j k : Nat} {r : List Rat} {x : Rat} (h : M[j]? = some r) (h' : r[k]? = some x) : at2 M j k = x := by
  simp [at2, List.getD_eq_getElem?_getD, h, h']
theorem norm_eq {M : Mat} {i : Nat} {rq : List Rat} {x : Rat} (hrq : M[i]? = some rq) (hx : rq[i]? = some x) : normM i M = M.set i (rq.map (· / x)) := by
  have e1 : M.getD i [] = rq := by simp [List.getD_eq_getElem?_getD, hrq]
  unfold normM
  rw [e1, at2_of hrq hx]
theorem norm_all {R : Value → List Rat → Prop} {vs : List Value} {M : Mat} {i : Nat} {v : Value} {rq : List Rat} {x : Rat} (h : All2 R vs M) (hrq : M[i]? = some rq) (hx : rq[i]? = some x) (hr : R v (rq.map (· / x))) : All2 R (vs.set i v) (normM i M) := by
  rw [norm_eq hrq hx]; exact h.set hr i
def elB (β i j q : Nat) : Nat := if q = i then β + β else if q < j then 4 * β + 1 else β
theorem norm_facts {M : Mat} {i c β : Nat} {rq : List Rat} {x : Rat} (hrq : M[i]? = some rq) (hx : rq[i]? = some x) (hr : ∀ r ∈ M, r.length = c) (hb : ∀ r ∈ M, ∀ x ∈ r, Bd β x) (hq : ∀ y ∈ rq.map (· / x), Bd (β + β) y) :
    (normM i M).length = M.length ∧ (∀ r ∈ normM i M, r.length = c) ∧ (∀ q r, (normM i M)[q]? = some r → ∀ y ∈ r, Bd (elB β i 0 q) y) := by
  rw [norm_eq hrq hx]
  refine ⟨List.length_set, row_facts (Q := fun r => r.length = c) i hr (by rw [List.length_map]; exact hr _ (List.mem_of_getElem? hrq)), fun q r h => ?_⟩
  unfold elB
  by_cases hqi : q = i
  · subst hqi
    rw [List.getElem?_set_self (List.getElem?_eq_some_iff.mp hrq).1] at h
    rw [if_pos rfl, ← Option.some.inj h]; exact hq
  · rw [List.getElem?_set_ne (fun e => hqi e.symm)] at h
    rw [if_neg hqi, if_neg (Nat.not_lt_zero _)]; exact hb _ (List.mem_of_getElem? h)
def elimR (n i : Nat) (M : Mat) (j : Nat) : List Rat := (List.range (n + 1)).map fun m => at2 M j m - at2 M j i * at2 M i m
theorem elimR_len {n i j : Nat} {M : Mat} : (elimR n i M j).length = n + 1 := by simp [elimR]
theorem elimR_get {n i j c : Nat} {M : Mat} {rj ri : List Rat} {x yj yi : Rat} (hc : c < n + 1) (hj : M[j]? = some rj) (hi : M[i]? = some ri) (hx : rj[i]? = some x) (hyj : rj[c]? = some yj) (hyi : ri[c]? = some yi) : (elimR n i M j)[c]? = some (yj - x * yi) := by
  unfold elimR
  rw [List.getElem?_map, List.getElem?_range hc, Option.map_some, at2_of hj hyj, at2_of hj hx, at2_of hi hyi]
theorem elim_eq {n i j : Nat} {M : Mat} (h : j ≠ i) (h2 : at2 M j i ≠ 0) : elimM n i M j = M.set j (elimR n i M j) := by unfold elimM; rw [if_pos ⟨h, h2⟩]; rfl
theorem elB_self {β i j : Nat} (h : j ≠ i) : elB β i j j = β := by unfold elB; rw [if_neg h, if_neg (Nat.lt_irrefl _)]
theorem elB_piv {β i j : Nat} : elB β i j i = β + β := if_pos rfl
theorem elB_le {β i j q : Nat} : elB β i j q ≤ elB β i (j + 1) q := by
  unfold elB
  split
  · exact Nat.le_refl _
  · split
    · rw [if_pos (by omega)]; exact Nat.le_refl _
    · split <;> omega
theorem elB_top {β i j q : Nat} : elB β i j q ≤ 4 * β + 1 := by
  unfold elB
  split
  · omega
  · split <;> omega
theorem elB_mono {M : Mat} {β i j : Nat} (h : ∀ q r, M[q]? = some r → ∀ y ∈ r, Bd (elB β i j q) y) : ∀ q r, M[q]? = some r → ∀ y ∈ r, Bd (elB β i (j + 1) q) y := fun q r e y hy => (h q r e y hy).mono elB_le
theorem elim_bd {M : Mat} {β i j : Nat} {rn : List Rat} (hji : j ≠ i) (hj : j < M.length) (h : ∀ q r, M[q]? = some r → ∀ y ∈ r, Bd (elB β i j q) y) (hn : ∀ y ∈ rn, Bd (4 * β + 1) y) : ∀ q r, (M.set j rn)[q]? = some r → ∀ y ∈ r, Bd (elB β i (j + 1) q) y := by
  intro q r e y hy
  by_cases hq : q = j
  · subst hq
    rw [List.getElem?_set_self hj] at e
    rw [← Option.some.inj e] at hy
    have : elB β i (q + 1) q = 4 * β + 1 := by unfold elB; rw [if_neg hji, if_pos (by omega)]
    rw [this]; exact hn y hy
  · rw [List.getElem?_set_ne (fun e => hq e.symm)] at e
    exact (h q r e y hy).mono elB_le
theorem off10 {I C D : Addr} {p0 p1 p2 p3 p4 p5 p6 p7 p8 p9 q : Addr × Obj} {tl : List (Addr × Obj)} (h : LCg.Off3 I C D (p0 :: p1 :: p2 :: p3 :: p4 :: p5 :: p6 :: p7 :: p8 :: p9 :: tl)) (a : q.1 ≠ I) (b : q.1 ≠ C) (c : q.1 ≠ D) : LCg.Off3 I C D (p0 :: p1 :: p2 :: p3 :: p4 :: p5 :: p6 :: p7 :: p8 :: p9 :: q :: tl) :=
  let ⟨h0, h1, h2, h3, h4, h5, h6, h7, h8, h9, t⟩ := h; ⟨h0, h1, h2, h3, h4, h5, h6, h7, h8, h9, ⟨a, b, c⟩, t⟩
theorem off7 {I C D : Addr} {p1 p2 p3 p4 p5 p6 p7 q : Addr × Obj} {tl : List (Addr × Obj)} (h : LCg.Off3 I C D (p1 :: p2 :: p3 :: p4 :: p5 :: p6 :: p7 :: tl)) (a : q.1 ≠ I) (b : q.1 ≠ C) (c : q.1 ≠ D) : LCg.Off3 I C D (p1 :: p2 :: p3 :: p4 :: p5 :: p6 :: p7 :: q :: tl) :=
  let ⟨h1, h2, h3, h4, h5, h6, h7, t⟩ := h; ⟨h1, h2, h3, h4, h5, h6, h7, ⟨a, b, c⟩, t⟩
theorem rats_new {P : Addr → Obj → Prop} {D : Addr} {vs : List Value} {n : Nat} {rs : List Rat} (h : P D (listOf vs.toArray n)) (a : All2 (RatN P) vs rs) : RatsN P (.ref D) rs := ⟨D, vs, n, rfl, h, a⟩
def bnd (b : Nat) : Nat → Nat
  | 0 => b
  | i + 1 => 4 * bnd b i + 1
theorem bnd_le2 {b i : Nat} (hb : b ≤ 64) (hi : i < 3) : bnd b i ≤ 1029 := by
  have h : i = 0 ∨ i = 1 ∨ i = 2 := by omega
  rcases h with rfl | rfl | rfl <;> simp only [bnd] <;> omega
theorem gj_step {n i : Nat} {M Y : Mat} (h : gjM n (i + 1) M = some Y) {Mi : Mat} (hi : gjM n i M = some Mi) : ∃ p, plM Mi i (n - i) = some p ∧ Y = (List.range n).foldl (elimM n i) (normM i (swapM i p Mi)) := by
  rw [gjM, hi] at h
  simp only [Option.bind_some, stepM] at h
  obtain ⟨p, hp, e⟩ := Option.map_eq_some_iff.mp h
  exact ⟨p, hp, e.symm⟩
theorem gj_upto {n k : Nat} {M Z : Mat} (h : gjM n k M = some Z) : ∀ i ≤ k, ∃ Y, gjM n i M = some Y := by
  induction k generalizing Z with
  | zero => intro i hi; exact ⟨Z, by rw [show i = 0 by omega]; exact h⟩
  | succ k ih =>
    intro i hi
    rcases Nat.lt_or_ge k i with hk | hk
    · exact ⟨Z, by rw [show i = k + 1 by omega]; exact h⟩
    · rw [gjM] at h
      obtain ⟨Y, hy, _⟩ := Option.bind_eq_some_iff.mp h
      exact ih hy i hk
theorem plM_succ (M : Mat) (k i : Nat) : plM M k (i + 1) = if plM M k i = none ∧ at2 M (k + i) k ≠ 0 then some (k + i) else plM M k i := by
  unfold plM
  rw [List.range_succ, List.foldl_append]; rfl
theorem plM_spec {M : Mat} {k c p : Nat} (h : plM M k c = some p) : k ≤ p ∧ p < k + c ∧ at2 M p k ≠ 0 := by
  induction c with
  | zero => simp [plM] at h
  | succ c ih =>
    rw [plM_succ] at h
    split at h
    · rename_i hc
      have := Option.some.inj h
      subst this
      exact ⟨by omega, by omega, hc.2⟩
    · obtain ⟨a, b, d⟩ := ih h
      exact ⟨a, by omega, d⟩
theorem num_ne {x : Rat} (h : x.num ≠ 0) : x ≠ 0 := fun e => h (by rw [e]; rfl)
theorem num_eq {x : Rat} (h : x.num = 0) : x = 0 := Rat.num_eq_zero.mp h

local macro_rules | `(tactic| k_all) => `(tactic| exact off_c (by with_reducible assumption) (by omega) (by omega))
local macro_rules | `(tactic| walk_at "hat9") => `(tactic| (first | exact News.get (by k_asm) (by k_mem) | exact Fr.keep (by k_asm) _ _ (by with_reducible assumption) | exact Tk.get (by k_asm) (by k_asm) (by with_reducible assumption) (by intro p9 hp9; first | exact hp9 | exact absurd hp9 List.not_mem_nil | (repeat (first | exact hp9 | refine List.mem_cons_of_mem _ ?_))) | exact Frag.In.keeps (by k_asm) (Fr.keep (by k_asm)) _ _ (by k_is)))
local macro_rules | `(tactic| ktr_units) => `(tactic| (have hcL9 := cLine_is; (try simp only [units_under_make, units_in1, units_deeper, Around.mark_units, units_caller]); (try dsimp only [ktrTop]); omega))
local macro_rules | `(tactic| walk_at "call ref") => `(tactic| (k_here; (with_reducible show wpAny _ _ (call (Value.ref 56) [Value.ref _, Value.ref _]) _ _ _); k_dflt (refine' minus_r ?k1 ?k2 ?k3 ?k4 ?k5 ?k6 ?m1 ?m2 ?k7 ?k8 ?b1 ?b2 ?hb ?_; (case k1 => k_asm); (case k2 => k_asm); (case k3 => k_asm); (case k4 => k_asm); (case k5 => k_asm); (case k6 => first | exact rfl | assumption); (case k7 => first | exact Nat.le_of_ble_eq_true rfl | ktr_room); (case k8 => first | exact Nat.le_of_ble_eq_true rfl | ktr_units); (case m1 => (walk_at "hat9")); (case m2 => (walk_at "hat9")); (case b1 => with_reducible assumption); (case b2 => with_reducible assumption); (case hb => first | assumption | omega | decide); k_whole); intro D' t' u' c' h' tk' bD' F' N' l1; (try (replace l1 := allNe_of l1; simp only [AllNe, and_true] at l1)); (try k_sweep)))
local macro_rules | `(tactic| walk_at "call ref") => `(tactic| (k_here; (with_reducible show wpAny _ _ (call (Value.ref 63) [Value.ref _, Value.ref _]) _ _ _); k_dflt (refine' times_r ?k1 ?k2 ?k3 ?k4 ?k5 ?k6 ?m1 ?m2 ?k7 ?k8 ?b1 ?b2 ?hb ?_; (case k1 => k_asm); (case k2 => k_asm); (case k3 => k_asm); (case k4 => k_asm); (case k5 => k_asm); (case k6 => first | exact rfl | assumption); (case k7 => first | exact Nat.le_of_ble_eq_true rfl | ktr_room); (case k8 => first | exact Nat.le_of_ble_eq_true rfl | ktr_units); (case m1 => (walk_at "hat9")); (case m2 => (walk_at "hat9")); (case b1 => with_reducible assumption); (case b2 => with_reducible assumption); (case hb => first | assumption | omega | decide); k_whole); intro D' t' u' c' h' tk' bD' F' N' l1; (try (replace l1 := allNe_of l1; simp only [AllNe, and_true] at l1)); (try k_sweep)))
local macro_rules | `(tactic| walk_at "call ref") => `(tactic| (k_here; (with_reducible show wpAny _ _ (call (Value.ref 70) [Value.ref _, Value.ref _]) _ _ _); k_dflt (refine' over_r ?k1 ?k2 ?k3 ?k4 ?k5 ?k6 ?m1 ?m2 ?k7 ?k8 ?b1 ?b2 ?hz ?hb ?_; (case k1 => k_asm); (case k2 => k_asm); (case k3 => k_asm); (case k4 => k_asm); (case k5 => k_asm); (case k6 => first | exact rfl | assumption); (case k7 => first | exact Nat.le_of_ble_eq_true rfl | ktr_room); (case k8 => first | exact Nat.le_of_ble_eq_true rfl | ktr_units); (case m1 => (walk_at "hat9")); (case m2 => (walk_at "hat9")); (case b1 => with_reducible assumption); (case b2 => with_reducible assumption); (case hb => first | assumption | omega | decide); (case hz => first | assumption | grind); k_whole); intro D' t' u' c' h' tk' bD' F' N' l1; (try (replace l1 := allNe_of l1; simp only [AllNe, and_true] at l1)); (try k_sweep)))
local macro_rules | `(tactic| walk_at "subscriptTail") => `(tactic| (k_here; (with_reducible show wpAny _ _ (subscriptTail _ _ (Value.ref _) (Value.int _ _)) _ _ _); k_dflt (refine' tup_t ?k1 ?k0 ?k2 ?kS ?k3 ?k4 ?k5 ?k6 ?k7 ?k8 ?_ ?k9 ?k10; (case k1 => k_asm); (case k0 => k_asm); (case k2 => with_reducible assumption); (case kS => exact (by intro p9 hp9; first | exact hp9 | exact absurd hp9 List.not_mem_nil | (repeat (first | exact hp9 | refine List.mem_cons_of_mem _ ?_)))); (case k3 => exact rfl); (case k4 => exact rfl); (case k5 => decide); (case k6 => decide); (case k7 => exact rfl); (case k8 => exact rfl); (case k9 => with_unfolding_all rfl); (case k10 => (intro _; with_unfolding_all rfl)); k_whole)))
local macro_rules | `(tactic| walk_at "assign Tuple") => `(tactic| (k_here; (with_reducible show wpAny _ _ (assign (Expr.Tuple _ _ _) _ (Value.ref _)) _ _ _); k_dflt (refine' unpack_t ?F ?N ?k ?kS ?c ?d ?k1 ?k2 ?k3 ?_; (case F => k_asm); (case N => k_asm); (case k => with_reducible assumption); (case kS => exact (by intro p9 hp9; first | exact hp9 | exact absurd hp9 List.not_mem_nil | (repeat (first | exact hp9 | refine List.mem_cons_of_mem _ ?_)))); (case c => exact rfl); (case d => exact rfl); (case k1 => exact rfl); (case k2 => exact rfl); (case k3 => exact rfl)); intro h' F' N'; (try k_sweep)))
local macro_rules | `(tactic| k_all) => `(tactic| with_reducible assumption)
local macro_rules | `(tactic| size_fits) => `(tactic| ((simp only [List.size_toArray]); rw [sizeLine_eq]; omega))
local macro_rules | `(tactic| walk_at "eval Name") => `(tactic| (k_here; k_dflt (refine' nameX_L ?k1 ?k2 ?_ ?k3 ?k4; (case k1 => k_asm); (case k2 => first | exact rfl | assumption); (case k3 => rfl); (case k4 => rfl); k_whole)))
local macro_rules | `(tactic| walk_at "exec For") => `(tactic| (k_here; (rename Fr _ _ _ _ => lF'); (with_unfolding_all refine' For_turns lF' ?_; k_whole)))
local macro_rules | `(tactic| walk_at "exec For Name Name cons nil") => `(tactic| (k_here; (rename Fr _ _ _ _ => lF'); (with_unfolding_all refine' For_turns lF' ?_; k_whole)))
local macro_rules | `(tactic| walk_at "exec For Name Call cons nil") => `(tactic| (k_here; (rename Fr _ _ _ _ => lF'); (with_unfolding_all refine' For_turns lF' ?_; k_whole)))
local macro_rules | `(tactic| walk_at "exec For Tuple Name cons nil") => `(tactic| (k_here; (rename Fr _ _ _ _ => lF'); (with_unfolding_all refine' For_turns lF' ?_; k_whole)))
local macro_rules | `(tactic| walk_at "exec For Tuple Call cons nil") => `(tactic| (k_here; (rename Fr _ _ _ _ => lF'); (with_unfolding_all refine' For_turns lF' ?_; k_whole)))
local macro_rules | `(tactic| walk_at "exec For Name Attribute cons nil") => `(tactic| (k_here; (rename Fr _ _ _ _ => lF'); (with_unfolding_all refine' For_turns lF' ?_; k_whole)))
local macro_rules | `(tactic| walk_at "exec For Tuple Attribute cons nil") => `(tactic| (k_here; (rename Fr _ _ _ _ => lF'); (with_unfolding_all refine' For_turns lF' ?_; k_whole)))
local macro_rules | `(tactic| walk_at "exec For Tuple Subscript cons nil") => `(tactic| (k_here; (rename Fr _ _ _ _ => lF'); (with_unfolding_all refine' For_turns lF' ?_; k_whole)))
local macro_rules | `(tactic| walk_at "pyIter ref") => `(tactic| ((with_reducible show wpAny _ _ (pyIter (Value.ref _)) (fun it s₂ => TurnsAt _ _ _ _ _ _ _ _ _ it s₂) _ _); refine Hold.out ?_))
local macro_rules | `(tactic| walk_at "UnrPostW") => `(tactic| (dsimp only [UnrPostW]))
local macro_rules | `(tactic| walk_at "UnrEndW") => `(tactic| (refine Hold.out ?_))
local macro_rules | `(tactic| walk_at "eval ListComp") => `(tactic| (k_here; lcg_look; k_dflt (refine LCg.ListComp_U (F₀ := by k_asm) (by rfl) (by decide) (by rfl) (by decide) (by rfl) ?_); k_dflt lcg_toSrc))
local macro_rules | `(tactic| walk_at "eval ListComp") => `(tactic| (k_here; lcf_look; k_dflt (refine LCg.ListComp_U (F₀ := by k_asm) (by with_unfolding_all rfl) (by decide) (by rfl) (by decide) (by rfl) ?_); k_dflt lcg_toSrc))
local macro_rules | `(tactic| walk_at "exec Assign cons ListComp") => `(tactic| (k_here; lcg_look; k_dflt (refine LCg.Assign_ListComp_U (F₀ := by k_asm) (by rfl) (by with_unfolding_all rfl) (by rfl) (by decide) (by rfl) (by decide) (by rfl) (by rfl) (by rfl) ?_); k_dflt lcg_toSrc))
local macro_rules | `(tactic| walk_at "exec Assign cons ListComp") => `(tactic| (k_here; lcf_look; k_dflt (refine LCg.Assign_ListComp_U (F₀ := by k_asm) (by rfl) (by with_unfolding_all rfl) (by with_unfolding_all rfl) (by decide) (by rfl) (by decide) (by rfl) (by rfl) (by rfl) ?_); k_dflt lcg_toSrc))
local macro_rules | `(tactic| walk_at "CompSrc") => `(tactic| (refine Hold.out ?_))
local macro_rules | `(tactic| walk_at "CompEnd") => `(tactic| (show LCg.CompEnd _ _ _ _ _ _ _ _ _ _ _ _ _ _; refine Hold.out ?_))
local macro_rules | `(tactic| walk_at "call builtin:len") => `(tactic| (k_here; (with_reducible show wpAny _ _ (call (Value.builtin "len") [Value.ref _]) _ _ _); k_dflt (refine' lst_lenT ?k1 ?k0 ?k2 ?kS ?k3 ?_; (case k1 => k_asm); (case k0 => k_asm); (case k2 => with_reducible assumption); (case kS => exact (by intro p9 hp9; first | exact hp9 | exact absurd hp9 List.not_mem_nil | (repeat (first | exact hp9 | refine List.mem_cons_of_mem _ ?_)))); (case k3 => ((try simp only [List.length_append, List.length_cons, List.length_nil]); omega)); k_whole); intro tk9; (try simp only [List.length_append, List.length_cons, List.length_nil])))
local macro_rules | `(tactic| walk_at "subscriptTail") => `(tactic| (k_here; (with_reducible show wpAny _ _ (subscriptTail _ _ (Value.ref _) (Value.int _ _)) _ _ _); k_dflt (refine' list_t ?k1 ?k0 ?k2 ?kS ?k3 ?k4 ?k5 ?k6 ?k8 ?_ ?k9 ?k10; (case k1 => k_asm); (case k0 => k_asm); (case k2 => with_reducible assumption); (case kS => exact (by intro p9 hp9; first | exact hp9 | exact absurd hp9 List.not_mem_nil | (repeat (first | exact hp9 | refine List.mem_cons_of_mem _ ?_)))); (case k3 => exact rfl); (case k4 => exact rfl); (case k5 => first | decide | omega); (case k6 => first | decide | omega); (case k8 => with_reducible assumption); (case k9 => with_unfolding_all rfl); (case k10 => (intro _; with_unfolding_all rfl)); k_whole)))
local macro_rules | `(tactic| walk_at "subscriptTail") => `(tactic| (k_here; (with_reducible show wpAny _ _ (subscriptTail _ _ (Value.ref _) (Value.int _ _)) _ _ _); k_dflt (refine' back_t ?k1 ?k0 ?k2 ?kS ?k3 ?k4 ?k5 ?k6 ?k7 ?k8 ?_ ?k9 ?k10; (case k1 => k_asm); (case k0 => k_asm); (case k2 => with_reducible assumption); (case kS => exact (by intro p9 hp9; first | exact hp9 | exact absurd hp9 List.not_mem_nil | (repeat (first | exact hp9 | refine List.mem_cons_of_mem _ ?_)))); (case k3 => exact rfl); (case k4 => exact rfl); (case k5 => decide); (case k6 => omega); (case k7 => decide); (case k8 => with_reducible assumption); (case k9 => with_unfolding_all rfl); (case k10 => (intro _; with_unfolding_all rfl)); k_whole)))
local macro_rules | `(tactic| walk_at "binaryOp Add ref ref") => `(tactic| (k_here; (with_reducible show wpAny _ _ (binaryOp Operator.Add (Value.ref _) (Value.ref _)) _ _ _); k_dflt (refine' add_k ?F ?N ?a ?b ?z ?_; (case F => k_asm); (case N => k_asm); (case a => (walk_at "hat9")); (case b => (walk_at "hat9")); (case z => ((try simp only [List.length_cons, List.length_nil]); omega)); k_whole); intro D' h' F' N' l1; (try k_lt l1); (try k_sweep)))
local macro_rules | `(tactic| walk_at "call type:list") => `(tactic| (k_here; (with_reducible show wpAny _ _ (call (Value.type _) [Value.ref _]) _ _ _); k_dflt (refine' list_copyK ?k1 ?k2 ?k3 ?_ ?z; (case k1 => k_asm); (case k2 => k_asm); (case k3 => exact ⟨_, Tk.get (by k_asm) (by k_asm) (by with_reducible assumption) (by intro p9 hp9; first | exact hp9 | exact absurd hp9 List.not_mem_nil | (repeat (first | exact hp9 | refine List.mem_cons_of_mem _ ?_))), rfl, _, rfl⟩); (case z => size_fits); k_whole); intro D' c' h' F' N' l1; (try k_lt l1); (try k_sweep)))
local macro_rules | `(tactic| walk_at "subscriptTail") => `(tactic| (k_here; (with_reducible show wpAny _ _ (subscriptTail _ _ (Value.ref _) (Value.int _ _)) _ _ _); k_dflt (refine' kim_list ?k1 ?k2 ?k3 ?k4 ?k5 ?k6 ?k7 ?_ ?k8 ?k9; (case k1 => k_asm); (case k2 => k_mem); (case k3 => exact rfl); (case k4 => exact rfl); (case k5 => omega); (case k6 => omega); (case k7 => with_reducible assumption); (case k8 => with_unfolding_all rfl); (case k9 => (intro _; with_unfolding_all rfl)); k_whole)))
local macro_rules | `(tactic| walk_at "setItem ref int") => `(tactic| (k_here; (with_reducible show wpAny _ _ (setItem (Value.ref _) (Value.int _ _) (Value.ref _)) _ _ _); refine Hold.out ?_))
local macro_rules | `(tactic| walk_at "subscriptTail Name Name ref int") => `(tactic| (k_here; (with_reducible show wpAny _ _ (subscriptTail _ _ (Value.ref _) (Value.int _ _)) _ _ _); k_dflt (refine' list_t ?k1 ?k0 ?k2 ?kS ?k3 ?k4 ?k5 ?k6 ?k8 ?_ ?k9 ?k10; (case k1 => k_asm); (case k0 => k_asm); (case k2 => with_reducible assumption); (case kS => exact (by intro p9 hp9; first | exact hp9 | exact absurd hp9 List.not_mem_nil | (repeat (first | exact hp9 | refine List.mem_cons_of_mem _ ?_)))); (case k3 => exact rfl); (case k4 => exact rfl); (case k5 => first | decide | omega); (case k6 => first | decide | omega); (case k8 => with_reducible assumption); (case k9 => with_unfolding_all rfl); (case k10 => (intro _; with_unfolding_all rfl)); k_whole)))
local macro_rules | `(tactic| walk_at "subscriptTail Name Name ref int") => `(tactic| (k_here; (with_reducible show wpAny _ _ (subscriptTail _ _ (Value.ref _) (Value.int _ _)) _ _ _); k_dflt (refine' kim_list ?k1 ?k2 ?k3 ?k4 ?k5 ?k6 ?k7 ?_ ?k8 ?k9; (case k1 => k_asm); (case k2 => k_mem); (case k3 => exact rfl); (case k4 => exact rfl); (case k5 => omega); (case k6 => omega); (case k7 => with_reducible assumption); (case k8 => with_unfolding_all rfl); (case k9 => (intro _; with_unfolding_all rfl)); k_whole)))
theorem solved_c {w : World} {p : Program} {loose : List Str} {mean : ExcName → Option Value} {mg mb : Str → Option Value} {dp un : Nat} {gd : Option (List Code)} {cn : Str} {cs : Scope} {a : Addr} {ccd : Value} {cl : List (Str × Addr)} {outer : List Env} {A₀ : Around} {base h₀ : Heap} {L : Addr} {m : Str → Option Value} {news : List (Addr × Obj)} {s : Shared} {Q E : Value → Shared → Prop} {P : Addr → Obj → Prop} {R S : Addr} {rv sv : List Value} {M Z : Mat} {sd : List Rat} {nR nS n b : Nat}
    (B : Below A₀ base outer h₀) (F : Fr h₀ L s.heap m) (X : (Mine.hd.heap_39 w.params).In h₀) (N : News h₀ L s.heap news) (T : Top p loose mean mg mb h₀) (hk : cs.kind = .function) (hP : ∀ a o, P a o → s.heap.get? a = some o) (eR : P R (listOf rv.toArray nR)) (hR : All2 (RatsN P) rv M) (eS : P S (listOf sv.toArray nS)) (hS : All2 (RatN P) sv sd) (hM : M.length = n) (hsd : sd.length = n) (hrow : ∀ r ∈ M, r.length = n) (hb : ∀ r ∈ M, ∀ x ∈ r, Bd b x) (hb2 : ∀ x ∈ sd, Bd b x)
    (hn1 : 1 ≤ n) (hn : n ≤ 3) (hbb : b ≤ 64) (hg : gjM n n (augM M sd) = some Z)
    (hd : dp + 20 < recursionLimit) (hu : un + 800 < cLine)
    (hret : ∀ (v : Value) (tl : List (Addr × Obj)) (h' : Heap) (tk' : Nat), Fr h₀ L h' m → News h₀ L h' (news ++ tl) → (∀ p ∈ news, ∀ q ∈ tl, p.1 ≠ q.1) → RatsN (PT P tl) v (Z.map fun r => r.getD n 0) → (∀ r ∈ Z, ∀ x ∈ r, Bd (bnd b n) x) → Q v { s with heap := h', toks := tk' }) :
    wpAny (model PySem.Challenge.rw_ui0509_04.row.prog w) (ktrTop dp un gd cn cs L a ccd cl outer) (call (.ref 75) [.ref R, .ref S]) Q E s := by
  w_top off
  revert X; k_fill; intro X
  refine wpAny_call ?_
  k_dflt (refine' code_needC [] ?k1 ?k2 ?k3 ?k4 ?k5 ?kA ?kF ?kK ?k6 ?k7 ?k8 ?k9 ?kB ?kD ?kN ?_ ?c2 ?c3 ?c4; (case kA => exact rfl); (case kF => exact rfl); (case kK => assumption); (case k1 => k_asm); (case k2 => k_asm); (case k3 => k_asm); (case k4 => k_asm); (case k5 => k_asm); (case k6 => k_is); (case k7 => k_is); (case k8 => ktr_room); (case k9 => first | exact BindsTo.of_eq rfl | exact binds_K (by k_in) rfl (by k_is) rfl rfl rfl); (case kB => exact rfl); (case kD => decide +kernel); (case kN => exact fun _ h => nomatch h); (case c2 => exact rfl); (case c3 => exact rfl); (case c4 => exact rfl); k_whole; intro g' L' h' tk0 cells' FG' F' N' Y' B' X' T' l1 hG')
  obtain ⟨o1, o2, o3, o4, o5, o6, o7, rfl, q1, q2, q3, q4, q5, q6, q7⟩ := PyProof.Rows.kc_seven Y'
  clear Y' l1
  (try simp only [List.cons_append, List.nil_append] at N')
  (try dsimp only); (try k_fold)
  have hT := ground_of hP hG'
  have eRT := hT [] _ _ (.inl eR)
  have eST := hT [] _ _ (.inl eS)
  have hvl := hR.length
  have hsl := hS.length
  replace q7 : o7.data = .cell (some (.ref R)) := q7
  replace q6 : o6.data = .cell (some (.ref S)) := q6
  replace q5 : o5.data = .cell none := q5
  replace q4 : o4.data = .cell none := q4
  replace q3 : o3.data = .cell none := q3
  replace q2 : o2.data = .cell none := q2
  replace q1 : o1.data = .cell none := q1
  k_steps
  unfold Hold
  refine LCg.CompSrc.range (n := n) rfl (by k_asm) (by k_asm) (by assumption) (small_one (by omega) (by omega) (by omega) (by omega)) (rsize (by omega)) (by rw [sizeLine_eq]; omega) (fun g9 => ?_)
  refine comp_ind (fun i ys nx => ∃ tl, nx = (L' + 1 + 1 + 1 + 1 + 1 + 1 + 1, o1) :: (L' + 1 + 1 + 1 + 1 + 1 + 1, o2) :: (L' + 1 + 1 + 1 + 1 + 1, o3) :: (L' + 1 + 1 + 1 + 1, o4) :: (L' + 1 + 1 + 1, o5) :: (L' + 1 + 1, o6) :: (L' + 1, o7) :: tl ∧ (∀ p ∈ tl, OffC L' p.1) ∧ All2 (RatsN (PT P tl)) ys ((augM M sd).take i)) ?turn1 ?fin1 _ 0 [] _ (Nat.zero_add _) ⟨[], rfl, (fun _ h => nomatch h), .nil⟩
  case turn1 =>
    intro i v I oI C oC D9 m2 h tk E' ys nx hi hJ hPv hC hx Fm Nn off ne
    obtain ⟨tl, rfl, htl, hys⟩ := hJ
    obtain ⟨t9, rfl⟩ := hPv
    obtain ⟨row, hrw⟩ : ∃ row, M[i]? = some row := ex_at (by omega)
    obtain ⟨x, hxs⟩ : ∃ x, sd[i]? = some x := ex_at (by omega)
    obtain ⟨_, hvr, Rr, rws, nr, rfl, eRr, hrws⟩ := hR.at hrw
    obtain ⟨vx, hvx, hrx⟩ := hS.at hxs
    have hx1 : rv[(0 + (i : Int)).toNat]? = some (Value.ref Rr) := at_of hvr (by omega)
    have hx2 : sv[(0 + (i : Int)).toNat]? = some vx := at_of hvx (by omega)
    have eRr' := hT tl _ _ (.inl eRr)
    have hlr := hrws.length
    have hlr2 := hrow _ (List.mem_of_getElem? hrw)
    have hag := take_snoc_of (aug_get hrw hxs)
    have off' := off
    simp only [LCg.Off3, and_assoc] at off'
    k_steps
    unfold Hold
    rename_i Dn hn' Fn Nn2 ln
    refine comp_end Fn Nn2 ((L' + 1 + 1 + 1 + 1 + 1 + 1 + 1, o1) :: (L' + 1 + 1 + 1 + 1 + 1 + 1, o2) :: (L' + 1 + 1 + 1 + 1 + 1, o3) :: (L' + 1 + 1 + 1 + 1, o4) :: (L' + 1 + 1 + 1, o5) :: (L' + 1 + 1, o6) :: (L' + 1, o7) :: (Dn, listOf (rws ++ [vx]).toArray 0) :: tl) (List.forall_mem_cons.mpr ⟨by k_mem, List.forall_mem_cons.mpr ⟨by k_mem, List.forall_mem_cons.mpr ⟨by k_mem, List.forall_mem_cons.mpr ⟨by k_mem, List.forall_mem_cons.mpr ⟨by k_mem, List.forall_mem_cons.mpr ⟨by k_mem, List.forall_mem_cons.mpr ⟨by k_mem, List.forall_mem_cons.mpr ⟨by k_mem, List.forall_mem_cons.mpr ⟨by k_mem, List.forall_mem_cons.mpr ⟨by k_mem, List.forall_mem_cons.mpr ⟨by k_mem, (by intro p9 hp9; simp only [List.mem_cons, List.mem_append]; simp only [hp9, true_or, or_true])⟩⟩⟩⟩⟩⟩⟩⟩⟩⟩⟩) (off7 off (neN (by omega)) (neN (by omega)) (neN (by omega))) trivial ⟨(Dn, listOf (rws ++ [vx]).toArray 0) :: tl, rfl, offc_cons (by unfold OffC; dsimp only; omega) htl, ?_⟩
    rw [hag]
    exact (hys.mono fun _ _ y => RatsN.mono (PT.mono fun p hp => List.mem_cons_of_mem _ hp) y).snoc (rats_new (.inr (List.mem_cons_self ..)) ((hrws.mono fun _ _ y => y.mono fun _ _ e => .inl e).snoc (hrx.mono fun _ _ e => .inl e)))
  case fin1 =>
    intro ys nx hJ t h tk Fm Nn off1
    obtain ⟨tl, rfl, htl, hys⟩ := hJ
    have hal : (augM M sd).length = n := by simp [augM]; omega
    rw [List.take_of_length_le (by omega)] at hys
    have offt := off1_mem off1.2.2.2.2.2.2.2
    simp only [LCg.Off1] at off1
    k_steps
    unfold Hold
    rename_i h3 oT F3 N3 dT h4 tk4 ta ua va hrg F4 N4 hk4
    refine iter_rangeTurns (n := n) rfl hrg (small_one (by omega) (by omega) (by omega) (by omega)) (rsize (by omega)) F4 N4 (fun I lI => ?_)
    have ltI := allLt_of lI
    simp only [AllLt] at ltI
    refine items_ind (fun i m nx => ∃ (vs : List Value) (n0 : Nat) (tl : List (Addr × Obj)) (p1 p2 p3 p5 : Obj) (w1 w2 w3 w5 : Option Value) (Mi : Mat), nx = (t, listOf vs.toArray n0) :: (L' + 1 + 1 + 1 + 1 + 1 + 1 + 1, p1) :: (L' + 1 + 1 + 1 + 1 + 1 + 1, p2) :: (L' + 1 + 1 + 1 + 1 + 1, p3) :: (L' + 1 + 1 + 1 + 1, oT) :: (L' + 1 + 1 + 1, p5) :: (L' + 1 + 1, o6) :: (L' + 1, o7) :: tl ∧ p1.data = .cell w1 ∧ p2.data = .cell w2 ∧ p3.data = .cell w3 ∧ p5.data = .cell w5 ∧
      (∀ p ∈ tl, OffC L' p.1) ∧ (∀ p ∈ tl, p.1 ≠ t) ∧ (∃ tc, m (Str.ofString "count") = some (.int (rv.length : Int) tc)) ∧ gjM n i (augM M sd) = some Mi ∧ All2 (RatsN (PT P tl)) vs Mi ∧ Mi.length = n ∧ (∀ r ∈ Mi, r.length = n + 1) ∧ (∀ r ∈ Mi, ∀ x ∈ r, Bd (bnd b i) x)) ?turn2 ?done2 _ 0 _ _ rfl (Nat.zero_le _) trivial (fun p hp => Nat.ne_of_lt (lI p hp)) ?init2
    case init2 => exact ⟨ys, ys.length, tl, o1, o2, o3, o5, none, none, none, none, augM M sd, rfl, q1, q2, q3, q5, htl, offt, ⟨_, rfl⟩, rfl, hys, hal, aug_rows hrow, aug_bd hb hb2⟩
    case turn2 =>
      intro i a v m nx h tk o ha _ hI hJ hav Fm ho Nn
      obtain ⟨vs, n0, tl, p1, p2, p3, p5, w1, w2, w3, w5, Mi, rfl, d1, d2, d3, d5, htl, htt, ⟨tc, hmc⟩, hgi, hvs, hMl, hMr, hMb⟩ := hJ
      obtain ⟨hi, rfl⟩ := rangeItems_get ha
      obtain ⟨t9, rfl⟩ := hav
      have htI : ∀ p ∈ tl, p.1 ≠ I := fun p hp => hI p (List.mem_cons_of_mem _ (List.mem_cons_of_mem _ (List.mem_cons_of_mem _ (List.mem_cons_of_mem _ (List.mem_cons_of_mem _ (List.mem_cons_of_mem _ (List.mem_cons_of_mem _ (List.mem_cons_of_mem _ hp))))))))
      clear hI
      have hvl2 := hvs.length
      obtain ⟨Y, hY⟩ := gj_upto hg (i + 1) (by omega)
      obtain ⟨pv, hpl, hYe⟩ := gj_step hY hgi
      k_steps
      unfold Hold
      rename_i h5 r5 d5' h6 F6 N6 h7 tk7 tb ub vb hrg2 F7 N7 hk7
      dsimp only at d5'
      refine iter_rangeTurns (n := n - i) rfl hrg2 (small_one (by omega) (by omega) (by omega) (by omega)) (rsize (by omega)) F7 N7 (fun I2 lI2 => ?_)
      have ltI2 := allLt_of lI2
      simp only [AllLt] at ltI2
      refine items_ind (fun d m' nx => ∃ (r3 : Obj) (u3 : Option Value), nx = (I, o) :: (t, listOf vs.toArray n0) :: (L' + 1 + 1 + 1 + 1 + 1 + 1 + 1, p1) :: (L' + 1 + 1 + 1 + 1 + 1 + 1, p2) :: (L' + 1 + 1 + 1 + 1 + 1, r3) :: (L' + 1 + 1 + 1 + 1, oT) :: (L' + 1 + 1 + 1, r5) :: (L' + 1 + 1, o6) :: (L' + 1, o7) :: tl ∧ r3.data = .cell u3 ∧ (∃ tc, m' (Str.ofString "count") = some (.int (rv.length : Int) tc)) ∧ ((plM Mi i d = none ∧ m' (Str.ofString "place") = some .none) ∨ (∃ pv tp, plM Mi i d = some pv ∧ m' (Str.ofString "place") = some (.int ((pv : Nat) : Int) tp)))) ?turn3 ?done3 _ 0 _ _ rfl (Nat.zero_le _) trivial (fun p hp => Nat.ne_of_lt (lI2 p hp)) ⟨p3, w3, rfl, d3, ⟨tc, hmc⟩, .inl ⟨rfl, rfl⟩⟩
      case turn3 =>
        intro d a2 v2 m2 nx2 h8 tk8 ob ha2 _ hI2 hJ2 hav2 Fm2 ho2 Nn2
        obtain ⟨r3, u3, rfl, d3', ⟨tc2, hmc2⟩, hpl2⟩ := hJ2
        obtain ⟨hi2, rfl⟩ := rangeItems_get ha2
        obtain ⟨t8, rfl⟩ := hav2
        have htI2 : ∀ p ∈ tl, p.1 ≠ I2 := fun p hp => hI2 p (List.mem_cons_of_mem _ (List.mem_cons_of_mem _ (List.mem_cons_of_mem _ (List.mem_cons_of_mem _ (List.mem_cons_of_mem _ (List.mem_cons_of_mem _ (List.mem_cons_of_mem _ (List.mem_cons_of_mem _ (List.mem_cons_of_mem _ hp)))))))))
        clear hI2
        rcases hpl2 with ⟨hpn, hmp⟩ | ⟨pv2, tp, hps, hmp⟩
        · obtain ⟨rj, hrj⟩ : ∃ rj, Mi[i + d]? = some rj := ex_at (by omega)
          obtain ⟨_, hvj, Rj, rjs, nj, rfl, eRj, hrjs⟩ := hvs.at hrj
          have hlj := hMr _ (List.mem_of_getElem? hrj)
          obtain ⟨x, hx⟩ : ∃ x, rj[i]? = some x := ex_at (by omega)
          obtain ⟨_, hvx, Dx, tx, tx', cx, rfl, eDx⟩ := hrjs.at hx
          have eRj' := hT tl _ _ eRj
          have eDx' := hT tl _ _ eDx
          have hx1 : vs[(0 + (i : Int) + (d : Int)).toNat]? = some (Value.ref Rj) := at_of hvj (by omega)
          have hx2 : rjs[(0 + (i : Int)).toNat]? = some (Value.ref Dx) := at_of hvx (by omega)
          have hat := at2_of hrj hx
          have hps := plM_succ Mi i d
          rw [hpn, hat] at hps
          k_steps
          all_goals unfold Hold
          · rename_i h9 rr dd tkk hx0 h10 F9 N9
            exact unr_end ((I, o) :: (t, listOf vs.toArray n0) :: (L' + 1 + 1 + 1 + 1 + 1 + 1 + 1, p1) :: (L' + 1 + 1 + 1 + 1 + 1 + 1, p2) :: (L' + 1 + 1 + 1 + 1 + 1, rr) :: (L' + 1 + 1 + 1 + 1, oT) :: (L' + 1 + 1 + 1, r5) :: (L' + 1 + 1, o6) :: (L' + 1, o7) :: tl) F9 N9 (by k_mem) (List.forall_mem_cons.mpr ⟨by k_mem, List.forall_mem_cons.mpr ⟨by k_mem, List.forall_mem_cons.mpr ⟨by k_mem, List.forall_mem_cons.mpr ⟨by k_mem, List.forall_mem_cons.mpr ⟨by k_mem, List.forall_mem_cons.mpr ⟨by k_mem, List.forall_mem_cons.mpr ⟨by k_mem, List.forall_mem_cons.mpr ⟨by k_mem, List.forall_mem_cons.mpr ⟨by k_mem, (by intro p9 hp9; simp only [List.mem_cons, List.mem_append]; simp only [hp9, true_or, or_true])⟩⟩⟩⟩⟩⟩⟩⟩⟩) (List.forall_mem_cons.mpr ⟨neN (by omega), List.forall_mem_cons.mpr ⟨neN (by omega), List.forall_mem_cons.mpr ⟨neN (by omega), List.forall_mem_cons.mpr ⟨neN (by omega), List.forall_mem_cons.mpr ⟨neN (by omega), List.forall_mem_cons.mpr ⟨neN (by omega), List.forall_mem_cons.mpr ⟨neN (by omega), List.forall_mem_cons.mpr ⟨neN (by omega), List.forall_mem_cons.mpr ⟨neN (by omega), htI2⟩⟩⟩⟩⟩⟩⟩⟩⟩) ⟨trivial, rr, _, rfl, dd, ⟨tc2, hmc2⟩, .inr ⟨i + d, t8, by rw [hps, if_pos ⟨rfl, num_ne hx0⟩], by show some (Value.int (0 + (i : Int) + (d : Int)) t8) = _; rw [show (0 + (i : Int) + (d : Int)) = ((i + d : Nat) : Int) by omega]⟩⟩
          · rename_i h9 rr F9 N9 dd tkk hx0
            exact unr_end ((I, o) :: (t, listOf vs.toArray n0) :: (L' + 1 + 1 + 1 + 1 + 1 + 1 + 1, p1) :: (L' + 1 + 1 + 1 + 1 + 1 + 1, p2) :: (L' + 1 + 1 + 1 + 1 + 1, rr) :: (L' + 1 + 1 + 1 + 1, oT) :: (L' + 1 + 1 + 1, r5) :: (L' + 1 + 1, o6) :: (L' + 1, o7) :: tl) F9 N9 (by k_mem) (List.forall_mem_cons.mpr ⟨by k_mem, List.forall_mem_cons.mpr ⟨by k_mem, List.forall_mem_cons.mpr ⟨by k_mem, List.forall_mem_cons.mpr ⟨by k_mem, List.forall_mem_cons.mpr ⟨by k_mem, List.forall_mem_cons.mpr ⟨by k_mem, List.forall_mem_cons.mpr ⟨by k_mem, List.forall_mem_cons.mpr ⟨by k_mem, List.forall_mem_cons.mpr ⟨by k_mem, (by intro p9 hp9; simp only [List.mem_cons, List.mem_append]; simp only [hp9, true_or, or_true])⟩⟩⟩⟩⟩⟩⟩⟩⟩) (List.forall_mem_cons.mpr ⟨neN (by omega), List.forall_mem_cons.mpr ⟨neN (by omega), List.forall_mem_cons.mpr ⟨neN (by omega), List.forall_mem_cons.mpr ⟨neN (by omega), List.forall_mem_cons.mpr ⟨neN (by omega), List.forall_mem_cons.mpr ⟨neN (by omega), List.forall_mem_cons.mpr ⟨neN (by omega), List.forall_mem_cons.mpr ⟨neN (by omega), List.forall_mem_cons.mpr ⟨neN (by omega), htI2⟩⟩⟩⟩⟩⟩⟩⟩⟩) ⟨trivial, rr, _, rfl, dd, ⟨tc2, hmc2⟩, .inl ⟨by rw [hps, if_neg (fun h => h.2 (num_eq hx0))], hmp⟩⟩
        · have hps2 := plM_succ Mi i d
          k_steps
          all_goals unfold Hold
          rename_i h9 rr F9 N9 dd
          exact unr_end ((I, o) :: (t, listOf vs.toArray n0) :: (L' + 1 + 1 + 1 + 1 + 1 + 1 + 1, p1) :: (L' + 1 + 1 + 1 + 1 + 1 + 1, p2) :: (L' + 1 + 1 + 1 + 1 + 1, rr) :: (L' + 1 + 1 + 1 + 1, oT) :: (L' + 1 + 1 + 1, r5) :: (L' + 1 + 1, o6) :: (L' + 1, o7) :: tl) F9 N9 (by k_mem) (List.forall_mem_cons.mpr ⟨by k_mem, List.forall_mem_cons.mpr ⟨by k_mem, List.forall_mem_cons.mpr ⟨by k_mem, List.forall_mem_cons.mpr ⟨by k_mem, List.forall_mem_cons.mpr ⟨by k_mem, List.forall_mem_cons.mpr ⟨by k_mem, List.forall_mem_cons.mpr ⟨by k_mem, List.forall_mem_cons.mpr ⟨by k_mem, List.forall_mem_cons.mpr ⟨by k_mem, (by intro p9 hp9; simp only [List.mem_cons, List.mem_append]; simp only [hp9, true_or, or_true])⟩⟩⟩⟩⟩⟩⟩⟩⟩) (List.forall_mem_cons.mpr ⟨neN (by omega), List.forall_mem_cons.mpr ⟨neN (by omega), List.forall_mem_cons.mpr ⟨neN (by omega), List.forall_mem_cons.mpr ⟨neN (by omega), List.forall_mem_cons.mpr ⟨neN (by omega), List.forall_mem_cons.mpr ⟨neN (by omega), List.forall_mem_cons.mpr ⟨neN (by omega), List.forall_mem_cons.mpr ⟨neN (by omega), List.forall_mem_cons.mpr ⟨neN (by omega), htI2⟩⟩⟩⟩⟩⟩⟩⟩⟩) ⟨trivial, rr, _, rfl, dd, ⟨tc2, hmc2⟩, .inr ⟨pv2, tp, by rw [hps2, hps, if_neg (fun h => nomatch h.1)], hmp⟩⟩
      case done3 =>
        intro m3 nx3 h8 tk8 hJ3 Fm3 Nn3
        simp only [rangeItems, List.length_map, List.length_range] at hJ3
        obtain ⟨r3, u3, rfl, d3', ⟨tc2, hmc2⟩, hpl3⟩ := hJ3
        rcases hpl3 with ⟨hpn, _⟩ | ⟨pv3, tp, hps, hmp⟩
        · rw [hpl] at hpn; cases hpn
        rw [hpl] at hps
        obtain rfl : pv = pv3 := Option.some.inj hps
        obtain ⟨hp1, hp2, hp3⟩ := plM_spec hpl
        obtain ⟨rp, hrp⟩ : ∃ rp, Mi[pv]? = some rp := ex_at (by omega)
        obtain ⟨ri, hri⟩ : ∃ ri, Mi[i]? = some ri := ex_at (by omega)
        obtain ⟨_, hvp, Rp, rps, np, rfl, eRp, hrps⟩ := hvs.at hrp
        obtain ⟨_, hvi, Ri, ris, ni, rfl, eRi, hris⟩ := hvs.at hri
        have hx1 : vs[((pv : Nat) : Int).toNat]? = some (Value.ref Rp) := at_of hvp rfl
        have hx2 : vs[(0 + (i : Int)).toNat]? = some (Value.ref Ri) := at_of hvi (by omega)
        k_steps
        unfold Hold
        rename_i Dq hq lq h9 F9 N9
        refine' set_at (vs := vs) (n := n0) F9 N9 ?U1 (by omega) (by omega) (by omega) ?_
        case U1 => k_upd
        intro h10 F10 N10
        k_steps
        unfold Hold
        refine' set_at (vs := vs.set (0 + (i : Int)).toNat (Value.ref Rp)) (n := n0) F10 N10 ?U2 (by omega) (by rw [List.length_set]; omega) (by omega) ?_
        case U2 => k_upd
        intro h11 F11 N11
        have e1 : (0 + (i : Int)).toNat = i := by omega
        simp only [e1, Int.toNat_natCast] at N11
        have hvs2 := swap_all hvs hri hrp (rats_new eRi hris) (rats_new eRp hrps)
        obtain ⟨sw1, sw2, sw3⟩ := swap_facts (i := i) (p := pv) (by omega) (by omega) hMr hMb
        have sw4 : at2 (swapM i pv Mi) i i ≠ 0 := by rw [swap_at hri hrp]; exact hp3
        generalize (vs.set i (Value.ref Rp)).set pv (Value.ref Ri) = vs2 at N11 hvs2
        generalize swapM i pv Mi = M2 at hvs2 sw1 sw2 sw3 sw4 hYe
        rw [hMl] at sw1
        have hvl3 := hvs2.length
        clear hx1 hx2
        obtain ⟨rq, hrq⟩ : ∃ rq, M2[i]? = some rq := ex_at (by omega)
        obtain ⟨_, hvq, Rq, rqs, nq, rfl, eRq, hrqs⟩ := hvs2.at hrq
        have hlq := sw2 _ (List.mem_of_getElem? hrq)
        have hlq2 := hrqs.length
        obtain ⟨x, hx⟩ : ∃ x, rq[i]? = some x := ex_at (by omega)
        obtain ⟨_, hvx, Dx, tx, tx', cx, rfl, eDx⟩ := hrqs.at hx
        have hxz : x ≠ 0 := by rw [at2_of hrq hx] at sw4; exact sw4
        have hbx := sw3 _ (List.mem_of_getElem? hrq) _ (List.mem_of_getElem? hx)
        have hbi := bnd_le2 (i := i) hbb (by omega)
        have eRq' := hT tl _ _ eRq
        have eDx' := hT tl _ _ eDx
        have hx1 : vs2[(0 + (i : Int)).toNat]? = some (Value.ref Rq) := at_of hvq (by omega)
        have hx2 : rqs[(0 + (i : Int)).toNat]? = some (Value.ref Dx) := at_of hvx (by omega)
        k_steps
        unfold Hold
        rename_i h12 r2 F12 N12 d2'
        clear hx1 hx2
        refine src_tk (news := (I, o) :: (t, listOf vs2.toArray n0) :: (L' + 1 + 1 + 1 + 1 + 1 + 1 + 1, p1) :: (L' + 1 + 1 + 1 + 1 + 1 + 1, r2) :: (L' + 1 + 1 + 1 + 1 + 1, r3) :: (L' + 1 + 1 + 1 + 1, oT) :: (L' + 1 + 1 + 1, r5) :: (L' + 1 + 1, o6) :: (L' + 1, o7) :: tl) rfl F12 (news_sub N12 (List.forall_mem_cons.mpr ⟨by k_mem, List.forall_mem_cons.mpr ⟨by k_mem, List.forall_mem_cons.mpr ⟨by k_mem, List.forall_mem_cons.mpr ⟨by k_mem, List.forall_mem_cons.mpr ⟨by k_mem, List.forall_mem_cons.mpr ⟨by k_mem, List.forall_mem_cons.mpr ⟨by k_mem, List.forall_mem_cons.mpr ⟨by k_mem, List.forall_mem_cons.mpr ⟨by k_mem, (by intro p9 hp9; simp only [List.mem_cons, List.mem_append]; simp only [hp9, true_or, or_true])⟩⟩⟩⟩⟩⟩⟩⟩⟩)) eRq' (by intro p9 hp9; simp only [List.mem_cons, List.mem_append]; simp only [hp9, true_or, or_true]) (by rw [List.size_toArray, sizeLine_eq]; omega) (fun g9 => ?_)
        refine comp_ind (fun c ys nx => ∃ tl2, nx = (I, o) :: (t, listOf vs2.toArray n0) :: (L' + 1 + 1 + 1 + 1 + 1 + 1 + 1, p1) :: (L' + 1 + 1 + 1 + 1 + 1 + 1, r2) :: (L' + 1 + 1 + 1 + 1 + 1, r3) :: (L' + 1 + 1 + 1 + 1, oT) :: (L' + 1 + 1 + 1, r5) :: (L' + 1 + 1, o6) :: (L' + 1, o7) :: tl2 ∧ (∀ p ∈ tl2, OffC L' p.1) ∧ (∀ p ∈ tl2, p.1 ≠ t) ∧ (∀ p ∈ tl2, p.1 ≠ I) ∧ (∀ p ∈ tl, p ∈ tl2) ∧ All2 (RatN (PT P tl2)) ys ((rq.map (· / x)).take c) ∧ (∀ y ∈ (rq.map (· / x)).take c, Bd (bnd b i + bnd b i) y)) ?turn5 ?fin5 _ 0 [] _ (Nat.zero_add _) ⟨tl, rfl, htl, htt, htI, (fun _ h => h), .nil, (by simp)⟩
        case turn5 =>
          intro c v I5 oI C oC D9 m2 h tk E' ys nx hi hJ hPv hC hx5 Fm Nn off ne
          obtain ⟨tl2, rfl, htl2, htt2, htI2, hss, hys, hyb⟩ := hJ
          have hvc : rqs[c]? = some v := by simpa using hPv
          obtain ⟨y, hy, Dy, ty, ty', cy, rfl, eDy⟩ := hrqs.get hvc
          have eDy' := hT tl2 _ _ (PT.mono hss _ _ eDy)
          have eDx2 := hT tl2 _ _ (PT.mono hss _ _ eDx)
          have eRq2 := hT tl2 _ _ (PT.mono hss _ _ eRq)
          have hby := sw3 _ (List.mem_of_getElem? hrq) _ (List.mem_of_getElem? hy)
          have hst : (rq.map (· / x)).take (c + 1) = (rq.map (· / x)).take c ++ [y / x] := take_snoc_of (by rw [List.getElem?_map, hy]; rfl)
          k_steps
          unfold Hold
          rename_i Dn tn un' cn' hn' tkn bDn Fn Nn2 ln
          refine comp_end Fn Nn2 ((I, o) :: (t, listOf vs2.toArray n0) :: (L' + 1 + 1 + 1 + 1 + 1 + 1 + 1, p1) :: (L' + 1 + 1 + 1 + 1 + 1 + 1, r2) :: (L' + 1 + 1 + 1 + 1 + 1, r3) :: (L' + 1 + 1 + 1 + 1, oT) :: (L' + 1 + 1 + 1, r5) :: (L' + 1 + 1, o6) :: (L' + 1, o7) :: (Dn, RatO (y / x) tn un' cn') :: tl2) (List.forall_mem_cons.mpr ⟨by k_mem, List.forall_mem_cons.mpr ⟨by k_mem, List.forall_mem_cons.mpr ⟨by k_mem, List.forall_mem_cons.mpr ⟨by k_mem, List.forall_mem_cons.mpr ⟨by k_mem, List.forall_mem_cons.mpr ⟨by k_mem, List.forall_mem_cons.mpr ⟨by k_mem, List.forall_mem_cons.mpr ⟨by k_mem, List.forall_mem_cons.mpr ⟨by k_mem, List.forall_mem_cons.mpr ⟨by k_mem, List.forall_mem_cons.mpr ⟨by k_mem, List.forall_mem_cons.mpr ⟨by k_mem, List.forall_mem_cons.mpr ⟨by k_mem, (by intro p9 hp9; simp only [List.mem_cons, List.mem_append]; simp only [hp9, true_or, or_true])⟩⟩⟩⟩⟩⟩⟩⟩⟩⟩⟩⟩⟩) (off9 off (neN (by omega)) (neN (by omega)) (neN (by omega))) (srcAt_tk eRq2 (by intro p9 hp9; simp only [List.mem_cons, List.mem_append]; simp only [hp9, true_or, or_true])) ⟨(Dn, RatO (y / x) tn un' cn') :: tl2, rfl, offc_cons (by unfold OffC; dsimp only; omega) htl2, ne_cons (neN (by omega)) htt2, ne_cons (neN (by omega)) htI2, fun p hp => List.mem_cons_of_mem _ (hss p hp), ?_, ?_⟩
          · rw [hst]; exact (hys.mono fun _ _ y => y.mono (PT.mono fun p hp => List.mem_cons_of_mem _ hp)).snoc (rat_new (.inr (List.mem_cons_self ..)))
          · rw [hst]; exact bd_snoc hyb bDn
        case fin5 =>
          intro ys nx hJ Dr h tk Fm Nn off1
          obtain ⟨tl2, rfl, htl2, htt2, htI2, hss, hys, hyb⟩ := hJ
          rw [List.take_of_length_le (by rw [List.length_map, List.size_toArray]; omega)] at hys hyb
          simp only [LCg.Off1] at off1
          k_steps
          unfold Hold
          refine' set_at (vs := vs2) (n := n0) Fm Nn ?U3 (by omega) (by omega) (by omega) ?_
          case U3 => k_upd
          intro h14 F14 N14
          simp only [e1] at N14
          have hvs3 := norm_all (hvs2.mono fun _ _ y => RatsN.mono (PT.mono fun p hp => List.mem_cons_of_mem (Dr, LCg.lst ys) (hss p hp)) y) hrq hx (rats_new (.inr (List.mem_cons_self ..)) (hys.mono fun _ _ y => y.mono (PT.mono fun p hp => List.mem_cons_of_mem _ hp)))
          obtain ⟨nm1, nm2, nm3⟩ := norm_facts hrq hx sw2 sw3 hyb
          rw [sw1] at nm1
          generalize vs2.set i (Value.ref Dr) = vs3 at N14 hvs3
          generalize normM i M2 = M3 at hvs3 nm1 nm2 nm3 hYe
          have htl3 : ∀ p ∈ (Dr, LCg.lst ys) :: tl2, OffC L' p.1 := offc_cons (by unfold OffC; dsimp only; omega) htl2
          have htt3 : ∀ p ∈ (Dr, LCg.lst ys) :: tl2, p.1 ≠ t := ne_cons (neN (by omega)) htt2
          have htI3 : ∀ p ∈ (Dr, LCg.lst ys) :: tl2, p.1 ≠ I := ne_cons (neN (by omega)) htI2
          clear eRq' eDx' eRT eST
          k_steps
          unfold Hold
          rename_i h15 tk15 tc' uc vc hrg6 F15 N15 hk15
          refine iter_rangeTurns (n := n) (news := (I, o) :: (t, listOf vs3.toArray n0) :: (L' + 1 + 1 + 1 + 1 + 1 + 1 + 1, p1) :: (L' + 1 + 1 + 1 + 1 + 1 + 1, r2) :: (L' + 1 + 1 + 1 + 1 + 1, r3) :: (L' + 1 + 1 + 1 + 1, oT) :: (L' + 1 + 1 + 1, r5) :: (L' + 1 + 1, o6) :: (L' + 1, o7) :: (Dr, LCg.lst ys) :: tl2) rfl hrg6 (small_one (by omega) (by omega) (by omega) (by omega)) (rsize (by omega)) F15 (news_sub N15 (List.forall_mem_cons.mpr ⟨by k_mem, List.forall_mem_cons.mpr ⟨by k_mem, List.forall_mem_cons.mpr ⟨by k_mem, List.forall_mem_cons.mpr ⟨by k_mem, List.forall_mem_cons.mpr ⟨by k_mem, List.forall_mem_cons.mpr ⟨by k_mem, List.forall_mem_cons.mpr ⟨by k_mem, List.forall_mem_cons.mpr ⟨by k_mem, List.forall_mem_cons.mpr ⟨by k_mem, List.forall_mem_cons.mpr ⟨by k_mem, (by intro p9 hp9; simp only [List.mem_cons, List.mem_append]; simp only [hp9, true_or, or_true])⟩⟩⟩⟩⟩⟩⟩⟩⟩⟩)) (fun I6 lI6 => ?_)
          have ltI6 := allLt_of lI6
          simp only [AllLt] at ltI6
          refine items_ind (fun j m' nx => ∃ (vs : List Value) (n0 : Nat) (tl : List (Addr × Obj)) (s1 s3 : Obj) (y1 y3 : Option Value) (Mj : Mat), nx = (I, o) :: (t, listOf vs.toArray n0) :: (L' + 1 + 1 + 1 + 1 + 1 + 1 + 1, s1) :: (L' + 1 + 1 + 1 + 1 + 1 + 1, r2) :: (L' + 1 + 1 + 1 + 1 + 1, s3) :: (L' + 1 + 1 + 1 + 1, oT) :: (L' + 1 + 1 + 1, r5) :: (L' + 1 + 1, o6) :: (L' + 1, o7) :: tl ∧ s1.data = .cell y1 ∧ s3.data = .cell y3 ∧ (∀ p ∈ tl, OffC L' p.1) ∧ (∀ p ∈ tl, p.1 ≠ t) ∧ (∀ p ∈ tl, p.1 ≠ I) ∧
            (∃ tc, m' (Str.ofString "count") = some (.int (rv.length : Int) tc)) ∧ Mj = (List.range j).foldl (elimM n i) M3 ∧ All2 (RatsN (PT P tl)) vs Mj ∧ Mj.length = n ∧ (∀ r ∈ Mj, r.length = n + 1) ∧ (∀ q r, Mj[q]? = some r → ∀ y ∈ r, Bd (elB (bnd b i) i j q) y)) ?turn6 ?done6 _ 0 _ _ rfl (Nat.zero_le _) trivial (fun p hp => Nat.ne_of_lt (lI6 p hp)) ⟨vs3, n0, (Dr, LCg.lst ys) :: tl2, p1, r3, w1, u3, M3, rfl, d1, d3', htl3, htt3, htI3, ⟨tc2, hmc2⟩, rfl, hvs3, nm1, nm2, nm3⟩
          case turn6 =>
            (try clear hvs); (try clear hvs2); (try clear hvs3); (try clear hrqs); (try clear hys); (try clear hyb); (try clear sw1); (try clear sw2); (try clear sw3); (try clear sw4); (try clear hMl); (try clear hMr); (try clear hMb); (try clear nm1); (try clear nm2); (try clear nm3); (try clear htl3); (try clear htt3); (try clear htI3); (try clear htl2); (try clear htt2); (try clear htI2); (try clear hss); (try clear off1); (try clear htl); (try clear htt); (try clear htI); (try clear N14); (try clear N15); (try clear F14); (try clear F15); (try clear hk15); (try clear hvl3); (try clear hlq); (try clear hlq2); (try clear hvl2); (try clear hR); (try clear hS); (try clear hrow); (try clear hb); (try clear hb2)
            intro j a2 v2 m2 nx2 h8' tk8' ob ha2 _ hI6 hJ6 hav2 Fm2 ho2 Nn2
            obtain ⟨vs, n0, tl, s1, s3, y1, y3, Mj, rfl, c1, c3, htl, htt, htI, ⟨tc2, hmc2⟩, hMj, hvs, hMl, hMr, hMb⟩ := hJ6
            obtain ⟨hj, rfl⟩ := rangeItems_get ha2
            obtain ⟨t8, rfl⟩ := hav2
            have htI6 : ∀ p ∈ tl, p.1 ≠ I6 := fun p hp => hI6 p (List.mem_cons_of_mem _ (List.mem_cons_of_mem _ (List.mem_cons_of_mem _ (List.mem_cons_of_mem _ (List.mem_cons_of_mem _ (List.mem_cons_of_mem _ (List.mem_cons_of_mem _ (List.mem_cons_of_mem _ (List.mem_cons_of_mem _ hp)))))))))
            clear hI6
            have hvl4 := hvs.length
            have hfold : (List.range (j + 1)).foldl (elimM n i) M3 = elimM n i Mj j := by rw [List.range_succ, List.foldl_append, ← hMj]; rfl
            obtain ⟨rj, hrj⟩ : ∃ rj, Mj[j]? = some rj := ex_at (by omega)
            obtain ⟨ri, hri⟩ : ∃ ri, Mj[i]? = some ri := ex_at (by omega)
            obtain ⟨_, hvj, Rj, rjs, nj, rfl, eRj, hrjs⟩ := hvs.at hrj
            obtain ⟨_, hvi, Ri, ris, ni, rfl, eRi, hris⟩ := hvs.at hri
            have hlj := hMr _ (List.mem_of_getElem? hrj)
            have hli := hMr _ (List.mem_of_getElem? hri)
            obtain ⟨x, hx⟩ : ∃ x, rj[i]? = some x := ex_at (by omega)
            obtain ⟨_, hvx, Dx, tx, tx', cx, rfl, eDx⟩ := hrjs.at hx
            have eRj' := hT tl _ _ eRj
            have eDx' := hT tl _ _ eDx
            have hx1 : vs[(0 + (j : Int)).toNat]? = some (Value.ref Rj) := at_of hvj (by omega)
            have hx2 : rjs[(0 + (i : Int)).toNat]? = some (Value.ref Dx) := at_of hvx (by omega)
            have hat := at2_of hrj hx
            k_steps
            all_goals unfold Hold
            · rename_i h8a rr dd tkk hjn hx0 h9 ff F9 N9 df h10 tk10 ta' ua' va' hrg7 F10 N10 hk10
              have hji : j ≠ i := by omega
              clear hx2 eRj' eDx' F9 N9 hk10
              have hbx : Bd (bnd b i) x := by have := hMb j rj hrj x (List.mem_of_getElem? hx); rwa [elB_self hji] at this
              refine LCg.CompSrc.range (n := n + 1) (news := (I6, ob) :: (I, o) :: (t, listOf vs.toArray n0) :: (L' + 1 + 1 + 1 + 1 + 1 + 1 + 1, ff) :: (L' + 1 + 1 + 1 + 1 + 1 + 1, r2) :: (L' + 1 + 1 + 1 + 1 + 1, rr) :: (L' + 1 + 1 + 1 + 1, oT) :: (L' + 1 + 1 + 1, r5) :: (L' + 1 + 1, o6) :: (L' + 1, o7) :: tl) rfl F10 (news_sub N10 (List.forall_mem_cons.mpr ⟨by k_mem, List.forall_mem_cons.mpr ⟨by k_mem, List.forall_mem_cons.mpr ⟨by k_mem, List.forall_mem_cons.mpr ⟨by k_mem, List.forall_mem_cons.mpr ⟨by k_mem, List.forall_mem_cons.mpr ⟨by k_mem, List.forall_mem_cons.mpr ⟨by k_mem, List.forall_mem_cons.mpr ⟨by k_mem, List.forall_mem_cons.mpr ⟨by k_mem, List.forall_mem_cons.mpr ⟨by k_mem, (by intro p9 hp9; simp only [List.mem_cons, List.mem_append]; simp only [hp9, true_or, or_true])⟩⟩⟩⟩⟩⟩⟩⟩⟩⟩)) hrg7 (small_one (by omega) (by omega) (by omega) (by omega)) (rsize (by omega)) (by rw [sizeLine_eq]; omega) (fun g9 => ?_)
              refine comp_ind (fun c ys nx => ∃ tl2, nx = (I6, ob) :: (I, o) :: (t, listOf vs.toArray n0) :: (L' + 1 + 1 + 1 + 1 + 1 + 1 + 1, ff) :: (L' + 1 + 1 + 1 + 1 + 1 + 1, r2) :: (L' + 1 + 1 + 1 + 1 + 1, rr) :: (L' + 1 + 1 + 1 + 1, oT) :: (L' + 1 + 1 + 1, r5) :: (L' + 1 + 1, o6) :: (L' + 1, o7) :: tl2 ∧ (∀ p ∈ tl2, OffC L' p.1) ∧ (∀ p ∈ tl2, p.1 ≠ t) ∧ (∀ p ∈ tl2, p.1 ≠ I) ∧ (∀ p ∈ tl2, p.1 ≠ I6) ∧ (∀ p ∈ tl, p ∈ tl2) ∧ All2 (RatN (PT P tl2)) ys ((elimR n i Mj j).take c) ∧ (∀ y ∈ (elimR n i Mj j).take c, Bd (4 * bnd b i + 1) y)) ?turn7 ?fin7 _ 0 [] _ (Nat.zero_add _) ⟨tl, rfl, htl, htt, htI, htI6, (fun _ h => h), .nil, (by simp)⟩
              case turn7 =>
                intro c v I5 oI C oC D9 m5 h tk E' ys nx hi hJ hPv hC hx5 Fm Nn off ne
                obtain ⟨tl2, rfl, htl2, htt2, htI2, htI62, hss, hys, hyb⟩ := hJ
                obtain ⟨t7, rfl⟩ := hPv
                obtain ⟨yj, hyj⟩ : ∃ y, rj[c]? = some y := ex_at (by omega)
                obtain ⟨yi, hyi⟩ : ∃ y, ri[c]? = some y := ex_at (by omega)
                obtain ⟨_, hvyj, Dj, tj, tj', cj, rfl, eDj⟩ := hrjs.at hyj
                obtain ⟨_, hvyi, Di, ti, ti', ci, rfl, eDi⟩ := hris.at hyi
                have eRj2 := hT tl2 _ _ (PT.mono hss _ _ eRj)
                have eRi2 := hT tl2 _ _ (PT.mono hss _ _ eRi)
                have eDx2 := hT tl2 _ _ (PT.mono hss _ _ eDx)
                have eDj2 := hT tl2 _ _ (PT.mono hss _ _ eDj)
                have eDi2 := hT tl2 _ _ (PT.mono hss _ _ eDi)
                have hx3 : vs[(0 + (i : Int)).toNat]? = some (Value.ref Ri) := at_of hvi (by omega)
                have hx4 : rjs[(0 + (c : Int)).toNat]? = some (Value.ref Dj) := at_of hvyj (by omega)
                have hx6 : ris[(0 + (c : Int)).toNat]? = some (Value.ref Di) := at_of hvyi (by omega)
                have hbj : Bd (bnd b i) yj := by have := hMb j rj hrj yj (List.mem_of_getElem? hyj); rwa [elB_self hji] at this
                have hbi2 : Bd (bnd b i + bnd b i) yi := by have := hMb i ri hri yi (List.mem_of_getElem? hyi); rwa [elB_piv] at this
                have hst : (elimR n i Mj j).take (c + 1) = (elimR n i Mj j).take c ++ [yj - x * yi] := take_snoc_of (elimR_get hi hrj hri hx hyj hyi)
                k_steps
                unfold Hold
                rename_i Dn tn un' cn' hn' tkn bDn Fn Nn2 ln
                refine comp_end Fn Nn2 ((I6, ob) :: (I, o) :: (t, listOf vs.toArray n0) :: (L' + 1 + 1 + 1 + 1 + 1 + 1 + 1, ff) :: (L' + 1 + 1 + 1 + 1 + 1 + 1, r2) :: (L' + 1 + 1 + 1 + 1 + 1, rr) :: (L' + 1 + 1 + 1 + 1, oT) :: (L' + 1 + 1 + 1, r5) :: (L' + 1 + 1, o6) :: (L' + 1, o7) :: (Dn, RatO (yj - x * yi) tn un' cn') :: tl2) (List.forall_mem_cons.mpr ⟨by k_mem, List.forall_mem_cons.mpr ⟨by k_mem, List.forall_mem_cons.mpr ⟨by k_mem, List.forall_mem_cons.mpr ⟨by k_mem, List.forall_mem_cons.mpr ⟨by k_mem, List.forall_mem_cons.mpr ⟨by k_mem, List.forall_mem_cons.mpr ⟨by k_mem, List.forall_mem_cons.mpr ⟨by k_mem, List.forall_mem_cons.mpr ⟨by k_mem, List.forall_mem_cons.mpr ⟨by k_mem, List.forall_mem_cons.mpr ⟨by k_mem, List.forall_mem_cons.mpr ⟨by k_mem, List.forall_mem_cons.mpr ⟨by k_mem, List.forall_mem_cons.mpr ⟨by k_mem, (by intro p9 hp9; simp only [List.mem_cons, List.mem_append]; simp only [hp9, true_or, or_true])⟩⟩⟩⟩⟩⟩⟩⟩⟩⟩⟩⟩⟩⟩) (off10 off (neN (by omega)) (neN (by omega)) (neN (by omega))) trivial ⟨(Dn, RatO (yj - x * yi) tn un' cn') :: tl2, rfl, offc_cons (by unfold OffC; dsimp only; omega) htl2, ne_cons (neN (by omega)) htt2, ne_cons (neN (by omega)) htI2, ne_cons (neN (by omega)) htI62, fun p hp => List.mem_cons_of_mem _ (hss p hp), ?_, ?_⟩
                · rw [hst]; exact (hys.mono fun _ _ y => y.mono (PT.mono fun p hp => List.mem_cons_of_mem _ hp)).snoc (rat_new (.inr (List.mem_cons_self ..)))
                · rw [hst]; exact bd_snoc hyb (bDn.mono (by omega))
              case fin7 =>
                intro ys nx hJ Dr h tk Fm Nn off1
                obtain ⟨tl2, rfl, htl2, htt2, htI2, htI62, hss, hys, hyb⟩ := hJ
                rw [List.take_of_length_le (by rw [elimR_len]; omega)] at hys hyb
                simp only [LCg.Off1] at off1
                k_steps
                unfold Hold
                refine' set_at (vs := vs) (n := n0) Fm Nn ?U7 (by omega) (by omega) (by omega) ?_
                case U7 => k_upd
                intro h14 F14 N14
                have e7 : (0 + (j : Int)).toNat = j := by omega
                simp only [e7] at N14
                k_steps
                unfold Hold
                (rename News _ _ _ _ => N17)
                have helim : elimM n i Mj j = Mj.set j (elimR n i Mj j) := elim_eq hji (by rw [hat]; exact num_ne hx0)
                exact unr_end ((I, o) :: (t, listOf (vs.set j (Value.ref Dr)).toArray n0) :: (L' + 1 + 1 + 1 + 1 + 1 + 1 + 1, ff) :: (L' + 1 + 1 + 1 + 1 + 1 + 1, r2) :: (L' + 1 + 1 + 1 + 1 + 1, rr) :: (L' + 1 + 1 + 1 + 1, oT) :: (L' + 1 + 1 + 1, r5) :: (L' + 1 + 1, o6) :: (L' + 1, o7) :: (Dr, LCg.lst ys) :: tl2) (by k_asm) N17 (by k_mem) (List.forall_mem_cons.mpr ⟨by k_mem, List.forall_mem_cons.mpr ⟨by k_mem, List.forall_mem_cons.mpr ⟨by k_mem, List.forall_mem_cons.mpr ⟨by k_mem, List.forall_mem_cons.mpr ⟨by k_mem, List.forall_mem_cons.mpr ⟨by k_mem, List.forall_mem_cons.mpr ⟨by k_mem, List.forall_mem_cons.mpr ⟨by k_mem, List.forall_mem_cons.mpr ⟨by k_mem, List.forall_mem_cons.mpr ⟨by k_mem, (by intro p9 hp9; simp only [List.mem_cons, List.mem_append]; simp only [hp9, true_or, or_true])⟩⟩⟩⟩⟩⟩⟩⟩⟩⟩) (List.forall_mem_cons.mpr ⟨neN (by omega), List.forall_mem_cons.mpr ⟨neN (by omega), List.forall_mem_cons.mpr ⟨neN (by omega), List.forall_mem_cons.mpr ⟨neN (by omega), List.forall_mem_cons.mpr ⟨neN (by omega), List.forall_mem_cons.mpr ⟨neN (by omega), List.forall_mem_cons.mpr ⟨neN (by omega), List.forall_mem_cons.mpr ⟨neN (by omega), List.forall_mem_cons.mpr ⟨neN (by omega), List.forall_mem_cons.mpr ⟨neN (by omega), htI62⟩⟩⟩⟩⟩⟩⟩⟩⟩⟩) ⟨trivial, vs.set j (Value.ref Dr), n0, (Dr, LCg.lst ys) :: tl2, ff, rr, _, _, elimM n i Mj j, rfl, df, dd, offc_cons (by unfold OffC; dsimp only; omega) htl2, ne_cons (neN (by omega)) htt2, ne_cons (neN (by omega)) htI2, ⟨tc2, hmc2⟩, hfold.symm,
                  by rw [helim]; exact (hvs.mono fun _ _ y => RatsN.mono (PT.mono fun p hp => List.mem_cons_of_mem _ (hss p hp)) y).set (rats_new (.inr (List.mem_cons_self ..)) (hys.mono fun _ _ y => y.mono (PT.mono fun p hp => List.mem_cons_of_mem _ hp))) j,
                  by rw [helim, List.length_set]; exact hMl, by rw [helim]; exact row_facts (Q := fun r => r.length = n + 1) j hMr elimR_len, by rw [helim]; exact elim_bd hji (by omega) hMb hyb⟩
            · rename_i h9 rr F9 N9 dd tkk hjn hx0
              have helim : elimM n i Mj j = Mj := by unfold elimM; rw [hat, if_neg (fun h => h.2 (num_eq hx0))]
              exact unr_end ((I, o) :: (t, listOf vs.toArray n0) :: (L' + 1 + 1 + 1 + 1 + 1 + 1 + 1, s1) :: (L' + 1 + 1 + 1 + 1 + 1 + 1, r2) :: (L' + 1 + 1 + 1 + 1 + 1, rr) :: (L' + 1 + 1 + 1 + 1, oT) :: (L' + 1 + 1 + 1, r5) :: (L' + 1 + 1, o6) :: (L' + 1, o7) :: tl) F9 N9 (by k_mem) (List.forall_mem_cons.mpr ⟨by k_mem, List.forall_mem_cons.mpr ⟨by k_mem, List.forall_mem_cons.mpr ⟨by k_mem, List.forall_mem_cons.mpr ⟨by k_mem, List.forall_mem_cons.mpr ⟨by k_mem, List.forall_mem_cons.mpr ⟨by k_mem, List.forall_mem_cons.mpr ⟨by k_mem, List.forall_mem_cons.mpr ⟨by k_mem, List.forall_mem_cons.mpr ⟨by k_mem, (by intro p9 hp9; simp only [List.mem_cons, List.mem_append]; simp only [hp9, true_or, or_true])⟩⟩⟩⟩⟩⟩⟩⟩⟩) (List.forall_mem_cons.mpr ⟨neN (by omega), List.forall_mem_cons.mpr ⟨neN (by omega), List.forall_mem_cons.mpr ⟨neN (by omega), List.forall_mem_cons.mpr ⟨neN (by omega), List.forall_mem_cons.mpr ⟨neN (by omega), List.forall_mem_cons.mpr ⟨neN (by omega), List.forall_mem_cons.mpr ⟨neN (by omega), List.forall_mem_cons.mpr ⟨neN (by omega), List.forall_mem_cons.mpr ⟨neN (by omega), htI6⟩⟩⟩⟩⟩⟩⟩⟩⟩) ⟨trivial, vs, n0, tl, s1, rr, y1, _, Mj, rfl, c1, dd, htl, htt, htI, ⟨tc2, hmc2⟩, by rw [hfold, helim], hvs, hMl, hMr, elB_mono hMb⟩
            · rename_i h9 rr F9 N9 dd hjn
              have hji : j = i := by omega
              have helim : elimM n i Mj j = Mj := by unfold elimM; rw [if_neg (fun h => h.1 hji)]
              exact unr_end ((I, o) :: (t, listOf vs.toArray n0) :: (L' + 1 + 1 + 1 + 1 + 1 + 1 + 1, s1) :: (L' + 1 + 1 + 1 + 1 + 1 + 1, r2) :: (L' + 1 + 1 + 1 + 1 + 1, rr) :: (L' + 1 + 1 + 1 + 1, oT) :: (L' + 1 + 1 + 1, r5) :: (L' + 1 + 1, o6) :: (L' + 1, o7) :: tl) F9 N9 (by k_mem) (List.forall_mem_cons.mpr ⟨by k_mem, List.forall_mem_cons.mpr ⟨by k_mem, List.forall_mem_cons.mpr ⟨by k_mem, List.forall_mem_cons.mpr ⟨by k_mem, List.forall_mem_cons.mpr ⟨by k_mem, List.forall_mem_cons.mpr ⟨by k_mem, List.forall_mem_cons.mpr ⟨by k_mem, List.forall_mem_cons.mpr ⟨by k_mem, List.forall_mem_cons.mpr ⟨by k_mem, (by intro p9 hp9; simp only [List.mem_cons, List.mem_append]; simp only [hp9, true_or, or_true])⟩⟩⟩⟩⟩⟩⟩⟩⟩) (List.forall_mem_cons.mpr ⟨neN (by omega), List.forall_mem_cons.mpr ⟨neN (by omega), List.forall_mem_cons.mpr ⟨neN (by omega), List.forall_mem_cons.mpr ⟨neN (by omega), List.forall_mem_cons.mpr ⟨neN (by omega), List.forall_mem_cons.mpr ⟨neN (by omega), List.forall_mem_cons.mpr ⟨neN (by omega), List.forall_mem_cons.mpr ⟨neN (by omega), List.forall_mem_cons.mpr ⟨neN (by omega), htI6⟩⟩⟩⟩⟩⟩⟩⟩⟩) ⟨trivial, vs, n0, tl, s1, rr, y1, _, Mj, rfl, c1, dd, htl, htt, htI, ⟨tc2, hmc2⟩, by rw [hfold, helim], hvs, hMl, hMr, elB_mono hMb⟩
          case done6 =>
            intro m6 nx6 h8' tk8' hJ6 Fm6 Nn6
            simp only [rangeItems, List.length_map, List.length_range] at hJ6
            obtain ⟨vs6, n6, tl6, s1, s3, y1, y3, Mj, rfl, c1, c3, htl6, htt6, htI6, ⟨tc6, hmc6⟩, hMj, hvs6, hMl6, hMr6, hMb6⟩ := hJ6
            rw [← hYe] at hMj
            subst hMj
            k_steps
            unfold Hold
            (rename News _ _ _ _ => N18)
            exact unr_end ((t, listOf vs6.toArray n6) :: (L' + 1 + 1 + 1 + 1 + 1 + 1 + 1, s1) :: (L' + 1 + 1 + 1 + 1 + 1 + 1, r2) :: (L' + 1 + 1 + 1 + 1 + 1, s3) :: (L' + 1 + 1 + 1 + 1, oT) :: (L' + 1 + 1 + 1, r5) :: (L' + 1 + 1, o6) :: (L' + 1, o7) :: tl6) (by k_asm) N18 (by k_mem) (List.forall_mem_cons.mpr ⟨by k_mem, List.forall_mem_cons.mpr ⟨by k_mem, List.forall_mem_cons.mpr ⟨by k_mem, List.forall_mem_cons.mpr ⟨by k_mem, List.forall_mem_cons.mpr ⟨by k_mem, List.forall_mem_cons.mpr ⟨by k_mem, List.forall_mem_cons.mpr ⟨by k_mem, List.forall_mem_cons.mpr ⟨by k_mem, (by intro p9 hp9; simp only [List.mem_cons, List.mem_append]; simp only [hp9, true_or, or_true])⟩⟩⟩⟩⟩⟩⟩⟩) (List.forall_mem_cons.mpr ⟨neN (by omega), List.forall_mem_cons.mpr ⟨neN (by omega), List.forall_mem_cons.mpr ⟨neN (by omega), List.forall_mem_cons.mpr ⟨neN (by omega), List.forall_mem_cons.mpr ⟨neN (by omega), List.forall_mem_cons.mpr ⟨neN (by omega), List.forall_mem_cons.mpr ⟨neN (by omega), List.forall_mem_cons.mpr ⟨neN (by omega), htI6⟩⟩⟩⟩⟩⟩⟩⟩) ⟨trivial, vs6, n6, tl6, s1, r2, s3, r5, y1, _, y3, _, Mj, rfl, c1, d2', c3, d5', htl6, htt6, ⟨tc6, hmc6⟩, hY, hvs6, hMl6, hMr6, fun r hr x hx => by
              obtain ⟨q, hq⟩ := List.mem_iff_getElem?.mp hr
              exact (hMb6 q r hq x hx).mono elB_top⟩
    case done2 =>
      intro m5 nx h tk hJ Fm Nn
      simp only [rangeItems, List.length_map, List.length_range] at hJ
      obtain ⟨vs, n0, tl, p1, p2, p3, p5, w1, w2, w3, w5, Mi, rfl, d1, d2, d3, d5, htl, htt, ⟨tc, hmc⟩, hgi, hvs, hMl, hMr, hMb⟩ := hJ
      rw [hg] at hgi
      obtain rfl : Z = Mi := Option.some.inj hgi
      have hvl2 := hvs.length
      k_steps
      unfold Hold
      refine LCg.CompSrc.ledger (news := (t, listOf vs.toArray n0) :: (L' + 1 + 1 + 1 + 1 + 1 + 1 + 1, p1) :: (L' + 1 + 1 + 1 + 1 + 1 + 1, p2) :: (L' + 1 + 1 + 1 + 1 + 1, p3) :: (L' + 1 + 1 + 1 + 1, oT) :: (L' + 1 + 1 + 1, p5) :: (L' + 1 + 1, o6) :: (L' + 1, o7) :: tl) rfl (by k_asm) (by k_asm) (List.mem_cons_self ..) (by rw [List.size_toArray, sizeLine_eq]; omega) (fun g9 => ?_)
      refine comp_ind (fun c ys nx => nx = (t, listOf vs.toArray n0) :: (L' + 1 + 1 + 1 + 1 + 1 + 1 + 1, p1) :: (L' + 1 + 1 + 1 + 1 + 1 + 1, p2) :: (L' + 1 + 1 + 1 + 1 + 1, p3) :: (L' + 1 + 1 + 1 + 1, oT) :: (L' + 1 + 1 + 1, p5) :: (L' + 1 + 1, o6) :: (L' + 1, o7) :: tl ∧ All2 (RatN (PT P tl)) ys ((Z.map fun r => r.getD n 0).take c)) ?turn8 ?fin8 _ 0 [] _ (Nat.zero_add _) ⟨rfl, .nil⟩
      case turn8 =>
        intro c v I5 oI C oC D9 m2 h tk E' ys nx hi hJ hPv hC hx5 Fm Nn off ne
        obtain ⟨rfl, hys⟩ := hJ
        have hvc : vs[c]? = some v := by simpa using hPv
        obtain ⟨r, hr, Rr, rrs, nr, rfl, eRr, hrrs⟩ := hvs.get hvc
        have hlr := hMr _ (List.mem_of_getElem? hr)
        have hlr2 := hrrs.length
        obtain ⟨y, hy⟩ : ∃ y, r[n]? = some y := ex_at (by omega)
        obtain ⟨vy, hvy, hry⟩ := hrrs.at hy
        have hx1 : rrs[(-1 + (rrs.length : Int)).toNat]? = some vy := at_of hvy (by omega)
        have eRr' := hT tl _ _ eRr
        have hst : (Z.map fun r => r.getD n 0).take (c + 1) = (Z.map fun r => r.getD n 0).take c ++ [y] := take_snoc_of (by rw [List.getElem?_map, hr, Option.map_some]; simp [List.getD_eq_getElem?_getD, hy])
        k_steps
        unfold Hold
        exact comp_end (by k_asm) (by k_asm) ((t, listOf vs.toArray n0) :: (L' + 1 + 1 + 1 + 1 + 1 + 1 + 1, p1) :: (L' + 1 + 1 + 1 + 1 + 1 + 1, p2) :: (L' + 1 + 1 + 1 + 1 + 1, p3) :: (L' + 1 + 1 + 1 + 1, oT) :: (L' + 1 + 1 + 1, p5) :: (L' + 1 + 1, o6) :: (L' + 1, o7) :: tl) (List.forall_mem_cons.mpr ⟨by k_mem, List.forall_mem_cons.mpr ⟨by k_mem, List.forall_mem_cons.mpr ⟨by k_mem, List.forall_mem_cons.mpr ⟨by k_mem, List.forall_mem_cons.mpr ⟨by k_mem, List.forall_mem_cons.mpr ⟨by k_mem, List.forall_mem_cons.mpr ⟨by k_mem, List.forall_mem_cons.mpr ⟨by k_mem, List.forall_mem_cons.mpr ⟨by k_mem, List.forall_mem_cons.mpr ⟨by k_mem, List.forall_mem_cons.mpr ⟨by k_mem, (by intro p9 hp9; simp only [List.mem_cons, List.mem_append]; simp only [hp9, true_or, or_true])⟩⟩⟩⟩⟩⟩⟩⟩⟩⟩⟩) off (.inr ⟨_, List.mem_cons_self .., rfl, _, rfl⟩) ⟨rfl, by rw [hst]; exact hys.snoc hry⟩
      case fin8 =>
        intro ys nx hJ D h tk Fm Nn off1
        obtain ⟨rfl, hys⟩ := hJ
        rw [List.take_of_length_le (by rw [List.length_map, List.size_toArray]; omega)] at hys
        k_steps
        try dsimp only
        refine leaveN_ (by k_asm) (by k_asm) ?_; intro kF kN kR kD; (try dsimp only)
        have hTL := subs_of (TL := (D, LCg.lst ys) :: tl) kN (List.forall_mem_cons.mpr ⟨by k_mem, (by intro p9 hp9; simp only [List.mem_cons, List.mem_append]; simp only [hp9, true_or, or_true])⟩)
        exact hret (.ref D) ((D, LCg.lst ys) :: tl) _ _ kF (news_app2 (fun p hp => kN p (hTL p hp)) (news_all kR)) (fun p hp q hq => kD p (mem_rest0 hp) q (hTL q hq)) (rats_new (.inr (List.mem_cons_self ..)) (hys.mono fun _ _ y => y.mono (PT.mono fun p hp => List.mem_cons_of_mem _ hp))) hMb
theorem mod_gen {prog : Program} {w : World} {A : Around} {E : Value → Shared → Prop} {s : Shared} {a n : Int} {t u : Tok} {Q : Value → Shared → Prop} (hn : 0 < n)
    (h : ∀ v : Int, 0 ≤ v → v < n → v = a.fmod n → Q (.int v s.toks) { s with toks := s.toks + 1 }) : wpAny (model prog w) A (binaryOp .Mod (.int a t) (.int n u)) Q E s := by
  have e : a.fmod n = a % n := Int.fmod_eq_emod_of_nonneg a (by omega)
  exact mod_int' (by omega) (h _ (by rw [e]; exact Int.emod_nonneg a (by omega)) (by rw [e]; exact Int.emod_lt_of_pos a hn) rfl)
inductive Final : Prop where
  | mk : Final
theorem good_true {cl : Str → Option Addr} {mean : ExcName → Option Value} {ns : List Int} {s₁ s' : Shared} {L : Addr} {m : Str → Option Value} (F : Fr s₁.heap L s'.heap m) (hg : s'.gens = #[]) (hos : s'.os = s₁.os) :
    GoodW PySem.Challenge.rw_ui0509_04.row.claim cl mean [ofPy (PyData.list (ns.map PyData.int))] s₁ (.ok (.ret (.bool true))) s' := by
  refine goodW_bool F hg (fun _ => rfl) (postW_of rfl ?_ rfl) hos
  first | (with_unfolding_all exact w_eq_bool (w_res rfl) w_lit) | rfl | simp [WTm.value] | wtm_val
-- the ledger as what is told
abbrev Led (led : List (Addr × Obj)) (a : Addr) (o : Obj) : Prop := (a, o) ∈ led
theorem ratL {led : List (Addr × Obj)} {D : Addr} {x : Int} {t t' : Tok} {c : Nat} (h : (D, T2 x 1 t t' c) ∈ led) : RatN (Led led) (.ref D) (x : Rat) := ⟨D, t, t', c, rfl, h⟩
theorem ratR {led : List (Addr × Obj)} {D : Addr} {r : Rat} {t t' : Tok} {c : Nat} (h : (D, RatO r t t' c) ∈ led) : RatN (Led led) (.ref D) r := ⟨D, t, t', c, rfl, h⟩
theorem ledG {h₀ h : Heap} {L : Addr} {led all : List (Addr × Obj)} (N : News h₀ L h all) (hs : ∀ p ∈ led, p ∈ all) : ∀ a o, Led led a o → h.get? a = some o := fun _ _ e => N.get (hs _ e)
theorem bd64 {x : Int} (h : -(2 ^ 62) ≤ x) (h' : x < 2 ^ 62) : Bd 64 (x : Rat) := Bd.int (PySem.intBits_le_64 (by omega) (by omega)) (by decide)
theorem inL {led : List (Addr × Obj)} {D : Addr} {x : Int} {t t' : Tok} {c : Nat} (h : (D, T2 x 1 t t' c) ∈ led) : Led led D (RatO (x : Rat) t t' c) := h
theorem ptG {h₀ h : Heap} {L : Addr} {led tl all : List (Addr × Obj)} (N : News h₀ L h all) (x : ∀ p ∈ led, p ∈ all) (y : ∀ p ∈ tl, p ∈ all) : ∀ a o, PT (Led led) tl a o → h.get? a = some o := fun _ _ e => e.elim (fun h => N.get (x _ h)) fun h => N.get (y _ h)
theorem RatN.rd' {P : Addr → Obj → Prop} {h : Heap} {v : Value} {r : Rat} {x : Int} (hP : ∀ a o, P a o → h.get? a = some o) (y : RatN P v r) (e : r = (x : Rat)) : Rd h v (.tuple [.int x, .int 1]) := by subst e; exact y.rd hP
theorem two_r {α : Type} {p : α → Prop} {a b : α} (ha : p a) (hb : p b) : ∀ x ∈ [a, b], p x := List.forall_mem_cons.mpr ⟨ha, List.forall_mem_cons.mpr ⟨hb, List.forall_mem_nil _⟩⟩
theorem gj04c {a b c d e f : Int} (ha : 0 < a) (hb : 0 ≤ b) (hc : c ≤ 0) (hd : 0 < d) : ∃ X Y : Rat, gjM 2 2 (augM [[(a : Rat), (b : Rat)], [(c : Rat), (d : Rat)]] [(e : Rat), (f : Rat)]) = some [[1, 0, X], [0, 1, Y]] ∧ (a : Rat) * X + b * Y = e ∧ (c : Rat) * X + d * Y = f := by
  have h1 : (a : Rat) ≠ 0 := by
    intro h
    have : a = 0 := Rat.intCast_inj.mp h
    omega
  have hp : 0 < a * d - b * c := by
    have p1 : 0 < a * d := Int.mul_pos ha hd
    have p2 : 0 ≤ b * (-c) := Int.mul_nonneg hb (by omega)
    rw [Int.mul_neg] at p2
    omega
  have h2 : (a : Rat) * d - b * c ≠ 0 := by
    intro h
    have e : ((a * d - b * c : Int) : Rat) = ((0 : Int) : Rat) := by rw [Rat.intCast_sub, Rat.intCast_mul, Rat.intCast_mul]; exact h
    have := Rat.intCast_inj.mp e
    omega
  exact gj_04 (a : Rat) b c d e f h1 h2
end Mine
open Mine
local macro_rules | `(tactic| kc_close) => `(tactic| ((fail_if_success (rename Final => fin')); (with_reducible show GoodW _ _ _ _ _ _ _); refine Hold.out ?_))
local macro_rules | `(tactic| wrow_close) => `(tactic| ((fail_if_success (rename Final => fin')); (with_reducible show GoodW _ _ _ _ _ _ _); refine Hold.out ?_))
local macro_rules | `(tactic| walk_at "hat9") => `(tactic| (first | exact News.get (by k_asm) (by k_mem) | exact Fr.keep (by k_asm) _ _ (by with_reducible assumption) | exact Tk.get (by k_asm) (by k_asm) (by with_reducible assumption) (by intro p9 hp9; first | exact hp9 | exact absurd hp9 List.not_mem_nil | (repeat (first | exact hp9 | refine List.mem_cons_of_mem _ ?_))) | exact Frag.In.keeps (by k_asm) (Fr.keep (by k_asm)) _ _ (by k_is)))
local macro_rules | `(tactic| bits_by_make) => `(tactic| with_reducible assumption)
local macro_rules | `(tactic| ktr_units) => `(tactic| (have hcL9 := cLine_is; (try simp only [units_under_make, units_in1, units_deeper, Around.mark_units, units_caller]); (try dsimp only [ktrTop]); omega))
local macro_rules | `(tactic| walk_at "binaryOp Mod int int") => `(tactic| (k_here; (with_reducible refine mod_gen ?mp ?_); (case mp => decide); intro v' v0' v1' vE'))
local macro_rules | `(tactic| walk_at "call ref") => `(tactic| (k_here; (with_reducible show wpAny _ _ (call (Value.ref 42) [Value.int _ _, Value.int _ _]) _ _ _); k_dflt (refine' frac_use ?k1 ?k2 ?k3 ?k4 ?k5 ?k6 ?k7 ?k8 ?k9 ?k10 ?k11 ?k12 ?k13 ?_; (case k1 => k_asm); (case k2 => k_asm); (case k3 => k_asm); (case k4 => k_asm); (case k5 => k_asm); (case k6 => first | exact rfl | assumption); (case k7 => first | exact Nat.le_of_ble_eq_true rfl | ktr_room); (case k8 => first | exact Nat.le_of_ble_eq_true rfl | ktr_units); (case k10 => bits_by_make); (case k11 => bits_by_make); (case k12 => decide); (case k13 => decide); (case k9 => first | exact nzden _ | omega | ((try k_fmods); omega) | (refine nzmul ?_ ?_ <;> first | exact nzden _ | omega)); k_whole); intro r' D' t' u' c' h' tk' rE' rN' rD' F' N' l1; (try k_lt l1); (try k_sweep)))
local macro_rules | `(tactic| walk_at "call ref") => `(tactic| (k_here; (with_reducible show wpAny _ _ (call (Value.ref 42) [Value.int _ _, Value.int 1 _]) _ _ _); k_dflt (refine' frac_one ?k1 ?k2 ?k3 ?k4 ?k5 ?k6 ?k7 ?k8 ?k10 ?k12 ?_; (case k1 => k_asm); (case k2 => k_asm); (case k3 => k_asm); (case k4 => k_asm); (case k5 => k_asm); (case k6 => first | exact rfl | assumption); (case k7 => first | exact Nat.le_of_ble_eq_true rfl | ktr_room); (case k8 => first | exact Nat.le_of_ble_eq_true rfl | ktr_units); (case k10 => bits_by_make); (case k12 => decide); k_whole); intro D' t' u' c' h' tk' F' N' l1; (try k_lt l1); (try k_sweep)))
local macro_rules | `(tactic| walk_at "call ref") => `(tactic| (k_here; (with_reducible show wpAny _ _ (call (Value.ref 42) [Value.int _ _]) _ _ _); k_dflt (refine' frac_dflt ?k1 ?k2 ?k3 ?k4 ?k5 ?k6 ?k7 ?k8 ?k10 ?k12 ?_; (case k1 => k_asm); (case k2 => k_asm); (case k3 => k_asm); (case k4 => k_asm); (case k5 => k_asm); (case k6 => first | exact rfl | assumption); (case k7 => first | exact Nat.le_of_ble_eq_true rfl | ktr_room); (case k8 => first | exact Nat.le_of_ble_eq_true rfl | ktr_units); (case k10 => bits_by_make); (case k12 => decide); k_whole); intro D' t' u' c' h' tk' F' N' l1; (try k_lt l1); (try k_sweep)))
local macro_rules | `(tactic| k_all) => `(tactic| with_reducible assumption)
local macro_rules | `(tactic| walk_at "call ref") => `(tactic| (k_here; (with_reducible show wpAny _ _ (call (Value.ref 75) _ _) _ _ _); refine Hold.out ?_))
local macro_rules | `(tactic| walk_at "call ref") => `(tactic| (k_here; (with_reducible show wpAny _ _ (call (Value.ref 49) _ _) _ _ _); refine Hold.out ?_))
local macro_rules | `(tactic| walk_at "call ref") => `(tactic| (k_here; (with_reducible show wpAny _ _ (call (Value.ref 63) _ _) _ _ _); refine Hold.out ?_))
local macro_rules | `(tactic| walk_at "compareOp Eq ref ref") => `(tactic| (k_here; (with_reducible show wpAny _ _ (compareOp CmpOp.Eq (Value.ref _) (Value.ref _)) _ _ _); refine Hold.out ?_))
local macro_rules | `(tactic| walk_at "compareOp NotEq ref ref") => `(tactic| (k_here; (with_reducible show wpAny _ _ (compareOp CmpOp.NotEq (Value.ref _) (Value.ref _)) _ _ _); refine Hold.out ?_))
set_option maxRecDepth 100000 in
set_option maxHeartbeats 8000000 in
theorem PySem.Challenge.cw_ui0509_04_holds : PySem.Challenge.rw_ui0509_04.Holds :=
  Mine.hd (by
  k_go0; (all_goals try k_fold); k_steps
  all_goals (try unfold Hold)
  all_goals (try dsimp only)
  all_goals try (with_reducible show GoodW _ _ _ _ _ (Except.ok (Flow.ret (Value.bool true))) _; exact good_true (by assumption) (by assumption) rfl)
  rename_i v1 z1 z1' e1 Da ta ua ca ga ka la ha1 tk1 tB v2 z2 z2' e2 Db tb ub cb gb kb lb hb1 tkb tC v3 z3 z3' e3 Dc tc uc cc gc kc lc hc1 tkc tD v4 z4 z4' e4 De te ue ce ge ke le tE v5 z5 z5' e5 Df tf uf cf gf kf lf l1 gl1 ll1 hs1 l2 gl2 ll2 tF v6 z6 z6' e6 Dd td ud cd gd kd lld l3 gl3 ll3 l4 gl4 FZ NZ lZ
  have hG := ledG NZ (fun _ h => h)
  obtain ⟨X, Y, hgj, q1, q2⟩ := gj04c (a := 1 + v1) (b := v2) (c := v3 - 9) (d := 1 + v6) (e := v4) (f := v5) (by omega) (by omega) (by omega) (by omega)
  k_dflt (refine' solved_c (rv := [.ref l2, .ref l3]) (sv := [.ref De, .ref Df]) (M := [[((1 + v1 : Int) : Rat), ((v2 : Int) : Rat)], [((v3 - 9 : Int) : Rat), ((1 + v6 : Int) : Rat)]]) (sd := [((v4 : Int) : Rat), ((v5 : Int) : Rat)]) (n := 2) (b := 64) ?k1 ?k2 ?k3 ?k4 ?k5 ?k6 hG ?eR ?hR ?eS ?hS ?hM ?hsd ?hrow ?hbA ?hbB ?hn1 ?hn ?hbb hgj ?k7 ?k8 ?_)
  case k1 => k_asm
  case k2 => k_asm
  case k3 => k_asm
  case k4 => k_asm
  case k5 => k_asm
  case k6 => first | exact rfl | assumption
  case k7 => ktr_room
  case k8 => ktr_units
  case eR => show (_, _) ∈ _; k_mem
  case eS => show (_, _) ∈ _; k_mem
  case hR => exact .cons (rats_new (vs := [.ref Da, .ref Db]) (by show (_, _) ∈ _; k_mem) (.cons (ratL (by k_mem)) (.cons (ratL (by k_mem)) .nil))) (.cons (rats_new (vs := [.ref Dc, .ref Dd]) (by show (_, _) ∈ _; k_mem) (.cons (ratL (by k_mem)) (.cons (ratL (by k_mem)) .nil))) .nil)
  case hS => exact .cons (ratL (by k_mem)) (.cons (ratL (by k_mem)) .nil)
  case hM => rfl
  case hsd => rfl
  case hrow => exact two_r rfl rfl
  case hbA => exact two_r (two_r (bd64 (by omega) (by omega)) (bd64 (by omega) (by omega))) (two_r (bd64 (by omega) (by omega)) (bd64 (by omega) (by omega)))
  case hbB => exact two_r (bd64 (by omega) (by omega)) (bd64 (by omega) (by omega))
  case hn1 => decide
  case hn => decide
  case hbb => decide

  intro v tl h' tk' F' N' ntl LZ hZb
  have LZ' : RatsN _ v [X, Y] := LZ
  obtain ⟨lz, vz, nz, rfl, plz, hvz⟩ := LZ'
  simp only [List.cons_append, List.nil_append] at N'
  rcases hvz with _ | ⟨hX, _ | ⟨hY, _ | _⟩⟩
  obtain ⟨DX, tX, uX, cX, rfl, eX⟩ := hX
  obtain ⟨DY, tY, uY, cY, rfl, eY⟩ := hY
  have hbX : Bd 1029 X := hZb _ (List.mem_cons_self ..) _ (List.mem_cons_of_mem _ (List.mem_cons_of_mem _ (List.mem_cons_self ..)))
  have hbY : Bd 1029 Y := hZb _ (List.mem_cons_of_mem _ (List.mem_cons_self ..)) _ (List.mem_cons_of_mem _ (List.mem_cons_of_mem _ (List.mem_cons_self ..)))
  refine' kun_list (items := [Value.ref DX, Value.ref DY].toArray) (by k_asm) (by k_asm) ⟨_, ptG N' (List.forall_mem_cons.mpr ⟨by k_mem, List.forall_mem_cons.mpr ⟨by k_mem, List.forall_mem_cons.mpr ⟨by k_mem, List.forall_mem_cons.mpr ⟨by k_mem, List.forall_mem_cons.mpr ⟨by k_mem, List.forall_mem_cons.mpr ⟨by k_mem, List.forall_mem_cons.mpr ⟨by k_mem, List.forall_mem_cons.mpr ⟨by k_mem, List.forall_mem_cons.mpr ⟨by k_mem, List.forall_mem_cons.mpr ⟨by k_mem, List.forall_mem_nil _⟩⟩⟩⟩⟩⟩⟩⟩⟩⟩) (by intro p9 hp9; simp only [List.mem_cons, List.mem_append]; simp only [hp9, true_or, or_true]) _ _ plz, rfl, _, rfl⟩ rfl rfl rfl ?_
  intro h2 F2 N2
  k_steps
  unfold Hold
  (rename News _ _ _ _ => N3)
  k_dflt (refine' times_r (D1 := Da) (D2 := DX) (r1 := ((1 + v1 : Int) : Rat)) (r2 := X) (n := 64) (k := 1029) ?k1 ?k2 ?k3 ?k4 ?k5 ?k6 ?e1 ?e2 ?k7 ?k8 ?b1 ?b2 ?hbq ?_)
  case k1 => k_asm
  case k2 => k_asm
  case k3 => k_asm
  case k4 => k_asm
  case k5 => k_asm
  case k6 => first | exact rfl | assumption
  case k7 => ktr_room
  case k8 => ktr_units
  case e1 => exact ledG N3 (fun _ h => h) _ _ (inL (by k_mem))
  case e2 => exact ptG N3 (List.forall_mem_cons.mpr ⟨by k_mem, List.forall_mem_cons.mpr ⟨by k_mem, List.forall_mem_cons.mpr ⟨by k_mem, List.forall_mem_cons.mpr ⟨by k_mem, List.forall_mem_cons.mpr ⟨by k_mem, List.forall_mem_cons.mpr ⟨by k_mem, List.forall_mem_cons.mpr ⟨by k_mem, List.forall_mem_cons.mpr ⟨by k_mem, List.forall_mem_cons.mpr ⟨by k_mem, List.forall_mem_cons.mpr ⟨by k_mem, List.forall_mem_nil _⟩⟩⟩⟩⟩⟩⟩⟩⟩⟩) (by intro p9 hp9; simp only [List.mem_cons, List.mem_append]; simp only [hp9, true_or, or_true]) _ _ eX
  case b1 => exact bd64 (by omega) (by omega)
  case b2 => exact hbX
  case hbq => decide

  intro D3 t3 u3 c3 h3 tk3 b3 F3 N3' l3
  replace l3 := allNe_of l3; simp only [AllNe, and_true] at l3
  k_steps
  unfold Hold
  (rename News _ _ _ _ => N4)
  k_dflt (refine' times_r (D1 := Db) (D2 := DY) (r1 := ((v2 : Int) : Rat)) (r2 := Y) (n := 64) (k := 1029) ?k1 ?k2 ?k3 ?k4 ?k5 ?k6 ?e1 ?e2 ?k7 ?k8 ?b1 ?b2 ?hbq ?_)
  case k1 => k_asm
  case k2 => k_asm
  case k3 => k_asm
  case k4 => k_asm
  case k5 => k_asm
  case k6 => first | exact rfl | assumption
  case k7 => ktr_room
  case k8 => ktr_units
  case e1 => exact ledG N4 (fun _ h => h) _ _ (inL (by k_mem))
  case e2 => exact ptG N4 (List.forall_mem_cons.mpr ⟨by k_mem, List.forall_mem_cons.mpr ⟨by k_mem, List.forall_mem_cons.mpr ⟨by k_mem, List.forall_mem_cons.mpr ⟨by k_mem, List.forall_mem_cons.mpr ⟨by k_mem, List.forall_mem_cons.mpr ⟨by k_mem, List.forall_mem_cons.mpr ⟨by k_mem, List.forall_mem_cons.mpr ⟨by k_mem, List.forall_mem_cons.mpr ⟨by k_mem, List.forall_mem_cons.mpr ⟨by k_mem, List.forall_mem_nil _⟩⟩⟩⟩⟩⟩⟩⟩⟩⟩) (by intro p9 hp9; simp only [List.mem_cons, List.mem_append]; simp only [hp9, true_or, or_true]) _ _ eY
  case b1 => exact bd64 (by omega) (by omega)
  case b2 => exact hbY
  case hbq => decide

  intro D4 t4 u4 c4 h4 tk4 b4 F4 N4' l4
  replace l4 := allNe_of l4; simp only [AllNe, and_true] at l4
  k_steps
  unfold Hold
  (rename News _ _ _ _ => N5)
  k_dflt (refine' plus_r (D1 := D3) (D2 := D4) (r1 := ((1 + v1 : Int) : Rat) * X) (r2 := ((v2 : Int) : Rat) * Y) (n := 1093) (k := 1093) ?k1 ?k2 ?k3 ?k4 ?k5 ?k6 ?e1 ?e2 ?k7 ?k8 ?b1 ?b2 ?hbq ?_)
  case k1 => k_asm
  case k2 => k_asm
  case k3 => k_asm
  case k4 => k_asm
  case k5 => k_asm
  case k6 => first | exact rfl | assumption
  case k7 => ktr_room
  case k8 => ktr_units
  case e1 => exact N5.get (by k_mem)
  case e2 => exact N5.get (by k_mem)
  case b1 => exact b3
  case b2 => exact b4
  case hbq => decide

  intro D5 t5 u5 c5 h5 tk5 b5 F5 N5' l5
  replace l5 := allNe_of l5; simp only [AllNe, and_true] at l5
  k_steps
  unfold Hold
  (rename News _ _ _ _ => N6)
  refine ne_rd (d := .tuple [.int v4, .int 1]) (RatN.rd' (P := Led _) (ledG N6 fun _ h => h) (ratR (by k_mem)) q1) (T2_rd (N6.get (by k_mem))) (by rfl) ?hu ?_
  case hu => ktr_units
  k_steps
  unfold Hold
  (rename News _ _ _ _ => N7)
  k_dflt (refine' times_r (D1 := Dc) (D2 := DX) (r1 := ((v3 - 9 : Int) : Rat)) (r2 := X) (n := 64) (k := 1029) ?k1 ?k2 ?k3 ?k4 ?k5 ?k6 ?e1 ?e2 ?k7 ?k8 ?b1 ?b2 ?hbq ?_)
  case k1 => k_asm
  case k2 => k_asm
  case k3 => k_asm
  case k4 => k_asm
  case k5 => k_asm
  case k6 => first | exact rfl | assumption
  case k7 => ktr_room
  case k8 => ktr_units
  case e1 => exact ledG N7 (fun _ h => h) _ _ (inL (by k_mem))
  case e2 => exact ptG N7 (List.forall_mem_cons.mpr ⟨by k_mem, List.forall_mem_cons.mpr ⟨by k_mem, List.forall_mem_cons.mpr ⟨by k_mem, List.forall_mem_cons.mpr ⟨by k_mem, List.forall_mem_cons.mpr ⟨by k_mem, List.forall_mem_cons.mpr ⟨by k_mem, List.forall_mem_cons.mpr ⟨by k_mem, List.forall_mem_cons.mpr ⟨by k_mem, List.forall_mem_cons.mpr ⟨by k_mem, List.forall_mem_cons.mpr ⟨by k_mem, List.forall_mem_nil _⟩⟩⟩⟩⟩⟩⟩⟩⟩⟩) (by intro p9 hp9; simp only [List.mem_cons, List.mem_append]; simp only [hp9, true_or, or_true]) _ _ eX
  case b1 => exact bd64 (by omega) (by omega)
  case b2 => exact hbX
  case hbq => decide

  intro D7 t7 u7 c7 h7 tk7 b7 F7 N7' l7
  replace l7 := allNe_of l7; simp only [AllNe, and_true] at l7
  k_steps
  unfold Hold
  rename_i t9 v7 z7 z7' e7 Dk tk9 uk ck hk9 tkk Fk Nk lk
  have e67 : v6 = v7 := e6.trans e7.symm
  rw [e67] at q2
  k_dflt (refine' times_r (D1 := Dk) (D2 := DY) (r1 := ((1 + v7 : Int) : Rat)) (r2 := Y) (n := 64) (k := 1029) ?k1 ?k2 ?k3 ?k4 ?k5 ?k6 ?e1 ?e2 ?k7 ?k8 ?b1 ?b2 ?hbq ?_)
  case k1 => k_asm
  case k2 => k_asm
  case k3 => k_asm
  case k4 => k_asm
  case k5 => k_asm
  case k6 => first | exact rfl | assumption
  case k7 => ktr_room
  case k8 => ktr_units
  case e1 => exact ledG Nk (fun _ h => h) _ _ (inL (by k_mem))
  case e2 => exact ptG Nk (List.forall_mem_cons.mpr ⟨by k_mem, List.forall_mem_cons.mpr ⟨by k_mem, List.forall_mem_cons.mpr ⟨by k_mem, List.forall_mem_cons.mpr ⟨by k_mem, List.forall_mem_cons.mpr ⟨by k_mem, List.forall_mem_cons.mpr ⟨by k_mem, List.forall_mem_cons.mpr ⟨by k_mem, List.forall_mem_cons.mpr ⟨by k_mem, List.forall_mem_cons.mpr ⟨by k_mem, List.forall_mem_cons.mpr ⟨by k_mem, List.forall_mem_nil _⟩⟩⟩⟩⟩⟩⟩⟩⟩⟩) (by intro p9 hp9; simp only [List.mem_cons, List.mem_append]; simp only [hp9, true_or, or_true]) _ _ eY
  case b1 => exact bd64 (by omega) (by omega)
  case b2 => exact hbY
  case hbq => decide

  intro D8 t8 u8 c8 h8 tk8 b8 F8 N8' l8
  replace l8 := allNe_of l8; simp only [AllNe, and_true] at l8
  k_steps
  unfold Hold
  (rename News _ _ _ _ => N9)
  k_dflt (refine' plus_r (D1 := D7) (D2 := D8) (r1 := ((v3 - 9 : Int) : Rat) * X) (r2 := ((1 + v7 : Int) : Rat) * Y) (n := 1093) (k := 1093) ?k1 ?k2 ?k3 ?k4 ?k5 ?k6 ?e1 ?e2 ?k7 ?k8 ?b1 ?b2 ?hbq ?_)
  case k1 => k_asm
  case k2 => k_asm
  case k3 => k_asm
  case k4 => k_asm
  case k5 => k_asm
  case k6 => first | exact rfl | assumption
  case k7 => ktr_room
  case k8 => ktr_units
  case e1 => exact N9.get (by k_mem)
  case e2 => exact N9.get (by k_mem)
  case b1 => exact b7
  case b2 => exact b8
  case hbq => decide

  intro D9 t9' u9 c9 h9 tk9' b9 F9 N9' l9
  replace l9 := allNe_of l9; simp only [AllNe, and_true] at l9
  k_steps
  unfold Hold
  (rename News _ _ _ _ => NA)
  refine eq_rd (d := .tuple [.int v5, .int 1]) (RatN.rd' (P := Led _) (ledG NA fun _ h => h) (ratR (by k_mem)) q2) (T2_rd (NA.get (by k_mem))) (by rfl) ?hu2 ?_
  case hu2 => ktr_units
  k_steps
  all_goals (try unfold Hold)
  all_goals (try dsimp only)
  exact good_true (by assumption) (by assumption) rfl)

