import PyProof.Rows.All
import Wide.All
import OpenK.AllK
import Wide.FinOn
import PySem.Challenge.RW_ui0509_09
open PySem PySem.W PyProof.Rows PySem.Spec PySem.Calls
set_option Elab.async false
set_option maxRecDepth 100000
set_option maxHeartbeats 8000000
set_option rowWalk.seconds 1500
set_option compiler.extract_closed false
namespace Mine
open_top hd for PySem.Challenge.rw_ui0509_09
-- a call over a part of the ledger: the callee walks over NEED alone; the rest of the ledger is kept by its ground
def restOf (news need : List (Addr × Obj)) : List (Addr × Obj) := news.filter fun p => !(need.map (·.1)).contains p.1
theorem mem_rest {news need : List (Addr × Obj)} {p : Addr × Obj} (h : p ∈ news) (hn : p.1 ∉ need.map (·.1)) : p ∈ restOf news need :=
  List.mem_filter.mpr ⟨h, by simpa [List.contains_iff_mem] using hn⟩
theorem rest_mem {news need : List (Addr × Obj)} {p : Addr × Obj} (h : p ∈ restOf news need) : p ∈ news ∧ p.1 ∉ need.map (·.1) := by
  obtain ⟨h1, h2⟩ := List.mem_filter.mp h
  exact ⟨h1, by simpa [List.contains_iff_mem] using h2⟩
theorem mem_rest0 {news : List (Addr × Obj)} {p : Addr × Obj} (h : p ∈ news) : p ∈ restOf news [] := mem_rest h (by simp)
def LeaveN (h₀ : Heap) (L : Addr) (m : Str → Option Value) (g : Heap) (news need : List (Addr × Obj)) (R : Result → Shared → Prop) (v : Value) (s' : Shared) : Prop :=
  ∃ L' m' news', Fr g L' s'.heap m' ∧ News g L' s'.heap news' ∧ (Fr h₀ L s'.heap m → News h₀ L s'.heap news' → News h₀ L s'.heap (restOf news need) → (∀ p ∈ restOf news need, ∀ q ∈ news', p.1 ≠ q.1) → R (.ok (.ret v)) s')
theorem leaveN_ {h₀ g : Heap} {L L' : Addr} {m m' : Str → Option Value} {news need news' : List (Addr × Obj)} {R : Result → Shared → Prop} {v : Value} {s' : Shared} (F' : Fr g L' s'.heap m') (N' : News g L' s'.heap news')
    (k : Fr h₀ L s'.heap m → News h₀ L s'.heap news' → News h₀ L s'.heap (restOf news need) → (∀ p ∈ restOf news need, ∀ q ∈ news', p.1 ≠ q.1) → R (.ok (.ret v)) s') : LeaveN h₀ L m g news need R v s' := ⟨L', m', news', F', N', k⟩
theorem leaveN_K {h₀ h g : Heap} {L : Addr} {m : Str → Option Value} {news need : List (Addr × Obj)} {R : Result → Shared → Prop} {v : Value} {s' : Shared} (N : News h₀ L h news) (hg : g = hideAll h (need.map (·.1)))
    (hl : LeaveN h₀ L m g news need R v s') : LeaveK h₀ L m g R v s' := by
  obtain ⟨L', m', news', F', N', k⟩ := hl
  have keep : ∀ p ∈ restOf news need, g.get? p.1 = some p.2 := fun p hp => by
    obtain ⟨h1, h2⟩ := rest_mem hp
    rw [hg]
    exact hideAll_get _ (N p h1).1 h2
  refine ⟨L', m', news', F', N', fun a b => k a b (fun p hp => ⟨F'.keep _ _ (keep p hp), (N p (rest_mem hp).1).2⟩) fun p hp q hq e => ?_⟩
  have h1 := keep p hp
  rw [e, (N' q hq).2.2] at h1
  cases h1
theorem news_all {h₀ h' : Heap} {L : Addr} {news : List (Addr × Obj)} (N2 : News h₀ L h' (restOf news [])) : News h₀ L h' news := fun p hp => N2 p (mem_rest0 hp)
theorem news_cons {h₀ h' : Heap} {L : Addr} {news : List (Addr × Obj)} {p : Addr × Obj} {full : List (Addr × Obj)} (N1 : News h₀ L h' full) (hp : p ∈ full) (N : News h₀ L h' news) : News h₀ L h' (p :: news) := by
  intro q hq
  rcases List.mem_cons.mp hq with rfl | hq
  · exact N1 _ hp
  · exact N q hq
theorem rest_two {news : List (Addr × Obj)} {x d : Addr} {ox od : Obj} (l0 : ∀ p ∈ news, p.1 < d) (l00 : d < x) {p : Addr × Obj} (hp : p ∈ news) : p ∈ restOf ((x, ox) :: (d, od) :: news) [(x, ox), (d, od)] := by
  refine mem_rest (List.mem_cons_of_mem _ (List.mem_cons_of_mem _ hp)) ?_
  have h1 := l0 p hp
  simp only [List.map_cons, List.map_nil, List.mem_cons, List.not_mem_nil, or_false, not_or]
  exact ⟨Nat.ne_of_lt (Nat.lt_trans h1 l00), Nat.ne_of_lt h1⟩
theorem ne_all {news full : List (Addr × Obj)} {q : Addr × Obj} (hd : ∀ p ∈ restOf news [], ∀ q ∈ full, p.1 ≠ q.1) (hq : q ∈ full) : ∀ p ∈ news, p.1 ≠ q.1 := fun p hp => hd p (mem_rest0 hp) q hq
def AllNe (d : Nat) : List (Addr × Obj) → Prop
  | [] => True
  | p :: r => (@Ne Nat p.1 d) ∧ AllNe d r
theorem allNe_of {d : Addr} : ∀ {l : List (Addr × Obj)}, (∀ p ∈ l, p.1 ≠ d) → AllNe d l
  | [], _ => trivial
  | p :: _, h => ⟨h p (.head _), allNe_of fun q hq => h q (.tail _ hq)⟩
section
variable {prog : Program} {w : World} {A A₀ : Around} {s : Shared} {K : Frag} {L : Addr} {h₀ base : Heap} {m mg mb : Str → Option Value} {news : List (Addr × Obj)} {p : Program} {loose : List Str} {mean : ExcName → Option Value}
theorem code_need (need : List (Addr × Obj)) {env : Env} {outer : List Env} {R : Result → Shared → Prop} {name qual : Str} {params : Arguments} {body : List Stmt} {scope : Scope} {dV kV doc pm cdv ct oc : Value} {an od : Option Addr} {osl : Array (Option Value)} {f : Addr} {args : Args} {binds : List (Str × Value)}
    (B : Below A₀ base outer h₀) (F : Fr h₀ L s.heap m) (X₀ : K.In h₀) (N : News h₀ L s.heap news) (T : Top p loose mean mg mb h₀) (hA : A.frames = some (env :: outer)) (hf : env.frame = some L) (hke : env.scope.kind = .function)
    (ho : K.lookup f = some ⟨oc, od, .func (fnOf name qual params body scope dV kV doc pm an cdv ct), osl⟩) (hcd : codeIn K cdv qual = true) (hroom : A.depth < recursionLimit)
    (hbind : BindsTo s (fnOf name qual params body scope dV kV doc pm an cdv ct) args binds) (hloc : ∀ y ∈ binds, scope.names.lookup y.1 = some .local) (hn : ∀ p ∈ need, p ∈ news)
    (h : ∀ g L' h₁ tk, Fr h₀ L g m → Fr g L' h₁ (fun y => binds.reverse.lookup y) → News g L' h₁ need → Below A base (env :: outer) g → K.In g → Top p loose mean mg mb g → (∀ b o, s.heap.get? b = some o → b ∉ need.map (·.1) → g.get? b = some o) →
      wpAny (model prog w) (A.deeper (envOf qual scope L' f cdv)) (execs body (envOf qual scope L' f cdv))
        (fun fl s' => LeaveN h₀ L m g news need R (match fl with | .ret v => v | _ => .none) s')
        (fun e s' => wpAny (model prog w) (A.deeper (envOf qual scope L' f cdv)) (leaving (envOf qual scope L' f cdv) e) (fun _ s'' => R (.error e) s'') (fun e' s'' => R (.error e') s'') s')
        { s with heap := h₁, toks := tk })
    (hco : scope.isCoroutine = false) (hgen : scope.isGenerator = false) (hk : scope.kind = .function)
    (hcell : ∀ x ∈ scope.names, x.2 ≠ .cell) : codeAny (model prog w) A (.call (.ref f) args) R s := by
  have N0 : News h₀ L s.heap need := fun p hp => N p (hn p hp)
  obtain ⟨FG, BG, st, lv⟩ := groundX (R := R) B F N0 hA hf hke
  refine codeAny_call_def (fd := fnOf name qual params body scope dV kV doc pm an cdv ct) (body := body) (binds := binds) hroom ((X₀.keeps F.keep) _ _ ho) rfl (T.nolimit.keeps F.keep) (codeRec_of (X₀.keeps F.keep) hcd) rfl hbind hcell hloc (fun h₁ hns hk₁ => ?_) hco hgen hk
  exact wpAny_mono (h _ s.heap.objs.size h₁ _ FG ⟨hns, fun b o e => hk₁ b o (of_hideAll _ e), Nat.le_of_eq (hideAll_size _ _)⟩
    (fun p hp => ⟨hk₁ _ _ (N0 p hp).1, Nat.ne_of_lt (Heap.lt_size (N0 p hp).1), hideAll_none _ (List.mem_map_of_mem hp)⟩) BG (X₀.keeps st) (T.keeps st) (fun b o e n => hideAll_get _ e n)) (fun fl s' hl => lv _ _ (leaveN_K N rfl hl)) fun _ _ y => y
end
theorem Upd.mem {d : Addr} {o o' : Obj} {l l' : List (Addr × Obj)} (U : Upd d o o' l l') : (d, o) ∈ l := by
  obtain ⟨p, q, e, _, _, _⟩ := U.split; rw [e]; exact List.mem_append.mpr (.inr (.head _))
theorem Upd.other {d : Addr} {o o' : Obj} {l l' : List (Addr × Obj)} (U : Upd d o o' l l') {p : Addr × Obj} (h : p ∈ l') (hd : p.1 ≠ d) : p ∈ l := by
  obtain ⟨p1, q1, e1, e1', _, _⟩ := U.split
  rw [e1'] at h; rw [e1]
  rcases List.mem_append.mp h with h | h
  · exact List.mem_append.mpr (.inl h)
  · rcases List.mem_cons.mp h with h | h
    · rw [h] at hd; exact absurd rfl hd
    · exact List.mem_append.mpr (.inr (List.mem_cons_of_mem _ h))
theorem UpdF.mem {d : Addr} {o : Obj} {l : List (Addr × Obj)} {g : Obj → List (Addr × Obj)} (U : UpdF d o l g) : (d, o) ∈ l := by
  obtain ⟨p, q, e, _, _, _⟩ := U.split; rw [e]; exact List.mem_append.mpr (.inr (.head _))
theorem UpdF.other {d : Addr} {o o' : Obj} {l : List (Addr × Obj)} {g : Obj → List (Addr × Obj)} (U : UpdF d o l g) {p : Addr × Obj} (h : p ∈ g o') : p = (d, o') ∨ (p ∈ l ∧ p.1 ≠ d) := by
  obtain ⟨p1, q1, e1, e1', a, b⟩ := U.split
  rw [e1'] at h; rw [e1]
  rcases List.mem_append.mp h with h | h
  · exact .inr ⟨List.mem_append.mpr (.inl h), a p h⟩
  · rcases List.mem_cons.mp h with h | h
    · exact .inl h
    · exact .inr ⟨List.mem_append.mpr (.inr (List.mem_cons_of_mem _ h)), b p h⟩
theorem news_upd1 {h₀ h h' : Heap} {L x d : Addr} {ox od od' : Obj} {news full : List (Addr × Obj)} {g1 : Obj → List (Addr × Obj)} (N : News h₀ L h news) (ex : (x, ox) ∈ news) (U : UpdF d od news g1)
    (N1 : News h₀ L h' full) (fx : (x, ox) ∈ full) (fd : (d, od') ∈ full) (kR : News h₀ L h' (restOf news [(x, ox), (d, od)])) : News h₀ L h' (g1 od') := by
  intro p hp
  rcases UpdF.other U hp with rfl | ⟨hp, hd⟩
  · exact N1 _ fd
  by_cases hx : p.1 = x
  · have h1 := (N p hp).1
    have h2 := (N _ ex).1
    rw [hx, h2] at h1
    have : p = (x, ox) := Prod.ext hx (Option.some.inj h1).symm
    rw [this]
    exact N1 _ fx
  · exact kR p (mem_rest hp (by simp only [List.map_cons, List.map_nil, List.mem_cons, List.not_mem_nil, or_false, not_or]; exact ⟨hx, hd⟩))
theorem two_in {news : List (Addr × Obj)} {a b : Addr × Obj} (h1 : a ∈ news) (h2 : b ∈ news) : ∀ p ∈ [a, b], p ∈ news :=
  List.forall_mem_cons.mpr ⟨h1, List.forall_mem_cons.mpr ⟨h2, List.forall_mem_nil _⟩⟩
-- the gcd loop, as plain numbers
theorem gcd_turn {a b : Int} (hb : 0 < b) : Int.gcd b (a.fmod b) = Int.gcd a b := by
  rw [Int.fmod_eq_emod_of_nonneg _ (by omega), Int.gcd_comm a b]
  conv => rhs; rw [← Int.mul_ediv_add_emod a b]
  rw [Int.gcd_mul_left_add_right]
theorem dv_turn {a b : Int} {g : Nat} (hb : b > 0) (h : Int.gcd a b = g) : 0 ≤ b ∧ 0 ≤ a.fmod b ∧ Int.gcd b (a.fmod b) = g :=
  ⟨by omega, by rw [Int.fmod_eq_emod_of_nonneg _ (by omega)]; exact Int.emod_nonneg _ (by omega), by rw [gcd_turn hb]; exact h⟩
theorem dv_less {a b : Int} (hb : b > 0) : (a.fmod b).toNat < b.toNat := by
  have h1 : a.fmod b = a % b := Int.fmod_eq_emod_of_nonneg _ (by omega)
  have h2 := Int.emod_nonneg a (show b ≠ 0 by omega)
  have h3 := Int.emod_lt_of_pos a (show 0 < b by omega)
  omega
theorem dv_end {x y a b : Int} (ha : 0 ≤ a) (hb : 0 ≤ b) (hn : ¬ b > 0) (h : Int.gcd a b = Int.gcd (if x < 0 then -x else x) (if y < 0 then -y else y)) : a = ((Int.gcd x y : Nat) : Int) := by
  have e : b = 0 := by omega
  subst e
  rw [Int.gcd_zero] at h
  have h1 : Int.gcd (if x < 0 then -x else x) (if y < 0 then -y else y) = Int.gcd x y := by
    split <;> split <;> simp
  omega
-- fractions as rationals
theorem num_p {x y g : Int} (h : ¬ y < 0) (h0 : y ≠ 0) (e : g = ((Int.gcd x y : Nat) : Int)) : x.fdiv g = (Rat.divInt x y).num := by
  rw [e, Rat.num_divInt, Int.sign_eq_one_of_pos (by omega), Int.one_mul, Int.gcd_comm, Int.fdiv_eq_ediv_of_nonneg _ (by omega)]
theorem den_p {x y g : Int} (h : ¬ y < 0) (h0 : y ≠ 0) (e : g = ((Int.gcd x y : Nat) : Int)) : y.fdiv g = ((Rat.divInt x y).den : Int) := by
  rw [e, Rat.den_divInt, if_neg (by omega), Int.gcd_comm, Int.fdiv_eq_ediv_of_nonneg _ (by omega), Int.natCast_ediv]
  congr 1
  omega
theorem num_n {x y g : Int} (h : y < 0) (e : g = ((Int.gcd (-x) (-y) : Nat) : Int)) : (-x).fdiv g = (Rat.divInt x y).num := by
  rw [← Rat.neg_divInt_neg]; exact num_p (by omega) (by omega) e
theorem den_n {x y g : Int} (h : y < 0) (e : g = ((Int.gcd (-x) (-y) : Nat) : Int)) : (-y).fdiv g = ((Rat.divInt x y).den : Int) := by
  rw [← Rat.neg_divInt_neg]; exact den_p (by omega) (by omega) e
theorem num_le (u l : Int) : (Rat.divInt u l).num.natAbs ≤ u.natAbs := by
  rw [Rat.num_divInt]
  refine Nat.le_trans (Int.natAbs_ediv_le_natAbs _ _) ?_
  rcases Int.lt_trichotomy l 0 with h | h | h
  · rw [Int.sign_eq_neg_one_of_neg h]; omega
  · subst h; simp
  · rw [Int.sign_eq_one_of_pos h]; omega
theorem den_le {u l : Int} (h : l ≠ 0) : (Rat.divInt u l).den ≤ l.natAbs := by
  rw [Rat.den_divInt, if_neg h]
  exact Nat.div_le_self _ _
theorem r_plus (r q : Rat) : Rat.divInt (r.num * q.den + q.num * r.den) (r.den * q.den) = r + q := by
  rw [Rat.add_def', ← Rat.divInt_ofNat]; rfl
theorem r_minus (r q : Rat) : Rat.divInt (r.num * q.den - q.num * r.den) (r.den * q.den) = r - q := by
  rw [Rat.sub_def', ← Rat.divInt_ofNat]; rfl
theorem nzmul {a b : Int} (ha : a ≠ 0) (hb : b ≠ 0) : a * b ≠ 0 := Int.mul_ne_zero ha hb
theorem nzden (r : Rat) : (r.den : Int) ≠ 0 := by have := r.den_nz; omega
-- sizes
def Fits (x : Int) : Prop := x.natAbs < 10 ^ 2000
theorem Fits.no {x g M : Int} (h : Fits x) (hg : 0 < g) (hb : x.fdiv g ≥ M) (hM : M = 10 ^ 2000) : False := by
  have h1 : (x.fdiv g).natAbs ≤ x.natAbs := by
    rw [Int.fdiv_eq_ediv_of_nonneg _ (by omega)]
    exact Int.natAbs_ediv_le_natAbs _ _
  have h2 : ((10 ^ 2000 : Nat) : Int) = M := by rw [hM]; simp
  unfold Fits at h
  generalize (10 : Nat) ^ 2000 = P at h h2
  omega
theorem Fits.noA {x g M : Int} (h : Fits x) (hg : 0 < g) (hb : (if x.fdiv g < 0 then -(x.fdiv g) else x.fdiv g) ≥ M) (hM : M = 10 ^ 2000) : False := by
  have h1 : (x.fdiv g).natAbs ≤ x.natAbs := by
    rw [Int.fdiv_eq_ediv_of_nonneg _ (by omega)]
    exact Int.natAbs_ediv_le_natAbs _ _
  have h2 : ((10 ^ 2000 : Nat) : Int) = M := by rw [hM]; simp
  unfold Fits at h
  generalize (10 : Nat) ^ 2000 = P at h h2
  omega
theorem Fits.neg {x : Int} (h : Fits x) : Fits (-x) := by unfold Fits at *; omega
theorem ten_two : (10 : Nat) ^ 2000 < 2 ^ 9000 := by decide +kernel
theorem two_ten : (2 : Nat) ^ 6643 < 10 ^ 2000 := by decide +kernel
theorem Fits.log {x : Int} {n : Nat} (h : Fits x) (h0 : 0 < n) (hn : n ≤ x.natAbs) : (n : Int).natAbs.log2 < 9000 := by
  have e : (n : Int).natAbs = n := by omega
  rw [e]
  refine (Nat.log2_lt (by omega)).mpr ?_
  unfold Fits at h
  have := ten_two
  generalize (10 : Nat) ^ 2000 = P at *
  generalize (2 : Nat) ^ 9000 = R at *
  omega
theorem Fits.of {x : Int} {n : Nat} (h : Builtin.Int.intBits x ≤ n) (hn : n ≤ 6643) : Fits x := by
  have h1 := natAbs_lt_pow_bits x
  have h2 : (2 : Nat) ^ Builtin.Int.intBits x ≤ 2 ^ 6643 := Nat.pow_le_pow_right (by decide) (by omega)
  have h3 := two_ten
  unfold Fits
  generalize (10 : Nat) ^ 2000 = P at *
  generalize (2 : Nat) ^ 6643 = R at *
  omega
theorem bits_num {u l : Int} {n : Nat} (h : Builtin.Int.intBits u ≤ n) : Builtin.Int.intBits (Rat.divInt u l).num ≤ n := bits_of_natAbs_le (num_le u l) h
theorem bits_den {u l : Int} {n : Nat} (h0 : l ≠ 0) (h : Builtin.Int.intBits l ≤ n) : Builtin.Int.intBits ((Rat.divInt u l).den : Int) ≤ n := bits_of_natAbs_le (by have := den_le (u := u) h0; omega) h

-- the calls
abbrev RatO (r : Rat) (t t' : Tok) (c : Nat) : Obj := { cls := .type "tuple", data := .seq #[.int r.num t, .int (r.den : Int) t'] c }
theorem div_c {w : World} {p : Program} {loose : List Str} {mean : ExcName → Option Value} {mg mb : Str → Option Value} (dp un : Nat) (gd : Option (List Code)) (cn : Str) (cs : Scope) (a : Addr) (ccd : Value) (cl : List (Str × Addr)) (outer : List Env) (A₀ : Around) (base h₀ : Heap) (L : Addr) (m : Str → Option Value) (news : List (Addr × Obj)) (s : Shared) (Q E : Value → Shared → Prop) (x y : Int) (t1 t2 : Tok)
    (B : Below A₀ base outer h₀) (F : Fr h₀ L s.heap m) (X : (Mine.hd.heap_39 w.params).In h₀) (N : News h₀ L s.heap news) (T : Top p loose mean mg mb h₀) (hk : cs.kind = .function)
    (hd : dp + 1 < recursionLimit) (hu : un + 8 < cLine)
    (hret : ∀ (t : Tok) (h' : Heap) (tk' : Nat), Fr h₀ L h' m → News h₀ L h' news → Q (.int ((Int.gcd x y : Nat) : Int) t) { s with heap := h', toks := tk' }) :
      wpAny (model PySem.Challenge.rw_ui0509_09.row.prog w) (ktrTop dp un gd cn cs L a ccd cl outer) (call (.ref 42) [.int x t1, .int y t2]) Q E s := by
  revert X; k_fill; intro X
  refine wpAny_call ?_
  k_dflt ktr_enter
  (k_with "exec While Compare cons nil" => k_while_given ["a!", "b!"] (fun a₀ b₀ _ a b => 0 ≤ a ∧ 0 ≤ b ∧ Int.gcd a b = Int.gcd a₀ b₀) (fun _ _ _ _ b => b.toNat) "a" "b")
  (k_with "state" => exact dv_turn (by assumption) (by assumption))
  (k_with "measure" => exact dv_less (by assumption))
  k_steps
  all_goals exact cb_retI hret (dv_end (by assumption) (by assumption) (by assumption) (by assumption)) (by k_asm) (by k_asm)
theorem div_use {w : World} {p : Program} {loose : List Str} {mean : ExcName → Option Value} {mg mb : Str → Option Value} (dp un : Nat) (gd : Option (List Code)) (cn : Str) (cs : Scope) (a : Addr) (ccd : Value) (cl : List (Str × Addr)) (outer : List Env) (A₀ : Around) (base h₀ : Heap) (L : Addr) (m : Str → Option Value) (news : List (Addr × Obj)) (s : Shared) (Q E : Value → Shared → Prop) (x y : Int) (t1 t2 : Tok)
    (B : Below A₀ base outer h₀) (F : Fr h₀ L s.heap m) (X : (Mine.hd.heap_39 w.params).In h₀) (N : News h₀ L s.heap news) (T : Top p loose mean mg mb h₀) (hk : cs.kind = .function)
    (hd : dp + 1 < recursionLimit) (hu : un + 8 < cLine) (hy : y ≠ 0) (hf : Fits y)
    (hret : ∀ (g : Int) (t : Tok) (h' : Heap) (tk' : Nat), 0 < g → g = ((Int.gcd x y : Nat) : Int) → g.natAbs.log2 < 9000 → Fr h₀ L h' m → News h₀ L h' news → Q (.int g t) { s with heap := h', toks := tk' }) :
      wpAny (model PySem.Challenge.rw_ui0509_09.row.prog w) (ktrTop dp un gd cn cs L a ccd cl outer) (call (.ref 42) [.int x t1, .int y t2]) Q E s :=
  div_c dp un gd cn cs a ccd cl outer A₀ base h₀ L m news s Q E x y t1 t2 B F X N T hk hd hu (fun t h' tk' F' N' => hret _ t h' tk' (by have := Int.gcd_pos_of_ne_zero_right x hy; omega) rfl (Fits.log hf (Int.gcd_pos_of_ne_zero_right x hy) (Int.gcd_le_natAbs_right x hy)) F' N')
theorem fr_end {h₀ h' : Heap} {L D : Addr} {m : Str → Option Value} {news : List (Addr × Obj)} {s : Shared} {Q : Value → Shared → Prop} {x y a b : Int} {t t' : Tok} {c tk' : Nat}
    (hret : ∀ (r : Rat) (D : Addr) (t t' : Tok) (c : Nat) (h' : Heap) (tk' : Nat), r = Rat.divInt x y → Fr h₀ L h' m → News h₀ L h' ((D, RatO r t t' c) :: news) → (∀ p ∈ news, p.1 < D) → Q (.ref D) { s with heap := h', toks := tk' })
    (e1 : a = (Rat.divInt x y).num) (e2 : b = ((Rat.divInt x y).den : Int)) (F : Fr h₀ L h' m) (N : News h₀ L h' ((D, ({ cls := .type "tuple", data := .seq #[.int a t, .int b t'] c } : Obj)) :: news)) (hl : ∀ p ∈ news, p.1 < D) : Q (.ref D) { s with heap := h', toks := tk' } := by
  subst e1; subst e2
  exact hret _ D t t' c h' tk' rfl F N hl
local macro_rules | `(tactic| walk_at "call ref") => `(tactic| (k_here; (with_reducible show wpAny _ _ (call (Value.ref 42) [Value.int _ _, Value.int _ _]) _ _ _); k_dflt (refine' div_use _ _ _ _ _ _ _ _ _ _ _ _ _ _ _ _ _ _ _ _ _ _ ?k1 ?k2 ?k3 ?k4 ?k5 ?k6 ?k7 ?k8 ?k9 ?k10 ?_; (case k1 => k_asm); (case k2 => k_asm); (case k3 => k_asm); (case k4 => k_asm); (case k5 => k_asm); (case k6 => first | exact rfl | assumption); (case k7 => ktr_room); (case k8 => ktr_units); (case k9 => omega); (case k10 => first | assumption | exact Fits.neg (by assumption) | exact Fits.of (n := 64) (PySem.intBits_le_64 (by omega) (by omega)) (by decide)); k_whole); intro g' t' h' tk' g0' gE' gL' F' N'; (try k_sweep)))
local macro_rules | `(tactic| walk_at "binaryOp FloorDiv int int") => `(tactic| (with_reducible refine floordiv_int ?ne ?_ (Or.inl (PyProof.noPylong_of_log2 ?lg)); (case lg => with_reducible assumption); (case ne => omega)))
theorem frac_c {w : World} {p : Program} {loose : List Str} {mean : ExcName → Option Value} {mg mb : Str → Option Value} (dp un : Nat) (gd : Option (List Code)) (cn : Str) (cs : Scope) (a : Addr) (ccd : Value) (cl : List (Str × Addr)) (outer : List Env) (A₀ : Around) (base h₀ : Heap) (L : Addr) (m : Str → Option Value) (news : List (Addr × Obj)) (s : Shared) (Q E : Value → Shared → Prop) (x y : Int) (t1 t2 : Tok)
    (B : Below A₀ base outer h₀) (F : Fr h₀ L s.heap m) (X : (Mine.hd.heap_39 w.params).In h₀) (N : News h₀ L s.heap news) (T : Top p loose mean mg mb h₀) (hk : cs.kind = .function)
    (hd : dp + 2 < recursionLimit) (hu : un + 16 < cLine) (hy : y ≠ 0) (hx1 : Fits x) (hy1 : Fits y)
    (hret : ∀ (r : Rat) (D : Addr) (t t' : Tok) (c : Nat) (h' : Heap) (tk' : Nat), r = Rat.divInt x y → Fr h₀ L h' m → News h₀ L h' ((D, RatO r t t' c) :: news) → (∀ p ∈ news, p.1 < D) → Q (.ref D) { s with heap := h', toks := tk' }) :
      wpAny (model PySem.Challenge.rw_ui0509_09.row.prog w) (ktrTop dp un gd cn cs L a ccd cl outer) (call (.ref 50) [.int x t1, .int y t2]) Q E s := by
  revert X; k_fill; intro X
  refine wpAny_call ?_
  k_dflt (refine' code_def ?k1 ?k2 ?k3 ?k4 ?k5 ?kA ?kF ?kK ?k6 ?k7 ?k8 ?k9 ?kB ?_ ?c2 ?c3 ?c4 ?c5; (case kA => exact rfl); (case kF => exact rfl); (case kK => assumption); (case k1 => k_asm); (case k2 => k_asm); (case k3 => k_asm); (case k4 => k_asm); (case k5 => k_asm); (case k6 => k_is); (case k7 => k_is); (case k8 => ktr_room); (case k9 => first | exact BindsTo.of_eq rfl | exact binds_K (by k_in) rfl (by k_is) rfl rfl rfl); (case c5 => decide); (case kB => exact locs rfl); (case c2 => exact rfl); (case c3 => exact rfl); (case c4 => exact rfl); k_whole; intro g' L' h' FG' F' N' B' X' T'; (try dsimp only); (try k_fold))
  k_steps
  all_goals first
    | exact absurd (by assumption) hy
    | exact fr_end hret (num_p (by assumption) hy (by assumption)) (den_p (by assumption) hy (by assumption)) (by k_asm) (by k_asm) (by assumption)
    | exact fr_end hret (num_n (by assumption) (by assumption)) (den_n (by assumption) (by assumption)) (by k_asm) (by k_asm) (by assumption)
    | exact (Fits.no hy1 (by assumption) (by assumption) (by decide +kernel)).elim
    | exact (Fits.no (Fits.neg hy1) (by assumption) (by assumption) (by decide +kernel)).elim
    | exact (Fits.noA hx1 (by assumption) (by assumption) (by decide +kernel)).elim
    | exact (Fits.noA (Fits.neg hx1) (by assumption) (by assumption) (by decide +kernel)).elim
abbrev T2 (x y : Int) (t t' : Tok) (c : Nat) : Obj := { cls := .type "tuple", data := .seq #[.int x t, .int y t'] c }
theorem tup_g {prog : Program} {w : World} {A : Around} {E : Value → Shared → Prop} {s : Shared} {h₀ : Heap} {L D : Addr} {m : Str → Option Value} {lo : Obj} {value slice : Expr} {l : List Value} {n : Nat} {k : Int} {u : Tok} {j : Nat} {x : Value} {Q : Value → Shared → Prop}
    (F : Fr h₀ L s.heap m) (e : h₀.get? D = some lo) (hc : lo.cls = .type "tuple") (hd : lo.data = .seq l.toArray n) (hlo : -(2 ^ 63) ≤ k) (hhi : k < 2 ^ 63) (hj : seqIndex? k l.length = some j) (hx : l[j]? = some x) (h : Q x s)
    (hs : subscripted slice false (.ref D) (.int k u) = operate [.ref D, .int k u] (getItem (.ref D) (.int k u))) (hg : ∀ r, letTemporaryGo value (.ref D) r = pure ()) :
    wpAny (model prog w) A (subscriptTail value slice (.ref D) (.int k u)) Q E s := item_tupleL ⟨lo, F.keep _ _ e, hc, n, hd⟩ hlo hhi hj hx h hs hg
theorem bits_one : Builtin.Int.intBits 1 ≤ 1 := by decide
local macro_rules | `(tactic| walk_at "call ref") => `(tactic| (k_here; (with_reducible show wpAny _ _ (call (Value.ref 50) [Value.int _ _, Value.int _ _]) _ _ _); k_dflt (refine' frac_c _ _ _ _ _ _ _ _ _ _ _ _ _ _ _ _ _ _ _ _ _ _ ?k1 ?k2 ?k3 ?k4 ?k5 ?k6 ?k7 ?k8 ?k9 ?k10 ?k11 ?_; (case k1 => k_asm); (case k2 => k_asm); (case k3 => k_asm); (case k4 => k_asm); (case k5 => k_asm); (case k6 => first | exact rfl | assumption); (case k7 => ktr_room); (case k8 => ktr_units); (case k9 => assumption); (case k10 => assumption); (case k11 => assumption); k_whole); intro r' D' t' u' c' h' tk' rE' F' N' l1; (try k_sweep)))
local macro_rules | `(tactic| walk_at "binaryOp Mult int int") => `(tactic| (with_reducible refine mul_int ?_ ?mo; (case mo => assumption)))
local macro_rules | `(tactic| walk_at "subscriptTail") => `(tactic| (k_here; (with_reducible show wpAny _ _ (subscriptTail _ _ (Value.ref _) (Value.int _ _)) _ _ _); k_dflt (refine' tup_g ?k1 ?k2 ?k3 ?k4 ?k5 ?k6 ?k7 ?k8 ?_ ?k9 ?k10; (case k1 => k_asm); (case k2 => with_reducible assumption); (case k3 => exact rfl); (case k4 => exact rfl); (case k5 => decide); (case k6 => decide); (case k7 => exact rfl); (case k8 => exact rfl); (case k9 => with_unfolding_all rfl); (case k10 => (intro _; with_unfolding_all rfl)); k_whole)))
theorem plus_c {w : World} {p : Program} {loose : List Str} {mean : ExcName → Option Value} {mg mb : Str → Option Value} {dp un : Nat} {gd : Option (List Code)} {cn : Str} {cs : Scope} {a : Addr} {ccd : Value} {cl : List (Str × Addr)} {outer : List Env} {A₀ : Around} {base h₀ : Heap} {L : Addr} {m : Str → Option Value} {news : List (Addr × Obj)} {s : Shared} {Q E : Value → Shared → Prop} {D1 D2 : Addr} {x1 y1 x2 y2 : Int} {t1 t1' t2 t2' : Tok} {c1 c2 : Nat}
    (B : Below A₀ base outer h₀) (F : Fr h₀ L s.heap m) (X : (Mine.hd.heap_39 w.params).In h₀) (N : News h₀ L s.heap news) (T : Top p loose mean mg mb h₀) (hk : cs.kind = .function) (e1 : s.heap.get? D1 = some (T2 x1 y1 t1 t1' c1)) (e2 : s.heap.get? D2 = some (T2 x2 y2 t2 t2' c2))
    (hd : dp + 3 < recursionLimit) (hu : un + 24 < cLine) (nz : y1 * y2 ≠ 0) (m0 : IntMulOk x1 y2) (m1 : IntMulOk x2 y1) (m2 : IntMulOk y1 y2) (f1 : Fits (x1 * y2 + x2 * y1)) (f2 : Fits (y1 * y2))
    (hret : ∀ (r : Rat) (D : Addr) (t t' : Tok) (c : Nat) (h' : Heap) (tk' : Nat), r = Rat.divInt (x1 * y2 + x2 * y1) (y1 * y2) → Fr h₀ L h' m → News h₀ L h' ((D, RatO r t t' c) :: news) → (∀ p ∈ news, p.1 ≠ D) → Q (.ref D) { s with heap := h', toks := tk' }) :
    wpAny (model PySem.Challenge.rw_ui0509_09.row.prog w) (ktrTop dp un gd cn cs L a ccd cl outer) (call (.ref 65) [.ref D1, .ref D2]) Q E s := by
  w_top off
  revert X; k_fill; intro X
  refine wpAny_call ?_
  k_dflt (refine' code_need [] ?k1 ?k2 ?k3 ?k4 ?k5 ?kA ?kF ?kK ?k6 ?k7 ?k8 ?k9 ?kB ?kN ?_ ?c2 ?c3 ?c4 ?c5; (case kA => exact rfl); (case kF => exact rfl); (case kK => assumption); (case k1 => k_asm); (case k2 => k_asm); (case k3 => k_asm); (case k4 => k_asm); (case k5 => k_asm); (case k6 => k_is); (case k7 => k_is); (case k8 => ktr_room); (case k9 => first | exact BindsTo.of_eq rfl | exact binds_K (by k_in) rfl (by k_is) rfl rfl rfl); (case c5 => decide); (case kB => exact locs rfl); (case kN => exact fun _ h => nomatch h); (case c2 => exact rfl); (case c3 => exact rfl); (case c4 => exact rfl); k_whole; intro g' L' h' tk0 FG' F' N' B' X' T' hG'; (try dsimp only); (try k_fold))
  replace e1 := hG' _ _ e1 (by simp)
  replace e2 := hG' _ _ e2 (by simp)
  k_steps
  all_goals first | (refine leaveN_ (by k_asm) (by k_asm) ?_; intro kF kN kR kD; (try dsimp only); exact hret _ _ _ _ _ _ _ (by assumption) kF (news_cons kN (by k_mem) (news_all kR)) (ne_all kD (List.mem_cons_self ..)))
theorem minus_c {w : World} {p : Program} {loose : List Str} {mean : ExcName → Option Value} {mg mb : Str → Option Value} {dp un : Nat} {gd : Option (List Code)} {cn : Str} {cs : Scope} {a : Addr} {ccd : Value} {cl : List (Str × Addr)} {outer : List Env} {A₀ : Around} {base h₀ : Heap} {L : Addr} {m : Str → Option Value} {news : List (Addr × Obj)} {s : Shared} {Q E : Value → Shared → Prop} {D1 D2 : Addr} {x1 y1 x2 y2 : Int} {t1 t1' t2 t2' : Tok} {c1 c2 : Nat}
    (B : Below A₀ base outer h₀) (F : Fr h₀ L s.heap m) (X : (Mine.hd.heap_39 w.params).In h₀) (N : News h₀ L s.heap news) (T : Top p loose mean mg mb h₀) (hk : cs.kind = .function) (e1 : s.heap.get? D1 = some (T2 x1 y1 t1 t1' c1)) (e2 : s.heap.get? D2 = some (T2 x2 y2 t2 t2' c2))
    (hd : dp + 3 < recursionLimit) (hu : un + 24 < cLine) (nz : y1 * y2 ≠ 0) (m0 : IntMulOk x1 y2) (m1 : IntMulOk x2 y1) (m2 : IntMulOk y1 y2) (f1 : Fits (x1 * y2 - x2 * y1)) (f2 : Fits (y1 * y2))
    (hret : ∀ (r : Rat) (D : Addr) (t t' : Tok) (c : Nat) (h' : Heap) (tk' : Nat), r = Rat.divInt (x1 * y2 - x2 * y1) (y1 * y2) → Fr h₀ L h' m → News h₀ L h' ((D, RatO r t t' c) :: news) → (∀ p ∈ news, p.1 ≠ D) → Q (.ref D) { s with heap := h', toks := tk' }) :
    wpAny (model PySem.Challenge.rw_ui0509_09.row.prog w) (ktrTop dp un gd cn cs L a ccd cl outer) (call (.ref 72) [.ref D1, .ref D2]) Q E s := by
  w_top off
  revert X; k_fill; intro X
  refine wpAny_call ?_
  k_dflt (refine' code_need [] ?k1 ?k2 ?k3 ?k4 ?k5 ?kA ?kF ?kK ?k6 ?k7 ?k8 ?k9 ?kB ?kN ?_ ?c2 ?c3 ?c4 ?c5; (case kA => exact rfl); (case kF => exact rfl); (case kK => assumption); (case k1 => k_asm); (case k2 => k_asm); (case k3 => k_asm); (case k4 => k_asm); (case k5 => k_asm); (case k6 => k_is); (case k7 => k_is); (case k8 => ktr_room); (case k9 => first | exact BindsTo.of_eq rfl | exact binds_K (by k_in) rfl (by k_is) rfl rfl rfl); (case c5 => decide); (case kB => exact locs rfl); (case kN => exact fun _ h => nomatch h); (case c2 => exact rfl); (case c3 => exact rfl); (case c4 => exact rfl); k_whole; intro g' L' h' tk0 FG' F' N' B' X' T' hG'; (try dsimp only); (try k_fold))
  replace e1 := hG' _ _ e1 (by simp)
  replace e2 := hG' _ _ e2 (by simp)
  k_steps
  all_goals first | (refine leaveN_ (by k_asm) (by k_asm) ?_; intro kF kN kR kD; (try dsimp only); exact hret _ _ _ _ _ _ _ (by assumption) kF (news_cons kN (by k_mem) (news_all kR)) (ne_all kD (List.mem_cons_self ..)))
theorem less_c {w : World} {p : Program} {loose : List Str} {mean : ExcName → Option Value} {mg mb : Str → Option Value} {dp un : Nat} {gd : Option (List Code)} {cn : Str} {cs : Scope} {a : Addr} {ccd : Value} {cl : List (Str × Addr)} {outer : List Env} {A₀ : Around} {base h₀ : Heap} {L : Addr} {m : Str → Option Value} {news : List (Addr × Obj)} {s : Shared} {Q E : Value → Shared → Prop} {D1 D2 : Addr} {x1 y1 x2 y2 : Int} {t1 t1' t2 t2' : Tok} {c1 c2 : Nat}
    (B : Below A₀ base outer h₀) (F : Fr h₀ L s.heap m) (X : (Mine.hd.heap_39 w.params).In h₀) (N : News h₀ L s.heap news) (T : Top p loose mean mg mb h₀) (hk : cs.kind = .function) (e1 : s.heap.get? D1 = some (T2 x1 y1 t1 t1' c1)) (e2 : s.heap.get? D2 = some (T2 x2 y2 t2 t2' c2))
    (hd : dp + 3 < recursionLimit) (hu : un + 24 < cLine) (m0 : IntMulOk x1 y2) (m1 : IntMulOk x2 y1)
    (hret : ∀ (h' : Heap) (tk' : Nat), Fr h₀ L h' m → News h₀ L h' news → Q (.bool (decide (x1 * y2 < x2 * y1))) { s with heap := h', toks := tk' }) :
    wpAny (model PySem.Challenge.rw_ui0509_09.row.prog w) (ktrTop dp un gd cn cs L a ccd cl outer) (call (.ref 93) [.ref D1, .ref D2]) Q E s := by
  w_top off
  revert X; k_fill; intro X
  refine wpAny_call ?_
  k_dflt (refine' code_need [] ?k1 ?k2 ?k3 ?k4 ?k5 ?kA ?kF ?kK ?k6 ?k7 ?k8 ?k9 ?kB ?kN ?_ ?c2 ?c3 ?c4 ?c5; (case kA => exact rfl); (case kF => exact rfl); (case kK => assumption); (case k1 => k_asm); (case k2 => k_asm); (case k3 => k_asm); (case k4 => k_asm); (case k5 => k_asm); (case k6 => k_is); (case k7 => k_is); (case k8 => ktr_room); (case k9 => first | exact BindsTo.of_eq rfl | exact binds_K (by k_in) rfl (by k_is) rfl rfl rfl); (case c5 => decide); (case kB => exact locs rfl); (case kN => exact fun _ h => nomatch h); (case c2 => exact rfl); (case c3 => exact rfl); (case c4 => exact rfl); k_whole; intro g' L' h' tk0 FG' F' N' B' X' T' hG'; (try dsimp only); (try k_fold))
  replace e1 := hG' _ _ e1 (by simp)
  replace e2 := hG' _ _ e2 (by simp)
  k_steps
  all_goals (refine leaveN_ (by k_asm) (by k_asm) ?_; intro kF kN kR kD; (try dsimp only); exact hret _ _ kF (news_all kR))
theorem plus_u {w : World} {p : Program} {loose : List Str} {mean : ExcName → Option Value} {mg mb : Str → Option Value} {dp un : Nat} {gd : Option (List Code)} {cn : Str} {cs : Scope} {a : Addr} {ccd : Value} {cl : List (Str × Addr)} {outer : List Env} {A₀ : Around} {base h₀ : Heap} {L : Addr} {m : Str → Option Value} {news : List (Addr × Obj)} {s : Shared} {Q E : Value → Shared → Prop} {D1 D2 : Addr} {x1 y1 x2 y2 : Int} {t1 t1' t2 t2' : Tok} {c1 c2 : Nat} {n1 k1 n2 k2 : Nat}
    (B : Below A₀ base outer h₀) (F : Fr h₀ L s.heap m) (X : (Mine.hd.heap_39 w.params).In h₀) (N : News h₀ L s.heap news) (T : Top p loose mean mg mb h₀) (hk : cs.kind = .function) (e1 : s.heap.get? D1 = some (T2 x1 y1 t1 t1' c1)) (e2 : s.heap.get? D2 = some (T2 x2 y2 t2 t2' c2))
    (hd : dp + 3 < recursionLimit) (hu : un + 24 < cLine) (hy : y1 ≠ 0) (hz : y2 ≠ 0) (b1 : Builtin.Int.intBits x1 ≤ n1) (b2 : Builtin.Int.intBits y1 ≤ k1) (b3 : Builtin.Int.intBits x2 ≤ n2) (b4 : Builtin.Int.intBits y2 ≤ k2) (hbu : max (n1 + k2) (n2 + k1) + 1 ≤ 6643) (hbl : k1 + k2 ≤ 6643)
    (hret : ∀ (r : Rat) (D : Addr) (t t' : Tok) (c : Nat) (h' : Heap) (tk' : Nat), r = Rat.divInt (x1 * y2 + x2 * y1) (y1 * y2) → Builtin.Int.intBits r.num ≤ max (n1 + k2) (n2 + k1) + 1 → Builtin.Int.intBits (r.den : Int) ≤ k1 + k2 → Fr h₀ L h' m → News h₀ L h' ((D, RatO r t t' c) :: news) → (∀ p ∈ news, p.1 ≠ D) → Q (.ref D) { s with heap := h', toks := tk' }) :
    wpAny (model PySem.Challenge.rw_ui0509_09.row.prog w) (ktrTop dp un gd cn cs L a ccd cl outer) (call (.ref 65) [.ref D1, .ref D2]) Q E s :=
  plus_c B F X N T hk e1 e2 hd hu (nzmul hy hz) (mulOk_of_bits b1 b4 (by omega)) (mulOk_of_bits b3 b2 (by omega)) (mulOk_of_bits b2 b4 (by omega)) (Fits.of (bits_add (bits_mul b1 b4) (bits_mul b3 b2)) hbu) (Fits.of (bits_mul b2 b4) hbl) fun r D t t' c h' tk' e F' N' l => hret r D t t' c h' tk' e (e ▸ bits_num (bits_add (bits_mul b1 b4) (bits_mul b3 b2))) (e ▸ bits_den (nzmul hy hz) (bits_mul b2 b4)) F' N' l
theorem minus_u {w : World} {p : Program} {loose : List Str} {mean : ExcName → Option Value} {mg mb : Str → Option Value} {dp un : Nat} {gd : Option (List Code)} {cn : Str} {cs : Scope} {a : Addr} {ccd : Value} {cl : List (Str × Addr)} {outer : List Env} {A₀ : Around} {base h₀ : Heap} {L : Addr} {m : Str → Option Value} {news : List (Addr × Obj)} {s : Shared} {Q E : Value → Shared → Prop} {D1 D2 : Addr} {x1 y1 x2 y2 : Int} {t1 t1' t2 t2' : Tok} {c1 c2 : Nat} {n1 k1 n2 k2 : Nat}
    (B : Below A₀ base outer h₀) (F : Fr h₀ L s.heap m) (X : (Mine.hd.heap_39 w.params).In h₀) (N : News h₀ L s.heap news) (T : Top p loose mean mg mb h₀) (hk : cs.kind = .function) (e1 : s.heap.get? D1 = some (T2 x1 y1 t1 t1' c1)) (e2 : s.heap.get? D2 = some (T2 x2 y2 t2 t2' c2))
    (hd : dp + 3 < recursionLimit) (hu : un + 24 < cLine) (hy : y1 ≠ 0) (hz : y2 ≠ 0) (b1 : Builtin.Int.intBits x1 ≤ n1) (b2 : Builtin.Int.intBits y1 ≤ k1) (b3 : Builtin.Int.intBits x2 ≤ n2) (b4 : Builtin.Int.intBits y2 ≤ k2) (hbu : max (n1 + k2) (n2 + k1) + 1 ≤ 6643) (hbl : k1 + k2 ≤ 6643)
    (hret : ∀ (r : Rat) (D : Addr) (t t' : Tok) (c : Nat) (h' : Heap) (tk' : Nat), r = Rat.divInt (x1 * y2 - x2 * y1) (y1 * y2) → Builtin.Int.intBits r.num ≤ max (n1 + k2) (n2 + k1) + 1 → Builtin.Int.intBits (r.den : Int) ≤ k1 + k2 → Fr h₀ L h' m → News h₀ L h' ((D, RatO r t t' c) :: news) → (∀ p ∈ news, p.1 ≠ D) → Q (.ref D) { s with heap := h', toks := tk' }) :
    wpAny (model PySem.Challenge.rw_ui0509_09.row.prog w) (ktrTop dp un gd cn cs L a ccd cl outer) (call (.ref 72) [.ref D1, .ref D2]) Q E s :=
  minus_c B F X N T hk e1 e2 hd hu (nzmul hy hz) (mulOk_of_bits b1 b4 (by omega)) (mulOk_of_bits b3 b2 (by omega)) (mulOk_of_bits b2 b4 (by omega)) (Fits.of (bits_sub (bits_mul b1 b4) (bits_mul b3 b2)) hbu) (Fits.of (bits_mul b2 b4) hbl) fun r D t t' c h' tk' e F' N' l => hret r D t t' c h' tk' e (e ▸ bits_num (bits_sub (bits_mul b1 b4) (bits_mul b3 b2))) (e ▸ bits_den (nzmul hy hz) (bits_mul b2 b4)) F' N' l
theorem less_u {w : World} {p : Program} {loose : List Str} {mean : ExcName → Option Value} {mg mb : Str → Option Value} {dp un : Nat} {gd : Option (List Code)} {cn : Str} {cs : Scope} {a : Addr} {ccd : Value} {cl : List (Str × Addr)} {outer : List Env} {A₀ : Around} {base h₀ : Heap} {L : Addr} {m : Str → Option Value} {news : List (Addr × Obj)} {s : Shared} {Q E : Value → Shared → Prop} {D1 D2 : Addr} {x1 y1 x2 y2 : Int} {t1 t1' t2 t2' : Tok} {c1 c2 : Nat} {n1 k1 n2 k2 : Nat}
    (B : Below A₀ base outer h₀) (F : Fr h₀ L s.heap m) (X : (Mine.hd.heap_39 w.params).In h₀) (N : News h₀ L s.heap news) (T : Top p loose mean mg mb h₀) (hk : cs.kind = .function) (e1 : s.heap.get? D1 = some (T2 x1 y1 t1 t1' c1)) (e2 : s.heap.get? D2 = some (T2 x2 y2 t2 t2' c2))
    (hd : dp + 3 < recursionLimit) (hu : un + 24 < cLine) (b1 : Builtin.Int.intBits x1 ≤ n1) (b2 : Builtin.Int.intBits y1 ≤ k1) (b3 : Builtin.Int.intBits x2 ≤ n2) (b4 : Builtin.Int.intBits y2 ≤ k2) (hbu : n1 + k2 ≤ 100000) (hbl : n2 + k1 ≤ 100000)
    (hret : ∀ (h' : Heap) (tk' : Nat), Fr h₀ L h' m → News h₀ L h' news → Q (.bool (decide (x1 * y2 < x2 * y1))) { s with heap := h', toks := tk' }) :
    wpAny (model PySem.Challenge.rw_ui0509_09.row.prog w) (ktrTop dp un gd cn cs L a ccd cl outer) (call (.ref 93) [.ref D1, .ref D2]) Q E s :=
  less_c B F X N T hk e1 e2 hd hu (mulOk_of_bits b1 b4 (by omega)) (mulOk_of_bits b3 b2 (by omega)) hret
theorem frac_sf {w : World} {p : Program} {loose : List Str} {mean : ExcName → Option Value} {mg mb : Str → Option Value} {dp un : Nat} {gd : Option (List Code)} {cn : Str} {cs : Scope} {a : Addr} {ccd : Value} {cl : List (Str × Addr)} {outer : List Env} {A₀ : Around} {base h₀ : Heap} {L : Addr} {m : Str → Option Value} {news : List (Addr × Obj)} {s : Shared} {Q E : Value → Shared → Prop} {r : Rat} {t1 t2 : Tok}
    (B : Below A₀ base outer h₀) (F : Fr h₀ L s.heap m) (X : (Mine.hd.heap_39 w.params).In h₀) (N : News h₀ L s.heap news) (T : Top p loose mean mg mb h₀) (hk : cs.kind = .function)
    (hd : dp + 2 < recursionLimit) (hu : un + 16 < cLine) (hx1 : Fits r.num) (hy1 : Fits (r.den : Int))
    (hret : ∀ (D : Addr) (t t' : Tok) (c : Nat) (h' : Heap) (tk' : Nat), Fr h₀ L h' m → News h₀ L h' ((D, RatO r t t' c) :: news) → (∀ p ∈ news, p.1 < D) → Q (.ref D) { s with heap := h', toks := tk' }) :
    wpAny (model PySem.Challenge.rw_ui0509_09.row.prog w) (ktrTop dp un gd cn cs L a ccd cl outer) (call (.ref 50) [.int r.num t1, .int (r.den : Int) t2]) Q E s :=
  frac_c dp un gd cn cs a ccd cl outer A₀ base h₀ L m news s Q E r.num r.den t1 t2 B F X N T hk hd hu (nzden r) hx1 hy1 fun r' D t t' c h' tk' e F' N' l => hret D t t' c h' tk' F' (by
    rw [Rat.num_divInt_den] at e
    subst e
    exact N') l
theorem eq_T2h {prog : Program} {w : World} {A : Around} {E : Value → Shared → Prop} {s : Shared} {D1 D2 : Addr} {x1 y1 x2 y2 : Int} {t1 t1' t2 t2' : Tok} {c1 c2 : Nat} {Q : Value → Shared → Prop}
    (e1 : s.heap.get? D1 = some (T2 x1 y1 t1 t1' c1)) (e2 : s.heap.get? D2 = some (T2 x2 y2 t2 t2' c2)) (hu : A.units + 64 < cLine) (h : Q (.bool ((x1 == x2 && y1 == y2))) s) : wpAny (model prog w) A (compareOp .Eq (.ref D1) (.ref D2)) Q E s := by
  refine eq_dataH (reads_tuple_at e1 rfl rfl (ReadsAll.cons (Reads.int _ _) (ReadsAll.cons (Reads.int _ _) ReadsAll.nil))) (reads_tuple_at e2 rfl rfl (ReadsAll.cons (Reads.int _ _) (ReadsAll.cons (Reads.int _ _) ReadsAll.nil))) (by ke_shaped) (by ke_shaped) hu ?_
  ke_norm
  exact h
theorem ne_T2h {prog : Program} {w : World} {A : Around} {E : Value → Shared → Prop} {s : Shared} {D1 D2 : Addr} {x1 y1 x2 y2 : Int} {t1 t1' t2 t2' : Tok} {c1 c2 : Nat} {Q : Value → Shared → Prop}
    (e1 : s.heap.get? D1 = some (T2 x1 y1 t1 t1' c1)) (e2 : s.heap.get? D2 = some (T2 x2 y2 t2 t2' c2)) (hu : A.units + 64 < cLine) (h : Q (.bool (!(x1 == x2 && y1 == y2))) s) : wpAny (model prog w) A (compareOp .NotEq (.ref D1) (.ref D2)) Q E s := by
  refine ne_dataH (reads_tuple_at e1 rfl rfl (ReadsAll.cons (Reads.int _ _) (ReadsAll.cons (Reads.int _ _) ReadsAll.nil))) (reads_tuple_at e2 rfl rfl (ReadsAll.cons (Reads.int _ _) (ReadsAll.cons (Reads.int _ _) ReadsAll.nil))) (by ke_shaped) (by ke_shaped) hu ?_
  ke_norm
  exact h
local macro_rules | `(tactic| walk_at "call type:type") => `(tactic| (k_here; (with_reducible show wpAny _ _ (call (Value.type "type") [Value.ref _]) _ _ _); k_dflt (refine' kto_cont (T := "tuple") ?c ?n ?_; (case c => exact ⟨_, Fr.keep (by k_asm) _ _ (by assumption), rfl⟩); (case n => decide +kernel); k_whole)))
local macro_rules | `(tactic| walk_at "call builtin:len") => `(tactic| (k_here; (with_reducible show wpAny _ _ (call (Value.builtin "len") [Value.ref _]) _ _ _); k_dflt (refine' kun_lenT (k := 2) ?k1 ?k2 ?k3 ?_; (case k1 => exact ⟨_, Fr.keep (by k_asm) _ _ (by assumption), rfl, _, rfl⟩); (case k2 => exact rfl); (case k3 => decide); k_whole)))
local macro_rules | `(tactic| walk_at "call ref") => `(tactic| (k_here; (with_reducible show wpAny _ _ (call (Value.ref 50) [Value.int _ _, Value.int _ _]) _ _ _); k_dflt (refine' frac_sf ?k1 ?k2 ?k3 ?k4 ?k5 ?k6 ?k7 ?k8 ?k10 ?k11 ?_; (case k1 => k_asm); (case k2 => k_asm); (case k3 => k_asm); (case k4 => k_asm); (case k5 => k_asm); (case k6 => first | exact rfl | assumption); (case k7 => ktr_room); (case k8 => ktr_units); (case k10 => assumption); (case k11 => assumption); k_whole); intro D' t' u' c' h' tk' F' N' l1; (try k_sweep)))
local macro_rules | `(tactic| walk_at "call ref") => `(tactic| (k_here; (with_reducible show wpAny _ _ (call (Value.ref 93) [Value.ref _, Value.ref _]) _ _ _); k_dflt (refine' less_c ?k1 ?k2 ?k3 ?k4 ?k5 ?k6 ?m1 ?m2 ?k7 ?k8 ?k10 ?k11 ?_; (case k1 => k_asm); (case k2 => k_asm); (case k3 => k_asm); (case k4 => k_asm); (case k5 => k_asm); (case k6 => first | exact rfl | assumption); (case m1 => exact Fr.keep (by k_asm) _ _ (by with_reducible assumption)); (case m2 => exact Fr.keep (by k_asm) _ _ (by with_reducible assumption)); (case k7 => ktr_room); (case k8 => ktr_units); (case k10 => assumption); (case k11 => assumption); k_whole); intro h' tk' F' N'; (try k_sweep)))
local macro_rules | `(tactic| walk_at "compareOp NotEq ref ref") => `(tactic| (k_here; (with_reducible show wpAny _ _ (compareOp CmpOp.NotEq (Value.ref _) (Value.ref _)) _ _ _); k_dflt (refine' ne_T2h ?k2 ?k3 ?k4 ?_; (case k2 => first | exact Fr.keep (by k_asm) _ _ (by with_reducible assumption) | exact News.get (by k_asm) (by k_mem)); (case k3 => first | exact Fr.keep (by k_asm) _ _ (by with_reducible assumption) | exact News.get (by k_asm) (by k_mem)); (case k4 => first | exact Nat.le_of_ble_eq_true rfl | ktr_units)); (try simp only [beq_self_eq_true, Bool.and_true, Bool.true_and, Bool.not_true, Bool.not_false])))
theorem need_c {w : World} {p : Program} {loose : List Str} {mean : ExcName → Option Value} {mg mb : Str → Option Value} {dp un : Nat} {gd : Option (List Code)} {cn : Str} {cs : Scope} {a : Addr} {ccd : Value} {cl : List (Str × Addr)} {outer : List Env} {A₀ : Around} {base h₀ : Heap} {L : Addr} {m : Str → Option Value} {news : List (Addr × Obj)} {s : Shared} {Q E : Value → Shared → Prop} {D1 : Addr} {r : Rat} {t1 t1' : Tok} {c1 : Nat}
    (B : Below A₀ base outer h₀) (F : Fr h₀ L s.heap m) (X : (Mine.hd.heap_39 w.params).In h₀) (N : News h₀ L s.heap news) (T : Top p loose mean mg mb h₀) (hk : cs.kind = .function) (e1 : s.heap.get? D1 = some (RatO r t1 t1' c1))
    (hd : dp + 4 < recursionLimit) (hu : un + 100 < cLine) (hx1 : Fits r.num) (hy1 : Fits (r.den : Int))
    (hret : ∀ (h' : Heap) (tk' : Nat), Fr h₀ L h' m → News h₀ L h' news → Q (.ref D1) { s with heap := h', toks := tk' }) :
    wpAny (model PySem.Challenge.rw_ui0509_09.row.prog w) (ktrTop dp un gd cn cs L a ccd cl outer) (call (.ref 58) [.ref D1]) Q E s := by
  w_top off
  revert X; k_fill; intro X
  refine wpAny_call ?_
  k_dflt (refine' code_need [] ?k1 ?k2 ?k3 ?k4 ?k5 ?kA ?kF ?kK ?k6 ?k7 ?k8 ?k9 ?kB ?kN ?_ ?c2 ?c3 ?c4 ?c5; (case kA => exact rfl); (case kF => exact rfl); (case kK => assumption); (case k1 => k_asm); (case k2 => k_asm); (case k3 => k_asm); (case k4 => k_asm); (case k5 => k_asm); (case k6 => k_is); (case k7 => k_is); (case k8 => ktr_room); (case k9 => first | exact BindsTo.of_eq rfl | exact binds_K (by k_in) rfl (by k_is) rfl rfl rfl); (case c5 => decide); (case kB => exact locs rfl); (case kN => exact fun _ h => nomatch h); (case c2 => exact rfl); (case c3 => exact rfl); (case c4 => exact rfl); k_whole; intro g' L' h' tk0 FG' F' N' B' X' T' hG'; (try dsimp only); (try k_fold))
  replace e1 := hG' _ _ e1 (by simp)
  k_steps
  all_goals (refine leaveN_ (by k_asm) (by k_asm) ?_; intro kF kN kR kD; (try dsimp only); exact hret _ _ kF (news_all kR))
theorem need_n {w : World} {p : Program} {loose : List Str} {mean : ExcName → Option Value} {mg mb : Str → Option Value} {dp un : Nat} {gd : Option (List Code)} {cn : Str} {cs : Scope} {a : Addr} {ccd : Value} {cl : List (Str × Addr)} {outer : List Env} {A₀ : Around} {base h₀ : Heap} {L : Addr} {m : Str → Option Value} {news : List (Addr × Obj)} {s : Shared} {Q E : Value → Shared → Prop} {D1 : Addr} {r : Rat} {t1 t1' : Tok} {c1 : Nat} {D2 : Addr} {x2 y2 : Int} {t2 t2' : Tok} {c2 : Nat}
    (B : Below A₀ base outer h₀) (F : Fr h₀ L s.heap m) (X : (Mine.hd.heap_39 w.params).In h₀) (N : News h₀ L s.heap news) (T : Top p loose mean mg mb h₀) (hk : cs.kind = .function) (e1 : s.heap.get? D1 = some (RatO r t1 t1' c1)) (e2 : s.heap.get? D2 = some (T2 x2 y2 t2 t2' c2)) (m0 : IntMulOk r.num y2) (m1 : IntMulOk x2 (r.den : Int)) (hl : ¬ (r.num * y2 < x2 * (r.den : Int)))
    (hd : dp + 4 < recursionLimit) (hu : un + 100 < cLine) (hx1 : Fits r.num) (hy1 : Fits (r.den : Int))
    (hret : ∀ (h' : Heap) (tk' : Nat), Fr h₀ L h' m → News h₀ L h' news → Q (.ref D1) { s with heap := h', toks := tk' }) :
    wpAny (model PySem.Challenge.rw_ui0509_09.row.prog w) (ktrTop dp un gd cn cs L a ccd cl outer) (call (.ref 58) [.ref D1, .ref D2]) Q E s := by
  w_top off
  revert X; k_fill; intro X
  refine wpAny_call ?_
  k_dflt (refine' code_need [] ?k1 ?k2 ?k3 ?k4 ?k5 ?kA ?kF ?kK ?k6 ?k7 ?k8 ?k9 ?kB ?kN ?_ ?c2 ?c3 ?c4 ?c5; (case kA => exact rfl); (case kF => exact rfl); (case kK => assumption); (case k1 => k_asm); (case k2 => k_asm); (case k3 => k_asm); (case k4 => k_asm); (case k5 => k_asm); (case k6 => k_is); (case k7 => k_is); (case k8 => ktr_room); (case k9 => first | exact BindsTo.of_eq rfl | exact binds_K (by k_in) rfl (by k_is) rfl rfl rfl); (case c5 => decide); (case kB => exact locs rfl); (case kN => exact fun _ h => nomatch h); (case c2 => exact rfl); (case c3 => exact rfl); (case c4 => exact rfl); k_whole; intro g' L' h' tk0 FG' F' N' B' X' T' hG'; (try dsimp only); (try k_fold))
  replace e1 := hG' _ _ e1 (by simp)
  replace e2 := hG' _ _ e2 (by simp)
  k_steps
  all_goals (refine leaveN_ (by k_asm) (by k_asm) ?_; intro kF kN kR kD; (try dsimp only); exact hret _ _ kF (news_all kR))
structure Bd (n : Nat) (r : Rat) : Prop where
  num : Builtin.Int.intBits r.num ≤ n
  den : Builtin.Int.intBits (r.den : Int) ≤ n
theorem Bd.mono {n k : Nat} {r : Rat} (h : Bd n r) (hk : n ≤ k) : Bd k r := ⟨Nat.le_trans h.num hk, Nat.le_trans h.den hk⟩
theorem Bd.int {n : Nat} {x : Int} (h : Builtin.Int.intBits x ≤ n) (h1 : 1 ≤ n) : Bd n (x : Rat) := ⟨h, Nat.le_trans bits_one h1⟩
theorem bits_zero : Builtin.Int.intBits 0 ≤ 1 := by decide
theorem Bd.zero {n : Nat} (h : 1 ≤ n) : Bd n (0 : Rat) := Bd.int (x := 0) (Nat.le_trans bits_zero h) h
theorem Bd.fits {n : Nat} {r : Rat} (h : Bd n r) (hn : n ≤ 6643) : Fits r.num ∧ Fits (r.den : Int) := ⟨Fits.of h.num hn, Fits.of h.den hn⟩
theorem plus_r {w : World} {p : Program} {loose : List Str} {mean : ExcName → Option Value} {mg mb : Str → Option Value} {dp un : Nat} {gd : Option (List Code)} {cn : Str} {cs : Scope} {a : Addr} {ccd : Value} {cl : List (Str × Addr)} {outer : List Env} {A₀ : Around} {base h₀ : Heap} {L : Addr} {m : Str → Option Value} {news : List (Addr × Obj)} {s : Shared} {Q E : Value → Shared → Prop} {D1 D2 : Addr} {r1 r2 : Rat} {t1 t1' t2 t2' : Tok} {c1 c2 n k : Nat}
    (B : Below A₀ base outer h₀) (F : Fr h₀ L s.heap m) (X : (Mine.hd.heap_39 w.params).In h₀) (N : News h₀ L s.heap news) (T : Top p loose mean mg mb h₀) (hk : cs.kind = .function) (e1 : s.heap.get? D1 = some (RatO r1 t1 t1' c1)) (e2 : s.heap.get? D2 = some (RatO r2 t2 t2' c2))
    (hd : dp + 3 < recursionLimit) (hu : un + 24 < cLine) (b1 : Bd n r1) (b2 : Bd k r2) (hb : n + k + 1 ≤ 6643)
    (hret : ∀ (D : Addr) (t t' : Tok) (c : Nat) (h' : Heap) (tk' : Nat), Bd (n + k + 1) (r1 + r2) → Fr h₀ L h' m → News h₀ L h' ((D, RatO (r1 + r2) t t' c) :: news) → (∀ p ∈ news, p.1 ≠ D) → Q (.ref D) { s with heap := h', toks := tk' }) :
    wpAny (model PySem.Challenge.rw_ui0509_09.row.prog w) (ktrTop dp un gd cn cs L a ccd cl outer) (call (.ref 65) [.ref D1, .ref D2]) Q E s :=
  plus_u B F X N T hk e1 e2 hd hu (nzden r1) (nzden r2) b1.num b1.den b2.num b2.den (by omega) (by omega) fun r D t t' c h' tk' e bn bd F' N' l => by
    have e' : r = r1 + r2 := e.trans (r_plus r1 r2)
    subst e'
    exact hret D t t' c h' tk' ⟨Nat.le_trans bn (by omega), Nat.le_trans bd (by omega)⟩ F' N' l
theorem minus_r {w : World} {p : Program} {loose : List Str} {mean : ExcName → Option Value} {mg mb : Str → Option Value} {dp un : Nat} {gd : Option (List Code)} {cn : Str} {cs : Scope} {a : Addr} {ccd : Value} {cl : List (Str × Addr)} {outer : List Env} {A₀ : Around} {base h₀ : Heap} {L : Addr} {m : Str → Option Value} {news : List (Addr × Obj)} {s : Shared} {Q E : Value → Shared → Prop} {D1 D2 : Addr} {r1 r2 : Rat} {t1 t1' t2 t2' : Tok} {c1 c2 n k : Nat}
    (B : Below A₀ base outer h₀) (F : Fr h₀ L s.heap m) (X : (Mine.hd.heap_39 w.params).In h₀) (N : News h₀ L s.heap news) (T : Top p loose mean mg mb h₀) (hk : cs.kind = .function) (e1 : s.heap.get? D1 = some (RatO r1 t1 t1' c1)) (e2 : s.heap.get? D2 = some (RatO r2 t2 t2' c2))
    (hd : dp + 3 < recursionLimit) (hu : un + 24 < cLine) (b1 : Bd n r1) (b2 : Bd k r2) (hb : n + k + 1 ≤ 6643)
    (hret : ∀ (D : Addr) (t t' : Tok) (c : Nat) (h' : Heap) (tk' : Nat), Bd (n + k + 1) (r1 - r2) → Fr h₀ L h' m → News h₀ L h' ((D, RatO (r1 - r2) t t' c) :: news) → (∀ p ∈ news, p.1 ≠ D) → Q (.ref D) { s with heap := h', toks := tk' }) :
    wpAny (model PySem.Challenge.rw_ui0509_09.row.prog w) (ktrTop dp un gd cn cs L a ccd cl outer) (call (.ref 72) [.ref D1, .ref D2]) Q E s :=
  minus_u B F X N T hk e1 e2 hd hu (nzden r1) (nzden r2) b1.num b1.den b2.num b2.den (by omega) (by omega) fun r D t t' c h' tk' e bn bd F' N' l => by
    have e' : r = r1 - r2 := e.trans (r_minus r1 r2)
    subst e'
    exact hret D t t' c h' tk' ⟨Nat.le_trans bn (by omega), Nat.le_trans bd (by omega)⟩ F' N' l
theorem less_r {w : World} {p : Program} {loose : List Str} {mean : ExcName → Option Value} {mg mb : Str → Option Value} {dp un : Nat} {gd : Option (List Code)} {cn : Str} {cs : Scope} {a : Addr} {ccd : Value} {cl : List (Str × Addr)} {outer : List Env} {A₀ : Around} {base h₀ : Heap} {L : Addr} {m : Str → Option Value} {news : List (Addr × Obj)} {s : Shared} {Q E : Value → Shared → Prop} {D1 D2 : Addr} {r1 r2 : Rat} {t1 t1' t2 t2' : Tok} {c1 c2 n k : Nat}
    (B : Below A₀ base outer h₀) (F : Fr h₀ L s.heap m) (X : (Mine.hd.heap_39 w.params).In h₀) (N : News h₀ L s.heap news) (T : Top p loose mean mg mb h₀) (hk : cs.kind = .function) (e1 : s.heap.get? D1 = some (RatO r1 t1 t1' c1)) (e2 : s.heap.get? D2 = some (RatO r2 t2 t2' c2))
    (hd : dp + 3 < recursionLimit) (hu : un + 24 < cLine) (b1 : Bd n r1) (b2 : Bd k r2) (hb : n + k ≤ 100000)
    (hret : ∀ (h' : Heap) (tk' : Nat), Fr h₀ L h' m → News h₀ L h' news → Q (.bool (decide (r1 < r2))) { s with heap := h', toks := tk' }) :
    wpAny (model PySem.Challenge.rw_ui0509_09.row.prog w) (ktrTop dp un gd cn cs L a ccd cl outer) (call (.ref 93) [.ref D1, .ref D2]) Q E s :=
  less_u B F X N T hk e1 e2 hd hu b1.num b1.den b2.num b2.den (by omega) (by omega) fun h' tk' F' N' => by
    have e : decide (r1.num * (r2.den : Int) < r2.num * (r1.den : Int)) = decide (r1 < r2) := decide_eq_decide.mpr (Rat.lt_iff r1 r2).symm
    rw [e]
    exact hret h' tk' F' N'
theorem need_r {w : World} {p : Program} {loose : List Str} {mean : ExcName → Option Value} {mg mb : Str → Option Value} {dp un : Nat} {gd : Option (List Code)} {cn : Str} {cs : Scope} {a : Addr} {ccd : Value} {cl : List (Str × Addr)} {outer : List Env} {A₀ : Around} {base h₀ : Heap} {L : Addr} {m : Str → Option Value} {news : List (Addr × Obj)} {s : Shared} {Q E : Value → Shared → Prop} {D1 : Addr} {r1 : Rat} {t1 t1' : Tok} {c1 n : Nat}
    (B : Below A₀ base outer h₀) (F : Fr h₀ L s.heap m) (X : (Mine.hd.heap_39 w.params).In h₀) (N : News h₀ L s.heap news) (T : Top p loose mean mg mb h₀) (hk : cs.kind = .function) (e1 : s.heap.get? D1 = some (RatO r1 t1 t1' c1))
    (hd : dp + 4 < recursionLimit) (hu : un + 100 < cLine) (b1 : Bd n r1) (hb : n ≤ 6643)
    (hret : ∀ (h' : Heap) (tk' : Nat), Fr h₀ L h' m → News h₀ L h' news → Q (.ref D1) { s with heap := h', toks := tk' }) :
    wpAny (model PySem.Challenge.rw_ui0509_09.row.prog w) (ktrTop dp un gd cn cs L a ccd cl outer) (call (.ref 58) [.ref D1]) Q E s :=
  need_c B F X N T hk e1 hd hu (b1.fits hb).1 (b1.fits hb).2 hret
theorem need_rn {w : World} {p : Program} {loose : List Str} {mean : ExcName → Option Value} {mg mb : Str → Option Value} {dp un : Nat} {gd : Option (List Code)} {cn : Str} {cs : Scope} {a : Addr} {ccd : Value} {cl : List (Str × Addr)} {outer : List Env} {A₀ : Around} {base h₀ : Heap} {L : Addr} {m : Str → Option Value} {news : List (Addr × Obj)} {s : Shared} {Q E : Value → Shared → Prop} {D1 D2 : Addr} {r1 r2 : Rat} {t1 t1' t2 t2' : Tok} {c1 c2 n k : Nat}
    (B : Below A₀ base outer h₀) (F : Fr h₀ L s.heap m) (X : (Mine.hd.heap_39 w.params).In h₀) (N : News h₀ L s.heap news) (T : Top p loose mean mg mb h₀) (hk : cs.kind = .function) (e1 : s.heap.get? D1 = some (RatO r1 t1 t1' c1)) (e2 : s.heap.get? D2 = some (RatO r2 t2 t2' c2))
    (hd : dp + 4 < recursionLimit) (hu : un + 100 < cLine) (b1 : Bd n r1) (b2 : Bd k r2) (hb : n ≤ 6643) (hb2 : k ≤ 6643) (hl : r2 ≤ r1)
    (hret : ∀ (h' : Heap) (tk' : Nat), Fr h₀ L h' m → News h₀ L h' news → Q (.ref D1) { s with heap := h', toks := tk' }) :
    wpAny (model PySem.Challenge.rw_ui0509_09.row.prog w) (ktrTop dp un gd cn cs L a ccd cl outer) (call (.ref 58) [.ref D1, .ref D2]) Q E s :=
  need_n B F X N T hk e1 e2 (mulOk_of_bits b1.num b2.den (by omega)) (mulOk_of_bits b2.num b1.den (by omega)) (fun h => absurd ((Rat.lt_iff r1 r2).mpr h) (Rat.not_lt.mpr hl)) (by omega) hu (b1.fits hb).1 (b1.fits hb).2 hret
-- pairs of lists
inductive All2 {α β : Type} (R : α → β → Prop) : List α → List β → Prop
  | nil : All2 R [] []
  | cons {a : α} {b : β} {as : List α} {bs : List β} : R a b → All2 R as bs → All2 R (a :: as) (b :: bs)
section
variable {α β : Type} {R S : α → β → Prop} {as cs : List α} {bs ds : List β} {a : α} {b : β}
theorem All2.length (h : All2 R as bs) : as.length = bs.length := by
  induction h with
  | nil => rfl
  | cons _ _ ih => rw [List.length_cons, List.length_cons, ih]
theorem All2.mono (hs : ∀ a b, R a b → S a b) (h : All2 R as bs) : All2 S as bs := by
  induction h with
  | nil => exact .nil
  | cons h _ ih => exact .cons (hs _ _ h) ih
theorem All2.append (h : All2 R as bs) (k : All2 R cs ds) : All2 R (as ++ cs) (bs ++ ds) := by
  induction h with
  | nil => exact k
  | cons h _ ih => exact .cons h ih
theorem All2.snoc (h : All2 R as bs) (k : R a b) : All2 R (as ++ [a]) (bs ++ [b]) := h.append (.cons k .nil)
theorem All2.get (h : All2 R as bs) {i : Nat} (ha : as[i]? = some a) : ∃ b, bs[i]? = some b ∧ R a b := by
  induction h generalizing i with
  | nil => simp at ha
  | cons h _ ih =>
    cases i with
    | zero => exact ⟨_, rfl, by simp at ha; rw [← ha]; exact h⟩
    | succ i => exact ih (by simpa using ha)
theorem All2.at (h : All2 R as bs) {i : Nat} (hb : bs[i]? = some b) : ∃ a, as[i]? = some a ∧ R a b := by
  induction h generalizing i with
  | nil => simp at hb
  | cons h _ ih =>
    cases i with
    | zero => exact ⟨_, rfl, by simp at hb; rw [← hb]; exact h⟩
    | succ i => exact ih (by simpa using hb)
end
-- a loop's turns by an invariant (over the ItemsRest of KE.KTurns)
section
variable {prog : Program} {w : World} {A : Around} {E : Value → Shared → Prop} {s : Shared} {env : Env} {h₀ : Heap} {target : Expr} {body : List Stmt} {Q : Flow → Shared → Prop}
theorem items_ind {I : Addr} {cl : String} {keep : List (Addr × Obj)} {xs : List Itm} (J : Nat → (Str → Option Value) → List (Addr × Obj) → Prop)
    (turn : ∀ i a v m news h tk (o : Obj), xs[i]? = some a → SubL keep news → (∀ p ∈ news, p.1 ≠ I) → J i m news → a.Is v h → Fr h₀ env.locals h m → o.cls = .type cl → News h₀ env.locals h ((I, o) :: news) →
      wpAny (model prog w) A (assign target env v) (fun _ s₂ => wpAny (model prog w) A (execs body env) (UnrPostW h₀ env.locals { s with heap := h, toks := tk } [(I, o)] (fun m' n' => SubL keep n' ∧ J (i + 1) m' n') Q) E s₂) E { s with heap := h, toks := tk })
    (done : ∀ m news h tk, J xs.length m news → Fr h₀ env.locals h m → News h₀ env.locals h news → Q .next { s with heap := h, toks := tk }) :
    ∀ (ys : List Itm) (i : Nat) (m : Str → Option Value) (news : List (Addr × Obj)), xs.drop i = ys → i ≤ xs.length → SubL keep news → (∀ p ∈ news, p.1 ≠ I) → J i m news → ItemsRest prog w A E h₀ env target body Q s [(I, cl)] keep ys m news := by
  intro ys
  induction ys with
  | nil =>
    intro i m news hd hi _ _ hJ h tk F N
    have : i = xs.length := by
      have := congrArg List.length hd
      rw [List.length_drop, List.length_nil] at this
      omega
    subst this
    exact done m news h tk hJ F N
  | cons a ys ih =>
    intro i m news hd hi hk hI hJ v h tk hv F
    refine AllObj.cons fun o ho => AllObj.nil fun N => ?_
    have hlt : i < xs.length := by
      have := congrArg List.length hd
      rw [List.length_drop, List.length_cons] at this
      omega
    have ha : xs[i]? = some a := by
      have := congrArg (fun l => l[0]?) hd
      simpa [List.getElem?_drop] using this
    have hd' : xs.drop (i + 1) = ys := by
      have := congrArg List.tail hd
      simpa [List.tail_drop] using this
    have fin : ∀ s₃, UnrEndW h₀ env.locals { s with heap := h, toks := tk } [(I, o)] (fun m' n' => SubL keep n' ∧ J (i + 1) m' n') s₃ →
        UnrEndW h₀ env.locals { s with heap := h, toks := tk } [(I, o)] (fun m' n' => SubL keep n' ∧ ItemsRest prog w A E h₀ env target body Q s [(I, cl)] keep ys m' n') s₃ := by
      rintro s₃ ⟨h', tk', m', news', e, F', N', ho', hk', hJ'⟩
      exact ⟨h', tk', m', news', e, F', N', ho', hk', ih (i + 1) m' news' hd' hlt hk' (fun p hp => ho' p hp (I, o) (List.mem_cons_self ..)) hJ'⟩
    refine wpAny_mono (turn i a v m news h tk o ha hk hI hJ hv F ho N) (fun _ s₂ h₂ => wpAny_mono h₂ (fun f s₃ p => ?_) fun _ _ e => e) fun _ _ e => e
    cases f with
    | ret v => exact p
    | brk => exact p
    | next => exact fin _ p
    | cont => exact fin _ p
theorem unr_end {L I : Addr} {o : Obj} {rest : (Str → Option Value) → List (Addr × Obj) → Prop} {s₁ : Shared} {h' : Heap} {tk : Nat} {m' : Str → Option Value} {all : List (Addr × Obj)} (news' : List (Addr × Obj)) (F : Fr h₀ L h' m') (N : News h₀ L h' all)
    (hI : (I, o) ∈ all) (hs : ∀ p ∈ news', p ∈ all) (hne : ∀ p ∈ news', p.1 ≠ I) (r : rest m' news') : UnrEndW h₀ L s₁ [(I, o)] rest { s₁ with heap := h', toks := tk } :=
  ⟨h', tk, m', news', rfl, F, fun p hp => by
    rcases List.mem_append.mp hp with hp | hp
    · rw [List.mem_singleton.mp hp]; exact N _ hI
    · exact N p (hs p hp), fun p hp q hq => by rw [List.mem_singleton.mp hq]; exact hne p hp, r⟩
theorem iter_baseTurns {ax : Addr} {lo : Obj} {vs : List Value} {n : Nat} {m₀ : Str → Option Value} {news : List (Addr × Obj)}
    (hh : A.handled = none) (F : Fr h₀ env.locals s.heap m₀) (N : News h₀ env.locals s.heap news) (hg : h₀.get? ax = some lo) (hc : lo.cls = .type "list") (hd : lo.data = .seq vs.toArray n)
    (rest₀ : ∀ I : Addr, (∀ p ∈ news, p.1 < I) → ItemsRest prog w A E h₀ env target body Q s [(I, "list_iterator")] [] (vs.map .val) m₀ news) :
    wpAny (model prog w) A (pyIter (.ref ax)) (fun it s₂ => TurnsAt prog w A h₀ env target body Q E it s₂) E s := by
  have hax : s.heap.get? ax = some lo := F.keep _ _ hg
  have hl : s.heap.IsList ax vs.toArray := ⟨lo, hax, hc, n, hd⟩
  have hne : ax ≠ s.heap.objs.size := Nat.ne_of_lt (Heap.lt_size hax)
  refine wpAny_pyIter_list hl ?_
  refine ktg_core (tk0 := s.toks) (keep := []) (KTurns.ofWalks (Walks.list hh s.heap.objs.size ax hne vs.toArray) fun i v s Q E st q => letGo_listiter st.1 q) (by simp) (fun i v h hp => ⟨.val v, ?_, rfl⟩) (fun i h st => ?_) (fun b hb => ?_) (fun b hb => by simpa using hb) (fun b hb => ?_) ?_ (fun p hp hI => ?_) ?_ (F.push _) (fun p hp => ⟨Heap.get?_push_of_some _ (N p hp).1, (N p hp).2⟩) trivial (rest₀ _ fun p hp => Heap.lt_size (N p hp).1)
  · have hp' : vs.toArray[i]? = some v := hp
    simpa using hp'
  · obtain ⟨it, hit, hic, _⟩ := st.1
    exact ⟨[(s.heap.objs.size, it)], ⟨⟨rfl, hic⟩, trivial⟩, fun p hp => by rw [List.mem_singleton.mp hp]; exact hit⟩
  · have hb' : b = s.heap.objs.size := by simpa using hb
    rw [hb']
    exact ⟨List.mem_cons_self .., next_is_new F⟩
  · have hb' : b = s.heap.objs.size ∨ b = ax := by simpa using hb
    rcases hb' with e | e
    · exact .inl (by simp [e])
    · exact .inr (.inr ⟨lo, by rw [e]; exact hg⟩)
  · intro hI
    rcases List.mem_cons.mp hI with e | hI
    · exact absurd F.ns.lt (e ▸ Nat.lt_irrefl _)
    · have e : env.locals = ax := List.mem_singleton.mp hI
      exact absurd (Heap.lt_size hg) (Nat.not_lt.mpr (e ▸ F.above))
  · exact absurd (Heap.lt_size (N p hp).1) ((List.mem_singleton.mp hI) ▸ Nat.lt_irrefl _)
  · exact ⟨⟨_, Heap.get?_push_size _ rfl, rfl, rfl⟩, hl.at fun o e => Heap.get?_push_of_some _ e⟩
def rangeItems (a : Int) (n : Nat) : List Itm := (List.range n).map fun (i : Nat) => Itm.tok fun t => Value.int (a + (i : Int)) t
theorem rangeItems_length (a : Int) (n : Nat) : (rangeItems a n).length = n := by simp [rangeItems]
theorem rangeItems_get {a : Int} {n i : Nat} {x : Itm} (h : (rangeItems a n)[i]? = some x) : i < n ∧ x = .tok fun t => .int (a + (i : Int)) t := by
  unfold rangeItems at h
  rw [List.getElem?_map] at h
  obtain ⟨j, hj, e⟩ := Option.map_eq_some_iff.mp h
  obtain ⟨h1, h2⟩ := List.getElem?_eq_some_iff.mp hj
  rw [List.getElem_range] at h2
  subst h2
  exact ⟨by simpa using h1, e.symm⟩
theorem iter_rangeTurns {x : Str} {px : Pos} {r : Addr} {a₀ b₀ : Int} {t₀ u₀ v₀ : Tok} {n : Nat} {m₀ : Str → Option Value} {news : List (Addr × Obj)}
    (hh : A.handled = none) (hr : IsRange s.heap r a₀ b₀ 1 t₀ u₀ v₀) (hsmall : Builtin.Range.small a₀ b₀ 1 = true) (hn : Builtin.Range.rangeSize a₀ b₀ 1 = (n : Int)) (F : Fr h₀ env.locals s.heap m₀) (N : News h₀ env.locals s.heap news)
    (rest₀ : ∀ I : Addr, (∀ p ∈ news, p.1 < I) → ItemsRest prog w A E h₀ env (.Name x px) body Q s [(I, "range_iterator")] [] (rangeItems a₀ n) m₀ news) :
    wpAny (model prog w) A (pyIter (.ref r)) (fun it s₂ => TurnsAt prog w A h₀ env (.Name x px) body Q E it s₂) E s := by
  refine wpAny_pyIter_range hr hsmall ?_
  have W : Walks prog w A s.heap.objs.size [s.heap.objs.size] [s.heap.objs.size] n (fun i v => i < n ∧ ∃ t, v = .int (a₀ + i * 1) t)
      (fun i h => IsRangeIter h s.heap.objs.size (a₀ + (i : Nat) * 1) ((n : Int) - (i : Nat)) 1) := (Walks.range hh _ a₀ 1 n).bound
  refine ktg_core (tk0 := s.toks) (keep := []) (KTurns.ofWalks W fun i v s Q E st q => wpAny_pure q) (rangeItems_length a₀ n).symm (fun i v h hp => ?_) (fun i h st => ?_) (fun b hb => ?_) (fun b hb => by simpa using hb) (fun b hb => .inl (by simpa using hb)) ?_ (fun p hp hI => ?_) ?_ (F.push _) (fun p hp => ⟨Heap.get?_push_of_some _ (N p hp).1, (N p hp).2⟩) trivial (rest₀ _ fun p hp => Heap.lt_size (N p hp).1)
  · obtain ⟨hi, t, rfl⟩ := hp
    refine ⟨.tok fun t => .int (a₀ + (i : Int)) t, ?_, t, by rw [Int.mul_one]⟩
    unfold rangeItems
    rw [List.getElem?_map, List.getElem?_range hi]
    rfl
  · exact ⟨[(s.heap.objs.size, _)], ⟨⟨rfl, rfl⟩, trivial⟩, fun p hp => by rw [List.mem_singleton.mp hp]; exact st⟩
  · have hb' : b = s.heap.objs.size := by simpa using hb
    rw [hb']
    exact ⟨List.mem_cons_self .., next_is_new F⟩
  · intro hI
    exact absurd F.ns.lt ((List.mem_singleton.mp hI) ▸ Nat.lt_irrefl _)
  · exact absurd (Heap.lt_size (N p hp).1) ((List.mem_singleton.mp hI) ▸ Nat.lt_irrefl _)
  · show IsRangeIter _ _ _ _ _
    rw [hn]
    simpa using Heap.get?_push_size _ rfl
end
theorem unr_one {h₀ h' : Heap} {L I D : Addr} {o od : Obj} {rest : (Str → Option Value) → List (Addr × Obj) → Prop} {s₁ : Shared} {tk : Nat} {m' : Str → Option Value} {all : List (Addr × Obj)} (F : Fr h₀ L h' m') (N : News h₀ L h' ((D, od) :: all))
    (hI : (I, o) ∈ (D, od) :: all) (hne : D ≠ I) (r : rest m' [(D, od)]) : UnrEndW h₀ L s₁ [(I, o)] rest { s₁ with heap := h', toks := tk } :=
  unr_end [(D, od)] F N hI (fun p hp => by rw [List.mem_singleton.mp hp]; exact List.mem_cons_self ..) (fun p hp => by rw [List.mem_singleton.mp hp]; exact hne) r
def Hold (P : Prop) : Prop := P
theorem Hold.out {P : Prop} (h : Hold P) : P := h
-- a rational in the heap
def RatH (h : Heap) (v : Value) (r : Rat) : Prop := ∃ D t t' c, v = .ref D ∧ h.get? D = some (RatO r t t' c)
theorem RatH.keeps {h g : Heap} {v : Value} {r : Rat} (hk : ∀ b o, h.get? b = some o → g.get? b = some o) (x : RatH h v r) : RatH g v r := let ⟨D, t, t', c, e, hd⟩ := x; ⟨D, t, t', c, e, hk _ _ hd⟩
def tot (rs : List Rat) : Rat := rs.foldl (· + ·) 0
theorem tot_take {rs : List Rat} {i : Nat} {r : Rat} (h : rs[i]? = some r) : tot (rs.take (i + 1)) = tot (rs.take i) + r := by
  unfold tot
  rw [List.take_add_one, h, List.foldl_append]; rfl
theorem val_get {vs : List Value} {i : Nat} {a : Itm} {v : Value} {h : Heap} (ha : (vs.map Itm.val)[i]? = some a) (hv : a.Is v h) : vs[i]? = some v := by
  rw [List.getElem?_map] at ha
  obtain ⟨x, hx, e⟩ := Option.map_eq_some_iff.mp ha
  subst e
  have : v = x := hv
  rw [this]; exact hx
theorem mul_le_of_lt {i n b : Nat} (h : i < n) : i * (b + 1) + 1 + b + 1 ≤ n * (b + 1) + 1 := by
  have : (i + 1) * (b + 1) ≤ n * (b + 1) := Nat.mul_le_mul_right _ h
  rw [Nat.add_mul] at this
  omega
local macro_rules | `(tactic| walk_at "hat9") => `(tactic| (first | exact News.get (by k_asm) (by k_mem) | exact Fr.keep (by k_asm) _ _ (by with_reducible assumption) | exact Tk.get (by k_asm) (by k_asm) (by with_reducible assumption) (by intro p9 hp9; first | exact hp9 | exact absurd hp9 List.not_mem_nil | (repeat (first | exact hp9 | refine List.mem_cons_of_mem _ ?_))) | exact Frag.In.keeps (by k_asm) (Fr.keep (by k_asm)) _ _ (by k_is)))
local macro_rules | `(tactic| ktr_units) => `(tactic| (have hcL9 := cLine_is; (try simp only [units_under_make, units_in1, units_deeper, Around.mark_units, units_caller]); (try dsimp only [ktrTop]); omega))
local macro_rules | `(tactic| walk_at "call ref") => `(tactic| (k_here; (with_reducible show wpAny _ _ (call (Value.ref 65) [Value.ref _, Value.ref _]) _ _ _); k_dflt (refine' plus_r ?k1 ?k2 ?k3 ?k4 ?k5 ?k6 ?m1 ?m2 ?k7 ?k8 ?b1 ?b2 ?hb ?_; (case k1 => k_asm); (case k2 => k_asm); (case k3 => k_asm); (case k4 => k_asm); (case k5 => k_asm); (case k6 => first | exact rfl | assumption); (case k7 => first | exact Nat.le_of_ble_eq_true rfl | ktr_room); (case k8 => first | exact Nat.le_of_ble_eq_true rfl | ktr_units); (case m1 => (walk_at "hat9")); (case m2 => (walk_at "hat9")); (case b1 => with_reducible assumption); (case b2 => with_reducible assumption); (case hb => first | assumption | omega | decide); k_whole); intro D' t' u' c' h' tk' bD' F' N' l1; (try (replace l1 := allNe_of l1; simp only [AllNe, and_true] at l1)); (try k_sweep)))
local macro_rules | `(tactic| walk_at "call ref") => `(tactic| (k_here; (with_reducible show wpAny _ _ (call (Value.ref 65) [Value.ref 35, Value.ref _]) _ _ _); k_dflt (refine' plus_r (r1 := 0) (n := 1) ?k1 ?k2 ?k3 ?k4 ?k5 ?k6 ?m1 ?m2 ?k7 ?k8 ?b1 ?b2 ?hb ?_; (case k1 => k_asm); (case k2 => k_asm); (case k3 => k_asm); (case k4 => k_asm); (case k5 => k_asm); (case k6 => first | exact rfl | assumption); (case k7 => first | exact Nat.le_of_ble_eq_true rfl | ktr_room); (case k8 => first | exact Nat.le_of_ble_eq_true rfl | ktr_units); (case m1 => exact Frag.In.keeps (by k_asm) (Fr.keep (by k_asm)) _ _ (by k_is)); (case m2 => (walk_at "hat9")); (case b1 => exact Bd.zero (by decide)); (case b2 => with_reducible assumption); (case hb => first | assumption | omega | decide); k_whole); intro D' t' u' c' h' tk' bD' F' N' l1; (try (replace l1 := allNe_of l1; simp only [AllNe, and_true] at l1)); (try k_sweep)))
local macro_rules | `(tactic| walk_at "eval Name") => `(tactic| (k_here; k_dflt (refine' ld ?k1 ?k2 ?_; (case k1 => k_asm); (case k2 => first | exact rfl | assumption); k_whole)))
local macro_rules | `(tactic| walk_at "exec For") => `(tactic| (k_here; (rename Fr _ _ _ _ => lF'); (with_unfolding_all refine' For_turns lF' ?_; k_whole)))
local macro_rules | `(tactic| walk_at "exec For Name Name cons nil") => `(tactic| (k_here; (rename Fr _ _ _ _ => lF'); (with_unfolding_all refine' For_turns lF' ?_; k_whole)))
local macro_rules | `(tactic| walk_at "exec For Name Call cons nil") => `(tactic| (k_here; (rename Fr _ _ _ _ => lF'); (with_unfolding_all refine' For_turns lF' ?_; k_whole)))
local macro_rules | `(tactic| walk_at "exec For Tuple Name cons nil") => `(tactic| (k_here; (rename Fr _ _ _ _ => lF'); (with_unfolding_all refine' For_turns lF' ?_; k_whole)))
local macro_rules | `(tactic| walk_at "exec For Tuple Call cons nil") => `(tactic| (k_here; (rename Fr _ _ _ _ => lF'); (with_unfolding_all refine' For_turns lF' ?_; k_whole)))
local macro_rules | `(tactic| walk_at "exec For Name Attribute cons nil") => `(tactic| (k_here; (rename Fr _ _ _ _ => lF'); (with_unfolding_all refine' For_turns lF' ?_; k_whole)))
local macro_rules | `(tactic| walk_at "exec For Tuple Attribute cons nil") => `(tactic| (k_here; (rename Fr _ _ _ _ => lF'); (with_unfolding_all refine' For_turns lF' ?_; k_whole)))
local macro_rules | `(tactic| walk_at "exec For Tuple Subscript cons nil") => `(tactic| (k_here; (rename Fr _ _ _ _ => lF'); (with_unfolding_all refine' For_turns lF' ?_; k_whole)))
local macro_rules | `(tactic| walk_at "pyIter ref") => `(tactic| ((with_reducible show wpAny _ _ (pyIter (Value.ref _)) (fun it s₂ => TurnsAt _ _ _ _ _ _ _ _ _ it s₂) _ _); refine Hold.out ?_))
local macro_rules | `(tactic| walk_at "UnrPostW") => `(tactic| (dsimp only [UnrPostW]))
local macro_rules | `(tactic| walk_at "UnrEndW") => `(tactic| (refine Hold.out ?_))
theorem total_c {w : World} {p : Program} {loose : List Str} {mean : ExcName → Option Value} {mg mb : Str → Option Value} {dp un : Nat} {gd : Option (List Code)} {cn : Str} {cs : Scope} {a : Addr} {ccd : Value} {cl : List (Str × Addr)} {outer : List Env} {A₀ : Around} {base h₀ : Heap} {L : Addr} {m : Str → Option Value} {news : List (Addr × Obj)} {s : Shared} {Q E : Value → Shared → Prop} {l : Addr} {vs : List Value} {rs : List Rat} {n0 b : Nat}
    (B : Below A₀ base outer h₀) (F : Fr h₀ L s.heap m) (X : (Mine.hd.heap_39 w.params).In h₀) (N : News h₀ L s.heap news) (T : Top p loose mean mg mb h₀) (hk : cs.kind = .function) (el : s.heap.get? l = some (listOf vs.toArray n0)) (hv : All2 (RatH s.heap) vs rs) (hne : rs ≠ []) (hb : ∀ r ∈ rs, Bd b r) (hlen : rs.length * (b + 1) + 1 ≤ 6643)
    (hd : dp + 6 < recursionLimit) (hu : un + 100 < cLine)
    (hret : ∀ (D : Addr) (t t' : Tok) (c : Nat) (h' : Heap) (tk' : Nat), Bd (rs.length * (b + 1) + 1) (tot rs) → Fr h₀ L h' m → News h₀ L h' ((D, RatO (tot rs) t t' c) :: news) → (∀ p ∈ news, p.1 ≠ D) → Q (.ref D) { s with heap := h', toks := tk' }) :
    wpAny (model PySem.Challenge.rw_ui0509_09.row.prog w) (ktrTop dp un gd cn cs L a ccd cl outer) (call (.ref 107) [.ref l]) Q E s := by
  w_top off
  revert X; k_fill; intro X
  refine wpAny_call ?_
  k_dflt (refine' code_need [] ?k1 ?k2 ?k3 ?k4 ?k5 ?kA ?kF ?kK ?k6 ?k7 ?k8 ?k9 ?kB ?kN ?_ ?c2 ?c3 ?c4 ?c5; (case kA => exact rfl); (case kF => exact rfl); (case kK => assumption); (case k1 => k_asm); (case k2 => k_asm); (case k3 => k_asm); (case k4 => k_asm); (case k5 => k_asm); (case k6 => k_is); (case k7 => k_is); (case k8 => ktr_room); (case k9 => first | exact BindsTo.of_eq rfl | exact binds_K (by k_in) rfl (by k_is) rfl rfl rfl); (case c5 => decide); (case kB => exact locs rfl); (case kN => exact fun _ h => nomatch h); (case c2 => exact rfl); (case c3 => exact rfl); (case c4 => exact rfl); k_whole; intro g' L' h' tk0 FG' F' N' B' X' T' hG'; (try dsimp only); (try k_fold))
  replace el := hG' _ _ el (by simp)
  replace hv := hv.mono fun v r x => x.keeps fun b o e => hG' b o e (by simp)
  k_steps
  unfold Hold
  refine iter_baseTurns rfl (by k_asm) (by k_asm) el rfl rfl (fun I lI => ?_)
  refine items_ind (fun i m nx => ∃ v, m (Str.ofString "out") = some v ∧ ((i = 0 ∧ v = .ref 35 ∧ nx = []) ∨ (0 < i ∧ ∃ D t t' c, v = .ref D ∧ nx = [(D, RatO (tot (rs.take i)) t t' c)] ∧ Bd (i * (b + 1) + 1) (tot (rs.take i))))) ?turn ?done _ 0 _ _ rfl (Nat.zero_le _) trivial (fun p hp => Nat.ne_of_lt (lI p hp)) ⟨_, rfl, .inl ⟨rfl, rfl, rfl⟩⟩
  case turn =>
    intro i a v m nx h tk o ha _ hI hJ hav Fm ho Nn
    obtain ⟨r, hr, D1, t1, t1', c1, rfl, e1⟩ := hv.get (val_get ha hav)
    have hil : i < rs.length := (List.getElem?_eq_some_iff.mp hr).1
    have bR := hb r (List.mem_of_getElem? hr)
    have hsz := mul_le_of_lt (b := b) hil
    have hsz2 : i * (b + 1) + 1 + b + 1 ≤ 6643 := Nat.le_trans hsz hlen
    obtain ⟨vo, hm, ⟨rfl, rfl, rfl⟩ | ⟨hpos, D, t, t', c, rfl, rfl, hB⟩⟩ := hJ
    · have htot : tot (rs.take (0 + 1)) = 0 + r := by rw [tot_take hr]; rfl
      k_steps
      unfold Hold
      exact unr_one (by k_asm) (by k_asm) (by k_mem) (neN (by omega)) ⟨trivial, _, rfl, .inr ⟨Nat.succ_pos _, _, _, _, _, rfl, by rw [htot], by rw [htot]; exact Bd.mono (by assumption) (by omega)⟩⟩
    · have htot := tot_take hr
      k_steps
      unfold Hold
      exact unr_one (by k_asm) (by k_asm) (by k_mem) (neN (by omega)) ⟨trivial, _, rfl, .inr ⟨Nat.succ_pos _, _, _, _, _, rfl, by rw [htot], by rw [htot]; exact Bd.mono (by assumption) (by rw [Nat.add_mul]; omega)⟩⟩
  case done =>
    intro m nx h tk hJ Fm Nn
    rw [List.length_map, hv.length] at hJ
    obtain ⟨vo, hm, ⟨h0, _, _⟩ | ⟨hpos, D, t, t', c, rfl, rfl, hB⟩⟩ := hJ
    · exact absurd (List.length_eq_zero_iff.mp h0) hne
    · rw [List.take_length] at hB Nn
      k_steps
      dsimp only
      refine leaveN_ (by k_asm) (by k_asm) ?_; intro kF kN kR kD; (try dsimp only); exact hret _ _ _ _ _ _ hB kF (news_cons kN (by k_mem) (news_all kR)) (ne_all kD (List.mem_cons_self ..))
-- what a frame keeps track of: an object of the ledger, or of the ground
def Tk (h₀ : Heap) (nx : List (Addr × Obj)) (a : Addr) (o : Obj) : Prop := (a, o) ∈ nx ∨ h₀.get? a = some o
theorem Tk.mono {h₀ : Heap} {nx ny : List (Addr × Obj)} {a : Addr} {o : Obj} (e : Tk h₀ nx a o) (hs : ∀ p ∈ nx, p ∈ ny) : Tk h₀ ny a o := e.imp (hs _) id
theorem Tk.get {h₀ h : Heap} {L : Addr} {m : Str → Option Value} {nx led : List (Addr × Obj)} {a : Addr} {o : Obj} (F : Fr h₀ L h m) (N : News h₀ L h led) (e : Tk h₀ nx a o) (hs : ∀ p ∈ nx, p ∈ led) : h.get? a = some o :=
  e.elim (fun h1 => (N _ (hs _ h1)).1) fun h1 => F.keep _ _ h1
abbrev pairO (v1 v2 : Value) (c : Nat) : Obj := { cls := .type "tuple", data := .seq #[v1, v2] c }
abbrev PT (P : Addr → Obj → Prop) (tl : List (Addr × Obj)) (a : Addr) (o : Obj) : Prop := P a o ∨ (a, o) ∈ tl
theorem PT.mono {P : Addr → Obj → Prop} {tl tm : List (Addr × Obj)} (hs : ∀ p ∈ tl, p ∈ tm) : ∀ a o, PT P tl a o → PT P tm a o := fun _ _ e => e.imp id (hs _)
theorem PT.left {P : Addr → Obj → Prop} {tl tm : List (Addr × Obj)} (_hs : ∀ p ∈ tl, p ∈ tm) : ∀ a o, P a o → PT P tm a o := fun _ _ e => .inl e
def RatN (P : Addr → Obj → Prop) (v : Value) (r : Rat) : Prop := ∃ D t t' c, v = .ref D ∧ P D (RatO r t t' c)
def LayN (P : Addr → Obj → Prop) (v : Value) (l : Rat × Rat) : Prop := ∃ D v1 v2 c, v = .ref D ∧ P D (pairO v1 v2 c) ∧ RatN P v1 l.1 ∧ RatN P v2 l.2
def LstN {β : Type} (R : Value → β → Prop) (P : Addr → Obj → Prop) (v : Value) (bs : List β) : Prop := ∃ l vs n, v = .ref l ∧ P l (listOf vs.toArray n) ∧ All2 R vs bs
abbrev LaysN (P : Addr → Obj → Prop) (v : Value) (ls : List (Rat × Rat)) : Prop := LstN (LayN P) P v ls
abbrev RatsN (P : Addr → Obj → Prop) (v : Value) (rs : List Rat) : Prop := LstN (RatN P) P v rs
section
variable {P P' : Addr → Obj → Prop} {v : Value}
theorem RatN.mono {r : Rat} (hs : ∀ a o, P a o → P' a o) (x : RatN P v r) : RatN P' v r := let ⟨D, t, t', c, e, k⟩ := x; ⟨D, t, t', c, e, hs _ _ k⟩
theorem LayN.mono {l : Rat × Rat} (hs : ∀ a o, P a o → P' a o) (x : LayN P v l) : LayN P' v l := let ⟨D, v1, v2, c, e, k, a, b⟩ := x; ⟨D, v1, v2, c, e, hs _ _ k, a.mono hs, b.mono hs⟩
theorem LaysN.mono {ls : List (Rat × Rat)} (hs : ∀ a o, P a o → P' a o) (x : LaysN P v ls) : LaysN P' v ls := let ⟨l, vs, n, e, k, a⟩ := x; ⟨l, vs, n, e, hs _ _ k, a.mono fun _ _ y => y.mono hs⟩
theorem RatsN.mono {rs : List Rat} (hs : ∀ a o, P a o → P' a o) (x : RatsN P v rs) : RatsN P' v rs := let ⟨l, vs, n, e, k, a⟩ := x; ⟨l, vs, n, e, hs _ _ k, a.mono fun _ _ y => y.mono hs⟩
end
theorem ground_of {P : Addr → Obj → Prop} {h g : Heap} (hP : ∀ a o, P a o → h.get? a = some o) (hG : ∀ b o, h.get? b = some o → b ∉ List.map (·.1) ([] : List (Addr × Obj)) → g.get? b = some o) (tl : List (Addr × Obj)) :
    ∀ a o, PT P tl a o → Tk g tl a o := fun a o e => e.elim (fun h => .inr (hG _ _ (hP _ _ h) (by simp))) .inl
theorem tracked {h₀ h : Heap} {L : Addr} {m : Str → Option Value} {led : List (Addr × Obj)} (F : Fr h₀ L h m) (N : News h₀ L h led) : ∀ a o, Tk h₀ led a o → h.get? a = some o := fun _ _ e => e.get F N fun _ hp => hp
-- steps on such objects
section
variable {prog : Program} {w : World} {A : Around} {E : Value → Shared → Prop} {s : Shared} {h₀ : Heap} {L D : Addr} {m : Str → Option Value} {nx led : List (Addr × Obj)} {lo : Obj} {env : Env}
theorem tup_t {value slice : Expr} {l : List Value} {n : Nat} {k : Int} {u : Tok} {j : Nat} {x : Value} {Q : Value → Shared → Prop}
    (F : Fr h₀ L s.heap m) (N : News h₀ L s.heap led) (e : Tk h₀ nx D lo) (hsub : ∀ p ∈ nx, p ∈ led) (hc : lo.cls = .type "tuple") (hd : lo.data = .seq l.toArray n) (hlo : -(2 ^ 63) ≤ k) (hhi : k < 2 ^ 63) (hj : seqIndex? k l.length = some j) (hx : l[j]? = some x) (h : Q x s)
    (hs : subscripted slice false (.ref D) (.int k u) = operate [.ref D, .int k u] (getItem (.ref D) (.int k u))) (hg : ∀ r, letTemporaryGo value (.ref D) r = pure ()) :
    wpAny (model prog w) A (subscriptTail value slice (.ref D) (.int k u)) Q E s := item_tupleL ⟨lo, e.get F N hsub, hc, n, hd⟩ hlo hhi hj hx h hs hg
theorem unpack_t {elts : List Expr} {k : Nat} {pos : Pos} {items : Array Value} {n : Nat} {Q : Unit → Shared → Prop} (F : Fr h₀ L s.heap m) (N : News h₀ L s.heap led) (e : Tk h₀ nx D lo) (hsub : ∀ p ∈ nx, p ∈ led) (hc : lo.cls = .type "tuple") (hd : lo.data = .seq items n)
    (hh : A.handled = none) (hn : (assignEach elts env).length = items.size) (hstar : (assignEach elts env).findIdx? (·.1) = none)
    (h : ∀ h', Fr h₀ L h' m → News h₀ L h' led → wpAny (model prog w) A (assignInOrder ((assignEach elts env).map (·.2)) items.toList) Q E { s with heap := h' }) :
    wpAny (model prog w) A (assign (.Tuple elts k pos) env (.ref D)) Q E s := unpackN_ F N ⟨lo, e.get F N hsub, hc, n, hd⟩ hh hn hstar h
end
theorem off_of {l tl : List (Addr × Obj)} {d : Addr} {o : Obj} (h : ∀ p ∈ l, ∀ q ∈ tl, p.1 ≠ q.1) (hm : (d, o) ∈ l) : ∀ q ∈ tl, q.1 ≠ d := fun q hq e => h _ hm q hq e.symm
theorem lay_new {P : Addr → Obj → Prop} {T : Addr} {v1 v2 : Value} {c : Nat} {x y : Rat} (h : P T (pairO v1 v2 c)) (a : RatN P v1 x) (b : RatN P v2 y) : LayN P (.ref T) (x, y) := ⟨T, v1, v2, c, rfl, h, a, b⟩
theorem rat_new {P : Addr → Obj → Prop} {D : Addr} {t t' : Tok} {c : Nat} {r : Rat} (h : P D (RatO r t t' c)) : RatN P (.ref D) r := ⟨D, t, t', c, rfl, h⟩
theorem allLt_mem {d : Nat} : ∀ {l : List (Addr × Obj)}, AllLt d l → ∀ p ∈ l, p.1 ≠ d
  | [], _, _, h => nomatch h
  | _ :: _, x, p, h => by
    rcases List.mem_cons.mp h with rfl | h
    · exact Nat.ne_of_lt x.1
    · exact allLt_mem x.2 p h
theorem news_app {h₀ h' : Heap} {L : Addr} {news tl : List (Addr × Obj)} {p : Addr × Obj} (N1 : News h₀ L h' (p :: tl)) (N : News h₀ L h' news) : News h₀ L h' (p :: (news ++ tl)) := by
  intro q hq
  rcases List.mem_cons.mp hq with rfl | hq
  · exact N1 _ (List.mem_cons_self ..)
  · rcases List.mem_append.mp hq with hq | hq
    · exact N q hq
    · exact N1 q (List.mem_cons_of_mem _ hq)
theorem news_app2 {h₀ h' : Heap} {L : Addr} {news tl : List (Addr × Obj)} (N1 : News h₀ L h' tl) (N : News h₀ L h' news) : News h₀ L h' (news ++ tl) := by
  intro q hq
  rcases List.mem_append.mp hq with hq | hq
  · exact N q hq
  · exact N1 q hq
local macro_rules | `(tactic| walk_at "hat9") => `(tactic| (first | exact News.get (by k_asm) (by k_mem) | exact Fr.keep (by k_asm) _ _ (by with_reducible assumption) | exact Tk.get (by k_asm) (by k_asm) (by with_reducible assumption) (by intro p9 hp9; first | exact hp9 | exact absurd hp9 List.not_mem_nil | (repeat (first | exact hp9 | refine List.mem_cons_of_mem _ ?_))) | exact Frag.In.keeps (by k_asm) (Fr.keep (by k_asm)) _ _ (by k_is)))
local macro_rules | `(tactic| walk_at "call ref") => `(tactic| (k_here; (with_reducible show wpAny _ _ (call (Value.ref 93) [Value.ref _, Value.ref _]) _ _ _); k_dflt (refine' less_r ?k1 ?k2 ?k3 ?k4 ?k5 ?k6 ?m1 ?m2 ?k7 ?k8 ?b1 ?b2 ?hb ?_; (case k1 => k_asm); (case k2 => k_asm); (case k3 => k_asm); (case k4 => k_asm); (case k5 => k_asm); (case k6 => first | exact rfl | assumption); (case k7 => first | exact Nat.le_of_ble_eq_true rfl | ktr_room); (case k8 => first | exact Nat.le_of_ble_eq_true rfl | ktr_units); (case m1 => (walk_at "hat9")); (case m2 => (walk_at "hat9")); (case b1 => with_reducible assumption); (case b2 => with_reducible assumption); (case hb => first | assumption | omega | decide); k_whole); intro h' tk' F' N'; (try k_sweep)))
theorem least_c {w : World} {p : Program} {loose : List Str} {mean : ExcName → Option Value} {mg mb : Str → Option Value} {dp un : Nat} {gd : Option (List Code)} {cn : Str} {cs : Scope} {a : Addr} {ccd : Value} {cl : List (Str × Addr)} {outer : List Env} {A₀ : Around} {base h₀ : Heap} {L : Addr} {m : Str → Option Value} {news : List (Addr × Obj)} {s : Shared} {Q E : Value → Shared → Prop} {D1 D2 : Addr} {r1 r2 : Rat} {t1 t1' t2 t2' : Tok} {c1 c2 n k : Nat}
    (B : Below A₀ base outer h₀) (F : Fr h₀ L s.heap m) (X : (Mine.hd.heap_39 w.params).In h₀) (N : News h₀ L s.heap news) (T : Top p loose mean mg mb h₀) (hk : cs.kind = .function) (e1 : s.heap.get? D1 = some (RatO r1 t1 t1' c1)) (e2 : s.heap.get? D2 = some (RatO r2 t2 t2' c2))
    (hd : dp + 5 < recursionLimit) (hu : un + 60 < cLine) (b1 : Bd n r1) (b2 : Bd k r2) (hb : k + n ≤ 100000)
    (h1 : r2 < r1 → ∀ (h' : Heap) (tk' : Nat), Fr h₀ L h' m → News h₀ L h' news → Q (.ref D2) { s with heap := h', toks := tk' }) (h2 : ¬ r2 < r1 → ∀ (h' : Heap) (tk' : Nat), Fr h₀ L h' m → News h₀ L h' news → Q (.ref D1) { s with heap := h', toks := tk' }) :
    wpAny (model PySem.Challenge.rw_ui0509_09.row.prog w) (ktrTop dp un gd cn cs L a ccd cl outer) (call (.ref 100) [.ref D1, .ref D2]) Q E s := by
  w_top off
  revert X; k_fill; intro X
  refine wpAny_call ?_
  k_dflt (refine' code_need [] ?k1 ?k2 ?k3 ?k4 ?k5 ?kA ?kF ?kK ?k6 ?k7 ?k8 ?k9 ?kB ?kN ?_ ?c2 ?c3 ?c4 ?c5; (case kA => exact rfl); (case kF => exact rfl); (case kK => assumption); (case k1 => k_asm); (case k2 => k_asm); (case k3 => k_asm); (case k4 => k_asm); (case k5 => k_asm); (case k6 => k_is); (case k7 => k_is); (case k8 => ktr_room); (case k9 => first | exact BindsTo.of_eq rfl | exact binds_K (by k_in) rfl (by k_is) rfl rfl rfl); (case c5 => decide); (case kB => exact locs rfl); (case kN => exact fun _ h => nomatch h); (case c2 => exact rfl); (case c3 => exact rfl); (case c4 => exact rfl); k_whole; intro g' L' h' tk0 FG' F' N' B' X' T' hG'; (try dsimp only); (try k_fold))
  replace e1 := hG' _ _ e1 (by simp)
  replace e2 := hG' _ _ e2 (by simp)
  k_steps
  all_goals (refine leaveN_ (by k_asm) (by k_asm) ?_; intro kF kN kR kD; (try dsimp only); first | exact h1 (by simpa using (by assumption : decide (r2 < r1) = true)) _ _ kF (news_all kR) | exact h2 (by simpa using (by assumption : decide (r2 < r1) = false)) _ _ kF (news_all kR) | exact h1 (by assumption) _ _ kF (news_all kR) | exact h2 (by assumption) _ _ kF (news_all kR))
-- the ledger at a turn's end: what is told of by name, and all the rest but the iterator
def strip (bad : List Addr) (all : List (Addr × Obj)) : List (Addr × Obj) := all.filter fun p => !bad.contains p.1
theorem mem_strip {bad : List Addr} {all : List (Addr × Obj)} {p : Addr × Obj} (h : p ∈ all) (hn : p.1 ∉ bad) : p ∈ strip bad all := List.mem_filter.mpr ⟨h, by simpa [List.contains_iff_mem] using hn⟩
theorem strip_mem {bad : List Addr} {all : List (Addr × Obj)} {p : Addr × Obj} (h : p ∈ strip bad all) : p ∈ all ∧ p.1 ∉ bad := by
  obtain ⟨h1, h2⟩ := List.mem_filter.mp h
  exact ⟨h1, by simpa [List.contains_iff_mem] using h2⟩
theorem unr_mut {h₀ h' : Heap} {L I : Addr} {o : Obj} {rest : (Str → Option Value) → List (Addr × Obj) → Prop} {s₁ : Shared} {tk : Nat} {m' : Str → Option Value} {all : List (Addr × Obj)} (muts : List (Addr × Obj)) (F : Fr h₀ L h' m') (N : News h₀ L h' all)
    (hI : (I, o) ∈ all) (hm : ∀ p ∈ muts, p ∈ all) (hn : ∀ p ∈ muts, p.1 ≠ I) (r : rest m' (muts ++ strip (I :: muts.map (·.1)) all)) : UnrEndW h₀ L s₁ [(I, o)] rest { s₁ with heap := h', toks := tk } := by
  refine unr_end _ F N hI (fun p hp => ?_) (fun p hp => ?_) r
  · rcases List.mem_append.mp hp with hp | hp
    · exact hm p hp
    · exact (strip_mem hp).1
  · rcases List.mem_append.mp hp with hp | hp
    · exact hn p hp
    · exact fun e => (strip_mem hp).2 (e ▸ List.mem_cons_self ..)
theorem two_of {P : Addr × Obj → Prop} {a b : Addr × Obj} (ha : P a) (hb : P b) : ∀ p ∈ [a, b], P p := List.forall_mem_cons.mpr ⟨ha, List.forall_mem_cons.mpr ⟨hb, List.forall_mem_nil _⟩⟩
theorem one_of {P : Addr × Obj → Prop} {a : Addr × Obj} (ha : P a) : ∀ p ∈ [a], P p := List.forall_mem_cons.mpr ⟨ha, List.forall_mem_nil _⟩
theorem not_in3 {a x y z : Addr} (h1 : a ≠ x) (h2 : a ≠ y) (h3 : a ≠ z) : a ∉ [x, y, z] := by
  simp only [List.mem_cons, List.not_mem_nil, or_false, not_or]; exact ⟨h1, h2, h3⟩
theorem not_in2 {a x y : Addr} (h1 : a ≠ x) (h2 : a ≠ y) : a ∉ [x, y] := by
  simp only [List.mem_cons, List.not_mem_nil, or_false, not_or]; exact ⟨h1, h2⟩
-- cutting layers
abbrev Lay := Rat × Rat
structure CutSt where
  out : List Lay
  rest : List Lay
  left : Rat
def cutStep (c : CutSt) (l : Lay) : CutSt :=
  let p := if c.left < l.1 then c.left else l.1
  ⟨if 0 < p then c.out ++ [(p, l.2)] else c.out, if p < l.1 then c.rest ++ [(l.1 - p, l.2)] else c.rest, if 0 < p then c.left - p else c.left⟩
def cutF (ls : List Lay) (x : Rat) : CutSt := ls.foldl cutStep ⟨[], [], x⟩
theorem cut_take {ls : List Lay} {i : Nat} {l : Lay} {x : Rat} (h : ls[i]? = some l) : cutF (ls.take (i + 1)) x = cutStep (cutF (ls.take i) x) l := by
  unfold cutF
  rw [List.take_add_one, h, List.foldl_append]; rfl
theorem num_pos {r : Rat} : 0 < r.num ↔ 0 < r := by
  rw [Rat.lt_iff]; simp
theorem unr_mut2 {h₀ h' : Heap} {L I d1 d2 : Addr} {o o1 o2 : Obj} {rest : (Str → Option Value) → List (Addr × Obj) → Prop} {s₁ : Shared} {tk : Nat} {m' : Str → Option Value} {all : List (Addr × Obj)} (F : Fr h₀ L h' m') (N : News h₀ L h' all)
    (hI : (I, o) ∈ all) (h1 : (d1, o1) ∈ all) (h2 : (d2, o2) ∈ all) (n1 : d1 ≠ I) (n2 : d2 ≠ I) (r : rest m' ([(d1, o1), (d2, o2)] ++ strip [I, d1, d2] all)) : UnrEndW h₀ L s₁ [(I, o)] rest { s₁ with heap := h', toks := tk } :=
  unr_mut [(d1, o1), (d2, o2)] F N hI (two_of h1 h2) (two_of n1 n2) r
theorem unr_mut1 {h₀ h' : Heap} {L I d1 : Addr} {o o1 : Obj} {rest : (Str → Option Value) → List (Addr × Obj) → Prop} {s₁ : Shared} {tk : Nat} {m' : Str → Option Value} {all : List (Addr × Obj)} (F : Fr h₀ L h' m') (N : News h₀ L h' all)
    (hI : (I, o) ∈ all) (h1 : (d1, o1) ∈ all) (n1 : d1 ≠ I) (r : rest m' ([(d1, o1)] ++ strip [I, d1] all)) : UnrEndW h₀ L s₁ [(I, o)] rest { s₁ with heap := h', toks := tk } :=
  unr_mut [(d1, o1)] F N hI (one_of h1) (one_of n1) r
theorem sub_strip3 {h₀ h' : Heap} {L x y z : Addr} {all tl : List (Addr × Obj)} (_N : News h₀ L h' all) (hm : ∀ p ∈ tl, p ∈ all) (a : ∀ p ∈ tl, p.1 ≠ x) (b : ∀ p ∈ tl, p.1 ≠ y) (c : ∀ p ∈ tl, p.1 ≠ z) : ∀ p ∈ tl, p ∈ strip [x, y, z] all :=
  fun p hp => mem_strip (hm p hp) (not_in3 (a p hp) (b p hp) (c p hp))
theorem sub_strip2 {h₀ h' : Heap} {L x y : Addr} {all tl : List (Addr × Obj)} (_N : News h₀ L h' all) (hm : ∀ p ∈ tl, p ∈ all) (a : ∀ p ∈ tl, p.1 ≠ x) (b : ∀ p ∈ tl, p.1 ≠ y) : ∀ p ∈ tl, p ∈ strip [x, y] all :=
  fun p hp => mem_strip (hm p hp) (not_in2 (a p hp) (b p hp))
theorem lst_len {prog : Program} {w : World} {A : Around} {E : Value → Shared → Prop} {s : Shared} {h₀ : Heap} {L l : Addr} {news : List (Addr × Obj)} {vs : List Value} {n : Nat} {Q : Value → Shared → Prop} (N : News h₀ L s.heap news) (hm : (l, listOf vs.toArray n) ∈ news) (hf : vs.length < 1000000) (h : ∀ tk, Q (.int (vs.length : Int) tk) { s with toks := tk + 1 }) :
    wpAny (model prog w) A (call (.builtin "len") [.ref l]) Q E s := by
  refine len_list ⟨_, N.get hm, rfl, n, rfl⟩ (by rw [List.size_toArray]; omega) ?_
  rw [List.size_toArray]
  exact h _
theorem lst_lenT {prog : Program} {w : World} {A : Around} {E : Value → Shared → Prop} {s : Shared} {h₀ : Heap} {L l : Addr} {m : Str → Option Value} {nx led : List (Addr × Obj)} {vs : List Value} {n : Nat} {Q : Value → Shared → Prop} (F : Fr h₀ L s.heap m) (N : News h₀ L s.heap led) (e : Tk h₀ nx l (listOf vs.toArray n)) (hs : ∀ p ∈ nx, p ∈ led) (hf : vs.length < 1000000) (h : ∀ tk, Q (.int (vs.length : Int) tk) { s with toks := tk + 1 }) :
    wpAny (model prog w) A (call (.builtin "len") [.ref l]) Q E s := by
  refine len_list ⟨_, e.get F N hs, rfl, n, rfl⟩ (by rw [List.size_toArray]; omega) ?_
  rw [List.size_toArray]
  exact h _
theorem add_k {prog : Program} {w : World} {A : Around} {E : Value → Shared → Prop} {s : Shared} {h₀ : Heap} {L a b : Addr} {m : Str → Option Value} {news : List (Addr × Obj)} {vs ws : List Value} {n1 n2 : Nat} {Q : Value → Shared → Prop} (F : Fr h₀ L s.heap m) (N : News h₀ L s.heap news)
    (h1 : s.heap.get? a = some (listOf vs.toArray n1)) (h2 : s.heap.get? b = some (listOf ws.toArray n2)) (hz : vs.length + ws.length ≤ 16000)
    (h : ∀ D h', Fr h₀ L h' m → News h₀ L h' ((D, listOf (vs ++ ws).toArray 0) :: news) → (∀ p ∈ news, p.1 < D) → Q (.ref D) { s with heap := h' }) : wpAny (model prog w) A (binaryOp .Add (.ref a) (.ref b)) Q E s :=
  add_lists F N ⟨_, h1, rfl, n1, rfl⟩ ⟨_, h2, rfl, n2, rfl⟩ (fun h' F' N' => h _ h' F' N' fun p hp => Heap.lt_size (N p hp).1) (by rw [sizeLine_eq]; omega)
-- items of tracked lists; data read from the heap and compared
section
variable {prog : Program} {w : World} {A : Around} {E : Value → Shared → Prop} {s : Shared} {h₀ : Heap} {L D : Addr} {m : Str → Option Value} {nx led : List (Addr × Obj)} {lo : Obj} {value slice : Expr} {l : List Value} {n : Nat} {k : Int} {u : Tok} {x : Value} {Q : Value → Shared → Prop}
theorem list_t (F : Fr h₀ L s.heap m) (N : News h₀ L s.heap led) (e : Tk h₀ nx D lo) (hsub : ∀ p ∈ nx, p ∈ led) (hc : lo.cls = .type "list") (hd : lo.data = .seq l.toArray n) (h0 : 0 ≤ k) (hfit : k < 2 ^ 63) (hx : l[k.toNat]? = some x) (h : Q x s)
    (hs : subscripted slice false (.ref D) (.int k u) = operate [.ref D, .int k u] (getItem (.ref D) (.int k u))) (hg : ∀ r, letTemporaryGo value (.ref D) r = pure ()) :
    wpAny (model prog w) A (subscriptTail value slice (.ref D) (.int k u)) Q E s := item_listL ⟨lo, e.get F N hsub, hc, n, hd⟩ h0 hfit hx h hs hg
theorem back_t (F : Fr h₀ L s.heap m) (N : News h₀ L s.heap led) (e : Tk h₀ nx D lo) (hsub : ∀ p ∈ nx, p ∈ led) (hc : lo.cls = .type "list") (hd : lo.data = .seq l.toArray n) (h0 : k < 0) (h1 : -(l.length : Int) ≤ k) (hfit : -(2 ^ 63) ≤ k) (hx : l[(k + (l.length : Int)).toNat]? = some x) (h : Q x s)
    (hs : subscripted slice false (.ref D) (.int k u) = operate [.ref D, .int k u] (getItem (.ref D) (.int k u))) (hg : ∀ r, letTemporaryGo value (.ref D) r = pure ()) :
    wpAny (model prog w) A (subscriptTail value slice (.ref D) (.int k u)) Q E s := by
  have hl : s.heap.IsList D l.toArray := ⟨lo, e.get F N hsub, hc, n, hd⟩
  exact subscriptTail_builtin hl.typeIs slot_list_getitem.lookup (wpAny_getItem_list_neg hl h0 (by rw [List.size_toArray]; exact h1) hfit (by rw [List.size_toArray]; simpa using hx) h) hs hg
end
theorem at_of {α : Type} {l : List α} {k : Int} {i : Nat} {x : α} (h : l[i]? = some x) (e : k = (i : Int)) : l[k.toNat]? = some x := by
  have : k.toNat = i := by omega
  rw [this]; exact h
def Rd (h : Heap) (v : Value) (d : PyData) : Prop := ∃ as, Reads h v d as
theorem rdAll {h : Heap} {vs : List Value} {ds : List PyData} (hv : All2 (Rd h) vs ds) : ∃ as, ReadsAll h vs ds as := by
  induction hv with
  | nil => exact ⟨_, .nil⟩
  | cons a _ ih => obtain ⟨as, ra⟩ := a; obtain ⟨bs, rb⟩ := ih; exact ⟨_, .cons ra rb⟩
theorem Rd.int {h : Heap} {i : Int} {t : Tok} : Rd h (.int i t) (.int i) := ⟨_, .int i t⟩
theorem Rd.none {h : Heap} : Rd h .none .none := ⟨_, .none⟩
theorem Rd.bool {h : Heap} {b : Bool} : Rd h (.bool b) (.bool b) := ⟨_, .bool b⟩
theorem Rd.tuple {h : Heap} {D : Addr} {vs : List Value} {c : Nat} {ds : List PyData} (e : h.get? D = some { cls := .type "tuple", data := .seq vs.toArray c }) (hv : All2 (Rd h) vs ds) : Rd h (.ref D) (.tuple ds) :=
  let ⟨as, ra⟩ := rdAll hv; ⟨as, .tuple e rfl rfl (by simpa using ra)⟩
theorem Rd.list {h : Heap} {D : Addr} {vs : List Value} {c : Nat} {ds : List PyData} (e : h.get? D = some (listOf vs.toArray c)) (hv : All2 (Rd h) vs ds) : Rd h (.ref D) (.list ds) :=
  let ⟨as, ra⟩ := rdAll hv; ⟨D :: as, .list e rfl rfl (by simpa using ra)⟩
theorem Rd.keeps {h g : Heap} {v : Value} {d : PyData} (hk : ∀ b o, h.get? b = some o → g.get? b = some o) (x : Rd h v d) : Rd g v d := let ⟨as, r⟩ := x; ⟨as, PyProof.Rows.Reads.keeps hk r⟩
def ratP (r : Rat) : PyData := .tuple [.int r.num, .int (r.den : Int)]
def layP (l : Lay) : PyData := .tuple [ratP l.1, ratP l.2]
theorem RatO_rd {h : Heap} {D : Addr} {r : Rat} {t t' : Tok} {c : Nat} (e : h.get? D = some (RatO r t t' c)) : Rd h (.ref D) (ratP r) := Rd.tuple (vs := [_, _]) e (.cons .int (.cons .int .nil))
theorem T2_rd {h : Heap} {D : Addr} {x y : Int} {t t' : Tok} {c : Nat} (e : h.get? D = some (T2 x y t t' c)) : Rd h (.ref D) (.tuple [.int x, .int y]) := Rd.tuple (vs := [_, _]) e (.cons .int (.cons .int .nil))
section
variable {P : Addr → Obj → Prop} {h : Heap} {v : Value}
theorem RatN.rd {r : Rat} (hP : ∀ a o, P a o → h.get? a = some o) (x : RatN P v r) : Rd h v (ratP r) := by
  obtain ⟨D, t, t', c, rfl, k⟩ := x; exact RatO_rd (hP _ _ k)
theorem LayN.rd {l : Lay} (hP : ∀ a o, P a o → h.get? a = some o) (x : LayN P v l) : Rd h v (layP l) := by
  obtain ⟨D, v1, v2, c, rfl, k, a, b⟩ := x; exact Rd.tuple (vs := [v1, v2]) (hP _ _ k) (.cons (a.rd hP) (.cons (b.rd hP) .nil))
theorem All2.map_r {α β γ : Type} {R : α → β → Prop} {S : α → γ → Prop} {f : β → γ} {as : List α} {bs : List β} (hs : ∀ a b, R a b → S a (f b)) (x : All2 R as bs) : All2 S as (bs.map f) := by
  induction x with
  | nil => exact .nil
  | cons a _ ih => exact .cons (hs _ _ a) ih
theorem LaysN.rd {ls : List Lay} (hP : ∀ a o, P a o → h.get? a = some o) (x : LaysN P v ls) : Rd h v (.list (ls.map layP)) := by
  obtain ⟨l, vs, n, rfl, k, a⟩ := x; exact Rd.list (hP _ _ k) (a.map_r fun _ _ y => y.rd hP)
theorem RatsN.rd {rs : List Rat} (hP : ∀ a o, P a o → h.get? a = some o) (x : RatsN P v rs) : Rd h v (.list (rs.map ratP)) := by
  obtain ⟨l, vs, n, rfl, k, a⟩ := x; exact Rd.list (hP _ _ k) (a.map_r fun _ _ y => y.rd hP)
end
section
variable {prog : Program} {w : World} {A : Around} {E : Value → Shared → Prop} {s : Shared} {a b : Value} {d : PyData} {Q : Value → Shared → Prop}
theorem eq_rd (ra : Rd s.heap a d) (rb : Rd s.heap b d) (hs : SeqAt.shaped d = true) (hu : A.units + 64 < cLine) (h : Q (.bool true) s) : wpAny (model prog w) A (compareOp .Eq a b) Q E s := by
  obtain ⟨as, ra⟩ := ra; obtain ⟨bs, rb⟩ := rb
  exact eq_dataH ra rb hs hs hu (by rw [SeqAt.eqv_refl d (SeqAt.canLay_of_shaped hs)]; exact h)
theorem ne_rd (ra : Rd s.heap a d) (rb : Rd s.heap b d) (hs : SeqAt.shaped d = true) (hu : A.units + 64 < cLine) (h : Q (.bool false) s) : wpAny (model prog w) A (compareOp .NotEq a b) Q E s := by
  obtain ⟨as, ra⟩ := ra; obtain ⟨bs, rb⟩ := rb
  exact ne_dataH ra rb hs hs hu (by rw [SeqAt.eqv_refl d (SeqAt.canLay_of_shaped hs)]; exact h)
end
theorem rsize {a b : Int} {n : Nat} (h : b = a + (n : Int)) : Builtin.Range.rangeSize a b 1 = (n : Int) := by
  unfold Builtin.Range.rangeSize
  rw [if_pos (by decide)]
  split <;> omega
local macro_rules | `(tactic| walk_at "call ref") => `(tactic| (k_here; (with_reducible show wpAny _ _ (call (Value.ref 72) [Value.ref _, Value.ref _]) _ _ _); k_dflt (refine' minus_r ?k1 ?k2 ?k3 ?k4 ?k5 ?k6 ?m1 ?m2 ?k7 ?k8 ?b1 ?b2 ?hb ?_; (case k1 => k_asm); (case k2 => k_asm); (case k3 => k_asm); (case k4 => k_asm); (case k5 => k_asm); (case k6 => first | exact rfl | assumption); (case k7 => first | exact Nat.le_of_ble_eq_true rfl | ktr_room); (case k8 => first | exact Nat.le_of_ble_eq_true rfl | ktr_units); (case m1 => (walk_at "hat9")); (case m2 => (walk_at "hat9")); (case b1 => with_reducible assumption); (case b2 => with_reducible assumption); (case hb => first | assumption | omega | decide); k_whole); intro D' t' u' c' h' tk' bD' F' N' l1; (try (replace l1 := allNe_of l1; simp only [AllNe, and_true] at l1)); (try k_sweep)))
local macro_rules | `(tactic| walk_at "call ref") => `(tactic| (k_here; (with_reducible show wpAny _ _ (call (Value.ref 100) [Value.ref _, Value.ref _]) _ _ _); k_dflt (refine' least_c ?k1 ?k2 ?k3 ?k4 ?k5 ?k6 ?m1 ?m2 ?k7 ?k8 ?b1 ?b2 ?hb ?_ ?_; (case k1 => k_asm); (case k2 => k_asm); (case k3 => k_asm); (case k4 => k_asm); (case k5 => k_asm); (case k6 => first | exact rfl | assumption); (case k7 => first | exact Nat.le_of_ble_eq_true rfl | ktr_room); (case k8 => first | exact Nat.le_of_ble_eq_true rfl | ktr_units); (case m1 => (walk_at "hat9")); (case m2 => (walk_at "hat9")); (case b1 => with_reducible assumption); (case b2 => with_reducible assumption); (case hb => first | assumption | omega | decide); skip); (all_goals (intro hc' h' tk' F' N'; (try k_sweep)))))
local macro_rules | `(tactic| walk_at "subscriptTail") => `(tactic| (k_here; (with_reducible show wpAny _ _ (subscriptTail _ _ (Value.ref _) (Value.int _ _)) _ _ _); k_dflt (refine' tup_t ?k1 ?k0 ?k2 ?kS ?k3 ?k4 ?k5 ?k6 ?k7 ?k8 ?_ ?k9 ?k10; (case k1 => k_asm); (case k0 => k_asm); (case k2 => with_reducible assumption); (case kS => exact (by intro p9 hp9; first | exact hp9 | exact absurd hp9 List.not_mem_nil | (repeat (first | exact hp9 | refine List.mem_cons_of_mem _ ?_)))); (case k3 => exact rfl); (case k4 => exact rfl); (case k5 => decide); (case k6 => decide); (case k7 => exact rfl); (case k8 => exact rfl); (case k9 => with_unfolding_all rfl); (case k10 => (intro _; with_unfolding_all rfl)); k_whole)))
local macro_rules | `(tactic| walk_at "assign Tuple") => `(tactic| (k_here; (with_reducible show wpAny _ _ (assign (Expr.Tuple _ _ _) _ (Value.ref _)) _ _ _); k_dflt (refine' unpack_t ?F ?N ?k ?kS ?c ?d ?k1 ?k2 ?k3 ?_; (case F => k_asm); (case N => k_asm); (case k => with_reducible assumption); (case kS => exact (by intro p9 hp9; first | exact hp9 | exact absurd hp9 List.not_mem_nil | (repeat (first | exact hp9 | refine List.mem_cons_of_mem _ ?_)))); (case c => exact rfl); (case d => exact rfl); (case k1 => exact rfl); (case k2 => exact rfl); (case k3 => exact rfl)); intro h' F' N'; (try k_sweep)))
local macro_rules | `(tactic| k_all) => `(tactic| with_reducible assumption)
local macro_rules | `(tactic| size_fits) => `(tactic| ((simp only [List.size_toArray]); rw [sizeLine_eq]; omega))
theorem cut_c {w : World} {p : Program} {loose : List Str} {mean : ExcName → Option Value} {mg mb : Str → Option Value} {dp un : Nat} {gd : Option (List Code)} {cn : Str} {cs : Scope} {a : Addr} {ccd : Value} {cl : List (Str × Addr)} {outer : List Env} {A₀ : Around} {base h₀ : Heap} {L : Addr} {m : Str → Option Value} {news : List (Addr × Obj)} {s : Shared} {Q E : Value → Shared → Prop} {P : Addr → Obj → Prop} {l0 : Addr} {vs : List Value} {ls : List Lay} {n0 b bx : Nat} {Dx : Addr} {x : Rat} {tx tx' : Tok} {cx : Nat}
    (B : Below A₀ base outer h₀) (F : Fr h₀ L s.heap m) (X : (Mine.hd.heap_39 w.params).In h₀) (N : News h₀ L s.heap news) (T : Top p loose mean mg mb h₀) (hk : cs.kind = .function) (hP : ∀ a o, P a o → s.heap.get? a = some o) (el : P l0 (listOf vs.toArray n0)) (hv : All2 (LayN P) vs ls) (ex : P Dx (RatO x tx tx' cx)) (hb : ∀ l ∈ ls, Bd b l.1) (hbx : Bd bx x) (h1x : 1 ≤ bx) (hlen : 2 * (bx + ls.length * (b + 1)) + b + 2 ≤ 6643) (hll : ls.length ≤ 1000)
    (hd : dp + 8 < recursionLimit) (hu : un + 200 < cLine)
    (hret : ∀ (D : Addr) (c : Nat) (vo vr : Value) (tl : List (Addr × Obj)) (h' : Heap) (tk' : Nat), Fr h₀ L h' m → News h₀ L h' ((D, pairO vo vr c) :: (news ++ tl)) → (∀ p ∈ news, p.1 ≠ D) → (∀ q ∈ tl, q.1 ≠ D) → (∀ p ∈ news, ∀ q ∈ tl, p.1 ≠ q.1) → LaysN (PT P tl) vo (cutF ls x).out → LaysN (PT P tl) vr (cutF ls x).rest → Q (.ref D) { s with heap := h', toks := tk' }) :
    wpAny (model PySem.Challenge.rw_ui0509_09.row.prog w) (ktrTop dp un gd cn cs L a ccd cl outer) (call (.ref 194) [.ref l0, .ref Dx]) Q E s := by
  w_top off
  revert X; k_fill; intro X
  refine wpAny_call ?_
  k_dflt (refine' code_need [] ?k1 ?k2 ?k3 ?k4 ?k5 ?kA ?kF ?kK ?k6 ?k7 ?k8 ?k9 ?kB ?kN ?_ ?c2 ?c3 ?c4 ?c5; (case kA => exact rfl); (case kF => exact rfl); (case kK => assumption); (case k1 => k_asm); (case k2 => k_asm); (case k3 => k_asm); (case k4 => k_asm); (case k5 => k_asm); (case k6 => k_is); (case k7 => k_is); (case k8 => ktr_room); (case k9 => first | exact BindsTo.of_eq rfl | exact binds_K (by k_in) rfl (by k_is) rfl rfl rfl); (case c5 => decide); (case kB => exact locs rfl); (case kN => exact fun _ h => nomatch h); (case c2 => exact rfl); (case c3 => exact rfl); (case c4 => exact rfl); k_whole; intro g' L' h' tk0 FG' F' N' B' X' T' hG'; (try dsimp only); (try k_fold))
  have hT := ground_of hP hG'
  have el' : g'.get? l0 = some (listOf vs.toArray n0) := (hT [] _ _ (.inl el)).elim (fun h => nomatch h) id
  k_steps
  unfold Hold
  refine iter_baseTurns rfl (by k_asm) (by k_asm) el' rfl rfl (fun I lI => ?_)
  refine items_ind (fun i m nx => ∃ (d1 d2 : Addr) (vo vr : List Value) (no nr : Nat) (vl : Value) (tl : List (Addr × Obj)), nx = [(d2, listOf vr.toArray nr), (d1, listOf vo.toArray no)] ++ tl ∧ d1 ≠ d2 ∧ (∀ p ∈ tl, p.1 ≠ d1) ∧ (∀ p ∈ tl, p.1 ≠ d2) ∧
    m (Str.ofString "out") = some (.ref d1) ∧ m (Str.ofString "rest") = some (.ref d2) ∧ m (Str.ofString "left") = some vl ∧ All2 (LayN (PT P tl)) vo (cutF (ls.take i) x).out ∧ All2 (LayN (PT P tl)) vr (cutF (ls.take i) x).rest ∧ RatN (PT P tl) vl (cutF (ls.take i) x).left ∧
    Bd (bx + i * (b + 1)) (cutF (ls.take i) x).left ∧ vo.length ≤ i ∧ vr.length ≤ i) ?turn ?done _ 0 _ _ rfl (Nat.zero_le _) trivial (fun p hp => Nat.ne_of_lt (lI p hp)) ?init
  case init => exact ⟨_, _, [], [], 0, 0, _, [], rfl, neN (by omega), (fun _ h => nomatch h), (fun _ h => nomatch h), rfl, rfl, rfl, .nil, .nil, ⟨Dx, tx, tx', cx, rfl, .inl ex⟩, hbx.mono (by omega), Nat.le_refl _, Nat.le_refl _⟩
  case turn =>
    intro i a v m nx h tk o ha _ hI hJ hav Fm ho Nn
    obtain ⟨d1, d2, vo, vr, no, nr, vl, tl, rfl, n12, hd1, hd2, hm1, hm2, hm3, ho', hr', hl', hB, hlo, hlr⟩ := hJ
    obtain ⟨⟨sz, wm⟩, hl, D, v1, v2, c, rfl, eD, ⟨D1, t1, t1', c1, rfl, e1⟩, hw⟩ := hv.get (val_get ha hav)
    obtain ⟨Dl, tl1, tl2, cl, rfl, eL⟩ := hl'
    have eD' := hT tl _ _ (.inl eD)
    have e1' := hT tl _ _ (.inl e1)
    have eL' := hT tl _ _ eL
    have hil : i < ls.length := (List.getElem?_eq_some_iff.mp hl).1
    have bS := hb _ (List.mem_of_getElem? hl)
    dsimp only at e1' bS
    have hstep := cut_take (x := x) hl
    have hsz := mul_le_of_lt (b := b) hil
    simp only [List.cons_append, List.nil_append] at Nn hI
    have nI2 : d2 ≠ I := hI _ (List.mem_cons_self ..)
    have nI1 : d1 ≠ I := hI _ (List.mem_cons_of_mem _ (List.mem_cons_self ..))
    replace nI1 := neN nI1; replace nI2 := neN nI2; replace n12 := neN n12
    have htI : ∀ p ∈ tl, p.1 ≠ I := fun p hp => hI p (List.mem_cons_of_mem _ (List.mem_cons_of_mem _ hp))
    clear hI
    generalize hc : cutF (ls.take i) x = cc at *
    obtain ⟨co, cr, cl'⟩ := cc
    dsimp only at *
    k_steps
    all_goals (try (exfalso; exact absurd (by assumption) (Rat.lt_irrefl (a := sz))))
    · unfold Hold
      (rename News _ _ _ _ => NN)
      (try simp only [List.push_toArray] at NN)
      refine unr_mut2 (d1 := d2) (d2 := d1) (by k_asm) NN (by k_mem) (by k_mem) (by k_mem) nI2 nI1 ⟨trivial, ?_⟩
      try dsimp only
      have hlt : cl' < sz := by assumption
      have hps : 0 < cl' := num_pos.mp (by assumption)
      have z : cl' - cl' = 0 := by grind
      rw [hstep, show cutStep ⟨co, cr, cl'⟩ (sz, wm) = ⟨co ++ [(cl', wm)], cr ++ [(sz - cl', wm)], cl' - cl'⟩ from by simp [cutStep, hlt, hps]]
      have hs := sub_strip3 NN (by intro p9 hp9; first | exact hp9 | exact absurd hp9 List.not_mem_nil | (repeat (first | exact hp9 | refine List.mem_cons_of_mem _ ?_))) htI hd2 hd1
      have hsub := PT.mono (P := P) hs
      have hsub0 := PT.left (P := P) hs
      refine ⟨d1, d2, _, _, _, _, _, _, rfl, n12, fun p hp e => (strip_mem hp).2 (by rw [e]; simp), fun p hp e => (strip_mem hp).2 (by rw [e]; simp), by first | rfl | assumption, by first | rfl | assumption, rfl, (ho'.mono fun _ _ y => y.mono hsub).snoc (lay_new (Or.inr (mem_strip (by k_mem) (not_in3 (neN (by omega)) (neN (by omega)) (neN (by omega))))) ⟨Dl, tl1, tl2, cl, rfl, hsub _ _ eL⟩ (hw.mono hsub0)), (hr'.mono fun _ _ y => y.mono hsub).snoc (lay_new (Or.inr (mem_strip (by k_mem) (not_in3 (neN (by omega)) (neN (by omega)) (neN (by omega))))) (rat_new (Or.inr (mem_strip (by k_mem) (not_in3 (neN (by omega)) (neN (by omega)) (neN (by omega)))))) (hw.mono hsub0)), rat_new (Or.inr (mem_strip (by k_mem) (not_in3 (neN (by omega)) (neN (by omega)) (neN (by omega))))), by rw [z]; exact Bd.zero (by omega), by simp; omega, by simp; omega⟩
    · unfold Hold
      (rename News _ _ _ _ => NN)
      (try simp only [List.push_toArray] at NN)
      refine unr_mut2 (d1 := d2) (d2 := d1) (by k_asm) NN (by k_mem) (by k_mem) (by k_mem) nI2 nI1 ⟨trivial, ?_⟩
      try dsimp only
      have hlt : cl' < sz := by assumption
      have hps : ¬ 0 < cl' := fun h => absurd (num_pos.mpr h) (by assumption)
      rw [hstep, show cutStep ⟨co, cr, cl'⟩ (sz, wm) = ⟨co, cr ++ [(sz - cl', wm)], cl'⟩ from by simp [cutStep, hlt, hps]]
      have hs := sub_strip3 NN (by intro p9 hp9; first | exact hp9 | exact absurd hp9 List.not_mem_nil | (repeat (first | exact hp9 | refine List.mem_cons_of_mem _ ?_))) htI hd2 hd1
      have hsub := PT.mono (P := P) hs
      have hsub0 := PT.left (P := P) hs
      refine ⟨d1, d2, _, _, _, _, _, _, rfl, n12, fun p hp e => (strip_mem hp).2 (by rw [e]; simp), fun p hp e => (strip_mem hp).2 (by rw [e]; simp), by first | rfl | assumption, by first | rfl | assumption, by first | rfl | assumption, (ho'.mono fun _ _ y => y.mono hsub), (hr'.mono fun _ _ y => y.mono hsub).snoc (lay_new (Or.inr (mem_strip (by k_mem) (not_in3 (neN (by omega)) (neN (by omega)) (neN (by omega))))) (rat_new (Or.inr (mem_strip (by k_mem) (not_in3 (neN (by omega)) (neN (by omega)) (neN (by omega)))))) (hw.mono hsub0)), ⟨Dl, tl1, tl2, cl, rfl, hsub _ _ eL⟩, hB.mono (by rw [Nat.add_mul]; omega), by omega, by simp; omega⟩
    · unfold Hold
      (rename News _ _ _ _ => NN)
      (try simp only [List.push_toArray] at NN)
      refine unr_mut2 (d1 := d2) (d2 := d1) (by k_asm) NN (by k_mem) (by k_mem) (by k_mem) nI2 nI1 ⟨trivial, ?_⟩
      try dsimp only
      have hlt : ¬ cl' < sz := by assumption
      have hps : 0 < sz := num_pos.mp (by assumption)
      rw [hstep, show cutStep ⟨co, cr, cl'⟩ (sz, wm) = ⟨co ++ [(sz, wm)], cr, cl' - sz⟩ from by simp [cutStep, hlt, hps, Rat.lt_irrefl]]
      have hs := sub_strip3 NN (by intro p9 hp9; first | exact hp9 | exact absurd hp9 List.not_mem_nil | (repeat (first | exact hp9 | refine List.mem_cons_of_mem _ ?_))) htI hd2 hd1
      have hsub := PT.mono (P := P) hs
      have hsub0 := PT.left (P := P) hs
      refine ⟨d1, d2, _, _, _, _, _, _, rfl, n12, fun p hp e => (strip_mem hp).2 (by rw [e]; simp), fun p hp e => (strip_mem hp).2 (by rw [e]; simp), by first | rfl | assumption, by first | rfl | assumption, rfl, (ho'.mono fun _ _ y => y.mono hsub).snoc (lay_new (Or.inr (mem_strip (by k_mem) (not_in3 (neN (by omega)) (neN (by omega)) (neN (by omega))))) ⟨D1, t1, t1', c1, rfl, hsub0 _ _ e1⟩ (hw.mono hsub0)), (hr'.mono fun _ _ y => y.mono hsub), rat_new (Or.inr (mem_strip (by k_mem) (not_in3 (neN (by omega)) (neN (by omega)) (neN (by omega))))), Bd.mono (by assumption) (by rw [Nat.add_mul]; omega), by simp; omega, by omega⟩
    · unfold Hold
      (rename News _ _ _ _ => NN)
      (try simp only [List.push_toArray] at NN)
      refine unr_mut2 (d1 := d2) (d2 := d1) (by k_asm) NN (by k_mem) (by k_mem) (by k_mem) nI2 nI1 ⟨trivial, ?_⟩
      try dsimp only
      have hlt : ¬ cl' < sz := by assumption
      have hps : ¬ 0 < sz := fun h => absurd (num_pos.mpr h) (by assumption)
      rw [hstep, show cutStep ⟨co, cr, cl'⟩ (sz, wm) = ⟨co, cr, cl'⟩ from by simp [cutStep, hlt, hps, Rat.lt_irrefl]]
      have hs := sub_strip3 NN (by intro p9 hp9; first | exact hp9 | exact absurd hp9 List.not_mem_nil | (repeat (first | exact hp9 | refine List.mem_cons_of_mem _ ?_))) htI hd2 hd1
      have hsub := PT.mono (P := P) hs
      have hsub0 := PT.left (P := P) hs
      refine ⟨d1, d2, _, _, _, _, _, _, rfl, n12, fun p hp e => (strip_mem hp).2 (by rw [e]; simp), fun p hp e => (strip_mem hp).2 (by rw [e]; simp), by first | rfl | assumption, by first | rfl | assumption, by first | rfl | assumption, (ho'.mono fun _ _ y => y.mono hsub), (hr'.mono fun _ _ y => y.mono hsub), ⟨Dl, tl1, tl2, cl, rfl, hsub _ _ eL⟩, hB.mono (by rw [Nat.add_mul]; omega), by omega, by omega⟩
  case done =>
    intro m nx h tk hJ Fm Nn
    rw [List.length_map, hv.length, List.take_length] at hJ
    obtain ⟨d1, d2, vo, vr, no, nr, vl, tl, rfl, n12, hd1, hd2, hm1, hm2, hm3, ho', hr', hl', hB, hlo, hlr⟩ := hJ
    simp only [List.cons_append, List.nil_append] at Nn
    k_steps
    try dsimp only
    refine leaveN_ (by k_asm) (by k_asm) ?_; intro kF kN kR kD; (try dsimp only); exact hret _ _ (.ref d1) (.ref d2) ((d2, listOf vr.toArray nr) :: (d1, listOf vo.toArray no) :: tl) _ _ kF (news_app kN (news_all kR)) (ne_all kD (List.mem_cons_self ..))
      (List.forall_mem_cons.mpr ⟨neN (by omega), List.forall_mem_cons.mpr ⟨neN (by omega), allLt_mem (by assumption : _ ∧ _ ∧ AllLt _ tl).2.2⟩⟩)
      (fun p hp q hq => kD p (mem_rest0 hp) q (List.mem_cons_of_mem _ hq))
      ⟨d1, vo, no, rfl, .inr (List.mem_cons_of_mem _ (List.mem_cons_self ..)), ho'.mono fun _ _ y => y.mono (PT.mono fun p hp => List.mem_cons_of_mem _ (List.mem_cons_of_mem _ hp))⟩
      ⟨d2, vr, nr, rfl, .inr (List.mem_cons_self ..), hr'.mono fun _ _ y => y.mono (PT.mono fun p hp => List.mem_cons_of_mem _ (List.mem_cons_of_mem _ hp))⟩
theorem eq_Rne {prog : Program} {w : World} {A : Around} {E : Value → Shared → Prop} {s : Shared} {D1 D2 : Addr} {r1 r2 : Rat} {t1 t1' t2 t2' : Tok} {c1 c2 : Nat} {Q : Value → Shared → Prop}
    (e1 : s.heap.get? D1 = some (RatO r1 t1 t1' c1)) (e2 : s.heap.get? D2 = some (RatO r2 t2 t2' c2)) (hne : r1 ≠ r2) (hu : A.units + 64 < cLine) (h : Q (.bool false) s) : wpAny (model prog w) A (compareOp .Eq (.ref D1) (.ref D2)) Q E s := by
  refine eq_T2h e1 e2 hu ?_
  have : (r1.num == r2.num && (r1.den : Int) == (r2.den : Int)) = false := by
    cases hb : (r1.num == r2.num && (r1.den : Int) == (r2.den : Int)) with
    | false => rfl
    | true =>
      rw [Bool.and_eq_true] at hb
      exact absurd (Rat.ext (beq_iff_eq.mp hb.1) (by have := beq_iff_eq.mp hb.2; omega)) hne
  rw [this]
  exact h
theorem last_at {vs : List Value} {v : Value} : (vs ++ [v])[(-1 + ((vs ++ [v]).length : Int)).toNat]? = some v := by
  have : (-1 + ((vs ++ [v]).length : Int)).toNat = vs.length := by simp; omega
  rw [this]; simp
def Falls (ls : List Lay) : Prop := ∀ i a b, ls[i]? = some a → ls[i + 1]? = some b → b.2 < a.2
theorem take_snoc {α β : Type} {R : α → β → Prop} {vs : List α} {bs : List β} {i : Nat} {b : β} (h : All2 R vs (bs.take (i + 1))) (hb : bs[i]? = some b) : ∃ vs' v, vs = vs' ++ [v] ∧ All2 R vs' (bs.take i) ∧ R v b := by
  rw [List.take_add_one, hb] at h
  have hlen := h.length
  simp at hlen
  rcases List.eq_nil_or_concat vs with e | ⟨vs', v, e⟩
  · rw [e] at hlen; simp at hlen
  · rw [List.concat_eq_append] at e
    subst e
    refine ⟨vs', v, rfl, ?_⟩
    have h1 : ∀ (as : List α) (cs : List β), All2 R (as ++ [v]) (cs ++ [b]) → All2 R as cs ∧ R v b := by
      intro as
      induction as with
      | nil =>
        intro cs h
        cases cs with
        | nil => cases h with | cons h r => exact ⟨.nil, h⟩
        | cons c cs => cases h with | cons h r => have := r.length; simp at this
      | cons a as ih =>
        intro cs h
        cases cs with
        | nil => cases h with | cons h r => have := r.length; simp at this
        | cons c cs => cases h with | cons h r => obtain ⟨x, y⟩ := ih cs r; exact ⟨.cons h x, y⟩
    exact h1 _ _ h
local macro_rules | `(tactic| walk_at "subscriptTail") => `(tactic| (k_here; (with_reducible show wpAny _ _ (subscriptTail _ _ (Value.ref _) (Value.int _ _)) _ _ _); k_dflt (refine' kim_back ?k1 ?k2 ?k3 ?k4 ?k5 ?k6 ?k7 ?k8 ?_ ?k9 ?k10; (case k1 => k_asm); (case k2 => k_mem); (case k3 => exact rfl); (case k4 => exact rfl); (case k5 => decide); (case k6 => (simp only [List.length_append, List.length_cons, List.length_nil]; omega)); (case k7 => decide); (case k8 => exact last_at); (case k9 => with_unfolding_all rfl); (case k10 => (intro _; with_unfolding_all rfl)); k_whole)))
local macro_rules | `(tactic| walk_at "call builtin:len") => `(tactic| (k_here; (with_reducible show wpAny _ _ (call (Value.builtin "len") [Value.ref _]) _ _ _); k_dflt (refine' lst_len ?k1 ?k2 ?k3 ?_; (case k1 => k_asm); (case k2 => k_mem); (case k3 => ((try simp only [List.length_append, List.length_cons, List.length_nil]); omega)); k_whole); intro tk9; (try simp only [List.length_append, List.length_cons, List.length_nil])))
local macro_rules | `(tactic| walk_at "compareOp Eq ref ref") => `(tactic| (k_here; (with_reducible show wpAny _ _ (compareOp CmpOp.Eq (Value.ref _) (Value.ref _)) _ _ _); k_dflt (refine' eq_Rne ?k2 ?k3 ?k5 ?k4 ?_; (case k2 => (walk_at "hat9")); (case k3 => (walk_at "hat9")); (case k5 => with_reducible assumption); (case k4 => first | exact Nat.le_of_ble_eq_true rfl | ktr_units); k_whole)))
local macro_rules | `(tactic| size_fits) => `(tactic| ((simp only [List.size_toArray, List.length_append, List.length_cons, List.length_nil]); rw [sizeLine_eq]; omega))
theorem joined_c {w : World} {p : Program} {loose : List Str} {mean : ExcName → Option Value} {mg mb : Str → Option Value} {dp un : Nat} {gd : Option (List Code)} {cn : Str} {cs : Scope} {a : Addr} {ccd : Value} {cl : List (Str × Addr)} {outer : List Env} {A₀ : Around} {base h₀ : Heap} {L : Addr} {m : Str → Option Value} {news : List (Addr × Obj)} {s : Shared} {Q E : Value → Shared → Prop} {P : Addr → Obj → Prop} {l0 : Addr} {vs : List Value} {ls : List Lay} {n0 : Nat}
    (B : Below A₀ base outer h₀) (F : Fr h₀ L s.heap m) (X : (Mine.hd.heap_39 w.params).In h₀) (N : News h₀ L s.heap news) (T : Top p loose mean mg mb h₀) (hk : cs.kind = .function) (hP : ∀ a o, P a o → s.heap.get? a = some o) (el : P l0 (listOf vs.toArray n0)) (hv : All2 (LayN P) vs ls) (hf : Falls ls) (hll : ls.length ≤ 1000)
    (hd : dp + 8 < recursionLimit) (hu : un + 200 < cLine)
    (hret : ∀ (v : Value) (tl : List (Addr × Obj)) (h' : Heap) (tk' : Nat), Fr h₀ L h' m → News h₀ L h' (news ++ tl) → (∀ p ∈ news, ∀ q ∈ tl, p.1 ≠ q.1) → LaysN (PT P tl) v ls → Q v { s with heap := h', toks := tk' }) :
    wpAny (model PySem.Challenge.rw_ui0509_09.row.prog w) (ktrTop dp un gd cn cs L a ccd cl outer) (call (.ref 201) [.ref l0]) Q E s := by
  w_top off
  revert X; k_fill; intro X
  refine wpAny_call ?_
  k_dflt (refine' code_need [] ?k1 ?k2 ?k3 ?k4 ?k5 ?kA ?kF ?kK ?k6 ?k7 ?k8 ?k9 ?kB ?kN ?_ ?c2 ?c3 ?c4 ?c5; (case kA => exact rfl); (case kF => exact rfl); (case kK => assumption); (case k1 => k_asm); (case k2 => k_asm); (case k3 => k_asm); (case k4 => k_asm); (case k5 => k_asm); (case k6 => k_is); (case k7 => k_is); (case k8 => ktr_room); (case k9 => first | exact BindsTo.of_eq rfl | exact binds_K (by k_in) rfl (by k_is) rfl rfl rfl); (case c5 => decide); (case kB => exact locs rfl); (case kN => exact fun _ h => nomatch h); (case c2 => exact rfl); (case c3 => exact rfl); (case c4 => exact rfl); k_whole; intro g' L' h' tk0 FG' F' N' B' X' T' hG'; (try dsimp only); (try k_fold))
  have hT := ground_of hP hG'
  have el' : g'.get? l0 = some (listOf vs.toArray n0) := (hT [] _ _ (.inl el)).elim (fun h => nomatch h) id
  k_steps
  unfold Hold
  refine iter_baseTurns rfl (by k_asm) (by k_asm) el' rfl rfl (fun I lI => ?_)
  refine items_ind (fun i m nx => ∃ (d1 : Addr) (vo : List Value) (no : Nat) (tl : List (Addr × Obj)), nx = [(d1, listOf vo.toArray no)] ++ tl ∧ (∀ p ∈ tl, p.1 ≠ d1) ∧
    m (Str.ofString "out") = some (.ref d1) ∧ All2 (LayN (PT P tl)) vo (ls.take i)) ?turn ?done _ 0 _ _ rfl (Nat.zero_le _) trivial (fun p hp => Nat.ne_of_lt (lI p hp)) ?init
  case init => exact ⟨_, [], 0, [], rfl, (fun _ h => nomatch h), rfl, .nil⟩
  case turn =>
    intro i a v m nx h tk o ha _ hI hJ hav Fm ho Nn
    obtain ⟨d1, vo, no, tl, rfl, hd1, hm1, ho'⟩ := hJ
    obtain ⟨⟨sz, wm⟩, hl, D, v1, v2, c, rfl, eD, hs1, ⟨D2, t2, t2', c2, rfl, e2⟩⟩ := hv.get (val_get ha hav)
    have eD' := hT tl _ _ (.inl eD)
    have e2' := hT tl _ _ (.inl e2)
    have hil : i < ls.length := (List.getElem?_eq_some_iff.mp hl).1
    dsimp only at e2'
    simp only [List.cons_append, List.nil_append] at Nn hI
    have nI1 : d1 ≠ I := hI _ (List.mem_cons_self ..)
    replace nI1 := neN nI1
    have htI : ∀ p ∈ tl, p.1 ≠ I := fun p hp => hI p (List.mem_cons_of_mem _ hp)
    clear hI
    have hstep : ls.take (i + 1) = ls.take i ++ [(sz, wm)] := by rw [List.take_add_one, hl]; rfl
    rcases i with _ | i
    · have : vo = [] := by have := ho'.length; simpa using this
      subst this
      k_steps
      unfold Hold
      (rename News _ _ _ _ => NN)
      (try simp only [List.push_toArray] at NN)
      refine unr_mut1 (d1 := d1) (by k_asm) NN (by k_mem) (by k_mem) nI1 ⟨trivial, ?_⟩
      rw [hstep]
      have hs := sub_strip2 NN (by intro p9 hp9; first | exact hp9 | exact absurd hp9 List.not_mem_nil | (repeat (first | exact hp9 | refine List.mem_cons_of_mem _ ?_))) htI hd1
      have hsub := PT.mono (P := P) hs
      have hsub0 := PT.left (P := P) hs
      exact ⟨d1, _, _, _, rfl, fun p hp e => (strip_mem hp).2 (by rw [e]; simp), by first | rfl | assumption, (ho'.mono fun _ _ y => y.mono hsub).snoc (lay_new (Or.inr (mem_strip (by k_mem) (not_in2 (neN (by omega)) (neN (by omega))))) (hs1.mono hsub0) ⟨D2, t2, t2', c2, rfl, hsub0 _ _ e2⟩)⟩
    · obtain ⟨la, hla⟩ : ∃ la, ls[i]? = some la := ⟨ls[i]'(by omega), List.getElem?_eq_getElem (by omega)⟩
      obtain ⟨vo', vl, rfl, ho1, T1, u1, u2, c3, rfl, eT, hu1, ⟨Dw, tw, tw', cw, rfl, ew⟩⟩ := take_snoc ho' hla
      have hlen := ho1.length
      rw [List.length_take] at hlen
      have eT' := hT tl _ _ eT
      have ew' := hT tl _ _ ew
      have hne : la.2 ≠ wm := fun e => by have h9 := hf i la (sz, wm) hla hl; rw [e] at h9; exact absurd h9 Rat.lt_irrefl
      k_steps
      unfold Hold
      (rename News _ _ _ _ => NN)
      (try simp only [List.push_toArray] at NN)
      refine unr_mut1 (d1 := d1) (by k_asm) NN (by k_mem) (by k_mem) nI1 ⟨trivial, ?_⟩
      rw [hstep]
      have hs := sub_strip2 NN (by intro p9 hp9; first | exact hp9 | exact absurd hp9 List.not_mem_nil | (repeat (first | exact hp9 | refine List.mem_cons_of_mem _ ?_))) htI hd1
      have hsub := PT.mono (P := P) hs
      have hsub0 := PT.left (P := P) hs
      exact ⟨d1, _, _, _, rfl, fun p hp e => (strip_mem hp).2 (by rw [e]; simp), by first | rfl | assumption, (ho'.mono fun _ _ y => y.mono hsub).snoc (lay_new (Or.inr (mem_strip (by k_mem) (not_in2 (neN (by omega)) (neN (by omega))))) (hs1.mono hsub0) ⟨D2, t2, t2', c2, rfl, hsub0 _ _ e2⟩)⟩
  case done =>
    intro m nx h tk hJ Fm Nn
    rw [List.length_map, hv.length, List.take_length] at hJ
    obtain ⟨d1, vo, no, tl, rfl, hd1, hm1, ho'⟩ := hJ
    simp only [List.cons_append, List.nil_append] at Nn
    k_steps
    try dsimp only
    refine leaveN_ (by k_asm) (by k_asm) ?_; intro kF kN kR kD; (try dsimp only); exact hret (.ref d1) ((d1, listOf vo.toArray no) :: tl) _ _ kF (news_app2 kN (news_all kR)) (fun p hp q hq => kD p (mem_rest0 hp) q hq)
      ⟨d1, vo, no, rfl, .inr (List.mem_cons_self ..), ho'.mono fun _ _ y => y.mono (PT.mono fun p hp => List.mem_cons_of_mem _ hp)⟩
theorem back2_at {vs : List Value} {u v : Value} : (vs ++ [u] ++ [v])[(-2 + ((vs ++ [u] ++ [v]).length : Int)).toNat]? = some u := by
  have : (-2 + ((vs ++ [u] ++ [v]).length : Int)).toNat = vs.length := by simp; omega
  rw [this]; simp
local macro_rules | `(tactic| walk_at "subscriptTail") => `(tactic| (k_here; (with_reducible show wpAny _ _ (subscriptTail _ _ (Value.ref _) (Value.int _ _)) _ _ _); k_dflt (refine' kim_back ?k1 ?k2 ?k3 ?k4 ?k5 ?k6 ?k7 ?k8 ?_ ?k9 ?k10; (case k1 => k_asm); (case k2 => k_mem); (case k3 => exact rfl); (case k4 => exact rfl); (case k5 => decide); (case k6 => (simp only [List.length_append, List.length_cons, List.length_nil]; omega)); (case k7 => decide); (case k8 => exact back2_at); (case k9 => with_unfolding_all rfl); (case k10 => (intro _; with_unfolding_all rfl)); k_whole)))
theorem settle_c {w : World} {p : Program} {loose : List Str} {mean : ExcName → Option Value} {mg mb : Str → Option Value} {dp un : Nat} {gd : Option (List Code)} {cn : Str} {cs : Scope} {a : Addr} {ccd : Value} {cl : List (Str × Addr)} {outer : List Env} {A₀ : Around} {base h₀ : Heap} {L : Addr} {m : Str → Option Value} {news : List (Addr × Obj)} {s : Shared} {Q E : Value → Shared → Prop} {P : Addr → Obj → Prop} {l0 : Addr} {vs : List Value} {ls : List Lay} {n0 b : Nat}
    (B : Below A₀ base outer h₀) (F : Fr h₀ L s.heap m) (X : (Mine.hd.heap_39 w.params).In h₀) (N : News h₀ L s.heap news) (T : Top p loose mean mg mb h₀) (hk : cs.kind = .function) (hP : ∀ a o, P a o → s.heap.get? a = some o) (el : P l0 (listOf vs.toArray n0)) (hv : All2 (LayN P) vs ls) (hf : Falls ls) (hll : ls.length ≤ 1000) (hb : ∀ l ∈ ls, Bd b l.2) (hbb : b + b ≤ 100000)
    (hd : dp + 12 < recursionLimit) (hu : un + 400 < cLine)
    (hret : ∀ (v : Value) (tl : List (Addr × Obj)) (h' : Heap) (tk' : Nat), Fr h₀ L h' m → News h₀ L h' (news ++ tl) → (∀ p ∈ news, ∀ q ∈ tl, p.1 ≠ q.1) → LaysN (PT P tl) v ls → Q v { s with heap := h', toks := tk' }) :
    wpAny (model PySem.Challenge.rw_ui0509_09.row.prog w) (ktrTop dp un gd cn cs L a ccd cl outer) (call (.ref 208) [.ref l0]) Q E s := by
  w_top off
  revert X; k_fill; intro X
  refine wpAny_call ?_
  k_dflt (refine' code_need [] ?k1 ?k2 ?k3 ?k4 ?k5 ?kA ?kF ?kK ?k6 ?k7 ?k8 ?k9 ?kB ?kN ?_ ?c2 ?c3 ?c4 ?c5; (case kA => exact rfl); (case kF => exact rfl); (case kK => assumption); (case k1 => k_asm); (case k2 => k_asm); (case k3 => k_asm); (case k4 => k_asm); (case k5 => k_asm); (case k6 => k_is); (case k7 => k_is); (case k8 => ktr_room); (case k9 => first | exact BindsTo.of_eq rfl | exact binds_K (by k_in) rfl (by k_is) rfl rfl rfl); (case c5 => decide); (case kB => exact locs rfl); (case kN => exact fun _ h => nomatch h); (case c2 => exact rfl); (case c3 => exact rfl); (case c4 => exact rfl); k_whole; intro g' L' h' tk0 FG' F' N' B' X' T' hG'; (try dsimp only); (try k_fold))
  have hT := ground_of hP hG'
  have el' : g'.get? l0 = some (listOf vs.toArray n0) := (hT [] _ _ (.inl el)).elim (fun h => nomatch h) id
  k_steps
  unfold Hold
  refine iter_baseTurns rfl (by k_asm) (by k_asm) el' rfl rfl (fun I lI => ?_)
  refine items_ind (fun i m nx => ∃ (d1 : Addr) (no : Nat), nx = [(d1, listOf (vs.take i).toArray no)] ∧ m (Str.ofString "out") = some (.ref d1)) ?turn ?done _ 0 _ _ rfl (Nat.zero_le _) trivial (fun p hp => Nat.ne_of_lt (lI p hp)) ?init
  case init => exact ⟨_, 0, rfl, rfl⟩
  case turn =>
    intro i a v m nx h tk o ha _ hI hJ hav Fm ho Nn
    obtain ⟨d1, no, rfl, hm1⟩ := hJ
    have hvi := val_get ha hav
    have hstep : vs.take (i + 1) = vs.take i ++ [v] := by rw [List.take_add_one, hvi]; rfl
    obtain ⟨⟨sz, wm⟩, hl, D, v1, v2, c, rfl, eD, hs1, ⟨D2, t2, t2', c2, rfl, e2⟩⟩ := hv.get hvi
    have eD' := hT [] _ _ (.inl eD)
    have e2' := hT [] _ _ (.inl e2)
    have hil : i < ls.length := (List.getElem?_eq_some_iff.mp hl).1
    have bW := hb _ (List.mem_of_getElem? hl)
    dsimp only at e2' bW
    have nI1 : d1 ≠ I := hI _ (List.mem_cons_self ..)
    replace nI1 := neN nI1
    clear hI
    rcases i with _ | i
    · rw [List.take_zero] at Nn hstep
      k_steps
      unfold Hold
      (rename News _ _ _ _ => NN)
      (try simp only [List.push_toArray] at NN)
      exact unr_end [(d1, _)] (by k_asm) NN (by k_mem) (one_of (by k_mem)) (one_of nI1) ⟨trivial, d1, _, by rw [hstep], by first | rfl | assumption⟩
    · obtain ⟨la, hla⟩ : ∃ la, ls[i]? = some la := ⟨ls[i]'(by omega), List.getElem?_eq_getElem (by omega)⟩
      obtain ⟨vp, hvp, T1, u1, u2, c3, rfl, eT, hu1, ⟨Dw, tw, tw', cw, rfl, ew⟩⟩ := hv.at hla
      have hst2 : vs.take (i + 1) = vs.take i ++ [Value.ref T1] := by rw [List.take_add_one, hvp]; rfl
      rw [hst2] at Nn hstep
      have hlen : (vs.take i).length = i := by rw [List.length_take, hv.length]; omega
      have eT' := hT [] _ _ (.inl eT)
      have ew' := hT [] _ _ (.inl ew)
      have bA := hb _ (List.mem_of_getElem? hla)
      have hlt := hf i la (sz, wm) hla hl
      dsimp only at hlt
      have hnl : ¬ la.2 < wm := fun h => by grind
      k_steps
      unfold Hold
      (rename News _ _ _ _ => NN)
      (try simp only [List.push_toArray] at NN)
      exact unr_end [(d1, _)] (by k_asm) NN (by k_mem) (one_of (by k_mem)) (one_of nI1) ⟨trivial, d1, _, by rw [hstep], by first | rfl | assumption⟩
  case done =>
    intro m nx h tk hJ Fm Nn
    rw [List.length_map, List.take_length] at hJ
    obtain ⟨d1, no, rfl, hm1⟩ := hJ
    have hvg : All2 (LayN (PT P [(d1, listOf vs.toArray no)])) vs ls := hv.mono fun _ _ y => y.mono fun _ _ e => .inl e
    k_steps
    k_dflt (refine' joined_c (P := PT P [(d1, listOf vs.toArray no)]) ?k1 ?k2 ?k3 ?k4 ?k5 ?k6 ?hP ?el ?hv ?hf ?hl ?k7 ?k8 ?_)
    case k1 => k_asm
    case k2 => k_asm
    case k3 => k_asm
    case k4 => k_asm
    case k5 => k_asm
    case k6 => rfl
    case hP => exact fun a o e => (hT _ a o e).get Fm Nn fun _ h => h
    case el => exact .inr (List.mem_cons_self ..)
    case hv => exact hvg
    case hf => exact hf
    case hl => exact hll
    case k7 => ktr_room
    case k8 => ktr_units
    intro v9 tl9 h9 tk9 F9 N9 l9 L9
    simp only [List.cons_append, List.nil_append] at N9
    k_steps
    try dsimp only
    refine leaveN_ (by k_asm) (by k_asm) ?_; intro kF kN kR kD; (try dsimp only); exact hret v9 ((d1, listOf vs.toArray no) :: tl9) _ _ kF (news_app2 kN (news_all kR)) (fun p hp q hq => kD p (mem_rest0 hp) q hq)
      (L9.mono fun a o e => e.elim (fun e => e.imp id fun h => by rw [List.mem_singleton.mp h]; exact List.mem_cons_self ..) fun h => .inr (List.mem_cons_of_mem _ h))
-- a list comprehension by an invariant (over LCg.CompRest of KE.LcTurns)
section
variable {prog : Program} {w : World} {A : Around} {s : Shared} {h₀ : Heap} {L : Addr} {m : Str → Option Value} {env : Env}
theorem comp_ind {elt : Expr} {x : Str} {scope : Scope} {cl : List (Str × Addr)} {S : List (Addr × Obj) → Prop} {Pv : Nat → Value → Prop} {Fin : List Value → List (Addr × Obj) → Prop} {n : Nat} (J : Nat → List Value → List (Addr × Obj) → Prop)
    (turn : ∀ i v I oI C oC D m₂ h tk (E' : Value → Shared → Prop) ys news, i < n → J i ys news → Pv i v → LCg.NsObj oC m₂ → m₂ x = some v → Fr h₀ L h m → News h₀ L h ((I, oI) :: (C, oC) :: (D, LCg.lst ys) :: news) → LCg.Off3 I C D news → ((@Ne Nat I C) ∧ (@Ne Nat I D) ∧ (@Ne Nat C D)) →
      wpAny (model prog w) A (eval elt (compEnvC scope cl C env)) (LCg.CompEnd h₀ L m { s with heap := h, toks := tk } I oI C oC D (LCg.lst ys) S (fun y news' => J (i + 1) (ys ++ [y]) news')) E' { s with heap := h, toks := tk })
    (fin : ∀ ys news, J n ys news → Fin ys news) :
    ∀ k i ys news, i + k = n → J i ys news → LCg.CompRest prog w A h₀ L m env elt x scope cl s S Pv Fin k i ys news := by
  intro k
  induction k with
  | zero =>
    intro i ys news hk hJ
    have : i = n := by omega
    subst this
    exact LCg.CompRest.zero (fin ys news hJ)
  | succ k ih =>
    intro i ys news hk hJ
    refine LCg.CompRest.succ fun v I oI C oC D m₂ h tk E' hP hC hx F N off ne => ?_
    refine wpAny_mono (turn i v I oI C oC D m₂ h tk E' ys news (by omega) hJ hP hC hx F N off ne) (fun y s₂ h₂ => ?_) fun _ _ e => e
    obtain ⟨h', tk', news', e, F', N', off', hS, r⟩ := h₂
    exact ⟨h', tk', news', e, F', N', off', hS, ih (i + 1) (ys ++ [y]) news' (by omega) r⟩
theorem comp_end {I C D : Addr} {s₁ : Shared} {oI oC oD : Obj} {S : List (Addr × Obj) → Prop} {rest : Value → List (Addr × Obj) → Prop} {y : Value} {h' : Heap} {tk : Nat} {all : List (Addr × Obj)}
    (F : Fr h₀ L h' m) (N : News h₀ L h' all) (news' : List (Addr × Obj)) (sub : ∀ p ∈ (I, oI) :: (C, oC) :: (D, oD) :: news', p ∈ all) (off : LCg.Off3 I C D news') (hS : S news') (r : rest y news') :
    LCg.CompEnd h₀ L m s₁ I oI C oC D oD S rest y { s₁ with heap := h', toks := tk } := LCg.CompEnd.intro F N news' sub off hS r
end
theorem inst_b {h₀ h : Heap} {L x C dx : Addr} {m : Str → Option Value} {od : Obj} (F : Fr h₀ L h m) (h1 : h₀.get? x = some (instObj C dx)) (h2 : h₀.get? dx = some od) : InstAt h x (instObj C dx) C (some od) := ⟨F.keep _ _ h1, rfl, rfl, F.keep _ _ h2⟩
abbrev tankD (P : Params) (k1 : Tok) (ls : Value) : Obj := dictOf [⟨PyData.keyHash P (Str.ofString "layers"), .str (Str.ofString "layers") k1, ls⟩] 1
theorem map_take_snoc {α β : Type} {f : α → β} {ls : List α} {i : Nat} {l : α} (h : ls[i]? = some l) : (ls.map f).take (i + 1) = (ls.map f).take i ++ [f l] := by
  rw [List.take_add_one, List.getElem?_map, h]; rfl
theorem RatN.heap {P : Addr → Obj → Prop} {v : Value} {r : Rat} {h : Heap} (hP : ∀ a o, P a o → h.get? a = some o) (x : RatN P v r) : RatH h v r := let ⟨D, t, t', c, e, k⟩ := x; ⟨D, t, t', c, e, hP _ _ k⟩
local macro_rules | `(tactic| walk_at "eval ListComp") => `(tactic| (k_here; lcg_look; k_dflt (refine LCg.ListComp_U (F₀ := by k_asm) (by rfl) (by decide) (by rfl) (by decide) (by rfl) ?_); k_dflt lcg_toSrc))
local macro_rules | `(tactic| walk_at "eval ListComp") => `(tactic| (k_here; lcf_look; k_dflt (refine LCg.ListComp_U (F₀ := by k_asm) (by with_unfolding_all rfl) (by decide) (by rfl) (by decide) (by rfl) ?_); k_dflt lcg_toSrc))
local macro_rules | `(tactic| walk_at "exec Assign cons ListComp") => `(tactic| (k_here; lcg_look; k_dflt (refine LCg.Assign_ListComp_U (F₀ := by k_asm) (by rfl) (by with_unfolding_all rfl) (by rfl) (by decide) (by rfl) (by decide) (by rfl) (by rfl) (by rfl) ?_); k_dflt lcg_toSrc))
local macro_rules | `(tactic| walk_at "exec Assign cons ListComp") => `(tactic| (k_here; lcf_look; k_dflt (refine LCg.Assign_ListComp_U (F₀ := by k_asm) (by rfl) (by with_unfolding_all rfl) (by with_unfolding_all rfl) (by decide) (by rfl) (by decide) (by rfl) (by rfl) (by rfl) ?_); k_dflt lcg_toSrc))
local macro_rules | `(tactic| walk_at "CompSrc") => `(tactic| (refine Hold.out ?_))
local macro_rules | `(tactic| walk_at "CompEnd") => `(tactic| (show LCg.CompEnd _ _ _ _ _ _ _ _ _ _ _ _ _ _; refine Hold.out ?_))
local macro_rules | `(tactic| walk_at "getAttr ref") => `(tactic| (k_here; k_dflt (refine' get_own ?k1 ?k2 ?k3 ?k4 ?k5 ?k6 ?k7 ?k8 ?k9 ?_; (case k1 => k_asm); (case k2 => k_asm); (case k3 => exact inst_b (by k_asm) (by with_reducible assumption) (by with_reducible assumption)); (case k4 => k_is); (case k5 => k_is); (case k6 => k_is); (case k7 => k_is); (case k8 => k_get); (case k9 => k_handed); k_whole)))
theorem litres_c {w : World} {p : Program} {loose : List Str} {mean : ExcName → Option Value} {mg mb : Str → Option Value} {dp un : Nat} {gd : Option (List Code)} {cn : Str} {cs : Scope} {a : Addr} {ccd : Value} {cl : List (Str × Addr)} {outer : List Env} {A₀ : Around} {base h₀ : Heap} {L : Addr} {m : Str → Option Value} {news : List (Addr × Obj)} {s : Shared} {Q E : Value → Shared → Prop} {P : Addr → Obj → Prop} {x d l0 : Addr} {k1 : Tok} {vs : List Value} {ls : List Lay} {n0 b : Nat}
    (B : Below A₀ base outer h₀) (F : Fr h₀ L s.heap m) (X : (Mine.hd.heap_39 w.params).In h₀) (N : News h₀ L s.heap news) (T : Top p loose mean mg mb h₀) (hk : cs.kind = .function) (hgx : s.heap.get? x = some (instObj 183 d)) (hgd : s.heap.get? d = some (tankD w.params k1 (.ref l0))) (hP : ∀ a o, P a o → s.heap.get? a = some o) (el : P l0 (listOf vs.toArray n0)) (hv : All2 (LayN P) vs ls) (hne : ls ≠ []) (hb : ∀ l ∈ ls, Bd b l.1) (hlen : ls.length * (b + 1) + 1 ≤ 6643)
    (hd : dp + 12 < recursionLimit) (hu : un + 400 < cLine)
    (hret : ∀ (D : Addr) (t t' : Tok) (c : Nat) (h' : Heap) (tk' : Nat), Bd (ls.length * (b + 1) + 1) (tot (ls.map (·.1))) → Fr h₀ L h' m → News h₀ L h' ((D, RatO (tot (ls.map (·.1))) t t' c) :: news) → (∀ p ∈ news, p.1 ≠ D) → Q (.ref D) { s with heap := h', toks := tk' }) :
    wpAny (model PySem.Challenge.rw_ui0509_09.row.prog w) (ktrTop dp un gd cn cs L a ccd cl outer) (call (.ref 138) [.ref x]) Q E s := by
  w_top off
  revert X; k_fill; intro X
  refine wpAny_call ?_
  k_dflt (refine' code_need [] ?k1 ?k2 ?k3 ?k4 ?k5 ?kA ?kF ?kK ?k6 ?k7 ?k8 ?k9 ?kB ?kN ?_ ?c2 ?c3 ?c4 ?c5; (case kA => exact rfl); (case kF => exact rfl); (case kK => assumption); (case k1 => k_asm); (case k2 => k_asm); (case k3 => k_asm); (case k4 => k_asm); (case k5 => k_asm); (case k6 => k_is); (case k7 => k_is); (case k8 => ktr_room); (case k9 => first | exact BindsTo.of_eq rfl | exact binds_K (by k_in) rfl (by k_is) rfl rfl rfl); (case c5 => decide); (case kB => exact locs rfl); (case kN => exact fun _ h => nomatch h); (case c2 => exact rfl); (case c3 => exact rfl); (case c4 => exact rfl); k_whole; intro g' L' h' tk0 FG' F' N' B' X' T' hG'; (try dsimp only); (try k_fold))
  have hT := ground_of hP hG'
  have el' : g'.get? l0 = some (listOf vs.toArray n0) := (hT [] _ _ (.inl el)).elim (fun h => nomatch h) id
  replace hgx := hG' _ _ hgx (by simp)
  replace hgd := hG' _ _ hgd (by simp)
  k_steps
  unfold Hold
  refine LCg.CompSrc.base rfl (by k_asm) (by k_asm) ⟨_, el', rfl, n0, rfl⟩ (by rw [List.size_toArray, hv.length, sizeLine_eq]; have := Nat.le_mul_of_pos_right ls.length (show 0 < b + 1 by omega); omega) (fun g9 => ?_)
  refine comp_ind (fun i ys nx => nx = [] ∧ All2 (RatN P) ys ((ls.map (·.1)).take i)) ?turn ?fin _ 0 [] _ (Nat.zero_add _) ⟨rfl, .nil⟩
  case turn =>
    intro i v I oI C oC D9 m2 h tk E' ys nx hi hJ hPv hC hx Fm Nn off ne
    obtain ⟨rfl, hys⟩ := hJ
    have hvi : vs[i]? = some v := by simpa using hPv
    obtain ⟨⟨sz, wm⟩, hl, D, v1, v2, c, rfl, eD, hs1, hw1⟩ := hv.get hvi
    have eD' := hT [] _ _ (.inl eD)
    have hstep := map_take_snoc (f := fun l : Lay => l.1) hl
    k_steps
    unfold Hold
    exact comp_end (by k_asm) (by k_asm) [] (by exact fun _ h => h) trivial (.inl ⟨_, el', rfl, n0, rfl⟩) ⟨rfl, by rw [hstep]; exact hys.snoc hs1⟩
  case fin =>
    intro ys nx hJ D h tk Fm Nn off
    obtain ⟨rfl, hys⟩ := hJ
    rw [List.size_toArray, hv.length, ← List.length_map (f := fun l : Lay => l.1), List.take_length] at hys
    k_steps
    k_dflt (refine' total_c (rs := ls.map (·.1)) (b := b) ?k1 ?k2 ?k3 ?k4 ?k5 ?k6 ?el ?hv ?hne ?hb ?hlen ?k7 ?k8 ?_)
    case k1 => k_asm
    case k2 => k_asm
    case k3 => k_asm
    case k4 => k_asm
    case k5 => k_asm
    case k6 => first | exact rfl | assumption
    case k7 => ktr_room
    case k8 => ktr_units
    case el => exact News.get Nn (List.mem_cons_self ..)
    case hv => exact hys.mono fun v r y => y.heap fun a o e => (hT [] a o (.inl e)).get Fm Nn fun _ h => nomatch h
    case hne => simpa using hne
    case hb => exact fun r hr => by obtain ⟨l, hl, e⟩ := List.mem_map.mp hr; rw [← e]; exact hb l hl
    case hlen => rw [List.length_map]; exact hlen

    intro D5 t5 u5 c5 h5 tk5 b5 F5 N5 l5
    k_steps
    try dsimp only
    refine leaveN_ (by k_asm) (by k_asm) ?_; intro kF kN kR kD; (try dsimp only); exact hret _ _ _ _ _ _ (by rw [List.length_map] at b5; exact b5) kF (news_cons kN (by k_mem) (news_all kR)) (ne_all kD (List.mem_cons_self ..))
local macro_rules | `(tactic| walk_at "call ref") => `(tactic| (k_here; (with_reducible show wpAny _ _ (call (Value.ref 58) [Value.ref _, Value.ref 35]) _ _ _); k_dflt (refine' need_rn (r2 := 0) (k := 1) ?k1 ?k2 ?k3 ?k4 ?k5 ?k6 ?m1 ?m2 ?k7 ?k8 ?b1 ?b2 ?hb ?hb2 ?hl ?_; (case k1 => k_asm); (case k2 => k_asm); (case k3 => k_asm); (case k4 => k_asm); (case k5 => k_asm); (case k6 => first | exact rfl | assumption); (case k7 => first | exact Nat.le_of_ble_eq_true rfl | ktr_room); (case k8 => first | exact Nat.le_of_ble_eq_true rfl | ktr_units); (case m1 => (walk_at "hat9")); (case m2 => exact Frag.In.keeps (by k_asm) (Fr.keep (by k_asm)) _ _ (by k_is)); (case b1 => with_reducible assumption); (case b2 => exact Bd.zero (by decide)); (case hb => first | assumption | omega | decide); (case hb2 => decide); (case hl => first | assumption | grind); k_whole); intro h' tk' F' N'; (try k_sweep)))
local macro_rules | `(tactic| walk_at "getMethod ref") => `(tactic| (k_here; k_dflt (refine' method_inst ?k1 ?k2 ?k3 ?k4 ?k5 ?k6 ?k7 ?_; (case k1 => k_asm); (case k2 => k_asm); (case k3 => exact inst_b (by k_asm) (by with_reducible assumption) (by with_reducible assumption)); (case k4 => k_is); (case k5 => k_is); (case k6 => k_is); (case k7 => k_get); k_whole)))
theorem tneed_c {w : World} {p : Program} {loose : List Str} {mean : ExcName → Option Value} {mg mb : Str → Option Value} {dp un : Nat} {gd : Option (List Code)} {cn : Str} {cs : Scope} {a : Addr} {ccd : Value} {cl : List (Str × Addr)} {outer : List Env} {A₀ : Around} {base h₀ : Heap} {L : Addr} {m : Str → Option Value} {news : List (Addr × Obj)} {s : Shared} {Q E : Value → Shared → Prop} {P : Addr → Obj → Prop} {x d l0 : Addr} {k1 : Tok} {vs : List Value} {ls : List Lay} {n0 b bx : Nat} {Dx : Addr} {rx : Rat} {tx tx' : Tok} {cx : Nat}
    (B : Below A₀ base outer h₀) (F : Fr h₀ L s.heap m) (X : (Mine.hd.heap_39 w.params).In h₀) (N : News h₀ L s.heap news) (T : Top p loose mean mg mb h₀) (hk : cs.kind = .function) (hgx : s.heap.get? x = some (instObj 183 d)) (hgd : s.heap.get? d = some (tankD w.params k1 (.ref l0))) (hP : ∀ a o, P a o → s.heap.get? a = some o) (el : P l0 (listOf vs.toArray n0)) (hv : All2 (LayN P) vs ls) (hne : ls ≠ []) (hb : ∀ l ∈ ls, Bd b l.1) (hlen : ls.length * (b + 1) + 1 ≤ 6643)
    (ex : s.heap.get? Dx = some (RatO rx tx tx' cx)) (hbx : Bd bx rx) (hbx2 : bx ≤ 6643) (hx0 : 0 ≤ rx) (hx1 : rx ≤ tot (ls.map (·.1)))
    (hd : dp + 16 < recursionLimit) (hu : un + 600 < cLine)
    (hret : ∀ (h' : Heap) (tk' : Nat), Fr h₀ L h' m → News h₀ L h' news → Q .none { s with heap := h', toks := tk' }) :
    wpAny (model PySem.Challenge.rw_ui0509_09.row.prog w) (ktrTop dp un gd cn cs L a ccd cl outer) (call (.ref 180) [.ref x, .ref Dx]) Q E s := by
  w_top off
  revert X; k_fill; intro X
  refine wpAny_call ?_
  k_dflt (refine' code_need [] ?k1 ?k2 ?k3 ?k4 ?k5 ?kA ?kF ?kK ?k6 ?k7 ?k8 ?k9 ?kB ?kN ?_ ?c2 ?c3 ?c4 ?c5; (case kA => exact rfl); (case kF => exact rfl); (case kK => assumption); (case k1 => k_asm); (case k2 => k_asm); (case k3 => k_asm); (case k4 => k_asm); (case k5 => k_asm); (case k6 => k_is); (case k7 => k_is); (case k8 => ktr_room); (case k9 => first | exact BindsTo.of_eq rfl | exact binds_K (by k_in) rfl (by k_is) rfl rfl rfl); (case c5 => decide); (case kB => exact locs rfl); (case kN => exact fun _ h => nomatch h); (case c2 => exact rfl); (case c3 => exact rfl); (case c4 => exact rfl); k_whole; intro g' L' h' tk0 FG' F' N' B' X' T' hG'; (try dsimp only); (try k_fold))
  have hT := ground_of hP hG'
  replace hgx := hG' _ _ hgx (by simp)
  replace hgd := hG' _ _ hgd (by simp)
  replace ex := hG' _ _ ex (by simp)
  have hnl : ¬ tot (ls.map (·.1)) < rx := Rat.not_lt.mpr hx1
  k_steps
  k_dflt (refine' litres_c (P := P) (b := b) ?k1 ?k2 ?k3 ?k4 ?k5 ?k6 ?gx ?gd ?hP ?el ?hv ?hne ?hb ?hlen ?k7 ?k8 ?_)
  case k1 => k_asm
  case k2 => k_asm
  case k3 => k_asm
  case k4 => k_asm
  case k5 => k_asm
  case k6 => first | exact rfl | assumption
  case k7 => ktr_room
  case k8 => ktr_units
  case gx => exact Fr.keep (by k_asm) _ _ hgx
  case gd => exact Fr.keep (by k_asm) _ _ hgd
  case hP => exact fun a o e => (hT [] a o (.inl e)).get (by k_asm) (by k_asm) fun _ h => nomatch h
  case el => exact el
  case hv => exact hv
  case hne => exact hne
  case hb => exact hb
  case hlen => exact hlen

  intro D5 t5 u5 c5 h5 tk5 b5 F5 N5 l5
  k_steps
  all_goals try dsimp only
  all_goals (refine leaveN_ (by k_asm) (by k_asm) ?_; intro kF kN kR kD; (try dsimp only); exact hret _ _ kF (news_all kR))
local macro_rules | `(tactic| walk_at "subscriptTail") => `(tactic| (k_here; (with_reducible show wpAny _ _ (subscriptTail _ _ (Value.ref _) (Value.int _ _)) _ _ _); k_dflt (refine' list_t ?k1 ?k0 ?k2 ?kS ?k3 ?k4 ?k5 ?k6 ?k8 ?_ ?k9 ?k10; (case k1 => k_asm); (case k0 => k_asm); (case k2 => with_reducible assumption); (case kS => exact (by intro p9 hp9; first | exact hp9 | exact absurd hp9 List.not_mem_nil | (repeat (first | exact hp9 | refine List.mem_cons_of_mem _ ?_)))); (case k3 => exact rfl); (case k4 => exact rfl); (case k5 => first | decide | omega); (case k6 => first | decide | omega); (case k8 => with_reducible assumption); (case k9 => with_unfolding_all rfl); (case k10 => (intro _; with_unfolding_all rfl)); k_whole)))
local macro_rules | `(tactic| walk_at "subscriptTail") => `(tactic| (k_here; (with_reducible show wpAny _ _ (subscriptTail _ _ (Value.ref _) (Value.int _ _)) _ _ _); k_dflt (refine' back_t ?k1 ?k0 ?k2 ?kS ?k3 ?k4 ?k5 ?k6 ?k7 ?k8 ?_ ?k9 ?k10; (case k1 => k_asm); (case k0 => k_asm); (case k2 => with_reducible assumption); (case kS => exact (by intro p9 hp9; first | exact hp9 | exact absurd hp9 List.not_mem_nil | (repeat (first | exact hp9 | refine List.mem_cons_of_mem _ ?_)))); (case k3 => exact rfl); (case k4 => exact rfl); (case k5 => decide); (case k6 => omega); (case k7 => decide); (case k8 => with_reducible assumption); (case k9 => with_unfolding_all rfl); (case k10 => (intro _; with_unfolding_all rfl)); k_whole)))
theorem top_c {w : World} {p : Program} {loose : List Str} {mean : ExcName → Option Value} {mg mb : Str → Option Value} {dp un : Nat} {gd : Option (List Code)} {cn : Str} {cs : Scope} {a : Addr} {ccd : Value} {cl : List (Str × Addr)} {outer : List Env} {A₀ : Around} {base h₀ : Heap} {L : Addr} {m : Str → Option Value} {news : List (Addr × Obj)} {s : Shared} {Q E : Value → Shared → Prop} {P : Addr → Obj → Prop} {x d l0 : Addr} {k1 : Tok} {vs : List Value} {ls : List Lay} {la : Lay} {n0 : Nat}
    (B : Below A₀ base outer h₀) (F : Fr h₀ L s.heap m) (X : (Mine.hd.heap_39 w.params).In h₀) (N : News h₀ L s.heap news) (T : Top p loose mean mg mb h₀) (hk : cs.kind = .function) (hgx : s.heap.get? x = some (instObj 183 d)) (hgd : s.heap.get? d = some (tankD w.params k1 (.ref l0))) (hP : ∀ a o, P a o → s.heap.get? a = some o) (el : P l0 (listOf vs.toArray n0)) (hv : All2 (LayN P) vs ls) (hla : ls[0]? = some la) (hll : ls.length ≤ 1000)
    (hd : dp + 12 < recursionLimit) (hu : un + 400 < cLine)
    (hret : ∀ (v : Value) (h' : Heap) (tk' : Nat), Fr h₀ L h' m → News h₀ L h' news → RatN P v la.2 → Q v { s with heap := h', toks := tk' }) :
    wpAny (model PySem.Challenge.rw_ui0509_09.row.prog w) (ktrTop dp un gd cn cs L a ccd cl outer) (call (.ref 152) [.ref x]) Q E s := by
  w_top off
  revert X; k_fill; intro X
  refine wpAny_call ?_
  k_dflt (refine' code_need [] ?k1 ?k2 ?k3 ?k4 ?k5 ?kA ?kF ?kK ?k6 ?k7 ?k8 ?k9 ?kB ?kN ?_ ?c2 ?c3 ?c4 ?c5; (case kA => exact rfl); (case kF => exact rfl); (case kK => assumption); (case k1 => k_asm); (case k2 => k_asm); (case k3 => k_asm); (case k4 => k_asm); (case k5 => k_asm); (case k6 => k_is); (case k7 => k_is); (case k8 => ktr_room); (case k9 => first | exact BindsTo.of_eq rfl | exact binds_K (by k_in) rfl (by k_is) rfl rfl rfl); (case c5 => decide); (case kB => exact locs rfl); (case kN => exact fun _ h => nomatch h); (case c2 => exact rfl); (case c3 => exact rfl); (case c4 => exact rfl); k_whole; intro g' L' h' tk0 FG' F' N' B' X' T' hG'; (try dsimp only); (try k_fold))
  have hT := ground_of hP hG'
  have elT := hT [] _ _ (.inl el)
  replace hgx := hG' _ _ hgx (by simp)
  replace hgd := hG' _ _ hgd (by simp)
  have hvl := hv.length
  have hpl : 0 < ls.length := Nat.lt_of_le_of_lt (Nat.zero_le _) (List.getElem?_eq_some_iff.mp hla).1
  obtain ⟨_, hva, Ta, a1, a2, ca, rfl, eA, _, hr⟩ := hv.at hla
  have eA' := hT [] _ _ (.inl eA)
  have hx1 : vs[(0 : Int).toNat]? = some (Value.ref Ta) := hva
  k_steps
  all_goals try dsimp only
  all_goals (refine leaveN_ (by k_asm) (by k_asm) ?_; intro kF kN kR kD; (try dsimp only); exact hret _ _ _ kF (news_all kR) hr)
theorem bottom_c {w : World} {p : Program} {loose : List Str} {mean : ExcName → Option Value} {mg mb : Str → Option Value} {dp un : Nat} {gd : Option (List Code)} {cn : Str} {cs : Scope} {a : Addr} {ccd : Value} {cl : List (Str × Addr)} {outer : List Env} {A₀ : Around} {base h₀ : Heap} {L : Addr} {m : Str → Option Value} {news : List (Addr × Obj)} {s : Shared} {Q E : Value → Shared → Prop} {P : Addr → Obj → Prop} {x d l0 : Addr} {k1 : Tok} {vs : List Value} {ls : List Lay} {la : Lay} {n0 : Nat}
    (B : Below A₀ base outer h₀) (F : Fr h₀ L s.heap m) (X : (Mine.hd.heap_39 w.params).In h₀) (N : News h₀ L s.heap news) (T : Top p loose mean mg mb h₀) (hk : cs.kind = .function) (hgx : s.heap.get? x = some (instObj 183 d)) (hgd : s.heap.get? d = some (tankD w.params k1 (.ref l0))) (hP : ∀ a o, P a o → s.heap.get? a = some o) (el : P l0 (listOf vs.toArray n0)) (hv : All2 (LayN P) vs ls) (hla : ls[ls.length - 1]? = some la) (hll : ls.length ≤ 1000)
    (hd : dp + 12 < recursionLimit) (hu : un + 400 < cLine)
    (hret : ∀ (v : Value) (h' : Heap) (tk' : Nat), Fr h₀ L h' m → News h₀ L h' news → RatN P v la.2 → Q v { s with heap := h', toks := tk' }) :
    wpAny (model PySem.Challenge.rw_ui0509_09.row.prog w) (ktrTop dp un gd cn cs L a ccd cl outer) (call (.ref 159) [.ref x]) Q E s := by
  w_top off
  revert X; k_fill; intro X
  refine wpAny_call ?_
  k_dflt (refine' code_need [] ?k1 ?k2 ?k3 ?k4 ?k5 ?kA ?kF ?kK ?k6 ?k7 ?k8 ?k9 ?kB ?kN ?_ ?c2 ?c3 ?c4 ?c5; (case kA => exact rfl); (case kF => exact rfl); (case kK => assumption); (case k1 => k_asm); (case k2 => k_asm); (case k3 => k_asm); (case k4 => k_asm); (case k5 => k_asm); (case k6 => k_is); (case k7 => k_is); (case k8 => ktr_room); (case k9 => first | exact BindsTo.of_eq rfl | exact binds_K (by k_in) rfl (by k_is) rfl rfl rfl); (case c5 => decide); (case kB => exact locs rfl); (case kN => exact fun _ h => nomatch h); (case c2 => exact rfl); (case c3 => exact rfl); (case c4 => exact rfl); k_whole; intro g' L' h' tk0 FG' F' N' B' X' T' hG'; (try dsimp only); (try k_fold))
  have hT := ground_of hP hG'
  have elT := hT [] _ _ (.inl el)
  replace hgx := hG' _ _ hgx (by simp)
  replace hgd := hG' _ _ hgd (by simp)
  have hvl := hv.length
  have hpl : 0 < ls.length := Nat.lt_of_le_of_lt (Nat.zero_le _) (List.getElem?_eq_some_iff.mp hla).1
  obtain ⟨_, hva, Ta, a1, a2, ca, rfl, eA, _, hr⟩ := hv.at hla
  have eA' := hT [] _ _ (.inl eA)
  have hx1 : vs[(-1 + (vs.length : Int)).toNat]? = some (Value.ref Ta) := at_of hva (by omega)
  k_steps
  all_goals try dsimp only
  all_goals (refine leaveN_ (by k_asm) (by k_asm) ?_; intro kF kN kR kD; (try dsimp only); exact hret _ _ _ kF (news_all kR) hr)
theorem cut_len (ls : List Lay) (x : Rat) : (cutF ls x).rest.length ≤ ls.length := by
  have h : ∀ (ls : List Lay) (c : CutSt), (ls.foldl cutStep c).rest.length ≤ c.rest.length + ls.length := by
    intro ls
    induction ls with
    | nil => intro c; simp
    | cons l ls ih =>
      intro c
      rw [List.foldl_cons]
      refine Nat.le_trans (ih _) ?_
      have : (cutStep c l).rest.length ≤ c.rest.length + 1 := by
        simp only [cutStep]
        split <;> (try split) <;> simp
      rw [List.length_cons]; omega
  simpa [cutF] using h ls ⟨[], [], x⟩
theorem subs_of {h₀ h' : Heap} {L : Addr} {all TL : List (Addr × Obj)} (_N : News h₀ L h' all) (hs : ∀ p ∈ TL, p ∈ all) : ∀ p ∈ TL, p ∈ all := hs
theorem apart2 {news TL all : List (Addr × Obj)} {x d : Addr} {ox od : Obj} (kD : ∀ p ∈ restOf news [(x, ox), (d, od)], ∀ q ∈ all, p.1 ≠ q.1) (hs : ∀ q ∈ TL, q ∈ all) (hx : ∀ q ∈ TL, q.1 ≠ x) (hd : ∀ q ∈ TL, q.1 ≠ d) : ∀ p ∈ news, ∀ q ∈ TL, p.1 ≠ q.1 := by
  intro p hp q hq
  by_cases h1 : p.1 = x
  · rw [h1]; exact (hx q hq).symm
  by_cases h2 : p.1 = d
  · rw [h2]; exact (hd q hq).symm
  exact kD p (mem_rest hp (not_in2 h1 h2)) q (hs q hq)
theorem ground2 {P : Addr → Obj → Prop} {h g : Heap} {x d : Addr} {ox od : Obj} (hP : ∀ a o, P a o → h.get? a = some o) (hPn : ∀ a o, P a o → a ≠ x ∧ a ≠ d) (hG : ∀ b o, h.get? b = some o → b ∉ List.map (·.1) [(x, ox), (d, od)] → g.get? b = some o) (tl : List (Addr × Obj)) :
    ∀ a o, PT P tl a o → Tk g tl a o := fun a o e => e.elim (fun h => .inr (hG _ _ (hP _ _ h) (not_in2 (hPn _ _ h).1 (hPn _ _ h).2))) .inl
local macro_rules | `(tactic| walk_at "call ref") => `(tactic| (k_here; (with_reducible show wpAny _ _ (call (Value.ref 58) [Value.ref _]) _ _ _); k_dflt (refine' need_r ?k1 ?k2 ?k3 ?k4 ?k5 ?k6 ?m1 ?k7 ?k8 ?b1 ?hb ?_; (case k1 => k_asm); (case k2 => k_asm); (case k3 => k_asm); (case k4 => k_asm); (case k5 => k_asm); (case k6 => first | exact rfl | assumption); (case k7 => first | exact Nat.le_of_ble_eq_true rfl | ktr_room); (case k8 => first | exact Nat.le_of_ble_eq_true rfl | ktr_units); (case m1 => (walk_at "hat9")); (case b1 => with_reducible assumption); (case hb => first | assumption | omega | decide); k_whole); intro h' tk' F' N'; (try k_sweep)))
local macro_rules | `(tactic| walk_at "binaryOp Add ref ref") => `(tactic| (k_here; (with_reducible show wpAny _ _ (binaryOp Operator.Add (Value.ref _) (Value.ref _)) _ _ _); k_dflt (refine' add_k ?F ?N ?a ?b ?z ?_; (case F => k_asm); (case N => k_asm); (case a => (walk_at "hat9")); (case b => (walk_at "hat9")); (case z => ((try simp only [List.length_cons, List.length_nil]); omega)); k_whole); intro D' h' F' N' l1; (try k_lt l1); (try k_sweep)))
local macro_rules | `(tactic| k_all) => `(tactic| exact off_of (by with_reducible assumption) (by k_mem))
local macro_rules | `(tactic| k_all) => `(tactic| (refine List.forall_mem_append.mpr ⟨?_, ?_⟩ <;> k_all))
theorem draw_c {w : World} {p : Program} {loose : List Str} {mean : ExcName → Option Value} {mg mb : Str → Option Value} {dp un : Nat} {gd : Option (List Code)} {cn : Str} {cs : Scope} {a : Addr} {ccd : Value} {cl : List (Str × Addr)} {outer : List Env} {A₀ : Around} {base h₀ : Heap} {L : Addr} {m : Str → Option Value} {news : List (Addr × Obj)} {s : Shared} {Q E : Value → Shared → Prop} {P : Addr → Obj → Prop} {x d l0 : Addr} {k1 : Tok} {vs : List Value} {ls : List Lay} {n0 b bx bw : Nat} {Dx Dw : Addr} {rx rw' : Rat} {tx tx' tw tw' : Tok} {cx cw : Nat} {g1 : Obj → List (Addr × Obj)}
    (B : Below A₀ base outer h₀) (F : Fr h₀ L s.heap m) (X : (Mine.hd.heap_39 w.params).In h₀) (N : News h₀ L s.heap news) (T : Top p loose mean mg mb h₀) (hk : cs.kind = .function) (ex0 : (x, instObj 183 d) ∈ news) (U : UpdF d (tankD w.params k1 (.ref l0)) news g1) (ndx : d ≠ x) (hP : ∀ a o, P a o → s.heap.get? a = some o) (hPn : ∀ a o, P a o → a ≠ x ∧ a ≠ d) (el : P l0 (listOf vs.toArray n0)) (hv : All2 (LayN P) vs ls) (hne : ls ≠ []) (hb : ∀ l ∈ ls, Bd b l.1) (hlen : ls.length * (b + 1) + 1 ≤ 6643) (hll : ls.length ≤ 100)
    (ex : P Dx (RatO rx tx tx' cx)) (hbx : Bd bx rx) (hx0 : 0 < rx) (hx1 : rx ≤ tot (ls.map (·.1))) (h1x : 1 ≤ bx) (hlen2 : 2 * (bx + ls.length * (b + 1)) + b + 2 ≤ 6643)
    (ew : P Dw (RatO rw' tw tw' cw)) (hbw : Bd bw rw') (hbw2 : bw ≤ 6643) (hf : Falls ((cutF ls rx).rest ++ [(rx, rw')])) (hbl : ∀ l ∈ (cutF ls rx).rest ++ [(rx, rw')], Bd bw l.2)
    (hd : dp + 24 < recursionLimit) (hu : un + 1000 < cLine)
    (hret : ∀ (vo v' : Value) (tl : List (Addr × Obj)) (h' : Heap) (tk' : Nat), Fr h₀ L h' m → News h₀ L h' (g1 (tankD w.params k1 v') ++ tl) → (∀ p ∈ news, ∀ q ∈ tl, p.1 ≠ q.1) → LaysN (PT P tl) vo (cutF ls rx).out → LaysN (PT P tl) v' ((cutF ls rx).rest ++ [(rx, rw')]) → Q vo { s with heap := h', toks := tk' }) :
    wpAny (model PySem.Challenge.rw_ui0509_09.row.prog w) (ktrTop dp un gd cn cs L a ccd cl outer) (call (.ref 173) [.ref x, .ref Dx, .ref Dw]) Q E s := by
  w_top off
  revert X; k_fill; intro X
  refine wpAny_call ?_
  k_dflt (refine' code_need [(x, instObj 183 d), (d, tankD w.params k1 (.ref l0))] ?k1 ?k2 ?k3 ?k4 ?k5 ?kA ?kF ?kK ?k6 ?k7 ?k8 ?k9 ?kB ?kN ?_ ?c2 ?c3 ?c4 ?c5; (case kA => exact rfl); (case kF => exact rfl); (case kK => assumption); (case k1 => k_asm); (case k2 => k_asm); (case k3 => k_asm); (case k4 => k_asm); (case k5 => k_asm); (case k6 => k_is); (case k7 => k_is); (case k8 => ktr_room); (case k9 => first | exact BindsTo.of_eq rfl | exact binds_K (by k_in) rfl (by k_is) rfl rfl rfl); (case c5 => decide); (case kB => exact locs rfl); (case kN => exact two_in ex0 (UpdF.mem U)); (case c2 => exact rfl); (case c3 => exact rfl); (case c4 => exact rfl); k_whole; intro g' L' h' tk0 FG' F' N' B' X' T' hG'; (try dsimp only); (try k_fold))
  have hT := ground2 hP hPn hG'
  have exT := hT [] _ _ (.inl ex)
  have ewT := hT [] _ _ (.inl ew)
  replace ndx := neN ndx
  k_steps
  k_dflt (refine' tneed_c (P := P) (b := b) (bx := bx) (rx := rx) (tx := tx) (tx' := tx') (cx := cx) ?k1 ?k2 ?k3 ?k4 ?k5 ?k6 ?gx ?gd ?hP ?el ?hv ?hne ?hb ?hlen ?ex ?hbx ?hbx2 ?hx0 ?hx1 ?k7 ?k8 ?_)
  case k1 => k_asm
  case k2 => k_asm
  case k3 => k_asm
  case k4 => k_asm
  case k5 => k_asm
  case k6 => first | exact rfl | assumption
  case k7 => ktr_room
  case k8 => ktr_units
  case gx => exact News.get (by k_asm) (by k_mem)
  case gd => exact News.get (by k_asm) (by k_mem)
  case hP => exact fun a o e => (hT [] a o (.inl e)).get (by k_asm) (by k_asm) fun _ h => nomatch h
  case el => exact el
  case hv => exact hv
  case hne => exact hne
  case hb => exact hb
  case hlen => exact hlen
  case ex => exact exT.get (by k_asm) (by k_asm) fun _ h => nomatch h
  case hbx => exact hbx
  case hbx2 => omega
  case hx0 => exact Rat.le_of_lt hx0
  case hx1 => exact hx1

  intro h5 tk5 F5 N5
  k_steps
  k_dflt (refine' cut_c (P := P) (b := b) (bx := bx) (x := rx) (tx := tx) (tx' := tx') (cx := cx) ?k1 ?k2 ?k3 ?k4 ?k5 ?k6 ?hP ?el ?hv ?ex ?hb ?hbx ?h1x ?hlen ?hll ?k7 ?k8 ?_)
  case k1 => k_asm
  case k2 => k_asm
  case k3 => k_asm
  case k4 => k_asm
  case k5 => k_asm
  case k6 => first | exact rfl | assumption
  case k7 => ktr_room
  case k8 => ktr_units
  case hP => exact fun a o e => (hT [] a o (.inl e)).get (by k_asm) (by k_asm) fun _ h => nomatch h
  case el => exact el
  case hv => exact hv
  case ex => exact ex
  case hb => exact hb
  case hbx => exact hbx
  case h1x => exact h1x
  case hlen => exact hlen2
  case hll => omega

  intro D6 c6 vo6 vr6 tl6 h6 tk6 F6 N6 n61 n62 n63 Lo6 Lr6
  simp only [List.cons_append, List.nil_append] at N6
  have y61 := neN (n61 _ (List.mem_cons_self ..))
  have y62 := neN (n61 _ (List.mem_cons_of_mem _ (List.mem_cons_self ..)))
  obtain ⟨lr, vrs, nr, rfl, elr, hvr⟩ := Lr6
  have elrT := hT tl6 _ _ elr
  have hnum : 0 < rx.num := num_pos.mpr hx0
  have hlr : vrs.length ≤ 900 := by rw [hvr.length]; exact Nat.le_trans (cut_len ls rx) (by omega)
  k_steps
  rename_i T9 hA lA M9 hB lB S9 hC FC NC lC
  have hPS : ∀ a o, PT P ((S9, listOf (vrs ++ [Value.ref T9]).toArray 0) :: (T9, pairO (.ref Dx) (.ref Dw) 0) :: tl6) a o → hC.get? a = some o := by
    intro a o e
    refine Tk.get FC NC (hT ((S9, listOf (vrs ++ [Value.ref T9]).toArray 0) :: (T9, pairO (.ref Dx) (.ref Dw) 0) :: tl6) a o e) ?_
    refine List.forall_mem_cons.mpr ⟨by k_mem, List.forall_mem_cons.mpr ⟨by k_mem, (by intro p9 hp9; first | exact hp9 | exact absurd hp9 List.not_mem_nil | (repeat (first | exact hp9 | refine List.mem_cons_of_mem _ ?_)))⟩⟩
  have hvS : All2 (LayN (PT P ((S9, listOf (vrs ++ [Value.ref T9]).toArray 0) :: (T9, pairO (.ref Dx) (.ref Dw) 0) :: tl6))) (vrs ++ [Value.ref T9]) ((cutF ls rx).rest ++ [(rx, rw')]) :=
    (hvr.mono fun _ _ y => y.mono (PT.mono fun p hp => List.mem_cons_of_mem _ (List.mem_cons_of_mem _ hp))).snoc (lay_new (.inr (List.mem_cons_of_mem _ (List.mem_cons_self ..))) ⟨Dx, tx, tx', cx, rfl, .inl ex⟩ ⟨Dw, tw, tw', cw, rfl, .inl ew⟩)
  k_dflt (refine' settle_c (P := PT P ((S9, listOf (vrs ++ [Value.ref T9]).toArray 0) :: (T9, pairO (.ref Dx) (.ref Dw) 0) :: tl6)) (b := bw) ?k1 ?k2 ?k3 ?k4 ?k5 ?k6 ?hP ?el ?hv ?hf ?hll ?hb ?hbb ?k7 ?k8 ?_)
  case k1 => k_asm
  case k2 => k_asm
  case k3 => k_asm
  case k4 => k_asm
  case k5 => k_asm
  case k6 => first | exact rfl | assumption
  case k7 => ktr_room
  case k8 => ktr_units
  case hP => exact hPS
  case el => exact .inr (List.mem_cons_self ..)
  case hv => exact hvS
  case hf => exact hf
  case hll => rw [← hvS.length, List.length_append]; simp; omega
  case hb => exact hbl
  case hbb => omega

  intro v9 tl9 h9 tk9 F9 N9 l9 L9
  simp only [List.cons_append, List.nil_append] at N9
  k_steps
  try dsimp only
  refine leaveN_ (by k_asm) (by k_asm) ?_; intro kF kN kR kD; (try dsimp only)
  have hTL := subs_of (TL := (S9, listOf (vrs ++ [Value.ref T9]).toArray 0) :: (T9, pairO (.ref Dx) (.ref Dw) 0) :: (tl6 ++ tl9)) kN (List.forall_mem_cons.mpr ⟨by k_mem, List.forall_mem_cons.mpr ⟨by k_mem, (by intro p9 hp9; first | exact hp9 | exact absurd hp9 List.not_mem_nil | (repeat (first | exact hp9 | refine List.mem_cons_of_mem _ ?_)))⟩⟩)
  exact hret vo6 v9 ((S9, listOf (vrs ++ [Value.ref T9]).toArray 0) :: (T9, pairO (.ref Dx) (.ref Dw) 0) :: (tl6 ++ tl9)) _ _ kF (news_app2 (fun p hp => kN p (hTL p hp)) (news_upd1 N ex0 U kN (by k_mem) (by k_mem) kR))
    (apart2 kD hTL (List.forall_mem_cons.mpr ⟨neN (by omega), List.forall_mem_cons.mpr ⟨neN (by omega), List.forall_mem_append.mpr ⟨off_of n63 (by k_mem), off_of l9 (by k_mem)⟩⟩⟩) (List.forall_mem_cons.mpr ⟨neN (by omega), List.forall_mem_cons.mpr ⟨neN (by omega), List.forall_mem_append.mpr ⟨off_of n63 (by k_mem), off_of l9 (by k_mem)⟩⟩⟩))
    (Lo6.mono (PT.mono fun p hp => List.mem_cons_of_mem _ (List.mem_cons_of_mem _ (List.mem_append_left _ hp))))
    (L9.mono fun a o e => e.elim (fun e => e.imp id fun h => (List.forall_mem_cons.mpr ⟨List.mem_cons_self .., List.forall_mem_cons.mpr ⟨List.mem_cons_of_mem _ (List.mem_cons_self ..), fun p hp => List.mem_cons_of_mem _ (List.mem_cons_of_mem _ (List.mem_append_left _ hp))⟩⟩) _ h) fun h => .inr (List.mem_cons_of_mem _ (List.mem_cons_of_mem _ (List.mem_append_right _ h))))
theorem ground_new {P : Addr → Obj → Prop} {h₀ h g : Heap} {L x d : Addr} {m : Str → Option Value} {ox od : Obj} {news : List (Addr × Obj)} (hP : ∀ a o, P a o → Tk h₀ news a o) (F : Fr h₀ L h m) (N : News h₀ L h ((x, ox) :: (d, od) :: news)) (l0 : ∀ p ∈ news, p.1 < d) (l00 : d < x)
    (hG : ∀ b o, h.get? b = some o → b ∉ List.map (·.1) [(x, ox), (d, od)] → g.get? b = some o) (tl : List (Addr × Obj)) : ∀ a o, PT P tl a o → Tk g tl a o := fun a o e => e.elim (fun e => .inr (by
  have hT := hP a o e
  refine hG _ _ (hT.get F N fun p hp => List.mem_cons_of_mem _ (List.mem_cons_of_mem _ hp)) (not_in2 ?_ ?_)
  · rintro rfl
    rcases hT with hm | hg
    · exact absurd (Nat.lt_trans (l0 _ hm) l00) (Nat.lt_irrefl _)
    · have := (N _ (List.mem_cons_self ..)).2.2; rw [hg] at this; cases this
  · rintro rfl
    rcases hT with hm | hg
    · exact absurd (l0 _ hm) (Nat.lt_irrefl _)
    · have := (N _ (List.mem_cons_of_mem _ (List.mem_cons_self ..))).2.2; rw [hg] at this; cases this)) .inl
local macro_rules | `(tactic| walk_at "call builtin:len") => `(tactic| (k_here; (with_reducible show wpAny _ _ (call (Value.builtin "len") [Value.ref _]) _ _ _); k_dflt (refine' lst_lenT ?k1 ?k0 ?k2 ?kS ?k3 ?_; (case k1 => k_asm); (case k0 => k_asm); (case k2 => with_reducible assumption); (case kS => exact (by intro p9 hp9; first | exact hp9 | exact absurd hp9 List.not_mem_nil | (repeat (first | exact hp9 | refine List.mem_cons_of_mem _ ?_)))); (case k3 => ((try simp only [List.length_append, List.length_cons, List.length_nil]); omega)); k_whole); intro tk9; (try simp only [List.length_append, List.length_cons, List.length_nil])))
theorem tank_new {w : World} {p : Program} {loose : List Str} {mean : ExcName → Option Value} {mg mb : Str → Option Value} {dp un : Nat} {gd : Option (List Code)} {cn : Str} {cs : Scope} {a : Addr} {ccd : Value} {cl : List (Str × Addr)} {outer : List Env} {A₀ : Around} {base h₀ : Heap} {L : Addr} {m : Str → Option Value} {news : List (Addr × Obj)} {s : Shared} {Q E : Value → Shared → Prop} {P : Addr → Obj → Prop} {lA : Addr} {vs : List Value} {ls : List Lay} {n0 b : Nat}
    (B : Below A₀ base outer h₀) (F : Fr h₀ L s.heap m) (X : (Mine.hd.heap_39 w.params).In h₀) (N : News h₀ L s.heap news) (T : Top p loose mean mg mb h₀) (hk : cs.kind = .function) (hP : ∀ a o, P a o → Tk h₀ news a o) (el : P lA (listOf vs.toArray n0)) (hv : All2 (LayN P) vs ls) (hne : ls ≠ []) (hf : Falls ls) (hpos : ∀ l ∈ ls, 0 < l.1) (hb : ∀ l ∈ ls, Bd b l.1) (hb2 : ∀ l ∈ ls, Bd b l.2) (hbb : b ≤ 6643) (hll : ls.length ≤ 100)
    (hd : dp + 20 < recursionLimit) (hu : un + 800 < cLine)
    (hret : ∀ (x d : Addr) (k1 : Tok) (v : Value) (tl : List (Addr × Obj)) (h' : Heap) (tk' : Nat), Fr h₀ L h' m → News h₀ L h' ((x, instObj 183 d) :: (d, tankD w.params k1 v) :: (news ++ tl)) → d ≠ x → (∀ p ∈ news, p.1 ≠ x) → (∀ p ∈ news, p.1 ≠ d) → (∀ q ∈ tl, q.1 ≠ x) → (∀ q ∈ tl, q.1 ≠ d) → (∀ p ∈ news, ∀ q ∈ tl, p.1 ≠ q.1) → LaysN (PT P tl) v ls → Q (.ref x) { s with heap := h', toks := tk' }) :
    wpAny (model PySem.Challenge.rw_ui0509_09.row.prog w) (ktrTop dp un gd cn cs L a ccd cl outer) (call (.ref 183) [.ref lA]) Q E s := by
  w_top off
  revert X; k_fill; intro X
  k_dflt (refine' call_cls ?k1 ?k2 ?k3 ?k4 ?k5 ?k6 ?_; (case k1 => k_asm); (case k2 => k_asm); (case k3 => k_asm); (case k4 => k_is); (case k5 => k_is); (case k6 => k_is); k_whole; intro x0 d0 h0 F0 N0 l0 l00)
  k_dflt (refine' code_need [(x0, instObj 183 d0), (d0, dictOf [] 0)] ?k1 ?k2 ?k3 ?k4 ?k5 ?kA ?kF ?kK ?k6 ?k7 ?k8 ?k9 ?kB ?kN ?_ ?c2 ?c3 ?c4 ?c5; (case kA => exact rfl); (case kF => exact rfl); (case kK => assumption); (case k1 => k_asm); (case k2 => k_asm); (case k3 => k_asm); (case k4 => k_asm); (case k5 => k_asm); (case k6 => k_is); (case k7 => k_is); (case k8 => ktr_room); (case k9 => first | exact BindsTo.of_eq rfl | exact binds_K (by k_in) rfl (by k_is) rfl rfl rfl); (case c5 => decide); (case kB => exact locs rfl); (case kN => exact List.forall_mem_cons.mpr ⟨List.mem_cons_self .., List.forall_mem_cons.mpr ⟨List.mem_cons_of_mem _ (List.mem_cons_self ..), List.forall_mem_nil _⟩⟩); (case c2 => exact rfl); (case c3 => exact rfl); (case c4 => exact rfl); k_whole; intro g' L' h' tk0 FG' F' N' B' X' T' hG'; (try dsimp only); (try k_fold))
  have hT := ground_new hP F0 N0 l0 l00 hG'
  have elT := hT [] _ _ (.inl el)
  have el' : g'.get? lA = some (listOf vs.toArray n0) := elT.elim (fun h => nomatch h) id
  have hvl := hv.length
  have hpl : 0 < ls.length := List.length_pos_iff.mpr hne
  replace l00 := ltN l00
  k_steps
  unfold Hold
  refine iter_baseTurns rfl (by k_asm) (by k_asm) el' rfl rfl (fun I lI => ?_)
  refine items_ind (fun i m nx => nx = [(x0, instObj 183 d0), (d0, dictOf [] 0)] ∧ m (Str.ofString "self") = some (.ref x0) ∧ m (Str.ofString "layers") = some (.ref lA)) ?turn ?done _ 0 _ _ rfl (Nat.zero_le _) trivial (fun p hp => Nat.ne_of_lt (lI p hp)) ⟨rfl, rfl, rfl⟩
  case turn =>
    intro i a v m nx h tk o ha _ hI hJ hav Fm ho Nn
    obtain ⟨rfl, hm1, hm2⟩ := hJ
    obtain ⟨⟨sz, wm⟩, hl, D, v1, v2, c, rfl, eD, ⟨D1, t1, t1', c1, rfl, e1⟩, ⟨D2, t2, t2', c2, rfl, e2⟩⟩ := hv.get (val_get ha hav)
    have eD' := hT [] _ _ (.inl eD)
    have e1' := hT [] _ _ (.inl e1)
    have e2' := hT [] _ _ (.inl e2)
    have bS := hb _ (List.mem_of_getElem? hl)
    have bW := hb2 _ (List.mem_of_getElem? hl)
    have hn : 0 < sz.num := num_pos.mpr (hpos _ (List.mem_of_getElem? hl))
    dsimp only at e1' e2' bS bW
    have nI1 : x0 ≠ I := hI _ (List.mem_cons_self ..)
    have nI2 : d0 ≠ I := hI _ (List.mem_cons_of_mem _ (List.mem_cons_self ..))
    replace nI1 := neN nI1; replace nI2 := neN nI2
    clear hI
    k_steps
    unfold Hold
    exact unr_end [(x0, _), (d0, _)] (by k_asm) (by k_asm) (by k_mem) (two_of (by k_mem) (by k_mem)) (two_of nI1 nI2) ⟨trivial, rfl, by first | rfl | assumption, by first | rfl | assumption⟩
  case done =>
    intro m nx h tk hJ Fm Nn
    obtain ⟨rfl, hm1, hm2⟩ := hJ
    k_steps
    unfold Hold
    refine iter_rangeTurns (n := ls.length - 1) rfl (by assumption) (small_one (by omega) (by omega) (by omega) (by omega)) (rsize (by omega)) (by k_asm) (by k_asm) (fun I lI => ?_)
    refine items_ind (fun i m nx => nx = [(x0, instObj 183 d0), (d0, dictOf [] 0)] ∧ m (Str.ofString "self") = some (.ref x0) ∧ m (Str.ofString "layers") = some (.ref lA)) ?turn2 ?done2 _ 0 _ _ rfl (Nat.zero_le _) trivial (fun p hp => Nat.ne_of_lt (lI p hp)) ⟨rfl, by first | rfl | assumption, by first | rfl | assumption⟩
    case turn2 =>
      intro i a v m nx h tk o ha _ hI hJ hav Fm ho Nn
      obtain ⟨rfl, hm1, hm2⟩ := hJ
      obtain ⟨hi, rfl⟩ := rangeItems_get ha
      obtain ⟨t9, rfl⟩ := hav
      obtain ⟨la, hla⟩ : ∃ la, ls[i]? = some la := ⟨ls[i]'(by omega), List.getElem?_eq_getElem (by omega)⟩
      obtain ⟨lb, hlb⟩ : ∃ lb, ls[i + 1]? = some lb := ⟨ls[i + 1]'(by omega), List.getElem?_eq_getElem (by omega)⟩
      have hfl := hf i la lb hla hlb
      obtain ⟨_, hva, Ta, a1, a2, ca, rfl, eA, _, ⟨Da, ta, ta', cA, rfl, eA2⟩⟩ := hv.at hla
      obtain ⟨_, hvb, Tb, b1, b2, cb, rfl, eB, _, ⟨Db, tb, tb', cB, rfl, eB2⟩⟩ := hv.at hlb
      have eA' := hT [] _ _ (.inl eA)
      have eB' := hT [] _ _ (.inl eB)
      have eA2' := hT [] _ _ (.inl eA2)
      have eB2' := hT [] _ _ (.inl eB2)
      have bA := hb2 _ (List.mem_of_getElem? hla)
      have bB := hb2 _ (List.mem_of_getElem? hlb)
      have hx1 : vs[(1 + (i : Int) - 1).toNat]? = some (Value.ref Ta) := at_of hva (by omega)
      have hx2 : vs[(1 + (i : Int)).toNat]? = some (Value.ref Tb) := at_of hvb (by omega)
      have hnl : ¬ la.2 < lb.2 := fun h => by grind
      have nI1 : x0 ≠ I := hI _ (List.mem_cons_self ..)
      have nI2 : d0 ≠ I := hI _ (List.mem_cons_of_mem _ (List.mem_cons_self ..))
      replace nI1 := neN nI1; replace nI2 := neN nI2
      clear hI
      k_steps
      unfold Hold
      exact unr_end [(x0, _), (d0, _)] (by k_asm) (by k_asm) (by k_mem) (two_of (by k_mem) (by k_mem)) (two_of nI1 nI2) ⟨trivial, rfl, by first | rfl | assumption, by first | rfl | assumption⟩
    case done2 =>
      intro m nx h tk hJ Fm Nn
      obtain ⟨rfl, hm1, hm2⟩ := hJ
      k_steps
      all_goals try (exfalso; omega)
      k_dflt (refine' joined_c (P := P) ?k1 ?k2 ?k3 ?k4 ?k5 ?k6 ?hP ?el ?hv ?hf ?hl ?k7 ?k8 ?_)
      case k1 => k_asm
      case k2 => k_asm
      case k3 => k_asm
      case k4 => k_asm
      case k5 => k_asm
      case k6 => first | exact rfl | assumption
      case k7 => ktr_room
      case k8 => ktr_units
      case hP => exact fun a o e => (hT [] a o (.inl e)).get (by k_asm) (by k_asm) fun _ h => nomatch h
      case el => exact el
      case hv => exact hv
      case hf => exact hf
      case hl => omega

      intro v9 tl9 h9 tk9 F9 N9 l9 L9
      simp only [List.cons_append, List.nil_append] at N9
      have n9x : ∀ q ∈ tl9, q.1 ≠ x0 := fun q hq e => l9 _ (List.mem_cons_self ..) q hq e.symm
      have n9d : ∀ q ∈ tl9, q.1 ≠ d0 := fun q hq e => l9 _ (List.mem_cons_of_mem _ (List.mem_cons_self ..)) q hq e.symm
      k_steps
      refine leaveN_ (by k_asm) (by k_asm) ?_; intro kF kN kR kD; dsimp only [InitBack]; refine ⟨rfl, ?_⟩
      exact hret x0 d0 _ v9 tl9 _ _ kF (news_cons kN (by k_mem) (news_cons kN (by k_mem) (news_app2 (fun p hp => kN p (((by intro p9 hp9; first | exact hp9 | exact absurd hp9 List.not_mem_nil | (repeat (first | exact hp9 | refine List.mem_cons_of_mem _ ?_))) : ∀ p ∈ tl9, p ∈ _) p hp)) fun p hp => kR p (rest_two l0 l00 hp)))) (neN (by omega)) (fun p hp => kD p (rest_two l0 l00 hp) _ (by k_mem : (_, instObj _ _) ∈ _)) (fun p hp => kD p (rest_two l0 l00 hp) _ (by k_mem : (_, tankD ..) ∈ _)) n9x n9d (fun p hp q hq => kD p (rest_two l0 l00 hp) q (((by intro p9 hp9; first | exact hp9 | exact absurd hp9 List.not_mem_nil | (repeat (first | exact hp9 | refine List.mem_cons_of_mem _ ?_))) : ∀ p ∈ tl9, p ∈ _) q hq)) L9
theorem mod_gen {prog : Program} {w : World} {A : Around} {E : Value → Shared → Prop} {s : Shared} {a n : Int} {t u : Tok} {Q : Value → Shared → Prop} (hn : 0 < n)
    (h : ∀ v : Int, 0 ≤ v → v < n → v = a.fmod n → Q (.int v s.toks) { s with toks := s.toks + 1 }) : wpAny (model prog w) A (binaryOp .Mod (.int a t) (.int n u)) Q E s := by
  have e : a.fmod n = a % n := Int.fmod_eq_emod_of_nonneg a (by omega)
  exact mod_int' (by omega) (h _ (by rw [e]; exact Int.emod_nonneg a (by omega)) (by rw [e]; exact Int.emod_lt_of_pos a hn) rfl)
inductive Final : Prop where
  | mk : Final
theorem good_true {cl : Str → Option Addr} {mean : ExcName → Option Value} {ns : List Int} {s₁ s' : Shared} {L : Addr} {m : Str → Option Value} (F : Fr s₁.heap L s'.heap m) (hg : s'.gens = #[]) (hos : s'.os = s₁.os) :
    GoodW PySem.Challenge.rw_ui0509_09.row.claim cl mean [ofPy (PyData.list (ns.map PyData.int))] s₁ (.ok (.ret (.bool true))) s' := by
  refine goodW_bool F hg (fun _ => rfl) (postW_of rfl ?_ rfl) hos
  first | (with_unfolding_all exact w_eq_bool (w_res rfl) w_lit) | rfl | simp [WTm.value] | wtm_val
def cutK : List Lay → Rat → List Lay
  | [], _ => []
  | l :: ls, x => if x ≤ 0 then l :: ls else if x < l.1 then (l.1 - x, l.2) :: ls else cutK ls (x - l.1)
-- falling: by pairs
def Desc : List Lay → Prop
  | [] => True
  | [_] => True
  | a :: b :: ls => b.2 < a.2 ∧ Desc (b :: ls)
theorem falls_desc {ls : List Lay} (h : Desc ls) : Falls ls := by
  induction ls with
  | nil => intro i a b ha; simp at ha
  | cons l ls ih =>
    intro i a b ha hb
    cases ls with
    | nil => simp at hb
    | cons k ls =>
      cases i with
      | zero =>
        simp at ha hb
        rw [← ha, ← hb]; exact h.1
      | succ i => exact ih h.2 i a b (by simpa using ha) (by simpa using hb)
theorem Desc.tail {l : Lay} {ls : List Lay} (h : Desc (l :: ls)) : Desc ls := by
  cases ls with
  | nil => trivial
  | cons _ _ => exact h.2
theorem Desc.lt {l : Lay} {ls : List Lay} (h : Desc (l :: ls)) : ∀ k ∈ ls, k.2 < l.2 := by
  induction ls generalizing l with
  | nil => intro k hk; simp at hk
  | cons a ls ih =>
    intro k hk
    rcases List.mem_cons.mp hk with rfl | hk
    · exact h.1
    · have := ih h.2 k hk
      have := h.1
      grind
theorem Desc.cons {l : Lay} {ls : List Lay} (h : Desc ls) (k : ∀ a ∈ ls, a.2 < l.2) : Desc (l :: ls) := by
  cases ls with
  | nil => trivial
  | cons a ls => exact ⟨k a (List.mem_cons_self ..), h⟩
theorem Desc.snoc {l : Lay} {ls : List Lay} (h : Desc ls) (k : ∀ a ∈ ls, l.2 < a.2) : Desc (ls ++ [l]) := by
  induction ls with
  | nil => trivial
  | cons a ls ih =>
    refine Desc.cons (ih h.tail fun b hb => k b (List.mem_cons_of_mem _ hb)) fun b hb => ?_
    rcases List.mem_append.mp hb with hb | hb
    · exact h.lt b hb
    · rw [List.mem_singleton.mp hb]; exact k a (List.mem_cons_self ..)
theorem Desc.sub {ls : List Lay} (h : Desc ls) (x : Rat) : Desc (cutK ls x) := by
  induction ls generalizing x with
  | nil => simp [cutK, Desc]
  | cons a ls ih =>
    unfold cutK
    split
    · exact h
    · split
      · exact Desc.cons h.tail h.lt
      · exact ih h.tail _
theorem Desc.init {l : Lay} {ls : List Lay} (h : Desc (ls ++ [l])) : Desc ls ∧ ∀ k ∈ ls, l.2 < k.2 := by
  induction ls with
  | nil => exact ⟨trivial, by simp⟩
  | cons a ls ih =>
    obtain ⟨h1, h2⟩ := ih h.tail
    refine ⟨Desc.cons h1 fun k hk => h.lt k (List.mem_append_left _ hk), fun k hk => ?_⟩
    rcases List.mem_cons.mp hk with rfl | hk
    · exact h.lt l (by simp)
    · exact h2 k hk
-- heat drawn or charged: the least water
-- the ledger as what is told
abbrev Led (led : List (Addr × Obj)) (a : Addr) (o : Obj) : Prop := (a, o) ∈ led
theorem ratL {led : List (Addr × Obj)} {D : Addr} {x : Int} {t t' : Tok} {c : Nat} (h : (D, T2 x 1 t t' c) ∈ led) : RatN (Led led) (.ref D) (x : Rat) := ⟨D, t, t', c, rfl, h⟩
theorem ratR {led : List (Addr × Obj)} {D : Addr} {r : Rat} {t t' : Tok} {c : Nat} (h : (D, RatO r t t' c) ∈ led) : RatN (Led led) (.ref D) r := ⟨D, t, t', c, rfl, h⟩
theorem layL {led : List (Addr × Obj)} {D : Addr} {v1 v2 : Value} {c : Nat} {x y : Rat} (h : (D, pairO v1 v2 c) ∈ led) (a : RatN (Led led) v1 x) (b : RatN (Led led) v2 y) : LayN (Led led) (.ref D) (x, y) := ⟨D, v1, v2, c, rfl, h, a, b⟩
theorem ledT {h₀ : Heap} {led : List (Addr × Obj)} : ∀ a o, Led led a o → Tk h₀ led a o := fun _ _ e => .inl e
theorem ledG {h₀ h : Heap} {L : Addr} {led all : List (Addr × Obj)} (N : News h₀ L h all) (hs : ∀ p ∈ led, p ∈ all) : ∀ a o, Led led a o → h.get? a = some o := fun _ _ e => N.get (hs _ e)
theorem bd64 {x : Int} (h : -(2 ^ 62) ≤ x) (h' : x < 2 ^ 62) : Bd 64 (x : Rat) := Bd.int (PySem.intBits_le_64 (by omega) (by omega)) (by decide)
theorem lay2 {p : Lay → Prop} {a b : Lay} (h : p a) (h' : p b) : ∀ l ∈ [a, b], p l := List.forall_mem_cons.mpr ⟨h, List.forall_mem_cons.mpr ⟨h', List.forall_mem_nil _⟩⟩
theorem drop34 {h₀ h : Heap} {L : Addr} {a b x y : Addr × Obj} {rest : List (Addr × Obj)} (_N : News h₀ L h (a :: b :: x :: y :: rest)) : ∀ p ∈ a :: b :: rest, p ∈ a :: b :: x :: y :: rest := by
  intro p hp
  rcases List.mem_cons.mp hp with rfl | hp
  · exact List.mem_cons_self ..
  · rcases List.mem_cons.mp hp with rfl | hp
    · exact List.mem_cons_of_mem _ (List.mem_cons_self ..)
    · exact List.mem_cons_of_mem _ (List.mem_cons_of_mem _ (List.mem_cons_of_mem _ (List.mem_cons_of_mem _ hp)))
theorem ledNe {led : List (Addr × Obj)} {x d : Addr} (h : ∀ p ∈ led, p.1 ≠ x ∧ p.1 ≠ d) : ∀ a o, Led led a o → a ≠ x ∧ a ≠ d := fun _ _ e => h _ e
theorem lay3 {p : Lay → Prop} {a b c : Lay} (h : p a) (h' : p b) (h'' : p c) : ∀ l ∈ [a, b] ++ [c], p l := List.forall_mem_cons.mpr ⟨h, List.forall_mem_cons.mpr ⟨h', List.forall_mem_cons.mpr ⟨h'', List.forall_mem_nil _⟩⟩⟩
theorem inL {led : List (Addr × Obj)} {D : Addr} {x : Int} {t t' : Tok} {c : Nat} (h : (D, T2 x 1 t t' c) ∈ led) : Led led D (RatO (x : Rat) t t' c) := h
theorem pt9 {led tl : List (Addr × Obj)} {a b : Addr × Obj} : ∀ A O, PT (Led led) tl A O → Led (a :: b :: (led ++ tl)) A O := fun _ _ e => List.mem_cons_of_mem _ (List.mem_cons_of_mem _ (e.elim (fun h => List.mem_append_left _ h) fun h => List.mem_append_right _ h))
theorem ptG {h₀ h : Heap} {L : Addr} {led tl all : List (Addr × Obj)} (N : News h₀ L h all) (x : ∀ p ∈ led, p ∈ all) (y : ∀ p ∈ tl, p ∈ all) : ∀ a o, PT (Led led) tl a o → h.get? a = some o := fun _ _ e => e.elim (fun h => N.get (x _ h)) fun h => N.get (y _ h)
theorem RatN.rd' {P : Addr → Obj → Prop} {h : Heap} {v : Value} {r : Rat} {x : Int} (hP : ∀ a o, P a o → h.get? a = some o) (y : RatN P v r) (e : r = (x : Rat)) : Rd h v (.tuple [.int x, .int 1]) := by subst e; exact y.rd hP
theorem cut09 {n w : Rat} (h0 : 0 < n) (h1 : n < 10) : cutF [(10, w), (10, 40)] n = ⟨[(n, w)], [(10 - n, w), (10, 40)], 0⟩ := by
  have e : n - n = 0 := by grind
  have e2 : (10 : Rat) - 0 = 10 := by grind
  have e3 : (0 : Rat) < 10 := by grind
  simp [cutF, cutStep, h0, h1, e, e2, e3, Rat.lt_irrefl]
theorem warm09 {v : Int} (h : 0 ≤ v) : (40 : Rat) < ((50 + v : Int) : Rat) := by
  have : ((40 : Int) : Rat) < ((50 + v : Int) : Rat) := Rat.intCast_lt_intCast.mpr (by omega)
  exact this
theorem falls09 {v : Int} (h : 0 ≤ v) : Falls [((10 : Rat), ((50 + v : Int) : Rat)), ((10 : Rat), (40 : Rat))] := falls_desc ⟨warm09 h, trivial⟩
theorem n09 {v : Int} (h : 0 ≤ v) (h1 : v < 9) : (0 : Rat) < ((1 + v : Int) : Rat) ∧ ((1 + v : Int) : Rat) < 10 := by
  have a : ((0 : Int) : Rat) < ((1 + v : Int) : Rat) := Rat.intCast_lt_intCast.mpr (by omega)
  have b : ((1 + v : Int) : Rat) < ((10 : Int) : Rat) := Rat.intCast_lt_intCast.mpr (by omega)
  exact ⟨a, b⟩
theorem sum09 {n w : Rat} (h : n < 10) : n ≤ tot (List.map (fun x => x.1) [((10 : Rat), w), ((10 : Rat), (40 : Rat))]) := by
  simp only [List.map_cons, List.map_nil, tot, List.foldl_cons, List.foldl_nil]
  grind
theorem falls09b {n w : Rat} (h : 40 < w) : Falls ([((10 : Rat) - n, w), (10, 40)] ++ [(n, 20)]) := falls_desc ⟨h, by show (20 : Rat) < 40; grind, trivial⟩
theorem lit09 {n w : Rat} : tot (List.map (fun x => x.1) ([((10 : Rat) - n, w), (10, 40)] ++ [(n, 20)])) = 20 := by
  simp only [List.map_cons, List.map_nil, List.cons_append, List.nil_append, tot, List.foldl_cons, List.foldl_nil]
  grind
theorem bd09 {v : Int} (h : 0 ≤ v) (h1 : v < 9) : Bd 64 ((10 : Rat) - ((1 + v : Int) : Rat)) := by
  have e : (10 : Rat) - ((1 + v : Int) : Rat) = ((9 - v : Int) : Rat) := by
    rw [show (9 - v : Int) = 10 - (1 + v) by omega, Rat.intCast_sub]; rfl
  rw [e]; exact bd64 (by omega) (by omega)
end Mine
open Mine
local macro_rules | `(tactic| kc_close) => `(tactic| ((fail_if_success (rename Final => fin')); (with_reducible show GoodW _ _ _ _ _ _ _); refine Hold.out ?_))
local macro_rules | `(tactic| wrow_close) => `(tactic| ((fail_if_success (rename Final => fin')); (with_reducible show GoodW _ _ _ _ _ _ _); refine Hold.out ?_))
local macro_rules | `(tactic| ktr_units) => `(tactic| (have hcL9 := cLine_is; (try simp only [units_under_make, units_in1, units_deeper, Around.mark_units, units_caller]); (try dsimp only [ktrTop]); omega))
local macro_rules | `(tactic| walk_at "binaryOp Mod int int") => `(tactic| (k_here; (with_reducible refine mod_gen ?mp ?_); (case mp => decide); intro v' v0' v1' vE'))
local macro_rules | `(tactic| k_all) => `(tactic| with_reducible assumption)
local macro_rules | `(tactic| walk_at "call ref") => `(tactic| (k_here; (with_reducible show wpAny _ _ (call (Value.ref 183) [Value.ref _]) _ _ _); refine Hold.out ?_))
local macro_rules | `(tactic| walk_at "call ref") => `(tactic| (k_here; (with_reducible show wpAny _ _ (call (Value.ref 173) [Value.ref _, Value.ref _, Value.ref _]) _ _ _); refine Hold.out ?_))
local macro_rules | `(tactic| walk_at "call ref") => `(tactic| (k_here; (with_reducible show wpAny _ _ (call (Value.ref 138) _ _) _ _ _); refine Hold.out ?_))
local macro_rules | `(tactic| walk_at "call ref") => `(tactic| (k_here; (with_reducible show wpAny _ _ (call (Value.ref 152) _ _) _ _ _); refine Hold.out ?_))
local macro_rules | `(tactic| walk_at "call ref") => `(tactic| (k_here; (with_reducible show wpAny _ _ (call (Value.ref 159) _ _) _ _ _); refine Hold.out ?_))
local macro_rules | `(tactic| walk_at "compareOp Eq ref ref") => `(tactic| (k_here; (with_reducible show wpAny _ _ (compareOp CmpOp.Eq (Value.ref _) (Value.ref _)) _ _ _); refine Hold.out ?_))
local macro_rules | `(tactic| walk_at "compareOp NotEq ref ref") => `(tactic| (k_here; (with_reducible show wpAny _ _ (compareOp CmpOp.NotEq (Value.ref _) (Value.ref _)) _ _ _); refine Hold.out ?_))
set_option maxRecDepth 100000 in
set_option maxHeartbeats 8000000 in
theorem PySem.Challenge.cw_ui0509_09_holds : PySem.Challenge.rw_ui0509_09.Holds :=
  Mine.hd (by
  k_go0; (all_goals try k_fold); k_steps
  all_goals (try unfold Hold)
  all_goals (try dsimp only)
  all_goals try (with_reducible show GoodW _ _ _ _ _ (Except.ok (Flow.ret (Value.bool true))) _; exact good_true (by assumption) (by assumption) rfl)
  rename_i v1 v10 v11 ve1 hh8 t2 v2 v20 v21 ve2 hh7 Da hha qa Db hhb qb Dc hhc qc Dd hhd qd De hhe qe Df hhf qf l0 hh0 F0 N0 qL
  k_dflt (refine' tank_new (P := Led _) (vs := [.ref Dc, .ref Df]) (ls := [((10 : Rat), ((50 + v2 : Int) : Rat)), ((10 : Rat), (40 : Rat))]) (b := 64) ?k1 ?k2 ?k3 ?k4 ?k5 ?k6 ?hP ?el ?hv ?hne ?hf ?hpos ?hb ?hb2 ?hbb ?hll ?k7 ?k8 ?_)
  case k1 => k_asm
  case k2 => k_asm
  case k3 => k_asm
  case k4 => k_asm
  case k5 => k_asm
  case k6 => first | exact rfl | assumption
  case hP => exact ledT
  case k7 => ktr_room
  case k8 => ktr_units
  case el => show (_, _) ∈ _; k_mem
  case hv => exact .cons (layL (by k_mem) (ratL (x := 10) (by k_mem)) (ratL (by k_mem))) (.cons (layL (by k_mem) (ratL (x := 10) (by k_mem)) (ratL (x := 40) (by k_mem))) .nil)
  case hne => exact List.cons_ne_nil _ _
  case hf => exact falls09 v20
  case hpos => exact lay2 (by show (0 : Rat) < 10; decide) (by show (0 : Rat) < 10; decide)
  case hb => exact lay2 (bd64 (x := 10) (by decide) (by decide)) (bd64 (x := 10) (by decide) (by decide))
  case hb2 => exact lay2 (bd64 (x := 50 + v2) (by omega) (by omega)) (bd64 (x := 40) (by decide) (by decide))
  case hbb => decide
  case hll => show 2 ≤ 100; decide
  intro x d k1 v tl h1 tk1 F1 N1 ndx nx nd tx td ntl L1
  obtain ⟨lt, vt, nt, rfl, plt, hvt⟩ := L1
  simp only [List.cons_append, List.nil_append] at N1
  replace ndx := neN ndx
  have nx' := allNe_of nx; simp only [AllNe, and_true] at nx'
  have nd' := allNe_of nd; simp only [AllNe, and_true] at nd'
  k_steps
  all_goals (try unfold Hold)
  rename_i Dn hhn qn Dt hht F2 N2 qt
  have h10 := n09 v10 v11
  have h40 := warm09 v20
  have hcut := cut09 (w := ((50 + v2 : Int) : Rat)) h10.1 h10.2
  have h79 := List.forall_mem_append.mpr ⟨fun p hp => And.intro (nx p hp) (nd p hp), fun p hp => And.intro (tx p hp) (td p hp)⟩
  have hG9 := ledG N2 (drop34 N2)
  k_dflt (refine' draw_c (x := x) (d := d) (vs := vt) (ls := [((10 : Rat), ((50 + v2 : Int) : Rat)), ((10 : Rat), (40 : Rat))]) (n0 := nt) (b := 64) (bx := 64) (bw := 64) (rx := ((1 + v1 : Int) : Rat)) (rw' := 20) ?k1 ?k2 ?k3 ?k4 ?k5 ?k6 ?ex0 ?U ?ndx hG9 ?hPn ?el ?hv ?hne ?hb ?hlen ?hll ?ex ?hbx ?hx0 ?hx1 ?h1x ?hlen2 ?ew ?hbw ?hbw2 ?hf ?hbl ?k7 ?k8 ?_)
  case k1 => k_asm
  case k2 => k_asm
  case k3 => k_asm
  case k4 => k_asm
  case k5 => k_asm
  case k6 => first | exact rfl | assumption
  case k7 => ktr_room
  case k8 => ktr_units
  case ex0 => k_mem
  case U => k_updF
  case ndx => exact ndx
  case hPn => exact ledNe (List.forall_mem_cons.mpr ⟨⟨neN (by omega), neN (by omega)⟩, List.forall_mem_cons.mpr ⟨⟨neN (by omega), neN (by omega)⟩, h79⟩⟩)
  case el => exact pt9 _ _ plt
  case hv => exact hvt.mono fun _ _ y => y.mono pt9
  case hne => exact List.cons_ne_nil _ _
  case hb => exact lay2 (bd64 (x := 10) (by decide) (by decide)) (bd64 (x := 10) (by decide) (by decide))
  case hlen => show 2 * 65 + 1 ≤ 6643; decide
  case hll => show 2 ≤ 100; decide
  case ex => exact inL (by k_mem)
  case hbx => exact bd64 (by omega) (by omega)
  case hx0 => exact h10.1
  case hx1 => exact sum09 h10.2
  case h1x => decide
  case hlen2 => show 2 * (64 + 2 * 65) + 64 + 2 ≤ 6643; decide
  case ew => exact inL (x := 20) (by k_mem)
  case hbw => exact bd64 (x := 20) (by decide) (by decide)
  case hbw2 => decide
  case hf => rw [hcut]; exact falls09b h40
  case hbl => rw [hcut]; exact lay3 (bd64 (x := 50 + v2) (by omega) (by omega)) (bd64 (x := 40) (by decide) (by decide)) (bd64 (x := 20) (by decide) (by decide))

  intro vo v' tl2 h2 tk2 F3 N3 ntl2 Lo Lv
  rw [hcut] at Lo Lv
  dsimp only at Lo Lv
  have Lo' := Lo
  obtain ⟨lo, vso, no, rfl, plo, hvo⟩ := Lo
  obtain ⟨l5, v5, n5, rfl, pl5, hv5⟩ := Lv
  (try dsimp only at N3)
  simp only [List.cons_append, List.nil_append] at N3
  k_steps
  unfold Hold
  (rename News _ _ _ _ => N4)
  refine ne_rd (d := .list (List.map layP [(((1 + v1 : Int) : Rat), ((50 + v2 : Int) : Rat))])) (LaysN.rd (ptG N4 (List.forall_mem_cons.mpr ⟨by k_mem, List.forall_mem_cons.mpr ⟨by k_mem, List.forall_mem_cons.mpr ⟨by k_mem, List.forall_mem_cons.mpr ⟨by k_mem, List.forall_mem_cons.mpr ⟨by k_mem, List.forall_mem_cons.mpr ⟨by k_mem, List.forall_mem_cons.mpr ⟨by k_mem, List.forall_mem_cons.mpr ⟨by k_mem, List.forall_mem_cons.mpr ⟨by k_mem, (by intro p9 hp9; simp only [List.mem_cons, List.mem_append]; simp only [hp9, true_or, or_true])⟩⟩⟩⟩⟩⟩⟩⟩⟩) (by intro p9 hp9; simp only [List.mem_cons, List.mem_append]; simp only [hp9, true_or, or_true])) Lo') (Rd.list (vs := [_]) (N4.get (by k_mem)) (.cons (Rd.tuple (vs := [_, _]) (N4.get (by k_mem)) (.cons (T2_rd (N4.get (by k_mem))) (.cons (T2_rd (N4.get (by k_mem))) .nil))) .nil)) (by rfl) ?hu ?_
  case hu => ktr_units
  k_steps
  unfold Hold
  (rename News _ _ _ _ => N5)
  k_dflt (refine' litres_c (b := 64) ?k1 ?k2 ?k3 ?k4 ?k5 ?k6 ?gx ?gd (ptG N5 (List.forall_mem_cons.mpr ⟨by k_mem, List.forall_mem_cons.mpr ⟨by k_mem, List.forall_mem_cons.mpr ⟨by k_mem, List.forall_mem_cons.mpr ⟨by k_mem, List.forall_mem_cons.mpr ⟨by k_mem, List.forall_mem_cons.mpr ⟨by k_mem, List.forall_mem_cons.mpr ⟨by k_mem, List.forall_mem_cons.mpr ⟨by k_mem, List.forall_mem_cons.mpr ⟨by k_mem, (by intro p9 hp9; simp only [List.mem_cons, List.mem_append]; simp only [hp9, true_or, or_true])⟩⟩⟩⟩⟩⟩⟩⟩⟩) (by intro p9 hp9; simp only [List.mem_cons, List.mem_append]; simp only [hp9, true_or, or_true])) pl5 hv5 ?hne ?hb ?hlen ?k7 ?k8 ?_)
  case k1 => k_asm
  case k2 => k_asm
  case k3 => k_asm
  case k4 => k_asm
  case k5 => k_asm
  case k6 => first | exact rfl | assumption
  case k7 => ktr_room
  case k8 => ktr_units
  case gx => exact News.get (by k_asm) (by k_mem)
  case gd => exact News.get (by k_asm) (by k_mem)
  case hne => exact List.cons_ne_nil _ _
  case hb => exact lay3 (bd09 v10 v11) (bd64 (x := 10) (by decide) (by decide)) (bd64 (by omega) (by omega))
  case hlen => show 3 * 65 + 1 ≤ 6643; decide

  intro D5 t5 u5 c5 h5 tk5 b5 F5 N5' l5
  replace l5 := allNe_of l5; simp only [AllNe, and_true] at l5
  k_steps
  unfold Hold
  (rename News _ _ _ _ => N6)
  k_dflt (refine' top_c ?k1 ?k2 ?k3 ?k4 ?k5 ?k6 ?gx ?gd (ptG N6 (List.forall_mem_cons.mpr ⟨by k_mem, List.forall_mem_cons.mpr ⟨by k_mem, List.forall_mem_cons.mpr ⟨by k_mem, List.forall_mem_cons.mpr ⟨by k_mem, List.forall_mem_cons.mpr ⟨by k_mem, List.forall_mem_cons.mpr ⟨by k_mem, List.forall_mem_cons.mpr ⟨by k_mem, List.forall_mem_cons.mpr ⟨by k_mem, List.forall_mem_cons.mpr ⟨by k_mem, (by intro p9 hp9; simp only [List.mem_cons, List.mem_append]; simp only [hp9, true_or, or_true])⟩⟩⟩⟩⟩⟩⟩⟩⟩) (by intro p9 hp9; simp only [List.mem_cons, List.mem_append]; simp only [hp9, true_or, or_true])) pl5 hv5 (la := ((10 : Rat) - ((1 + v1 : Int) : Rat), ((50 + v2 : Int) : Rat))) ?hla ?hll ?k7 ?k8 ?_)
  case k1 => k_asm
  case k2 => k_asm
  case k3 => k_asm
  case k4 => k_asm
  case k5 => k_asm
  case k6 => first | exact rfl | assumption
  case k7 => ktr_room
  case k8 => ktr_units
  case gx => exact News.get (by k_asm) (by k_mem)
  case gd => exact News.get (by k_asm) (by k_mem)
  case hla => rfl
  case hll => show 3 ≤ 1000; decide

  intro vt6 h6 tk6 F6 N6' r6
  k_steps
  unfold Hold
  (rename News _ _ _ _ => N7)
  k_dflt (refine' bottom_c ?k1 ?k2 ?k3 ?k4 ?k5 ?k6 ?gx ?gd (ptG N7 (List.forall_mem_cons.mpr ⟨by k_mem, List.forall_mem_cons.mpr ⟨by k_mem, List.forall_mem_cons.mpr ⟨by k_mem, List.forall_mem_cons.mpr ⟨by k_mem, List.forall_mem_cons.mpr ⟨by k_mem, List.forall_mem_cons.mpr ⟨by k_mem, List.forall_mem_cons.mpr ⟨by k_mem, List.forall_mem_cons.mpr ⟨by k_mem, List.forall_mem_cons.mpr ⟨by k_mem, (by intro p9 hp9; simp only [List.mem_cons, List.mem_append]; simp only [hp9, true_or, or_true])⟩⟩⟩⟩⟩⟩⟩⟩⟩) (by intro p9 hp9; simp only [List.mem_cons, List.mem_append]; simp only [hp9, true_or, or_true])) pl5 hv5 (la := (((1 + v1 : Int) : Rat), (20 : Rat))) ?hla ?hll ?k7 ?k8 ?_)
  case k1 => k_asm
  case k2 => k_asm
  case k3 => k_asm
  case k4 => k_asm
  case k5 => k_asm
  case k6 => first | exact rfl | assumption
  case k7 => ktr_room
  case k8 => ktr_units
  case gx => exact News.get (by k_asm) (by k_mem)
  case gd => exact News.get (by k_asm) (by k_mem)
  case hla => rfl
  case hll => show 3 ≤ 1000; decide

  intro vb7 h7 tk7 F7 N7' r7
  k_steps
  unfold Hold
  (rename News _ _ _ _ => N8)
  refine eq_rd (d := .list [.tuple [.int 20, .int 1], .tuple [.int (50 + v2), .int 1], .tuple [.int 20, .int 1]])
    (Rd.list (vs := [_, _, _]) (N8.get (by k_mem)) (.cons (RatN.rd' (P := Led _) (ledG N8 fun _ h => h) (ratR (by k_mem)) lit09) (.cons (RatN.rd' (ptG N8 (List.forall_mem_cons.mpr ⟨by k_mem, List.forall_mem_cons.mpr ⟨by k_mem, List.forall_mem_cons.mpr ⟨by k_mem, List.forall_mem_cons.mpr ⟨by k_mem, List.forall_mem_cons.mpr ⟨by k_mem, List.forall_mem_cons.mpr ⟨by k_mem, List.forall_mem_cons.mpr ⟨by k_mem, List.forall_mem_cons.mpr ⟨by k_mem, List.forall_mem_cons.mpr ⟨by k_mem, (by intro p9 hp9; simp only [List.mem_cons, List.mem_append]; simp only [hp9, true_or, or_true])⟩⟩⟩⟩⟩⟩⟩⟩⟩) (by intro p9 hp9; simp only [List.mem_cons, List.mem_append]; simp only [hp9, true_or, or_true])) r6 rfl) (.cons (RatN.rd' (x := 20) (ptG N8 (List.forall_mem_cons.mpr ⟨by k_mem, List.forall_mem_cons.mpr ⟨by k_mem, List.forall_mem_cons.mpr ⟨by k_mem, List.forall_mem_cons.mpr ⟨by k_mem, List.forall_mem_cons.mpr ⟨by k_mem, List.forall_mem_cons.mpr ⟨by k_mem, List.forall_mem_cons.mpr ⟨by k_mem, List.forall_mem_cons.mpr ⟨by k_mem, List.forall_mem_cons.mpr ⟨by k_mem, (by intro p9 hp9; simp only [List.mem_cons, List.mem_append]; simp only [hp9, true_or, or_true])⟩⟩⟩⟩⟩⟩⟩⟩⟩) (by intro p9 hp9; simp only [List.mem_cons, List.mem_append]; simp only [hp9, true_or, or_true])) r7 rfl) .nil))))
    (Rd.list (vs := [_, _, _]) (N8.get (by k_mem)) (.cons (T2_rd (N8.get (by k_mem))) (.cons (T2_rd (N8.get (by k_mem))) (.cons (T2_rd (N8.get (by k_mem))) .nil)))) (by rfl) ?hu ?_
  case hu => ktr_units
  k_steps
  all_goals (try unfold Hold)
  all_goals (try dsimp only)
  exact good_true (by assumption) (by assumption) rfl)

