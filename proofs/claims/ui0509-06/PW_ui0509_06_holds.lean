import PyProof.Rows.All
import Wide.All
import OpenK.AllK
import Wide.FinOn
import PySem.Challenge.RW_ui0509_06
open PySem PySem.W PyProof.Rows PySem.Spec PySem.Calls
set_option Elab.async false
set_option maxRecDepth 100000
set_option maxHeartbeats 8000000
namespace Mine
open_top hd for PySem.Challenge.rw_ui0509_06
-- a call over a part of the ledger: the callee walks over NEED alone; the rest of the ledger is kept by its ground
def restOf (news need : List (Addr × Obj)) : List (Addr × Obj) := news.filter fun p => !(need.map (·.1)).contains p.1
theorem mem_rest {news need : List (Addr × Obj)} {p : Addr × Obj} (h : p ∈ news) (hn : p.1 ∉ need.map (·.1)) : p ∈ restOf news need :=
  List.mem_filter.mpr ⟨h, by simpa [List.contains_iff_mem] using hn⟩
theorem rest_mem {news need : List (Addr × Obj)} {p : Addr × Obj} (h : p ∈ restOf news need) : p ∈ news ∧ p.1 ∉ need.map (·.1) := by
  obtain ⟨h1, h2⟩ := List.mem_filter.mp h
  exact ⟨h1, by simpa [List.contains_iff_mem] using h2⟩
theorem mem_rest0 {news : List (Addr × Obj)} {p : Addr × Obj} (h : p ∈ news) : p ∈ restOf news [] := mem_rest h (by simp)
def LeaveN (h₀ : Heap) (L : Addr) (m : Str → Option Value) (g : Heap) (news need : List (Addr × Obj)) (R : Result → Shared → Prop) (v : Value) (s' : Shared) : Prop :=
  ∃ L' m' news', Fr g L' s'.heap m' ∧ News g L' s'.heap news' ∧ (Fr h₀ L s'.heap m → News h₀ L s'.heap news' → News h₀ L s'.heap (restOf news need) → (∀ p ∈ restOf news need, ∀ q ∈ news', p.1 ≠ q.1) → R (.ok (.ret v)) s')
theorem leaveN_ {h₀ g : Heap} {L L' : Addr} {m m' : Str → Option Value} {news need news' : List (Addr × Obj)} {R : Result → Shared → Prop} {v : Value} {s' : Shared} (F' : Fr g L' s'.heap m') (N' : News g L' s'.heap news')
    (k : Fr h₀ L s'.heap m → News h₀ L s'.heap news' → News h₀ L s'.heap (restOf news need) → (∀ p ∈ restOf news need, ∀ q ∈ news', p.1 ≠ q.1) → R (.ok (.ret v)) s') : LeaveN h₀ L m g news need R v s' := ⟨L', m', news', F', N', k⟩
theorem leaveN_K {h₀ h g : Heap} {L : Addr} {m : Str → Option Value} {news need : List (Addr × Obj)} {R : Result → Shared → Prop} {v : Value} {s' : Shared} (N : News h₀ L h news) (hg : g = hideAll h (need.map (·.1)))
    (hl : LeaveN h₀ L m g news need R v s') : LeaveK h₀ L m g R v s' := by
  obtain ⟨L', m', news', F', N', k⟩ := hl
  have keep : ∀ p ∈ restOf news need, g.get? p.1 = some p.2 := fun p hp => by
    obtain ⟨h1, h2⟩ := rest_mem hp
    rw [hg]
    exact hideAll_get _ (N p h1).1 h2
  refine ⟨L', m', news', F', N', fun a b => k a b (fun p hp => ⟨F'.keep _ _ (keep p hp), (N p (rest_mem hp).1).2⟩) fun p hp q hq e => ?_⟩
  have h1 := keep p hp
  rw [e, (N' q hq).2.2] at h1
  cases h1
theorem news_back {h₀ h h' : Heap} {L : Addr} {news need full : List (Addr × Obj)} (N : News h₀ L h news) (hn : ∀ p ∈ need, p ∈ news) (N1 : News h₀ L h' full) (hf : ∀ p ∈ need, p ∈ full)
    (N2 : News h₀ L h' (restOf news need)) : News h₀ L h' news := by
  intro p hp
  by_cases q : p.1 ∈ need.map (·.1)
  · obtain ⟨p', hp', e⟩ := List.mem_map.mp q
    have h1 := (N p' (hn p' hp')).1
    have h2 := (N p hp).1
    rw [e, h2] at h1
    have : p = p' := Prod.ext e.symm (Option.some.inj h1)
    rw [this]
    exact N1 _ (hf _ hp')
  · exact N2 p (mem_rest hp q)
theorem news_all {h₀ h' : Heap} {L : Addr} {news : List (Addr × Obj)} (N2 : News h₀ L h' (restOf news [])) : News h₀ L h' news := fun p hp => N2 p (mem_rest0 hp)
theorem news_cons {h₀ h' : Heap} {L : Addr} {news : List (Addr × Obj)} {p : Addr × Obj} {full : List (Addr × Obj)} (N1 : News h₀ L h' full) (hp : p ∈ full) (N : News h₀ L h' news) : News h₀ L h' (p :: news) := by
  intro q hq
  rcases List.mem_cons.mp hq with rfl | hq
  · exact N1 _ hp
  · exact N q hq
theorem rest_two {news : List (Addr × Obj)} {x d : Addr} {ox od : Obj} (l0 : ∀ p ∈ news, p.1 < d) (l00 : d < x) {p : Addr × Obj} (hp : p ∈ news) : p ∈ restOf ((x, ox) :: (d, od) :: news) [(x, ox), (d, od)] := by
  refine mem_rest (List.mem_cons_of_mem _ (List.mem_cons_of_mem _ hp)) ?_
  have h1 := l0 p hp
  simp only [List.map_cons, List.map_nil, List.mem_cons, List.not_mem_nil, or_false, not_or]
  exact ⟨Nat.ne_of_lt (Nat.lt_trans h1 l00), Nat.ne_of_lt h1⟩
theorem ne_all {news full : List (Addr × Obj)} {q : Addr × Obj} (hd : ∀ p ∈ restOf news [], ∀ q ∈ full, p.1 ≠ q.1) (hq : q ∈ full) : ∀ p ∈ news, p.1 ≠ q.1 := fun p hp => hd p (mem_rest0 hp) q hq
def AllNe (d : Nat) : List (Addr × Obj) → Prop
  | [] => True
  | p :: r => (@Ne Nat p.1 d) ∧ AllNe d r
theorem allNe_of {d : Addr} : ∀ {l : List (Addr × Obj)}, (∀ p ∈ l, p.1 ≠ d) → AllNe d l
  | [], _ => trivial
  | p :: _, h => ⟨h p (.head _), allNe_of fun q hq => h q (.tail _ hq)⟩
section
variable {prog : Program} {w : World} {A A₀ : Around} {s : Shared} {K : Frag} {L : Addr} {h₀ base : Heap} {m mg mb : Str → Option Value} {news : List (Addr × Obj)} {p : Program} {loose : List Str} {mean : ExcName → Option Value}
theorem code_need (need : List (Addr × Obj)) {env : Env} {outer : List Env} {R : Result → Shared → Prop} {name qual : Str} {params : Arguments} {body : List Stmt} {scope : Scope} {dV kV doc pm cdv ct oc : Value} {an od : Option Addr} {osl : Array (Option Value)} {f : Addr} {args : Args} {binds : List (Str × Value)}
    (B : Below A₀ base outer h₀) (F : Fr h₀ L s.heap m) (X₀ : K.In h₀) (N : News h₀ L s.heap news) (T : Top p loose mean mg mb h₀) (hA : A.frames = some (env :: outer)) (hf : env.frame = some L) (hke : env.scope.kind = .function)
    (ho : K.lookup f = some ⟨oc, od, .func (fnOf name qual params body scope dV kV doc pm an cdv ct), osl⟩) (hcd : codeIn K cdv qual = true) (hroom : A.depth < recursionLimit)
    (hbind : BindsTo s (fnOf name qual params body scope dV kV doc pm an cdv ct) args binds) (hloc : ∀ y ∈ binds, scope.names.lookup y.1 = some .local) (hn : ∀ p ∈ need, p ∈ news)
    (h : ∀ g L' h₁ tk, Fr h₀ L g m → Fr g L' h₁ (fun y => binds.reverse.lookup y) → News g L' h₁ need → Below A base (env :: outer) g → K.In g → Top p loose mean mg mb g → (∀ b o, s.heap.get? b = some o → b ∉ need.map (·.1) → g.get? b = some o) →
      wpAny (model prog w) (A.deeper (envOf qual scope L' f cdv)) (execs body (envOf qual scope L' f cdv))
        (fun fl s' => LeaveN h₀ L m g news need R (match fl with | .ret v => v | _ => .none) s')
        (fun e s' => wpAny (model prog w) (A.deeper (envOf qual scope L' f cdv)) (leaving (envOf qual scope L' f cdv) e) (fun _ s'' => R (.error e) s'') (fun e' s'' => R (.error e') s'') s')
        { s with heap := h₁, toks := tk })
    (hco : scope.isCoroutine = false) (hgen : scope.isGenerator = false) (hk : scope.kind = .function)
    (hcell : ∀ x ∈ scope.names, x.2 ≠ .cell) : codeAny (model prog w) A (.call (.ref f) args) R s := by
  have N0 : News h₀ L s.heap need := fun p hp => N p (hn p hp)
  obtain ⟨FG, BG, st, lv⟩ := groundX (R := R) B F N0 hA hf hke
  refine codeAny_call_def (fd := fnOf name qual params body scope dV kV doc pm an cdv ct) (body := body) (binds := binds) hroom ((X₀.keeps F.keep) _ _ ho) rfl (T.nolimit.keeps F.keep) (codeRec_of (X₀.keeps F.keep) hcd) rfl hbind hcell hloc (fun h₁ hns hk₁ => ?_) hco hgen hk
  exact wpAny_mono (h _ s.heap.objs.size h₁ _ FG ⟨hns, fun b o e => hk₁ b o (of_hideAll _ e), Nat.le_of_eq (hideAll_size _ _)⟩
    (fun p hp => ⟨hk₁ _ _ (N0 p hp).1, Nat.ne_of_lt (Heap.lt_size (N0 p hp).1), hideAll_none _ (List.mem_map_of_mem hp)⟩) BG (X₀.keeps st) (T.keeps st) (fun b o e n => hideAll_get _ e n)) (fun fl s' hl => lv _ _ (leaveN_K N rfl hl)) fun _ _ y => y
theorem code_needC (need : List (Addr × Obj)) {env : Env} {outer : List Env} {R : Result → Shared → Prop} {name qual : Str} {params : Arguments} {body : List Stmt} {scope : Scope} {dV kV doc pm cdv ct oc : Value} {an od : Option Addr} {osl : Array (Option Value)} {f : Addr} {args : Args} {binds : List (Str × Value)}
    (B : Below A₀ base outer h₀) (F : Fr h₀ L s.heap m) (X₀ : K.In h₀) (N : News h₀ L s.heap news) (T : Top p loose mean mg mb h₀) (hA : A.frames = some (env :: outer)) (hf : env.frame = some L) (hke : env.scope.kind = .function)
    (ho : K.lookup f = some ⟨oc, od, .func (fnOf name qual params body scope dV kV doc pm an cdv ct), osl⟩) (hcd : codeIn K cdv qual = true) (hroom : A.depth < recursionLimit)
    (hbind : BindsTo s (fnOf name qual params body scope dV kV doc pm an cdv ct) args binds) (hkind : (binds.all fun y => scope.names.lookup y.1 == some .local || scope.names.lookup y.1 == some .cell) = true)
    (hnd : ((cellsFrom 0 scope.names []).map (·.1)).Nodup) (hn : ∀ p ∈ need, p ∈ news)
    (h : ∀ g L' h₁ tk cells, Fr h₀ L g m → Fr g L' h₁ (bindL (envOfC qual scope L' f cdv).kindOf binds fun _ => none) → News g L' h₁ (cells ++ need) →
      CellsAre (bindC (envOfC qual scope L' f cdv).kindOf binds fun _ => none) (cellsFrom (L' + 1) scope.names []) cells → Below A base (env :: outer) g → K.In g → Top p loose mean mg mb g → (∀ p ∈ need, p.1 < L') → (∀ b o, s.heap.get? b = some o → b ∉ need.map (·.1) → g.get? b = some o) →
      wpAny (model prog w) (A.deeper (envOfC qual scope L' f cdv)) (execs body (envOfC qual scope L' f cdv))
        (fun fl s' => LeaveN h₀ L m g news need R (match fl with | .ret v => v | _ => .none) s')
        (fun e s' => wpAny (model prog w) (A.deeper (envOfC qual scope L' f cdv)) (leaving (envOfC qual scope L' f cdv) e) (fun _ s'' => R (.error e) s'') (fun e' s'' => R (.error e') s'') s')
        { s with heap := h₁, toks := tk })
    (hco : scope.isCoroutine = false) (hgen : scope.isGenerator = false) (hk : scope.kind = .function) : codeAny (model prog w) A (.call (.ref f) args) R s := by
  have N0 : News h₀ L s.heap need := fun p hp => N p (hn p hp)
  obtain ⟨FG, BG, st, lv⟩ := groundX (R := R) B F N0 hA hf hke
  refine codeAny_call_function hroom ((X₀.keeps F.keep) _ _ ho) rfl hco hgen rfl (codeRec_of (X₀.keeps F.keep) hcd) (hbind _ _ _ _ ?_)
  refine wpAny_newFunctionEnv_cells hk (kindsX hkind _) fun env' he s' x => ?_
  subst he
  refine ⟨(T.nolimit.keeps F.keep).keeps x.toInCall.keep, codeAny_func ?_⟩
  obtain ⟨h₁, tk, rfl, _⟩ := x.done
  have hk₁ := x.toInCall.keep
  obtain ⟨cells, NC, Y⟩ := Cl.news (h₀ := s.heap) (Nat.le_refl _) fun n c hm => ⟨x.cell n c (lookup_of_mem_nodup (cellsFrom_names scope.names 0 (s.heap.objs.size + 1) [] [] rfl ▸ hnd) hm), x.above n c hm⟩
  refine wpAny_mono (h _ s.heap.objs.size h₁ tk cells FG ⟨x.toInCall.ns, fun b o e => hk₁ b o (of_hideAll _ e), Nat.le_of_eq (hideAll_size _ _)⟩ (fun p hp => ?_) Y BG (X₀.keeps st) (T.keeps st) (fun p hp => Heap.lt_size (N0 p hp).1) (fun b o e n => hideAll_get _ e n)) (fun fl s' hl => lv _ _ (leaveN_K N rfl hl)) fun _ _ y => y
  rcases List.mem_append.mp hp with hp | hp
  · refine ⟨(NC p hp).1, (NC p hp).2.1, ?_⟩
    cases q : (hideAll s.heap (need.map (·.1))).get? p.1 with
    | none => rfl
    | some o => have := of_hideAll _ q; rw [(NC p hp).2.2] at this; cases this
  · exact ⟨hk₁ _ _ (N0 p hp).1, Nat.ne_of_lt (Heap.lt_size (N0 p hp).1), hideAll_none _ (List.mem_map_of_mem hp)⟩
end
theorem news_upd2 {h₀ h h' : Heap} {L x d l : Addr} {ox od od' ol ol' : Obj} {news news1 full : List (Addr × Obj)} {g1 : Obj → List (Addr × Obj)} (N : News h₀ L h news) (ex : (x, ox) ∈ news) (U2 : Upd d od od' news news1) (U1 : UpdF l ol news1 g1)
    (N1 : News h₀ L h' full) (fx : (x, ox) ∈ full) (fd : (d, od') ∈ full) (fl : (l, ol') ∈ full) (kR : News h₀ L h' (restOf news [(x, ox), (d, od), (l, ol)])) : News h₀ L h' (g1 ol') := by
  obtain ⟨p1, q1, e1, e1', a1, b1⟩ := U2.split
  obtain ⟨p2, q2, e2, e2', a2, b2⟩ := U1.split
  intro p hp
  rw [e2'] at hp
  have main : p = (l, ol') ∨ (p ∈ news1 ∧ p.1 ≠ l) := by
    rcases List.mem_append.mp hp with h | h
    · exact .inr ⟨by rw [e2]; exact List.mem_append.mpr (.inl h), a2 p h⟩
    · rcases List.mem_cons.mp h with h | h
      · exact .inl h
      · exact .inr ⟨by rw [e2]; exact List.mem_append.mpr (.inr (List.mem_cons_of_mem _ h)), b2 p h⟩
  rcases main with rfl | ⟨hp, hl⟩
  · exact N1 _ fl
  rw [e1'] at hp
  have main2 : p = (d, od') ∨ (p ∈ news ∧ p.1 ≠ d) := by
    rcases List.mem_append.mp hp with h | h
    · exact .inr ⟨by rw [e1]; exact List.mem_append.mpr (.inl h), a1 p h⟩
    · rcases List.mem_cons.mp h with h | h
      · exact .inl h
      · exact .inr ⟨by rw [e1]; exact List.mem_append.mpr (.inr (List.mem_cons_of_mem _ h)), b1 p h⟩
  rcases main2 with rfl | ⟨hp, hd⟩
  · exact N1 _ fd
  by_cases hx : p.1 = x
  · have h1 := (N p hp).1
    have h2 := (N _ ex).1
    rw [hx, h2] at h1
    have : p = (x, ox) := Prod.ext hx (Option.some.inj h1).symm
    rw [this]
    exact N1 _ fx
  · exact kR p (mem_rest hp (by simp only [List.map_cons, List.map_nil, List.mem_cons, List.not_mem_nil, or_false, not_or]; exact ⟨hx, hd, hl⟩))
theorem ne_three {news full : List (Addr × Obj)} {x d l : Addr} {ox od ol : Obj} {q : Addr × Obj} (kD : ∀ p ∈ restOf news [(x, ox), (d, od), (l, ol)], ∀ q ∈ full, p.1 ≠ q.1) (hq : q ∈ full) (hx : x ≠ q.1) (hd : d ≠ q.1) (hl : l ≠ q.1) : ∀ p ∈ news, p.1 ≠ q.1 := by
  intro p hp
  by_cases h1 : p.1 = x
  · rw [h1]; exact hx
  by_cases h2 : p.1 = d
  · rw [h2]; exact hd
  by_cases h3 : p.1 = l
  · rw [h3]; exact hl
  exact kD p (mem_rest hp (by simp only [List.map_cons, List.map_nil, List.mem_cons, List.not_mem_nil, or_false, not_or]; exact ⟨h1, h2, h3⟩)) q hq
theorem three_in {news : List (Addr × Obj)} {a b c : Addr × Obj} (h1 : a ∈ news) (h2 : b ∈ news) (h3 : c ∈ news) : ∀ p ∈ [a, b, c], p ∈ news :=
  List.forall_mem_cons.mpr ⟨h1, List.forall_mem_cons.mpr ⟨h2, List.forall_mem_cons.mpr ⟨h3, List.forall_mem_nil _⟩⟩⟩
theorem Upd.mem {d : Addr} {o o' : Obj} {l l' : List (Addr × Obj)} (U : Upd d o o' l l') : (d, o) ∈ l := by
  obtain ⟨p, q, e, _, _, _⟩ := U.split; rw [e]; exact List.mem_append.mpr (.inr (.head _))
theorem Upd.other {d : Addr} {o o' : Obj} {l l' : List (Addr × Obj)} (U : Upd d o o' l l') {p : Addr × Obj} (h : p ∈ l') (hd : p.1 ≠ d) : p ∈ l := by
  obtain ⟨p1, q1, e1, e1', _, _⟩ := U.split
  rw [e1'] at h; rw [e1]
  rcases List.mem_append.mp h with h | h
  · exact List.mem_append.mpr (.inl h)
  · rcases List.mem_cons.mp h with h | h
    · rw [h] at hd; exact absurd rfl hd
    · exact List.mem_append.mpr (.inr (List.mem_cons_of_mem _ h))
theorem UpdF.mem {d : Addr} {o : Obj} {l : List (Addr × Obj)} {g : Obj → List (Addr × Obj)} (U : UpdF d o l g) : (d, o) ∈ l := by
  obtain ⟨p, q, e, _, _, _⟩ := U.split; rw [e]; exact List.mem_append.mpr (.inr (.head _))
-- the gcd loop, as plain numbers
theorem gcd_turn {a b : Int} (hb : 0 < b) : Int.gcd b (a.fmod b) = Int.gcd a b := by
  rw [Int.fmod_eq_emod_of_nonneg _ (by omega), Int.gcd_comm a b]
  conv => rhs; rw [← Int.mul_ediv_add_emod a b]
  rw [Int.gcd_mul_left_add_right]
theorem dv_turn {a b : Int} {g : Nat} (hb : b > 0) (h : Int.gcd a b = g) : 0 ≤ b ∧ 0 ≤ a.fmod b ∧ Int.gcd b (a.fmod b) = g :=
  ⟨by omega, by rw [Int.fmod_eq_emod_of_nonneg _ (by omega)]; exact Int.emod_nonneg _ (by omega), by rw [gcd_turn hb]; exact h⟩
theorem dv_less {a b : Int} (hb : b > 0) : (a.fmod b).toNat < b.toNat := by
  have h1 : a.fmod b = a % b := Int.fmod_eq_emod_of_nonneg _ (by omega)
  have h2 := Int.emod_nonneg a (show b ≠ 0 by omega)
  have h3 := Int.emod_lt_of_pos a (show 0 < b by omega)
  omega
theorem dv_end {x y a b : Int} (ha : 0 ≤ a) (hb : 0 ≤ b) (hn : ¬ b > 0) (h : Int.gcd a b = Int.gcd (if x < 0 then -x else x) (if y < 0 then -y else y)) : a = ((Int.gcd x y : Nat) : Int) := by
  have e : b = 0 := by omega
  subst e
  rw [Int.gcd_zero] at h
  have h1 : Int.gcd (if x < 0 then -x else x) (if y < 0 then -y else y) = Int.gcd x y := by
    split <;> split <;> simp
  omega
-- fractions as rationals
theorem num_p {x y g : Int} (h : ¬ y < 0) (h0 : y ≠ 0) (e : g = ((Int.gcd x y : Nat) : Int)) : x.fdiv g = (Rat.divInt x y).num := by
  rw [e, Rat.num_divInt, Int.sign_eq_one_of_pos (by omega), Int.one_mul, Int.gcd_comm, Int.fdiv_eq_ediv_of_nonneg _ (by omega)]
theorem den_p {x y g : Int} (h : ¬ y < 0) (h0 : y ≠ 0) (e : g = ((Int.gcd x y : Nat) : Int)) : y.fdiv g = ((Rat.divInt x y).den : Int) := by
  rw [e, Rat.den_divInt, if_neg (by omega), Int.gcd_comm, Int.fdiv_eq_ediv_of_nonneg _ (by omega), Int.natCast_ediv]
  congr 1
  omega
theorem num_n {x y g : Int} (h : y < 0) (e : g = ((Int.gcd (-x) (-y) : Nat) : Int)) : (-x).fdiv g = (Rat.divInt x y).num := by
  rw [← Rat.neg_divInt_neg]; exact num_p (by omega) (by omega) e
theorem den_n {x y g : Int} (h : y < 0) (e : g = ((Int.gcd (-x) (-y) : Nat) : Int)) : (-y).fdiv g = ((Rat.divInt x y).den : Int) := by
  rw [← Rat.neg_divInt_neg]; exact den_p (by omega) (by omega) e
theorem num_le (u l : Int) : (Rat.divInt u l).num.natAbs ≤ u.natAbs := by
  rw [Rat.num_divInt]
  refine Nat.le_trans (Int.natAbs_ediv_le_natAbs _ _) ?_
  rcases Int.lt_trichotomy l 0 with h | h | h
  · rw [Int.sign_eq_neg_one_of_neg h]; omega
  · subst h; simp
  · rw [Int.sign_eq_one_of_pos h]; omega
theorem den_le {u l : Int} (h : l ≠ 0) : (Rat.divInt u l).den ≤ l.natAbs := by
  rw [Rat.den_divInt, if_neg h]
  exact Nat.div_le_self _ _
theorem r_plus (r q : Rat) : Rat.divInt (r.num * q.den + q.num * r.den) (r.den * q.den) = r + q := by
  rw [Rat.add_def', ← Rat.divInt_ofNat]; rfl
theorem r_minus (r q : Rat) : Rat.divInt (r.num * q.den - q.num * r.den) (r.den * q.den) = r - q := by
  rw [Rat.sub_def', ← Rat.divInt_ofNat]; rfl
theorem r_times (r q : Rat) : Rat.divInt (r.num * q.num) (r.den * q.den) = r * q := by
  rw [Rat.mul_def', ← Rat.divInt_ofNat]; rfl
theorem r_over (r q : Rat) : Rat.divInt (r.num * q.den) (r.den * q.num) = r / q := by
  rw [Rat.div_def, Rat.inv_def]
  conv => rhs; rw [← Rat.num_divInt_den r]
  rw [Rat.divInt_mul_divInt]
theorem r_int (n : Int) : Rat.divInt n 1 = (n : Rat) := by
  rw [Rat.divInt_eq_div]; grind
theorem rat_eq {r q : Rat} : (r.num = q.num ∧ (r.den : Int) = (q.den : Int)) ↔ r = q := by
  constructor
  · rintro ⟨a, b⟩; exact Rat.ext a (by omega)
  · rintro rfl; exact ⟨rfl, rfl⟩
theorem nzmul {a b : Int} (ha : a ≠ 0) (hb : b ≠ 0) : a * b ≠ 0 := Int.mul_ne_zero ha hb
theorem nzden (r : Rat) : (r.den : Int) ≠ 0 := by have := r.den_nz; omega
-- sizes
def Fits (x : Int) : Prop := x.natAbs < 10 ^ 2000
theorem Fits.no {x g M : Int} (h : Fits x) (hg : 0 < g) (hb : x.fdiv g ≥ M) (hM : M = 10 ^ 2000) : False := by
  have h1 : (x.fdiv g).natAbs ≤ x.natAbs := by
    rw [Int.fdiv_eq_ediv_of_nonneg _ (by omega)]
    exact Int.natAbs_ediv_le_natAbs _ _
  have h2 : ((10 ^ 2000 : Nat) : Int) = M := by rw [hM]; simp
  unfold Fits at h
  generalize (10 : Nat) ^ 2000 = P at h h2
  omega
theorem Fits.noA {x g M : Int} (h : Fits x) (hg : 0 < g) (hb : (if x.fdiv g < 0 then -(x.fdiv g) else x.fdiv g) ≥ M) (hM : M = 10 ^ 2000) : False := by
  have h1 : (x.fdiv g).natAbs ≤ x.natAbs := by
    rw [Int.fdiv_eq_ediv_of_nonneg _ (by omega)]
    exact Int.natAbs_ediv_le_natAbs _ _
  have h2 : ((10 ^ 2000 : Nat) : Int) = M := by rw [hM]; simp
  unfold Fits at h
  generalize (10 : Nat) ^ 2000 = P at h h2
  omega
theorem Fits.neg {x : Int} (h : Fits x) : Fits (-x) := by unfold Fits at *; omega
theorem ten_two : (10 : Nat) ^ 2000 < 2 ^ 9000 := by decide +kernel
theorem two_ten : (2 : Nat) ^ 6643 < 10 ^ 2000 := by decide +kernel
theorem Fits.log {x : Int} {n : Nat} (h : Fits x) (h0 : 0 < n) (hn : n ≤ x.natAbs) : (n : Int).natAbs.log2 < 9000 := by
  have e : (n : Int).natAbs = n := by omega
  rw [e]
  refine (Nat.log2_lt (by omega)).mpr ?_
  unfold Fits at h
  have := ten_two
  generalize (10 : Nat) ^ 2000 = P at *
  generalize (2 : Nat) ^ 9000 = R at *
  omega
theorem Fits.of {x : Int} {n : Nat} (h : Builtin.Int.intBits x ≤ n) (hn : n ≤ 6643) : Fits x := by
  have h1 := natAbs_lt_pow_bits x
  have h2 : (2 : Nat) ^ Builtin.Int.intBits x ≤ 2 ^ 6643 := Nat.pow_le_pow_right (by decide) (by omega)
  have h3 := two_ten
  unfold Fits
  generalize (10 : Nat) ^ 2000 = P at *
  generalize (2 : Nat) ^ 6643 = R at *
  omega
theorem bits_num {u l : Int} {n : Nat} (h : Builtin.Int.intBits u ≤ n) : Builtin.Int.intBits (Rat.divInt u l).num ≤ n := bits_of_natAbs_le (num_le u l) h
theorem bits_den {u l : Int} {n : Nat} (h0 : l ≠ 0) (h : Builtin.Int.intBits l ≤ n) : Builtin.Int.intBits ((Rat.divInt u l).den : Int) ≤ n := bits_of_natAbs_le (by have := den_le (u := u) h0; omega) h

-- the calls
abbrev RatO (r : Rat) (t t' : Tok) (c : Nat) : Obj := { cls := .type "tuple", data := .seq #[.int r.num t, .int (r.den : Int) t'] c }
theorem div_c {w : World} {p : Program} {loose : List Str} {mean : ExcName → Option Value} {mg mb : Str → Option Value} (dp un : Nat) (gd : Option (List Code)) (cn : Str) (cs : Scope) (a : Addr) (ccd : Value) (cl : List (Str × Addr)) (outer : List Env) (A₀ : Around) (base h₀ : Heap) (L : Addr) (m : Str → Option Value) (news : List (Addr × Obj)) (s : Shared) (Q E : Value → Shared → Prop) (x y : Int) (t1 t2 : Tok)
    (B : Below A₀ base outer h₀) (F : Fr h₀ L s.heap m) (X : (Mine.hd.heap_39 w.params).In h₀) (N : News h₀ L s.heap news) (T : Top p loose mean mg mb h₀) (hk : cs.kind = .function)
    (hd : dp + 1 < recursionLimit) (hu : un + 8 < cLine)
    (hret : ∀ (t : Tok) (h' : Heap) (tk' : Nat), Fr h₀ L h' m → News h₀ L h' news → Q (.int ((Int.gcd x y : Nat) : Int) t) { s with heap := h', toks := tk' }) :
      wpAny (model PySem.Challenge.rw_ui0509_06.row.prog w) (ktrTop dp un gd cn cs L a ccd cl outer) (call (.ref 64) [.int x t1, .int y t2]) Q E s := by
  revert X; k_fill; intro X
  refine wpAny_call ?_
  k_dflt ktr_enter
  (k_with "exec While Compare cons nil" => k_while_given ["a!", "b!"] (fun a₀ b₀ _ a b => 0 ≤ a ∧ 0 ≤ b ∧ Int.gcd a b = Int.gcd a₀ b₀) (fun _ _ _ _ b => b.toNat) "a" "b")
  (k_with "state" => exact dv_turn (by assumption) (by assumption))
  (k_with "measure" => exact dv_less (by assumption))
  k_steps
  all_goals exact cb_retI hret (dv_end (by assumption) (by assumption) (by assumption) (by assumption)) (by k_asm) (by k_asm)
theorem div_use {w : World} {p : Program} {loose : List Str} {mean : ExcName → Option Value} {mg mb : Str → Option Value} (dp un : Nat) (gd : Option (List Code)) (cn : Str) (cs : Scope) (a : Addr) (ccd : Value) (cl : List (Str × Addr)) (outer : List Env) (A₀ : Around) (base h₀ : Heap) (L : Addr) (m : Str → Option Value) (news : List (Addr × Obj)) (s : Shared) (Q E : Value → Shared → Prop) (x y : Int) (t1 t2 : Tok)
    (B : Below A₀ base outer h₀) (F : Fr h₀ L s.heap m) (X : (Mine.hd.heap_39 w.params).In h₀) (N : News h₀ L s.heap news) (T : Top p loose mean mg mb h₀) (hk : cs.kind = .function)
    (hd : dp + 1 < recursionLimit) (hu : un + 8 < cLine) (hy : y ≠ 0) (hf : Fits y)
    (hret : ∀ (g : Int) (t : Tok) (h' : Heap) (tk' : Nat), 0 < g → g = ((Int.gcd x y : Nat) : Int) → g.natAbs.log2 < 9000 → Fr h₀ L h' m → News h₀ L h' news → Q (.int g t) { s with heap := h', toks := tk' }) :
      wpAny (model PySem.Challenge.rw_ui0509_06.row.prog w) (ktrTop dp un gd cn cs L a ccd cl outer) (call (.ref 64) [.int x t1, .int y t2]) Q E s :=
  div_c dp un gd cn cs a ccd cl outer A₀ base h₀ L m news s Q E x y t1 t2 B F X N T hk hd hu (fun t h' tk' F' N' => hret _ t h' tk' (by have := Int.gcd_pos_of_ne_zero_right x hy; omega) rfl (Fits.log hf (Int.gcd_pos_of_ne_zero_right x hy) (Int.gcd_le_natAbs_right x hy)) F' N')
theorem fr_end {h₀ h' : Heap} {L D : Addr} {m : Str → Option Value} {news : List (Addr × Obj)} {s : Shared} {Q : Value → Shared → Prop} {x y a b : Int} {t t' : Tok} {c tk' : Nat}
    (hret : ∀ (r : Rat) (D : Addr) (t t' : Tok) (c : Nat) (h' : Heap) (tk' : Nat), r = Rat.divInt x y → Fr h₀ L h' m → News h₀ L h' ((D, RatO r t t' c) :: news) → (∀ p ∈ news, p.1 < D) → Q (.ref D) { s with heap := h', toks := tk' })
    (e1 : a = (Rat.divInt x y).num) (e2 : b = ((Rat.divInt x y).den : Int)) (F : Fr h₀ L h' m) (N : News h₀ L h' ((D, ({ cls := .type "tuple", data := .seq #[.int a t, .int b t'] c } : Obj)) :: news)) (hl : ∀ p ∈ news, p.1 < D) : Q (.ref D) { s with heap := h', toks := tk' } := by
  subst e1; subst e2
  exact hret _ D t t' c h' tk' rfl F N hl
local macro_rules | `(tactic| walk_at "call ref") => `(tactic| (k_here; (with_reducible show wpAny _ _ (call (Value.ref 64) [Value.int _ _, Value.int _ _]) _ _ _); k_dflt (refine' div_use _ _ _ _ _ _ _ _ _ _ _ _ _ _ _ _ _ _ _ _ _ _ ?k1 ?k2 ?k3 ?k4 ?k5 ?k6 ?k7 ?k8 ?k9 ?k10 ?_; (case k1 => k_asm); (case k2 => k_asm); (case k3 => k_asm); (case k4 => k_asm); (case k5 => k_asm); (case k6 => first | exact rfl | assumption); (case k7 => ktr_room); (case k8 => ktr_units); (case k9 => omega); (case k10 => first | assumption | exact Fits.neg (by assumption) | exact Fits.of (n := 64) (PySem.intBits_le_64 (by omega) (by omega)) (by decide)); k_whole); intro g' t' h' tk' g0' gE' gL' F' N'; (try k_sweep)))
local macro_rules | `(tactic| walk_at "binaryOp FloorDiv int int") => `(tactic| (with_reducible refine floordiv_int ?ne ?_ (Or.inl (PyProof.noPylong_of_log2 ?lg)); (case lg => with_reducible assumption); (case ne => omega)))
theorem frac_c {w : World} {p : Program} {loose : List Str} {mean : ExcName → Option Value} {mg mb : Str → Option Value} (dp un : Nat) (gd : Option (List Code)) (cn : Str) (cs : Scope) (a : Addr) (ccd : Value) (cl : List (Str × Addr)) (outer : List Env) (A₀ : Around) (base h₀ : Heap) (L : Addr) (m : Str → Option Value) (news : List (Addr × Obj)) (s : Shared) (Q E : Value → Shared → Prop) (x y : Int) (t1 t2 : Tok)
    (B : Below A₀ base outer h₀) (F : Fr h₀ L s.heap m) (X : (Mine.hd.heap_39 w.params).In h₀) (N : News h₀ L s.heap news) (T : Top p loose mean mg mb h₀) (hk : cs.kind = .function)
    (hd : dp + 2 < recursionLimit) (hu : un + 16 < cLine) (hy : y ≠ 0) (hx1 : Fits x) (hy1 : Fits y)
    (hret : ∀ (r : Rat) (D : Addr) (t t' : Tok) (c : Nat) (h' : Heap) (tk' : Nat), r = Rat.divInt x y → Fr h₀ L h' m → News h₀ L h' ((D, RatO r t t' c) :: news) → (∀ p ∈ news, p.1 < D) → Q (.ref D) { s with heap := h', toks := tk' }) :
      wpAny (model PySem.Challenge.rw_ui0509_06.row.prog w) (ktrTop dp un gd cn cs L a ccd cl outer) (call (.ref 72) [.int x t1, .int y t2]) Q E s := by
  revert X; k_fill; intro X
  refine wpAny_call ?_
  k_dflt (refine' code_def ?k1 ?k2 ?k3 ?k4 ?k5 ?kA ?kF ?kK ?k6 ?k7 ?k8 ?k9 ?kB ?_ ?c2 ?c3 ?c4 ?c5; (case kA => exact rfl); (case kF => exact rfl); (case kK => assumption); (case k1 => k_asm); (case k2 => k_asm); (case k3 => k_asm); (case k4 => k_asm); (case k5 => k_asm); (case k6 => k_is); (case k7 => k_is); (case k8 => ktr_room); (case k9 => first | exact BindsTo.of_eq rfl | exact binds_K (by k_in) rfl (by k_is) rfl rfl rfl); (case c5 => decide); (case kB => exact locs rfl); (case c2 => exact rfl); (case c3 => exact rfl); (case c4 => exact rfl); k_whole; intro g' L' h' FG' F' N' B' X' T'; (try dsimp only); (try k_fold))
  k_steps
  all_goals first
    | exact absurd (by assumption) hy
    | exact fr_end hret (num_p (by assumption) hy (by assumption)) (den_p (by assumption) hy (by assumption)) (by k_asm) (by k_asm) (by assumption)
    | exact fr_end hret (num_n (by assumption) (by assumption)) (den_n (by assumption) (by assumption)) (by k_asm) (by k_asm) (by assumption)
    | exact (Fits.no hy1 (by assumption) (by assumption) (by decide +kernel)).elim
    | exact (Fits.no (Fits.neg hy1) (by assumption) (by assumption) (by decide +kernel)).elim
    | exact (Fits.noA hx1 (by assumption) (by assumption) (by decide +kernel)).elim
    | exact (Fits.noA (Fits.neg hx1) (by assumption) (by assumption) (by decide +kernel)).elim
theorem fits_one : Fits 1 := Fits.of (n := 64) (PySem.intBits_le_64 (by omega) (by omega)) (by decide)
theorem fd_end {h₀ h' : Heap} {L D : Addr} {m : Str → Option Value} {news : List (Addr × Obj)} {s : Shared} {Q : Value → Shared → Prop} {x g : Int} {t t' : Tok} {c tk' : Nat}
    (hret : ∀ (D : Addr) (t t' : Tok) (c : Nat) (h' : Heap) (tk' : Nat), Fr h₀ L h' m → News h₀ L h' ((D, ({ cls := .type "tuple", data := .seq #[.int x t, .int 1 t'] c } : Obj)) :: news) → (∀ p ∈ news, p.1 < D) → Q (.ref D) { s with heap := h', toks := tk' })
    (e : g = ((Int.gcd x 1 : Nat) : Int)) (F : Fr h₀ L h' m) (N : News h₀ L h' ((D, ({ cls := .type "tuple", data := .seq #[.int (x.fdiv g) t, .int (Int.fdiv 1 g) t'] c } : Obj)) :: news)) (hl : ∀ p ∈ news, p.1 < D) : Q (.ref D) { s with heap := h', toks := tk' } := by
  have e1 : g = 1 := by rw [e, Int.gcd_one]; rfl
  subst e1
  rw [Int.fdiv_one, Int.fdiv_one] at N
  exact hret D t t' c h' tk' F N hl
theorem frac_d {w : World} {p : Program} {loose : List Str} {mean : ExcName → Option Value} {mg mb : Str → Option Value} (dp un : Nat) (gd : Option (List Code)) (cn : Str) (cs : Scope) (a : Addr) (ccd : Value) (cl : List (Str × Addr)) (outer : List Env) (A₀ : Around) (base h₀ : Heap) (L : Addr) (m : Str → Option Value) (news : List (Addr × Obj)) (s : Shared) (Q E : Value → Shared → Prop) (x : Int) (t1 : Tok)
    (B : Below A₀ base outer h₀) (F : Fr h₀ L s.heap m) (X : (Mine.hd.heap_39 w.params).In h₀) (N : News h₀ L s.heap news) (T : Top p loose mean mg mb h₀) (hk : cs.kind = .function)
    (hd : dp + 2 < recursionLimit) (hu : un + 16 < cLine) (hx1 : Fits x)
    (hret : ∀ (D : Addr) (t t' : Tok) (c : Nat) (h' : Heap) (tk' : Nat), Fr h₀ L h' m → News h₀ L h' ((D, ({ cls := .type "tuple", data := .seq #[.int x t, .int 1 t'] c } : Obj)) :: news) → (∀ p ∈ news, p.1 < D) → Q (.ref D) { s with heap := h', toks := tk' }) :
      wpAny (model PySem.Challenge.rw_ui0509_06.row.prog w) (ktrTop dp un gd cn cs L a ccd cl outer) (call (.ref 72) [.int x t1]) Q E s := by
  revert X; k_fill; intro X
  refine wpAny_call ?_
  k_dflt (refine' code_def ?k1 ?k2 ?k3 ?k4 ?k5 ?kA ?kF ?kK ?k6 ?k7 ?k8 ?k9 ?kB ?_ ?c2 ?c3 ?c4 ?c5; (case kA => exact rfl); (case kF => exact rfl); (case kK => assumption); (case k1 => k_asm); (case k2 => k_asm); (case k3 => k_asm); (case k4 => k_asm); (case k5 => k_asm); (case k6 => k_is); (case k7 => k_is); (case k8 => ktr_room); (case k9 => first | exact BindsTo.of_eq rfl | exact binds_K (by k_in) rfl (by k_is) rfl rfl rfl); (case c5 => decide); (case kB => exact locs rfl); (case c2 => exact rfl); (case c3 => exact rfl); (case c4 => exact rfl); k_whole; intro g' L' h' FG' F' N' B' X' T'; (try dsimp only); (try k_fold))
  k_steps
  all_goals first
    | exact fd_end hret (by assumption) (by k_asm) (by k_asm) (by assumption)
    | exact (Fits.no fits_one (by assumption) (by assumption) (by decide +kernel)).elim
    | exact (Fits.noA hx1 (by assumption) (by assumption) (by decide +kernel)).elim
theorem frac_use {w : World} {p : Program} {loose : List Str} {mean : ExcName → Option Value} {mg mb : Str → Option Value} {dp un : Nat} {gd : Option (List Code)} {cn : Str} {cs : Scope} {a : Addr} {ccd : Value} {cl : List (Str × Addr)} {outer : List Env} {A₀ : Around} {base h₀ : Heap} {L : Addr} {m : Str → Option Value} {news : List (Addr × Obj)} {s : Shared} {Q E : Value → Shared → Prop} {x y : Int} {t1 t2 : Tok} {nx ny : Nat}
    (B : Below A₀ base outer h₀) (F : Fr h₀ L s.heap m) (X : (Mine.hd.heap_39 w.params).In h₀) (N : News h₀ L s.heap news) (T : Top p loose mean mg mb h₀) (hk : cs.kind = .function)
    (hd : dp + 2 < recursionLimit) (hu : un + 16 < cLine) (hy : y ≠ 0) (hx1 : Builtin.Int.intBits x ≤ nx) (hy1 : Builtin.Int.intBits y ≤ ny) (hnx : nx ≤ 6643) (hny : ny ≤ 6643)
    (hret : ∀ (r : Rat) (D : Addr) (t t' : Tok) (c : Nat) (h' : Heap) (tk' : Nat), r = Rat.divInt x y → Builtin.Int.intBits r.num ≤ nx → Builtin.Int.intBits (r.den : Int) ≤ ny → Fr h₀ L h' m → News h₀ L h' ((D, RatO r t t' c) :: news) → (∀ p ∈ news, p.1 < D) → Q (.ref D) { s with heap := h', toks := tk' }) :
      wpAny (model PySem.Challenge.rw_ui0509_06.row.prog w) (ktrTop dp un gd cn cs L a ccd cl outer) (call (.ref 72) [.int x t1, .int y t2]) Q E s :=
  frac_c dp un gd cn cs a ccd cl outer A₀ base h₀ L m news s Q E x y t1 t2 B F X N T hk hd hu hy (Fits.of hx1 hnx) (Fits.of hy1 hny) fun r D t t' c h' tk' e F' N' l => hret r D t t' c h' tk' e (e ▸ bits_num hx1) (e ▸ bits_den hy hy1) F' N' l
theorem r_one_num (x : Int) : (Rat.divInt x 1).num = x := by rw [r_int]; rfl
theorem r_one_den (x : Int) : (Rat.divInt x 1).den = 1 := by rw [r_int]; rfl
theorem frac_one {w : World} {p : Program} {loose : List Str} {mean : ExcName → Option Value} {mg mb : Str → Option Value} {dp un : Nat} {gd : Option (List Code)} {cn : Str} {cs : Scope} {a : Addr} {ccd : Value} {cl : List (Str × Addr)} {outer : List Env} {A₀ : Around} {base h₀ : Heap} {L : Addr} {m : Str → Option Value} {news : List (Addr × Obj)} {s : Shared} {Q E : Value → Shared → Prop} {x : Int} {t1 t2 : Tok} {nx : Nat}
    (B : Below A₀ base outer h₀) (F : Fr h₀ L s.heap m) (X : (Mine.hd.heap_39 w.params).In h₀) (N : News h₀ L s.heap news) (T : Top p loose mean mg mb h₀) (hk : cs.kind = .function)
    (hd : dp + 2 < recursionLimit) (hu : un + 16 < cLine) (hx1 : Builtin.Int.intBits x ≤ nx) (hnx : nx ≤ 6643)
    (hret : ∀ (D : Addr) (t t' : Tok) (c : Nat) (h' : Heap) (tk' : Nat), Fr h₀ L h' m → News h₀ L h' ((D, ({ cls := .type "tuple", data := .seq #[.int x t, .int 1 t'] c } : Obj)) :: news) → (∀ p ∈ news, p.1 < D) → Q (.ref D) { s with heap := h', toks := tk' }) :
      wpAny (model PySem.Challenge.rw_ui0509_06.row.prog w) (ktrTop dp un gd cn cs L a ccd cl outer) (call (.ref 72) [.int x t1, .int 1 t2]) Q E s :=
  frac_c dp un gd cn cs a ccd cl outer A₀ base h₀ L m news s Q E x 1 t1 t2 B F X N T hk hd hu (by decide) (Fits.of hx1 hnx) (Fits.of (n := 64) (PySem.intBits_le_64 (by omega) (by omega)) (by decide)) fun r D t t' c h' tk' e F' N' l => hret D t t' c h' tk' F' (by
    subst e
    unfold RatO at N'
    rw [r_one_num, r_one_den] at N'
    exact N') l
theorem frac_dflt {w : World} {p : Program} {loose : List Str} {mean : ExcName → Option Value} {mg mb : Str → Option Value} {dp un : Nat} {gd : Option (List Code)} {cn : Str} {cs : Scope} {a : Addr} {ccd : Value} {cl : List (Str × Addr)} {outer : List Env} {A₀ : Around} {base h₀ : Heap} {L : Addr} {m : Str → Option Value} {news : List (Addr × Obj)} {s : Shared} {Q E : Value → Shared → Prop} {x : Int} {t1 : Tok} {nx : Nat}
    (B : Below A₀ base outer h₀) (F : Fr h₀ L s.heap m) (X : (Mine.hd.heap_39 w.params).In h₀) (N : News h₀ L s.heap news) (T : Top p loose mean mg mb h₀) (hk : cs.kind = .function)
    (hd : dp + 2 < recursionLimit) (hu : un + 16 < cLine) (hx1 : Builtin.Int.intBits x ≤ nx) (hnx : nx ≤ 6643)
    (hret : ∀ (D : Addr) (t t' : Tok) (c : Nat) (h' : Heap) (tk' : Nat), Fr h₀ L h' m → News h₀ L h' ((D, ({ cls := .type "tuple", data := .seq #[.int x t, .int 1 t'] c } : Obj)) :: news) → (∀ p ∈ news, p.1 < D) → Q (.ref D) { s with heap := h', toks := tk' }) :
      wpAny (model PySem.Challenge.rw_ui0509_06.row.prog w) (ktrTop dp un gd cn cs L a ccd cl outer) (call (.ref 72) [.int x t1]) Q E s :=
  frac_d dp un gd cn cs a ccd cl outer A₀ base h₀ L m news s Q E x t1 B F X N T hk hd hu (Fits.of hx1 hnx) hret
theorem frac_self {w : World} {p : Program} {loose : List Str} {mean : ExcName → Option Value} {mg mb : Str → Option Value} {dp un : Nat} {gd : Option (List Code)} {cn : Str} {cs : Scope} {a : Addr} {ccd : Value} {cl : List (Str × Addr)} {outer : List Env} {A₀ : Around} {base h₀ : Heap} {L : Addr} {m : Str → Option Value} {news : List (Addr × Obj)} {s : Shared} {Q E : Value → Shared → Prop} {r : Rat} {t1 t2 : Tok} {nx ny : Nat}
    (B : Below A₀ base outer h₀) (F : Fr h₀ L s.heap m) (X : (Mine.hd.heap_39 w.params).In h₀) (N : News h₀ L s.heap news) (T : Top p loose mean mg mb h₀) (hk : cs.kind = .function)
    (hd : dp + 2 < recursionLimit) (hu : un + 16 < cLine) (hx1 : Builtin.Int.intBits r.num ≤ nx) (hy1 : Builtin.Int.intBits (r.den : Int) ≤ ny) (hnx : nx ≤ 6643) (hny : ny ≤ 6643)
    (hret : ∀ (D : Addr) (t t' : Tok) (c : Nat) (h' : Heap) (tk' : Nat), Fr h₀ L h' m → News h₀ L h' ((D, RatO r t t' c) :: news) → (∀ p ∈ news, p.1 < D) → Q (.ref D) { s with heap := h', toks := tk' }) :
      wpAny (model PySem.Challenge.rw_ui0509_06.row.prog w) (ktrTop dp un gd cn cs L a ccd cl outer) (call (.ref 72) [.int r.num t1, .int (r.den : Int) t2]) Q E s :=
  frac_c dp un gd cn cs a ccd cl outer A₀ base h₀ L m news s Q E r.num r.den t1 t2 B F X N T hk hd hu (nzden r) (Fits.of hx1 hnx) (Fits.of hy1 hny) fun r' D t t' c h' tk' e F' N' l => hret D t t' c h' tk' F' (by
    rw [Rat.num_divInt_den] at e
    subst e
    exact N') l
theorem cross {r : Rat} {n d : Int} (h : r = Rat.divInt n d) (hd : d ≠ 0) : r.num * d = n * (r.den : Int) := by
  refine (Rat.divInt_eq_divInt_iff (nzden r) hd).mp ?_
  rw [Rat.num_divInt_den]; exact h
theorem no_nought {x n : Int} (h : 1 + x.fmod n = 0) (hn : 0 < n) : False := by
  rw [Int.fmod_eq_emod_of_nonneg x (by omega)] at h
  have := Int.emod_nonneg x (show n ≠ 0 by omega)
  omega
theorem nz_num {c : Rat} {n d : Int} (h0 : c.num = 0) (hc : c = Rat.divInt n d) (hn : n ≠ 0) (hd : d ≠ 0) : False := by
  rw [Rat.num_eq_zero] at h0
  subst hc
  have := Rat.divInt_eq_divInt_iff hd (show (1 : Int) ≠ 0 by decide) (n₁ := n) (n₂ := 0)
  rw [Rat.zero_divInt] at this
  have := this.mp h0
  omega
theorem ok_bool {cl : ClaimW} {ca : Str → Option Addr} {me : ExcName → Option Value} {args : List WData} {s₁ s : Shared} {b : Bool} (h : b = true) (g : GoodW cl ca me args s₁ (.ok (.ret (.bool true))) s) : GoodW cl ca me args s₁ (.ok (.ret (.bool b))) s := h ▸ g
theorem same_rat {r q : Rat} (h : r = q) : (r.num == q.num && (r.den : Int) == (q.den : Int)) = true := by subst h; simp
abbrev T2 (x y : Int) (t t' : Tok) (c : Nat) : Obj := { cls := .type "tuple", data := .seq #[.int x t, .int y t'] c }
theorem tup_g {prog : Program} {w : World} {A : Around} {E : Value → Shared → Prop} {s : Shared} {h₀ : Heap} {L D : Addr} {m : Str → Option Value} {lo : Obj} {value slice : Expr} {l : List Value} {n : Nat} {k : Int} {u : Tok} {j : Nat} {x : Value} {Q : Value → Shared → Prop}
    (F : Fr h₀ L s.heap m) (e : h₀.get? D = some lo) (hc : lo.cls = .type "tuple") (hd : lo.data = .seq l.toArray n) (hlo : -(2 ^ 63) ≤ k) (hhi : k < 2 ^ 63) (hj : seqIndex? k l.length = some j) (hx : l[j]? = some x) (h : Q x s)
    (hs : subscripted slice false (.ref D) (.int k u) = operate [.ref D, .int k u] (getItem (.ref D) (.int k u))) (hg : ∀ r, letTemporaryGo value (.ref D) r = pure ()) :
    wpAny (model prog w) A (subscriptTail value slice (.ref D) (.int k u)) Q E s := item_tupleL ⟨lo, F.keep _ _ e, hc, n, hd⟩ hlo hhi hj hx h hs hg
theorem bits_one : Builtin.Int.intBits 1 ≤ 1 := by decide
section
local macro_rules | `(tactic| walk_at "call ref") => `(tactic| (k_here; (with_reducible show wpAny _ _ (call (Value.ref 72) [Value.int _ _, Value.int _ _]) _ _ _); k_dflt (refine' frac_c _ _ _ _ _ _ _ _ _ _ _ _ _ _ _ _ _ _ _ _ _ _ ?k1 ?k2 ?k3 ?k4 ?k5 ?k6 ?k7 ?k8 ?k9 ?k10 ?k11 ?_; (case k1 => k_asm); (case k2 => k_asm); (case k3 => k_asm); (case k4 => k_asm); (case k5 => k_asm); (case k6 => first | exact rfl | assumption); (case k7 => ktr_room); (case k8 => ktr_units); (case k9 => assumption); (case k10 => assumption); (case k11 => assumption); k_whole); intro r' D' t' u' c' h' tk' rE' F' N' l1; (try k_sweep)))
local macro_rules | `(tactic| walk_at "binaryOp Mult int int") => `(tactic| (with_reducible refine mul_int ?_ ?mo; (case mo => assumption)))
local macro_rules | `(tactic| walk_at "subscriptTail") => `(tactic| (k_here; (with_reducible show wpAny _ _ (subscriptTail _ _ (Value.ref _) (Value.int _ _)) _ _ _); k_dflt (refine' tup_g ?k1 ?k2 ?k3 ?k4 ?k5 ?k6 ?k7 ?k8 ?_ ?k9 ?k10; (case k1 => k_asm); (case k2 => with_reducible assumption); (case k3 => exact rfl); (case k4 => exact rfl); (case k5 => decide); (case k6 => decide); (case k7 => exact rfl); (case k8 => exact rfl); (case k9 => with_unfolding_all rfl); (case k10 => (intro _; with_unfolding_all rfl)); k_whole)))
theorem plus_c {w : World} {p : Program} {loose : List Str} {mean : ExcName → Option Value} {mg mb : Str → Option Value} {dp un : Nat} {gd : Option (List Code)} {cn : Str} {cs : Scope} {a : Addr} {ccd : Value} {cl : List (Str × Addr)} {outer : List Env} {A₀ : Around} {base h₀ : Heap} {L : Addr} {m : Str → Option Value} {news : List (Addr × Obj)} {s : Shared} {Q E : Value → Shared → Prop} {D1 D2 : Addr} {x1 y1 x2 y2 : Int} {t1 t1' t2 t2' : Tok} {c1 c2 : Nat}
    (B : Below A₀ base outer h₀) (F : Fr h₀ L s.heap m) (X : (Mine.hd.heap_39 w.params).In h₀) (N : News h₀ L s.heap news) (T : Top p loose mean mg mb h₀) (hk : cs.kind = .function) (e1 : s.heap.get? D1 = some (T2 x1 y1 t1 t1' c1)) (e2 : s.heap.get? D2 = some (T2 x2 y2 t2 t2' c2))
    (hd : dp + 3 < recursionLimit) (hu : un + 24 < cLine) (nz : y1 * y2 ≠ 0) (m0 : IntMulOk x1 y2) (m1 : IntMulOk x2 y1) (m2 : IntMulOk y1 y2) (f1 : Fits (x1 * y2 + x2 * y1)) (f2 : Fits (y1 * y2))
    (hret : ∀ (r : Rat) (D : Addr) (t t' : Tok) (c : Nat) (h' : Heap) (tk' : Nat), r = Rat.divInt (x1 * y2 + x2 * y1) (y1 * y2) → Fr h₀ L h' m → News h₀ L h' ((D, RatO r t t' c) :: news) → (∀ p ∈ news, p.1 ≠ D) → Q (.ref D) { s with heap := h', toks := tk' }) :
    wpAny (model PySem.Challenge.rw_ui0509_06.row.prog w) (ktrTop dp un gd cn cs L a ccd cl outer) (call (.ref 87) [.ref D1, .ref D2]) Q E s := by
  w_top off
  revert X; k_fill; intro X
  refine wpAny_call ?_
  k_dflt (refine' code_need [] ?k1 ?k2 ?k3 ?k4 ?k5 ?kA ?kF ?kK ?k6 ?k7 ?k8 ?k9 ?kB ?kN ?_ ?c2 ?c3 ?c4 ?c5; (case kA => exact rfl); (case kF => exact rfl); (case kK => assumption); (case k1 => k_asm); (case k2 => k_asm); (case k3 => k_asm); (case k4 => k_asm); (case k5 => k_asm); (case k6 => k_is); (case k7 => k_is); (case k8 => ktr_room); (case k9 => first | exact BindsTo.of_eq rfl | exact binds_K (by k_in) rfl (by k_is) rfl rfl rfl); (case c5 => decide); (case kB => exact locs rfl); (case kN => exact fun _ h => nomatch h); (case c2 => exact rfl); (case c3 => exact rfl); (case c4 => exact rfl); k_whole; intro g' L' h' tk0 FG' F' N' B' X' T' hG'; (try dsimp only); (try k_fold))
  replace e1 := hG' _ _ e1 (by simp)
  replace e2 := hG' _ _ e2 (by simp)
  k_steps
  all_goals first | (refine leaveN_ (by k_asm) (by k_asm) ?_; intro kF kN kR kD; (try dsimp only); exact hret _ _ _ _ _ _ _ (by assumption) kF (news_cons kN (by k_mem) (news_all kR)) (ne_all kD (List.mem_cons_self ..)))
theorem times_c {w : World} {p : Program} {loose : List Str} {mean : ExcName → Option Value} {mg mb : Str → Option Value} {dp un : Nat} {gd : Option (List Code)} {cn : Str} {cs : Scope} {a : Addr} {ccd : Value} {cl : List (Str × Addr)} {outer : List Env} {A₀ : Around} {base h₀ : Heap} {L : Addr} {m : Str → Option Value} {news : List (Addr × Obj)} {s : Shared} {Q E : Value → Shared → Prop} {D1 D2 : Addr} {x1 y1 x2 y2 : Int} {t1 t1' t2 t2' : Tok} {c1 c2 : Nat}
    (B : Below A₀ base outer h₀) (F : Fr h₀ L s.heap m) (X : (Mine.hd.heap_39 w.params).In h₀) (N : News h₀ L s.heap news) (T : Top p loose mean mg mb h₀) (hk : cs.kind = .function) (e1 : s.heap.get? D1 = some (T2 x1 y1 t1 t1' c1)) (e2 : s.heap.get? D2 = some (T2 x2 y2 t2 t2' c2))
    (hd : dp + 3 < recursionLimit) (hu : un + 24 < cLine) (nz : y1 * y2 ≠ 0) (m0 : IntMulOk x1 x2) (m1 : IntMulOk y1 y2) (f1 : Fits (x1 * x2)) (f2 : Fits (y1 * y2))
    (hret : ∀ (r : Rat) (D : Addr) (t t' : Tok) (c : Nat) (h' : Heap) (tk' : Nat), r = Rat.divInt (x1 * x2) (y1 * y2) → Fr h₀ L h' m → News h₀ L h' ((D, RatO r t t' c) :: news) → (∀ p ∈ news, p.1 ≠ D) → Q (.ref D) { s with heap := h', toks := tk' }) :
    wpAny (model PySem.Challenge.rw_ui0509_06.row.prog w) (ktrTop dp un gd cn cs L a ccd cl outer) (call (.ref 94) [.ref D1, .ref D2]) Q E s := by
  w_top off
  revert X; k_fill; intro X
  refine wpAny_call ?_
  k_dflt (refine' code_need [] ?k1 ?k2 ?k3 ?k4 ?k5 ?kA ?kF ?kK ?k6 ?k7 ?k8 ?k9 ?kB ?kN ?_ ?c2 ?c3 ?c4 ?c5; (case kA => exact rfl); (case kF => exact rfl); (case kK => assumption); (case k1 => k_asm); (case k2 => k_asm); (case k3 => k_asm); (case k4 => k_asm); (case k5 => k_asm); (case k6 => k_is); (case k7 => k_is); (case k8 => ktr_room); (case k9 => first | exact BindsTo.of_eq rfl | exact binds_K (by k_in) rfl (by k_is) rfl rfl rfl); (case c5 => decide); (case kB => exact locs rfl); (case kN => exact fun _ h => nomatch h); (case c2 => exact rfl); (case c3 => exact rfl); (case c4 => exact rfl); k_whole; intro g' L' h' tk0 FG' F' N' B' X' T' hG'; (try dsimp only); (try k_fold))
  replace e1 := hG' _ _ e1 (by simp)
  replace e2 := hG' _ _ e2 (by simp)
  k_steps
  all_goals first | (refine leaveN_ (by k_asm) (by k_asm) ?_; intro kF kN kR kD; (try dsimp only); exact hret _ _ _ _ _ _ _ (by assumption) kF (news_cons kN (by k_mem) (news_all kR)) (ne_all kD (List.mem_cons_self ..)))
theorem less_c {w : World} {p : Program} {loose : List Str} {mean : ExcName → Option Value} {mg mb : Str → Option Value} {dp un : Nat} {gd : Option (List Code)} {cn : Str} {cs : Scope} {a : Addr} {ccd : Value} {cl : List (Str × Addr)} {outer : List Env} {A₀ : Around} {base h₀ : Heap} {L : Addr} {m : Str → Option Value} {news : List (Addr × Obj)} {s : Shared} {Q E : Value → Shared → Prop} {D1 D2 : Addr} {x1 y1 x2 y2 : Int} {t1 t1' t2 t2' : Tok} {c1 c2 : Nat}
    (B : Below A₀ base outer h₀) (F : Fr h₀ L s.heap m) (X : (Mine.hd.heap_39 w.params).In h₀) (N : News h₀ L s.heap news) (T : Top p loose mean mg mb h₀) (hk : cs.kind = .function) (e1 : s.heap.get? D1 = some (T2 x1 y1 t1 t1' c1)) (e2 : s.heap.get? D2 = some (T2 x2 y2 t2 t2' c2))
    (hd : dp + 3 < recursionLimit) (hu : un + 24 < cLine) (m0 : IntMulOk x1 y2) (m1 : IntMulOk x2 y1)
    (hret : ∀ (h' : Heap) (tk' : Nat), Fr h₀ L h' m → News h₀ L h' news → Q (.bool (decide (x1 * y2 < x2 * y1))) { s with heap := h', toks := tk' }) :
    wpAny (model PySem.Challenge.rw_ui0509_06.row.prog w) (ktrTop dp un gd cn cs L a ccd cl outer) (call (.ref 101) [.ref D1, .ref D2]) Q E s := by
  w_top off
  revert X; k_fill; intro X
  refine wpAny_call ?_
  k_dflt (refine' code_need [] ?k1 ?k2 ?k3 ?k4 ?k5 ?kA ?kF ?kK ?k6 ?k7 ?k8 ?k9 ?kB ?kN ?_ ?c2 ?c3 ?c4 ?c5; (case kA => exact rfl); (case kF => exact rfl); (case kK => assumption); (case k1 => k_asm); (case k2 => k_asm); (case k3 => k_asm); (case k4 => k_asm); (case k5 => k_asm); (case k6 => k_is); (case k7 => k_is); (case k8 => ktr_room); (case k9 => first | exact BindsTo.of_eq rfl | exact binds_K (by k_in) rfl (by k_is) rfl rfl rfl); (case c5 => decide); (case kB => exact locs rfl); (case kN => exact fun _ h => nomatch h); (case c2 => exact rfl); (case c3 => exact rfl); (case c4 => exact rfl); k_whole; intro g' L' h' tk0 FG' F' N' B' X' T' hG'; (try dsimp only); (try k_fold))
  replace e1 := hG' _ _ e1 (by simp)
  replace e2 := hG' _ _ e2 (by simp)
  k_steps
  all_goals (refine leaveN_ (by k_asm) (by k_asm) ?_; intro kF kN kR kD; (try dsimp only); exact hret _ _ kF (news_all kR))
end
theorem plus_u {w : World} {p : Program} {loose : List Str} {mean : ExcName → Option Value} {mg mb : Str → Option Value} {dp un : Nat} {gd : Option (List Code)} {cn : Str} {cs : Scope} {a : Addr} {ccd : Value} {cl : List (Str × Addr)} {outer : List Env} {A₀ : Around} {base h₀ : Heap} {L : Addr} {m : Str → Option Value} {news : List (Addr × Obj)} {s : Shared} {Q E : Value → Shared → Prop} {D1 D2 : Addr} {x1 y1 x2 y2 : Int} {t1 t1' t2 t2' : Tok} {c1 c2 : Nat} {n1 k1 n2 k2 : Nat}
    (B : Below A₀ base outer h₀) (F : Fr h₀ L s.heap m) (X : (Mine.hd.heap_39 w.params).In h₀) (N : News h₀ L s.heap news) (T : Top p loose mean mg mb h₀) (hk : cs.kind = .function) (e1 : s.heap.get? D1 = some (T2 x1 y1 t1 t1' c1)) (e2 : s.heap.get? D2 = some (T2 x2 y2 t2 t2' c2))
    (hd : dp + 3 < recursionLimit) (hu : un + 24 < cLine) (hy : y1 ≠ 0) (hz : y2 ≠ 0) (b1 : Builtin.Int.intBits x1 ≤ n1) (b2 : Builtin.Int.intBits y1 ≤ k1) (b3 : Builtin.Int.intBits x2 ≤ n2) (b4 : Builtin.Int.intBits y2 ≤ k2) (hbu : max (n1 + k2) (n2 + k1) + 1 ≤ 6643) (hbl : k1 + k2 ≤ 6643)
    (hret : ∀ (r : Rat) (D : Addr) (t t' : Tok) (c : Nat) (h' : Heap) (tk' : Nat), r = Rat.divInt (x1 * y2 + x2 * y1) (y1 * y2) → Builtin.Int.intBits r.num ≤ max (n1 + k2) (n2 + k1) + 1 → Builtin.Int.intBits (r.den : Int) ≤ k1 + k2 → Fr h₀ L h' m → News h₀ L h' ((D, RatO r t t' c) :: news) → (∀ p ∈ news, p.1 ≠ D) → Q (.ref D) { s with heap := h', toks := tk' }) :
    wpAny (model PySem.Challenge.rw_ui0509_06.row.prog w) (ktrTop dp un gd cn cs L a ccd cl outer) (call (.ref 87) [.ref D1, .ref D2]) Q E s :=
  plus_c B F X N T hk e1 e2 hd hu (nzmul hy hz) (mulOk_of_bits b1 b4 (by omega)) (mulOk_of_bits b3 b2 (by omega)) (mulOk_of_bits b2 b4 (by omega)) (Fits.of (bits_add (bits_mul b1 b4) (bits_mul b3 b2)) hbu) (Fits.of (bits_mul b2 b4) hbl) fun r D t t' c h' tk' e F' N' l => hret r D t t' c h' tk' e (e ▸ bits_num (bits_add (bits_mul b1 b4) (bits_mul b3 b2))) (e ▸ bits_den (nzmul hy hz) (bits_mul b2 b4)) F' N' l
theorem plus_z {w : World} {p : Program} {loose : List Str} {mean : ExcName → Option Value} {mg mb : Str → Option Value} {dp un : Nat} {gd : Option (List Code)} {cn : Str} {cs : Scope} {a : Addr} {ccd : Value} {cl : List (Str × Addr)} {outer : List Env} {A₀ : Around} {base h₀ : Heap} {L : Addr} {m : Str → Option Value} {news : List (Addr × Obj)} {s : Shared} {Q E : Value → Shared → Prop} {D1 D2 : Addr} {x1 x2 : Int} {t1 t1' t2 t2' : Tok} {c1 c2 : Nat} {n1 n2 : Nat}
    (B : Below A₀ base outer h₀) (F : Fr h₀ L s.heap m) (X : (Mine.hd.heap_39 w.params).In h₀) (N : News h₀ L s.heap news) (T : Top p loose mean mg mb h₀) (hk : cs.kind = .function) (e1 : s.heap.get? D1 = some (T2 x1 1 t1 t1' c1)) (e2 : s.heap.get? D2 = some (T2 x2 1 t2 t2' c2))
    (hd : dp + 3 < recursionLimit) (hu : un + 24 < cLine) (b1 : Builtin.Int.intBits x1 ≤ n1) (b3 : Builtin.Int.intBits x2 ≤ n2) (hbu : max (n1 + 1) (n2 + 1) + 1 ≤ 6643)
    (hret : ∀ (D : Addr) (t t' : Tok) (c : Nat) (h' : Heap) (tk' : Nat), Fr h₀ L h' m → News h₀ L h' ((D, T2 (x1 + x2) 1 t t' c) :: news) → (∀ p ∈ news, p.1 ≠ D) → Q (.ref D) { s with heap := h', toks := tk' }) :
    wpAny (model PySem.Challenge.rw_ui0509_06.row.prog w) (ktrTop dp un gd cn cs L a ccd cl outer) (call (.ref 87) [.ref D1, .ref D2]) Q E s :=
  plus_u B F X N T hk e1 e2 hd hu (by decide) (by decide) b1 bits_one b3 bits_one hbu (by decide) fun r D t t' c h' tk' e _ _ F' N' l => hret D t t' c h' tk' F' (by
    have e' : r = Rat.divInt (x1 + x2) 1 := by rw [e]; congr 1; omega
    subst e'
    unfold RatO at N'
    rw [r_one_num, r_one_den] at N'
    exact N') l
theorem times_u {w : World} {p : Program} {loose : List Str} {mean : ExcName → Option Value} {mg mb : Str → Option Value} {dp un : Nat} {gd : Option (List Code)} {cn : Str} {cs : Scope} {a : Addr} {ccd : Value} {cl : List (Str × Addr)} {outer : List Env} {A₀ : Around} {base h₀ : Heap} {L : Addr} {m : Str → Option Value} {news : List (Addr × Obj)} {s : Shared} {Q E : Value → Shared → Prop} {D1 D2 : Addr} {x1 y1 x2 y2 : Int} {t1 t1' t2 t2' : Tok} {c1 c2 : Nat} {n1 k1 n2 k2 : Nat}
    (B : Below A₀ base outer h₀) (F : Fr h₀ L s.heap m) (X : (Mine.hd.heap_39 w.params).In h₀) (N : News h₀ L s.heap news) (T : Top p loose mean mg mb h₀) (hk : cs.kind = .function) (e1 : s.heap.get? D1 = some (T2 x1 y1 t1 t1' c1)) (e2 : s.heap.get? D2 = some (T2 x2 y2 t2 t2' c2))
    (hd : dp + 3 < recursionLimit) (hu : un + 24 < cLine) (hy : y1 ≠ 0) (hz : y2 ≠ 0) (b1 : Builtin.Int.intBits x1 ≤ n1) (b2 : Builtin.Int.intBits y1 ≤ k1) (b3 : Builtin.Int.intBits x2 ≤ n2) (b4 : Builtin.Int.intBits y2 ≤ k2) (hbu : n1 + n2 ≤ 6643) (hbl : k1 + k2 ≤ 6643)
    (hret : ∀ (r : Rat) (D : Addr) (t t' : Tok) (c : Nat) (h' : Heap) (tk' : Nat), r = Rat.divInt (x1 * x2) (y1 * y2) → Builtin.Int.intBits r.num ≤ n1 + n2 → Builtin.Int.intBits (r.den : Int) ≤ k1 + k2 → Fr h₀ L h' m → News h₀ L h' ((D, RatO r t t' c) :: news) → (∀ p ∈ news, p.1 ≠ D) → Q (.ref D) { s with heap := h', toks := tk' }) :
    wpAny (model PySem.Challenge.rw_ui0509_06.row.prog w) (ktrTop dp un gd cn cs L a ccd cl outer) (call (.ref 94) [.ref D1, .ref D2]) Q E s :=
  times_c B F X N T hk e1 e2 hd hu (nzmul hy hz) (mulOk_of_bits b1 b3 (by omega)) (mulOk_of_bits b2 b4 (by omega)) (Fits.of (bits_mul b1 b3) hbu) (Fits.of (bits_mul b2 b4) hbl) fun r D t t' c h' tk' e F' N' l => hret r D t t' c h' tk' e (e ▸ bits_num (bits_mul b1 b3)) (e ▸ bits_den (nzmul hy hz) (bits_mul b2 b4)) F' N' l
theorem times_z {w : World} {p : Program} {loose : List Str} {mean : ExcName → Option Value} {mg mb : Str → Option Value} {dp un : Nat} {gd : Option (List Code)} {cn : Str} {cs : Scope} {a : Addr} {ccd : Value} {cl : List (Str × Addr)} {outer : List Env} {A₀ : Around} {base h₀ : Heap} {L : Addr} {m : Str → Option Value} {news : List (Addr × Obj)} {s : Shared} {Q E : Value → Shared → Prop} {D1 D2 : Addr} {x1 x2 : Int} {t1 t1' t2 t2' : Tok} {c1 c2 : Nat} {n1 n2 : Nat}
    (B : Below A₀ base outer h₀) (F : Fr h₀ L s.heap m) (X : (Mine.hd.heap_39 w.params).In h₀) (N : News h₀ L s.heap news) (T : Top p loose mean mg mb h₀) (hk : cs.kind = .function) (e1 : s.heap.get? D1 = some (T2 x1 1 t1 t1' c1)) (e2 : s.heap.get? D2 = some (T2 x2 1 t2 t2' c2))
    (hd : dp + 3 < recursionLimit) (hu : un + 24 < cLine) (b1 : Builtin.Int.intBits x1 ≤ n1) (b3 : Builtin.Int.intBits x2 ≤ n2) (hbu : n1 + n2 ≤ 6643)
    (hret : ∀ (D : Addr) (t t' : Tok) (c : Nat) (h' : Heap) (tk' : Nat), Fr h₀ L h' m → News h₀ L h' ((D, T2 (x1 * x2) 1 t t' c) :: news) → (∀ p ∈ news, p.1 ≠ D) → Q (.ref D) { s with heap := h', toks := tk' }) :
    wpAny (model PySem.Challenge.rw_ui0509_06.row.prog w) (ktrTop dp un gd cn cs L a ccd cl outer) (call (.ref 94) [.ref D1, .ref D2]) Q E s :=
  times_u B F X N T hk e1 e2 hd hu (by decide) (by decide) b1 bits_one b3 bits_one hbu (by decide) fun r D t t' c h' tk' e _ _ F' N' l => hret D t t' c h' tk' F' (by
    have e' : r = Rat.divInt (x1 * x2) 1 := by rw [e]; rfl
    subst e'
    unfold RatO at N'
    rw [r_one_num, r_one_den] at N'
    exact N') l
theorem less_u {w : World} {p : Program} {loose : List Str} {mean : ExcName → Option Value} {mg mb : Str → Option Value} {dp un : Nat} {gd : Option (List Code)} {cn : Str} {cs : Scope} {a : Addr} {ccd : Value} {cl : List (Str × Addr)} {outer : List Env} {A₀ : Around} {base h₀ : Heap} {L : Addr} {m : Str → Option Value} {news : List (Addr × Obj)} {s : Shared} {Q E : Value → Shared → Prop} {D1 D2 : Addr} {x1 y1 x2 y2 : Int} {t1 t1' t2 t2' : Tok} {c1 c2 : Nat} {n1 k1 n2 k2 : Nat}
    (B : Below A₀ base outer h₀) (F : Fr h₀ L s.heap m) (X : (Mine.hd.heap_39 w.params).In h₀) (N : News h₀ L s.heap news) (T : Top p loose mean mg mb h₀) (hk : cs.kind = .function) (e1 : s.heap.get? D1 = some (T2 x1 y1 t1 t1' c1)) (e2 : s.heap.get? D2 = some (T2 x2 y2 t2 t2' c2))
    (hd : dp + 3 < recursionLimit) (hu : un + 24 < cLine) (b1 : Builtin.Int.intBits x1 ≤ n1) (b2 : Builtin.Int.intBits y1 ≤ k1) (b3 : Builtin.Int.intBits x2 ≤ n2) (b4 : Builtin.Int.intBits y2 ≤ k2) (hbu : n1 + k2 ≤ 100000) (hbl : n2 + k1 ≤ 100000)
    (hret : ∀ (h' : Heap) (tk' : Nat), Fr h₀ L h' m → News h₀ L h' news → Q (.bool (decide (x1 * y2 < x2 * y1))) { s with heap := h', toks := tk' }) :
    wpAny (model PySem.Challenge.rw_ui0509_06.row.prog w) (ktrTop dp un gd cn cs L a ccd cl outer) (call (.ref 101) [.ref D1, .ref D2]) Q E s :=
  less_c B F X N T hk e1 e2 hd hu (mulOk_of_bits b1 b4 (by omega)) (mulOk_of_bits b3 b2 (by omega)) hret
theorem less_z {w : World} {p : Program} {loose : List Str} {mean : ExcName → Option Value} {mg mb : Str → Option Value} {dp un : Nat} {gd : Option (List Code)} {cn : Str} {cs : Scope} {a : Addr} {ccd : Value} {cl : List (Str × Addr)} {outer : List Env} {A₀ : Around} {base h₀ : Heap} {L : Addr} {m : Str → Option Value} {news : List (Addr × Obj)} {s : Shared} {Q E : Value → Shared → Prop} {D1 D2 : Addr} {x1 x2 : Int} {t1 t1' t2 t2' : Tok} {c1 c2 : Nat} {n1 n2 : Nat}
    (B : Below A₀ base outer h₀) (F : Fr h₀ L s.heap m) (X : (Mine.hd.heap_39 w.params).In h₀) (N : News h₀ L s.heap news) (T : Top p loose mean mg mb h₀) (hk : cs.kind = .function) (e1 : s.heap.get? D1 = some (T2 x1 1 t1 t1' c1)) (e2 : s.heap.get? D2 = some (T2 x2 1 t2 t2' c2))
    (hd : dp + 3 < recursionLimit) (hu : un + 24 < cLine) (b1 : Builtin.Int.intBits x1 ≤ n1) (b3 : Builtin.Int.intBits x2 ≤ n2) (hbu : n1 + 1 ≤ 100000) (hbl : n2 + 1 ≤ 100000)
    (hret : ∀ (h' : Heap) (tk' : Nat), Fr h₀ L h' m → News h₀ L h' news → Q (.bool (decide (x1 < x2))) { s with heap := h', toks := tk' }) :
    wpAny (model PySem.Challenge.rw_ui0509_06.row.prog w) (ktrTop dp un gd cn cs L a ccd cl outer) (call (.ref 101) [.ref D1, .ref D2]) Q E s :=
  less_u B F X N T hk e1 e2 hd hu b1 bits_one b3 bits_one hbu hbl (by simpa only [Int.mul_one] using hret)
theorem frac_sf {w : World} {p : Program} {loose : List Str} {mean : ExcName → Option Value} {mg mb : Str → Option Value} {dp un : Nat} {gd : Option (List Code)} {cn : Str} {cs : Scope} {a : Addr} {ccd : Value} {cl : List (Str × Addr)} {outer : List Env} {A₀ : Around} {base h₀ : Heap} {L : Addr} {m : Str → Option Value} {news : List (Addr × Obj)} {s : Shared} {Q E : Value → Shared → Prop} {r : Rat} {t1 t2 : Tok}
    (B : Below A₀ base outer h₀) (F : Fr h₀ L s.heap m) (X : (Mine.hd.heap_39 w.params).In h₀) (N : News h₀ L s.heap news) (T : Top p loose mean mg mb h₀) (hk : cs.kind = .function)
    (hd : dp + 2 < recursionLimit) (hu : un + 16 < cLine) (hx1 : Fits r.num) (hy1 : Fits (r.den : Int))
    (hret : ∀ (D : Addr) (t t' : Tok) (c : Nat) (h' : Heap) (tk' : Nat), Fr h₀ L h' m → News h₀ L h' ((D, RatO r t t' c) :: news) → (∀ p ∈ news, p.1 < D) → Q (.ref D) { s with heap := h', toks := tk' }) :
    wpAny (model PySem.Challenge.rw_ui0509_06.row.prog w) (ktrTop dp un gd cn cs L a ccd cl outer) (call (.ref 72) [.int r.num t1, .int (r.den : Int) t2]) Q E s :=
  frac_c dp un gd cn cs a ccd cl outer A₀ base h₀ L m news s Q E r.num r.den t1 t2 B F X N T hk hd hu (nzden r) hx1 hy1 fun r' D t t' c h' tk' e F' N' l => hret D t t' c h' tk' F' (by
    rw [Rat.num_divInt_den] at e
    subst e
    exact N') l
theorem eq_T2h {prog : Program} {w : World} {A : Around} {E : Value → Shared → Prop} {s : Shared} {D1 D2 : Addr} {x1 y1 x2 y2 : Int} {t1 t1' t2 t2' : Tok} {c1 c2 : Nat} {Q : Value → Shared → Prop}
    (e1 : s.heap.get? D1 = some (T2 x1 y1 t1 t1' c1)) (e2 : s.heap.get? D2 = some (T2 x2 y2 t2 t2' c2)) (hu : A.units + 64 < cLine) (h : Q (.bool ((x1 == x2 && y1 == y2))) s) : wpAny (model prog w) A (compareOp .Eq (.ref D1) (.ref D2)) Q E s := by
  refine eq_dataH (reads_tuple_at e1 rfl rfl (ReadsAll.cons (Reads.int _ _) (ReadsAll.cons (Reads.int _ _) ReadsAll.nil))) (reads_tuple_at e2 rfl rfl (ReadsAll.cons (Reads.int _ _) (ReadsAll.cons (Reads.int _ _) ReadsAll.nil))) (by ke_shaped) (by ke_shaped) hu ?_
  ke_norm
  exact h
theorem ne_T2h {prog : Program} {w : World} {A : Around} {E : Value → Shared → Prop} {s : Shared} {D1 D2 : Addr} {x1 y1 x2 y2 : Int} {t1 t1' t2 t2' : Tok} {c1 c2 : Nat} {Q : Value → Shared → Prop}
    (e1 : s.heap.get? D1 = some (T2 x1 y1 t1 t1' c1)) (e2 : s.heap.get? D2 = some (T2 x2 y2 t2 t2' c2)) (hu : A.units + 64 < cLine) (h : Q (.bool (!(x1 == x2 && y1 == y2))) s) : wpAny (model prog w) A (compareOp .NotEq (.ref D1) (.ref D2)) Q E s := by
  refine ne_dataH (reads_tuple_at e1 rfl rfl (ReadsAll.cons (Reads.int _ _) (ReadsAll.cons (Reads.int _ _) ReadsAll.nil))) (reads_tuple_at e2 rfl rfl (ReadsAll.cons (Reads.int _ _) (ReadsAll.cons (Reads.int _ _) ReadsAll.nil))) (by ke_shaped) (by ke_shaped) hu ?_
  ke_norm
  exact h
section
local macro_rules | `(tactic| walk_at "subscriptTail") => `(tactic| (k_here; (with_reducible show wpAny _ _ (subscriptTail _ _ (Value.ref _) (Value.int _ _)) _ _ _); k_dflt (refine' tup_g ?k1 ?k2 ?k3 ?k4 ?k5 ?k6 ?k7 ?k8 ?_ ?k9 ?k10; (case k1 => k_asm); (case k2 => with_reducible assumption); (case k3 => exact rfl); (case k4 => exact rfl); (case k5 => decide); (case k6 => decide); (case k7 => exact rfl); (case k8 => exact rfl); (case k9 => with_unfolding_all rfl); (case k10 => (intro _; with_unfolding_all rfl)); k_whole)))
local macro_rules | `(tactic| walk_at "call type:type") => `(tactic| (k_here; (with_reducible show wpAny _ _ (call (Value.type "type") [Value.ref _]) _ _ _); k_dflt (refine' kto_cont (T := "tuple") ?c ?n ?_; (case c => exact ⟨_, Fr.keep (by k_asm) _ _ (by assumption), rfl⟩); (case n => decide +kernel); k_whole)))
local macro_rules | `(tactic| walk_at "call builtin:len") => `(tactic| (k_here; (with_reducible show wpAny _ _ (call (Value.builtin "len") [Value.ref _]) _ _ _); k_dflt (refine' kun_lenT (k := 2) ?k1 ?k2 ?k3 ?_; (case k1 => exact ⟨_, Fr.keep (by k_asm) _ _ (by assumption), rfl, _, rfl⟩); (case k2 => exact rfl); (case k3 => decide); k_whole)))
local macro_rules | `(tactic| walk_at "binaryOp Mult int int") => `(tactic| (with_reducible refine mul_int ?_ ?mo; (case mo => assumption)))
local macro_rules | `(tactic| walk_at "call ref") => `(tactic| (k_here; (with_reducible show wpAny _ _ (call (Value.ref 72) [Value.int _ _, Value.int _ _]) _ _ _); k_dflt (refine' frac_sf ?k1 ?k2 ?k3 ?k4 ?k5 ?k6 ?k7 ?k8 ?k10 ?k11 ?_; (case k1 => k_asm); (case k2 => k_asm); (case k3 => k_asm); (case k4 => k_asm); (case k5 => k_asm); (case k6 => first | exact rfl | assumption); (case k7 => ktr_room); (case k8 => ktr_units); (case k10 => assumption); (case k11 => assumption); k_whole); intro D' t' u' c' h' tk' F' N' l1; (try k_sweep)))
local macro_rules | `(tactic| walk_at "call ref") => `(tactic| (k_here; (with_reducible show wpAny _ _ (call (Value.ref 101) [Value.ref _, Value.ref _]) _ _ _); k_dflt (refine' less_c ?k1 ?k2 ?k3 ?k4 ?k5 ?k6 ?m1 ?m2 ?k7 ?k8 ?k10 ?k11 ?_; (case k1 => k_asm); (case k2 => k_asm); (case k3 => k_asm); (case k4 => k_asm); (case k5 => k_asm); (case k6 => first | exact rfl | assumption); (case m1 => exact Fr.keep (by k_asm) _ _ (by with_reducible assumption)); (case m2 => exact Fr.keep (by k_asm) _ _ (by with_reducible assumption)); (case k7 => ktr_room); (case k8 => ktr_units); (case k10 => assumption); (case k11 => assumption); k_whole); intro h' tk' F' N'; (try k_sweep)))
local macro_rules | `(tactic| walk_at "compareOp NotEq ref ref") => `(tactic| (k_here; (with_reducible show wpAny _ _ (compareOp CmpOp.NotEq (Value.ref _) (Value.ref _)) _ _ _); k_dflt (refine' ne_T2h ?k2 ?k3 ?k4 ?_; (case k2 => first | exact Fr.keep (by k_asm) _ _ (by with_reducible assumption) | exact News.get (by k_asm) (by k_mem)); (case k3 => first | exact Fr.keep (by k_asm) _ _ (by with_reducible assumption) | exact News.get (by k_asm) (by k_mem)); (case k4 => first | exact Nat.le_of_ble_eq_true rfl | ktr_units)); (try simp only [beq_self_eq_true, Bool.and_true, Bool.true_and, Bool.not_true, Bool.not_false])))
theorem need_c {w : World} {p : Program} {loose : List Str} {mean : ExcName → Option Value} {mg mb : Str → Option Value} {dp un : Nat} {gd : Option (List Code)} {cn : Str} {cs : Scope} {a : Addr} {ccd : Value} {cl : List (Str × Addr)} {outer : List Env} {A₀ : Around} {base h₀ : Heap} {L : Addr} {m : Str → Option Value} {news : List (Addr × Obj)} {s : Shared} {Q E : Value → Shared → Prop} {D1 : Addr} {r : Rat} {t1 t1' : Tok} {c1 : Nat}
    (B : Below A₀ base outer h₀) (F : Fr h₀ L s.heap m) (X : (Mine.hd.heap_39 w.params).In h₀) (N : News h₀ L s.heap news) (T : Top p loose mean mg mb h₀) (hk : cs.kind = .function) (e1 : s.heap.get? D1 = some (RatO r t1 t1' c1))
    (hd : dp + 4 < recursionLimit) (hu : un + 100 < cLine) (hx1 : Fits r.num) (hy1 : Fits (r.den : Int))
    (hret : ∀ (h' : Heap) (tk' : Nat), Fr h₀ L h' m → News h₀ L h' news → Q (.ref D1) { s with heap := h', toks := tk' }) :
    wpAny (model PySem.Challenge.rw_ui0509_06.row.prog w) (ktrTop dp un gd cn cs L a ccd cl outer) (call (.ref 80) [.ref D1]) Q E s := by
  w_top off
  revert X; k_fill; intro X
  refine wpAny_call ?_
  k_dflt (refine' code_need [] ?k1 ?k2 ?k3 ?k4 ?k5 ?kA ?kF ?kK ?k6 ?k7 ?k8 ?k9 ?kB ?kN ?_ ?c2 ?c3 ?c4 ?c5; (case kA => exact rfl); (case kF => exact rfl); (case kK => assumption); (case k1 => k_asm); (case k2 => k_asm); (case k3 => k_asm); (case k4 => k_asm); (case k5 => k_asm); (case k6 => k_is); (case k7 => k_is); (case k8 => ktr_room); (case k9 => first | exact BindsTo.of_eq rfl | exact binds_K (by k_in) rfl (by k_is) rfl rfl rfl); (case c5 => decide); (case kB => exact locs rfl); (case kN => exact fun _ h => nomatch h); (case c2 => exact rfl); (case c3 => exact rfl); (case c4 => exact rfl); k_whole; intro g' L' h' tk0 FG' F' N' B' X' T' hG'; (try dsimp only); (try k_fold))
  replace e1 := hG' _ _ e1 (by simp)
  k_steps
  all_goals (refine leaveN_ (by k_asm) (by k_asm) ?_; intro kF kN kR kD; (try dsimp only); exact hret _ _ kF (news_all kR))
theorem need_n {w : World} {p : Program} {loose : List Str} {mean : ExcName → Option Value} {mg mb : Str → Option Value} {dp un : Nat} {gd : Option (List Code)} {cn : Str} {cs : Scope} {a : Addr} {ccd : Value} {cl : List (Str × Addr)} {outer : List Env} {A₀ : Around} {base h₀ : Heap} {L : Addr} {m : Str → Option Value} {news : List (Addr × Obj)} {s : Shared} {Q E : Value → Shared → Prop} {D1 : Addr} {r : Rat} {t1 t1' : Tok} {c1 : Nat} {D2 : Addr} {x2 y2 : Int} {t2 t2' : Tok} {c2 : Nat}
    (B : Below A₀ base outer h₀) (F : Fr h₀ L s.heap m) (X : (Mine.hd.heap_39 w.params).In h₀) (N : News h₀ L s.heap news) (T : Top p loose mean mg mb h₀) (hk : cs.kind = .function) (e1 : s.heap.get? D1 = some (RatO r t1 t1' c1)) (e2 : s.heap.get? D2 = some (T2 x2 y2 t2 t2' c2)) (m0 : IntMulOk r.num y2) (m1 : IntMulOk x2 (r.den : Int)) (hl : ¬ (r.num * y2 < x2 * (r.den : Int)))
    (hd : dp + 4 < recursionLimit) (hu : un + 100 < cLine) (hx1 : Fits r.num) (hy1 : Fits (r.den : Int))
    (hret : ∀ (h' : Heap) (tk' : Nat), Fr h₀ L h' m → News h₀ L h' news → Q (.ref D1) { s with heap := h', toks := tk' }) :
    wpAny (model PySem.Challenge.rw_ui0509_06.row.prog w) (ktrTop dp un gd cn cs L a ccd cl outer) (call (.ref 80) [.ref D1, .ref D2]) Q E s := by
  w_top off
  revert X; k_fill; intro X
  refine wpAny_call ?_
  k_dflt (refine' code_need [] ?k1 ?k2 ?k3 ?k4 ?k5 ?kA ?kF ?kK ?k6 ?k7 ?k8 ?k9 ?kB ?kN ?_ ?c2 ?c3 ?c4 ?c5; (case kA => exact rfl); (case kF => exact rfl); (case kK => assumption); (case k1 => k_asm); (case k2 => k_asm); (case k3 => k_asm); (case k4 => k_asm); (case k5 => k_asm); (case k6 => k_is); (case k7 => k_is); (case k8 => ktr_room); (case k9 => first | exact BindsTo.of_eq rfl | exact binds_K (by k_in) rfl (by k_is) rfl rfl rfl); (case c5 => decide); (case kB => exact locs rfl); (case kN => exact fun _ h => nomatch h); (case c2 => exact rfl); (case c3 => exact rfl); (case c4 => exact rfl); k_whole; intro g' L' h' tk0 FG' F' N' B' X' T' hG'; (try dsimp only); (try k_fold))
  replace e1 := hG' _ _ e1 (by simp)
  replace e2 := hG' _ _ e2 (by simp)
  k_steps
  all_goals (refine leaveN_ (by k_asm) (by k_asm) ?_; intro kF kN kR kD; (try dsimp only); exact hret _ _ kF (news_all kR))
end
theorem need_cu {w : World} {p : Program} {loose : List Str} {mean : ExcName → Option Value} {mg mb : Str → Option Value} {dp un : Nat} {gd : Option (List Code)} {cn : Str} {cs : Scope} {a : Addr} {ccd : Value} {cl : List (Str × Addr)} {outer : List Env} {A₀ : Around} {base h₀ : Heap} {L : Addr} {m : Str → Option Value} {news : List (Addr × Obj)} {s : Shared} {Q E : Value → Shared → Prop} {D1 : Addr} {r : Rat} {t1 t1' : Tok} {c1 : Nat} {nx ny : Nat}
    (B : Below A₀ base outer h₀) (F : Fr h₀ L s.heap m) (X : (Mine.hd.heap_39 w.params).In h₀) (N : News h₀ L s.heap news) (T : Top p loose mean mg mb h₀) (hk : cs.kind = .function) (e1 : s.heap.get? D1 = some (RatO r t1 t1' c1))
    (hd : dp + 4 < recursionLimit) (hu : un + 100 < cLine) (b1 : Builtin.Int.intBits r.num ≤ nx) (b2 : Builtin.Int.intBits (r.den : Int) ≤ ny) (hnx : nx ≤ 6643) (hny : ny ≤ 6643)
    (hret : ∀ (h' : Heap) (tk' : Nat), Fr h₀ L h' m → News h₀ L h' news → Q (.ref D1) { s with heap := h', toks := tk' }) :
    wpAny (model PySem.Challenge.rw_ui0509_06.row.prog w) (ktrTop dp un gd cn cs L a ccd cl outer) (call (.ref 80) [.ref D1]) Q E s :=
  need_c B F X N T hk e1 hd hu (Fits.of b1 hnx) (Fits.of b2 hny) hret
theorem need_cz {w : World} {p : Program} {loose : List Str} {mean : ExcName → Option Value} {mg mb : Str → Option Value} {dp un : Nat} {gd : Option (List Code)} {cn : Str} {cs : Scope} {a : Addr} {ccd : Value} {cl : List (Str × Addr)} {outer : List Env} {A₀ : Around} {base h₀ : Heap} {L : Addr} {m : Str → Option Value} {news : List (Addr × Obj)} {s : Shared} {Q E : Value → Shared → Prop} {D1 : Addr} {x1 : Int} {t1 t1' : Tok} {c1 : Nat} {nx : Nat}
    (B : Below A₀ base outer h₀) (F : Fr h₀ L s.heap m) (X : (Mine.hd.heap_39 w.params).In h₀) (N : News h₀ L s.heap news) (T : Top p loose mean mg mb h₀) (hk : cs.kind = .function) (e1 : s.heap.get? D1 = some (T2 x1 1 t1 t1' c1))
    (hd : dp + 4 < recursionLimit) (hu : un + 100 < cLine) (b1 : Builtin.Int.intBits x1 ≤ nx) (hnx : nx ≤ 6643)
    (hret : ∀ (h' : Heap) (tk' : Nat), Fr h₀ L h' m → News h₀ L h' news → Q (.ref D1) { s with heap := h', toks := tk' }) :
    wpAny (model PySem.Challenge.rw_ui0509_06.row.prog w) (ktrTop dp un gd cn cs L a ccd cl outer) (call (.ref 80) [.ref D1]) Q E s :=
  need_c (r := (x1 : Rat)) (t1 := t1) (t1' := t1') (c1 := c1) B F X N T hk e1 hd hu (Fits.of b1 hnx) fits_one hret
theorem need_nz {w : World} {p : Program} {loose : List Str} {mean : ExcName → Option Value} {mg mb : Str → Option Value} {dp un : Nat} {gd : Option (List Code)} {cn : Str} {cs : Scope} {a : Addr} {ccd : Value} {cl : List (Str × Addr)} {outer : List Env} {A₀ : Around} {base h₀ : Heap} {L : Addr} {m : Str → Option Value} {news : List (Addr × Obj)} {s : Shared} {Q E : Value → Shared → Prop} {D1 D2 : Addr} {x1 x2 : Int} {t1 t1' t2 t2' : Tok} {c1 c2 : Nat} {nx n2 : Nat}
    (B : Below A₀ base outer h₀) (F : Fr h₀ L s.heap m) (X : (Mine.hd.heap_39 w.params).In h₀) (N : News h₀ L s.heap news) (T : Top p loose mean mg mb h₀) (hk : cs.kind = .function) (e1 : s.heap.get? D1 = some (T2 x1 1 t1 t1' c1)) (e2 : s.heap.get? D2 = some (T2 x2 1 t2 t2' c2))
    (hd : dp + 4 < recursionLimit) (hu : un + 100 < cLine) (b1 : Builtin.Int.intBits x1 ≤ nx) (b2 : Builtin.Int.intBits x2 ≤ n2) (hnx : nx ≤ 6643) (hn2 : n2 ≤ 6643) (hl : x2 ≤ x1)
    (hret : ∀ (h' : Heap) (tk' : Nat), Fr h₀ L h' m → News h₀ L h' news → Q (.ref D1) { s with heap := h', toks := tk' }) :
    wpAny (model PySem.Challenge.rw_ui0509_06.row.prog w) (ktrTop dp un gd cn cs L a ccd cl outer) (call (.ref 80) [.ref D1, .ref D2]) Q E s :=
  need_n (r := (x1 : Rat)) (t1 := t1) (t1' := t1') (c1 := c1) B F X N T hk e1 e2 (mulOk_of_bits b1 bits_one (by omega)) (mulOk_of_bits b2 bits_one (by omega)) (by show ¬ (x1 * 1 < x2 * 1); omega) hd hu (Fits.of b1 hnx) fits_one hret
theorem idx_no {n : Nat} {k : Int} (h : k < -((n : Nat) : Int) ∨ (n : Int) ≤ k) (h0 : 0 ≤ k) (h1 : k < n) : False := by omega
theorem need_number_c {w : World} {p : Program} {loose : List Str} {mean : ExcName → Option Value} {mg mb : Str → Option Value} {dp un : Nat} {gd : Option (List Code)} {cn : Str} {cs : Scope} {a : Addr} {ccd : Value} {cl : List (Str × Addr)} {outer : List Env} {A₀ : Around} {base h₀ : Heap} {L : Addr} {m : Str → Option Value} {news : List (Addr × Obj)} {s : Shared} {Q E : Value → Shared → Prop} {v lo hi : Int} {t1 t2 t3 t4 : Tok} {what : Str}
    (B : Below A₀ base outer h₀) (F : Fr h₀ L s.heap m) (X : (Mine.hd.heap_39 w.params).In h₀) (N : News h₀ L s.heap news) (T : Top p loose mean mg mb h₀) (hk : cs.kind = .function) (h1 : lo ≤ v) (h2 : v ≤ hi)
    (hd : dp + 2 < recursionLimit)
    (hret : ∀ (h' : Heap) (tk' : Nat), Fr h₀ L h' m → News h₀ L h' news → Q (.int v t1) { s with heap := h', toks := tk' }) :
    wpAny (model PySem.Challenge.rw_ui0509_06.row.prog w) (ktrTop dp un gd cn cs L a ccd cl outer) (call (.ref 41) [.int v t1, .int lo t2, .int hi t3, .str what t4]) Q E s := by
  w_top off
  revert X; k_fill; intro X
  refine wpAny_call ?_
  k_dflt (refine' code_need [] ?k1 ?k2 ?k3 ?k4 ?k5 ?kA ?kF ?kK ?k6 ?k7 ?k8 ?k9 ?kB ?kN ?_ ?c2 ?c3 ?c4 ?c5; (case kA => exact rfl); (case kF => exact rfl); (case kK => assumption); (case k1 => k_asm); (case k2 => k_asm); (case k3 => k_asm); (case k4 => k_asm); (case k5 => k_asm); (case k6 => k_is); (case k7 => k_is); (case k8 => ktr_room); (case k9 => first | exact BindsTo.of_eq rfl | exact binds_K (by k_in) rfl (by k_is) rfl rfl rfl); (case c5 => decide); (case kB => exact locs rfl); (case kN => exact fun _ h => nomatch h); (case c2 => exact rfl); (case c3 => exact rfl); (case c4 => exact rfl); k_whole; intro g' L' h' tk0 FG' F' N' B' X' T' hG'; (try dsimp only); (try k_fold))
  k_steps
  all_goals (refine leaveN_ (by k_asm) (by k_asm) ?_; intro kF kN kR kD; (try dsimp only); exact hret _ _ kF (news_all kR))
theorem need_name_m {w : World} {p : Program} {loose : List Str} {mean : ExcName → Option Value} {mg mb : Str → Option Value} {dp un : Nat} {gd : Option (List Code)} {cn : Str} {cs : Scope} {a : Addr} {ccd : Value} {cl : List (Str × Addr)} {outer : List Env} {A₀ : Around} {base h₀ : Heap} {L : Addr} {m : Str → Option Value} {news : List (Addr × Obj)} {s : Shared} {Q E : Value → Shared → Prop} {t1 : Tok}
    (B : Below A₀ base outer h₀) (F : Fr h₀ L s.heap m) (X : (Mine.hd.heap_39 w.params).In h₀) (N : News h₀ L s.heap news) (T : Top p loose mean mg mb h₀) (hk : cs.kind = .function)
    (hd : dp + 2 < recursionLimit)
    (hret : ∀ (h' : Heap) (tk' : Nat), Fr h₀ L h' m → News h₀ L h' news → Q (.str (Str.ofString "m") t1) { s with heap := h', toks := tk' }) :
    wpAny (model PySem.Challenge.rw_ui0509_06.row.prog w) (ktrTop dp un gd cn cs L a ccd cl outer) (call (.ref 55) [.str (Str.ofString "m") t1]) Q E s := by
  w_top off
  revert X; k_fill; intro X
  refine wpAny_call ?_
  k_dflt (refine' code_need [] ?k1 ?k2 ?k3 ?k4 ?k5 ?kA ?kF ?kK ?k6 ?k7 ?k8 ?k9 ?kB ?kN ?_ ?c2 ?c3 ?c4 ?c5; (case kA => exact rfl); (case kF => exact rfl); (case kK => assumption); (case k1 => k_asm); (case k2 => k_asm); (case k3 => k_asm); (case k4 => k_asm); (case k5 => k_asm); (case k6 => k_is); (case k7 => k_is); (case k8 => ktr_room); (case k9 => first | exact BindsTo.of_eq rfl | exact binds_K (by k_in) rfl (by k_is) rfl rfl rfl); (case c5 => decide); (case kB => exact locs rfl); (case kN => exact fun _ h => nomatch h); (case c2 => exact rfl); (case c3 => exact rfl); (case c4 => exact rfl); k_whole; intro g' L' h' tk0 FG' F' N' B' X' T' hG'; (try dsimp only); (try k_fold))
  k_steps
  all_goals (try dsimp only)
  all_goals first | exact (idx_no (by assumption) (by decide) (by decide +kernel)).elim | (refine leaveN_ (by k_asm) (by k_asm) ?_; intro kF kN kR kD; (try dsimp only); exact hret _ _ kF (news_all kR))
abbrev meterD (P : Params) (k1 k2 k3 k4 k5 : Tok) (nm tu fa ro re : Value) : Obj :=
  dictOf [⟨PyData.keyHash P (Str.ofString "name"), .str (Str.ofString "name") k1, nm⟩, ⟨PyData.keyHash P (Str.ofString "turns"), .str (Str.ofString "turns") k2, tu⟩, ⟨PyData.keyHash P (Str.ofString "factor"), .str (Str.ofString "factor") k3, fa⟩, ⟨PyData.keyHash P (Str.ofString "rows"), .str (Str.ofString "rows") k4, ro⟩, ⟨PyData.keyHash P (Str.ofString "rest"), .str (Str.ofString "rest") k5, re⟩] 5
abbrev Row (d v : Int) (t t' : Tok) (u : Value) (c : Nat) : Obj := { cls := .type "tuple", data := .seq #[.int d t, .int v t', u] c }
section
local macro_rules | `(tactic| bits_by_make) => `(tactic| with_reducible assumption)
local macro_rules | `(tactic| ktr_units) => `(tactic| (have hcL9 := cLine_is; (try simp only [units_under_make, units_in1, units_deeper, Around.mark_units, units_caller]); (try dsimp only [ktrTop]); omega))
local macro_rules | `(tactic| walk_at "call ref") => `(tactic| (k_here; (with_reducible show wpAny _ _ (call (Value.ref 80) [Value.ref _]) _ _ _); k_dflt (refine' need_cu ?k1 ?k2 ?k3 ?k4 ?k5 ?k6 ?m1 ?k7 ?k8 ?b1 ?b2 ?z1 ?z2 ?_; (case k1 => k_asm); (case k2 => k_asm); (case k3 => k_asm); (case k4 => k_asm); (case k5 => k_asm); (case k6 => first | exact rfl | assumption); (case k7 => first | exact Nat.le_of_ble_eq_true rfl | ktr_room); (case k8 => first | exact Nat.le_of_ble_eq_true rfl | ktr_units); (case m1 => (first | exact News.get (by k_asm) (by k_mem) | exact Fr.keep (by k_asm) _ _ (by with_reducible assumption) | exact Frag.In.keeps (by k_asm) (Fr.keep (by k_asm)) _ _ (by k_is))); (case b1 => bits_by_make); (case b2 => bits_by_make); (case z1 => first | assumption | decide | omega); (case z2 => first | assumption | decide | omega); k_whole); intro h' tk' F' N'; (try k_sweep)))
local macro_rules | `(tactic| walk_at "call ref") => `(tactic| (k_here; (with_reducible show wpAny _ _ (call (Value.ref 41) [Value.int _ _, Value.int _ _, Value.int _ _, Value.str _ _]) _ _ _); k_dflt (refine' need_number_c ?k1 ?k2 ?k3 ?k4 ?k5 ?k6 ?h1 ?h2 ?k7 ?_; (case k1 => k_asm); (case k2 => k_asm); (case k3 => k_asm); (case k4 => k_asm); (case k5 => k_asm); (case k6 => first | exact rfl | assumption); (case k7 => first | exact Nat.le_of_ble_eq_true rfl | ktr_room); (case h1 => first | decide | assumption | omega); (case h2 => first | decide | assumption | omega); k_whole); intro h' tk' F' N'; (try k_sweep)))
local macro_rules | `(tactic| walk_at "call ref") => `(tactic| (k_here; (with_reducible show wpAny _ _ (call (Value.ref 55) [Value.str (PySem.Str.ofString "m") _]) _ _ _); k_dflt (refine' need_name_m ?k1 ?k2 ?k3 ?k4 ?k5 ?k6 ?k7 ?_; (case k1 => k_asm); (case k2 => k_asm); (case k3 => k_asm); (case k4 => k_asm); (case k5 => k_asm); (case k6 => first | exact rfl | assumption); (case k7 => first | exact Nat.le_of_ble_eq_true rfl | ktr_room); k_whole); intro h' tk' F' N'; (try k_sweep)))
local macro_rules | `(tactic| walk_at "subscriptTail") => `(tactic| (k_here; (with_reducible show wpAny _ _ (subscriptTail _ _ (Value.ref _) (Value.int _ _)) _ _ _); k_dflt (refine' tup_g ?k1 ?k2 ?k3 ?k4 ?k5 ?k6 ?k7 ?k8 ?_ ?k9 ?k10; (case k1 => k_asm); (case k2 => with_reducible assumption); (case k3 => exact rfl); (case k4 => exact rfl); (case k5 => decide); (case k6 => decide); (case k7 => exact rfl); (case k8 => exact rfl); (case k9 => with_unfolding_all rfl); (case k10 => (intro _; with_unfolding_all rfl)); k_whole)))
theorem meter_new_m {w : World} {p : Program} {loose : List Str} {mean : ExcName → Option Value} {mg mb : Str → Option Value} {dp un : Nat} {gd : Option (List Code)} {cn : Str} {cs : Scope} {a : Addr} {ccd : Value} {cl : List (Str × Addr)} {outer : List Env} {A₀ : Around} {base h₀ : Heap} {L : Addr} {m : Str → Option Value} {news : List (Addr × Obj)} {s : Shared} {Q E : Value → Shared → Prop} {D1 : Addr} {r : Rat} {tu : Int} {t1 t1' t2 t3 : Tok} {c1 n1 n2 : Nat}
    (B : Below A₀ base outer h₀) (F : Fr h₀ L s.heap m) (X : (Mine.hd.heap_39 w.params).In h₀) (N : News h₀ L s.heap news) (T : Top p loose mean mg mb h₀) (hk : cs.kind = .function) (e1 : (D1, RatO r t1 t1' c1) ∈ news)
    (hd : dp + 8 < recursionLimit) (hu : un + 200 < cLine) (h1 : 0 < r.num) (b1 : Builtin.Int.intBits r.num ≤ n1) (b2 : Builtin.Int.intBits (r.den : Int) ≤ n2) (z1 : n1 ≤ 6643) (z2 : n2 ≤ 6643) (hT : 10 ≤ tu) (hT2 : tu ≤ 1000000000000)
    (hret : ∀ (x d l : Addr) (k1 k2 k3 k4 k5 : Tok) (n : Nat) (h' : Heap) (tk' : Nat), Fr h₀ L h' m → News h₀ L h' ((x, instObj 161 d) :: (d, meterD w.params k1 k2 k3 k4 k5 (.str (Str.ofString "m") t2) (.int tu t3) (.ref D1) (.ref l) (.ref 56)) :: (l, listOf #[] n) :: news) → d ≠ x → l ≠ x → l ≠ d → (∀ p ∈ news, p.1 ≠ x) → (∀ p ∈ news, p.1 ≠ d) → (∀ p ∈ news, p.1 ≠ l) → Q (.ref x) { s with heap := h', toks := tk' }) :
    wpAny (model PySem.Challenge.rw_ui0509_06.row.prog w) (ktrTop dp un gd cn cs L a ccd cl outer) (call (.ref 161) [.str (Str.ofString "m") t2, .int tu t3, .ref D1]) Q E s := by
  w_top off
  revert X; k_fill; intro X
  k_dflt (refine' call_cls ?k1 ?k2 ?k3 ?k4 ?k5 ?k6 ?_; (case k1 => k_asm); (case k2 => k_asm); (case k3 => k_asm); (case k4 => k_is); (case k5 => k_is); (case k6 => k_is); k_whole; intro x0 d0 h0 F0 N0 l0 l00)
  have e2 := News.get N0 (List.mem_cons_of_mem _ (List.mem_cons_of_mem _ e1))
  have l2 : D1 < d0 := l0 _ e1
  k_dflt (refine' code_need [(x0, instObj 161 d0), (d0, dictOf [] 0)] ?k1 ?k2 ?k3 ?k4 ?k5 ?kA ?kF ?kK ?k6 ?k7 ?k8 ?k9 ?kB ?kN ?_ ?c2 ?c3 ?c4 ?c5; (case kA => exact rfl); (case kF => exact rfl); (case kK => assumption); (case k1 => k_asm); (case k2 => k_asm); (case k3 => k_asm); (case k4 => k_asm); (case k5 => k_asm); (case k6 => k_is); (case k7 => k_is); (case k8 => ktr_room); (case k9 => first | exact BindsTo.of_eq rfl | exact binds_K (by k_in) rfl (by k_is) rfl rfl rfl); (case c5 => decide); (case kB => exact locs rfl); (case kN => exact List.forall_mem_cons.mpr ⟨List.mem_cons_self .., List.forall_mem_cons.mpr ⟨List.mem_cons_of_mem _ (List.mem_cons_self ..), List.forall_mem_nil _⟩⟩); (case c2 => exact rfl); (case c3 => exact rfl); (case c4 => exact rfl); k_whole; intro g' L' h' tk0 FG' F' N' B' X' T' hG'; (try dsimp only); (try k_fold))
  replace e2 := hG' _ _ e2 (by simp only [List.map_cons, List.map_nil, List.mem_cons, List.not_mem_nil, or_false, not_or]; exact ⟨neN (by have := ltN l2; have := ltN l00; omega), neN (by have := ltN l2; omega)⟩)
  replace l00 := ltN l00
  k_steps
  all_goals (refine leaveN_ (by k_asm) (by k_asm) ?_; intro kF kN kR kD; dsimp only [InitBack]; refine ⟨rfl, ?_⟩; exact hret _ _ _ _ _ _ _ _ _ _ _ kF (news_cons kN (by k_mem) (news_cons kN (by k_mem) (news_cons kN (by k_mem) fun p hp => kR p (rest_two l0 l00 hp)))) (neN (by omega)) (neN (by omega)) (neN (by omega)) (fun p hp => kD p (rest_two l0 l00 hp) _ (by k_mem : (_, instObj _ _) ∈ _)) (fun p hp => kD p (rest_two l0 l00 hp) _ (by k_mem : (_, meterD ..) ∈ _)) (fun p hp => kD p (rest_two l0 l00 hp) (_, listOf #[] _) (by k_mem)))
end
theorem last_at {vs : List Value} {v : Value} : (vs ++ [v])[(-1 + ((vs ++ [v]).length : Int)).toNat]? = some v := by
  have : (-1 + ((vs ++ [v]).length : Int)).toNat = vs.length := by simp; omega
  rw [this]; simp
theorem lst_len {prog : Program} {w : World} {A : Around} {E : Value → Shared → Prop} {s : Shared} {h₀ : Heap} {L l : Addr} {news : List (Addr × Obj)} {vs : List Value} {n : Nat} {Q : Value → Shared → Prop} (N : News h₀ L s.heap news) (hm : (l, listOf vs.toArray n) ∈ news) (hf : vs.length < 1000000) (h : ∀ tk, Q (.int (vs.length : Int) tk) { s with toks := tk + 1 }) :
    wpAny (model prog w) A (call (.builtin "len") [.ref l]) Q E s := by
  refine len_list ⟨_, N.get hm, rfl, n, rfl⟩ (by rw [List.size_toArray]; omega) ?_
  rw [List.size_toArray]
  exact h _
section
local macro_rules | `(tactic| bits_by_make) => `(tactic| with_reducible assumption)
local macro_rules | `(tactic| ktr_units) => `(tactic| (have hcL9 := cLine_is; (try simp only [units_under_make, units_in1, units_deeper, Around.mark_units, units_caller]); (try dsimp only [ktrTop]); omega))
local macro_rules | `(tactic| walk_at "call ref") => `(tactic| (k_here; (with_reducible show wpAny _ _ (call (Value.ref 41) [Value.int _ _, Value.int _ _, Value.int _ _, Value.str _ _]) _ _ _); k_dflt (refine' need_number_c ?k1 ?k2 ?k3 ?k4 ?k5 ?k6 ?h1 ?h2 ?k7 ?_; (case k1 => k_asm); (case k2 => k_asm); (case k3 => k_asm); (case k4 => k_asm); (case k5 => k_asm); (case k6 => first | exact rfl | assumption); (case k7 => first | exact Nat.le_of_ble_eq_true rfl | ktr_room); (case h1 => first | decide | assumption | omega); (case h2 => first | decide | assumption | omega); k_whole); intro h' tk' F' N'; (try k_sweep)))
local macro_rules | `(tactic| walk_at "subscriptTail") => `(tactic| (k_here; (with_reducible show wpAny _ _ (subscriptTail _ _ (Value.ref _) (Value.int _ _)) _ _ _); k_dflt (refine' tup_g ?k1 ?k2 ?k3 ?k4 ?k5 ?k6 ?k7 ?k8 ?_ ?k9 ?k10; (case k1 => k_asm); (case k2 => with_reducible assumption); (case k3 => exact rfl); (case k4 => exact rfl); (case k5 => decide); (case k6 => decide); (case k7 => exact rfl); (case k8 => exact rfl); (case k9 => with_unfolding_all rfl); (case k10 => (intro _; with_unfolding_all rfl)); k_whole)))
local macro_rules | `(tactic| walk_at "subscriptTail") => `(tactic| (k_here; (with_reducible show wpAny _ _ (subscriptTail _ _ (Value.ref _) (Value.int _ _)) _ _ _); k_dflt (refine' kim_back ?k1 ?k2 ?k3 ?k4 ?k5 ?k6 ?k7 ?k8 ?_ ?k9 ?k10; (case k1 => k_asm); (case k2 => k_mem); (case k3 => exact rfl); (case k4 => exact rfl); (case k5 => decide); (case k6 => (simp only [List.length_append, List.length_cons, List.length_nil]; omega)); (case k7 => decide); (case k8 => exact last_at); (case k9 => with_unfolding_all rfl); (case k10 => (intro _; with_unfolding_all rfl)); k_whole)))
local macro_rules | `(tactic| walk_at "call builtin:len") => `(tactic| (k_here; (with_reducible show wpAny _ _ (call (Value.builtin "len") [Value.ref _]) _ _ _); k_dflt (refine' lst_len ?k1 ?k2 ?k3 ?_; (case k1 => k_asm); (case k2 => k_mem); (case k3 => (simp only [List.length_append, List.length_cons, List.length_nil]; omega)); k_whole); intro tk9; (try simp only [List.length_append, List.length_cons, List.length_nil])))
local macro_rules | `(tactic| size_fits) => `(tactic| ((try simp only [List.size_toArray, List.length_append, List.length_cons, List.length_nil]); rw [sizeLine_eq]; omega))
local macro_rules | `(tactic| walk_at "dummy") => `(tactic| fail)
theorem read_nil {w : World} {p : Program} {loose : List Str} {mean : ExcName → Option Value} {mg mb : Str → Option Value} {dp un : Nat} {gd : Option (List Code)} {cn : Str} {cs : Scope} {a : Addr} {ccd : Value} {cl : List (Str × Addr)} {outer : List Env} {A₀ : Around} {base h₀ : Heap} {L : Addr} {m : Str → Option Value} {news : List (Addr × Obj)} {s : Shared} {Q E : Value → Shared → Prop} {x d l : Addr} {k1 k2 k3 k4 k5 : Tok} {nm fa re : Value} {tu day val : Int} {t3 t4 t5 : Tok} {n : Nat} {news1 : List (Addr × Obj)} {g1 : Obj → List (Addr × Obj)}
    (B : Below A₀ base outer h₀) (F : Fr h₀ L s.heap m) (X : (Mine.hd.heap_39 w.params).In h₀) (N : News h₀ L s.heap news) (T : Top p loose mean mg mb h₀) (hk : cs.kind = .function) (ex : (x, instObj 161 d) ∈ news) (U2 : Upd d (meterD w.params k1 k2 k3 k4 k5 nm (.int tu t3) fa (.ref l) re) (meterD w.params k1 k2 k3 k4 k5 nm (.int tu t3) fa (.ref l) (.ref 56)) news news1) (U1 : UpdF l (listOf ([] : List Value).toArray n) news1 g1) (ndx : d ≠ x) (nlx : l ≠ x) (nld : l ≠ d)
    (hd : dp + 8 < recursionLimit) (h1 : 1 ≤ day) (h2 : day ≤ 10000000) (h3 : 0 ≤ val) (h4 : val < tu)
    (hret : ∀ (D : Addr) (c n' : Nat) (h' : Heap) (tk' : Nat), Fr h₀ L h' m → News h₀ L h' ((D, Row day val t4 t5 .none c) :: g1 (listOf (([] : List Value) ++ [Value.ref D]).toArray n')) → (∀ p ∈ news, p.1 ≠ D) → Q .none { s with heap := h', toks := tk' }) :
    wpAny (model PySem.Challenge.rw_ui0509_06.row.prog w) (ktrTop dp un gd cn cs L a ccd cl outer) (call (.ref 130) [.ref x, .int day t4, .int val t5]) Q E s := by
  replace ndx := neN ndx; replace nlx := neN nlx; replace nld := neN nld
  w_top off
  revert X; k_fill; intro X
  refine wpAny_call ?_
  k_dflt (refine' code_need [(x, instObj 161 d), (d, meterD w.params k1 k2 k3 k4 k5 nm (.int tu t3) fa (.ref l) re), (l, listOf ([] : List Value).toArray n)] ?k1 ?k2 ?k3 ?k4 ?k5 ?kA ?kF ?kK ?k6 ?k7 ?k8 ?k9 ?kB ?kN ?_ ?c2 ?c3 ?c4 ?c5; (case kA => exact rfl); (case kF => exact rfl); (case kK => assumption); (case k1 => k_asm); (case k2 => k_asm); (case k3 => k_asm); (case k4 => k_asm); (case k5 => k_asm); (case k6 => k_is); (case k7 => k_is); (case k8 => ktr_room); (case k9 => first | exact BindsTo.of_eq rfl | exact binds_K (by k_in) rfl (by k_is) rfl rfl rfl); (case c5 => decide); (case kB => exact locs rfl); (case kN => exact three_in ex (Upd.mem U2) (Upd.other U2 (UpdF.mem U1) nld)); (case c2 => exact rfl); (case c3 => exact rfl); (case c4 => exact rfl); k_whole; intro g' L' h' tk0 FG' F' N' B' X' T' hG'; (try dsimp only); (try k_fold))
  k_steps
  all_goals (refine leaveN_ (by k_asm) (by k_asm) ?_; intro kF kN kR kD; (try dsimp only); simp only [List.push_toArray] at kN; exact hret _ _ _ _ _ kF (news_cons kN (List.mem_cons_self ..) (news_upd2 N ex U2 U1 kN (by k_mem) (by k_mem) (by k_mem) kR)) (ne_three kD (List.mem_cons_self ..) (neN (by omega)) (neN (by omega)) (neN (by omega))))
theorem read_snoc {w : World} {p : Program} {loose : List Str} {mean : ExcName → Option Value} {mg mb : Str → Option Value} {dp un : Nat} {gd : Option (List Code)} {cn : Str} {cs : Scope} {a : Addr} {ccd : Value} {cl : List (Str × Addr)} {outer : List Env} {A₀ : Around} {base h₀ : Heap} {L : Addr} {m : Str → Option Value} {news : List (Addr × Obj)} {s : Shared} {Q E : Value → Shared → Prop} {x d l : Addr} {k1 k2 k3 k4 k5 : Tok} {nm fa re : Value} {tu day val : Int} {t3 t4 t5 : Tok} {n : Nat} {news1 : List (Addr × Obj)} {g1 : Obj → List (Addr × Obj)} {vs : List Value} {D0 : Addr} {day0 val0 : Int} {t6 t7 : Tok} {u0 : Value} {c0 : Nat}
    (B : Below A₀ base outer h₀) (F : Fr h₀ L s.heap m) (X : (Mine.hd.heap_39 w.params).In h₀) (N : News h₀ L s.heap news) (T : Top p loose mean mg mb h₀) (hk : cs.kind = .function) (ex : (x, instObj 161 d) ∈ news) (U2 : Upd d (meterD w.params k1 k2 k3 k4 k5 nm (.int tu t3) fa (.ref l) re) (meterD w.params k1 k2 k3 k4 k5 nm (.int tu t3) fa (.ref l) (.ref 56)) news news1) (U1 : UpdF l (listOf (vs ++ [Value.ref D0]).toArray n) news1 g1) (ndx : d ≠ x) (nlx : l ≠ x) (nld : l ≠ d) (e0 : s.heap.get? D0 = some (Row day0 val0 t6 t7 u0 c0)) (n0 : D0 ≠ x ∧ D0 ≠ d ∧ D0 ≠ l) (hlen : vs.length < 100000) (h5 : day0 < day)
    (hd : dp + 8 < recursionLimit) (h1 : 1 ≤ day) (h2 : day ≤ 10000000) (h3 : 0 ≤ val) (h4 : val < tu)
    (hret : ∀ (D : Addr) (c n' : Nat) (h' : Heap) (tk' : Nat), Fr h₀ L h' m → News h₀ L h' ((D, Row day val t4 t5 .none c) :: g1 (listOf ((vs ++ [Value.ref D0]) ++ [Value.ref D]).toArray n')) → (∀ p ∈ news, p.1 ≠ D) → Q .none { s with heap := h', toks := tk' }) :
    wpAny (model PySem.Challenge.rw_ui0509_06.row.prog w) (ktrTop dp un gd cn cs L a ccd cl outer) (call (.ref 130) [.ref x, .int day t4, .int val t5]) Q E s := by
  replace ndx := neN ndx; replace nlx := neN nlx; replace nld := neN nld
  w_top off
  revert X; k_fill; intro X
  refine wpAny_call ?_
  k_dflt (refine' code_need [(x, instObj 161 d), (d, meterD w.params k1 k2 k3 k4 k5 nm (.int tu t3) fa (.ref l) re), (l, listOf (vs ++ [Value.ref D0]).toArray n)] ?k1 ?k2 ?k3 ?k4 ?k5 ?kA ?kF ?kK ?k6 ?k7 ?k8 ?k9 ?kB ?kN ?_ ?c2 ?c3 ?c4 ?c5; (case kA => exact rfl); (case kF => exact rfl); (case kK => assumption); (case k1 => k_asm); (case k2 => k_asm); (case k3 => k_asm); (case k4 => k_asm); (case k5 => k_asm); (case k6 => k_is); (case k7 => k_is); (case k8 => ktr_room); (case k9 => first | exact BindsTo.of_eq rfl | exact binds_K (by k_in) rfl (by k_is) rfl rfl rfl); (case c5 => decide); (case kB => exact locs rfl); (case kN => exact three_in ex (Upd.mem U2) (Upd.other U2 (UpdF.mem U1) nld)); (case c2 => exact rfl); (case c3 => exact rfl); (case c4 => exact rfl); k_whole; intro g' L' h' tk0 FG' F' N' B' X' T' hG'; (try dsimp only); (try k_fold))
  replace e0 := hG' _ _ e0 (by simp only [List.map_cons, List.map_nil, List.mem_cons, List.not_mem_nil, or_false, not_or]; exact n0)
  k_steps
  all_goals (refine leaveN_ (by k_asm) (by k_asm) ?_; intro kF kN kR kD; (try dsimp only); simp only [List.push_toArray] at kN; exact hret _ _ _ _ _ kF (news_cons kN (List.mem_cons_self ..) (news_upd2 N ex U2 U1 kN (by k_mem) (by k_mem) (by k_mem) kR)) (ne_three kD (List.mem_cons_self ..) (neN (by omega)) (neN (by omega)) (neN (by omega))))
end
theorem meter_new_mz {w : World} {p : Program} {loose : List Str} {mean : ExcName → Option Value} {mg mb : Str → Option Value} {dp un : Nat} {gd : Option (List Code)} {cn : Str} {cs : Scope} {a : Addr} {ccd : Value} {cl : List (Str × Addr)} {outer : List Env} {A₀ : Around} {base h₀ : Heap} {L : Addr} {m : Str → Option Value} {news : List (Addr × Obj)} {s : Shared} {Q E : Value → Shared → Prop} {D1 : Addr} {x1 : Int} {tu : Int} {t1 t1' t2 t3 : Tok} {c1 n1 : Nat}
    (B : Below A₀ base outer h₀) (F : Fr h₀ L s.heap m) (X : (Mine.hd.heap_39 w.params).In h₀) (N : News h₀ L s.heap news) (T : Top p loose mean mg mb h₀) (hk : cs.kind = .function) (e1 : (D1, T2 x1 1 t1 t1' c1) ∈ news)
    (hd : dp + 8 < recursionLimit) (hu : un + 200 < cLine) (h1 : 0 < x1) (b1 : Builtin.Int.intBits x1 ≤ n1) (z1 : n1 ≤ 6643) (hT : 10 ≤ tu) (hT2 : tu ≤ 1000000000000)
    (hret : ∀ (x d l : Addr) (k1 k2 k3 k4 k5 : Tok) (n : Nat) (h' : Heap) (tk' : Nat), Fr h₀ L h' m → News h₀ L h' ((x, instObj 161 d) :: (d, meterD w.params k1 k2 k3 k4 k5 (.str (Str.ofString "m") t2) (.int tu t3) (.ref D1) (.ref l) (.ref 56)) :: (l, listOf #[] n) :: news) → d ≠ x → l ≠ x → l ≠ d → (∀ p ∈ news, p.1 ≠ x) → (∀ p ∈ news, p.1 ≠ d) → (∀ p ∈ news, p.1 ≠ l) → Q (.ref x) { s with heap := h', toks := tk' }) :
    wpAny (model PySem.Challenge.rw_ui0509_06.row.prog w) (ktrTop dp un gd cn cs L a ccd cl outer) (call (.ref 161) [.str (Str.ofString "m") t2, .int tu t3, .ref D1]) Q E s :=
  meter_new_m (r := (x1 : Rat)) (t1 := t1) (t1' := t1') (c1 := c1) B F X N T hk e1 hd hu h1 b1 bits_one z1 (by decide) hT hT2 hret
theorem mod_gen {prog : Program} {w : World} {A : Around} {E : Value → Shared → Prop} {s : Shared} {a n : Int} {t u : Tok} {Q : Value → Shared → Prop} (hn : 0 < n)
    (h : ∀ v : Int, 0 ≤ v → v < n → v = a.fmod n → Q (.int v s.toks) { s with toks := s.toks + 1 }) : wpAny (model prog w) A (binaryOp .Mod (.int a t) (.int n u)) Q E s := by
  have e : a.fmod n = a % n := Int.fmod_eq_emod_of_nonneg a (by omega)
  exact mod_int' (by omega) (h _ (by rw [e]; exact Int.emod_nonneg a (by omega)) (by rw [e]; exact Int.emod_lt_of_pos a hn) rfl)
def Hold (P : Prop) : Prop := P
theorem Hold.out {P : Prop} (h : Hold P) : P := h
inductive Final : Prop where
  | mk : Final
theorem good_true {cl : Str → Option Addr} {mean : ExcName → Option Value} {ns : List Int} {s₁ s' : Shared} {L : Addr} {m : Str → Option Value} (F : Fr s₁.heap L s'.heap m) (hg : s'.gens = #[]) (hos : s'.os = s₁.os) :
    GoodW PySem.Challenge.rw_ui0509_06.row.claim cl mean [ofPy (PyData.list (ns.map PyData.int))] s₁ (.ok (.ret (.bool true))) s' := by
  refine goodW_bool F hg (fun _ => rfl) (postW_of rfl ?_ rfl) hos
  first | (with_unfolding_all exact w_eq_bool (w_res rfl) w_lit) | rfl | simp [WTm.value] | wtm_val
theorem int_rat {r : Rat} {x : Int} (h : r = (x : Rat)) : (r.num == x && (r.den : Int) == 1) = true := by
  subst h
  have h1 : ((x : Rat)).num = x := rfl
  have h2 : ((x : Rat)).den = 1 := rfl
  rw [h1, h2]; simp
theorem u_same {a b u v p q : Int} (hu : u = (q - p).fmod 1000) (hv : v = (b - a).fmod 1000) (hp : p = a.fmod 1000) (hq : q = b.fmod 1000) : u = v := by
  rw [Int.fmod_eq_emod_of_nonneg _ (by decide)] at hp hq hu hv
  omega
theorem e06 {a b u v p q k d1 d2 : Int} {r r1 r2 : Rat} (hr : r = Rat.divInt (r1.num * (1 + k)) ((r1.den : Int) * 1)) (hr1 : r1 = Rat.divInt (0 * (r2.den : Int) + r2.num * 1) (1 * (r2.den : Int))) (hr2 : r2 = Rat.divInt (u * d1) d2)
    (hu : u = (q - p).fmod 1000) (hv : v = (b - a).fmod 1000) (hp : p = a.fmod 1000) (hq : q = b.fmod 1000) (h1 : d1 = 5) (h2 : d2 = 5) : (r.num == v * (1 + k) && (r.den : Int) == 1) = true := by
  have huv := u_same hu hv hp hq
  have e2 : r2 = (u : Rat) := by
    rw [hr2, h1, h2]
    have : Rat.divInt (u * 5) 5 = Rat.divInt (u * 5) (1 * 5) := rfl
    rw [this, Rat.divInt_mul_right (by decide), r_int]
  have e1 : r1 = (0 : Rat) + r2 := hr1.trans (r_plus ((0 : Int) : Rat) r2)
  have e0 : r = r1 * ((1 + k : Int) : Rat) := hr.trans (r_times r1 ((1 + k : Int) : Rat))
  have : r = ((v * (1 + k) : Int) : Rat) := by
    rw [e0, e1, e2, huv, Rat.intCast_mul]; grind
  exact int_rat this
theorem no_ne {a b u v p q : Int} {P : Prop} (h : u ≠ v) (hu : u = (q - p).fmod 1000) (hv : v = (b - a).fmod 1000) (hp : p = a.fmod 1000) (hq : q = b.fmod 1000) : P := absurd (u_same hu hv hp hq) h
end Mine
open Mine
local macro_rules | `(tactic| kc_close) => `(tactic| ((fail_if_success (rename Final => fin')); (with_reducible show GoodW _ _ _ _ _ _ _); refine Hold.out ?_))
local macro_rules | `(tactic| wrow_close) => `(tactic| ((fail_if_success (rename Final => fin')); (with_reducible show GoodW _ _ _ _ _ _ _); refine Hold.out ?_))
local macro_rules | `(tactic| bits_by_make) => `(tactic| with_reducible assumption)
local macro_rules | `(tactic| ktr_units) => `(tactic| (have hcL9 := cLine_is; (try simp only [units_under_make, units_in1, units_deeper, Around.mark_units, units_caller]); (try dsimp only [ktrTop]); omega))
local macro_rules | `(tactic| walk_at "call ref") => `(tactic| (k_here; (with_reducible show wpAny _ _ (call (Value.ref 87) [Value.ref _, Value.ref _]) _ _ _); k_dflt (refine' plus_z ?k1 ?k2 ?k3 ?k4 ?k5 ?k6 ?m1 ?m2 ?k7 ?k8 ?b1 ?b3 ?z1 ?_; (case k1 => k_asm); (case k2 => k_asm); (case k3 => k_asm); (case k4 => k_asm); (case k5 => k_asm); (case k6 => first | exact rfl | assumption); (case k7 => first | exact Nat.le_of_ble_eq_true rfl | ktr_room); (case k8 => first | exact Nat.le_of_ble_eq_true rfl | ktr_units); (case m1 => (first | exact News.get (by k_asm) (by k_mem) | exact Fr.keep (by k_asm) _ _ (by assumption) | exact Frag.In.keeps (by k_asm) (Fr.keep (by k_asm)) _ _ (by k_is))); (case m2 => (first | exact News.get (by k_asm) (by k_mem) | exact Fr.keep (by k_asm) _ _ (by assumption) | exact Frag.In.keeps (by k_asm) (Fr.keep (by k_asm)) _ _ (by k_is))); (case b1 => bits_by_make); (case b3 => bits_by_make); (case z1 => first | assumption | decide | omega); k_whole); intro D' t' u' c' h' tk' F' N' l1; (try (replace l1 := allNe_of l1; simp only [AllNe, and_true] at l1)); (try k_sweep)))
local macro_rules | `(tactic| walk_at "call ref") => `(tactic| (k_here; (with_reducible show wpAny _ _ (call (Value.ref 94) [Value.ref _, Value.ref _]) _ _ _); k_dflt (refine' times_z ?k1 ?k2 ?k3 ?k4 ?k5 ?k6 ?m1 ?m2 ?k7 ?k8 ?b1 ?b3 ?z1 ?_; (case k1 => k_asm); (case k2 => k_asm); (case k3 => k_asm); (case k4 => k_asm); (case k5 => k_asm); (case k6 => first | exact rfl | assumption); (case k7 => first | exact Nat.le_of_ble_eq_true rfl | ktr_room); (case k8 => first | exact Nat.le_of_ble_eq_true rfl | ktr_units); (case m1 => (first | exact News.get (by k_asm) (by k_mem) | exact Fr.keep (by k_asm) _ _ (by assumption) | exact Frag.In.keeps (by k_asm) (Fr.keep (by k_asm)) _ _ (by k_is))); (case m2 => (first | exact News.get (by k_asm) (by k_mem) | exact Fr.keep (by k_asm) _ _ (by assumption) | exact Frag.In.keeps (by k_asm) (Fr.keep (by k_asm)) _ _ (by k_is))); (case b1 => bits_by_make); (case b3 => bits_by_make); (case z1 => first | assumption | decide | omega); k_whole); intro D' t' u' c' h' tk' F' N' l1; (try (replace l1 := allNe_of l1; simp only [AllNe, and_true] at l1)); (try k_sweep)))
local macro_rules | `(tactic| walk_at "call ref") => `(tactic| (k_here; (with_reducible show wpAny _ _ (call (Value.ref 101) [Value.ref _, Value.ref _]) _ _ _); k_dflt (refine' less_z ?k1 ?k2 ?k3 ?k4 ?k5 ?k6 ?m1 ?m2 ?k7 ?k8 ?b1 ?b3 ?z1 ?z2 ?_; (case k1 => k_asm); (case k2 => k_asm); (case k3 => k_asm); (case k4 => k_asm); (case k5 => k_asm); (case k6 => first | exact rfl | assumption); (case k7 => first | exact Nat.le_of_ble_eq_true rfl | ktr_room); (case k8 => first | exact Nat.le_of_ble_eq_true rfl | ktr_units); (case m1 => (first | exact News.get (by k_asm) (by k_mem) | exact Fr.keep (by k_asm) _ _ (by assumption) | exact Frag.In.keeps (by k_asm) (Fr.keep (by k_asm)) _ _ (by k_is))); (case m2 => (first | exact News.get (by k_asm) (by k_mem) | exact Fr.keep (by k_asm) _ _ (by assumption) | exact Frag.In.keeps (by k_asm) (Fr.keep (by k_asm)) _ _ (by k_is))); (case b1 => bits_by_make); (case b3 => bits_by_make); (case z1 => first | assumption | decide | omega); (case z2 => first | assumption | decide | omega); k_whole); intro h' tk' F' N'; (try k_sweep)))
local macro_rules | `(tactic| walk_at "call ref") => `(tactic| (k_here; (with_reducible show wpAny _ _ (call (Value.ref 72) [Value.int _ _, Value.int _ _]) _ _ _); k_dflt (refine' frac_use ?k1 ?k2 ?k3 ?k4 ?k5 ?k6 ?k7 ?k8 ?k9 ?k10 ?k11 ?k12 ?k13 ?_; (case k1 => k_asm); (case k2 => k_asm); (case k3 => k_asm); (case k4 => k_asm); (case k5 => k_asm); (case k6 => first | exact rfl | assumption); (case k7 => first | exact Nat.le_of_ble_eq_true rfl | ktr_room); (case k8 => first | exact Nat.le_of_ble_eq_true rfl | ktr_units); (case k10 => bits_by_make); (case k11 => bits_by_make); (case k12 => decide); (case k13 => decide); (case k9 => first | exact nzden _ | omega | ((try k_fmods); omega) | (refine nzmul ?_ ?_ <;> first | exact nzden _ | omega)); k_whole); intro r' D' t' u' c' h' tk' rE' rN' rD' F' N' l1; (try k_lt l1); (try k_sweep)))
local macro_rules | `(tactic| walk_at "call ref") => `(tactic| (k_here; (with_reducible show wpAny _ _ (call (Value.ref 72) [Value.int _ _, Value.int 1 _]) _ _ _); k_dflt (refine' frac_one ?k1 ?k2 ?k3 ?k4 ?k5 ?k6 ?k7 ?k8 ?k10 ?k12 ?_; (case k1 => k_asm); (case k2 => k_asm); (case k3 => k_asm); (case k4 => k_asm); (case k5 => k_asm); (case k6 => first | exact rfl | assumption); (case k7 => first | exact Nat.le_of_ble_eq_true rfl | ktr_room); (case k8 => first | exact Nat.le_of_ble_eq_true rfl | ktr_units); (case k10 => bits_by_make); (case k12 => decide); k_whole); intro D' t' u' c' h' tk' F' N' l1; (try k_lt l1); (try k_sweep)))
local macro_rules | `(tactic| walk_at "call ref") => `(tactic| (k_here; (with_reducible show wpAny _ _ (call (Value.ref 72) [Value.int _ _]) _ _ _); k_dflt (refine' frac_dflt ?k1 ?k2 ?k3 ?k4 ?k5 ?k6 ?k7 ?k8 ?k10 ?k12 ?_; (case k1 => k_asm); (case k2 => k_asm); (case k3 => k_asm); (case k4 => k_asm); (case k5 => k_asm); (case k6 => first | exact rfl | assumption); (case k7 => first | exact Nat.le_of_ble_eq_true rfl | ktr_room); (case k8 => first | exact Nat.le_of_ble_eq_true rfl | ktr_units); (case k10 => bits_by_make); (case k12 => decide); k_whole); intro D' t' u' c' h' tk' F' N' l1; (try k_lt l1); (try k_sweep)))
local macro_rules | `(tactic| walk_at "binaryOp Mod int int") => `(tactic| (k_here; (with_reducible refine mod_gen ?mp ?_); (case mp => decide); intro v' v0' v1' vE'))
local macro_rules | `(tactic| walk_at "exec For Tuple Call cons nil") => `(tactic| (k_here; (rename Fr _ _ _ _ => lF'); (with_unfolding_all refine' For_turns lF' ?_; k_whole)))
local macro_rules | `(tactic| walk_at "call ref") => `(tactic| (k_here; (with_reducible show wpAny _ _ (call (Value.ref 161) [Value.str (PySem.Str.ofString "m") _, Value.int _ _, Value.ref _]) _ _ _); k_dflt (refine' meter_new_m ?k1 ?k2 ?k3 ?k4 ?k5 ?k6 ?m1 ?k7 ?k8 ?h1 ?b1 ?b2 ?z1 ?z2 ?h2 ?h3 ?_; (case k1 => k_asm); (case k2 => k_asm); (case k3 => k_asm); (case k4 => k_asm); (case k5 => k_asm); (case k6 => first | exact rfl | assumption); (case k7 => first | exact Nat.le_of_ble_eq_true rfl | ktr_room); (case k8 => first | exact Nat.le_of_ble_eq_true rfl | ktr_units); (case m1 => k_mem); (case h1 => first | assumption | omega); (case b1 => bits_by_make); (case b2 => bits_by_make); (case z1 => first | assumption | decide | omega); (case z2 => first | assumption | decide | omega); (case h2 => first | decide | assumption | omega); (case h3 => first | decide | assumption | omega); k_whole); intro x' d' l' q1' q2' q3' q4' q5' n' h' tk' F' N' n1' n2' n3' l1' l2' l3'; (replace n1' := neN n1'; replace n2' := neN n2'; replace n3' := neN n3'); (replace l1' := allNe_of l1'; simp only [AllNe, and_true] at l1'); (replace l2' := allNe_of l2'; simp only [AllNe, and_true] at l2'); (replace l3' := allNe_of l3'; simp only [AllNe, and_true] at l3'); (try k_sweep)))
local macro_rules | `(tactic| walk_at "call ref") => `(tactic| (k_here; (with_reducible show wpAny _ _ (call (Value.ref 161) [Value.str (PySem.Str.ofString "m") _, Value.int _ _, Value.ref _]) _ _ _); k_dflt (refine' meter_new_mz ?k1 ?k2 ?k3 ?k4 ?k5 ?k6 ?m1 ?k7 ?k8 ?h1 ?b1 ?z1 ?h2 ?h3 ?_; (case k1 => k_asm); (case k2 => k_asm); (case k3 => k_asm); (case k4 => k_asm); (case k5 => k_asm); (case k6 => first | exact rfl | assumption); (case k7 => first | exact Nat.le_of_ble_eq_true rfl | ktr_room); (case k8 => first | exact Nat.le_of_ble_eq_true rfl | ktr_units); (case m1 => k_mem); (case h1 => first | assumption | omega); (case b1 => bits_by_make); (case z1 => first | assumption | decide | omega); (case h2 => first | decide | assumption | omega); (case h3 => first | decide | assumption | omega); k_whole); intro x' d' l' q1' q2' q3' q4' q5' n' h' tk' F' N' n1' n2' n3' l1' l2' l3'; (replace n1' := neN n1'; replace n2' := neN n2'; replace n3' := neN n3'); (replace l1' := allNe_of l1'; simp only [AllNe, and_true] at l1'); (replace l2' := allNe_of l2'; simp only [AllNe, and_true] at l2'); (replace l3' := allNe_of l3'; simp only [AllNe, and_true] at l3'); (try k_sweep)))
local macro_rules | `(tactic| walk_at "call ref") => `(tactic| (k_here; (with_reducible show wpAny _ _ (call (Value.ref 130) [Value.ref _, Value.int _ _, Value.int _ _]) _ _ _); k_dflt (refine' read_nil ?k1 ?k2 ?k3 ?k4 ?k5 ?k6 ?ex ?U2 ?U1 ?n1 ?n2 ?n3 ?k7 ?h1 ?h2 ?h3 ?h4 ?_; (case k1 => k_asm); (case k2 => k_asm); (case k3 => k_asm); (case k4 => k_asm); (case k5 => k_asm); (case k6 => first | exact rfl | assumption); (case k7 => first | exact Nat.le_of_ble_eq_true rfl | ktr_room); (case ex => k_mem); (case U2 => k_upd); (case U1 => k_updF); (case n1 => k_ne); (case n2 => k_ne); (case n3 => k_ne); (case h1 => first | decide | assumption | omega); (case h2 => first | decide | assumption | omega); (case h3 => first | decide | assumption | omega); (case h4 => first | decide | assumption | omega); k_whole); intro D' c' n' h' tk' F' N' l1'; (try simp only [List.nil_append, List.cons_append] at N'); (replace l1' := allNe_of l1'; simp only [AllNe, and_true] at l1'); (try k_sweep)))
local macro_rules | `(tactic| walk_at "call ref") => `(tactic| (k_here; (with_reducible show wpAny _ _ (call (Value.ref 130) [Value.ref _, Value.int _ _, Value.int _ _]) _ _ _); k_dflt (refine' read_snoc ?k1 ?k2 ?k3 ?k4 ?k5 ?k6 ?ex ?U2 ?U1 ?n1 ?n2 ?n3 ?e0 ?n0 ?hl ?h5 ?k7 ?h1 ?h2 ?h3 ?h4 ?_; (case k1 => k_asm); (case k2 => k_asm); (case k3 => k_asm); (case k4 => k_asm); (case k5 => k_asm); (case k6 => first | exact rfl | assumption); (case k7 => first | exact Nat.le_of_ble_eq_true rfl | ktr_room); (case ex => k_mem); (case U2 => k_upd); (case U1 => k_updF); (case n1 => k_ne); (case n2 => k_ne); (case n3 => k_ne); (case e0 => (first | exact News.get (by k_asm) (by k_mem) | exact Fr.keep (by k_asm) _ _ (by assumption) | exact Frag.In.keeps (by k_asm) (Fr.keep (by k_asm)) _ _ (by k_is))); (case n0 => (exact ⟨neN (by omega), neN (by omega), neN (by omega)⟩)); (case hl => first | decide | assumption | omega); (case h5 => first | decide | assumption | omega); (case h1 => first | decide | assumption | omega); (case h2 => first | decide | assumption | omega); (case h3 => first | decide | assumption | omega); (case h4 => first | decide | assumption | omega); k_whole); intro D' c' n' h' tk' F' N' l1'; (try simp only [List.nil_append, List.cons_append] at N'); (replace l1' := allNe_of l1'; simp only [AllNe, and_true] at l1'); (try k_sweep)))
local macro_rules | `(tactic| walk_at "call ref") => `(tactic| (k_here; (with_reducible show wpAny _ _ (call (Value.ref 41) [Value.int _ _, Value.int _ _, Value.int _ _, Value.str _ _]) _ _ _); k_dflt (refine' need_number_c ?k1 ?k2 ?k3 ?k4 ?k5 ?k6 ?h1 ?h2 ?k7 ?_; (case k1 => k_asm); (case k2 => k_asm); (case k3 => k_asm); (case k4 => k_asm); (case k5 => k_asm); (case k6 => first | exact rfl | assumption); (case k7 => first | exact Nat.le_of_ble_eq_true rfl | ktr_room); (case h1 => first | decide | assumption | omega); (case h2 => first | decide | assumption | omega); k_whole); intro h' tk' F' N'; (try k_sweep)))
set_option maxRecDepth 100000 in
set_option maxHeartbeats 8000000 in
theorem PySem.Challenge.cw_ui0509_06_holds : PySem.Challenge.rw_ui0509_06.Holds :=
  Mine.hd (by
  k_go0; (all_goals try k_fold); k_steps
  all_goals (try unfold Hold)
  all_goals (try dsimp only)
  all_goals first
    | (with_reducible show GoodW _ _ _ _ _ (Except.ok (Flow.ret (Value.bool true))) _; exact good_true (by assumption) (by assumption) rfl)
    | (with_reducible show GoodW _ _ _ _ _ (Except.ok (Flow.ret (Value.bool false))) _; exact no_ne (by with_reducible assumption) (by with_reducible assumption) (by with_reducible assumption) (by with_reducible assumption) (by with_reducible assumption))
    | (refine ok_bool (e06 (by with_reducible assumption) (by with_reducible assumption) (by with_reducible assumption) (by with_reducible assumption) (by with_reducible assumption) (by with_reducible assumption) (by with_reducible assumption) (by decide) (by decide)) ?_; exact good_true (by assumption) (by assumption) rfl))
