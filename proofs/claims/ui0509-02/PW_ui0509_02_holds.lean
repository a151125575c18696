import PyProof.Rows.All
import Wide.All
import OpenK.AllK
import Wide.FinOn
import PySem.Challenge.RW_ui0509_02
open PySem PySem.W PyProof.Rows PySem.Spec PySem.Calls
set_option Elab.async false
set_option maxRecDepth 100000
set_option maxHeartbeats 8000000
namespace Mine
open_top hd for PySem.Challenge.rw_ui0509_02
-- the gcd loop, as plain numbers
theorem gcd_turn {a b : Int} (hb : 0 < b) : Int.gcd b (a.fmod b) = Int.gcd a b := by
  rw [Int.fmod_eq_emod_of_nonneg _ (by omega), Int.gcd_comm a b]
  conv => rhs; rw [← Int.mul_ediv_add_emod a b]
  rw [Int.gcd_mul_left_add_right]
theorem dv_turn {a b : Int} {g : Nat} (hb : b > 0) (h : Int.gcd a b = g) : 0 ≤ b ∧ 0 ≤ a.fmod b ∧ Int.gcd b (a.fmod b) = g :=
  ⟨by omega, by rw [Int.fmod_eq_emod_of_nonneg _ (by omega)]; exact Int.emod_nonneg _ (by omega), by rw [gcd_turn hb]; exact h⟩
theorem dv_less {a b : Int} (hb : b > 0) : (a.fmod b).toNat < b.toNat := by
  have h1 : a.fmod b = a % b := Int.fmod_eq_emod_of_nonneg _ (by omega)
  have h2 := Int.emod_nonneg a (show b ≠ 0 by omega)
  have h3 := Int.emod_lt_of_pos a (show 0 < b by omega)
  omega
theorem dv_end {x y a b : Int} (ha : 0 ≤ a) (hb : 0 ≤ b) (hn : ¬ b > 0) (h : Int.gcd a b = Int.gcd (if x < 0 then -x else x) (if y < 0 then -y else y)) : a = ((Int.gcd x y : Nat) : Int) := by
  have e : b = 0 := by omega
  subst e
  rw [Int.gcd_zero] at h
  have h1 : Int.gcd (if x < 0 then -x else x) (if y < 0 then -y else y) = Int.gcd x y := by
    split <;> split <;> simp
  omega
-- fractions as rationals
theorem num_p {x y g : Int} (h : ¬ y < 0) (h0 : y ≠ 0) (e : g = ((Int.gcd x y : Nat) : Int)) : x.fdiv g = (Rat.divInt x y).num := by
  rw [e, Rat.num_divInt, Int.sign_eq_one_of_pos (by omega), Int.one_mul, Int.gcd_comm, Int.fdiv_eq_ediv_of_nonneg _ (by omega)]
theorem den_p {x y g : Int} (h : ¬ y < 0) (h0 : y ≠ 0) (e : g = ((Int.gcd x y : Nat) : Int)) : y.fdiv g = ((Rat.divInt x y).den : Int) := by
  rw [e, Rat.den_divInt, if_neg (by omega), Int.gcd_comm, Int.fdiv_eq_ediv_of_nonneg _ (by omega), Int.natCast_ediv]
  congr 1
  omega
theorem num_n {x y g : Int} (h : y < 0) (e : g = ((Int.gcd (-x) (-y) : Nat) : Int)) : (-x).fdiv g = (Rat.divInt x y).num := by
  rw [← Rat.neg_divInt_neg]; exact num_p (by omega) (by omega) e
theorem den_n {x y g : Int} (h : y < 0) (e : g = ((Int.gcd (-x) (-y) : Nat) : Int)) : (-y).fdiv g = ((Rat.divInt x y).den : Int) := by
  rw [← Rat.neg_divInt_neg]; exact den_p (by omega) (by omega) e
theorem num_le (u l : Int) : (Rat.divInt u l).num.natAbs ≤ u.natAbs := by
  rw [Rat.num_divInt]
  refine Nat.le_trans (Int.natAbs_ediv_le_natAbs _ _) ?_
  rcases Int.lt_trichotomy l 0 with h | h | h
  · rw [Int.sign_eq_neg_one_of_neg h]; omega
  · subst h; simp
  · rw [Int.sign_eq_one_of_pos h]; omega
theorem den_le {u l : Int} (h : l ≠ 0) : (Rat.divInt u l).den ≤ l.natAbs := by
  rw [Rat.den_divInt, if_neg h]
  exact Nat.div_le_self _ _
theorem r_plus (r q : Rat) : Rat.divInt (r.num * q.den + q.num * r.den) (r.den * q.den) = r + q := by
  rw [Rat.add_def', ← Rat.divInt_ofNat]; rfl
theorem r_minus (r q : Rat) : Rat.divInt (r.num * q.den - q.num * r.den) (r.den * q.den) = r - q := by
  rw [Rat.sub_def', ← Rat.divInt_ofNat]; rfl
theorem r_times (r q : Rat) : Rat.divInt (r.num * q.num) (r.den * q.den) = r * q := by
  rw [Rat.mul_def', ← Rat.divInt_ofNat]; rfl
theorem r_over (r q : Rat) : Rat.divInt (r.num * q.den) (r.den * q.num) = r / q := by
  rw [Rat.div_def, Rat.inv_def]
  conv => rhs; rw [← Rat.num_divInt_den r]
  rw [Rat.divInt_mul_divInt]
theorem r_int (n : Int) : Rat.divInt n 1 = (n : Rat) := by
  rw [Rat.divInt_eq_div]; grind
theorem rat_eq {r q : Rat} : (r.num = q.num ∧ (r.den : Int) = (q.den : Int)) ↔ r = q := by
  constructor
  · rintro ⟨a, b⟩; exact Rat.ext a (by omega)
  · rintro rfl; exact ⟨rfl, rfl⟩
theorem nzmul {a b : Int} (ha : a ≠ 0) (hb : b ≠ 0) : a * b ≠ 0 := Int.mul_ne_zero ha hb
theorem nzden (r : Rat) : (r.den : Int) ≠ 0 := by have := r.den_nz; omega
-- sizes
def Fits (x : Int) : Prop := x.natAbs < 10 ^ 2000
theorem Fits.no {x g M : Int} (h : Fits x) (hg : 0 < g) (hb : x.fdiv g ≥ M) (hM : M = 10 ^ 2000) : False := by
  have h1 : (x.fdiv g).natAbs ≤ x.natAbs := by
    rw [Int.fdiv_eq_ediv_of_nonneg _ (by omega)]
    exact Int.natAbs_ediv_le_natAbs _ _
  have h2 : ((10 ^ 2000 : Nat) : Int) = M := by rw [hM]; simp
  unfold Fits at h
  generalize (10 : Nat) ^ 2000 = P at h h2
  omega
theorem Fits.noA {x g M : Int} (h : Fits x) (hg : 0 < g) (hb : (if x.fdiv g < 0 then -(x.fdiv g) else x.fdiv g) ≥ M) (hM : M = 10 ^ 2000) : False := by
  have h1 : (x.fdiv g).natAbs ≤ x.natAbs := by
    rw [Int.fdiv_eq_ediv_of_nonneg _ (by omega)]
    exact Int.natAbs_ediv_le_natAbs _ _
  have h2 : ((10 ^ 2000 : Nat) : Int) = M := by rw [hM]; simp
  unfold Fits at h
  generalize (10 : Nat) ^ 2000 = P at h h2
  omega
theorem Fits.neg {x : Int} (h : Fits x) : Fits (-x) := by unfold Fits at *; omega
theorem ten_two : (10 : Nat) ^ 2000 < 2 ^ 9000 := by decide +kernel
theorem two_ten : (2 : Nat) ^ 6643 < 10 ^ 2000 := by decide +kernel
theorem Fits.log {x : Int} {n : Nat} (h : Fits x) (h0 : 0 < n) (hn : n ≤ x.natAbs) : (n : Int).natAbs.log2 < 9000 := by
  have e : (n : Int).natAbs = n := by omega
  rw [e]
  refine (Nat.log2_lt (by omega)).mpr ?_
  unfold Fits at h
  have := ten_two
  generalize (10 : Nat) ^ 2000 = P at *
  generalize (2 : Nat) ^ 9000 = R at *
  omega
theorem Fits.of {x : Int} {n : Nat} (h : Builtin.Int.intBits x ≤ n) (hn : n ≤ 6643) : Fits x := by
  have h1 := natAbs_lt_pow_bits x
  have h2 : (2 : Nat) ^ Builtin.Int.intBits x ≤ 2 ^ 6643 := Nat.pow_le_pow_right (by decide) (by omega)
  have h3 := two_ten
  unfold Fits
  generalize (10 : Nat) ^ 2000 = P at *
  generalize (2 : Nat) ^ 6643 = R at *
  omega
theorem bits_num {u l : Int} {n : Nat} (h : Builtin.Int.intBits u ≤ n) : Builtin.Int.intBits (Rat.divInt u l).num ≤ n := bits_of_natAbs_le (num_le u l) h
theorem bits_den {u l : Int} {n : Nat} (h0 : l ≠ 0) (h : Builtin.Int.intBits l ≤ n) : Builtin.Int.intBits ((Rat.divInt u l).den : Int) ≤ n := bits_of_natAbs_le (by have := den_le (u := u) h0; omega) h

-- the calls
abbrev RatO (r : Rat) (t t' : Tok) (c : Nat) : Obj := { cls := .type "tuple", data := .seq #[.int r.num t, .int (r.den : Int) t'] c }
theorem div_c {w : World} {p : Program} {loose : List Str} {mean : ExcName → Option Value} {mg mb : Str → Option Value} (dp un : Nat) (gd : Option (List Code)) (cn : Str) (cs : Scope) (a : Addr) (ccd : Value) (cl : List (Str × Addr)) (outer : List Env) (A₀ : Around) (base h₀ : Heap) (L : Addr) (m : Str → Option Value) (news : List (Addr × Obj)) (s : Shared) (Q E : Value → Shared → Prop) (x y : Int) (t1 t2 : Tok)
    (B : Below A₀ base outer h₀) (F : Fr h₀ L s.heap m) (X : (Mine.hd.heap_39 w.params).In h₀) (N : News h₀ L s.heap news) (T : Top p loose mean mg mb h₀) (hk : cs.kind = .function)
    (hd : dp + 1 < recursionLimit) (hu : un + 8 < cLine)
    (hret : ∀ (t : Tok) (h' : Heap) (tk' : Nat), Fr h₀ L h' m → News h₀ L h' news → Q (.int ((Int.gcd x y : Nat) : Int) t) { s with heap := h', toks := tk' }) :
      wpAny (model PySem.Challenge.rw_ui0509_02.row.prog w) (ktrTop dp un gd cn cs L a ccd cl outer) (call (.ref 34) [.int x t1, .int y t2]) Q E s := by
  revert X; k_fill; intro X
  refine wpAny_call ?_
  k_dflt ktr_enter
  (k_with "exec While Compare cons nil" => k_while_given ["a!", "b!"] (fun a₀ b₀ _ a b => 0 ≤ a ∧ 0 ≤ b ∧ Int.gcd a b = Int.gcd a₀ b₀) (fun _ _ _ _ b => b.toNat) "a" "b")
  (k_with "state" => exact dv_turn (by assumption) (by assumption))
  (k_with "measure" => exact dv_less (by assumption))
  k_steps
  all_goals exact cb_retI hret (dv_end (by assumption) (by assumption) (by assumption) (by assumption)) (by k_asm) (by k_asm)
theorem div_use {w : World} {p : Program} {loose : List Str} {mean : ExcName → Option Value} {mg mb : Str → Option Value} (dp un : Nat) (gd : Option (List Code)) (cn : Str) (cs : Scope) (a : Addr) (ccd : Value) (cl : List (Str × Addr)) (outer : List Env) (A₀ : Around) (base h₀ : Heap) (L : Addr) (m : Str → Option Value) (news : List (Addr × Obj)) (s : Shared) (Q E : Value → Shared → Prop) (x y : Int) (t1 t2 : Tok)
    (B : Below A₀ base outer h₀) (F : Fr h₀ L s.heap m) (X : (Mine.hd.heap_39 w.params).In h₀) (N : News h₀ L s.heap news) (T : Top p loose mean mg mb h₀) (hk : cs.kind = .function)
    (hd : dp + 1 < recursionLimit) (hu : un + 8 < cLine) (hy : y ≠ 0) (hf : Fits y)
    (hret : ∀ (g : Int) (t : Tok) (h' : Heap) (tk' : Nat), 0 < g → g = ((Int.gcd x y : Nat) : Int) → g.natAbs.log2 < 9000 → Fr h₀ L h' m → News h₀ L h' news → Q (.int g t) { s with heap := h', toks := tk' }) :
      wpAny (model PySem.Challenge.rw_ui0509_02.row.prog w) (ktrTop dp un gd cn cs L a ccd cl outer) (call (.ref 34) [.int x t1, .int y t2]) Q E s :=
  div_c dp un gd cn cs a ccd cl outer A₀ base h₀ L m news s Q E x y t1 t2 B F X N T hk hd hu (fun t h' tk' F' N' => hret _ t h' tk' (by have := Int.gcd_pos_of_ne_zero_right x hy; omega) rfl (Fits.log hf (Int.gcd_pos_of_ne_zero_right x hy) (Int.gcd_le_natAbs_right x hy)) F' N')
theorem fr_end {h₀ h' : Heap} {L D : Addr} {m : Str → Option Value} {news : List (Addr × Obj)} {s : Shared} {Q : Value → Shared → Prop} {x y a b : Int} {t t' : Tok} {c tk' : Nat}
    (hret : ∀ (r : Rat) (D : Addr) (t t' : Tok) (c : Nat) (h' : Heap) (tk' : Nat), r = Rat.divInt x y → Fr h₀ L h' m → News h₀ L h' ((D, RatO r t t' c) :: news) → (∀ p ∈ news, p.1 < D) → Q (.ref D) { s with heap := h', toks := tk' })
    (e1 : a = (Rat.divInt x y).num) (e2 : b = ((Rat.divInt x y).den : Int)) (F : Fr h₀ L h' m) (N : News h₀ L h' ((D, ({ cls := .type "tuple", data := .seq #[.int a t, .int b t'] c } : Obj)) :: news)) (hl : ∀ p ∈ news, p.1 < D) : Q (.ref D) { s with heap := h', toks := tk' } := by
  subst e1; subst e2
  exact hret _ D t t' c h' tk' rfl F N hl
local macro_rules | `(tactic| walk_at "call ref") => `(tactic| (k_here; (with_reducible show wpAny _ _ (call (Value.ref 34) [Value.int _ _, Value.int _ _]) _ _ _); k_dflt (refine' div_use _ _ _ _ _ _ _ _ _ _ _ _ _ _ _ _ _ _ _ _ _ _ ?k1 ?k2 ?k3 ?k4 ?k5 ?k6 ?k7 ?k8 ?k9 ?k10 ?_; (case k1 => k_asm); (case k2 => k_asm); (case k3 => k_asm); (case k4 => k_asm); (case k5 => k_asm); (case k6 => first | exact rfl | assumption); (case k7 => ktr_room); (case k8 => ktr_units); (case k9 => omega); (case k10 => first | assumption | exact Fits.neg (by assumption)); k_whole); intro g' t' h' tk' g0' gE' gL' F' N'; (try k_sweep)))
local macro_rules | `(tactic| walk_at "binaryOp FloorDiv int int") => `(tactic| (with_reducible refine floordiv_int ?ne ?_ (Or.inl (PyProof.noPylong_of_log2 ?lg)); (case lg => with_reducible assumption); (case ne => omega)))
theorem frac_c {w : World} {p : Program} {loose : List Str} {mean : ExcName → Option Value} {mg mb : Str → Option Value} (dp un : Nat) (gd : Option (List Code)) (cn : Str) (cs : Scope) (a : Addr) (ccd : Value) (cl : List (Str × Addr)) (outer : List Env) (A₀ : Around) (base h₀ : Heap) (L : Addr) (m : Str → Option Value) (news : List (Addr × Obj)) (s : Shared) (Q E : Value → Shared → Prop) (x y : Int) (t1 t2 : Tok)
    (B : Below A₀ base outer h₀) (F : Fr h₀ L s.heap m) (X : (Mine.hd.heap_39 w.params).In h₀) (N : News h₀ L s.heap news) (T : Top p loose mean mg mb h₀) (hk : cs.kind = .function)
    (hd : dp + 2 < recursionLimit) (hu : un + 16 < cLine) (hy : y ≠ 0) (hx1 : Fits x) (hy1 : Fits y)
    (hret : ∀ (r : Rat) (D : Addr) (t t' : Tok) (c : Nat) (h' : Heap) (tk' : Nat), r = Rat.divInt x y → Fr h₀ L h' m → News h₀ L h' ((D, RatO r t t' c) :: news) → (∀ p ∈ news, p.1 < D) → Q (.ref D) { s with heap := h', toks := tk' }) :
      wpAny (model PySem.Challenge.rw_ui0509_02.row.prog w) (ktrTop dp un gd cn cs L a ccd cl outer) (call (.ref 42) [.int x t1, .int y t2]) Q E s := by
  revert X; k_fill; intro X
  refine wpAny_call ?_
  k_dflt (refine' code_def ?k1 ?k2 ?k3 ?k4 ?k5 ?kA ?kF ?kK ?k6 ?k7 ?k8 ?k9 ?kB ?_ ?c2 ?c3 ?c4 ?c5; (case kA => exact rfl); (case kF => exact rfl); (case kK => assumption); (case k1 => k_asm); (case k2 => k_asm); (case k3 => k_asm); (case k4 => k_asm); (case k5 => k_asm); (case k6 => k_is); (case k7 => k_is); (case k8 => ktr_room); (case k9 => first | exact BindsTo.of_eq rfl | exact binds_K (by k_in) rfl (by k_is) rfl rfl rfl); (case c5 => decide); (case kB => exact locs rfl); (case c2 => exact rfl); (case c3 => exact rfl); (case c4 => exact rfl); k_whole; intro g' L' h' FG' F' N' B' X' T'; (try dsimp only); (try k_fold))
  k_steps
  all_goals first
    | exact absurd (by assumption) hy
    | exact fr_end hret (num_p (by assumption) hy (by assumption)) (den_p (by assumption) hy (by assumption)) (by k_asm) (by k_asm) (by assumption)
    | exact fr_end hret (num_n (by assumption) (by assumption)) (den_n (by assumption) (by assumption)) (by k_asm) (by k_asm) (by assumption)
    | exact (Fits.no hy1 (by assumption) (by assumption) (by decide +kernel)).elim
    | exact (Fits.no (Fits.neg hy1) (by assumption) (by assumption) (by decide +kernel)).elim
    | exact (Fits.noA hx1 (by assumption) (by assumption) (by decide +kernel)).elim
    | exact (Fits.noA (Fits.neg hx1) (by assumption) (by assumption) (by decide +kernel)).elim
theorem frac_use {w : World} {p : Program} {loose : List Str} {mean : ExcName → Option Value} {mg mb : Str → Option Value} {dp un : Nat} {gd : Option (List Code)} {cn : Str} {cs : Scope} {a : Addr} {ccd : Value} {cl : List (Str × Addr)} {outer : List Env} {A₀ : Around} {base h₀ : Heap} {L : Addr} {m : Str → Option Value} {news : List (Addr × Obj)} {s : Shared} {Q E : Value → Shared → Prop} {x y : Int} {t1 t2 : Tok} {nx ny : Nat}
    (B : Below A₀ base outer h₀) (F : Fr h₀ L s.heap m) (X : (Mine.hd.heap_39 w.params).In h₀) (N : News h₀ L s.heap news) (T : Top p loose mean mg mb h₀) (hk : cs.kind = .function)
    (hd : dp + 2 < recursionLimit) (hu : un + 16 < cLine) (hy : y ≠ 0) (hx1 : Builtin.Int.intBits x ≤ nx) (hy1 : Builtin.Int.intBits y ≤ ny) (hnx : nx ≤ 6643) (hny : ny ≤ 6643)
    (hret : ∀ (r : Rat) (D : Addr) (t t' : Tok) (c : Nat) (h' : Heap) (tk' : Nat), r = Rat.divInt x y → Builtin.Int.intBits r.num ≤ nx → Builtin.Int.intBits (r.den : Int) ≤ ny → Fr h₀ L h' m → News h₀ L h' ((D, RatO r t t' c) :: news) → (∀ p ∈ news, p.1 < D) → Q (.ref D) { s with heap := h', toks := tk' }) :
      wpAny (model PySem.Challenge.rw_ui0509_02.row.prog w) (ktrTop dp un gd cn cs L a ccd cl outer) (call (.ref 42) [.int x t1, .int y t2]) Q E s :=
  frac_c dp un gd cn cs a ccd cl outer A₀ base h₀ L m news s Q E x y t1 t2 B F X N T hk hd hu hy (Fits.of hx1 hnx) (Fits.of hy1 hny) fun r D t t' c h' tk' e F' N' l => hret r D t t' c h' tk' e (e ▸ bits_num hx1) (e ▸ bits_den hy hy1) F' N' l
theorem nz_num {c : Rat} {n d : Int} (h0 : c.num = 0) (hc : c = Rat.divInt n d) (hn : n ≠ 0) (hd : d ≠ 0) : False := by
  rw [Rat.num_eq_zero] at h0
  subst hc
  have := Rat.divInt_eq_divInt_iff hd (show (1 : Int) ≠ 0 by decide) (n₁ := n) (n₂ := 0)
  rw [Rat.zero_divInt] at this
  have := this.mp h0
  omega
theorem ok_bool {cl : ClaimW} {ca : Str → Option Addr} {me : ExcName → Option Value} {args : List WData} {s₁ s : Shared} {b : Bool} (h : b = true) (g : GoodW cl ca me args s₁ (.ok (.ret (.bool true))) s) : GoodW cl ca me args s₁ (.ok (.ret (.bool b))) s := h ▸ g
theorem same_rat {r q : Rat} (h : r = q) : (r.num == q.num && (r.den : Int) == (q.den : Int)) = true := by subst h; simp
theorem set_at {prog : Program} {w : World} {A : Around} {E : Value → Shared → Prop} {s : Shared} {h₀ : Heap} {L D : Addr} {m : Str → Option Value} {news news' : List (Addr × Obj)} {vs : List Value} {n : Nat} {k : Int} {t : Tok} {v : Value} {Q : Unit → Shared → Prop}
    (F : Fr h₀ L s.heap m) (N : News h₀ L s.heap news) (U : Upd D (listOf vs.toArray n) (listOf (vs.set k.toNat v).toArray n) news news') (h0 : 0 ≤ k) (h1 : k < vs.length) (hfit : k < 2 ^ 63)
    (h : ∀ h', Fr h₀ L h' m → News h₀ L h' news' → Q () { s with heap := h' }) :
    wpAny (model prog w) A (setItem (.ref D) (.int k t) v) Q E s := by
  obtain ⟨pre, post, rfl, rfl, a, b⟩ := U.split
  have z := N (D, listOf vs.toArray n) (List.mem_append.mpr (.inr (.head _)))
  have hs : vs.toArray.size = vs.length := List.size_toArray ..
  refine ki_setAt z.1 h0 hfit (by omega) (h _ (F.change (Heap.SameBut.update ..) z.2.1 z.2.2) (ki_turn _ N a b ?_ ?_))
  · show vs.toArray.setIfInBounds k.toNat v = (vs.set k.toNat v).toArray
    apply Array.toList_inj.mp
    simp
  · simp
theorem get_same {vs : List Value} {i j : Nat} {v : Value} (h : j = i) (hi : i < vs.length) : (vs.set i v)[j]? = some v := by
  subst h; simp [hi]
theorem get_other {d v : Value} {n i j : Nat} (hj : j < n) (h : j ≠ i) : ((List.replicate n d).set i v)[j]? = some d := by
  rw [List.getElem?_set_ne (by omega), List.getElem?_replicate, if_pos hj]
theorem h_same {x : Int} : ((x.fmod 24 + 24).fmod 24).toNat = (x.fmod 24).toNat := by
  rw [Int.fmod_eq_emod_of_nonneg x (by decide), Int.fmod_eq_emod_of_nonneg _ (by decide)]; omega
theorem h_other {x : Int} : ((x.fmod 24 + 1).fmod 24).toNat ≠ (x.fmod 24).toNat := by
  rw [Int.fmod_eq_emod_of_nonneg x (by decide), Int.fmod_eq_emod_of_nonneg _ (by decide)]; omega
theorem h_in {x : Int} : (x.fmod 24).toNat < 24 := by
  rw [Int.fmod_eq_emod_of_nonneg x (by decide)]; omega
theorem cross {r : Rat} {n d : Int} (h : r = Rat.divInt n d) (hd : d ≠ 0) : r.num * d = n * (r.den : Int) := by
  refine (Rat.divInt_eq_divInt_iff (nzden r) hd).mp ?_
  rw [Rat.num_divInt_den]; exact h
theorem no_nought {x n : Int} (h : 1 + x.fmod n = 0) (hn : 0 < n) : False := by
  rw [Int.fmod_eq_emod_of_nonneg x (by omega)] at h
  have := Int.emod_nonneg x (show n ≠ 0 by omega)
  omega
theorem e02 {r q : Rat} {h d : Int} (hr : r = Rat.divInt (h * 1) (1 * d)) (hq : q = Rat.divInt (0 * 1) (1 * d)) (hd : d ≠ 0) : ((r.num * d == h * (r.den : Int)) == true && (q.num == 0 && (q.den : Int) == 1)) = true := by
  rw [Int.mul_one, Int.one_mul] at hr
  have e := cross hr hd
  have e2 : q = 0 := by rw [hq]; simp
  subst e2
  simp [e]
end Mine
open Mine
local macro_rules | `(tactic| bits_by_make) => `(tactic| with_reducible assumption)
local macro_rules | `(tactic| walk_at "call ref") => `(tactic| (k_here; (with_reducible show wpAny _ _ (call (Value.ref 42) [Value.int _ _, Value.int _ _]) _ _ _); k_dflt (refine' frac_use ?k1 ?k2 ?k3 ?k4 ?k5 ?k6 ?k7 ?k8 ?k9 ?k10 ?k11 ?k12 ?k13 ?_; (case k1 => k_asm); (case k2 => k_asm); (case k3 => k_asm); (case k4 => k_asm); (case k5 => k_asm); (case k6 => first | exact rfl | assumption); (case k7 => ktr_room); (case k8 => ktr_units); (case k10 => bits_by_make); (case k11 => bits_by_make); (case k12 => decide); (case k13 => decide); (case k9 => first | exact nzden _ | omega | ((try k_fmods); omega) | (refine nzmul ?_ ?_ <;> first | exact nzden _ | omega)); k_whole); intro r' D' t' u' c' h' tk' rE' rN' rD' F' N' l1; (try k_lt l1); (try k_sweep)))
local macro_rules | `(tactic| walk_at "setItem ref int") => `(tactic| (k_here; (with_reducible show wpAny _ _ (setItem (Value.ref _) (Value.int _ _) (Value.ref _)) _ _ _); k_dflt (refine' set_at ?k1 ?k2 ?k3 ?k4 ?k5 ?k6 ?_; (case k1 => k_asm); (case k2 => k_asm); (case k3 => k_upd); (case k4 => (k_fmods; omega)); (case k5 => (k_fmods; (try simp only [List.length_cons, List.length_nil]); omega)); (case k6 => (k_fmods; omega)); k_whole); intro h' F' N'; (try k_sweep)))
local macro_rules | `(tactic| walk_at "subscriptTail") => `(tactic| (k_here; (with_reducible show wpAny _ _ (subscriptTail _ _ (Value.ref _) (Value.int (Int.fmod _ 24) _)) _ _ _); k_dflt (refine' kim_list ?k1 ?k2 ?k3 ?k4 ?k5 ?k6 ?k7 ?_ ?k8 ?k9; (case k1 => k_asm); (case k2 => k_mem); (case k3 => exact rfl); (case k4 => exact rfl); (case k5 => (k_fmods; omega)); (case k6 => (k_fmods; omega)); (case k7 => first | exact get_same h_same h_in | exact get_other (n := 24) h_in h_other); (case k8 => with_unfolding_all rfl); (case k9 => (intro _; with_unfolding_all rfl)); k_whole)))
set_option maxRecDepth 100000 in
set_option maxHeartbeats 8000000 in
theorem PySem.Challenge.cw_ui0509_02_holds : PySem.Challenge.rw_ui0509_02.Holds :=
  Mine.hd (by
  k_go0; (all_goals try k_fold); k_steps
  all_goals first
    | exact (no_nought (by assumption) (by decide)).elim
    | (refine ok_bool (e02 (by assumption) (by assumption) (by k_fmods; omega)) ?_; wrow_close))
